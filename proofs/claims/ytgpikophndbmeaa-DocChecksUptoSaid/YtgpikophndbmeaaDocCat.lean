/- parlref4.flattened. -/
import Derived.Test.YtgpikophndbmeaaDocRow
import Derived.Deep.DeepCutAuto
import Derived.Deep.CutBlock
import Derived.Test.YtgpikophndbmeaaRegT
namespace Go.Proofs.Ytgpikophndbmeaa
open Go.RowKit
namespace Dc

theorem kindEq {x y : Int} : (x == y) = decide (x = y) := by rfl
structure FlI (S : Nat → Prop) (w : World) (B : Nat) (L : List Doc) (v : Value) (wr : World) : Prop where
  row : RowD S B 24 4 (L.map Doc.d) v wr
  hB : w.heap.size + 1 ≤ B
  res : wr.heap[w.heap.size]? = some (.cells #[.int .i64 0, .string ⟨#[]⟩, .int .i64 0, .slice none 0 0] 24 (0, 0))
  bel : Below w.heap.size w wr
theorem FlI.keep {S : Nat → Prop} {w : World} {B : Nat} {L : List Doc} {v : Value} {wr w' : World} (h : FlI S w B L v wr) (hb : Below wr.heap.size wr w') : FlI S w B L v w' :=
  ⟨h.row.keep hb, h.hB, bx_keep h.res hb, h.bel.trans (hb.mono h.bel.size)⟩
/-- behind the append of a document, or of some -/
theorem FlI.step {S : Nat → Prop} {w : World} {B : Nat} {L M : List Doc} {v v' : Value} {W0 W1 : World} {xs news : List Value} {n : Nat} (h : FlI S w B L v W0) (hS : ∀ k, S k → k < w.heap.size) (h1 : W0.ownsRow B 24 4 v n xs) (h2 : RdAll (fun k => S k ∧ v.ownBlock ≠ some k) W0 (L.map Doc.d) xs) (hn : n = (L.map Doc.d).length)
    (hp : RdAll S W0 (M.map Doc.d) news) (ho : W1.ownsRow B 24 4 v' (n + (M.map Doc.d).length) (xs ++ news)) (hg : W0.grownBy W1 v.ownBlock) (hat : v'.ownBlock = v.ownBlock ∨ ∃ k, v'.ownBlock = some k ∧ W0.heap.size ≤ k) : FlI S w B (L ++ M) v' W1 := by
  refine ⟨?_, h.hB, ?_, ?_⟩
  · rw [List.map_append]
    exact RowD.step h1 h2 hn hp (fun k hk _ => ⟨hk, fun e => by have := (h1.lt k e).1; have := hS k hk; have := h.hB; omega⟩) h.row.le ho hg hat
  · rw [hg.block _ (by have := h.row.le; have := h.hB; omega) (fun e => by have := (h1.lt _ e.symm).1; have := h.hB; omega)]
    exact h.res
  · exact h.bel.grown hg (by have := h.row.le; have := h.hB; omega) (fun k e => by have := (h1.lt k e).1; have := h.hB; omega)
theorem FlI.set4 {S : Nat → Prop} {w : World} {B : Nat} {o : List Doc} {y : Doc} {g cap n m : Nat} {vk : Value} {cs : List Value} {wr : World} (h : FlI S w B (o ++ [y]) (.slice (some ⟨g, 0, none⟩) n cap) wr) (hl : LastD S B o y g cap n m vk cs wr) (s : ByteArray) :
    FlI S w B (o ++ [.mk 0 s 0 []]) (.slice (some ⟨g, 0, none⟩) n cap) ((((wr.setCell ⟨g, m * 4, none⟩ (.int .i64 0)).setCell ⟨g, m * 4 + 1, none⟩ (.string s)).setCell ⟨g, m * 4 + 2, none⟩ (.int .i64 0)).setCell ⟨g, m * 4 + 3, none⟩ (.slice none 0 0)) := by
  have hgB := hl.hg.1
  have hBB := h.hB
  refine ⟨(hl.set4 s).row, h.hB, ?_, ?_⟩
  · rw [Below.heap_setCell _ _ _ _ (by show w.heap.size ≠ g; omega), Below.heap_setCell _ _ _ _ (by show w.heap.size ≠ g; omega), Below.heap_setCell _ _ _ _ (by show w.heap.size ≠ g; omega), Below.heap_setCell _ _ _ _ (by show w.heap.size ≠ g; omega)]
    exact h.res
  · exact (((h.bel.setCell (by show w.heap.size ≤ g; omega) _).setCell (by show w.heap.size ≤ g; omega) _).setCell (by show w.heap.size ≤ g; omega) _).setCell (by show w.heap.size ≤ g; omega) _
theorem map_len {l : List Doc} : (l.map Doc.d).length = l.length := List.length_map ..
set_option maxHeartbeats 4000000 in
set_option maxRecDepth 100000 in
theorem flattenedE (S : Nat → Prop) (xs : List Doc) (v : Value) (w : World) (hS : ∀ k, S k → k < w.heap.size) (hv : Rd S w (.sl (xs.map Doc.d)) [v]) (hok : ∀ x ∈ xs, okA x) (hN : szL xs ≤ 2000000) :
    Calls Try.prog 26 #[v] w (CatPost S (catD xs) w) := by
  obtain ⟨a, cap, rfl, hc1, hc2⟩ := hv.form
  unfold maxLen at hc2
  obtain ⟨n, HNN⟩ := nameIt (xs.map Doc.d).length
  have HXL : Hid (xs.length = n) := by show _ = _; rw [← HNN.out, List.length_map]
  rw [HNN.out] at hv hc1
  rw [HNN.out]
  have HV := Lib.hid hv
  have HS := Lib.hid hS
  have HFO := Lib.hid (okA_flatL hok)
  have HFN : Hid (szL (flatL xs) ≤ 2000000) := Nat.le_trans (szL_flatL xs) hN
  have HXN : Hid (n ≤ 2000000) := by show _ ≤ _; rw [← HXL.out]; exact Nat.le_trans (len_szL xs) hN
  obtain ⟨w0, HW0⟩ := nameIt (w.alloc (.cells #[.int .i64 0, .string ⟨#[]⟩, .int .i64 0, .slice none 0 0] 24))
  have HI0 : Hid (FlI S w (w.heap.size + 1) (flatL (xs.take 0)) (.slice none 0 0) w0) := by
    rw [← HW0.out]
    exact ⟨RowD.nil _ _ _ _ _ (by simp), Nat.le_refl _, bx_new _ _ _ rfl, (Below.refl _ _).alloc (Nat.le_refl _) _⟩
  obtain ⟨PST, HP⟩ := nameIt (CatPost S (catD xs) w)
  have HFIN : Hid (∀ (d : Doc) u w', catD xs = d → Rd (fun k => S k ∨ w.heap.size ≤ k) w' (.sl (d.kids.map Doc.d)) [u] → Below w.heap.size w w' → PST (.returned (.agg #[.int .i64 d.kind, .string d.txt, .int .i64 d.n, u])) w') := fun d u w' hd h1 h2 => by subst hd; rw [← HP.out]; exact ⟨u, rfl, h1, h2⟩
  rw [HP.out]
  clear hv hok hN hS
  go_enter Try.func26, Try.ntmps26
  go_upto_region 1 with fail
  rw [HW0.out]
  go_wp2_with fail
  go_loopg [3, 12] n (fun gg v3 v12 wr => ∃ i : Nat, i ≤ n ∧ n - i ≤ gg ∧ v12 = .int .i64 i ∧ Hid (FlI S w (w.heap.size + 1) (flatL (xs.take i)) v3 wr))
  case atStart => exact ⟨0, by omega, by omega, rfl, HI0⟩
  case round =>
    clear HI0 HW0
    obtain ⟨i, hi, hg, rfl, HI⟩ := hrel
    obtain ⟨wo, rfl⟩ : ∃ ww : World, ww = wr := ⟨_, rfl⟩
    obtain ⟨L, HL⟩ := nameIt (flatL (xs.take i))
    rw [HL.out] at HI
    obtain ⟨a3, c3, rfl, hr1, hr2, -⟩ := HI.out.row.form
    obtain ⟨k, HK⟩ := nameIt (L.map Doc.d).length
    rw [HK.out] at HI hr1
    rw [HK.out]
    unfold maxLen at hr2
    have HKN : Hid (k + szL (flat1 (xs.getD i (.mk 0 ⟨#[]⟩ 0 []))) ≤ 2000000 ∨ n ≤ i) := by
      by_cases h : i < n
      · refine .inl ?_
        have hx : i < xs.length := by rw [HXL.out]; exact h
        have h1 := flatL_take hx
        have h2 : flatL xs = flatL (xs.take (i + 1)) ++ flatL (xs.drop (i + 1)) := by rw [← flatL_append, List.take_append_drop]
        have h3 := HFN.out
        rw [h2, h1, HL.out, szL_append, szL_append] at h3
        have h4 := len_szL L
        rw [← HK.out, map_len, List.getD_eq_getElem?_getD, List.getElem?_eq_getElem hx]
        show L.length + szL (flat1 xs[i]) ≤ _
        omega
      · exact .inr (by omega)
    by_cases hlt : i < n
    · have hlt' : (i : Int) < (n : Int) := by omega
      have hix : i < xs.length := by rw [HXL.out]; exact hlt
      obtain ⟨b, off, v, hae, hSb, hbl0, j0, j1, j2, j3, hkid⟩ := Rd.kid HV.out hix
      obtain ⟨av, cv, rfl, hd1, hd2⟩ := hkid.form
      have HT : Hid (flatL (xs.take (i + 1)) = L ++ flat1 xs[i]) := by show _ = _; rw [flatL_take hix, HL.out]
      have hkn := HKN.out.resolve_right (by omega)
      rw [List.getD_eq_getElem?_getD, List.getElem?_eq_getElem hix, Option.getD_some] at hkn
      obtain ⟨x, HX⟩ := nameIt (xs[i]'hix)
      rw [HX.out] at j0 j1 j2 j3 hkid HT hkn hd1
      have HFX : Hid (flat1 x = if x.kind = 4 then x.kids else [x]) := rfl
      have HRX := Lib.hid (rd_doc hkid)
      have HKID := Lib.hid hkid
      obtain ⟨nv, HNV⟩ := nameIt (x.kids.map Doc.d).length
      rw [HNV.out] at j3 HKID HRX hd1
      obtain ⟨q0, HQ0⟩ := nameIt x.kind
      obtain ⟨q1, HQ1⟩ := nameIt x.txt
      obtain ⟨q2, HQ2⟩ := nameIt x.n
      rw [HQ0.out] at j0 HFX HRX
      rw [HQ1.out] at j1 HRX
      rw [HQ2.out] at j2 HRX
      have hbl : b < wo.heap.size := Nat.lt_of_lt_of_le hbl0 HI.out.bel.size
      have e0 := (HI.out.bel.cell (p := ⟨b, off + i * 4, none⟩) hbl0).trans j0
      have e1 := (HI.out.bel.cell (p := ⟨b, off + i * 4 + 1, none⟩) hbl0).trans j1
      have e2 := (HI.out.bel.cell (p := ⟨b, off + i * 4 + 2, none⟩) hbl0).trans j2
      have e3 := (HI.out.bel.cell (p := ⟨b, off + i * 4 + 3, none⟩) hbl0).trans j3
      obtain ⟨w2, HW2⟩ := nameIt (wo.alloc (.cells #[.int .i64 q0, .string q1, .int .i64 q2, .slice av nv cv] 24))
      have hb2 : Below wo.heap.size wo w2 := by rw [← HW2.out]; exact (Below.refl _ _).alloc (Nat.le_refl _) _
      have HI2 := Lib.hid (HI.out.keep hb2)
      have hx2 : w2.heap[wo.heap.size]? = some (.cells #[.int .i64 q0, .string q1, .int .i64 q2, .slice av nv cv] 24 (0, 0)) := by rw [← HW2.out]; exact bx_new _ _ _ rfl
      obtain ⟨x0, x1, x2, x3⟩ := bx_cells4d hx2
      obtain ⟨ys, ho, hd⟩ := HI2.out.row.own
      rw [HK.out] at ho
      have HO := Lib.hid ho
      have HD := Lib.hid hd
      have HKD := Lib.hid (HKID.out.below (HI2.out.bel))
      have HRD := Lib.hid (HRX.out.below (HI2.out.bel))
      have hsz2 : w.heap.size + 1 ≤ w2.heap.size := HI2.out.row.le
      subst hae
      clear j0 j1 j2 j3 hkid hx2 hb2 ho hd
      by_cases hk4 : q0 = 4
      · subst hk4
        have hfx : flat1 x = x.kids := by rw [HFX.out, if_pos rfl]
        rw [hfx] at HT hkn
        have hkl : k + nv ≤ 2000000 := by
          have h1 := len_szL x.kids
          have h2 := HNV.out
          rw [map_len] at h2
          omega
        clear hfx HFX
        go_upto_region 5 with fail
        rw [HW2.out]
        go_wp2_with (at_builtin; refine wp_appD elDoc rfl _ _ rfl HO.out rfl HKD.out rfl (docs_cells _) (by rw [HNV.out]; omega) (by rw [HNV.out]; unfold maxLen; omega) (by omega) ?_)
        intro v' w' M hM ho hg2 hat
        have HN := Lib.hid (HI2.out.step HS.out HO.out HD.out HK.out.symm hM (by rw [map_len]; exact ho) hg2 hat)
        obtain ⟨a', c', rfl, -, -⟩ := own_len ho
        rw [← HT.out] at HN
        clear hM ho hg2 hat
        go_wp2_with fail
        go_roundg (n - (i + 1))
        case measure => omega
        case rel => exact ⟨i + 1, by omega, by omega, by go_num, HN⟩
      · have hk4' : (q0 == 4) = false := by simpa using hk4
        have hfx : flat1 x = [x] := by rw [HFX.out, if_neg hk4]
        rw [hfx] at HT hkn
        have hkl : k + 1 ≤ 2000000 := by
          have h1 := len_szL [x]
          simp at h1; omega
        clear hfx HFX
        go_upto_region 5 with fail
        rw [HW2.out]
        go_wp2_with (at_builtin; refine wp_app1at elDoc rfl _ _ rfl HO.out rfl rfl (by simp) rfl rfl (by omega) (by unfold maxLen; omega) (by omega) ?_)
        intro v' w' ho hg2 hat
        have HN := Lib.hid (HI2.out.step (M := [x]) HS.out HO.out HD.out HK.out.symm (RdAll.one HRD.out) ho hg2 hat)
        obtain ⟨a', c', rfl, -, -⟩ := own_len ho
        rw [← HT.out] at HN
        clear ho hg2 hat
        go_wp2_with fail
        go_roundg (n - (i + 1))
        case measure => omega
        case rel => exact ⟨i + 1, by omega, by omega, by go_num, HN⟩
    · have hlt' : ¬ (i : Int) < (n : Int) := by omega
      have HLE : Hid (flatL xs = L) := by show _ = _; rw [← HL.out, List.take_of_length_le (by rw [HXL.out]; omega)]
      have HKL : Hid (L.length = k) := by show _ = _; rw [← HK.out, map_len]
      have hk2 : k ≤ 2000000 := by have := HFN.out; rw [HLE.out] at this; have := len_szL L; have := HKL.out; omega
      rw [HLE.out] at HFO HFN
      have HCD : Hid (catD xs = catOf (gluesL [] L)) := by show _ = _; unfold catD; rw [HLE.out]
      obtain ⟨xs3, ho3, hd3⟩ := HI.out.row.own
      rw [HK.out] at ho3
      have HIL := Lib.hid HI.out.row
      have HI1 : Hid (FlI S w wo.heap.size (gluesL [] (L.take 0)) (.slice none 0 0) wo) := ⟨RowD.nil _ _ _ _ _ (Nat.le_refl _), HI.out.row.le, HI.out.res, HI.out.bel⟩
      clear HL HLE HKN hg ho3 hd3
      go_wp2_with fail
      clear hlt hlt' hi
      go_loopg [4, 30] k (fun gg v4 v30 wr => ∃ j : Nat, j ≤ k ∧ k - j ≤ gg ∧ v30 = .int .i64 j ∧ Hid (FlI S w wo.heap.size (gluesL [] (L.take j)) v4 wr) ∧ Hid (Below wo.heap.size wo wr))
      case atStart => exact ⟨0, by omega, by omega, rfl, HI1, Below.refl _ _⟩
      case round =>
        clear HI1
        obtain ⟨j, hj, hg, rfl, HJ, HB⟩ := hrel
        obtain ⟨wp, rfl⟩ : ∃ ww : World, ww = wr := ⟨_, rfl⟩
        obtain ⟨O, HO⟩ := nameIt (gluesL [] (L.take j))
        rw [HO.out] at HJ
        obtain ⟨a4, c4, rfl, hs1, hs2, -⟩ := HJ.out.row.form
        obtain ⟨kk, HKK⟩ := nameIt (O.map Doc.d).length
        have HKO : Hid (O.length = kk) := by show _ = _; rw [← HKK.out, map_len]
        rw [HKK.out] at HJ hs1
        rw [HKK.out]
        unfold maxLen at hs2
        by_cases hlt : j < k
        · have hlt' : (j : Int) < (k : Int) := by omega
          have hjl : j < L.length := by rw [HKL.out]; exact hlt
          obtain ⟨b, cb, v, hae, hbl, e0, e1, e2, e3, hkid⟩ := RowD.elem (HIL.out.keep HB.out) hjl
          rw [HK.out] at hae
          obtain ⟨rfl, rfl⟩ : a3 = some ⟨b, 0, none⟩ ∧ c3 = cb := by cases hae; exact ⟨rfl, rfl⟩
          obtain ⟨av, cv, rfl, hd1, hd2⟩ := hkid.form
          have hkk : kk ≤ j := by
            have h1 := gluesL_len (L.take j) []
            rw [HO.out, HKO.out] at h1
            simp at h1; omega
          have HT : Hid (gluesL [] (L.take (j + 1)) = glue O L[j]) := by show _ = _; rw [gluesL_take hjl, HO.out]
          have hxo := HFO.out L[j] (List.getElem_mem hjl)
          have HOO : Hid (∀ y ∈ O, okA y) := fun y hy => by rw [← HO.out] at hy; exact gluesL_ok (by simp) (fun z hz => HFO.out z (List.mem_of_mem_take hz)) y hy
          obtain ⟨x, HX⟩ := nameIt (L[j]'hjl)
          rw [HX.out] at e0 e1 e2 e3 hkid HT hd1 hxo
          have HXO := Lib.hid hxo
          have HDB : Hid (dropB x = (decide (x.kind = 0) && x.txt.toList.isEmpty)) := by show _ = _; rw [txE]; rfl
          have HGB : Hid (∀ o y, O = o ++ [y] → glB O x = (decide (x.kind = 0) && (decide (y.kind = 0) && decide (y.txt.size + x.txt.size ≤ 60)))) := fun o y h => by subst h; rw [glB_app]; rfl
          have HG0 : Hid (O = [] → glB O x = false) := fun h => by subst h; rfl
          have HG1 : Hid (x.kind ≠ 0 → glB O x = false) := fun h => by
            rcases List.eq_nil_or_concat O with h1 | ⟨o, y, h1⟩
            · rw [h1]; rfl
            · rw [HGB.out o y (by rw [h1, List.concat_eq_append]), decide_eq_false h]; rfl
          have HXS : Hid (x.kind = 0 → x.txt.size ≤ 60) := fun h => (ok_text ((okA_iff x).1 hxo).1 h).2.2.1
          have HRX := Lib.hid (rd_doc hkid)
          obtain ⟨nv, HNV⟩ := nameIt (x.kids.map Doc.d).length
          rw [HNV.out] at e3 HRX hd1
          obtain ⟨q0, HQ0⟩ := nameIt x.kind
          obtain ⟨q1, HQ1⟩ := nameIt x.txt
          obtain ⟨q2, HQ2⟩ := nameIt x.n
          rw [HQ0.out] at e0 HRX HDB HG1 HXS
          rw [HQ1.out] at e1 HRX HDB HXS
          rw [HQ2.out] at e2 HRX
          simp only [HQ0.out, HQ1.out] at HGB
          obtain ⟨DB, HDN⟩ := nameIt (dropB x)
          obtain ⟨GB, HGN⟩ := nameIt (glB O x)
          rw [HDN.out] at HDB
          rw [HGN.out] at HG0 HG1
          simp only [HGN.out] at HGB
          obtain ⟨w2, HW2⟩ := nameIt (wp.alloc (.cells #[.int .i64 q0, .string q1, .int .i64 q2, .slice av nv cv] 24))
          have hb2 : Below wp.heap.size wp w2 := by rw [← HW2.out]; exact (Below.refl _ _).alloc (Nat.le_refl _) _
          have HJ2 := Lib.hid (HJ.out.keep hb2)
          have HX2 : Hid (w2.heap[wp.heap.size]? = some (.cells #[.int .i64 q0, .string q1, .int .i64 q2, .slice av nv cv] 24 (0, 0))) := by rw [← HW2.out]; exact bx_new _ _ _ rfl
          obtain ⟨x0, x1, x2, x3⟩ := bx_cells4d HX2.out
          have HBW : Hid (Below wo.heap.size wo w2) := HB.out.trans (hb2.mono HB.out.size)
          have HR2 := Lib.hid (HRX.out.below hb2)
          clear hkid hb2 hd1 hxo hae
          go_upto_region 12 with fail
          rw [HW2.out]
          go_upto_region 14 with fail
          go_cut [40] (fun t wx => t = .bool DB ∧ w2 = wx)
          case first =>
            have hdb := HDB.out
            by_cases hq : q0 = 0
            · subst hq
              rw [decide_eq_true rfl, Bool.true_and] at hdb
              have hdb' := hdb.symm
              clear hdb
              go_wp2_with fail
              go_meet
              exact ⟨rfl, rfl⟩
            · rw [decide_eq_false hq, Bool.false_and] at hdb
              subst hdb
              have hq' : (q0 == 0) = false := by simpa using hq
              go_wp2_with fail
              go_meet
              exact ⟨rfl, rfl⟩
          case rest =>
            obtain ⟨rfl, rfl⟩ := hcut
            cases DB with
            | true =>
              have hgl := glue_drop (out := O) HDN.out
              rw [← HT.out] at hgl
              have HJN : Hid (FlI S w wo.heap.size (gluesL [] (L.take (j + 1))) (.slice a4 kk c4) w2) := by rw [hgl]; exact HJ2.out
              clear hgl x0 x1 x2 x3 e0 e1 e2 e3
              go_wp2_with fail
              go_roundg (k - (j + 1))
              case measure => omega
              case rel => exact ⟨j + 1, by omega, by omega, by go_num, HJN, HBW⟩
            | false =>
              go_upto_region 15 with fail
              go_cut [49] (fun t wx => t = .bool GB ∧ Hid (Below w2.heap.size w2 wx))
              case first =>
                clear e0 e1 e2 e3
                by_cases hq : q0 = 0
                · subst hq
                  rcases List.eq_nil_or_concat O with h1 | ⟨o, y, h1⟩
                  · obtain rfl : GB = false := HG0.out h1
                    obtain rfl : kk = 0 := by rw [← HKO.out, h1]; rfl
                    clear h1
                    go_quiet (fail)
                    go_wp2_with fail
                    go_meet
                    exact ⟨rfl, below_drewN _ _⟩
                  · rw [List.concat_eq_append] at h1
                    obtain ⟨m, HM⟩ := nameIt o.length
                    have hkm : kk = m + 1 := by rw [← HKO.out, h1, List.length_append, HM.out]; rfl
                    have hrow := HJ2.out.row
                    rw [h1] at hrow
                    obtain ⟨g, cg, vk, cs, hv4, hls⟩ := RowD.last hrow HM.out hkm
                    obtain ⟨rfl, rfl⟩ : a4 = some ⟨g, 0, none⟩ ∧ c4 = cg := by cases hv4; exact ⟨rfl, rfl⟩
                    have hgb := HGB.out o y h1
                    have hyo := HOO.out y (by rw [h1]; simp)
                    have hys : y.kind = 0 → y.txt.size ≤ 60 := fun h => (ok_text ((okA_iff y).1 hyo).1 h).2.2.1
                    have hxs := HXS.out rfl
                    obtain ⟨z0, z1, z2, z3⟩ := hls.cells
                    have hw : IntKind.i64.wrap ((kk : Int) - 1) = (m : Int) := by rw [hkm]; rw [IntWalk.i64_in _ (by omega)]; omega
                    have hp : (0 : Int) < (kk : Int) := by omega
                    have hm1 : (m : Int) < (kk : Int) := by omega
                    have hpn : 0 < kk := by omega
                    have hmn : m < kk := by omega
                    have HKM := Lib.hid hkm
                    clear hkm hls hrow hv4 z2 z3 h1 hyo
                    obtain ⟨p0, HP0⟩ := nameIt y.kind
                    obtain ⟨p1, HP1⟩ := nameIt y.txt
                    rw [HP0.out] at z0 hgb hys
                    rw [HP1.out] at z1 hgb hys
                    rw [decide_eq_true rfl, Bool.true_and] at hgb
                    by_cases hp0 : p0 = 0
                    · subst hp0
                      rw [decide_eq_true rfl, Bool.true_and] at hgb
                      have hys' := hys rfl
                      have hadd := fun (W : World) => run_string_add_sum (P := Try.prog) (w := W) p1 q1 (by omega)
                      have hsz : ((p1 ++ q1).size : Int) = (p1.size : Int) + (q1.size : Int) := by rw [size_app]; omega
                      have hgb2 : decide ((p1.size : Int) + (q1.size : Int) ≤ 60) = GB := by rw [hgb]; exact decide_eq_decide.2 (by omega)
                      clear hys hgb
                      go_quiet (fail)
                      go_wp2_with fail
                      go_meet
                      exact ⟨by first | rfl | (rw [← hgb2]) | (rw [hgb2]), below_drewN _ _⟩
                    · rw [decide_eq_false hp0, Bool.false_and] at hgb
                      subst hgb
                      have hp0' : (p0 == 0) = false := by simpa using hp0
                      clear hys
                      go_quiet (fail)
                      go_wp2_with fail
                      go_meet
                      exact ⟨rfl, below_drewN _ _⟩
                · have hq' : (q0 == 0) = false := by simpa using hq
                  obtain rfl := HG1.out hq
                  go_quiet (fail)
                  go_wp2_with fail
                  go_meet
                  exact ⟨rfl, below_drewN _ _⟩
              case rest =>
                obtain ⟨rfl, HBC⟩ := hcut
                obtain ⟨wq, rfl⟩ : ∃ ww : World, ww = wc := ⟨_, rfl⟩
                have HJ3 := Lib.hid (HJ2.out.keep HBC.out)
                have hx3 := bx_keep HX2.out HBC.out
                have HR3 := Lib.hid (HR2.out.below HBC.out)
                have HBQ : Hid (Below wo.heap.size wo wq) := HBW.out.trans (HBC.out.mono HBW.out.size)
                clear x0 x1 x2 x3 HJ2 HX2 HR2 e0 e1 e2 e3
                obtain ⟨x0, x1, x2, x3⟩ := bx_cells4d hx3
                cases GB with
                | false =>
                  have hgl := glue_no HDN.out HGN.out
                  have HT2 : Hid (gluesL [] (L.take (j + 1)) = O ++ [x]) := by show _ = _; rw [HT.out, hgl]
                  obtain ⟨ys, ho, hd⟩ := HJ3.out.row.own
                  rw [HKK.out] at ho
                  have HO3 := Lib.hid ho
                  have HD3 := Lib.hid hd
                  have hsz3 : wo.heap.size ≤ wq.heap.size := HJ3.out.row.le
                  clear ho hd hgl hx3
                  go_wp2_with (at_builtin; refine wp_app1at elDoc rfl _ _ rfl HO3.out rfl rfl (by simp) rfl rfl (by omega) (by unfold maxLen; omega) (by omega) ?_)
                  intro v' w' ho hg2 hat
                  have HN := Lib.hid (HJ3.out.step (M := [x]) HS.out HO3.out HD3.out HKK.out.symm (RdAll.one HR3.out) ho hg2 hat)
                  obtain ⟨a', c', rfl, -, -⟩ := own_len ho
                  rw [← HT2.out] at HN
                  have HBN : Hid (Below wo.heap.size wo w') := HBQ.out.grown hg2 (by have := HBQ.out.size; omega) (fun k e => by have := (HO3.out.lt k e).1; omega)
                  clear ho hg2 hat
                  go_wp2_with fail
                  go_roundg (k - (j + 1))
                  case measure => omega
                  case rel => exact ⟨j + 1, by omega, by omega, by go_num, HN, HBN⟩
                | true =>
                  obtain ⟨o, y, h1, hgy, hgl⟩ := glue_yes HDN.out HGN.out
                  obtain ⟨m, HM⟩ := nameIt o.length
                  have hkm : kk = m + 1 := by rw [← HKO.out, h1, List.length_append, HM.out]; rfl
                  have hg1 := (glue1_ok (HOO.out y (by rw [h1]; simp)) HXO.out hgy).1
                  rw [hg1, HQ1.out] at hgl
                  have hj3 := HJ3.out
                  rw [h1] at hj3
                  obtain ⟨g, cg, vk, cs, hv4, hls⟩ := RowD.last hj3.row HM.out hkm
                  obtain ⟨rfl, rfl⟩ : a4 = some ⟨g, 0, none⟩ ∧ c4 = cg := by cases hv4; exact ⟨rfl, rfl⟩
                  obtain ⟨z0, z1, z2, z3⟩ := hls.cells
                  have HLS := Lib.hid hls
                  have HJ4 := Lib.hid hj3
                  have HGT : Hid (gluesL [] (L.take (j + 1)) = o ++ [.mk 0 (y.txt ++ q1) 0 []]) := by show _ = _; rw [HT.out, hgl]
                  have hss : y.txt.size + q1.size ≤ 60 := by
                    unfold glueB at hgy
                    rw [HQ1.out] at hgy
                    simp at hgy
                    exact hgy.2.2
                  have hw : IntKind.i64.wrap ((kk : Int) - 1) = (m : Int) := by rw [hkm]; rw [IntWalk.i64_in _ (by omega)]; omega
                  have hm1 : (m : Int) < (kk : Int) := by omega
                  have hmn : m < kk := by omega
                  obtain ⟨p1, HP1⟩ := nameIt y.txt
                  rw [HP1.out] at z1 hss HGT
                  have hadd := fun (W : World) => run_string_add_sum (P := Try.prog) (w := W) p1 q1 (by omega)
                  have hgl' : g < wq.heap.size := hls.hg.2
                  have i0 := aft_cell z1
                  have i1 := aft_cell x1
                  clear z0 z1 z2 z3 x0 x1 x2 x3 hkm h1 hgy hgl hg1 hj3 hv4 hls hx3
                  go_upto_region 16 with fail
                  refine wp_region_after_tail 14 (by kernel_rfl) (by kernel_rfl) ?_
                  simp only [List.take_succ_cons, List.take_zero, List.drop_succ_cons, List.drop_zero]
                  repeat (go_big_quiet_step (fail))
                  refine wpQuiet_nil ?_
                  rintro w9 ⟨⟨_, hb9⟩, rfl⟩
                  have hls9 := HLS.out.keep hb9
                  have hf0 := hls9.free (m * 4)
                  have hf1 := hls9.free (m * 4 + 1)
                  have hf2 := hls9.free (m * 4 + 2)
                  have hf3 := hls9.free (m * 4 + 3)
                  obtain ⟨z0, z1, z2, z3⟩ := hls9.cells
                  have hgl9 := hls9.hg.2
                  have HN := Lib.hid ((HJ4.out.keep hb9).set4 hls9 (p1 ++ q1))
                  rw [← HGT.out] at HN
                  have HBN : Hid (Below wo.heap.size wo ((((w9.setCell ⟨g, m * 4, none⟩ (.int .i64 0)).setCell ⟨g, m * 4 + 1, none⟩ (.string (p1 ++ q1))).setCell ⟨g, m * 4 + 2, none⟩ (.int .i64 0)).setCell ⟨g, m * 4 + 3, none⟩ (.slice none 0 0))) := by
                    have h := hls9.hg.1
                    exact (((((HBQ.out.trans (hb9.mono HBQ.out.size)).setCell h _).setCell h _).setCell h _).setCell h _)
                  clear hls9 hb9 i0 i1
                  go_wp2_with fail
                  go_roundg (k - (j + 1))
                  case measure => omega
                  case rel => exact ⟨j + 1, by omega, by omega, by go_num, HN, HBN⟩
        · have hlt' : ¬ (j : Int) < (k : Int) := by omega
          have HOE : Hid (catD xs = catOf O) := by show _ = _; rw [HCD.out, ← HO.out, List.take_of_length_le (by rw [HKL.out]; omega)]
          obtain ⟨y0, y1, y2, y3⟩ := bx_cells4d HJ.out.res
          obtain ⟨f0, f1, f2, f3⟩ := bx_free4 HJ.out.res
          have hrl := (Array.getElem?_eq_some_iff.1 HJ.out.res).1
          have HST : Hid (∀ (c0 : Int) (c1 : ByteArray) (c2 : Int) (c3 : Value), wp.grownBy ((((wp.setCell ⟨w.heap.size, 0, none⟩ (.int .i64 c0)).setCell ⟨w.heap.size, 1, none⟩ (.string c1)).setCell ⟨w.heap.size, 2, none⟩ (.int .i64 c2)).setCell ⟨w.heap.size, 3, none⟩ c3) (some w.heap.size) ∧ Below w.heap.size w ((((wp.setCell ⟨w.heap.size, 0, none⟩ (.int .i64 c0)).setCell ⟨w.heap.size, 1, none⟩ (.string c1)).setCell ⟨w.heap.size, 2, none⟩ (.int .i64 c2)).setCell ⟨w.heap.size, 3, none⟩ c3)) := fun c0 c1 c2 c3 =>
            ⟨grown_trans (grown_trans (grown_trans (grown_cell _ _ _) (grown_cell _ _ _)) (grown_cell _ _ _)) (grown_cell _ _ _), (((HJ.out.bel.setCell (Nat.le_refl _) _).setCell (Nat.le_refl _) _).setCell (Nat.le_refl _) _).setCell (Nat.le_refl _) _⟩
          by_cases hk1 : kk = 1
          · obtain ⟨x, hOx⟩ := List.length_eq_one_iff.1 (HKO.out.trans hk1)
            have h0l : 0 < O.length := by rw [hOx]; simp
            have hx0 : O[0] = x := by simp [hOx]
            obtain ⟨g, cg, v, hae, hbl, e0, e1, e2, e3, hkid⟩ := RowD.elem HJ.out.row h0l
            rw [HKK.out] at hae
            obtain ⟨rfl, rfl⟩ : a4 = some ⟨g, 0, none⟩ ∧ c4 = cg := by cases hae; exact ⟨rfl, rfl⟩
            rw [hx0] at e0 e1 e2 hkid
            simp only [Nat.zero_mul, Nat.zero_add] at e0 e1 e2 e3
            obtain ⟨av, cv, rfl, hd1, hd2⟩ := hkid.form
            have hgw : w.heap.size + 1 ≤ g := by
              have h1 := HJ.out.hB
              obtain ⟨ys, ho, _⟩ := HJ.out.row.own
              have h2 := (ho.lt g rfl).1
              omega
            have hne : ¬ g = w.heap.size := by omega
            have hne2 : ¬ w.heap.size = g := by omega
            have HF := Lib.hid (fun w' => HFIN.out x (.slice av (x.kids.map Doc.d).length cv) w' (by rw [HOE.out, hOx, catOf_one]))
            have HKD := Lib.hid hkid
            obtain ⟨nv, HNV⟩ := nameIt (x.kids.map Doc.d).length
            obtain ⟨q0, HQ0⟩ := nameIt x.kind
            obtain ⟨q1, HQ1⟩ := nameIt x.txt
            obtain ⟨q2, HQ2⟩ := nameIt x.n
            rw [HNV.out] at e3 HF HKD
            rw [HQ0.out] at e0 HF
            rw [HQ1.out] at e1 HF
            rw [HQ2.out] at e2 HF
            subst hk1
            clear hkid hae hx0 hOx h0l
            go_wp2_with fail
            refine bodyPost_ret (v := .agg #[.int .i64 q0, .string q1, .int .i64 q2, .slice av nv cv]) (by simp [results, Try.results26, go_sem, y0, y1, y2, y3]) rfl ?_
            have hst := HST.out q0 q1 q2 (.slice av nv cv)
            refine HF.out _ ?_ hst.2
            exact Rd.keep (fun k hk hlt => ⟨.inl hk, hst.1.block k hlt (fun e => by have := HS.out k hk; simp at e; omega)⟩) _ _ HKD.out
          · have hk1' : ((kk : Int) == 1) = false := by simp; omega
            have hcn := catOf_not (o := O) (by rw [HKO.out]; exact hk1)
            have HF := Lib.hid (fun w' => HFIN.out (.mk 4 ⟨#[]⟩ 0 O) (.slice a4 kk c4) w' (by rw [HOE.out, hcn]))
            obtain ⟨ys, ho, hd⟩ := HJ.out.row.own
            rw [HKK.out] at ho
            have HO5 := Lib.hid ho
            have HD5 := Lib.hid hd
            have HBB := Lib.hid HJ.out.hB
            clear hcn ho hd
            go_wp2_with fail
            refine bodyPost_ret (v := .agg #[.int .i64 4, .string ⟨#[]⟩, .int .i64 0, .slice a4 kk c4]) (by simp [results, Try.results26, go_sem, y0, y1, y2, y3]) rfl ?_
            have hst := HST.out 4 ⟨#[]⟩ 0 (.slice a4 kk c4)
            have hBB := HBB.out
            refine HF.out _ ?_ hst.2
            refine rd_of_own (HO5.out.kept hst.1 (.inr fun e => by have := (HO5.out.lt _ e).1; omega)) (RdAll.keep (fun k hk hlt => ⟨.inl hk.1, hst.1.block k hlt ?_⟩) _ _ HD5.out) HKK.out (fun k e => by have := (HO5.out.lt _ e).1; exact .inr (by omega))
            intro e
            have := HS.out k hk.1
            simp at e; omega
end Dc
end Go.Proofs.Ytgpikophndbmeaa
