/- The contract of Ran. -/
import Derived.Test.YtjehmleckcmilaaEdRun
import Derived.Test.YtjehmleckcmilaaPreds
import Derived.Deep.DeepCutAuto
namespace Go.Proofs.Ytjehmleckcmilaa
open Go.RowKit

theorem Boxed3.ne {W : World} {B : Nat} {x y z : Value} (h : W.heap[B]? = some (.cells #[x, y, z] 67 (0, 0))) {base k : Nat} {v : Value} {xs : List Value} (hr : W.ownsRow base 3 1 v k xs) : some B ≠ v.ownBlock := by
  rcases hr.2 with ⟨rfl, _⟩ | ⟨g, cap, cur, rfl, _, hgb, _⟩
  · simp [Value.ownBlock]
  · intro e'
    obtain rfl : B = g := by simpa [Value.ownBlock] using e'
    have := h.symm.trans hgb
    simp at this
theorem ranAt_step (w : List Int) (p : Nat) {es : List Ed} {k : Nat} (hk : k < es.length) : ranAt w p (es.drop k) = (w.drop p).take (es[k].f.toNat - p) ++ (es[k].new ++ ranAt w es[k].t.toNat (es.drop (k + 1))) := by
  rw [List.drop_eq_getElem_cons hk, ranAt]

set_option maxHeartbeats 4000000 in
set_option maxRecDepth 100000 in
theorem ran (a : Option Addr) (ca : Nat) (L : List Int) (b : Option Addr) (cb : Nat) (es : List Ed) (w : World) (hl : Sl w (.slice a L.length ca) (ints L)) (ho : Rd AnyB w (.sl (es.map Ed.d)) [.slice b es.length cb]) (hT : L.length + newSum es ≤ 8388608) (hE : es.length ≤ 8388608) (hok : okEds L.length (-1) es = true) :
    Calls Try.prog 40 #[.slice a L.length ca, .slice b es.length cb] w (NewInts (back L es) w) := by
  have HL := Lib.hid hl
  have HO := Lib.hid ho
  have hc := hl.len.2
  have hco := ho.bounds.2
  unfold maxLen at hc hco
  obtain ⟨hc1, hc2⟩ := hc
  obtain ⟨hco1, hco2⟩ := hco
  have hbb := back_bound L L.length es (-1) hok
  have hb0 := back_ran L es (-1) 0 hok (by omega) (by omega)
  obtain ⟨X, HX⟩ := nameIt (back L es)
  rw [HX.out] at hbb hb0
  rw [HX.out]
  obtain ⟨n, HN⟩ := nameIt L.length
  obtain ⟨m, HM⟩ := nameIt es.length
  obtain ⟨sm, HSM⟩ := nameIt (newSum es)
  rw [HN.out] at hc1 HL hT hbb hok
  rw [HSM.out] at hT hbb
  rw [HM.out] at hco1 HO hE
  rw [HN.out, HM.out]
  have hx8 : X.length ≤ 8388608 := by omega
  have HOK0 : Hid (okEds n (-1) (es.drop 0) = true) := by show _ = _; simpa using hok
  have HRN0 : Hid (X = [] ++ ranAt L 0 (es.drop 0)) := by show _ = _; simpa using hb0
  clear hl ho hok hb0 hbb
  go_enter Try.func40, Try.ntmps40
  go_wp2_with fail
  go_loopg [5, 6, 11] m (fun gg v5 v6 v11 wr => ∃ (k p : Nat) (la : Int) (out : List Int), k ≤ m ∧ p ≤ n ∧ (p : Int) ≤ la + 1 ∧ m - k ≤ gg ∧ v11 = .int .i64 k ∧ v6 = .int .i64 p ∧ Hid (okEds n la (es.drop k) = true) ∧ Hid (X = out ++ ranAt L p (es.drop k)) ∧ Hid (wr.ownsRow w.heap.size 3 1 v5 out.length (ints out)) ∧ Hid (Below w.heap.size w wr))
  case atStart => exact ⟨0, 0, -1, [], by omega, by omega, by omega, by omega, rfl, rfl, HOK0, HRN0, World.ownsRow_nil _ _ _ _, Below.refl _ _⟩
  case round =>
    obtain ⟨k, p, la, out, hk, hp, hpl, hg, rfl, rfl, HOK, HRN, HOW, HB⟩ := hrel
    obtain ⟨ao, co, rfl, ho1, ho2⟩ := own_len HOW.out
    unfold maxLen at ho2
    have hz := HB.out.size
    by_cases hlt : k < m
    · have hlt' : (k : Int) < (m : Int) := by omega
      have hko : k < es.length := by rw [HM.out]; exact hlt
      obtain ⟨bo, off, u, hae, -, hbl, e0, e1, e2, hu⟩ := Rd.ed_at HO.out hko
      replace e0 := (HB.out.cell (p := ⟨bo, off + k * 3, none⟩) hbl).trans e0
      replace e1 := (HB.out.cell (p := ⟨bo, off + k * 3 + 1, none⟩) hbl).trans e1
      replace e2 := (HB.out.cell (p := ⟨bo, off + k * 3 + 2, none⟩) hbl).trans e2
      have hst := HOK.out
      rw [okEds_step n la hko] at hst
      have hrs := HRN.out
      rw [ranAt_step L p hko] at hrs
      obtain ⟨o, HOO⟩ := nameIt (es[k]'hko)
      rw [HOO.out] at e0 e1 hu hst hrs
      simp at hst
      obtain ⟨⟨⟨h1, h2⟩, h3⟩, h4⟩ := hst
      obtain ⟨x, HXf⟩ := nameIt o.f.toNat
      obtain ⟨y, HYt⟩ := nameIt o.t.toNat
      have ex : o.f = (x : Int) := by rw [← HXf.out]; omega
      have ey : o.t = (y : Int) := by rw [← HYt.out]; omega
      rw [HXf.out, HYt.out] at hrs
      rw [ex] at e0 h1 h2
      rw [ey] at e1 h2 h3 h4
      have HOK1 := Lib.hid h4
      have hpx : p ≤ x := by omega
      have hxy : x ≤ y := by omega
      have hyn : y ≤ n := by omega
      have HNW := Lib.hid (sl_rd hu)
      obtain ⟨au, cu, rfl, -, -⟩ := Rd.form hu
      rw [show (o.new.map D.int).length = o.new.length by simp] at e2 HNW
      have hle : X.length = out.length + ((x - p) + (o.new.length + (ranAt L y (es.drop (k + 1))).length)) := by
        rw [hrs]; simp [HN.out]; omega
      obtain ⟨ku, HKU⟩ := nameIt o.new.length
      rw [HKU.out] at e2 HNW hle
      have HRS := Lib.hid hrs
      clear hu h4 hrs ex ey
      subst hae
      have HB1 : Hid (Below w.heap.size w (wr.alloc (.cells #[.int .i64 x, .int .i64 y, .slice au ku cu] 67))) := HB.out.alloc HB.out.size _
      have HOW1 := Lib.hid (own_keep HOW.out ((Below.refl wr.heap.size wr).alloc (Nat.le_refl _) (.cells #[.int .i64 x, .int .i64 y, .slice au ku cu] 67)))
      obtain ⟨w1, HW1⟩ := nameIt (wr.alloc (.cells #[.int .i64 x, .int .i64 y, .slice au ku cu] 67))
      have X1 : Hid (w1.heap[wr.heap.size]? = some (.cells #[.int .i64 x, .int .i64 y, .slice au ku cu] 67 (0, 0))) := by rw [← HW1.out]; exact bx_new _ _ _ rfl
      have hsz1 : wr.heap.size < w1.heap.size := (Array.getElem?_eq_some_iff.1 X1.out).1
      rw [HW1.out] at HB1 HOW1
      obtain ⟨s0, s1, s2⟩ := bx_cells3 X1.out
      obtain ⟨vs, HVS, HSL⟩ : ∃ vs, Hid (vs = Value.slice (if ca = p then a else a.map fun x => x.add p) (x - p) (ca - p)) ∧ Hid (Sl w1 vs (ints ((L.drop p).take (x - p)))) := by
        refine ⟨_, rfl, ?_⟩
        have e : ints ((L.drop p).take (x - p)) = ((ints L).drop p).take (x - p) := by simp [ints]
        show Sl _ _ _
        rw [e]
        exact (HL.out.keep HB1.out).part hpx (by omega)
      have q1 : (p : Int) ≤ (x : Int) := by omega
      have q2 : (x : Int) ≤ (ca : Int) := by omega
      obtain ⟨lp, HLP⟩ := nameIt ((L.drop p).take (x - p))
      have HLL : Hid (lp.length = x - p) := by show _ = _; rw [← HLP.out]; simp [HN.out]; omega
      rw [HLP.out] at HSL HRS
      have hz1 := HB1.out.size
      go_upto_region 6 with fail
      rw [HW1.out]
      by_cases hcp : ca = p
      · have hx0 : x = p := by omega
        rw [if_pos hcp, hx0, show ca - p = 0 by omega, Nat.sub_self] at HVS
        rw [HVS.out] at HSL
        subst hx0
        subst hcp
        go_wp2_with (at_builtin; refine wp_appS elInt rfl _ _ rfl HOW1.out rfl HSL.out rfl (ints_one lp) (by rw [ints_len, HLL.out]; omega) (by rw [ints_len, HLL.out]; unfold maxLen; omega) hz1 ?_)
        intro v' wz hoz hgz
        rw [ints_len] at hoz
        have HBZ : Hid (Below w.heap.size w wz) := HB1.out.grown hgz (by omega) (fun k e => (HOW1.out.lt k e).1)
        have HOZ : Hid (wz.ownsRow w.heap.size 3 1 v' (out ++ lp).length (ints (out ++ lp))) := by
          show World.ownsRow _ _ _ _ _ _ _
          rw [List.length_append]
          simpa [ints] using hoz
        have XZ : Hid (wz.heap[wr.heap.size]? = some (.cells #[.int .i64 ca, .int .i64 y, .slice au ku cu] 67 (0, 0))) := by
          show _ = _
          rw [hgz.block _ hsz1 (fun e => by have := (HOW.out.lt _ e.symm).2; omega)]; exact X1.out
        have HNWZ : Hid (Sl wz (.slice au ku cu) (ints o.new)) := HNW.out.keep HBZ.out
        obtain ⟨az, cz, rfl, hzl1, hzl2⟩ := own_len HOZ.out
        obtain ⟨u0, u1, u2⟩ := bx_cells3 XZ.out
        have hzz := HBZ.out.size
        have hlo : (out ++ lp).length + ku ≤ 8388608 := by rw [List.length_append, HLL.out]; omega
        clear hoz hgz s0 s1 s2
        obtain ⟨out2, HO2⟩ := nameIt (out ++ lp)
        rw [HO2.out] at HOZ hlo hzl1 ⊢
        go_wp2_with (at_builtin; refine wp_appS elInt rfl _ _ rfl HOZ.out rfl HNWZ.out rfl (ints_one o.new) (by rw [ints_len, HKU.out]; omega) (by rw [ints_len, HKU.out]; unfold maxLen; omega) hzz ?_)
        intro v2 wy hoy hgy
        rw [ints_len] at hoy
        have HBY : Hid (Below w.heap.size w wy) := HBZ.out.grown hgy (by omega) (fun k e => (HOZ.out.lt k e).1)
        have HOY : Hid (wy.ownsRow w.heap.size 3 1 v2 (out2 ++ o.new).length (ints (out2 ++ o.new))) := by
          show World.ownsRow _ _ _ _ _ _ _
          rw [List.length_append]
          simpa [ints] using hoy
        have XY : Hid (wy.heap[wr.heap.size]? = some (.cells #[.int .i64 ca, .int .i64 y, .slice au ku cu] 67 (0, 0))) := by
          show _ = _
          rw [hgy.block _ (by have := (Array.getElem?_eq_some_iff.1 XZ.out).1; exact this) (Boxed3.ne XZ.out HOZ.out)]; exact XZ.out
        have HRY : Hid (X = (out2 ++ o.new) ++ ranAt L y (es.drop (k + 1))) := by
          show _ = _
          rw [HRS.out, ← HO2.out]
          simp
        obtain ⟨ay, cy, rfl, hyl1, hyl2⟩ := own_len HOY.out
        clear u0 u1 u2
        obtain ⟨u0, u1, u2⟩ := bx_cells3 XY.out
        clear hoy hgy
        go_wp2_with fail
        go_roundg (m - (k + 1))
        case measure => omega
        case rel => exact ⟨k + 1, y, y, _, by omega, by omega, by omega, by omega, by go_num, rfl, HOK1, HRY, HOY, HBY⟩
      · rw [if_neg hcp] at HVS
        rw [HVS.out] at HSL
        go_wp2_with (at_builtin; refine wp_appS elInt rfl _ _ rfl HOW1.out rfl HSL.out rfl (ints_one lp) (by rw [ints_len, HLL.out]; omega) (by rw [ints_len, HLL.out]; unfold maxLen; omega) hz1 ?_)
        intro v' wz hoz hgz
        rw [ints_len] at hoz
        have HBZ : Hid (Below w.heap.size w wz) := HB1.out.grown hgz (by omega) (fun k e => (HOW1.out.lt k e).1)
        have HOZ : Hid (wz.ownsRow w.heap.size 3 1 v' (out ++ lp).length (ints (out ++ lp))) := by
          show World.ownsRow _ _ _ _ _ _ _
          rw [List.length_append]
          simpa [ints] using hoz
        have XZ : Hid (wz.heap[wr.heap.size]? = some (.cells #[.int .i64 x, .int .i64 y, .slice au ku cu] 67 (0, 0))) := by
          show _ = _
          rw [hgz.block _ hsz1 (fun e => by have := (HOW.out.lt _ e.symm).2; omega)]; exact X1.out
        have HNWZ : Hid (Sl wz (.slice au ku cu) (ints o.new)) := HNW.out.keep HBZ.out
        obtain ⟨az, cz, rfl, hzl1, hzl2⟩ := own_len HOZ.out
        obtain ⟨u0, u1, u2⟩ := bx_cells3 XZ.out
        have hzz := HBZ.out.size
        have hlo : (out ++ lp).length + ku ≤ 8388608 := by rw [List.length_append, HLL.out]; omega
        clear hoz hgz s0 s1 s2
        obtain ⟨out2, HO2⟩ := nameIt (out ++ lp)
        rw [HO2.out] at HOZ hlo hzl1 ⊢
        go_wp2_with (at_builtin; refine wp_appS elInt rfl _ _ rfl HOZ.out rfl HNWZ.out rfl (ints_one o.new) (by rw [ints_len, HKU.out]; omega) (by rw [ints_len, HKU.out]; unfold maxLen; omega) hzz ?_)
        intro v2 wy hoy hgy
        rw [ints_len] at hoy
        have HBY : Hid (Below w.heap.size w wy) := HBZ.out.grown hgy (by omega) (fun k e => (HOZ.out.lt k e).1)
        have HOY : Hid (wy.ownsRow w.heap.size 3 1 v2 (out2 ++ o.new).length (ints (out2 ++ o.new))) := by
          show World.ownsRow _ _ _ _ _ _ _
          rw [List.length_append]
          simpa [ints] using hoy
        have XY : Hid (wy.heap[wr.heap.size]? = some (.cells #[.int .i64 x, .int .i64 y, .slice au ku cu] 67 (0, 0))) := by
          show _ = _
          rw [hgy.block _ (by have := (Array.getElem?_eq_some_iff.1 XZ.out).1; exact this) (Boxed3.ne XZ.out HOZ.out)]; exact XZ.out
        have HRY : Hid (X = (out2 ++ o.new) ++ ranAt L y (es.drop (k + 1))) := by
          show _ = _
          rw [HRS.out, ← HO2.out]
          simp
        obtain ⟨ay, cy, rfl, hyl1, hyl2⟩ := own_len HOY.out
        clear u0 u1 u2
        obtain ⟨u0, u1, u2⟩ := bx_cells3 XY.out
        clear hoy hgy
        go_wp2_with fail
        go_roundg (m - (k + 1))
        case measure => omega
        case rel => exact ⟨k + 1, y, y, _, by omega, by omega, by omega, by omega, by go_num, rfl, HOK1, HRY, HOY, HBY⟩
    · have hkm : k = m := by omega
      have hge : ¬ ((k : Int) < (m : Int)) := by omega
      have HEX : Hid (X = out ++ L.drop p) := by
        show _ = _
        rw [HRN.out, List.drop_of_length_le (by rw [HM.out]; omega), ranAt]
      obtain ⟨vs, HVS, HSL⟩ : ∃ vs, Hid (vs = Value.slice (if ca = p then a else a.map fun x => x.add p) (n - p) (ca - p)) ∧ Hid (Sl wr vs (ints (L.drop p))) := by
        refine ⟨_, rfl, ?_⟩
        have e : ints (L.drop p) = ((ints L).drop p).take (n - p) := by rw [List.take_of_length_le (by simp [ints, HN.out])]; simp [ints]
        show Sl _ _ _
        rw [e]
        exact (HL.out.keep HB.out).part hp (by omega)
      have q1 : (p : Int) ≤ (n : Int) := by omega
      obtain ⟨lp, HLP⟩ := nameIt (L.drop p)
      have HLL : Hid (lp.length = n - p) := by show _ = _; rw [← HLP.out]; simp [HN.out]
      rw [HLP.out] at HSL HEX
      have hxl : X.length = out.length + (n - p) := by rw [HEX.out, List.length_append, HLL.out]
      by_cases hcp : ca = p
      · have hx0 : n = p := by omega
        rw [if_pos hcp, hx0, show ca - p = 0 by omega, Nat.sub_self] at HVS
        rw [HVS.out] at HSL
        subst hx0
        subst hcp
        go_wp2_with (at_builtin; refine wp_appS elInt rfl _ _ rfl HOW.out rfl HSL.out rfl (ints_one lp) (by rw [ints_len, HLL.out]; omega) (by rw [ints_len, HLL.out]; unfold maxLen; omega) hz ?_)
        intro v' wz hoz hgz
        rw [ints_len] at hoz
        have HBZ : Hid (Below w.heap.size w wz) := HB.out.grown hgz hz (fun k e => (HOW.out.lt k e).1)
        have HOZ : Hid (wz.ownsRow w.heap.size 3 1 v' X.length (ints X)) := by
          show World.ownsRow _ _ _ _ _ _ _
          rw [HEX.out, List.length_append]
          simpa [ints] using hoz
        clear hoz hgz
        obtain ⟨az, cz, rfl, -, -⟩ := own_len HOZ.out
        go_wp2_with fail
        go_ret
        exact newInts_of HOZ.out HBZ.out
      · rw [if_neg hcp] at HVS
        rw [HVS.out] at HSL
        go_wp2_with (at_builtin; refine wp_appS elInt rfl _ _ rfl HOW.out rfl HSL.out rfl (ints_one lp) (by rw [ints_len, HLL.out]; omega) (by rw [ints_len, HLL.out]; unfold maxLen; omega) hz ?_)
        intro v' wz hoz hgz
        rw [ints_len] at hoz
        have HBZ : Hid (Below w.heap.size w wz) := HB.out.grown hgz hz (fun k e => (HOW.out.lt k e).1)
        have HOZ : Hid (wz.ownsRow w.heap.size 3 1 v' X.length (ints X)) := by
          show World.ownsRow _ _ _ _ _ _ _
          rw [HEX.out, List.length_append]
          simpa [ints] using hoz
        clear hoz hgz
        obtain ⟨az, cz, rfl, -, -⟩ := own_len HOZ.out
        go_wp2_with fail
        go_ret
        exact newInts_of HOZ.out HBZ.out
end Go.Proofs.Ytjehmleckcmilaa
