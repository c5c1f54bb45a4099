/- The contract of RunFault. -/
import Derived.Test.YtjehmleckcmilaaEdRun
import Derived.Test.YtjehmleckcmilaaPreds
import Derived.Deep.QuietTactic
import Derived.BigQuiet
import Derived.Deep.DeepCutAuto
namespace Go.Proofs.Ytjehmleckcmilaa
open Go.RowKit

/-- by how much the word grows -/
def delta : List Ed → Int
  | [] => 0
  | e :: es => (e.new.length - (e.t - e.f)) + delta es
theorem delta_append (a b : List Ed) : delta (a ++ b) = delta a + delta b := by
  induction a with
  | nil => simp [delta]
  | cons e a ih => simp only [List.cons_append, delta, ih]; omega
theorem delta_take {es : List Ed} {k : Nat} (hk : k < es.length) : delta (es.take (k + 1)) = delta (es.take k) + (es[k].new.length - (es[k].t - es[k].f)) := by
  rw [List.take_succ_eq_append_getElem hk, delta_append]
  simp [delta]
theorem back_delta (w : List Int) : ∀ (es : List Ed) (last : Int), -1 ≤ last → okEds w.length last es = true → ((back w es).length : Int) = w.length + delta es
  | [], _, _, _ => by simp [back, delta]
  | e :: es, last, h0, h => by
    simp [okEds] at h
    obtain ⟨⟨⟨h1, h2⟩, h3⟩, h4⟩ := h
    have ih := back_delta w es e.t (by omega) h4
    have hb : back w (e :: es) = edited (back w es) e.f.toNat e.t.toNat e.new := rfl
    have hl := back_len h4 (by omega) h3
    rw [hb]
    simp [edited, delta]
    omega

set_option maxHeartbeats 4000000 in
set_option maxRecDepth 100000 in
theorem runFault (a : Option Addr) (ca : Nat) (L : List Int) (b : Option Addr) (cb : Nat) (es : List Ed) (w : World) (hl : Sl w (.slice a L.length ca) (ints L)) (ho : Rd AnyB w (.sl (es.map Ed.d)) [.slice b es.length cb]) (hT : L.length + newSum es ≤ 8388608) (hE : es.length ≤ 8388608) :
    Calls Try.prog 39 #[.slice a L.length ca, .slice b es.length cb] w (fun e w' => e = .returned (.int .i64 (runErr L es)) ∧ Below w.heap.size w w') := by
  have HL := Lib.hid hl
  have HO := Lib.hid ho
  have hc := hl.len.2
  have hco := ho.bounds.2
  unfold maxLen at hc hco
  obtain ⟨hc1, hc2⟩ := hc
  obtain ⟨hco1, hco2⟩ := hco
  obtain ⟨n, HN⟩ := nameIt L.length
  obtain ⟨m, HM⟩ := nameIt es.length
  obtain ⟨sm, HSM⟩ := nameIt (newSum es)
  rw [HN.out] at hc1 HL hT
  rw [HSM.out] at hT
  rw [HM.out] at hco1 HO hE
  rw [HN.out, HM.out]
  have HR0 : Hid (okEds n (-1) es = okEds n (-1) (es.drop 0)) := by show _ = _; simp
  have HD0 : Hid ((n : Int) = n + delta (es.take 0)) := by show _ = _; simp [delta]
  clear hl ho
  go_enter Try.func39, Try.ntmps39
  go_wp2_with fail
  go_loopg [5, 12] m (fun gg v5 v12 wr => ∃ (k : Nat) (la nn : Int), k ≤ m ∧ m - k ≤ gg ∧ v12 = .int .i64 k ∧ v5 = .int .i64 nn ∧ -(8388608 * (k : Int)) ≤ nn ∧ nn ≤ 8388608 * ((k : Int) + 1) ∧ -1 ≤ la ∧ (0 < k → 0 ≤ la) ∧ (k = 0 → la = -1) ∧ Hid (∀ j (hj : j < es.length), k = j + 1 → es[j].t = la) ∧ Hid (okEds n (-1) es = okEds n la (es.drop k)) ∧ Hid (nn = n + delta (es.take k)) ∧ Hid (Below w.heap.size w wr))
  case atStart => exact ⟨0, -1, n, by omega, by omega, rfl, rfl, by omega, by omega, by omega, by omega, fun _ => rfl, Lib.hid (fun j _ h => by omega), HR0, HD0, Below.refl _ _⟩
  case round =>
    obtain ⟨k, la, nn, hk, hg, rfl, rfl, hn1, hn2, hla, hla1, hla0, HPR, HOK, HD, HB⟩ := hrel
    by_cases hlt : k < m
    · have hlt' : (k : Int) < (m : Int) := by omega
      have hko : k < es.length := by rw [HM.out]; exact hlt
      obtain ⟨bo, off, u, hae, -, hbl, e0, e1, e2, hu⟩ := Rd.ed_at (HO.out.below HB.out) hko
      have HST := Lib.hid (okEds_step n la hko)
      have HDT := Lib.hid (delta_take hko)
      have hnm := newSum_mem hko
      rw [HSM.out] at hnm
      obtain ⟨o, HOO⟩ := nameIt (es[k]'hko)
      rw [HOO.out] at e0 e1 hu HST HDT hnm
      obtain ⟨x, HX⟩ := nameIt o.f
      obtain ⟨y, HY⟩ := nameIt o.t
      rw [HX.out] at e0 HST HDT
      rw [HY.out] at e1 HST HDT
      obtain ⟨au, cu, rfl, -, -⟩ := Rd.form hu
      rw [show (o.new.map D.int).length = o.new.length by simp] at e2
      obtain ⟨ku, HKU⟩ := nameIt o.new.length
      rw [HKU.out] at e2 HDT hnm
      clear hu
      subst hae
      have HB1 : Hid (Below w.heap.size w (wr.alloc (.cells #[.int .i64 x, .int .i64 y, .slice au ku cu] 67))) := HB.out.alloc HB.out.size _
      have HPV : Hid (0 < k → ∃ k', k = k' + 1 ∧ (wr.alloc (.cells #[.int .i64 x, .int .i64 y, .slice au ku cu] 67)).cell? ⟨bo, off + k' * 3 + 1, none⟩ = some (.int .i64 la)) := by
        intro h0
        obtain ⟨k', rfl⟩ : ∃ k', k = k' + 1 := ⟨k - 1, by omega⟩
        have hk' : k' < es.length := by omega
        obtain ⟨b', off', u', e', _, _, _, q1, _⟩ := Rd.ed_at (HO.out.below HB1.out) hk'
        cases e'
        rw [HPR.out k' hk' rfl] at q1
        exact ⟨k', rfl, q1⟩
      obtain ⟨w1, HW1⟩ := nameIt (wr.alloc (.cells #[.int .i64 x, .int .i64 y, .slice au ku cu] 67))
      have X1 : Hid (w1.heap[wr.heap.size]? = some (.cells #[.int .i64 x, .int .i64 y, .slice au ku cu] 67 (0, 0))) := by rw [← HW1.out]; exact bx_new _ _ _ rfl
      have hsz1 : wr.heap.size < w1.heap.size := (Array.getElem?_eq_some_iff.1 X1.out).1
      rw [HW1.out] at HB1 HPV
      obtain ⟨s0, s1, s2⟩ := bx_cells3 X1.out
      obtain ⟨bad, HBAD⟩ := nameIt (decide (x ≤ la ∨ y < x ∨ (n : Int) < y))
      go_upto_region 5 with fail
      rw [HW1.out]
      go_cut [48] (fun tt wx => tt = .bool bad ∧ ∃ nq, wx = w1.drewN nq)
      case first =>
        by_cases b0 : x < 0
        · have b0' : decide (x < 0) = true := by simpa using b0
          have HV : Hid (bad = true) := by show _ = _; rw [← HBAD.out]; simp; omega
          go_quiet (fail)
          go_wp2_with fail
          go_meet
          exact ⟨by rw [HV.out], _, rfl⟩
        · have b0' : decide (x < 0) = false := by simpa using b0
          by_cases hk0 : k = 0
          · subst hk0
            have b1' : decide ((0 : Int) < ((0 : Nat) : Int)) = false := by simp
            have la0 := hla0 rfl
            by_cases b2 : y < x
            · have b2' : decide (y < x) = true := by simpa using b2
              have HV : Hid (bad = true) := by show _ = _; rw [← HBAD.out]; simp; omega
              go_quiet (fail)
              go_wp2_with fail
              go_meet
              exact ⟨by rw [HV.out], _, rfl⟩
            · have b2' : decide (y < x) = false := by simpa using b2
              by_cases b3 : (n : Int) < y
              · have b3' : decide ((n : Int) < y) = true := by simpa using b3
                have HV : Hid (bad = true) := by show _ = _; rw [← HBAD.out]; simp; omega
                go_quiet (fail)
                go_wp2_with fail
                go_meet
                exact ⟨by rw [HV.out], _, rfl⟩
              · have b3' : decide ((n : Int) < y) = false := by simpa using b3
                have HV : Hid (bad = false) := by show _ = _; rw [← HBAD.out]; simp; omega
                go_quiet (fail)
                go_wp2_with fail
                go_meet
                exact ⟨by rw [HV.out], _, rfl⟩
          · obtain ⟨k', rfl, q1⟩ := HPV.out (by omega)
            have b1' : decide ((0 : Int) < ((k' + 1 : Nat) : Int)) = true := by simp
            have hwr : ((k' + 1 : Nat) : Int) - 1 = (k' : Int) := by omega
            by_cases b4 : x ≤ la
            · have b4' : decide (x ≤ la) = true := by simpa using b4
              have HV : Hid (bad = true) := by show _ = _; rw [← HBAD.out]; simp; omega
              go_quiet (fail)
              go_wp2_with fail
              go_meet
              exact ⟨by rw [HV.out], _, rfl⟩
            · have b4' : decide (x ≤ la) = false := by simpa using b4
              by_cases b2 : y < x
              · have b2' : decide (y < x) = true := by simpa using b2
                have HV : Hid (bad = true) := by show _ = _; rw [← HBAD.out]; simp; omega
                go_quiet (fail)
                go_wp2_with fail
                go_meet
                exact ⟨by rw [HV.out], _, rfl⟩
              · have b2' : decide (y < x) = false := by simpa using b2
                by_cases b3 : (n : Int) < y
                · have b3' : decide ((n : Int) < y) = true := by simpa using b3
                  have HV : Hid (bad = true) := by show _ = _; rw [← HBAD.out]; simp; omega
                  go_quiet (fail)
                  go_wp2_with fail
                  go_meet
                  exact ⟨by rw [HV.out], _, rfl⟩
                · have b3' : decide ((n : Int) < y) = false := by simpa using b3
                  have HV : Hid (bad = false) := by show _ = _; rw [← HBAD.out]; simp; omega
                  go_quiet (fail)
                  go_wp2_with fail
                  go_meet
                  exact ⟨by rw [HV.out], _, rfl⟩
      case rest =>
        obtain ⟨rfl, nq, hwc⟩ := hcut
        have HB2 : Hid (Below w.heap.size w wc) := by rw [hwc]; exact HB1.out.trans ((below_drewN _ _).mono HB1.out.size)
        have X2 : Hid (wc.heap[wr.heap.size]? = some (.cells #[.int .i64 x, .int .i64 y, .slice au ku cu] 67 (0, 0))) := by rw [hwc]; exact X1.out
        clear hwc s0 s1 s2 e0 e1 e2
        obtain ⟨s0, s1, s2⟩ := bx_cells3 X2.out
        cases bad with
        | true =>
          have HNO : Hid (runErr L es = 1) := by
            show _ = _
            unfold runErr
            have h := HBAD.out
            simp at h
            rw [HN.out, HOK.out, HST.out, if_neg]
            simp
            omega
          go_wp2_with fail
          go_ret
          exact ⟨by rw [HNO.out]; rfl, HB2.out⟩
        | false =>
          have hg3 : la < x ∧ x ≤ y ∧ y ≤ (n : Int) := by
            have h := HBAD.out
            simp at h
            omega
          obtain ⟨g1, g2, g3⟩ := hg3
          have HOK1 : Hid (okEds n (-1) es = okEds n y (es.drop (k + 1))) := by
            show _ = _
            rw [HOK.out, HST.out]
            simp [g1, g2, g3]
          have HD1 : Hid (nn + ((ku : Int) - (y - x)) = n + delta (es.take (k + 1))) := by
            show _ = _
            have h1 := HDT.out
            have h2 := HD.out
            omega
          have HPR1 : Hid (∀ j (hj : j < es.length), k + 1 = j + 1 → es[j].t = y) := by
            intro j hj hjk
            obtain rfl : j = k := by omega
            rw [HOO.out, HY.out]
          go_wp2_with fail
          go_roundg (m - (k + 1))
          case rel => exact ⟨k + 1, y, nn + ((ku : Int) - (y - x)), by omega, by omega, by simp, by simp, by omega, by omega, by omega, by omega, by omega, HPR1, HOK1, HD1, HB2⟩
          case measure => omega
    · have hkm : k = m := by omega
      have HGO : Hid (okEds L.length (-1) es = true) := by
        show _ = _
        rw [HN.out, HOK.out, List.drop_of_length_le (by rw [HM.out]; omega), okEds]
      have hge : ¬ ((k : Int) < (m : Int)) := by omega
      have hbd := back_delta L es (-1) (by omega) HGO.out
      have hd := HD.out
      rw [List.take_of_length_le (by rw [HM.out]; omega)] at hd
      rw [HN.out, ← hd] at hbd
      have HBD := Lib.hid hbd
      clear hbd hd
      by_cases hbig : (2000 : Int) < nn
      · have HER : Hid (runErr L es = 2) := by show _ = _; unfold runErr; rw [if_pos HGO.out, if_pos (by have := HBD.out; omega)]
        go_wp2_with fail
        go_ret
        exact ⟨by rw [HER.out]; rfl, HB.out⟩
      · have HER : Hid (runErr L es = 0) := by show _ = _; unfold runErr; rw [if_pos HGO.out, if_neg (by have := HBD.out; omega)]
        go_wp2_with fail
        go_ret
        exact ⟨by rw [HER.out]; rfl, HB.out⟩
end Go.Proofs.Ytjehmleckcmilaa
