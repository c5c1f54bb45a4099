/- The contract of Edits. -/
import Derived.Test.YtjehmleckcmilaaCommonWalk
import Derived.Test.YtjehmleckcmilaaScr
import Derived.Test.YtjehmleckcmilaaEdRow
import Derived.Deep.DeepCutAuto
import Derived.Deep.CutBlock
import Derived.StillTailTactics
namespace Go.Proofs.Ytjehmleckcmilaa
open Go.RowKit

def EdsPost (L : List Ed) (w : World) (e : Ending) (w' : World) : Prop :=
  ∃ v, e = .returned v ∧ Rd AnyB w' (.sl (L.map Ed.d)) [v] ∧ Below w.heap.size w w'

set_option maxHeartbeats 8000000 in
set_option maxRecDepth 100000 in
theorem editsE (a b : Option Addr) (ca cb : Nat) (l r : List Int) (w : World) (hl : Sl w (.slice a l.length ca) (ints l)) (hr : Sl w (.slice b r.length cb) (ints r)) (hl2 : l.length ≤ 200) (hr2 : r.length ≤ 200) :
    Calls Try.prog 35 #[.slice a l.length ca, .slice b r.length cb] w (EdsPost (scr l r) w) := by
  have HL := Lib.hid hl
  have HR := Lib.hid hr
  have hcl := hl.len.2
  have hcr := hr.len.2
  unfold maxLen at hcl hcr
  obtain ⟨hcl1, hcl2⟩ := hcl
  obtain ⟨hcr1, hcr2⟩ := hcr
  have HCM := Lib.hid (commonE a b ca cb l r w hl hr hl2 hr2)
  have HS0 := Lib.hid (ScrI.start l r)
  have HBD := Lib.hid (fun (i j : Nat) (fin : List Ed) (cur : Option Ed) (h : ScrI l r i j fin cur) => h.bd hl2 hr2)
  obtain ⟨n, HN⟩ := nameIt l.length
  obtain ⟨m, HM⟩ := nameIt r.length
  have HLn := HL.out
  have HRm := HR.out
  rw [HN.out] at HLn hcl1 hl2
  rw [HM.out] at HRm hcr1 hr2
  have HLN := Lib.hid HLn
  have HRM := Lib.hid HRm
  rw [HN.out, HM.out] at HCM
  rw [HN.out, HM.out]
  have hnm : IntKind.i64.wrap ((n : Int) + (m : Int)) = (n : Int) + (m : Int) := IntWalk.i64_in _ (by omega)
  obtain ⟨D, HDN⟩ := nameIt (lAt l r)
  rw [HDN.out] at HCM
  clear hl hr HLn HRm
  go_enter Try.func35, Try.ntmps35
  go_wp2_with fail
  refine HCM.out.mono ?_
  rintro e w2 ⟨bt, rb, rfl, ht, hb2⟩
  have HT := Lib.hid ht
  have HB2 := Lib.hid hb2
  have HLW := Lib.hid (HLN.out.keep hb2)
  have HRW := Lib.hid (HRM.out.keep hb2)
  clear ht hb2
  go_wp2_with fail
  go_loopg [6, 7, 8, 9, 10] (n + m) (fun gg v6 v7 v8 v9 _ wr => ∃ (i j : Nat) (fin : List Ed) (cur : Option Ed) (kb : Bool), i ≤ n ∧ j ≤ m ∧ (n - i) + (m - j) ≤ gg ∧ v7 = .bool kb ∧ v8 = .int .i64 i ∧ v9 = .int .i64 j ∧ Hid (kb = cur.isNone) ∧ Hid (ScrI l r i j fin cur) ∧ Hid (EdsR w2.heap.size fin cur v6 wr) ∧ Hid (Below w2.heap.size w2 wr))
  case atStart => exact ⟨0, 0, [], none, true, by omega, by omega, by omega, rfl, rfl, rfl, by show _ = _; rfl, HS0, EdsR.nil _ _ (Nat.le_refl _), Below.refl _ _⟩
  case round =>
    obtain ⟨wo, rfl⟩ : ∃ wo : World, wo = wr := ⟨_, rfl⟩
    obtain ⟨i, j, fin, cur, kb, hi, hj, hg, rfl, rfl, rfl, HKB, HS, HE, HBO⟩ := hrel
    obtain ⟨ao, no, co, rfl, ho1, ho2⟩ := HE.out.form
    unfold maxLen at ho2
    have hij : IntKind.i64.wrap ((i : Int) + (j : Int)) = (i : Int) + (j : Int) := IntWalk.i64_in _ (by omega)
    by_cases hend : i + j < n + m
    · have hend' : (i : Int) + (j : Int) < (n : Int) + (m : Int) := by omega
      have hi0 : (0 : Int) ≤ (i : Int) := by omega
      have hj0 : (0 : Int) ≤ (j : Int) := by omega
      obtain ⟨eq, HEQ⟩ : ∃ eq : Bool, Hid (eq = true ↔ (i < l.length ∧ j < r.length ∧ l[i]? = r[j]?)) := ⟨decide (i < l.length ∧ j < r.length ∧ l[i]? = r[j]?), by show _ ↔ _; simp⟩
      obtain ⟨hf, hfn, hft, hft2⟩ := HBD.out i j fin cur HS.out
      obtain ⟨ed, HED⟩ := nameIt (cur.getD ⟨i, i, []⟩)
      rw [HED.out] at hfn hft hft2
      obtain ⟨nf, HNF⟩ := nameIt fin.length
      rw [HNF.out] at hf
      go_upto_block 2 with fail
      go_cut [6, 7, 8, 9] (fun v6 v7 v8 v9 wx => ∃ g cap u, v6 = .slice (some ⟨g, 0, none⟩) (nf + 1) cap ∧ v7 = .bool false ∧ v8 = .int .i64 i ∧ v9 = .int .i64 j ∧ Hid (¬ (i < l.length ∧ j < r.length ∧ l[i]? = r[j]?)) ∧ Hid (OpenE w2.heap.size fin ed v6 u wx ∧ Below w2.heap.size w2 wx))
      case first =>
        go_upto_region 6 with fail
        go_cut [23] (fun tt wx => tt = .bool eq ∧ Hid (Below wo.heap.size wo wx))
        case first =>
          by_cases hA : i < n
          · have hi2 : (i : Int) < (n : Int) := by omega
            by_cases hB : j < m
            · have hj2 : (j : Int) < (m : Int) := by omega
              have hil : i < l.length := by rw [HN.out]; omega
              have hjr : j < r.length := by rw [HM.out]; omega
              obtain ⟨p, HPP⟩ := nameIt (l[i]'hil)
              obtain ⟨q, HQQ⟩ := nameIt (r[j]'hjr)
              obtain ⟨bl, ol, hal, hcl⟩ := (HLW.out.keep HBO.out).at (k := i) hA
              have ea := hcl i (by rw [ints_len]; exact hil)
              rw [ints_get, HPP.out] at ea
              obtain ⟨br, or', har, hcr⟩ := (HRW.out.keep HBO.out).at (k := j) hB
              have eb := hcr j (by rw [ints_len]; exact hjr)
              rw [ints_get, HQQ.out] at eb
              have heq : (p == q) = eq := by
                have h := HEQ.out
                rw [List.getElem?_eq_getElem hil, List.getElem?_eq_getElem hjr, HPP.out, HQQ.out] at h
                cases eq
                · have : ¬ p = q := fun e => by simpa using h.2 ⟨hil, hjr, by rw [e]⟩
                  simpa using this
                · have := (h.1 rfl).2.2
                  simpa using this
              subst hal har
              clear hcl hcr
              go_quiet (fail)
              go_wp2_with fail
              go_meet
              exact ⟨rfl, below_drewN _ _⟩
            · have hj2 : ¬ (j : Int) < (m : Int) := by omega
              obtain rfl : eq = false := by
                cases eq with
                | false => rfl
                | true => have h := HEQ.out.1 rfl; rw [HM.out] at h; omega
              go_quiet (fail)
              go_wp2_with fail
              go_meet
              exact ⟨rfl, below_drewN _ _⟩
          · have hi2 : ¬ (i : Int) < (n : Int) := by omega
            obtain rfl : eq = false := by
              cases eq with
              | false => rfl
              | true => have h := HEQ.out.1 rfl; rw [HN.out] at h; omega
            go_quiet (fail)
            go_wp2_with fail
            go_meet
            exact ⟨rfl, below_drewN _ _⟩
        case rest =>
          obtain ⟨rfl, HC1⟩ := hcut
          obtain ⟨w1', rfl⟩ : ∃ ww : World, ww = wc := ⟨_, rfl⟩
          have HBx1 : Hid (Below w2.heap.size w2 w1') := HBO.out.trans (HC1.out.mono HBO.out.size)
          have HE1 := Lib.hid (HE.out.keep HC1.out)
          cases eq with
          | true =>
            obtain ⟨hA, hB, hlr⟩ := HEQ.out.1 rfl
            have HS1 : Hid (ScrI l r (i + 1) (j + 1) (fin ++ cur.toList) none) := HS.out.keep hA hB (by simpa [hA, hB] using hlr)
            have hA' : i < n := by rw [← HN.out]; exact hA
            have hB' : j < m := by rw [← HM.out]; exact hB
            clear hlr hA hB
            go_wp2_with fail
            go_roundg ((n - (i + 1)) + (m - (j + 1)))
            case measure => omega
            case rel => exact ⟨i + 1, j + 1, fin ++ cur.toList, none, true, by omega, by omega, by omega, rfl, by go_num, by go_num, by show _ = _; rfl, HS1, HE1.out.close, HBx1⟩
          | false =>
            have HNE : Hid (¬ (i < l.length ∧ j < r.length ∧ l[i]? = r[j]?)) := fun h => by have := HEQ.out.2 h; cases this
            cases cur with
            | some e0 =>
              obtain rfl : kb = false := HKB.out
              obtain ⟨u, hu⟩ := HE1.out
              obtain ⟨g, cap, hv, -⟩ := hu.at
              cases hv
              have HU := Lib.hid hu
              clear hu
              go_wp2_with fail
              go_meet
              case rel => exact ⟨g, _, u, by rw [HNF.out], rfl, rfl, rfl, HNE, by rw [← HED.out]; exact HU.out, HBx1.out⟩
            | none =>
              obtain rfl : kb = true := HKB.out
              obtain ⟨xs, hxo, hxd⟩ := HE1.out.own
              rw [List.length_map, HNF.out] at hxo
              have HXO := Lib.hid hxo
              have HXD := Lib.hid hxd
              have hle := HE1.out.le
              clear hxo hxd
              go_wp2_with (at_builtin; refine wp_app1at elEd rfl _ _ rfl HXO.out rfl rfl (by simp) rfl rfl (by omega) (by unfold maxLen; omega) (by omega) ?_)
              intro v' wz hoz hgz hatz
              have HOZ : Hid (OpenE w2.heap.size fin ed v' (.slice none 0 0) wz) := by
                rw [← HED.out]
                exact openE_new (by rw [HNF.out]; exact HXO.out) HXD.out hle (by rw [HNF.out]; exact hoz) hgz hatz
              have HBZ : Hid (Below w2.heap.size w2 wz) := HBx1.out.grown hgz (by have := HBx1.out.size; omega) (fun k e => (HXO.out.lt k e).1)
              obtain ⟨g, cap, hv, -⟩ := HOZ.out.at
              subst hv
              rw [HNF.out] at HOZ
              rw [HNF.out]
              clear hoz hgz hatz
              go_wp2_with fail
              go_meet
              case rel => exact ⟨g, _, _, rfl, rfl, rfl, rfl, HNE, HOZ.out, HBZ.out⟩
      case rest =>
        obtain ⟨g, cap, u, rfl, rfl, rfl, rfl, HNE, HOB⟩ := hcut
        obtain ⟨w3, rfl⟩ : ∃ ww : World, ww = wc := ⟨_, rfl⟩
        have HO := Lib.hid HOB.out.1
        have HB3 := Lib.hid HOB.out.2
        obtain ⟨g', cap', hv, hc1, hc2, -, hgl, hug, c0, c1, c2, hfz⟩ := HO.out.at
        rw [HNF.out] at hv hc1 c0 c1 c2
        obtain ⟨rfl, rfl⟩ : g = g' ∧ cap = cap' := by simpa using hv
        unfold maxLen at hc2
        have HC012 := Lib.hid (And.intro c1 c2)
        have hf1 := hfz (nf * 3 + 1)
        have hf2 := hfz (nf * 3 + 2)
        have hnfw : IntKind.i64.wrap ((nf : Int) + 1 - 1) = (nf : Int) := by rw [IntWalk.i64_in _ (by omega)]; omega
        have HFF := Lib.hid (And.intro hf1 hf2)
        clear hfz c0 c1 c2 hf1 hf2 hv
        obtain ⟨db, HDB⟩ : ∃ db : Bool, Hid (db = true ↔ (i < n ∧ (j = m ∨ D (i + 1) j = D i j))) := ⟨decide (i < n ∧ (j = m ∨ D (i + 1) j = D i j)), by show _ ↔ _; simp⟩
        go_upto_region 11 with fail
        go_cut [89] (fun tt wx => tt = .bool db ∧ Hid (Below w3.heap.size w3 wx))
        case first =>
          by_cases hA : i < n
          · have hi2 : (i : Int) < (n : Int) := by omega
            by_cases hB : j = m
            · have hj2 : ((j : Int) == (m : Int)) = true := by simp; omega
              obtain rfl : db = true := HDB.out.2 ⟨hA, .inl hB⟩
              clear hB
              go_quiet (fail)
              go_wp2_with fail
              go_meet
              exact ⟨rfl, below_drewN _ _⟩
            · have hj2 : ((j : Int) == (m : Int)) = false := by simp; omega
              obtain ⟨ri, HRI⟩ := nameIt (rb i)
              obtain ⟨rj, HRJ⟩ := nameIt (rb (i + 1))
              obtain ⟨i1, HI1⟩ : ∃ i1 : Nat, Hid (i1 = i + 1) := ⟨_, rfl⟩
              have hti : IntKind.i64.wrap ((i : Int) + 1) = (i1 : Int) := by rw [IntWalk.i64_in _ (by omega), HI1.out]; omega
              have hi1b : (i1 : Int) < (n : Int) + 1 := by have := HI1.out; omega
              have hi1c : (0 : Int) ≤ (i1 : Int) := by omega
              have hib : (i : Int) < (n : Int) + 1 := by omega
              have hjb : (j : Int) < (m : Int) + 1 := by omega
              have htw := HT.out.keep HB3.out
              have h0 := htw.hdr (k := i) (by omega) (by omega)
              have h1 := htw.hdr (k := i + 1) (by omega) (by omega)
              have v00 := htw.cell (k := i) (j := j) (by omega) (by omega) (by omega)
              have v10 := htw.cell (k := i + 1) (j := j) (by omega) (by omega) (by omega)
              have heq : (D (i + 1) j == D i j) = db := by
                have h := HDB.out
                cases db
                · have : ¬ D (i + 1) j = D i j := fun e => by simpa using h.2 ⟨hA, .inr e⟩
                  simpa using this
                · rcases (h.1 rfl).2 with h | h
                  · exact absurd h hB
                  · simpa using h
              obtain ⟨d00, HD00⟩ := nameIt (D i j)
              obtain ⟨d10, HD10⟩ := nameIt (D (i + 1) j)
              rw [HRI.out] at h0
              rw [HRJ.out, ← HI1.out] at h1
              rw [HRI.out, HD00.out] at v00
              rw [HRJ.out, HD10.out] at v10
              rw [HD00.out, HD10.out] at heq
              clear htw hB
              go_quiet (fail)
              go_wp2_with fail
              go_meet
              exact ⟨rfl, below_drewN _ _⟩
          · have hi2 : ¬ (i : Int) < (n : Int) := by omega
            obtain rfl : db = false := by
              cases db with
              | false => rfl
              | true => exact absurd (HDB.out.1 rfl).1 hA
            go_quiet (fail)
            go_wp2_with fail
            go_meet
            exact ⟨rfl, below_drewN _ _⟩
        case rest =>
          obtain ⟨rfl, HC4⟩ := hcut
          obtain ⟨w4, rfl⟩ : ∃ ww : World, ww = wc := ⟨_, rfl⟩
          have HO4 := Lib.hid (HO.out.keep HC4.out)
          have HB4 : Hid (Below w2.heap.size w2 w4) := HB3.out.trans (HC4.out.mono HB3.out.size)
          obtain ⟨g', cap', hv, -, -, -, hgl, hug, c0, c1, c2, hfz⟩ := HO4.out.at
          rw [HNF.out] at hv c0 c1 c2
          obtain ⟨rfl, rfl⟩ : g = g' ∧ cap = cap' := by simpa using hv
          have hf1 := hfz (nf * 3 + 1)
          have hf2 := hfz (nf * 3 + 2)
          have HUG := Lib.hid hug
          clear hfz hv hug
          obtain ⟨et, HET⟩ := nameIt ed.t
          rw [HET.out] at c1 hft hft2
          cases db with
          | true =>
            obtain ⟨hA, hdl⟩ := HDB.out.1 rfl
            have hil : i < l.length := by rw [HN.out]; exact hA
            have HS1 : Hid (ScrI l r (i + 1) j fin (some ⟨ed.f, ed.t + 1, ed.new⟩)) := by
              have h := HS.out.del hil (fun hjr e => HNE.out ⟨hil, hjr, by simp [hil, hjr, e]⟩) ((cut_common hil (by rw [HM.out]; exact hj)).2 (by rw [HM.out, HDN.out]; exact hdl))
              rw [HED.out] at h
              exact h
            have htt : IntKind.i64.wrap (et + 1) = et + 1 := IntWalk.i64_in _ (by omega)
            have HO5 : Hid (OpenE w2.heap.size fin ⟨ed.f, ed.t + 1, ed.new⟩ (.slice (some ⟨g, 0, none⟩) (nf + 1) cap) u (w4.setCell ⟨g, nf * 3 + 1, none⟩ (.int .i64 (et + 1)))) := by
              have h := HO4.out.setT (ed.t + 1)
              rw [HNF.out, HET.out] at h
              rw [HET.out]
              exact h
            have HGB : Hid (w2.heap.size ≤ g) := by
              obtain ⟨xs, ho, _⟩ := HO4.out.own
              exact (ho.lt g rfl).1
            clear hdl
            go_wp2_with fail
            go_roundg ((n - (i + 1)) + (m - j))
            case measure => omega
            case rel => exact ⟨i + 1, j, fin, some ⟨ed.f, ed.t + 1, ed.new⟩, false, by omega, by omega, by omega, rfl, by go_num, rfl, by show _ = _; rfl, HS1, ⟨u, HO5.out⟩, HB4.out.setCell HGB.out _⟩
          | false =>
            have hB : j < m := by
              by_cases h : j < m
              · exact h
              · have h2 := HDB.out.2 ⟨by omega, .inl (by omega)⟩
                cases h2
            have hj2 : (j : Int) < (m : Int) := by omega
            have hjr : j < r.length := by rw [HM.out]; exact hB
            have HS1 : Hid (ScrI l r i (j + 1) fin (some ⟨ed.f, ed.t, ed.new ++ [r[j]'hjr]⟩)) := by
              have h := HS.out.ins hjr (fun hil e => HNE.out ⟨hil, hjr, by simp [hil, hjr, e]⟩) (fun hc => by
                have h3 := (cut_common hc.1 (by rw [HM.out]; exact hj)).1 hc.2
                rw [HM.out, HDN.out] at h3
                have h2 := HDB.out.2 ⟨by rw [← HN.out]; exact hc.1, h3⟩
                cases h2)
              rw [HED.out] at h
              exact h
            obtain ⟨q, HQQ⟩ := nameIt (r[j]'hjr)
            rw [HQQ.out] at HS1
            obtain ⟨br, or', har, hcr⟩ := (HRW.out.keep HB4.out).at (k := j) hB
            have eb := hcr j (by rw [ints_len]; exact hjr)
            rw [ints_get, HQQ.out] at eb
            have HNW := Lib.hid HO4.out.new
            obtain ⟨nn, HNN⟩ := nameIt ed.new.length
            rw [HNN.out] at HNW hfn
            obtain ⟨au, cu, hu, hu1, hu2⟩ := own_len HNW.out
            subst hu
            unfold maxLen at hu2
            have HGB : Hid (w2.heap.size ≤ g) := by
              obtain ⟨xs, ho, _⟩ := HO4.out.own
              exact (ho.lt g rfl).1
            have hle := HO4.out.le
            subst har
            clear hcr
            go_upto_region 14 with fail
            go_region_law
              (first
                | (refine step_appB elInt (by rfl) _ _ (by rfl) (own_keep HNW.out (by first | exact ((Below.refl _ _).alloc (Nat.le_refl _) _) | exact ((Below.refl _ _).alloc (Nat.le_refl _) _).drew)) (by rfl) (by rfl) (bx_new _ _ _ rfl) (by rfl) (by rfl) (by omega) (by unfold maxLen; omega) (by simp; omega) ?_; intro gz cz wz hoz hgz hatz hlz; obtain ⟨k1, k2, k3, k4, k5, k6⟩ := HO4.out.app (by first | exact ((Below.refl _ _).alloc (Nat.le_refl _) _) | exact ((Below.refl _ _).alloc (Nat.le_refl _) _).drew) hoz hgz hatz HNN.out.symm; rw [HNF.out] at k1 k2 k3; have HOZ := Lib.hid k1; have HBZ : Hid (Below w2.heap.size w2 wz) := (HB4.out.alloc HB4.out.size _).drew.grown hgz k5 k4; clear k1 k4 k5 k6 hoz hgz hatz hlz c0 c1 c2 hf1 hf2)
                | fail)
            all_goals
              go_wp2_with fail
              go_roundg ((n - i) + (m - (j + 1)))
              case measure => omega
              case rel => exact ⟨i, j + 1, fin, some ⟨ed.f, ed.t, ed.new ++ [q]⟩, false, by omega, by omega, by omega, rfl, rfl, by go_num, by show _ = _; rfl, HS1, ⟨_, HOZ.out⟩, HBZ.out.setCell HGB.out _⟩
    · have hend' : ¬ (i : Int) + (j : Int) < (n : Int) + (m : Int) := by omega
      have HDO : Hid (scr l r = fin ++ cur.toList) := HS.out.done (by rw [HN.out, HM.out]; omega)
      go_wp2_with fail
      go_ret
      exact ⟨_, rfl, by rw [HDO.out]; exact HE.out.rd, HB2.out.trans (HBO.out.mono HB2.out.size)⟩
end Go.Proofs.Ytjehmleckcmilaa
