/- The contracts of edit.Script and edit.Distance. -/
import Derived.Test.YtjehmleckcmilaaScriptWalk
namespace Go.Proofs.Ytjehmleckcmilaa
open Go.RowKit

def bigErr (l r : List Int) : Int := if 200 < l.length ∨ 200 < r.length then 2 else 0
def scrOf (l r : List Int) : List Ed := if 200 < l.length ∨ 200 < r.length then [] else scr l r
def distOf (l r : List Int) : Int := if 200 < l.length ∨ 200 < r.length then 0 else cAt l r 0 0
def ScrPost (l r : List Int) (w : World) (e : Ending) (w' : World) : Prop :=
  ∃ v, e = .returned (.tuple #[v, .int .i64 (bigErr l r)]) ∧ Rd AnyB w' (.sl ((scrOf l r).map Ed.d)) [v] ∧ Below w.heap.size w w'
theorem rdNil (w : World) : Rd AnyB w (.sl []) [.slice none 0 0] := ⟨none, 0, [], rfl, by simp, by simp [maxLen], fun _ => rfl, fun i hi => by simp at hi, rfl⟩
theorem ScB.edT {s : Nat} {w2 : World} {fin : List Ed} {ed : Ed} {i g nf cap : Nat} {wr : World} (h : ScB s w2 fin (some ed) i (.slice (some ⟨g, 0, none⟩) (nf + 1) cap) wr) (hn : fin.length = nf) (t : Int) :
    ScB s w2 fin (some ⟨ed.f, t, ed.new⟩) i (.slice (some ⟨g, 0, none⟩) (nf + 1) cap) (wr.setCell ⟨g, nf * 3 + 1, none⟩ (.int .i64 t)) := by
  obtain ⟨h1, h2, h3, ⟨u, h4⟩, h5⟩ := h
  have hg : s + 3 ≤ g := by obtain ⟨xs, ho, _⟩ := h4.own; exact (ho.lt g rfl).1
  refine ⟨bx_other h1 (by omega) _ _, bx_other h2 (by omega) _ _, bx_other h3 (by omega) _ _, ⟨u, by have := h4.setT t; rw [hn] at this; exact this⟩, h5.setCell (by show s ≤ g; omega) _⟩
theorem ScB.app {s : Nat} {w2 : World} {fin : List Ed} {ed : Ed} {i g nf cap nn gz cz : Nat} {wr W0 w' : World} {u : Value} {q : Int} (h : ScB s w2 fin (some ed) i (.slice (some ⟨g, 0, none⟩) (nf + 1) cap) wr) (hn : fin.length = nf) (hu : wr.cell? ⟨g, nf * 3 + 2, none⟩ = some u)
    (hb : Below wr.heap.size wr W0) (ho : w'.ownsRow (s + 3) 3 1 (.slice (some ⟨gz, 0, none⟩) (nn + 1) cz) (nn + 1) (ints ed.new ++ [.int .i64 q])) (hg : W0.grownBy w' u.ownBlock) (hat : u.ownBlock = some gz ∨ gz = W0.heap.size) (hnn : nn = ed.new.length) :
    ScB s w2 fin (some ⟨ed.f, ed.t, ed.new ++ [q]⟩) i (.slice (some ⟨g, 0, none⟩) (nf + 1) cap) (w'.setCell ⟨g, nf * 3 + 2, none⟩ (.slice (some ⟨gz, 0, none⟩) (nn + 1) cz)) ∧ w'.cell? ⟨g, nf * 3 + 2, none⟩ = some u ∧ w'.frozen? ⟨g, nf * 3 + 2, none⟩ = false := by
  obtain ⟨h1, h2, h3, ⟨u', h4⟩, h5⟩ := h
  obtain rfl : u' = u := by
    obtain ⟨g', cap', hv, _, _, _, _, _, _, _, c2, _⟩ := h4.at
    obtain ⟨rfl, -⟩ : g = g' ∧ True := by cases hv; exact ⟨rfl, trivial⟩
    rw [hn, hu] at c2
    simpa using c2.symm
  obtain ⟨k1, k2, k3, k4, k5, k6⟩ := h4.app hb ho hg hat hnn
  rw [hn] at k1 k2 k3
  have hle := h4.le
  have hbk : ∀ k, k < s + 3 → w'.heap[k]? = wr.heap[k]? := fun k hk => (hg.block k (by omega) (fun e => by have := k4 k e.symm; omega)).trans (hb.block k (by omega))
  refine ⟨⟨bx_other ((hbk s (by omega)).trans h1) (by omega) _ _, bx_other ((hbk _ (by omega)).trans h2) (by omega) _ _, bx_other ((hbk _ (by omega)).trans h3) (by omega) _ _, ⟨_, k1⟩, ?_⟩, k2, k3⟩
  exact ((h5.trans (hb.mono (by omega))).grown hg (by omega) (fun k e => by have := k4 k e; omega)).setCell (by show s ≤ g; omega) _

set_option maxHeartbeats 4000000 in
set_option maxRecDepth 100000 in
theorem distanceE (a b : Option Addr) (ca cb : Nat) (l r : List Int) (w : World) (hl : Sl w (.slice a l.length ca) (ints l)) (hr : Sl w (.slice b r.length cb) (ints r)) :
    Calls Try.prog 32 #[.slice a l.length ca, .slice b r.length cb] w (fun e w' => e = .returned (.tuple #[.int .i64 (distOf l r), .int .i64 (bigErr l r)]) ∧ Below w.heap.size w w') := by
  have HCO := Lib.hid (fun h1 h2 => costsE a b ca cb l r w hl hr h1 h2)
  have HER : Hid (bigErr l r = if 200 < l.length ∨ 200 < r.length then 2 else 0) := rfl
  have HDI : Hid (distOf l r = if 200 < l.length ∨ 200 < r.length then 0 else cAt l r 0 0) := rfl
  obtain ⟨n, HN⟩ := nameIt l.length
  obtain ⟨m, HM⟩ := nameIt r.length
  rw [HN.out, HM.out] at HCO HER HDI
  rw [HN.out, HM.out]
  clear hl hr
  go_enter Try.func32, Try.ntmps32
  by_cases hbig : 200 < n ∨ 200 < m
  · have hE := HER.out
    have hD := HDI.out
    rw [if_pos hbig] at hE hD
    rw [hE, hD]
    clear hE hD
    by_cases h1 : 200 < n
    · have h1' : (200 : Int) < (n : Int) := by omega
      go_wp2_with fail
      exact bodyPost_ret (results_tmp2 Try.results32 _ _ _) rfl ⟨rfl, Below.refl _ _⟩
    · have h1' : ¬ (200 : Int) < (n : Int) := by omega
      have h2' : (200 : Int) < (m : Int) := by omega
      go_wp2_with fail
      exact bodyPost_ret (results_tmp2 Try.results32 _ _ _) rfl ⟨rfl, Below.refl _ _⟩
  · have hE := HER.out
    have hD := HDI.out
    rw [if_neg hbig] at hE hD
    rw [hE, hD]
    have h1' : ¬ (200 : Int) < (n : Int) := by omega
    have h2' : ¬ (200 : Int) < (m : Int) := by omega
    have HC := Lib.hid (HCO.out (by omega) (by omega))
    have hn1 : (0 : Int) < (n : Int) + 1 := by omega
    have hm1 : (0 : Int) < (m : Int) + 1 := by omega
    clear hE hD hbig
    go_wp2_with fail
    refine HC.out.mono ?_
    rintro e w2 ⟨bt, rb, rfl, ht, hb2⟩
    have HB2 := Lib.hid hb2
    have h0 := ht.hdr (k := 0) (by omega) (by omega)
    have v00 := ht.cell (k := 0) (j := 0) (by omega) (by omega) (by omega)
    obtain ⟨ri, HRI⟩ := nameIt (rb 0)
    obtain ⟨d, HD⟩ := nameIt (cAt l r 0 0)
    rw [HRI.out] at h0 v00
    rw [HD.out] at v00
    clear ht hb2
    go_wp2_with fail
    exact bodyPost_ret (results_tmp2 Try.results32 _ _ _) rfl ⟨by rw [HD.out]; rfl, HB2.out⟩

theorem cAt_bd {l r : List Int} {i j : Nat} (hi : i ≤ l.length) (hj : j ≤ r.length) : 0 ≤ cAt l r i j ∧ cAt l r i j ≤ l.length + r.length := by
  rw [cAt_lAt hi hj]
  have h := Cs.lc_bd (l.drop i) (r.drop j)
  unfold lAt
  rw [List.length_drop, List.length_drop] at h
  omega

set_option maxHeartbeats 8000000 in
set_option maxRecDepth 100000 in
theorem scriptE (a b : Option Addr) (ca cb : Nat) (l r : List Int) (w : World) (hl : Sl w (.slice a l.length ca) (ints l)) (hr : Sl w (.slice b r.length cb) (ints r)) :
    Calls Try.prog 33 #[.slice a l.length ca, .slice b r.length cb] w (ScrPost l r w) := by
  have HL := Lib.hid hl
  have HR := Lib.hid hr
  have hcl := hl.len.2
  have hcr := hr.len.2
  unfold maxLen at hcl hcr
  obtain ⟨hcl1, hcl2⟩ := hcl
  obtain ⟨hcr1, hcr2⟩ := hcr
  have HCO := Lib.hid (fun h1 h2 => costsE a b ca cb l r w hl hr h1 h2)
  have HER : Hid (bigErr l r = if 200 < l.length ∨ 200 < r.length then 2 else 0) := rfl
  have HSO : Hid (scrOf l r = if 200 < l.length ∨ 200 < r.length then [] else scr l r) := rfl
  have HS0 := Lib.hid (ScrI.start l r)
  have HBD := Lib.hid (fun (i j : Nat) (fin : List Ed) (cur : Option Ed) (h : ScrI l r i j fin cur) h1 h2 => h.bd h1 h2)
  have HDBD := Lib.hid (fun i j (hi : i ≤ l.length) (hj : j ≤ r.length) => cAt_bd (l := l) (r := r) (i := i) (j := j) hi hj)
  obtain ⟨n, HN⟩ := nameIt l.length
  obtain ⟨m, HM⟩ := nameIt r.length
  have HLn := HL.out
  have HRm := HR.out
  rw [HN.out] at HLn hcl1
  rw [HM.out] at HRm hcr1
  have HLN := Lib.hid HLn
  have HRM := Lib.hid HRm
  rw [HN.out, HM.out] at HCO HER HSO HBD HDBD
  rw [HN.out, HM.out]
  obtain ⟨D, HDN⟩ := nameIt (cAt l r)
  rw [HDN.out] at HCO HDBD
  clear hl hr HLn HRm
  go_enter Try.func33, Try.ntmps33
  by_cases hbig : 200 < n ∨ 200 < m
  · have hE := HER.out
    have hD := HSO.out
    rw [if_pos hbig] at hE hD
    have HFIN : Hid (ScrPost l r w (.returned (.tuple #[.slice none 0 0, .int .i64 2])) w) := ⟨_, by rw [hE], by rw [hD]; exact rdNil w, Below.refl _ _⟩
    clear hE hD
    by_cases h1 : 200 < n
    · have h1' : (200 : Int) < (n : Int) := by omega
      go_wp2_with fail
      exact bodyPost_ret (results_tmp2 Try.results33 _ _ _) rfl HFIN.out
    · have h1' : ¬ (200 : Int) < (n : Int) := by omega
      have h2' : (200 : Int) < (m : Int) := by omega
      go_wp2_with fail
      exact bodyPost_ret (results_tmp2 Try.results33 _ _ _) rfl HFIN.out
  · have hE := HER.out
    have hD := HSO.out
    rw [if_neg hbig] at hE hD
    have HFIN : Hid (∀ v W, Rd AnyB W (.sl ((scr l r).map Ed.d)) [v] → Below w.heap.size w W → ScrPost l r w (.returned (.tuple #[v, .int .i64 0])) W) := fun v W h1 h2 => ⟨_, by rw [hE], by rw [hD]; exact h1, h2⟩
    have h1' : ¬ (200 : Int) < (n : Int) := by omega
    have h2' : ¬ (200 : Int) < (m : Int) := by omega
    have hn2 : n ≤ 200 := by omega
    have hm2 : m ≤ 200 := by omega
    have HC := Lib.hid (HCO.out hn2 hm2)
    clear hE hD hbig
    go_wp2_with fail
    refine HC.out.mono ?_
    rintro e w2 ⟨bt, rb, rfl, ht, hb2⟩
    have HT := Lib.hid ht
    have HB2 := Lib.hid hb2
    have HLW := Lib.hid (HLN.out.keep hb2)
    have HRW := Lib.hid (HRM.out.keep hb2)
    obtain ⟨s, HSS⟩ := nameIt w2.heap.size
    have HB0 := Lib.hid (ScB.start w2 HSS.out.symm)
    clear ht hb2 h1' h2'
    go_wp2_with fail
    rw [show w2.heap.size + 1 + 1 = w2.heap.size + 2 from rfl, HSS.out]
    go_loopg [10, 12] (n + m) (fun gg v10 _ wr => ∃ (i j : Nat) (fin : List Ed) (cur : Option Ed) (v : Value), i ≤ n ∧ j ≤ m ∧ (n - i) + (m - j) ≤ gg ∧ v10 = .int .i64 j ∧ Hid (ScrI l r i j fin cur) ∧ Hid (ScB s w2 fin cur i v wr))
    case atStart => exact ⟨0, 0, [], none, _, by omega, by omega, by omega, rfl, HS0, HB0⟩
    case round =>
      clear HB0
      obtain ⟨wo, rfl⟩ : ∃ wo : World, wo = wr := ⟨_, rfl⟩
      obtain ⟨i, j, fin, cur, v, hi, hj, hg, rfl, HS, HK⟩ := hrel
      obtain ⟨ao, no, co, rfl, ho1, ho2⟩ := HK.out.eds.form
      have HBO : Hid (Below w2.heap.size w2 wo) := by rw [HSS.out]; exact HK.out.bel
      unfold maxLen at ho2
      have hi0 : (0 : Int) ≤ (i : Int) := by omega
      have hj0 : (0 : Int) ≤ (j : Int) := by omega
      have ci := bx_cells1 HK.out.ibox
      obtain ⟨eb, HEB⟩ : ∃ eb : Bool, Hid (eb = true ↔ (i < n ∨ j < m)) := ⟨decide (i < n ∨ j < m), by show _ ↔ _; simp⟩
      go_upto_region 8 with fail
      go_cut [34] (fun tt wx => tt = .bool eb ∧ wx = wo)
      case first =>
        by_cases hA : i < n
        · have hi2 : (i : Int) < (n : Int) := by omega
          obtain rfl : eb = true := HEB.out.2 (.inl hA)
          go_wp2_with fail
          go_meet
          exact ⟨rfl, rfl⟩
        · have hi2 : ¬ (i : Int) < (n : Int) := by omega
          by_cases hB : j < m
          · have hj2 : (j : Int) < (m : Int) := by omega
            obtain rfl : eb = true := HEB.out.2 (.inr hB)
            go_wp2_with fail
            go_meet
            exact ⟨rfl, rfl⟩
          · have hj2 : ¬ (j : Int) < (m : Int) := by omega
            obtain rfl : eb = false := by
              cases eb with
              | false => rfl
              | true => have h := HEB.out.1 rfl; omega
            go_wp2_with fail
            go_meet
            exact ⟨rfl, rfl⟩
      case rest =>
        obtain ⟨rfl, rfl⟩ := hcut
        obtain ⟨wo, rfl⟩ : ∃ ww : World, ww = wc := ⟨_, rfl⟩
        cases eb with
        | false =>
          have HDO : Hid (scr l r = fin ++ cur.toList) := HS.out.done (by rw [HN.out, HM.out]; intro h; have := HEB.out.2 h; cases this)
          have cv := bx_cells1 HK.out.vbox
          go_wp2_with fail
          refine bodyPost_ret (results_tmp2 Try.results33 _ _ _) rfl (HFIN.out _ _ ?_ (HB2.out.trans (HBO.out.mono HB2.out.size)))
          rw [HDO.out]
          exact HK.out.eds.rd
        | true =>
          have hend := HEB.out.1 rfl
          have HEN := Lib.hid hend
          clear hend
          obtain ⟨eq, HEQ⟩ : ∃ eq : Bool, Hid (eq = true ↔ (i < l.length ∧ j < r.length ∧ l[i]? = r[j]?)) := ⟨decide (i < l.length ∧ j < r.length ∧ l[i]? = r[j]?), by show _ ↔ _; simp⟩
          go_upto_region 12 with fail
          go_cut [52] (fun tt wx => tt = .bool eq ∧ Hid (Below wo.heap.size wo wx))
          case first =>
            by_cases hA : i < n
            · have hi2 : (i : Int) < (n : Int) := by omega
              by_cases hB : j < m
              · have hj2 : (j : Int) < (m : Int) := by omega
                have hil : i < l.length := by rw [HN.out]; omega
                have hjr : j < r.length := by rw [HM.out]; omega
                obtain ⟨p, HPP⟩ := nameIt (l[i]'hil)
                obtain ⟨q, HQQ⟩ := nameIt (r[j]'hjr)
                obtain ⟨bl, ol, hal, hcl⟩ := (HLW.out.keep HBO.out).at (k := i) hA
                have ea := hcl i (by rw [ints_len]; exact hil)
                rw [ints_get, HPP.out] at ea
                obtain ⟨br, or', har, hcr⟩ := (HRW.out.keep HBO.out).at (k := j) hB
                have eb := hcr j (by rw [ints_len]; exact hjr)
                rw [ints_get, HQQ.out] at eb
                have heq : (p == q) = eq := by
                  have h := HEQ.out
                  rw [List.getElem?_eq_getElem hil, List.getElem?_eq_getElem hjr, HPP.out, HQQ.out] at h
                  cases eq
                  · have : ¬ p = q := fun e => by simpa using h.2 ⟨hil, hjr, by rw [e]⟩
                    simpa using this
                  · have := (h.1 rfl).2.2
                    simpa using this
                subst hal har
                clear hcl hcr
                go_quiet (fail)
                go_wp2_with fail
                go_meet
                exact ⟨rfl, below_drewN _ _⟩
              · have hj2 : ¬ (j : Int) < (m : Int) := by omega
                obtain rfl : eq = false := by
                  cases eq with
                  | false => rfl
                  | true => have h := HEQ.out.1 rfl; rw [HM.out] at h; omega
                go_quiet (fail)
                go_wp2_with fail
                go_meet
                exact ⟨rfl, below_drewN _ _⟩
            · have hi2 : ¬ (i : Int) < (n : Int) := by omega
              obtain rfl : eq = false := by
                cases eq with
                | false => rfl
                | true => have h := HEQ.out.1 rfl; rw [HN.out] at h; omega
              go_quiet (fail)
              go_wp2_with fail
              go_meet
              exact ⟨rfl, below_drewN _ _⟩
          case rest =>
            obtain ⟨rfl, HC1⟩ := hcut
            obtain ⟨w1', rfl⟩ : ∃ ww : World, ww = wc := ⟨_, rfl⟩
            have HK1 := Lib.hid (HK.out.keep HC1.out)
            have HBx1 : Hid (Below w2.heap.size w2 w1') := by rw [HSS.out]; exact HK1.out.bel
            have hle := HK1.out.eds.le
            clear ci
            have ci := bx_cells1 HK1.out.ibox
            have fi := bx_free1 HK1.out.ibox
            cases eq with
            | true =>
              obtain ⟨hA, hB, hlr⟩ := HEQ.out.1 rfl
              have HS1 : Hid (ScrI l r (i + 1) (j + 1) (fin ++ cur.toList) none) := HS.out.keep hA hB (by simpa [hA, hB] using hlr)
              have hA' : i < n := by rw [← HN.out]; exact hA
              have hB' : j < m := by rw [← HM.out]; exact hB
              have co := bx_cells1 HK1.out.obox
              have fo := bx_free1 HK1.out.obox
              have hs1 : ¬ s + 1 = s + 2 := by omega
              have hs2 : ¬ s + 2 = s + 1 := by omega
              have HK2 := Lib.hid (HK1.out.setI (i + 1)).shut
              clear hlr hA hB
              go_wp2_with fail
              go_roundg ((n - (i + 1)) + (m - (j + 1)))
              case measure => omega
              case rel => exact ⟨i + 1, j + 1, fin ++ cur.toList, none, _, by omega, by omega, by omega, by go_num, HS1, Lib.hid (by simpa using HK2.out)⟩
            | false =>
              have HNE : Hid (¬ (i < l.length ∧ j < r.length ∧ l[i]? = r[j]?)) := fun h => by have := HEQ.out.2 h; cases this
              obtain ⟨hf, hfn, hft, hft2⟩ := HBD.out i j fin cur HS.out hn2 hm2
              have HCH := Lib.hid (fun W h => changeE s w2 fin cur i (.slice ao no co) W h hf)
              obtain ⟨ed, HED⟩ := nameIt (cur.getD ⟨i, i, []⟩)
              rw [HED.out] at hfn hft hft2
              obtain ⟨nf, HNF⟩ := nameIt fin.length
              rw [HNF.out] at hf
              obtain ⟨db, HDB⟩ : ∃ db : Bool, Hid (db = true ↔ (i < n ∧ D (i + 1) j + 1 = D i j)) := ⟨decide (i < n ∧ D (i + 1) j + 1 = D i j), by show _ ↔ _; simp⟩
              go_upto_region 14 with fail
              go_cut [78] (fun tt wx => tt = .bool db ∧ Hid (Below w1'.heap.size w1' wx))
              case first =>
                by_cases hA : i < n
                · have hi2 : (i : Int) < (n : Int) := by omega
                  obtain ⟨ri, HRI⟩ := nameIt (rb i)
                  obtain ⟨rj, HRJ⟩ := nameIt (rb (i + 1))
                  obtain ⟨i1, HI1⟩ : ∃ i1 : Nat, Hid (i1 = i + 1) := ⟨_, rfl⟩
                  have hti : IntKind.i64.wrap ((i : Int) + 1) = (i1 : Int) := by rw [IntWalk.i64_in _ (by omega), HI1.out]; omega
                  have hi1b : (i1 : Int) < (n : Int) + 1 := by have := HI1.out; omega
                  have hi1c : (0 : Int) ≤ (i1 : Int) := by omega
                  have hib : (i : Int) < (n : Int) + 1 := by omega
                  have hjb : (j : Int) < (m : Int) + 1 := by omega
                  have htw := HT.out.keep HBx1.out
                  have h0 := htw.hdr (k := i) (by omega) (by omega)
                  have h1 := htw.hdr (k := i + 1) (by omega) (by omega)
                  have v00 := htw.cell (k := i) (j := j) (by omega) (by omega) (by omega)
                  have v10 := htw.cell (k := i + 1) (j := j) (by omega) (by omega) (by omega)
                  have hbb := HDBD.out (i + 1) j (by omega) hj
                  have heq : (D (i + 1) j + 1 == D i j) = db := by
                    have h := HDB.out
                    cases db
                    · have : ¬ D (i + 1) j + 1 = D i j := fun e => by simpa using h.2 ⟨hA, e⟩
                      simpa using this
                    · have := (h.1 rfl).2
                      simpa using this
                  obtain ⟨d00, HD00⟩ := nameIt (D i j)
                  obtain ⟨d10, HD10⟩ := nameIt (D (i + 1) j)
                  rw [HRI.out] at h0
                  rw [HRJ.out, ← HI1.out] at h1
                  rw [HRI.out, HD00.out] at v00
                  rw [HRJ.out, HD10.out] at v10
                  rw [HD00.out, HD10.out] at heq
                  rw [HD10.out] at hbb
                  have hs1 : IntKind.i64.wrap (d10 + 1) = d10 + 1 := IntWalk.i64_in _ (by omega)
                  clear htw
                  go_quiet (fail)
                  go_wp2_with fail
                  go_meet
                  exact ⟨rfl, below_drewN _ _⟩
                · have hi2 : ¬ (i : Int) < (n : Int) := by omega
                  obtain rfl : db = false := by
                    cases db with
                    | false => rfl
                    | true => exact absurd (HDB.out.1 rfl).1 hA
                  go_quiet (fail)
                  go_wp2_with fail
                  go_meet
                  exact ⟨rfl, below_drewN _ _⟩
              case rest =>
                obtain ⟨rfl, HC4⟩ := hcut
                obtain ⟨w4, rfl⟩ : ∃ ww : World, ww = wc := ⟨_, rfl⟩
                have HK4 := Lib.hid (HK1.out.keep HC4.out)
                clear ci fi
                cases db with
                | true =>
                  obtain ⟨hA, hdl⟩ := HDB.out.1 rfl
                  have hil : i < l.length := by rw [HN.out]; exact hA
                  have HS1 : Hid (ScrI l r (i + 1) j fin (some ⟨ed.f, ed.t + 1, ed.new⟩)) := by
                    have h := HS.out.del hil (fun hjr e => HNE.out ⟨hil, hjr, by simp [hil, hjr, e]⟩) (by rw [HDN.out]; exact hdl)
                    rw [HED.out] at h
                    exact h
                  clear hdl
                  go_wp2_with fail
                  refine (HCH.out w4 HK4.out).mono ?_
                  rintro e w5 ⟨g, cap, rfl, hk5⟩
                  rw [HED.out, HNF.out] at hk5
                  rw [HNF.out]
                  have HK5 := Lib.hid hk5
                  obtain ⟨u, hu⟩ := hk5.eds
                  obtain ⟨g', cap', hv, -, -, -, hgl, hug, c0, c1, c2, hfz⟩ := hu.at
                  rw [HNF.out] at hv c0 c1 c2
                  obtain ⟨rfl, rfl⟩ : g = g' ∧ cap = cap' := by simpa using hv
                  have hf1 := hfz (nf * 3 + 1)
                  obtain ⟨et, HET⟩ := nameIt ed.t
                  rw [HET.out] at c1 hft hft2
                  have htt : IntKind.i64.wrap (et + 1) = et + 1 := IntWalk.i64_in _ (by omega)
                  have HK6 := Lib.hid (hk5.edT HNF.out (et + 1))
                  have x6 := HK6.out.ibox
                  have ci := bx_cells1 x6
                  have fi := bx_free1 x6
                  have HK7 := Lib.hid (HK6.out.setI (i + 1))
                  rw [HET.out] at HS1
                  clear hk5 hu hfz hug hv c0 c2 x6
                  go_wp2_with fail
                  go_roundg ((n - (i + 1)) + (m - j))
                  case measure => omega
                  case rel => exact ⟨i + 1, j, fin, some ⟨ed.f, et + 1, ed.new⟩, _, by omega, by omega, by omega, rfl, HS1, Lib.hid (by simpa using HK7.out)⟩
                | false =>
                  have hB : j < m := by
                    by_cases h : j < m
                    · exact h
                    · have hA : i < n := by have := HEN.out; omega
                      have h2 := HDB.out.2 ⟨hA, by rw [← HDN.out]; exact cut_end (by rw [HN.out]; exact hA) (by rw [HM.out]; omega)⟩
                      cases h2
                  have hj2 : (j : Int) < (m : Int) := by omega
                  have hjr : j < r.length := by rw [HM.out]; exact hB
                  have HS1 : Hid (ScrI l r i (j + 1) fin (some ⟨ed.f, ed.t, ed.new ++ [r[j]'hjr]⟩)) := by
                    have h := HS.out.ins hjr (fun hil e => HNE.out ⟨hil, hjr, by simp [hil, hjr, e]⟩) (fun hc => by
                      have h3 := hc.2
                      rw [HDN.out] at h3
                      have h2 := HDB.out.2 ⟨by rw [← HN.out]; exact hc.1, h3⟩
                      cases h2)
                    rw [HED.out] at h
                    exact h
                  obtain ⟨q, HQQ⟩ := nameIt (r[j]'hjr)
                  rw [HQQ.out] at HS1
                  go_wp2_with fail
                  refine (HCH.out w4 HK4.out).mono ?_
                  rintro e w5 ⟨g, cap, rfl, hk5⟩
                  rw [HED.out, HNF.out] at hk5
                  rw [HNF.out]
                  have HK5 := Lib.hid hk5
                  have HBx5 : Hid (Below w2.heap.size w2 w5) := by rw [HSS.out]; exact HK5.out.bel
                  obtain ⟨u, hu⟩ := hk5.eds
                  obtain ⟨g', cap', hv, -, -, -, hgl, hug, c0, c1, c2, hfz⟩ := hu.at
                  rw [HNF.out] at hv c0 c1 c2
                  obtain ⟨rfl, rfl⟩ : g = g' ∧ cap = cap' := by simpa using hv
                  have hf2 := hfz (nf * 3 + 2)
                  obtain ⟨br, or', har, hcr⟩ := (HRW.out.keep HBx5.out).at (k := j) hB
                  have eb := hcr j (by rw [ints_len]; exact hjr)
                  rw [ints_get, HQQ.out] at eb
                  have HNW := Lib.hid hu.new
                  obtain ⟨nn, HNN⟩ := nameIt ed.new.length
                  rw [HNN.out] at HNW hfn
                  obtain ⟨au, cu, hu0, hu1, hu2⟩ := own_len HNW.out
                  subst hu0
                  unfold maxLen at hu2
                  have hle5 := hu.le
                  subst har
                  have HC2 := Lib.hid c2
                  clear hcr hk5 hu hfz hug hv c0 c1
                  go_upto_region 10 with fail
                  go_region_law
                    (first
                      | (refine step_appB elInt (by rfl) _ _ (by rfl) (own_keep HNW.out (by first | exact ((Below.refl _ _).alloc (Nat.le_refl _) _) | exact ((Below.refl _ _).alloc (Nat.le_refl _) _).drew)) (by rfl) (by rfl) (bx_new _ _ _ rfl) (by rfl) (by rfl) (by omega) (by unfold maxLen; omega) (by simp; omega) ?_; intro gz cz wz hoz hgz hatz hlz; obtain ⟨k1, k2, k3⟩ := HK5.out.app HNF.out HC2.out (by first | exact ((Below.refl _ _).alloc (Nat.le_refl _) _) | exact ((Below.refl _ _).alloc (Nat.le_refl _) _).drew) hoz hgz hatz HNN.out.symm; have HOZ := Lib.hid k1; clear k1 hoz hgz hatz hlz c2 hf2)
                      | fail)
                  all_goals
                    go_wp2_with fail
                    go_roundg ((n - i) + (m - (j + 1)))
                    case measure => omega
                    case rel => exact ⟨i, j + 1, fin, some ⟨ed.f, ed.t, ed.new ++ [q]⟩, _, by omega, by omega, by omega, by go_num, HS1, HOZ⟩
end Go.Proofs.Ytjehmleckcmilaa
