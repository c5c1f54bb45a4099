/- The contract of edit.costs. -/
import Derived.Test.YtjehmleckcmilaaDistWalk
import Derived.Lib.MinMax
import Derived.Deep.LoopGhost
import Derived.Deep.Cut
import Derived.Deep.RegionHeld3
import Derived.Deep.DeepCutAuto
import Derived.Laws.Cover1
namespace Go.Proofs.Ytjehmleckcmilaa
open Go.RowKit

/-- the least cost of turning one list into another by removals and insertions -/
def Cs.cs : List Int → List Int → Int
  | [], r => r.length
  | x :: l, [] => (x :: l).length
  | x :: l, y :: r => if x = y then cs l r else min (cs l (y :: r)) (cs (x :: l) r) + 1
theorem Cs.cs_bd : ∀ (l r : List Int), 0 ≤ cs l r ∧ cs l r ≤ l.length + r.length
  | [], r => by simp [cs]
  | x :: l, [] => by simp [cs]; omega
  | x :: l, y :: r => by
    have h1 := cs_bd l r
    have h2 := cs_bd l (y :: r)
    have h3 := cs_bd (x :: l) r
    rw [cs]
    simp only [List.length_cons] at h1 h2 h3 ⊢
    split <;> omega
def cAt (l r : List Int) (i j : Nat) : Int := Cs.cs (l.drop i) (r.drop j)
theorem cAt_end {l r : List Int} {i j : Nat} (h : l.length ≤ i) : cAt l r i j = ((r.length - j : Nat) : Int) := by
  unfold cAt; rw [List.drop_of_length_le h, Cs.cs]; simp
theorem cAt_last {l r : List Int} {i j : Nat} (h : i < l.length) (hj : r.length ≤ j) : cAt l r i j = ((l.length - i : Nat) : Int) := by
  unfold cAt
  rw [List.drop_of_length_le hj, List.drop_eq_getElem_cons h, Cs.cs]
  simp
theorem cAt_eq {l r : List Int} {i j : Nat} (h : i < l.length) (hj : j < r.length) (he : l[i] = r[j]) : cAt l r i j = cAt l r (i + 1) (j + 1) := by
  unfold cAt
  rw [List.drop_eq_getElem_cons h, List.drop_eq_getElem_cons hj, Cs.cs, if_pos he]
theorem cAt_ne {l r : List Int} {i j : Nat} (h : i < l.length) (hj : j < r.length) (he : l[i] ≠ r[j]) : cAt l r i j = min (cAt l r (i + 1) j) (cAt l r i (j + 1)) + 1 := by
  unfold cAt
  conv => lhs; rw [List.drop_eq_getElem_cons h, List.drop_eq_getElem_cons hj, Cs.cs, if_neg he]
  rw [← List.drop_eq_getElem_cons h, ← List.drop_eq_getElem_cons hj]

structure CRel (w : World) (bt n m : Nat) (D : Nat → Nat → Int) (k : Nat) (wr : World) : Prop where
  tab : ∃ rb, Tab w.heap.size bt n m rb k D wr
  bel : Below w.heap.size w wr
structure CERel (w : World) (bt n m : Nat) (D : Nat → Nat → Int) (i q : Nat) (wr : World) : Prop where
  tab : ∃ rb val, Tab w.heap.size bt n m rb i val wr ∧ (∀ a j, i < a → a ≤ n → j ≤ m → val a j = D a j) ∧ ∀ j, q ≤ j → j ≤ m → val i j = D i j
  bel : Below w.heap.size w wr
/-- one number more -/
theorem CERel.next {w : World} {bt n m : Nat} {D : Nat → Nat → Int} {i j : Nat} {wr : World} {rb : Nat → Nat} {val : Nat → Nat → Int} (ht : Tab w.heap.size bt n m rb i val wr) (h1 : ∀ a j, i < a → a ≤ n → j ≤ m → val a j = D a j) (h2 : ∀ l, j + 1 ≤ l → l ≤ m → val i l = D i l)
    (hb : Below w.heap.size w wr) (hi : i ≤ n) (hj : j ≤ m) {x : Int} (he : x = D i j) : CERel w bt n m D i j (wr.setCell ⟨rb i, j, none⟩ (.int .i64 x)) := by
  have hne := ht.ne i (Nat.le_refl _) hi
  refine ⟨⟨rb, _, ht.set (Nat.le_refl _) hi hj x, fun a l ha hn hl => ?_, fun l hl hm => ?_⟩, hb.setCell (by simp; omega) _⟩
  · simp only [show ¬ (a = i ∧ l = j) from fun h => by omega, if_false]; exact h1 a l ha hn hl
  · by_cases e : l = j
    · subst e; simp [he]
    · simp only [e, and_false, if_false]; exact h2 l (by omega) hm

set_option maxHeartbeats 4000000 in
set_option maxRecDepth 100000 in
theorem costsE (a b : Option Addr) (ca cb : Nat) (l r : List Int) (w : World) (hl : Sl w (.slice a l.length ca) (ints l)) (hr : Sl w (.slice b r.length cb) (ints r)) (hl2 : l.length ≤ 200) (hr2 : r.length ≤ 200) :
    Calls Try.prog 104 #[.slice a l.length ca, .slice b r.length cb] w (DistPost (cAt l r) l.length r.length w) := by
  have HD0 := Lib.hid (fun i j (h : l.length ≤ i) => cAt_end (l := l) (r := r) (i := i) (j := j) h)
  have HD1 := Lib.hid (fun i j (h : i < l.length) (hj : r.length ≤ j) => cAt_last (l := l) (r := r) h hj)
  have HD2 := Lib.hid (fun i j (h : i < l.length) (hj : j < r.length) he => cAt_eq h hj he)
  have HD3 := Lib.hid (fun i j (h : i < l.length) (hj : j < r.length) he => cAt_ne h hj he)
  have HDB : Hid (∀ i j, 0 ≤ cAt l r i j ∧ cAt l r i j ≤ 40000) := by
    intro i j
    have h := Cs.cs_bd (l.drop i) (r.drop j)
    unfold cAt
    rw [List.length_drop, List.length_drop] at h
    omega
  obtain ⟨D, HDN⟩ := nameIt (cAt l r)
  rw [HDN.out] at HD0 HD1 HD2 HD3 HDB
  rw [HDN.out]
  obtain ⟨n, HN⟩ := nameIt l.length
  obtain ⟨m, HM⟩ := nameIt r.length
  rw [HN.out] at hl hl2
  rw [HM.out] at hr hr2
  rw [HN.out, HM.out]
  have hcl := hl.len.2
  have hcr := hr.len.2
  unfold maxLen at hcl hcr
  obtain ⟨hcl1, hcl2⟩ := hcl
  obtain ⟨hcr1, hcr2⟩ := hcr
  have HL := Lib.hid hl
  have HR := Lib.hid hr
  have hmk1 : ∀ W : World, (Instr.makeSlice 49 (.int .i64 ((n : Int) + 1)) (.int .i64 ((n : Int) + 1))).run Try.prog W = .ok (.slice (some ⟨W.heap.size, 0, none⟩) (n + 1) (n + 1)) (W.alloc (.cells (madeCells #[.slice none 0 0] (n + 1)) 22)) := fun W => by
    have := run_make_row' (P := Try.prog) 49 22 (.slice none 0 0) 24 Try.underlying49 (by kernel_rfl) rfl .i64 .i64 (n + 1) (by omega) (by omega) W
    simpa using this
  have hmk2 : ∀ W : World, (Instr.makeSlice 22 (.int .i64 ((m : Int) + 1)) (.int .i64 ((m : Int) + 1))).run Try.prog W = .ok (.slice (some ⟨W.heap.size, 0, none⟩) (m + 1) (m + 1)) (W.alloc (.cells (madeCells #[.int .i64 0] (m + 1)) 3)) := fun W => by
    have := run_make_row' (P := Try.prog) 22 3 (.int .i64 0) 8 Try.underlying22 (by kernel_rfl) rfl .i64 .i64 (m + 1) (by omega) (by omega) W
    simpa using this
  clear hl hr
  obtain ⟨bt, HBT⟩ := nameIt w.heap.size
  have HR0 : Hid (CRel w bt n m D (n + 1) (w.alloc (.cells (madeCells #[.slice none 0 0] (n + 1)) 22))) := by
    rw [← HBT.out]
    exact ⟨⟨fun _ => 0, Tab.none' w (by omega)⟩, (Below.refl _ _).alloc (Nat.le_refl _) _⟩
  go_enter Try.func104, Try.ntmps104
  go_wp2_with fail
  rw [HBT.out]
  go_loopg [6] (n + 1) (fun gg v6 wr => ∃ (k : Nat) (z : Int), v6 = .int .i64 z ∧ Hid (z = (k : Int) - 1) ∧ k ≤ n + 1 ∧ k ≤ gg ∧ Hid (CRel w bt n m D k wr))
  case atStart => exact ⟨n + 1, _, rfl, by show _ = _; omega, by omega, by omega, HR0⟩
  case round =>
    clear HR0
    obtain ⟨wo, rfl⟩ : ∃ wo : World, wo = wr := ⟨_, rfl⟩
    obtain ⟨k, z, rfl, HZ, hk, hg, HR'⟩ := hrel
    cases k with
    | zero =>
      obtain rfl : z = -1 := by have := HZ.out; omega
      obtain ⟨rb, ht⟩ := HR'.out.tab
      go_wp2_with fail
      go_ret
      refine ⟨bt, rb, rfl, ?_, HR'.out.bel⟩
      exact ⟨ht.tb, ht.row, ht.inj, fun k hk hn => ⟨(ht.ne k hk hn).1, by have := (ht.ne k hk hn).2; omega⟩, by have := ht.bB; omega⟩
    | succ i =>
      obtain rfl : z = (i : Int) := by have := HZ.out; omega
      obtain ⟨rb, ht⟩ := HR'.out.tab
      have hbt := ht.lt
      have hbB := ht.bB
      have hio : (i : Int) ≤ (n : Int) := by omega
      have hio2 : (i : Int) < (n : Int) + 1 := by omega
      have hio3 : (0 : Int) ≤ (i : Int) := by omega
      have HI0 : Hid (CERel w bt n m D i (m + 1) ((wo.alloc (.cells (madeCells #[.int .i64 0] (m + 1)) 3)).setCell ⟨bt, i, none⟩ (.slice (some ⟨wo.heap.size, 0, none⟩) (m + 1) (m + 1)))) := by
        have hsz := HR'.out.bel.size
        refine ⟨⟨_, _, ht.add (by omega) (by omega), fun a j ha hn hj => ?_, fun j hj hm => by omega⟩, (HR'.out.bel.alloc hsz _).setCell (by simp; omega) _⟩
        · simp only [show ¬ a = i by omega, if_false]
      obtain ⟨cst, htb1, htb2, -⟩ := ht.tb
      obtain ⟨vc, hc8⟩ : ∃ vc, wo.cell? ⟨bt, i, none⟩ = some vc := ⟨cst[i]'(by omega), by simp [World.cell?, htb1]⟩
      have hf8 : wo.frozen? ⟨bt, i, none⟩ = false := by simp [World.frozen?, htb1]
      have hne8 : ¬ bt = wo.heap.size := by omega
      have hne9 : ¬ wo.heap.size = bt := by omega
      obtain ⟨w1, HW1⟩ := nameIt ((wo.alloc (.cells (madeCells #[.int .i64 0] (m + 1)) 3)).setCell ⟨bt, i, none⟩ (.slice (some ⟨wo.heap.size, 0, none⟩) (m + 1) (m + 1)))
      have hcomm : (wo.setCell ⟨bt, i, none⟩ (.slice (some ⟨wo.heap.size, 0, none⟩) (m + 1) (m + 1))).alloc (.cells (madeCells #[.int .i64 0] (m + 1)) 3) = w1 := by
        rw [← HW1.out]
        simp [go_sem, hbt]
      have HCM := Lib.hid hcomm
      rw [HW1.out] at HI0
      clear htb1 htb2 hcomm
      go_upto_region 6 with fail
      rw [HCM.out]
      clear hc8 hf8 hne8 hne9
      go_wp2_with fail
      go_loopg [7] (m + 1) (fun gg' v7 wr => ∃ (q : Nat) (y : Int), v7 = .int .i64 y ∧ Hid (y = (q : Int) - 1) ∧ q ≤ m + 1 ∧ q ≤ gg' ∧ Hid (CERel w bt n m D i q wr))
      case atStart => exact ⟨m + 1, _, rfl, by show _ = _; omega, by omega, by omega, HI0⟩
      case round =>
        clear HI0
        obtain ⟨q, y, rfl, HY, hq, hgq, HE⟩ := hrel
        cases q with
        | zero =>
          obtain rfl : y = -1 := by have := HY.out; omega
          have HN' : Hid (CRel w bt n m D i wr) := by
            obtain ⟨rb, val, h1, h2, h3⟩ := HE.out.tab
            refine ⟨⟨rb, h1.eq fun a j ha hn hj => ?_⟩, HE.out.bel⟩
            by_cases e : a = i
            · subst e; exact h3 j (by omega) hj
            · exact h2 a j (by omega) hn hj
          go_wp2_with fail
          go_roundg i
          case measure => omega
          case rel => exact ⟨i, _, rfl, by show _ = _; omega, by omega, by omega, HN'⟩
        | succ j =>
          obtain rfl : y = (j : Int) := by have := HY.out; omega
          obtain ⟨rb, val, ht, h2, h3⟩ := HE.out.tab
          have hjo : (j : Int) < (m : Int) + 1 := by omega
          have hjo3 : (0 : Int) ≤ (j : Int) := by omega
          have hne := ht.ne i (Nat.le_refl _) (by omega)
          have hd0 := ht.hdr (k := i) (Nat.le_refl _) (by omega)
          have hs0 := ht.cell (k := i) (j := j) (Nat.le_refl _) (by omega) (by omega)
          have hf0 := ht.free (k := i) (Nat.le_refl _) (by omega) j
          have hrl := ht.rlt (k := i) (Nat.le_refl _) (by omega)
          have HNX := Lib.hid (fun (W : World) (hW : Below wr.heap.size wr W) (x : Int) (he : x = D i j) => CERel.next (ht.keep hW) h2 h3 (HE.out.bel.trans (hW.mono HE.out.bel.size)) (by omega) (by omega) he)
          obtain ⟨ri, HRI⟩ := nameIt (rb i)
          rw [HRI.out] at hne hd0 hs0 hf0 HNX hrl
          obtain ⟨vij, HVIJ⟩ := nameIt (val i j)
          rw [HVIJ.out] at hs0
          have hn1 : ¬ ri = bt := hne.1
          have hn2 : ¬ bt = ri := fun e => hne.1 e.symm
          by_cases hin : i = n
          · subst hin
            have hin' : ((i : Int) == (i : Int)) = true := by simp
            obtain ⟨x, HX⟩ := nameIt (D i j)
            have hdv := HD0.out i j (by rw [HN.out]; omega)
            rw [HX.out, HM.out] at hdv
            have hxb := HDB.out i j
            rw [HX.out] at hxb
            have hs1 : IntKind.i64.wrap ((m : Int) - (j : Int)) = x := by rw [IntWalk.i64_in _ (by omega), hdv]; omega
            clear hdv
            go_wp2_with fail
            go_roundg j
            case measure => omega
            case rel => exact ⟨j, _, rfl, by show _ = _; omega, by omega, by omega, by have := HNX.out _ (Below.refl _ _) x HX.out.symm; exact this⟩
          · have hin' : ((i : Int) == (n : Int)) = false := by simp; omega
            have hiln : i < n := by omega
            obtain ⟨x, HX⟩ := nameIt (D i j)
            have hxb := HDB.out i j
            rw [HX.out] at hxb
            by_cases hjm : j = m
            · subst hjm
              have hjm' : ((j : Int) == (j : Int)) = true := by simp
              have hdv := HD1.out i j (by rw [HN.out]; omega) (by rw [HM.out]; omega)
              rw [HX.out, HN.out] at hdv
              have hs1 : IntKind.i64.wrap ((n : Int) - (i : Int)) = x := by rw [IntWalk.i64_in _ (by omega), hdv]; omega
              clear hdv
              go_wp2_with fail
              go_roundg j
              case measure => omega
              case rel => exact ⟨j, _, rfl, by show _ = _; omega, by omega, by omega, by have := HNX.out _ (Below.refl _ _) x HX.out.symm; exact this⟩
            · have hjm' : ((j : Int) == (m : Int)) = false := by simp; omega
              have hjlm : j < m := by omega
              have hil : i < l.length := by rw [HN.out]; exact hiln
              have hjr : j < r.length := by rw [HM.out]; exact hjlm
              obtain ⟨bl, ol, hal, hcl⟩ := (HL.out.keep HE.out.bel).at hiln
              obtain ⟨br, or', har, hcr⟩ := (HR.out.keep HE.out.bel).at hjlm
              have e1 := hcl i (by rw [ints_len]; exact hil)
              have e2 := hcr j (by rw [ints_len]; exact hjr)
              rw [ints_get] at e1 e2
              obtain ⟨p, HPP⟩ := nameIt (l[i]'hil)
              obtain ⟨q, HQQ⟩ := nameIt (r[j]'hjr)
              rw [HPP.out] at e1
              rw [HQQ.out] at e2
              have hi2 : (i : Int) < (n : Int) := by omega
              have hj2 : (j : Int) < (m : Int) := by omega
              obtain ⟨cb, HCB⟩ := nameIt (p == q)
              have hcb := HCB.out
              have hd1 := ht.hdr (k := i + 1) (by omega) (by omega)
              have hv11 := ht.cell (k := i + 1) (j := j + 1) (by omega) (by omega) (by omega)
              have hv10 := ht.cell (k := i + 1) (j := j) (by omega) (by omega) (by omega)
              have hv01 := ht.cell (k := i) (j := j + 1) (by omega) (by omega) (by omega)
              rw [h2 (i + 1) (j + 1) (by omega) (by omega) (by omega)] at hv11
              rw [h2 (i + 1) j (by omega) (by omega) (by omega)] at hv10
              rw [h3 (j + 1) (by omega) (by omega), HRI.out] at hv01
              have hnr := ht.inj i (i + 1) (Nat.le_refl _) (by omega) (by omega) (by omega)
              have hne1 := ht.ne (i + 1) (by omega) (by omega)
              have hrl1 := ht.rlt (k := i + 1) (by omega) (by omega)
              rw [HRI.out] at hnr
              obtain ⟨rj, HRJ⟩ := nameIt (rb (i + 1))
              rw [HRJ.out] at hd1 hv11 hv10 hnr hne1 hrl1
              have hm1 : ¬ ri = rj := fun e => by have := hnr e; omega
              have hm2 : ¬ rj = ri := fun e => hm1 e.symm
              obtain ⟨d11, HD11⟩ := nameIt (D (i + 1) (j + 1))
              obtain ⟨d10, HD10⟩ := nameIt (D (i + 1) j)
              obtain ⟨d01, HD01⟩ := nameIt (D i (j + 1))
              rw [HD11.out] at hv11
              rw [HD10.out] at hv10
              rw [HD01.out] at hv01
              obtain ⟨i1, HI1⟩ : ∃ i1 : Nat, Hid (i1 = i + 1) := ⟨_, rfl⟩
              obtain ⟨j1, HJ1⟩ : ∃ j1 : Nat, Hid (j1 = j + 1) := ⟨_, rfl⟩
              rw [← HI1.out] at hd1
              rw [← HJ1.out] at hv11 hv01
              have hti : IntKind.i64.wrap ((i : Int) + 1) = (i1 : Int) := by rw [IntWalk.i64_in _ (by omega), HI1.out]; omega
              have htj : IntKind.i64.wrap ((j : Int) + 1) = (j1 : Int) := by rw [IntWalk.i64_in _ (by omega), HJ1.out]; omega
              have hi1b : (i1 : Int) < (n : Int) + 1 := by have := HI1.out; omega
              have hi1c : (0 : Int) ≤ (i1 : Int) := by omega
              have hj1b : (j1 : Int) < (m : Int) + 1 := by have := HJ1.out; omega
              have hj1c : (0 : Int) ≤ (j1 : Int) := by omega
              have hb11 := HDB.out (i + 1) (j + 1)
              have hb10 := HDB.out (i + 1) j
              have hb01 := HDB.out i (j + 1)
              rw [HD11.out] at hb11
              rw [HD10.out] at hb10
              rw [HD01.out] at hb01
              have HE2 := Lib.hid (fun he => HD2.out i j hil hjr he)
              have HE3 := Lib.hid (fun he => HD3.out i j hil hjr he)
              rw [HX.out, HD11.out, HPP.out, HQQ.out] at HE2
              rw [HX.out, HD10.out, HD01.out, HPP.out, HQQ.out] at HE3
              subst hal har
              clear hcl hcr
              go_upto_region 14 with fail
              go_cut [85] (fun tt wx => tt = .bool cb ∧ Hid (Below wr.heap.size wr wx))
              case first =>
                go_quiet (fail)
                go_wp2_with fail
                go_meet
                exact ⟨rfl, below_drewN _ _⟩
              case rest =>
                obtain ⟨rfl, HBC⟩ := hcut
                have t0 := (HBC.out.cell (p := ⟨bt, i, none⟩) (lt_of_cell hd0)).trans hd0
                have t1 := (HBC.out.cell (p := ⟨bt, i1, none⟩) (lt_of_cell hd1)).trans hd1
                have t2 := (HBC.out.cell (p := ⟨rj, j1, none⟩) (lt_of_cell hv11)).trans hv11
                have t3 := (HBC.out.cell (p := ⟨rj, j, none⟩) (lt_of_cell hv10)).trans hv10
                have t4 := (HBC.out.cell (p := ⟨ri, j1, none⟩) (lt_of_cell hv01)).trans hv01
                have t8 := (HBC.out.cell (p := ⟨ri, j, none⟩) (lt_of_cell hs0)).trans hs0
                have t9 := (HBC.out.frozen (p := ⟨ri, j, none⟩) (lt_of_cell hs0)).trans hf0
                have hszc := HBC.out.size
                have hmm : ¬ j1 = j := by have := HJ1.out; omega
                have hmm' : ¬ j = j1 := by have := HJ1.out; omega
                clear hd0 hd1 hv11 hv10 hv01 hs0 hf0 e1 e2
                cases cb with
                | true =>
                  have hxe : d11 = x := (HE2.out (by simpa using HCB.out)).symm
                  subst hxe
                  go_upto_region 15 with fail
                  go_region_held3 (fun w' => w'.cell? ⟨bt, i, none⟩ = some (.slice (some ⟨ri, 0, none⟩) (m + 1) (m + 1)) ∧ w'.cell? ⟨bt, i1, none⟩ = some (.slice (some ⟨rj, 0, none⟩) (m + 1) (m + 1)) ∧ w'.cell? ⟨rj, j1, none⟩ = some (.int .i64 d11)) (first | go_keep | fail) (fail)
                  go_wp2_with fail
                  go_roundg j
                  case measure => omega
                  case rel => exact ⟨j, _, rfl, by show _ = _; omega, by omega, by omega, by have := HNX.out _ HBC.out.drew d11 HX.out.symm; exact this⟩
                | false =>
                  have hxe := HE3.out (by simpa using HCB.out)
                  obtain ⟨mn, HMN⟩ := nameIt (min d10 d01)
                  have hmin : min d10 d01 = mn := HMN.out
                  rw [HMN.out] at hxe
                  have hs1 : IntKind.i64.wrap (mn + 1) = x := by rw [IntWalk.i64_in _ (by omega), hxe]
                  have hset : (wc.setCell ⟨ri, j, none⟩ (.int .i64 x)).cell? ⟨ri, j1, none⟩ = some (.int .i64 d01) := cell_set_off _ t4 hmm'
                  clear hxe
                  go_upto_region 9 with fail
                  go_region_held3 (fun w' => w'.cell? ⟨bt, i, none⟩ = some (.slice (some ⟨ri, 0, none⟩) (m + 1) (m + 1)) ∧ w'.cell? ⟨bt, i1, none⟩ = some (.slice (some ⟨rj, 0, none⟩) (m + 1) (m + 1)) ∧ w'.cell? ⟨rj, j, none⟩ = some (.int .i64 d10) ∧ w'.cell? ⟨ri, j1, none⟩ = some (.int .i64 d01)) (first | go_keep | fail) (fail)
                  go_wp2_with fail
                  go_roundg j
                  case measure => omega
                  case rel => exact ⟨j, _, rfl, by show _ = _; omega, by omega, by omega, by have := HNX.out _ HBC.out.drew x HX.out.symm; exact this⟩
end Go.Proofs.Ytjehmleckcmilaa
