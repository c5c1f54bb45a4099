/- The contract of Common. -/
import Derived.Test.YtjehmleckcmilaaCommon
import Derived.Test.YtjehmleckcmilaaTabU
import Derived.Deep.RegionLaw
import Derived.StillTailTactics
namespace Go.Proofs.Ytjehmleckcmilaa
open Go.RowKit

structure LRel (w : World) (bt n m : Nat) (D : Nat → Nat → Int) (k : Nat) (wr : World) : Prop where
  tab : ∃ rb val, Tab w.heap.size bt n m rb 0 val wr ∧ (∀ a j, k ≤ a → a ≤ n → j ≤ m → val a j = D a j) ∧ (∀ a j, a < k → j ≤ m → val a j = 0)
  bel : Below w.heap.size w wr
structure MRel (w : World) (bt n m : Nat) (D : Nat → Nat → Int) (i q : Nat) (wr : World) : Prop where
  tab : ∃ rb val, Tab w.heap.size bt n m rb 0 val wr ∧ (∀ a j, i < a → a ≤ n → j ≤ m → val a j = D a j) ∧ (∀ j, q ≤ j → j ≤ m → val i j = D i j) ∧ (∀ a j, a < i → j ≤ m → val a j = 0)
  bel : Below w.heap.size w wr
theorem MRel.next {w : World} {bt n m : Nat} {D : Nat → Nat → Int} {i j : Nat} {wr : World} {rb : Nat → Nat} {val : Nat → Nat → Int} (ht : Tab w.heap.size bt n m rb 0 val wr) (h1 : ∀ a j, i < a → a ≤ n → j ≤ m → val a j = D a j) (h2 : ∀ l, j + 1 ≤ l → l ≤ m → val i l = D i l) (h3 : ∀ a j, a < i → j ≤ m → val a j = 0)
    (hb : Below w.heap.size w wr) (hi : i ≤ n) (hj : j ≤ m) {x : Int} (he : x = D i j) : MRel w bt n m D i j (wr.setCell ⟨rb i, j, none⟩ (.int .i64 x)) := by
  have hne := ht.ne i (Nat.zero_le _) hi
  refine ⟨⟨rb, _, ht.set (Nat.zero_le _) hi hj x, fun a l ha hn hl => ?_, fun l hl hm => ?_, fun a l ha hl => ?_⟩, hb.setCell hne.2 _⟩
  · simp only [show ¬ (a = i ∧ l = j) from fun h => by omega, if_false]; exact h1 a l ha hn hl
  · by_cases e : l = j
    · subst e; simp [he]
    · simp only [e, and_false, if_false]; exact h2 l (by omega) hm
  · simp only [show ¬ (a = i ∧ l = j) from fun h => by omega, if_false]; exact h3 a l ha hl

set_option maxHeartbeats 4000000 in
set_option maxRecDepth 100000 in
theorem commonE (a b : Option Addr) (ca cb : Nat) (l r : List Int) (w : World) (hl : Sl w (.slice a l.length ca) (ints l)) (hr : Sl w (.slice b r.length cb) (ints r)) (hl2 : l.length ≤ 200) (hr2 : r.length ≤ 200) :
    Calls Try.prog 37 #[.slice a l.length ca, .slice b r.length cb] w (DistPost (lAt l r) l.length r.length w) := by
  have HD0 := Lib.hid (fun i j (h : l.length ≤ i) => lAt_end (l := l) (r := r) (i := i) (j := j) h)
  have HD1 := Lib.hid (fun i j (h : r.length ≤ j) => lAt_last (l := l) (r := r) (i := i) (j := j) h)
  have HD2 := Lib.hid (fun i j (h : i < l.length) (hj : j < r.length) => lAt_step (l := l) (r := r) h hj)
  have HDB : Hid (∀ i j, 0 ≤ lAt l r i j ∧ lAt l r i j ≤ 200) := by
    intro i j
    have h := lAt_bd (l := l) (r := r) (i := i) (j := j)
    omega
  obtain ⟨D, HDN⟩ := nameIt (lAt l r)
  rw [HDN.out] at HD0 HD1 HD2 HDB
  rw [HDN.out]
  obtain ⟨n, HN⟩ := nameIt l.length
  obtain ⟨m, HM⟩ := nameIt r.length
  rw [HN.out] at hl hl2
  rw [HM.out] at hr hr2
  rw [HN.out, HM.out]
  have hcl := hl.len.2
  have hcr := hr.len.2
  unfold maxLen at hcl hcr
  obtain ⟨hcl1, hcl2⟩ := hcl
  obtain ⟨hcr1, hcr2⟩ := hcr
  have HL := Lib.hid hl
  have HR := Lib.hid hr
  have hmk1 : ∀ W : World, (Instr.makeSlice 49 (.int .i64 ((n : Int) + 1)) (.int .i64 ((n : Int) + 1))).run Try.prog W = .ok (.slice (some ⟨W.heap.size, 0, none⟩) (n + 1) (n + 1)) (W.alloc (.cells (madeCells #[.slice none 0 0] (n + 1)) 22)) := fun W => by
    have := run_make_row' (P := Try.prog) 49 22 (.slice none 0 0) 24 Try.underlying49 (by kernel_rfl) rfl .i64 .i64 (n + 1) (by omega) (by omega) W
    simpa using this
  have hmk2 : ∀ W : World, (Instr.makeSlice 22 (.int .i64 ((m : Int) + 1)) (.int .i64 ((m : Int) + 1))).run Try.prog W = .ok (.slice (some ⟨W.heap.size, 0, none⟩) (m + 1) (m + 1)) (W.alloc (.cells (madeCells #[.int .i64 0] (m + 1)) 3)) := fun W => by
    have := run_make_row' (P := Try.prog) 22 3 (.int .i64 0) 8 Try.underlying22 (by kernel_rfl) rfl .i64 .i64 (m + 1) (by omega) (by omega) W
    simpa using this
  clear hl hr
  obtain ⟨bt, HBT⟩ := nameIt w.heap.size
  have HR0 : Hid (∃ rb, TabU w.heap.size bt n m rb 0 (w.alloc (.cells (madeCells #[.slice none 0 0] (n + 1)) 22))) := by
    rw [← HBT.out]
    exact ⟨fun _ => 0, TabU.none' w (by omega)⟩
  have HRB : Hid (Below w.heap.size w (w.alloc (.cells (madeCells #[.slice none 0 0] (n + 1)) 22))) := (Below.refl _ _).alloc (Nat.le_refl _) _
  go_enter Try.func37, Try.ntmps37
  go_wp2_with fail
  rw [HBT.out]
  go_loopg [15] (n + 1) (fun gg v15 wr => ∃ (k : Nat), v15 = .int .i64 k ∧ k ≤ n + 1 ∧ n + 1 - k ≤ gg ∧ Hid (∃ rb, TabU w.heap.size bt n m rb k wr) ∧ Hid (Below w.heap.size w wr))
  case atStart => exact ⟨0, rfl, by omega, by omega, HR0, HRB⟩
  case round =>
    clear HR0 HRB
    obtain ⟨k, rfl, hk, hg, HT, HB⟩ := hrel
    by_cases hkn : k < n + 1
    · have hk1 : (k : Int) < (n : Int) + 1 := by omega
      obtain ⟨rb, ht⟩ := HT.out
      have hbt := ht.lt
      have hbB := ht.bB
      have HT1 : Hid (∃ rb, TabU w.heap.size bt n m rb (k + 1) ((wr.alloc (.cells (madeCells #[.int .i64 0] (m + 1)) 3)).setCell ⟨bt, k, none⟩ (.slice (some ⟨wr.heap.size, 0, none⟩) (m + 1) (m + 1)))) := ⟨_, ht.add (by omega) HB.out.size⟩
      have HB1 : Hid (Below w.heap.size w ((wr.alloc (.cells (madeCells #[.int .i64 0] (m + 1)) 3)).setCell ⟨bt, k, none⟩ (.slice (some ⟨wr.heap.size, 0, none⟩) (m + 1) (m + 1)))) := (HB.out.alloc HB.out.size _).setCell (by simp; omega) _
      obtain ⟨cst, htb1, htb2, -⟩ := ht.tb
      obtain ⟨vc, hc8⟩ : ∃ vc, wr.cell? ⟨bt, k, none⟩ = some vc := ⟨cst[k]'(by omega), by simp [World.cell?, htb1]⟩
      have hf8 : wr.frozen? ⟨bt, k, none⟩ = false := by simp [World.frozen?, htb1]
      have hne8 : ¬ bt = wr.heap.size := by omega
      have hne9 : ¬ wr.heap.size = bt := by omega
      obtain ⟨w1, HW1⟩ := nameIt ((wr.alloc (.cells (madeCells #[.int .i64 0] (m + 1)) 3)).setCell ⟨bt, k, none⟩ (.slice (some ⟨wr.heap.size, 0, none⟩) (m + 1) (m + 1)))
      have hcomm : (wr.setCell ⟨bt, k, none⟩ (.slice (some ⟨wr.heap.size, 0, none⟩) (m + 1) (m + 1))).alloc (.cells (madeCells #[.int .i64 0] (m + 1)) 3) = w1 := by
        rw [← HW1.out]
        simp [go_sem, hbt]
      have HCM := Lib.hid hcomm
      rw [HW1.out] at HT1 HB1
      clear htb1 htb2 hcomm
      go_upto_region 6 with fail
      rw [HCM.out]
      clear hc8 hf8 hne8 hne9
      go_wp2_with fail
      go_roundg (n + 1 - (k + 1))
      case measure => omega
      case rel => exact ⟨k + 1, by go_num, by omega, by omega, HT1, HB1⟩
    · have hkn' : ¬ (k : Int) < (n : Int) + 1 := by omega
      have HL0 : Hid (LRel w bt n m D n wr) := by
        obtain ⟨rb, ht⟩ := HT.out
        obtain rfl : k = n + 1 := by omega
        refine ⟨⟨rb, _, ht.done, fun a j ha hn hj => ?_, fun a j _ _ => rfl⟩, HB.out⟩
        rw [HD0.out a j (by rw [HN.out]; omega)]
      clear HT
      go_wp2_with fail
      go_loopg [7] n (fun gg v7 wr => ∃ (k : Nat) (z : Int), v7 = .int .i64 z ∧ Hid (z = (k : Int) - 1) ∧ k ≤ n ∧ k ≤ gg ∧ Hid (LRel w bt n m D k wr))
      case atStart => exact ⟨n, _, rfl, by show _ = _; omega, by omega, by omega, HL0⟩
      case round =>
        clear HL0
        obtain ⟨wo, rfl⟩ : ∃ wo : World, wo = wr := ⟨_, rfl⟩
        obtain ⟨k, z, rfl, HZ, hk, hg, HR'⟩ := hrel
        cases k with
        | zero =>
          obtain rfl : z = -1 := by have := HZ.out; omega
          obtain ⟨rb, val, ht, hv, -⟩ := HR'.out.tab
          go_wp2_with fail
          go_ret
          exact ⟨bt, rb, rfl, ht.eq (fun a j ha hn hj => hv a j ha hn hj), HR'.out.bel⟩
        | succ i =>
          obtain rfl : z = (i : Int) := by have := HZ.out; omega
          have hio3 : (0 : Int) ≤ (i : Int) := by omega
          have HM0 : Hid (MRel w bt n m D i m wo) := by
            obtain ⟨rb, val, ht, h1, h2⟩ := HR'.out.tab
            refine ⟨⟨rb, val, ht, fun a j ha hn hj => h1 a j (by omega) hn hj, fun j hj hm => ?_, fun a j ha hj => h2 a j (by omega) hj⟩, HR'.out.bel⟩
            rw [h2 i j (by omega) hm, HD1.out i j (by rw [HM.out]; omega)]
          go_wp2_with fail
          go_loopg [8] m (fun gg' v8 wr => ∃ (q : Nat) (y : Int), v8 = .int .i64 y ∧ Hid (y = (q : Int) - 1) ∧ q ≤ m ∧ q ≤ gg' ∧ Hid (MRel w bt n m D i q wr))
          case atStart => exact ⟨m, _, rfl, by show _ = _; omega, by omega, by omega, HM0⟩
          case round =>
            clear HM0
            obtain ⟨q, y, rfl, HY, hq, hgq, HE⟩ := hrel
            cases q with
            | zero =>
              obtain rfl : y = -1 := by have := HY.out; omega
              have HN' : Hid (LRel w bt n m D i wr) := by
                obtain ⟨rb, val, h1, h2, h3, h4⟩ := HE.out.tab
                refine ⟨⟨rb, val, h1, fun a j ha hn hj => ?_, h4⟩, HE.out.bel⟩
                by_cases e : a = i
                · subst e; exact h3 j (by omega) hj
                · exact h2 a j (by omega) hn hj
              go_wp2_with fail
              go_roundg i
              case measure => omega
              case rel => exact ⟨i, _, rfl, by show _ = _; omega, by omega, by omega, HN'⟩
            | succ j =>
              obtain rfl : y = (j : Int) := by have := HY.out; omega
              obtain ⟨rb, val, ht, h2, h3, h4⟩ := HE.out.tab
              have hiln : i < n := by omega
              have hjlm : j < m := by omega
              have hjo : (j : Int) < (m : Int) + 1 := by omega
              have hjo3 : (0 : Int) ≤ (j : Int) := by omega
              have hio2 : (i : Int) < (n : Int) + 1 := by omega
              have hne := ht.ne i (Nat.zero_le _) (by omega)
              have hd0 := ht.hdr (k := i) (Nat.zero_le _) (by omega)
              have hs0 := ht.cell (k := i) (j := j) (Nat.zero_le _) (by omega) (by omega)
              have hf0 := ht.free (k := i) (Nat.zero_le _) (by omega) j
              have hrl := ht.rlt (k := i) (Nat.zero_le _) (by omega)
              have HNX := Lib.hid (fun (W : World) (hW : Below wr.heap.size wr W) (x : Int) (he : x = D i j) => MRel.next (ht.keep hW) h2 h3 h4 (HE.out.bel.trans (hW.mono HE.out.bel.size)) (by omega) (by omega) he)
              obtain ⟨ri, HRI⟩ := nameIt (rb i)
              rw [HRI.out] at hne hd0 hs0 hf0 HNX hrl
              obtain ⟨vij, HVIJ⟩ := nameIt (val i j)
              rw [HVIJ.out] at hs0
              have hn1 : ¬ ri = bt := hne.1
              have hn2 : ¬ bt = ri := fun e => hne.1 e.symm
              obtain ⟨x, HX⟩ := nameIt (D i j)
              have hxb := HDB.out i j
              rw [HX.out] at hxb
              have hil : i < l.length := by rw [HN.out]; exact hiln
              have hjr : j < r.length := by rw [HM.out]; exact hjlm
              obtain ⟨bl, ol, hal, hcl⟩ := (HL.out.keep HE.out.bel).at hiln
              obtain ⟨br, or', har, hcr⟩ := (HR.out.keep HE.out.bel).at hjlm
              have e1 := hcl i (by rw [ints_len]; exact hil)
              have e2 := hcr j (by rw [ints_len]; exact hjr)
              rw [ints_get] at e1 e2
              have hstp := HD2.out i j hil hjr
              obtain ⟨p, HPP⟩ := nameIt (l[i]'hil)
              obtain ⟨q, HQQ⟩ := nameIt (r[j]'hjr)
              rw [HPP.out] at e1 hstp
              rw [HQQ.out] at e2 hstp
              have hi2 : (i : Int) < (n : Int) := by omega
              have hj2 : (j : Int) < (m : Int) := by omega
              obtain ⟨cb', HCB⟩ := nameIt (p == q)
              have hcb := HCB.out
              have hd1 := ht.hdr (k := i + 1) (by omega) (by omega)
              have hv11 := ht.cell (k := i + 1) (j := j + 1) (by omega) (by omega) (by omega)
              have hv10 := ht.cell (k := i + 1) (j := j) (by omega) (by omega) (by omega)
              have hv01 := ht.cell (k := i) (j := j + 1) (by omega) (by omega) (by omega)
              rw [h2 (i + 1) (j + 1) (by omega) (by omega) (by omega)] at hv11
              rw [h2 (i + 1) j (by omega) (by omega) (by omega)] at hv10
              rw [h3 (j + 1) (by omega) (by omega), HRI.out] at hv01
              have hnr := ht.inj i (i + 1) (Nat.zero_le _) (by omega) (by omega) (by omega)
              have hne1 := ht.ne (i + 1) (by omega) (by omega)
              rw [HRI.out] at hnr
              obtain ⟨rj, HRJ⟩ := nameIt (rb (i + 1))
              rw [HRJ.out] at hd1 hv11 hv10 hnr hne1
              have hm1 : ¬ ri = rj := fun e => by have := hnr e; omega
              have hm2 : ¬ rj = ri := fun e => hm1 e.symm
              have hm3 : ¬ rj = bt := hne1.1
              have hm4 : ¬ bt = rj := fun e => hne1.1 e.symm
              obtain ⟨d11, HD11⟩ := nameIt (D (i + 1) (j + 1))
              obtain ⟨d10, HD10⟩ := nameIt (D (i + 1) j)
              obtain ⟨d01, HD01⟩ := nameIt (D i (j + 1))
              rw [HD11.out] at hv11
              rw [HD10.out] at hv10
              rw [HD01.out] at hv01
              rw [HX.out, HD11.out, HD10.out, HD01.out] at hstp
              obtain ⟨i1, HI1⟩ : ∃ i1 : Nat, Hid (i1 = i + 1) := ⟨_, rfl⟩
              obtain ⟨j1, HJ1⟩ : ∃ j1 : Nat, Hid (j1 = j + 1) := ⟨_, rfl⟩
              rw [← HI1.out] at hd1
              rw [← HJ1.out] at hv11 hv01
              have hti : IntKind.i64.wrap ((i : Int) + 1) = (i1 : Int) := by rw [IntWalk.i64_in _ (by omega), HI1.out]; omega
              have htj : IntKind.i64.wrap ((j : Int) + 1) = (j1 : Int) := by rw [IntWalk.i64_in _ (by omega), HJ1.out]; omega
              have hi1b : (i1 : Int) < (n : Int) + 1 := by have := HI1.out; omega
              have hi1c : (0 : Int) ≤ (i1 : Int) := by omega
              have hj1b : (j1 : Int) < (m : Int) + 1 := by have := HJ1.out; omega
              have hj1c : (0 : Int) ≤ (j1 : Int) := by omega
              have hb11 := HDB.out (i + 1) (j + 1)
              rw [HD11.out] at hb11
              obtain ⟨mx, HMX⟩ := nameIt (max d10 d01)
              have hmax : max d10 d01 = mx := HMX.out
              rw [HMX.out] at hstp
              have HST := Lib.hid hstp
              have hmm : ¬ j1 = j := by have := HJ1.out; omega
              have hmm' : ¬ j = j1 := by have := HJ1.out; omega
              have hset : (wr.setCell ⟨ri, j, none⟩ (.int .i64 mx)).cell? ⟨ri, j1, none⟩ = some (.int .i64 d01) := cell_set_off _ hv01 hmm'
              subst hal har
              clear hcl hcr hstp
              go_upto_region 13 with fail
              go_region_held3 (fun w' => w'.cell? ⟨bt, i, none⟩ = some (.slice (some ⟨ri, 0, none⟩) (m + 1) (m + 1)) ∧ w'.cell? ⟨bt, i1, none⟩ = some (.slice (some ⟨rj, 0, none⟩) (m + 1) (m + 1)) ∧ w'.cell? ⟨rj, j, none⟩ = some (.int .i64 d10) ∧ w'.cell? ⟨ri, j1, none⟩ = some (.int .i64 d01)) (first | go_keep | fail) (fail)
              go_upto_region 14 with fail
              have HB2 : Hid (Below w.heap.size w (wr.setCell ⟨ri, j, none⟩ (.int .i64 mx)).drew) := (HE.out.bel.setCell hne.2 _).drew
              have HT2 : Hid (∃ val2, Tab w.heap.size bt n m rb 0 val2 (wr.setCell ⟨ri, j, none⟩ (.int .i64 mx)).drew ∧ (∀ a j, i < a → a ≤ n → j ≤ m → val2 a j = D a j) ∧ (∀ l, j + 1 ≤ l → l ≤ m → val2 i l = D i l) ∧ (∀ a j, a < i → j ≤ m → val2 a j = 0) ∧ val2 i j = mx) := by
                have hset2 := ht.set (Nat.zero_le _) (show i ≤ n by omega) (show j ≤ m by omega) mx
                rw [HRI.out] at hset2
                refine ⟨_, hset2.keep (Below.refl _ _).drew, fun a l ha hn hl => ?_, fun l hl hm => ?_, fun a l ha hl => ?_, by simp⟩
                · simp only [show ¬ (a = i ∧ l = j) from fun h => by omega, if_false]; exact h2 a l ha hn hl
                · have e : ¬ l = j := by omega
                  simp only [e, and_false, if_false]; exact h3 l (by omega) hm
                · simp only [show ¬ (a = i ∧ l = j) from fun h => by omega, if_false]; exact h4 a l ha hl
              obtain ⟨w2, HW2⟩ := nameIt (wr.setCell ⟨ri, j, none⟩ (.int .i64 mx)).drew
              rw [HW2.out] at HB2 HT2 ⊢
              clear hd0 hd1 hv11 hv10 hv01 hs0 hf0 e1 e2 hset hmax ht h2 h3 h4 HNX
              obtain ⟨val2, ht, h2, h3, h4, h5⟩ := HT2.out
              have HNX := Lib.hid (fun (W : World) (hW : Below w2.heap.size w2 W) (x : Int) (he : x = D i j) => MRel.next (ht.keep hW) h2 h3 h4 (HB2.out.trans (hW.mono HB2.out.size)) (by omega) (by omega) he)
              have HSM : Hid (mx = x → ∀ W, Below w2.heap.size w2 W → MRel w bt n m D i j W) := by
                intro hmx W hW
                refine ⟨⟨rb, val2, ht.keep hW, h2, fun l hl hm => ?_, h4⟩, HB2.out.trans (hW.mono HB2.out.size)⟩
                by_cases e : l = j
                · subst e; rw [h5, hmx, HX.out]
                · exact h3 l (by omega) hm
              have hd0 := ht.hdr (k := i) (Nat.zero_le _) (by omega)
              have hd1 := ht.hdr (k := i + 1) (Nat.zero_le _) (by omega)
              have hs0 := ht.cell (k := i) (j := j) (Nat.zero_le _) (by omega) (by omega)
              have hf0 := ht.free (k := i) (Nat.zero_le _) (by omega) j
              have hv11 := ht.cell (k := i + 1) (j := j + 1) (by omega) (by omega) (by omega)
              rw [h2 (i + 1) (j + 1) (by omega) (by omega) (by omega), HD11.out, HRJ.out, ← HJ1.out] at hv11
              rw [h5, HRI.out] at hs0
              rw [HRI.out] at hd0 hf0 HNX
              rw [HRJ.out, ← HI1.out] at hd1
              obtain ⟨bl', ol', hal, hcl⟩ := (HL.out.keep HB2.out).at hiln
              obtain ⟨br', or'', har, hcr⟩ := (HR.out.keep HB2.out).at hjlm
              cases hal
              cases har
              have e1 := hcl i (by rw [ints_len]; exact hil)
              have e2 := hcr j (by rw [ints_len]; exact hjr)
              rw [ints_get] at e1 e2
              rw [HPP.out] at e1
              rw [HQQ.out] at e2
              clear hcl hcr
              go_cut [71] (fun tt wx => tt = .bool cb' ∧ Hid (Below w2.heap.size w2 wx))
              case first =>
                go_quiet (fail)
                go_wp2_with fail
                go_meet
                exact ⟨rfl, below_drewN _ _⟩
              case rest =>
                obtain ⟨rfl, HBC⟩ := hcut
                have t0 := (HBC.out.cell (p := ⟨bt, i, none⟩) (lt_of_cell hd0)).trans hd0
                have t1 := (HBC.out.cell (p := ⟨bt, i1, none⟩) (lt_of_cell hd1)).trans hd1
                have t2 := (HBC.out.cell (p := ⟨rj, j1, none⟩) (lt_of_cell hv11)).trans hv11
                have t8 := (HBC.out.cell (p := ⟨ri, j, none⟩) (lt_of_cell hs0)).trans hs0
                have t9 := (HBC.out.frozen (p := ⟨ri, j, none⟩) (lt_of_cell hs0)).trans hf0
                clear hd0 hd1 hv11 hs0 hf0 e1 e2
                cases cb' with
                | true =>
                  have hxe := HST.out
                  rw [if_pos (by simpa using HCB.out)] at hxe
                  have hs1 : IntKind.i64.wrap (d11 + 1) = d11 + 1 := IntWalk.i64_in _ (by omega)
                  have hmax2 : max mx (d11 + 1) = x := hxe.symm
                  clear hxe
                  go_upto_region 15 with fail
                  refine wp_region_still_tail 24 (by kernel_rfl) (by kernel_rfl) ?_
                  simp only [List.take_succ_cons, List.take_zero, List.drop_succ_cons, List.drop_zero]
                  change wpStill _ _ (World.drew _) _ _ _
                  repeat still_step
                  refine wpStill_nil ?_
                  change wpList _ _ _ _ _ (World.drew _)
                  go_wp2_with fail
                  go_roundg j
                  case measure => omega
                  case rel => exact ⟨j, _, rfl, by show _ = _; omega, by omega, by omega, by have := HNX.out _ HBC.out.drew x HX.out.symm; exact this⟩
                | false =>
                  have hxe := HST.out
                  rw [if_neg (by simpa using HCB.out)] at hxe
                  have HSM1 := Lib.hid (HSM.out hxe.symm wc HBC.out)
                  clear hxe
                  go_wp2_with fail
                  go_roundg j
                  case measure => omega
                  case rel => exact ⟨j, _, rfl, by show _ = _; omega, by omega, by omega, HSM1⟩
end Go.Proofs.Ytjehmleckcmilaa
