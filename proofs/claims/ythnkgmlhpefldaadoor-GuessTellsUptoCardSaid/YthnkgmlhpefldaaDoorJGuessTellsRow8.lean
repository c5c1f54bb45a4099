/- parlref5.WordsOf. A row of one-cell values in memory, written in place. parlref5.key, Has, Words. Plain: all words by length, as a queue makes them. parlref5.Guessed$1: whether rules fit. parlref5.Guessed$2. -/
import Derived.Test.YthnkgmlhpefldaaDoorJGuessTellsRow7
import Derived.Test.YthnkgmlhpefldaaDoorJGuessTellsRow2
import Derived.Deep.DeepCutAuto
import Derived.Test.YthnkgmlhpefldaaDoorJGuessTellsRow1
import Derived.Deep.OwnRows
import Derived.Test.YthnkgmlhpefldaaDoorJGuessTellsRow5
import Derived.Test.YthnkgmlhpefldaaDoorJGuessTellsRow6
namespace Go.Proofs.YthnkgmlhpefldaaDoor
open Go.RowKit
namespace Lg
open Tx

def okTm (r : Rule) : Prop := r.right.length ≤ 4 ∧ ∀ s ∈ r.right, s.term = true → small s.n
theorem okTm_of {g : Gram} (h : checkG g = 0) : ∀ r ∈ g.rules, okTm r := by
  obtain ⟨⟨h1, h2, _⟩, _, h8⟩ := checkG_zero h
  intro r hr
  obtain ⟨_, _, a3, a4⟩ := h8 r hr
  refine ⟨a3, fun s hs e => ?_⟩
  have := a4 s hs
  unfold hasS at this
  rw [e] at this
  simp at this
  exact ⟨this.1, by omega⟩
theorem pow3_le {j : Nat} (h : j ≤ 4) : 3000 ^ j ≤ 81000000000000 := Nat.le_trans (Nat.pow_le_pow_right (by decide) h) (by decide)
set_option maxHeartbeats 16000000 in
set_option maxRecDepth 100000 in
theorem wordsOfE (K : List Rule) (N n : Nat) (hN1 : 1 ≤ N) (hN10 : N ≤ 10) (hn12 : n ≤ 12) (hok : ∀ r ∈ K, okRu N r) (htm : ∀ r ∈ K, okTm r) (ar : Option Addr) (cr : Nat) (w : World) (hr : Rd AnyB w (.sl (K.map Rule.d)) [.slice ar K.length cr]) :
    Calls Tryd.prog 25 #[.agg #[.int .i64 (N : Int), .slice ar K.length cr], .int .i64 (n : Int), .int .i64 3000] w (WoPost K N n w) := by
  have hbs := hr.bounds.2
  unfold maxLen at hbs
  obtain ⟨hc1, hc2⟩ := hbs
  have HR := Lib.hid hr
  obtain ⟨PST, HP⟩ := nameIt (WoPost K N n w)
  have HFIN : Hid (∀ G H ob mb Q c w', WI w G H ob N mb Q c w' → SoundQ K n Q → ClosedQ K n Q → PST (.returned (.tuple #[.slice (some ⟨ob, 0, none⟩) N N, .bool true])) w') := by
    intro G H ob mb Q c w' h1 h2 h3
    rw [← HP.out]
    exact ⟨.inr ⟨ob, mb, Q, c, rfl, fun a ha => ⟨h1.head ha, h1.maps a ha⟩, h2, h3⟩, h1.bel⟩
  have HFIN0 : Hid (∀ w', Below w.heap.size w w' → PST (.returned (.tuple #[.slice none 0 0, .bool false])) w') := by
    intro w' h
    rw [← HP.out]
    exact ⟨.inl rfl, h⟩
  rw [HP.out]
  clear HP
  have HOK := Lib.hid hok
  have HTM := Lib.hid htm
  have HTM2 : Hid (∀ r ∈ K, ∀ s ∈ r.right, s.term = true → small s.n) := fun r hr => (htm r hr).2
  obtain ⟨kl, HKL⟩ := nameIt K.length
  rw [HKL.out] at HR hc1
  rw [HKL.out]
  have hmk1 : ∀ W : World, (Instr.makeSlice 57 (.int .i64 (N : Int)) (.int .i64 (N : Int))).run Tryd.prog W = .ok (.slice (some ⟨W.heap.size, 0, none⟩) N N) (W.alloc (.cells (madeCells #[.map none] N) 63)) := fun W => by
    have := run_make_row' (P := Tryd.prog) 57 63 (.map none) 8 Tryd.underlying57 (by kernel_rfl) rfl .i64 .i64 N (by omega) (by omega) W
    simpa using this
  have hmm : ∀ W : World, (Instr.makeMap 71 none).run Tryd.prog W = .ok (.map (some W.heap.size)) (W.alloc (.map #[] 0)) := fun W => by
    simp [Instr.makeMap, run_underlying Tryd.underlying71]; try rfl
  obtain ⟨G, HG⟩ : ∃ G : Array Value, Hid (G = #[.int .i64 N, .slice ar kl cr]) := ⟨_, rfl⟩
  obtain ⟨w0, HW0⟩ := nameIt (w.alloc (.cells #[.int .i64 N, .slice ar kl cr] 61))
  have HB0 : Hid (Below w.heap.size w w0) := by rw [← HW0.out]; exact (Below.refl _ _).alloc (Nat.le_refl _) _
  have X1 : Hid (w0.heap[w.heap.size]? = some (.cells #[.int .i64 N, .slice ar kl cr] 61 (0, 0))) := by rw [← HW0.out]; exact bx_new _ _ _ rfl
  have hs0 : w0.heap.size = w.heap.size + 1 := by rw [← HW0.out]; simp
  obtain ⟨ob, HOB⟩ := nameIt w0.heap.size
  have HI0 : Hid (∃ mb, WG w G ob N mb 0 (w0.alloc (.cells (madeCells #[.map none] N) 63))) := by
    refine ⟨fun _ => 0, HB0.out.alloc (by omega) _, ?_, ⟨_, _, bx_new _ _ _ HOB.out.symm, size_madeCells _ _, fun a ha => by omega⟩, fun a ha => by omega, fun a b ha => by omega, fun a ha => by omega, by have := HOB.out; omega⟩
    rw [HG.out]
    exact bx_keep X1.out ((Below.refl _ _).alloc (Nat.le_refl _) _)
  obtain ⟨x0, x1⟩ := bx_cells2 X1.out
  have hl0 : w.heap.size < w0.heap.size := by omega
  clear hr hok hs0 htm
  go_enter Tryd.func25, Tryd.ntmps25
  go_upto_region 1 with fail
  rw [HW0.out]
  go_wp2_with fail
  rw [HOB.out]
  clear x0 x1 hmk1
  go_loopg [9, 25] N (fun gg v9 v25 wr => ∃ k : Nat, k ≤ N ∧ N - k ≤ gg ∧ v25 = .int .i64 k ∧ Hid (∃ mb, WG w G ob N mb k wr))
  case atStart => exact ⟨0, by omega, by omega, rfl, HI0⟩
  case round =>
    clear HI0
    obtain ⟨k, hk, hg, rfl, HI⟩ := hrel
    by_cases hkN : k < N
    · have hkN' : (k : Int) < (N : Int) := by omega
      obtain ⟨mb, hd⟩ := HI.out
      have hob := hd.lt
      obtain ⟨⟨vc, hc8⟩, hf8⟩ := hd.hcell hkN
      have HT1 : Hid (∃ mb, WG w G ob N mb (k + 1) ((wr.alloc (.map #[] 0)).setCell ⟨ob, k, none⟩ (.map (some wr.heap.size)))) := ⟨_, hd.add hkN⟩
      have hne8 : ¬ ob = wr.heap.size := by omega
      have hne9 : ¬ wr.heap.size = ob := by omega
      obtain ⟨w1, HW1⟩ := nameIt ((wr.alloc (.map #[] 0)).setCell ⟨ob, k, none⟩ (.map (some wr.heap.size)))
      have hcomm : (wr.setCell ⟨ob, k, none⟩ (.map (some wr.heap.size))).alloc (.map #[] 0) = w1 := by
        rw [← HW1.out]
        simp [go_sem, hob]
      have HCM := Lib.hid hcomm
      rw [HW1.out] at HT1
      clear hcomm hd
      go_upto_region 6 with fail
      first | rw [HCM.out] | rw [HW1.out]
      clear hc8 hf8 hne8 hne9
      go_wp2_with fail
      go_roundg (N - (k + 1))
      case measure => omega
      case rel => exact ⟨k + 1, by omega, by omega, by go_num, HT1⟩
    · have hkN' : ¬ (k : Int) < (N : Int) := by omega
      obtain ⟨mb, hd⟩ := HI.out
      have hkk : k = N := by omega
      rw [hkk] at hd
      obtain ⟨H, HH⟩ := nameIt wr.heap.size
      obtain ⟨Q0, HQ0⟩ : ∃ Q0 : Nat → List Int → Prop, Hid (Q0 = fun _ _ => False) := ⟨_, rfl⟩
      obtain ⟨c0, HC0⟩ : ∃ c0 : Nat → Nat, Hid (c0 = fun _ => 0) := ⟨_, rfl⟩
      have HD0 : Hid (WI w G H ob N mb Q0 c0 wr) := by rw [← HH.out, HQ0.out, HC0.out]; exact hd.fin
      have HS0 : Hid (SoundQ K n Q0) := by rw [HQ0.out]; intro A u h; exact h.elim
      have HCB0 : Hid (∀ a, a < N → c0 a ≤ 3000) := by rw [HC0.out]; intro a _; exact Nat.zero_le _
      have HSTA : Hid ((∀ a, a < N → mb a < H) ∧ ob < H ∧ w.heap.size < H) := ⟨fun a ha => (HD0.out.ne a ha).2.2, HD0.out.pl.2, by have := HD0.out.pl; omega⟩
      clear hd hkk HI
      go_wp2_with fail
      go_loopg [10, 12, 13, 15, 16, 17, 18, 19] (muQ c0 N + 1) (fun gg v10 v12 v13 v15 v16 v17 v18 v19 wr => ∃ (ag : Bool) (Q : Nat → List Int → Prop) (c : Nat → Nat), v10 = .bool ag ∧ (ag = true → muQ c N + 1 ≤ gg) ∧ Hid (WI w G H ob N mb Q c wr) ∧ Hid (SoundQ K n Q) ∧ Hid (∀ a, a < N → c a ≤ 3000) ∧ Hid (ag = false → ClosedQ K n Q))
      case atStart => exact ⟨true, Q0, c0, rfl, (fun _ => Nat.le_refl _), HD0, HS0, HCB0, (fun e => by cases e)⟩
      case round =>
        clear HD0 HS0 HCB0
        obtain ⟨ag, Q, c, rfl, hgg, HE, HS, HCB, HAG⟩ := hrel
        obtain ⟨w3, rfl⟩ : ∃ ww : World, ww = wr := ⟨_, rfl⟩
        cases ag with
        | false =>
          have HX := Lib.hid (HFIN.out G H ob mb Q c w3 HE.out HS.out (HAG.out rfl))
          clear hgg HAG
          go_wp2_with fail
          exact HX.out
        | true =>
          have hgg' := hgg rfl
          obtain ⟨mu, HMU⟩ := nameIt (muQ c N)
          rw [HMU.out] at hgg'
          have hbx := HE.out.box
          rw [HG.out] at hbx
          obtain ⟨x0, x1⟩ := bx_cells2 hbx
          have HC0' : Hid (ClQTo K n Q 0) := fun r hr => by simp at hr
          clear hgg HAG hbx
          go_wp2_with fail
          clear x0 x1
          go_loopg [10, 12, 13, 15, 16, 17, 18, 19, 37] kl (fun gg v10 v12 v13 v15 v16 v17 v18 v19 v37 wr => ∃ (q : Nat) (Q1 : Nat → List Int → Prop) (c1 : Nat → Nat) (b : Bool), q ≤ kl ∧ kl - q ≤ gg ∧ v10 = .bool b ∧ v37 = .int .i64 q ∧ Hid (WI w G H ob N mb Q1 c1 wr) ∧ Hid (SoundQ K n Q1) ∧ Hid (∀ a, a < N → c1 a ≤ 3000) ∧ Hid (b = false → Q1 = Q ∧ c1 = c ∧ ClQTo K n Q q) ∧ Hid (b = true → muQ c1 N < mu))
          case atStart => exact ⟨0, Q, c, false, by omega, by omega, rfl, rfl, HE, HS, HCB, (fun _ => ⟨rfl, rfl, HC0'.out⟩), (fun e => by cases e)⟩
          case round =>
            clear HE HS HCB HC0'
            obtain ⟨q, Q1, c1, b, hq, hg2, rfl, rfl, HE, HS, HCB, HC, HMB⟩ := hrel
            obtain ⟨w4, rfl⟩ : ∃ ww : World, ww = wr := ⟨_, rfl⟩
            by_cases hlt : q < kl
            · have hlt' : (q : Int) < (kl : Int) := by omega
              have hq0 : (0 : Int) ≤ (q : Int) := by omega
              have hqx : q < K.length := by rw [HKL.out]; exact hlt
              obtain ⟨rbk, ro, rv, hae, -, hrb, r0, r1, hrr⟩ := (show Rd AnyB w (.sl (K.map Rule.d)) [.slice ar K.length cr] by rw [HKL.out]; exact HR.out).rule_at hqx
              obtain ⟨sa, sc, rfl, hsc1, hsc2⟩ := hrr.form
              rw [List.length_map] at r1 hrr hsc1
              have t0 := (HE.out.bel.cell (lt_of_cell r0)).trans r0
              have t1 := (HE.out.bel.cell (lt_of_cell r1)).trans r1
              have HRR := Lib.hid hrr
              have HOR := Lib.hid (HOK.out _ (List.getElem_mem hqx))
              have HTR := Lib.hid (HTM.out _ (List.getElem_mem hqx))
              have HMEM := Lib.hid (List.getElem_mem hqx)
              have HNX : Hid (ClQTo K n Q q → ClQ n Q K[q] → ClQTo K n Q (q + 1)) := fun h1 h2 => clQ_next hqx h1 h2
              obtain ⟨r, HRN⟩ := nameIt (K[q]'hqx)
              rw [HRN.out] at t0 t1 HRR HOR HTR hsc1 HMEM HNX
              obtain ⟨hr1, hr2, hr3⟩ := HOR.out
              obtain ⟨hr4, hr5⟩ := HTR.out
              obtain ⟨A, hA⟩ : ∃ A : Nat, r.left = (A : Int) := ⟨r.left.toNat, by omega⟩
              have hAN : A < N := by rw [hA] at hr2; simpa using hr2
              have HAL : Hid (r.left.toNat = A) := by show _ = _; rw [hA]; simp
              have HASND : Hid (∀ u, atQ Q1 n r.right u → u.length ≤ n ∧ Lang K A u) := fun u hu => by
                have := atQ_sound HS.out HMEM.out hr1 hu
                rw [HAL.out] at this; exact this
              rw [hA] at t0
              have HOS := Lib.hid hr3
              have HTS := Lib.hid hr5
              have hA0 : (0 : Int) ≤ (A : Int) := by omega
              have hA1 : (A : Int) < (N : Int) := by omega
              obtain ⟨rt, HRT⟩ := nameIt r.right
              rw [HRT.out] at t1 HRR HOS HTS hsc1 hr4 HASND
              obtain ⟨rn, HRNL⟩ := nameIt rt.length
              rw [HRNL.out] at t1 hsc1 hr4
              obtain ⟨w5, HW5⟩ := nameIt (w4.alloc (.cells #[.int .i64 (A : Int), .slice sa rn sc] 32))
              have hb5 : Below w4.heap.size w4 w5 := by rw [← HW5.out]; exact (Below.refl _ _).alloc (Nat.le_refl _) _
              have HE5 := Lib.hid (HE.out.keep hb5)
              have Y5 : Hid (w5.heap[w4.heap.size]? = some (.cells #[.int .i64 (A : Int), .slice sa rn sc] 32 (0, 0))) := by rw [← HW5.out]; exact bx_new _ _ _ rfl
              have hgbH : H ≤ w4.heap.size := HE.out.hs
              obtain ⟨gb, HGB⟩ := nameIt w4.heap.size
              rw [HGB.out] at Y5 hgbH
              have HMAPS : Hid (∀ W Q' c', WI w G H ob N mb Q' c' W → W.cell? ⟨ob, A, none⟩ = some (.map (some (mb A)))) := fun W Q' c' h => h.head hAN
              have HOKA : Hid (∀ l', (∀ s ∈ l', s ∈ rt) → ∀ a, atQ Q1 n l' a → okW a) := fun l' hl' a ha => LL_okW HTM2.out HS.out (fun s hs => HTS.out s (hl' s hs)) ha.2
              have HOKB : Hid (∀ B b, Q1 B b → okW b) := fun B b h => lang_okW HTM2.out (HS.out B b h).2
              have HLE : Hid (∀ l' a, atQ Q1 n l' a → a.length ≤ n) := fun l' a h => h.1
              have HLEB : Hid (∀ B b, Q1 B b → b.length ≤ n) := fun B b h => (HS.out B b h).1
              subst hae
              clear hrr r0 r1 hb5 hr3 hr1 hr2 hA hr5
              go_upto_region 13 with fail
              rw [HW5.out, HGB.out]
              clear t0 t1 HW5
              -- at = texts{"": true}
              have HT5 : Hid (TxM w5.heap.size (fun _ => False) 0 (w5.alloc (.map #[] 0))) := TxM.start w5 rfl (fun _ _ h => h)
              obtain ⟨w6, ca0, hup, hAT6, hgr6, -, hca0⟩ := HT5.out.add (u := []) (Q' := atQ Q1 n []) (s := ⟨#[]⟩) Tryd.underlying71 (by intro x hx; cases hx) (by unfold Bts; rfl) (by unfold maxLen; decide) (by unfold maxLen; decide) (fun v _ => by rw [atQ_nil]; simp)
              have hca1 : ca0 = 1 := hca0 (fun h => h)
              have hg56 : w5.grownBy w6 (some w5.heap.size) := (World.grownBy_alloc w5 _ none).andThen hgr6 (fun j e => by cases e; exact .inl (Nat.le_refl _)) |>.but _
              have HE6 : Hid (WI w G H ob N mb Q1 c1 w6) := HE5.out.grown hg56 (fun k e => by cases e; exact HE5.out.hs)
              have hb56 : Below w5.heap.size w5 w6 := (Below.refl _ _).grown hg56 (Nat.le_refl _) (fun k e => by cases e; exact Nat.le_refl _)
              have Y6 := Lib.hid (bx_keep Y5.out hb56)
              have HAT : Hid (TxM w5.heap.size (atQ Q1 n (rt.take 0)) ca0 w6) := by rw [List.take_zero]; exact hAT6
              have hab5 : H ≤ w5.heap.size := HE5.out.hs
              have HCA : Hid (ca0 ≤ 3000 ^ 0) := by show _ ≤ _; rw [hca1]; decide
              obtain ⟨ab0, HAB⟩ := nameIt w5.heap.size
              rw [HAB.out] at HAT hab5
              clear hca0 hca1 hAT6 hgr6 hg56 hb56 HT5
              obtain ⟨y0, y1⟩ := bx_cells2 Y6.out
              go_upto_region 14 with fail
              rw [HAB.out]
              clear hup
              go_wp2_with fail
              clear y0 y1
              go_loopg [13, 15, 16, 17, 18, 46] rn (fun gg v13 v15 v16 v17 v18 v46 wr => ∃ (j ab ca : Nat), j ≤ rn ∧ rn - j ≤ gg ∧ v13 = .map (some ab) ∧ v46 = .int .i64 j ∧ H ≤ ab ∧ Hid (WI w G H ob N mb Q1 c1 wr) ∧ Hid (TxM ab (atQ Q1 n (rt.take j)) ca wr) ∧ Hid (ca ≤ 3000 ^ j) ∧ Hid (wr.heap[gb]? = some (.cells #[.int .i64 (A : Int), .slice sa rn sc] 32 (0, 0))))
              case atStart => exact ⟨0, ab0, ca0, by omega, by omega, rfl, rfl, hab5, HE6, HAT, HCA, Y6⟩
              case round =>
                clear HE6 HAT HCA Y6
                obtain ⟨j, ab, ca, hj, hg3, rfl, rfl, hab, HE6, HAT, HCA, Y6⟩ := hrel
                obtain ⟨w7, rfl⟩ : ∃ ww : World, ww = wr := ⟨_, rfl⟩
                by_cases hjm : j < rn
                · have hjm' : (j : Int) < (rn : Int) := by omega
                  have hj0 : (0 : Int) ≤ (j : Int) := by omega
                  have hjx : j < rt.length := by rw [HRNL.out]; exact hjm
                  obtain ⟨sb, so, hae, -, hsb, s0, s1⟩ := HRR.out.sym_at hjx
                  have u0 := (HE6.out.bel.cell (lt_of_cell s0)).trans s0
                  have u1 := (HE6.out.bel.cell (lt_of_cell s1)).trans s1
                  have HTK : Hid (rt.take (j + 1) = rt.take j ++ [rt[j]]) := List.take_succ_eq_append_getElem hjx
                  have HOSJ := Lib.hid (HOS.out _ (List.getElem_mem hjx))
                  have HTSJ := Lib.hid (HTS.out _ (List.getElem_mem hjx))
                  obtain ⟨sy, HSY⟩ := nameIt (rt[j]'hjx)
                  rw [HSY.out] at u0 u1 HTK HOSJ HTSJ
                  obtain ⟨st, HST⟩ := nameIt sy.term
                  obtain ⟨sn, HSN⟩ := nameIt sy.n
                  rw [HST.out] at u0
                  rw [HSN.out] at u1
                  obtain ⟨lt, HLT⟩ := nameIt (rt.take j)
                  rw [HLT.out] at HTK HAT
                  have HOKL : Hid (∀ a, atQ Q1 n lt a → okW a) := HOKA.out lt (by rw [← HLT.out]; exact fun s hs => List.mem_of_mem_take hs)
                  obtain ⟨w8, HW8⟩ := nameIt (w7.alloc (.cells #[.bool st, .int .i64 sn] 44))
                  have hb8 : Below w7.heap.size w7 w8 := by rw [← HW8.out]; exact (Below.refl _ _).alloc (Nat.le_refl _) _
                  have S8 : Hid (w8.heap[w7.heap.size]? = some (.cells #[.bool st, .int .i64 sn] 44 (0, 0))) := by rw [← HW8.out]; exact bx_new _ _ _ rfl
                  have HE8 := HE6.out.keep hb8
                  have HAT8 := HAT.out.keep hb8
                  have Y8 := bx_keep Y6.out hb8
                  obtain ⟨sbx, HSB⟩ := nameIt w7.heap.size
                  rw [HSB.out] at S8
                  obtain ⟨w9, HW9⟩ := nameIt (w8.alloc (.map #[] 0))
                  have hb9 : Below w8.heap.size w8 w9 := by rw [← HW9.out]; exact (Below.refl _ _).alloc (Nat.le_refl _) _
                  have HE9 := Lib.hid (HE8.keep hb9)
                  have HAT9 := HAT8.keep hb9
                  have Y9 := Lib.hid (bx_keep Y8 hb9)
                  have S9 := Lib.hid (bx_keep S8.out hb9)
                  have HNB : Hid (TxM w8.heap.size (NX Q1 n lt sy (atQ Q1 n lt)) 0 w9) := by rw [← HW9.out]; exact TxM.start w8 rfl (fun _ _ h => NX_start h)
                  have hnbH : H ≤ w8.heap.size := HE8.hs
                  have hnab : ab < w8.heap.size := HAT8.lt
                  have hnsb : sbx < w8.heap.size := lt_of_cell (bx_cells2 S8.out).1
                  have hngb : gb < w8.heap.size := lt_of_cell (bx_cells2 Y8).1
                  obtain ⟨nb, HNBN⟩ := nameIt w8.heap.size
                  rw [HNBN.out] at HNB hnbH hnab hnsb hngb
                  subst hae
                  clear s0 s1 hb8 HE8 HAT8 Y8 S8 hb9
                  go_upto_region 17 with fail
                  rw [HW8.out, HSB.out]
                  clear u0 u1 HW8
                  go_upto_region 18 with fail
                  rw [HW9.out, HNBN.out]
                  clear HW9
                  obtain ⟨rg, HNS10⟩ := nameIt w9.heap.size
                  have hrgnb : nb < rg := by rw [← HNS10.out]; exact HNB.out.lt
                  have HAT9' := Lib.hid HAT9
                  clear HAT9
                  go_wp2_with (first
                    | (at_range; refine wpList_range_tx _ rfl _ 71 rfl Tryd.underlying71 rfl HAT9'.out ?_; intro w10 hrg0 hb10 hs10)
                    | fail)
                  try go_frame
                  rw [HNS10.out] at hrg0
                  rw [HNS10.out]
                  have HRG := Lib.hid hrg0
                  have HE10 := Lib.hid (HE9.out.keep hb10)
                  have Y10 := Lib.hid (bx_keep Y9.out hb10)
                  have S10 := Lib.hid (bx_keep S9.out hb10)
                  have HNB10 := Lib.hid (HNB.out.keep hb10)
                  obtain ⟨B, HB⟩ := nameIt sn.toNat
                  obtain ⟨m, HM⟩ := nameIt (if st = true then 1 else c1 B)
                  have HBN : Hid (st = false → 0 ≤ sn ∧ B < N) := by
                    intro e
                    obtain ⟨h1, h2⟩ := HOSJ.out (by rw [HST.out]; exact e)
                    rw [HSN.out] at h1 h2
                    exact ⟨h1, by rw [← HB.out]; exact h2⟩
                  have hm3 : m ≤ 3000 := by
                    rw [← HM.out]
                    cases st with
                    | true => simp
                    | false => simpa using HCB.out B (HBN.out rfl).2
                  have HCM : Hid (ca * m ≤ 3000 ^ (j + 1)) := by
                    show _ ≤ _
                    rw [Nat.pow_succ]
                    exact Nat.mul_le_mul HCA.out hm3
                  obtain ⟨T, HT⟩ := nameIt (ca * m)
                  rw [HT.out] at HCM
                  have hT81 : T ≤ 81000000000000 := Nat.le_trans HCM.out (pow3_le (by omega))
                  have HST0 : Hid (0 + ca * m ≤ T) := by rw [HT.out]; show _ ≤ _; omega
                  clear hrg0 hb10 hs10 HE9 Y9 S9 HNB
                  go_loopg [17, 18] ca (fun gg v17 v18 wr => ∃ (L : List Int → Prop) (cnt cn : Nat), cnt ≤ gg ∧ Hid (RgM ab rg (atQ Q1 n lt) L cnt wr) ∧ Hid (WI w G H ob N mb Q1 c1 wr) ∧ Hid (TxM nb (NX Q1 n lt sy L) cn wr) ∧ Hid (cn + cnt * m ≤ T) ∧ Hid (wr.heap[gb]? = some (.cells #[.int .i64 (A : Int), .slice (some ⟨sb, so, none⟩) rn sc] 32 (0, 0))) ∧ Hid (wr.heap[sbx]? = some (.cells #[.bool st, .int .i64 sn] 44 (0, 0))))
                  case atStart => exact ⟨_, ca, 0, Nat.le_refl _, HRG, HE10, HNB10, HST0, Y10, S10⟩
                  case round =>
                    clear HRG HE10 HNB10 HST0 Y10 S10
                    obtain ⟨L, cnt, cn, hcg, HRG, HE10, HNB10, HCN, Y10, S10⟩ := hrel
                    obtain ⟨w10', rfl⟩ : ∃ ww : World, ww = wr := ⟨_, rfl⟩
                    go_wp2_with (first
                      | (at_next; refine wpList_next_tx _ rfl _ rfl rfl HRG.out ?_ ?_)
                      | fail)
                    · intro hl0
                      have HATN : Hid (TxM nb (atQ Q1 n (rt.take (j + 1))) cn w10') := by
                        rw [HTK.out]
                        exact HNB10.out.eq fun u _ => NX_end HOKL.out hl0
                      have HCAN : Hid (cn ≤ 3000 ^ (j + 1)) := Nat.le_trans (by have := HCN.out; omega) HCM.out
                      clear HRG HNB10 HCN S10
                      go_wp2_with fail
                      go_roundg (rn - (j + 1))
                      case measure => omega
                      case rel => exact ⟨j + 1, nb, cn, by omega, by omega, rfl, by go_num, hnbH, HE10, HATN, HCAN, Y10⟩
                    · intro x u w11 cnt1 hu hQu hLu hBx hsx hrg1 hlt1 hg1 hs1 hen
                      have hul := HLE.out lt u hQu
                      have HE11 := Lib.hid (HE10.out.grown hg1 (fun k e => by cases e; omega))
                      have HNB11 := Lib.hid (HNB10.out.kept hg1 (fun e => by have := Option.some.inj e; omega))
                      have Y11 := Lib.hid (bx_grown Y10.out hg1 (fun e => by have := Option.some.inj e; omega))
                      have S11 := Lib.hid (bx_grown S10.out hg1 (fun e => by have := Option.some.inj e; omega))
                      have HRG11 := Lib.hid hrg1
                      have HBX := Lib.hid hBx
                      have HUOK := Lib.hid hu
                      have HUQ := Lib.hid hQu
                      have hcnT : cn ≤ T := by have := HCN.out; omega
                      have HC1 : Hid (cn + m + cnt1 * m ≤ T) := by
                        have h1 := HCN.out
                        have h2 : (cnt1 + 1) * m ≤ cnt * m := Nat.mul_le_mul_right m hlt1
                        rw [Nat.add_mul, Nat.one_mul] at h2
                        show _ ≤ _
                        omega
                      obtain ⟨ul, HUL⟩ := nameIt u.length
                      rw [HUL.out] at hsx hul
                      have hx0 : (0 : Int) ≤ (ul : Int) := by omega
                      clear HRG HE10 HNB10 HCN Y10 S10 hu hQu hLu hBx hrg1 hg1 hs1
                      obtain ⟨z0, z1⟩ := bx_cells2 S11.out
                      cases st with
                      | true =>
                        have hm1 : m = 1 := by rw [← HM.out]; simp
                        have hsm : small sn := by have := HTSJ.out HST.out; rw [HSN.out] at this; exact this
                        have HTM3 : Hid (∀ v, NX Q1 n lt sy (rmv L u) v ↔ NX Q1 n lt sy L v ∨ (v = u ++ [sn] ∧ v.length ≤ n)) := fun v => by
                          have := NX_term (L := L) (u := v) HST.out HUQ.out
                          rw [HSN.out] at this
                          exact this
                        by_cases hun : ul < n
                        · have hun' : (ul : Int) < (n : Int) := by omega
                          have hw8 : IntKind.u8.wrap sn = sn := by
                            obtain ⟨h1, h2⟩ := hsm
                            rw [IntKind.wrap_u8']; omega
                          obtain ⟨cs, hcs1, hcs2, hcv⟩ := conv_byte hsm (g := w11.heap.size) (W := w11.alloc (.cells #[.int .u8 sn] 5)) (by simp)
                          have hb12 : Below w11.heap.size w11 (w11.alloc (.cells #[.int .u8 sn] 5)) := (Below.refl _ _).alloc (Nat.le_refl _) _
                          obtain ⟨w13, cn', hup, hT13, hg13, hca, hcb⟩ := (HNB11.out.keep hb12).add (u := u ++ [sn]) (Q' := NX Q1 n lt sy (rmv L u)) (s := x ++ cs) Tryd.underlying71 (okW_app HUOK.out (fun z hz => by simp at hz; subst hz; exact hsm)) (by rw [kw_app]; exact HBX.out.app hcs1) (by rw [ByteArray.size_append, hsx, hcs2]; unfold maxLen; omega) (by unfold maxLen; omega) (fun v _ => by
                            rw [HTM3.out v]
                            constructor
                            · rintro (h | ⟨h, _⟩)
                              · exact .inl h
                              · exact .inr h
                            · rintro (h | h)
                              · exact .inl h
                              · exact .inr ⟨h, by rw [h, List.length_append, HUL.out]; simp; omega⟩)
                          have hcn' : cn' ≤ cn + 1 := by
                            rcases Classical.em (NX Q1 n lt sy L (u ++ [sn])) with h | h
                            · rw [hca h]; omega
                            · rw [hcb h]; omega
                          have HRG13 := Lib.hid ((HRG11.out.keep hb12).kept hg13 (fun e => by have := Option.some.inj e; omega) (fun e => by have := Option.some.inj e; omega))
                          have HE13 := Lib.hid ((HE11.out.keep hb12).grown hg13 (fun k e => by cases e; omega))
                          have HT13 := Lib.hid hT13
                          have Y13 := Lib.hid (bx_grown (bx_keep Y11.out hb12) hg13 (fun e => by have := Option.some.inj e; omega))
                          have S13 := Lib.hid (bx_grown (bx_keep S11.out hb12) hg13 (fun e => by have := Option.some.inj e; omega))
                          have HC13 : Hid (cn' + cnt1 * m ≤ T) := by have := HC1.out; rw [hm1] at this ⊢; show _ ≤ _; omega
                          clear hT13 hg13 hca hcb hb12 hcs1 HC1
                          go_wp2_with fail
                          go_roundg cnt1
                          case measure => omega
                          case rel => exact ⟨rmv L u, cnt1, cn', by omega, HRG13, HE13, HT13, HC13, Y13, S13⟩
                        · have hun' : ¬ (ul : Int) < (n : Int) := by omega
                          have HT12 : Hid (TxM nb (NX Q1 n lt sy (rmv L u)) cn w11) := HNB11.out.eq fun v _ => by
                            rw [HTM3.out v]
                            constructor
                            · exact .inl
                            · rintro (h | ⟨h, h2⟩)
                              · exact h
                              · rw [h, List.length_append, HUL.out] at h2; simp at h2; omega
                          have HC12 : Hid (cn + cnt1 * m ≤ T) := by have := HC1.out; show _ ≤ _; omega
                          go_wp2_with fail
                          go_roundg cnt1
                          case measure => omega
                          case rel => exact ⟨rmv L u, cnt1, cn, by omega, HRG11, HE11, HT12, HC12, Y11, S11⟩
                      | false =>
                        obtain ⟨hsn0, hBN⟩ := HBN.out rfl
                        have hmB : m = c1 B := by rw [← HM.out]; simp
                        obtain rfl : sn = (B : Int) := by have := HB.out; omega
                        have hB0 : (0 : Int) ≤ (B : Int) := by omega
                        have hB1 : (B : Int) < (N : Int) := by omega
                        have k0 := HE11.out.head hBN
                        have HMP := HE11.out.maps B hBN
                        have HSNB : Hid (sy.n.toNat = B) := by show _ = _; rw [HSN.out]; simp
                        have hmbH := HSTA.out.1 B hBN
                        have HOKQ := Lib.hid (HOKB.out B)
                        have HLEQ := Lib.hid (HLEB.out B)
                        obtain ⟨mB, HMBN⟩ := nameIt (mb B)
                        rw [HMBN.out] at k0 HMP hmbH
                        have HMPH := Lib.hid HMP
                        clear HMP
                        go_upto_region 24 with fail
                        go_wp2_with (first
                          | (at_range; refine wpList_range_tx _ rfl _ 63 rfl Tryd.underlying63 rfl HMPH.out ?_; intro w12 hrg2 hb12 hs12)
                          | fail)
                        try go_frame
                        obtain ⟨r2, HR2⟩ := nameIt w11.heap.size
                        rw [HR2.out] at hrg2
                        rw [HR2.out]
                        have hr2n : rg < r2 := by rw [← HR2.out]; exact HRG11.out.lt
                        have HRG2 := Lib.hid hrg2
                        have HRG12 := Lib.hid (HRG11.out.keep hb12)
                        have HE12 := Lib.hid (HE11.out.keep hb12)
                        have HNB12 : Hid (TxM nb (NX2 Q1 n lt sy L u (Q1 B)) cn w12) := (HNB11.out.keep hb12).eq fun v _ => by
                          have := NX2_start (Q := Q1) (n := n) (l := lt) (s := sy) (L := L) (a := u) (u := v)
                          rw [HSNB.out] at this
                          exact this.symm
                        have Y12 := Lib.hid (bx_keep Y11.out hb12)
                        have S12 := Lib.hid (bx_keep S11.out hb12)
                        have HC12 : Hid (cn + c1 B + cnt1 * m ≤ T) := by rw [← hmB]; exact HC1.out
                        obtain ⟨cB, HCBN⟩ := nameIt (c1 B)
                        rw [HCBN.out] at HRG2 HC12
                        clear k0 z0 z1 hrg2 hb12 hs12 HRG11 HE11 HNB11 Y11 S11 HC1 hmB
                        go_loopg [18] cB (fun gg v18 wr => ∃ (L2 : List Int → Prop) (cnt2 cn2 : Nat), cnt2 ≤ gg ∧ Hid (RgM mB r2 (Q1 B) L2 cnt2 wr) ∧ Hid (RgM ab rg (atQ Q1 n lt) (rmv L u) cnt1 wr) ∧ Hid (WI w G H ob N mb Q1 c1 wr) ∧ Hid (TxM nb (NX2 Q1 n lt sy L u L2) cn2 wr) ∧ Hid (cn2 + cnt2 + cnt1 * m ≤ T) ∧ Hid (wr.heap[gb]? = some (.cells #[.int .i64 (A : Int), .slice (some ⟨sb, so, none⟩) rn sc] 32 (0, 0))) ∧ Hid (wr.heap[sbx]? = some (.cells #[.bool false, .int .i64 (B : Int)] 44 (0, 0))))
                        case atStart => exact ⟨_, cB, cn, Nat.le_refl _, HRG2, HRG12, HE12, HNB12, HC12, Y12, S12⟩
                        case round =>
                          clear HRG2 HRG12 HE12 HNB12 HC12 Y12 S12
                          obtain ⟨L2, cnt2, cn2, hcg2, HRG2, HRG12, HE12, HNB12, HC12, Y12, S12⟩ := hrel
                          obtain ⟨w13, rfl⟩ : ∃ ww : World, ww = wr := ⟨_, rfl⟩
                          go_wp2_with (first
                            | (at_next; refine wpList_next_tx _ rfl _ rfl rfl HRG2.out ?_ ?_)
                            | fail)
                          · intro hl0
                            have HTN : Hid (TxM nb (NX Q1 n lt sy (rmv L u)) cn2 w13) := HNB12.out.eq fun v _ => NX2_end HST.out HUQ.out (by rw [HSNB.out]; exact HOKQ.out) hl0
                            have HCN : Hid (cn2 + cnt1 * m ≤ T) := by have := HC12.out; show _ ≤ _; omega
                            clear HRG2 HNB12 HC12
                            go_wp2_with fail
                            go_roundg cnt1
                            case measure => omega
                            case rel => exact ⟨rmv L u, cnt1, cn2, by omega, HRG12, HE12, HTN, HCN, Y12, S12⟩
                          · intro y v w14 cnt3 hv hQv hLv hBy hsy hrg3 hlt3 hg3 hs3 hen3
                            have hvl := HLEQ.out v hQv
                            have hcn2T : cn2 + cnt2 ≤ T := by have := HC12.out; omega
                            have HE14 := Lib.hid (HE12.out.grown hg3 (fun k e => by cases e; omega))
                            have HNB14 := Lib.hid (HNB12.out.kept hg3 (fun e => by have := Option.some.inj e; omega))
                            have Y14 := Lib.hid (bx_grown Y12.out hg3 (fun e => by have := Option.some.inj e; omega))
                            have S14 := Lib.hid (bx_grown S12.out hg3 (fun e => by have := Option.some.inj e; omega))
                            have HRG3 := Lib.hid hrg3
                            have HRG14 := Lib.hid (HRG12.out.kept hg3 (fun e => by have := Option.some.inj e; omega) (fun e => by have := Option.some.inj e; omega))
                            have HBY := Lib.hid hBy
                            have HVOK := Lib.hid hv
                            have HTM3 : Hid (∀ z, NX2 Q1 n lt sy L u (rmv L2 v) z ↔ NX2 Q1 n lt sy L u L2 z ∨ (z = u ++ v ∧ z.length ≤ n)) := fun z => NX2_step (by rw [HSNB.out]; exact hQv)
                            obtain ⟨vl, HVL⟩ := nameIt v.length
                            rw [HVL.out] at hsy hvl
                            have hwr : IntKind.i64.wrap ((ul : Int) + (vl : Int)) = ((ul + vl : Nat) : Int) := by rw [IntWalk.i64_in _ (by omega)]; omega
                            obtain ⟨uv, HUV⟩ := nameIt (ul + vl)
                            rw [HUV.out] at hwr
                            have huv : uv = ul + vl := HUV.out.symm
                            have HUV2 := Lib.hid huv
                            have huv2 : uv ≤ 24 := by omega
                            clear HRG2 HRG12 HE12 HNB12 Y12 S12 hv hQv hLv hBy hrg3 hg3 hs3 huv
                            obtain ⟨z0, z1⟩ := bx_cells2 S14.out
                            by_cases hfit : uv ≤ n
                            · have hfit' : (uv : Int) ≤ (n : Int) := by omega
                              obtain ⟨w15, cn', hup, hT15, hg15, hca, hcb⟩ := HNB14.out.add (u := u ++ v) (Q' := NX2 Q1 n lt sy L u (rmv L2 v)) (s := x ++ y) Tryd.underlying71 (okW_app HUOK.out HVOK.out) (by rw [kw_app]; exact HBX.out.app HBY.out) (by rw [ByteArray.size_append, hsx, hsy]; unfold maxLen; have := HUV2.out; omega) (by unfold maxLen; omega) (fun z _ => by
                                rw [HTM3.out z]
                                constructor
                                · rintro (h | ⟨h, _⟩)
                                  · exact .inl h
                                  · exact .inr h
                                · rintro (h | h)
                                  · exact .inl h
                                  · exact .inr ⟨h, by rw [h, List.length_append, HUL.out, HVL.out]; have := HUV2.out; omega⟩)
                              have hcn' : cn' ≤ cn2 + 1 := by
                                rcases Classical.em (NX2 Q1 n lt sy L u L2 (u ++ v)) with h | h
                                · rw [hca h]; omega
                                · rw [hcb h]; omega
                              have HRG15 := Lib.hid (HRG14.out.kept hg15 (fun e => by have := Option.some.inj e; omega) (fun e => by have := Option.some.inj e; omega))
                              have HRG4 := Lib.hid (HRG3.out.kept hg15 (fun e => by have := Option.some.inj e; omega) (fun e => by have := Option.some.inj e; omega))
                              have HE15 := Lib.hid (HE14.out.grown hg15 (fun k e => by cases e; omega))
                              have HT15 := Lib.hid hT15
                              have Y15 := Lib.hid (bx_grown Y14.out hg15 (fun e => by have := Option.some.inj e; omega))
                              have S15 := Lib.hid (bx_grown S14.out hg15 (fun e => by have := Option.some.inj e; omega))
                              have HC15 : Hid (cn' + cnt3 + cnt1 * m ≤ T) := by have := HC12.out; show _ ≤ _; omega
                              clear hT15 hg15 hca hcb HC12
                              go_wp2_with fail
                              go_roundg cnt3
                              case measure => omega
                              case rel => exact ⟨rmv L2 v, cnt3, cn', by omega, HRG4, HRG15, HE15, HT15, HC15, Y15, S15⟩
                            · have hfit' : ¬ (uv : Int) ≤ (n : Int) := by omega
                              have HT14 : Hid (TxM nb (NX2 Q1 n lt sy L u (rmv L2 v)) cn2 w14) := HNB14.out.eq fun z _ => by
                                rw [HTM3.out z]
                                constructor
                                · exact .inl
                                · rintro (h | ⟨h, h2⟩)
                                  · exact h
                                  · rw [h, List.length_append, HUL.out, HVL.out] at h2; have := HUV2.out; omega
                              have HC14 : Hid (cn2 + cnt3 + cnt1 * m ≤ T) := by have := HC12.out; show _ ≤ _; omega
                              go_wp2_with fail
                              go_roundg cnt3
                              case measure => omega
                              case rel => exact ⟨rmv L2 v, cnt3, cn2, by omega, HRG3, HRG14, HE14, HT14, HC14, Y14, S14⟩
                · have hjm' : ¬ (j : Int) < (rn : Int) := by omega
                  have HATE : Hid (TxM ab (atQ Q1 n rt) ca w7) := by
                    have := HAT.out
                    rwa [List.take_of_length_le (by rw [HRNL.out]; omega)] at this
                  have hca81 : ca ≤ 81000000000000 := Nat.le_trans HCA.out (pow3_le (by omega))
                  have HOKT : Hid (∀ a, atQ Q1 n rt a → okW a) := HOKA.out rt (fun s hs => hs)
                  have hnabl : ab < w7.heap.size := HAT.out.lt
                  have hngb : gb < w7.heap.size := lt_of_cell (bx_cells2 Y6.out).1
                  obtain ⟨rg, HNS10⟩ := nameIt w7.heap.size
                  rw [HNS10.out] at hnabl hngb
                  clear HAT HCA
                  go_wp2_with (first
                    | (at_range; refine wpList_range_tx _ rfl _ 71 rfl Tryd.underlying71 rfl HATE.out ?_; intro w8 hrg0 hb8 hs8)
                    | fail)
                  try go_frame
                  rw [HNS10.out] at hrg0
                  rw [HNS10.out]
                  have HRG := Lib.hid hrg0
                  have HE8 := Lib.hid (HE6.out.keep hb8)
                  have Y8 := Lib.hid (bx_keep Y6.out hb8)
                  have HSB : Hid (b = false → b = false ∧ Q1 = Q1 ∧ c1 = c1) := fun e => ⟨e, rfl, rfl⟩
                  have HCV : Hid (∀ z, okW z → atQ Q1 n rt z → ¬ atQ Q1 n rt z → Q1 A z) := fun z _ h1 h2 => absurd h1 h2
                  have HCA0 : Hid (c1 A + ca ≤ 3000 + ca) := by have := HCB.out A hAN; show _ ≤ _; omega
                  have HCO : Hid (∀ a, a < N → a ≠ A → c1 a ≤ 3000) := fun a ha _ => HCB.out a ha
                  clear hrg0 hb8 hs8 HE6 Y6 HATE
                  go_loopg [10, 19] ca (fun gg v10 v19 wr => ∃ (L : List Int → Prop) (cnt : Nat) (Q2 : Nat → List Int → Prop) (c2 : Nat → Nat) (b2 : Bool), cnt ≤ gg ∧ v10 = .bool b2 ∧ Hid (RgM ab rg (atQ Q1 n rt) L cnt wr) ∧ Hid (WI w G H ob N mb Q2 c2 wr) ∧ Hid (SoundQ K n Q2) ∧ Hid (b2 = false → b = false ∧ Q2 = Q1 ∧ c2 = c1) ∧ Hid (b2 = true → muQ c2 N < mu) ∧ Hid (∀ z, okW z → atQ Q1 n rt z → ¬ L z → Q2 A z) ∧ Hid (c2 A + cnt ≤ 3000 + ca) ∧ Hid (∀ a, a < N → a ≠ A → c2 a ≤ 3000) ∧ Hid (wr.heap[gb]? = some (.cells #[.int .i64 (A : Int), .slice sa rn sc] 32 (0, 0))))
                  case atStart => exact ⟨_, ca, Q1, c1, b, Nat.le_refl _, rfl, HRG, HE8, HS, HSB, HMB, HCV, HCA0, HCO, Y8⟩
                  case round =>
                    clear HRG HE8 HSB HCV HCA0 HCO Y8
                    obtain ⟨L, cnt, Q2, c2, b2, hcg, rfl, HRG, HE8, HS2, HSB, HMB2, HCV, HCA0, HCO, Y8⟩ := hrel
                    obtain ⟨w8', rfl⟩ : ∃ ww : World, ww = wr := ⟨_, rfl⟩
                    go_wp2_with (first
                      | (at_next; refine wpList_next_tx _ rfl _ rfl rfl HRG.out ?_ ?_)
                      | fail)
                    · intro hl0
                      have HALL : Hid (∀ z, atQ Q1 n rt z → Q2 A z) := fun z hz => HCV.out z (HOKT.out z hz) hz (hl0 z (HOKT.out z hz))
                      have HLEN : Hid (∀ ty, (Builtin.len_ #[63] ty #[.map (some (mb A))]).run Tryd.prog w8' = .ok (.int .i64 (c2 A : Int)) w8') := fun ty => (HE8.out.maps A hAN).len Tryd.underlying63 ty
                      have hmA := HMAPS.out w8' Q2 c2 HE8.out
                      have HNC : Hid (b2 = false → Q2 = Q ∧ c2 = c ∧ ClQTo K n Q (q + 1)) := by
                        intro e
                        obtain ⟨e1, e2, e3⟩ := HSB.out e
                        obtain ⟨e4, e5, e6⟩ := HC.out e1
                        refine ⟨e2.trans e4, e3.trans e5, HNX.out e6 ?_⟩
                        intro z hz
                        rw [HAL.out, ← e4, ← e2]
                        rw [HRT.out, ← e4] at hz
                        exact HALL.out z hz
                      have HF0 := Lib.hid (HFIN0.out w8' HE8.out.bel)
                      have HCBN : Hid (c2 A ≤ 3000 → ∀ a, a < N → c2 a ≤ 3000) := fun h a ha => by
                        by_cases e : a = A
                        · rw [e]; exact h
                        · exact HCO.out a ha e
                      have hcA : c2 A ≤ 3000 + ca := by have := HCA0.out; omega
                      obtain ⟨mA, HMA⟩ := nameIt (mb A)
                      rw [HMA.out] at hmA HLEN
                      obtain ⟨cA, HCAN⟩ := nameIt (c2 A)
                      rw [HCAN.out] at HLEN HCBN hcA
                      have hlen := HLEN.out
                      obtain ⟨y0, y1⟩ := bx_cells2 Y8.out
                      clear HRG HCV HCA0 HCO HSB HALL HLEN
                      by_cases hbig : 3000 < cA
                      · have hbig' : (3000 : Int) < (cA : Int) := by omega
                        go_wp2_with fail
                        exact HF0.out
                      · have hbig' : ¬ (3000 : Int) < (cA : Int) := by omega
                        have HCB3 := Lib.hid (HCBN.out (by omega))
                        go_wp2_with fail
                        go_roundg (kl - (q + 1))
                        case measure => omega
                        case rel => exact ⟨q + 1, Q2, c2, b2, by omega, by omega, rfl, by go_num, HE8, HS2, HCB3, HNC, HMB2⟩
                    · intro x u w9 cnt1 hu hQu hLu hBx hsx hrg1 hlt1 hg1 hs1 hen
                      have HE9 := Lib.hid (HE8.out.grown hg1 (fun k e => by cases e; omega))
                      have Y9 := Lib.hid (bx_grown Y8.out hg1 (fun e => by have := Option.some.inj e; omega))
                      have hul := HLE.out rt u hQu
                      have hc8 : c2 A + cnt ≤ 3000 + ca := HCA0.out
                      have hmA := HMAPS.out w9 Q2 c2 HE9.out
                      have HTA := HE9.out.maps A hAN
                      have hxm : x.size ≤ maxLen := by rw [hsx]; unfold maxLen; omega
                      obtain ⟨hlook1, hlook2⟩ := HTA.look Tryd.underlying63 hu hBx hxm
                      have HRG1 := Lib.hid hrg1
                      have HBX := Lib.hid hBx
                      have HUOK := Lib.hid hu
                      have HUQ := Lib.hid hQu
                      have hmbH := HSTA.out.1 A hAN
                      have HUA : Hid (u.length ≤ n ∧ Lang K A u) := HASND.out u hQu
                      clear HRG HE8 Y8 hu hBx hLu hrg1 hg1 hs1 HTA
                      obtain ⟨y0, y1⟩ := bx_cells2 Y9.out
                      rcases Classical.em (Q2 A u) with hq | hq
                      · have hlk := hlook1 hq
                        have HCVN : Hid (∀ z, okW z → atQ Q1 n rt z → ¬ rmv L u z → Q2 A z) := fun z h1 h2 h3 => by
                          by_cases e : z = u
                          · rw [e]; exact hq
                          · exact HCV.out z h1 h2 (fun h => h3 ⟨h, e⟩)
                        have HCAN : Hid (c2 A + cnt1 ≤ 3000 + ca) := by show _ ≤ _; omega
                        obtain ⟨mA, HMA⟩ := nameIt (mb A)
                        rw [HMA.out] at hmA hlk
                        clear hlook1 hlook2 hsx hc8 hxm hq
                        go_wp2_with fail
                        go_roundg cnt1
                        case measure => omega
                        case rel => exact ⟨rmv L u, cnt1, Q2, c2, b2, by omega, rfl, HRG1, HE9, HS2, HSB, HMB2, HCVN, HCAN, HCO, Y9⟩
                      · have hlk := hlook2 hq
                        obtain ⟨v0, st, wa, w10, c', hen1, hst1, hw10, hg10, hcc⟩ := HE9.out.entry hAN HUOK.out HBX.out hxm (by unfold maxLen; omega)
                        have hc1' : c' = c2 A + 1 := hcc hq
                        have HE10 := Lib.hid hw10
                        have Y10 := Lib.hid (bx_grown Y9.out hg10 (fun e => by have := Option.some.inj e; omega))
                        have HRG10 := Lib.hid (HRG1.out.kept hg10 (fun e => by have := Option.some.inj e; omega) (fun e => by have := Option.some.inj e; omega))
                        have HS10 : Hid (SoundQ K n (addQ Q2 A u)) := addQ_sound HS2.out HUA.out
                        have HMU10 : Hid (muQ (upd c2 A c') N < mu) := by
                          show _ < _
                          cases b2 with
                          | true => exact Nat.lt_of_le_of_lt (muQ_le (by omega)) (HMB2.out rfl)
                          | false =>
                            obtain ⟨e1, _, e3⟩ := HSB.out rfl
                            have e5 := (HC.out e1).2.1
                            have h1 : c2 A ≤ 3000 := by rw [e3]; exact HCB.out A hAN
                            have h2 := muQ_lt (c := c2) (x := c') hAN (by omega) h1
                            rw [e3, e5] at h2
                            rw [e3, e5, ← HMU.out]; exact h2
                        have HCVN : Hid (∀ z, okW z → atQ Q1 n rt z → ¬ rmv L u z → addQ Q2 A u A z) := fun z h1 h2 h3 => by
                          by_cases e : z = u
                          · exact .inr ⟨rfl, e⟩
                          · exact .inl (HCV.out z h1 h2 (fun h => h3 ⟨h, e⟩))
                        have HCAN : Hid (upd c2 A c' A + cnt1 ≤ 3000 + ca) := by
                          have : upd c2 A c' A = c' := by unfold upd; rw [if_pos rfl]
                          show _ ≤ _
                          rw [this]; omega
                        have HCON : Hid (∀ a, a < N → a ≠ A → upd c2 A c' a ≤ 3000) := fun a ha e => by
                          have : upd c2 A c' a = c2 a := by unfold upd; rw [if_neg e]
                          rw [this]; exact HCO.out a ha e
                        obtain ⟨mA, HMA⟩ := nameIt (mb A)
                        rw [HMA.out] at hmA hlk hen1 hst1
                        clear hlook1 hlook2 hsx hc8 hxm hq hw10 hg10 hcc hc1'
                        go_wp2_with fail
                        go_roundg cnt1
                        case measure => omega
                        case rel => exact ⟨rmv L u, cnt1, addQ Q2 A u, upd c2 A c', true, by omega, rfl, HRG10, HE10, HS10, (fun e => by cases e), (fun _ => HMU10.out), HCVN, HCAN, HCON, Y10⟩
            · have hlt' : ¬ (q : Int) < (kl : Int) := by omega
              have HCE : Hid (b = false → ClosedQ K n Q1) := by
                intro e
                obtain ⟨h1, _, h2⟩ := HC.out e
                rw [h1]
                exact clQ_end (by rw [HKL.out]; omega) h2
              have HMM : Hid (b = true → muQ c1 N + 1 ≤ mu) := HMB.out
              go_wp2_with fail
              go_roundg mu
              case measure => omega
              case rel => exact ⟨b, Q1, c1, rfl, HMM.out, HE, HS, HCB, HCE⟩
end Lg
end Go.Proofs.YthnkgmlhpefldaaDoor
namespace Go.Proofs.YthnkgmlhpefldaaDoor
open Go.RowKit

theorem made_atV (z : Value) (n j : Nat) (h : j < n) : (madeCells #[z] n)[j]? = some z := by
  simp [madeCells, h, Nat.mod_one]
/-- the row in block g has m cells, A k at place k -/
def Vrow (e : TypeId) (g m : Nat) (A : Nat → Value) (wr : World) : Prop := ∃ cs, wr.heap[g]? = some (.cells cs e (0, 0)) ∧ cs.size = m ∧ ∀ k, k < m → cs[k]? = some (A k)
section
variable {e : TypeId} {g m : Nat} {A A' : Nat → Value} {wr w' : World}
theorem Vrow.lt (h : Vrow e g m A wr) : g < wr.heap.size := by obtain ⟨cs, h1, _⟩ := h; exact (Array.getElem?_eq_some_iff.1 h1).1
theorem Vrow.keep (h : Vrow e g m A wr) (hb : Below wr.heap.size wr w') : Vrow e g m A w' := by obtain ⟨cs, h1, h2⟩ := h; exact ⟨cs, bx_keep h1 hb, h2⟩
theorem Vrow.grown {row : Option Nat} (h : Vrow e g m A wr) (hg : wr.grownBy w' row) (hr : row ≠ some g) : Vrow e g m A w' := by obtain ⟨cs, h1, h2⟩ := h; exact ⟨cs, (hg.block g (Array.getElem?_eq_some_iff.1 h1).1 (fun e => hr e.symm)).trans h1, h2⟩
theorem Vrow.cell (h : Vrow e g m A wr) {k : Nat} (hk : k < m) : wr.cell? ⟨g, k, none⟩ = some (A k) := by obtain ⟨cs, h1, h2, h3⟩ := h; simp [World.cell?, h1, h3 k hk]
theorem Vrow.free (h : Vrow e g m A wr) (k : Nat) : wr.frozen? ⟨g, k, none⟩ = false := by obtain ⟨cs, h1, h2, h3⟩ := h; simp [World.frozen?, h1]
theorem Vrow.eq (h : Vrow e g m A wr) (he : ∀ k, k < m → A k = A' k) : Vrow e g m A' wr := by obtain ⟨cs, h1, h2, h3⟩ := h; exact ⟨cs, h1, h2, fun k hk => by rw [h3 k hk, he k hk]⟩
theorem Vrow.set (h : Vrow e g m A wr) {j : Nat} {x : Value} (hj : j < m) (he : ∀ k, k < m → A' k = if k = j then x else A k) : Vrow e g m A' (wr.setCell ⟨g, j, none⟩ x) := by
  obtain ⟨cs, h1, h2, h3⟩ := h
  refine ⟨cs.setIfInBounds j x, bx_set h1 _ _, by simpa using h2, fun k hk => ?_⟩
  rw [Array.getElem?_setIfInBounds, he k hk]
  by_cases e : j = k
  · subst e; rw [if_pos rfl, if_pos (by omega)]; simp
  · rw [if_neg e, h3 k hk, if_neg (fun h => e h.symm)]
theorem Vrow.other (h : Vrow e g m A wr) {b : Nat} (hne : g ≠ b) (j : Nat) (v : Value) : Vrow e g m A (wr.setCell ⟨b, j, none⟩ v) := by obtain ⟨cs, h1, h2⟩ := h; exact ⟨cs, bx_other h1 hne _ _, h2⟩
theorem vrow_new (w : World) (e : TypeId) (z : Value) (m : Nat) {g : Nat} (hg : g = w.heap.size) : Vrow e g m (fun _ => z) (w.alloc (.cells (madeCells #[z] m) e)) := by
  subst hg
  exact ⟨_, bx_new _ _ _ rfl, size_madeCells _ _, fun k hk => made_atV _ _ _ hk⟩
end
end Go.Proofs.YthnkgmlhpefldaaDoor
namespace Go.Proofs.YthnkgmlhpefldaaDoor
open Go.RowKit
namespace Lg
open Tx

set_option maxHeartbeats 2000000 in
set_option maxRecDepth 100000 in
theorem keyE (u : List Int) (n : Nat) (hn : u.length = n) (hu : okW u) (hn2 : n ≤ 1000000) (a : Option Addr) (c : Nat) (w : World) (hw : Sl w (.slice a n c) (ints u)) :
    Calls Tryd.prog 35 #[.slice a n c] w fun e w' => ∃ s : ByteArray, e = .returned (.string s) ∧ Bts s (kw u) ∧ Below w.heap.size w w' := by
  obtain ⟨PST, HP⟩ := nameIt (fun (e : Ending) (w' : World) => ∃ s : ByteArray, e = .returned (.string s) ∧ Bts s (kw u) ∧ Below w.heap.size w w')
  rw [HP.out]
  have HFIN : Hid (∀ s w', Bts s (kw u) → Below w.heap.size w w' → PST (.returned (.string s)) w') := by
    intro s w' h1 h2; rw [← HP.out]; exact ⟨s, rfl, h1, h2⟩
  clear HP
  have hmk : ∀ W : World, (Instr.makeSlice 72 (.int .i64 (n : Int)) (.int .i64 (n : Int))).run Tryd.prog W = .ok (.slice (some ⟨W.heap.size, 0, none⟩) n n) (W.alloc (.cells (madeCells #[.int .u8 0] n) 5)) := fun W => by
    have := run_make_row' (P := Tryd.prog) 72 5 (.int .u8 0) 1 Tryd.underlying72 (by kernel_rfl) rfl .i64 .i64 n (by omega) (by omega) W
    simpa using this
  have HSL := Lib.hid hw
  have HNL := Lib.hid hn
  have HUOK := Lib.hid hu
  have hwb := hw.len.2
  unfold maxLen at hwb
  obtain ⟨hwc1, hwc2⟩ := hwb
  obtain ⟨w1, HW1⟩ := nameIt (w.alloc (.cells (madeCells #[.int .u8 0] n) 5))
  have hb1 : Below w.heap.size w w1 := by rw [← HW1.out]; exact (Below.refl _ _).alloc (Nat.le_refl _) _
  have HV1 : Hid (Vrow 5 w.heap.size n (fun k => if k < 0 then .int .u8 (u.getD k 0) else .int .u8 0) w1) := by
    rw [← HW1.out]
    exact (vrow_new w _ _ n rfl).eq fun k _ => by simp
  have HB1 := Lib.hid hb1
  obtain ⟨p, HPN⟩ := nameIt w.heap.size
  rw [HPN.out] at HV1
  have HPL : Hid (w.heap.size ≤ p) := by rw [← HPN.out]; exact Nat.le_refl _
  clear hb1 hn hu hw
  go_enter Tryd.func35, Tryd.ntmps35
  go_upto_region 2 with fail
  rw [HW1.out, HPN.out]
  go_wp2_with fail
  go_loopg [4, 5, 11] n (fun gg v4 v5 v11 wr => ∃ i : Nat, i ≤ n ∧ n - i ≤ gg ∧ v11 = .int .i64 i ∧ Hid (Vrow 5 p n (fun k => if k < i then .int .u8 (u.getD k 0) else .int .u8 0) wr) ∧ Hid (Below w.heap.size w wr))
  case atStart => exact ⟨0, by omega, by omega, rfl, HV1, HB1⟩
  case round =>
    clear HV1 HB1
    obtain ⟨i, hi, hg, rfl, HV, HB⟩ := hrel
    obtain ⟨w2, rfl⟩ : ∃ ww : World, ww = wr := ⟨_, rfl⟩
    by_cases hlt : i < n
    · have hlt' : (i : Int) < (n : Int) := by omega
      have hi0 : (0 : Int) ≤ (i : Int) := by omega
      obtain ⟨ba, oa, hae, hca⟩ := (HSL.out.keep HB.out).at hlt
      have hiu : i < u.length := by rw [HNL.out]; exact hlt
      have c0 := hca i (by rw [ints_len]; exact hiu)
      rw [ints_get] at c0
      have q0 := HV.out.cell hlt
      have qf := HV.out.free i
      have hgd : u.getD i 0 = u[i] := by simp [List.getD_eq_getElem?_getD, List.getElem?_eq_getElem hiu]
      have hsm := HUOK.out _ (List.getElem_mem hiu)
      have HVN : Hid (Vrow 5 p n (fun k => if k < i + 1 then .int .u8 (u.getD k 0) else .int .u8 0) (w2.setCell ⟨p, i, none⟩ (.int .u8 u[i]))) := HV.out.set hlt fun k _ => by
        by_cases e : k = i
        · subst e; rw [if_pos (by omega), if_pos rfl, hgd]
        · rw [if_neg e]
          by_cases e2 : k < i
          · rw [if_pos e2, if_pos (by omega)]
          · rw [if_neg e2, if_neg (by omega)]
      have HBN : Hid (Below w.heap.size w (w2.setCell ⟨p, i, none⟩ (.int .u8 u[i]))) := HB.out.setCell (p := ⟨p, i, none⟩) HPL.out _
      simp only [Nat.lt_irrefl, if_false] at q0
      obtain ⟨x, HX⟩ := nameIt u[i]
      rw [HX.out] at c0 hsm HVN HBN
      have hw8 : IntKind.u8.wrap x = x := by
        obtain ⟨h1, h2⟩ := hsm
        rw [IntKind.wrap_u8']; omega
      subst hae
      clear hca hgd hsm
      go_wp2_with fail
      go_roundg (n - (i + 1))
      case measure => omega
      case rel => exact ⟨i + 1, by omega, by omega, by go_num, HVN, HBN⟩
    · have hlt' : ¬ (i : Int) < (n : Int) := by omega
      have hcv := run_convert_bytes_arg (P := Tryd.prog) w2 72 5 Tryd.underlying72 Tryd.underlying5 p 0 n n u HNL.out (fun j hj => by
        have h := HV.out.cell hj
        simp only [show j < i by omega, if_true] at h
        rw [Nat.zero_add]; exact h) 9 Tryd.underlying9
      have HE := Lib.hid (HFIN.out (strOfNums u) w2 (by unfold Bts strOfNums kw; simp) HB.out)
      obtain ⟨ss, HSS⟩ := nameIt (strOfNums u)
      rw [HSS.out] at hcv HE
      go_wp2_with fail
      exact HE.out
set_option maxHeartbeats 1000000 in
theorem hasE (b cc : Nat) (Q : List Int → Prop) (u : List Int) (n : Nat) (hn : u.length = n) (hu : okW u) (hn2 : n ≤ 1000000) (a : Option Addr) (c : Nat) (w : World) (hm : TxM b Q cc w) (hw : Sl w (.slice a n c) (ints u)) (v : Bool) (hv : v = true ↔ Q u) :
    Calls Tryd.prog 26 #[.map (some b), .slice a n c] w fun e w' => e = .returned (.bool v) ∧ Below w.heap.size w w' := by
  have HK := Lib.hid (keyE u n hn hu hn2 a c w hw)
  have HM := Lib.hid hm
  have HUOK := Lib.hid hu
  have HV := Lib.hid hv
  have HN := Lib.hid hn
  clear hn hu hm hw hv
  go_enter Tryd.func26, Tryd.ntmps26
  go_wp2_with fail
  with_reducible refine HK.out.mono ?_
  rintro e w1 ⟨s, rfl, hbs, hb⟩
  have hss : s.size ≤ maxLen := by rw [hbs.size, kw_len, HN.out]; unfold maxLen; omega
  obtain ⟨h1, h2⟩ := (HM.out.keep hb).look Tryd.underlying63 HUOK.out hbs hss
  have HB := Lib.hid hb
  have hlk : (Instr.lookup 63 (.map (some b)) (.string s) false).run Tryd.prog w1 = .ok (.bool v) w1 := by
    cases v with
    | true => exact h1 (HV.out.1 rfl)
    | false => exact h2 (fun h => by have := HV.out.2 h; cases this)
  clear hb h1 h2 hbs hss
  go_wp2_with fail
  go_ret
  exact ⟨rfl, HB.out⟩
end Lg
end Go.Proofs.YthnkgmlhpefldaaDoor
namespace Go.Proofs.YthnkgmlhpefldaaDoor
open Go.RowKit
namespace Lg

def kidsW (T : Nat) (w : List Int) : List (List Int) := (List.range T).map fun t : Nat => w ++ [(t : Int)]
def lev (T : Nat) : Nat → List (List Int)
  | 0 => [[]]
  | k + 1 => (lev T k).flatMap (kidsW T)
def every (T n : Nat) : List (List Int) := (List.range (n + 1)).flatMap (lev T)
def geo (T : Nat) : Nat → Nat
  | 0 => 0
  | k + 1 => geo T k + T ^ k
section
variable {T n i : Nat}
theorem sum_c {α : Type} (c : Nat) : ∀ l : List α, (l.map fun _ => c).sum = l.length * c
  | [] => by simp
  | _ :: l => by rw [List.map_cons, List.sum_cons, sum_c c l, List.length_cons, Nat.add_mul]; omega
theorem every_len : (every T n).length = geo T (n + 1) := by
  unfold every
  have h : ∀ k, (lev T k).length = T ^ k := by
    intro k
    induction k with
    | zero => rfl
    | succ k ih =>
      rw [lev, List.length_flatMap, Nat.pow_succ]
      have : (lev T k).map (fun a => (kidsW T a).length) = (lev T k).map fun _ => T := List.map_congr_left fun a _ => by simp [kidsW]
      rw [this, sum_c, ih]
  induction n with
  | zero => simp [geo, lev]
  | succ m ih => rw [List.range_succ, List.flatMap_append, List.length_append, ih, geo]; simp [h, geo]
end
end Lg
end Go.Proofs.YthnkgmlhpefldaaDoor
namespace Go.Proofs.YthnkgmlhpefldaaDoor
open Go.RowKit
namespace Gs
open Lg Tx

theorem nodup_leG {α : Type} [BEq α] [LawfulBEq α] : ∀ (l m : List α), l.Nodup → (∀ x ∈ l, x ∈ m) → l.length ≤ m.length
  | [], m, _, _ => by simp
  | a :: l, m, hn, hs => by
    have ha := hs a List.mem_cons_self
    rw [List.nodup_cons] at hn
    have := nodup_leG l (m.erase a) hn.2 fun x hx => by
      have hne : x ≠ a := fun e => hn.1 (e ▸ hx)
      exact (List.mem_erase_of_ne hne).2 (hs x (List.mem_cons_of_mem _ hx))
    rw [List.length_erase_of_mem ha] at this
    have : 0 < m.length := List.length_pos_of_mem ha
    simp; omega
theorem lev_mem {T : Nat} : ∀ (k : Nat) (u : List Int), u.length = k → (∀ x ∈ u, 0 ≤ x ∧ x < (T : Int)) → u ∈ lev T k
  | 0, u, h, _ => by
    obtain rfl := List.eq_nil_of_length_eq_zero h
    simp [lev]
  | k + 1, u, h, hs => by
    have hne : u ≠ [] := fun e => by subst e; simp at h
    rw [lev, List.mem_flatMap]
    refine ⟨u.dropLast, lev_mem k _ (by simp [h]) (fun x hx => hs x (List.dropLast_subset _ hx)), ?_⟩
    have hx := hs (u.getLast hne) (List.getLast_mem hne)
    unfold kidsW
    rw [List.mem_map]
    refine ⟨(u.getLast hne).toNat, List.mem_range.2 (by omega), ?_⟩
    rw [show (((u.getLast hne).toNat : Nat) : Int) = u.getLast hne by omega]
    exact List.dropLast_concat_getLast hne
theorem every_has {T n : Nat} {u : List Int} (h : u.length ≤ n) (hs : ∀ x ∈ u, 0 ≤ x ∧ x < (T : Int)) : u ∈ every T n := by
  unfold every
  rw [List.mem_flatMap]
  exact ⟨u.length, List.mem_range.2 (by omega), lev_mem _ u rfl hs⟩
/-- words are of the rules' terminals -/
theorem lang_sym {rules : List Rule} {T : Nat} (ht : ∀ r ∈ rules, ∀ s ∈ r.right, s.term = true → 0 ≤ s.n ∧ s.n < (T : Int)) {A : Nat} {u : List Int} (h : Lang rules A u) : ∀ x ∈ u, 0 ≤ x ∧ x < (T : Int) := by
  refine lang_ind (P := fun _ u => ∀ x ∈ u, 0 ≤ x ∧ x < (T : Int)) ?_ h
  intro r hr A u _ hl
  have key : ∀ (l : List Sym) (u : List Int), (∀ s ∈ l, s.term = true → 0 ≤ s.n ∧ s.n < (T : Int)) → LL (fun _ u => ∀ x ∈ u, 0 ≤ x ∧ x < (T : Int)) l u → ∀ x ∈ u, 0 ≤ x ∧ x < (T : Int) := by
    intro l
    induction l with
    | nil => intro u _ h x hx; rw [show u = [] from h] at hx; simp at hx
    | cons s l ih =>
      rintro u hs ⟨a, b, rfl, h1, h2⟩ x hx
      rcases List.mem_append.1 hx with hx | hx
      · unfold LS at h1
        by_cases e : s.term = true
        · rw [if_pos e] at h1
          rw [h1] at hx
          simp at hx
          subst hx
          exact hs s List.mem_cons_self e
        · rw [if_neg e] at h1; exact h1 x hx
      · exact ih b (fun s hs' => hs s (List.mem_cons_of_mem _ hs')) h2 x hx
  exact key _ _ (ht r hr) hl
theorem no_many {rules : List Rule} (ht : ∀ r ∈ rules, ∀ s ∈ r.right, s.term = true → 0 ≤ s.n ∧ s.n < ((2 : Nat) : Int)) : ¬ Sm.Many rules 5 := by
  rintro ⟨A, l, h1, h2, h3⟩
  have := nodup_leG l (every 2 5) h1 fun u hu => every_has (h3 u hu).1 (lang_sym ht (h3 u hu).2)
  have h4 : (every 2 5).length = 63 := by rw [every_len]; rfl
  omega
section
variable {t n : Nat} {yes no : List (List Int)}
theorem LR_term (ht : 1 ≤ t) (ht2 : t ≤ 2) (hn : 1 ≤ n) (hn2 : n ≤ 2) {r : Rule} (hr : r ∈ LR t n) : 0 ≤ r.left ∧ r.left < (n : Int) ∧ r.right.length ≤ 2 ∧ (∀ s ∈ r.right, s.term = true → 0 ≤ s.n ∧ s.n < (t : Int)) ∧ ∀ s ∈ r.right, s.term = false → 0 ≤ s.n ∧ s.n < (n : Int) := by
  obtain ⟨h1, h2, h3, h4⟩ := (LR_ok ht ht2 hn hn2).2 r hr
  refine ⟨h1, h2, h3, fun s hs e => ?_, fun s hs e => ?_⟩ <;>
  · have := h4 s hs
    unfold hasS at this
    simp [e] at this
    exact this
def FitEnv (n : Nat) (yes no : List (List Int)) (nb yb ob : Nat) (ya : Option Addr) (yc : Nat) (oa : Option Addr) (oc : Nat) (w0 : World) : Prop :=
  w0.cell? ⟨nb, 0, none⟩ = some (.int .i64 (n : Int)) ∧ w0.cell? ⟨yb, 0, none⟩ = some (.slice ya yes.length yc) ∧ w0.cell? ⟨ob, 0, none⟩ = some (.slice oa no.length oc) ∧ Rd AnyB w0 (.sl (yes.map D.ints)) [.slice ya yes.length yc] ∧ Rd AnyB w0 (.sl (no.map D.ints)) [.slice oa no.length oc]
theorem okTmL (ht : 1 ≤ t) (ht2 : t ≤ 2) (hn : 1 ≤ n) (hn2 : n ≤ 2) {p : List Rule} (hp : p.Sublist (LR t n)) : (∀ r ∈ p, okRu n r) ∧ (∀ r ∈ p, Sm.okTm r) ∧ ∀ r ∈ p, ∀ s ∈ r.right, s.term = true → 0 ≤ s.n ∧ s.n < ((2 : Nat) : Int) := by
  refine ⟨fun r hr => ?_, fun r hr => ?_, fun r hr s hs e => ?_⟩
  · obtain ⟨h1, h2, h3, h4, h5⟩ := LR_term ht ht2 hn hn2 (hp.subset hr)
    refine ⟨h1, by omega, fun s hs => ?_⟩
    intro e
    have := h5 s hs e
    first | omega | exact ⟨by omega, by omega⟩
  · obtain ⟨h1, h2, h3, h4, h5⟩ := LR_term ht ht2 hn hn2 (hp.subset hr)
    refine ⟨by omega, fun s hs e => ?_⟩
    have := h4 s hs e
    unfold small
    omega
  · obtain ⟨h1, h2, h3, h4, h5⟩ := LR_term ht ht2 hn hn2 (hp.subset hr)
    have := h4 s hs e
    omega
set_option maxHeartbeats 4000000 in
set_option maxRecDepth 100000 in
theorem fitsE (ht : 1 ≤ t) (ht2 : t ≤ 2) (hn : 1 ≤ n) (hn2 : n ≤ 2) (hyo : wordOk (t : Int) yes) (hno : wordOk (t : Int) no) {nb yb ob : Nat} {ya : Option Addr} {yc : Nat} {oa : Option Addr} {oc : Nat} (p : List Rule) (hp : p.Sublist (LR t n)) (pa : Option Addr) (pc : Nat) (w : World) (henv : FitEnv n yes no nb yb ob ya yc oa oc w) (hr : Rd AnyB w (.sl (p.map Rule.d)) [.slice pa p.length pc]) :
    Calls Tryd.prog 24 #[.slice pa p.length pc, .pointer (some ⟨nb, 0, none⟩), .pointer (some ⟨yb, 0, none⟩), .pointer (some ⟨ob, 0, none⟩)] w fun e w' => e = .returned (.bool (fitG (t : Int) (n : Int) yes no p)) ∧ Below w.heap.size w w' := by
  obtain ⟨o1, o2, o3⟩ := okTmL ht ht2 hn hn2 hp
  have hwo := Sm.wordsOfE p n 5 hn (by omega) (by omega) o1 o2 pa pc w hr
  rw [show ((5 : Nat) : Int) = 5 from rfl] at hwo
  have HWO := Lib.hid hwo
  clear hwo
  have hnm := no_many o3
  obtain ⟨PST, HP⟩ := nameIt (fun (e : Ending) (w' : World) => e = .returned (.bool (fitG (t : Int) (n : Int) yes no p)) ∧ Below w.heap.size w w')
  rw [HP.out]
  obtain ⟨G, HG⟩ := nameIt (langB ⟨(t : Int), (n : Int), 0, p⟩)
  have HFT : Hid (fitG (t : Int) (n : Int) yes no p = (!(no.any G) && !(yes.any fun u => !G u))) := by show _ = _; rw [← HG.out]; rfl
  have HT1 : Hid (∀ w', (∀ u ∈ yes, G u = true) → (∀ u ∈ no, G u = false) → Below w.heap.size w w' → PST (.returned (.bool true)) w') := by
    intro w' h1 h2 h3
    rw [← HP.out]
    refine ⟨?_, h3⟩
    rw [HFT.out]
    have e1 : no.any G = false := by rw [List.any_eq_false]; intro u hu; simp [h2 u hu]
    have e2 : (yes.any fun u => !G u) = false := by rw [List.any_eq_false]; intro u hu; simp [h1 u hu]
    rw [e1, e2]; rfl
  have HFY : Hid (∀ w' u, u ∈ yes → G u = false → Below w.heap.size w w' → PST (.returned (.bool false)) w') := by
    intro w' u hu h2 h3
    rw [← HP.out]
    refine ⟨?_, h3⟩
    rw [HFT.out]
    have e2 : (yes.any fun u => !G u) = true := List.any_eq_true.2 ⟨u, hu, by simp [h2]⟩
    rw [e2]; simp
  have HFN : Hid (∀ w' u, u ∈ no → G u = true → Below w.heap.size w w' → PST (.returned (.bool false)) w') := by
    intro w' u hu h2 h3
    rw [← HP.out]
    refine ⟨?_, h3⟩
    rw [HFT.out]
    have e2 : no.any G = true := List.any_eq_true.2 ⟨u, hu, h2⟩
    rw [e2]; rfl
  have HGL : Hid (∀ u, G u = true ↔ Lang p 0 u) := fun u => by rw [← HG.out]; exact langB_iff
  have HYO := Lib.hid hyo
  have HNO := Lib.hid hno
  obtain ⟨x0, x1, x2, hry, hrn⟩ := henv
  have HEY : Hid (∀ W, Below w.heap.size w W → W.cell? ⟨yb, 0, none⟩ = some (.slice ya yes.length yc) ∧ W.cell? ⟨ob, 0, none⟩ = some (.slice oa no.length oc)) := fun W h => ⟨(h.cell (lt_of_cell x1)).trans x1, (h.cell (lt_of_cell x2)).trans x2⟩
  have HRY := Lib.hid hry
  have HRN := Lib.hid hrn
  have hby := hry.bounds.2
  have hbn := hrn.bounds.2
  unfold maxLen at hby hbn
  obtain ⟨yl, HYL⟩ := nameIt yes.length
  obtain ⟨nl, HNL⟩ := nameIt no.length
  obtain ⟨pl, HPL⟩ := nameIt p.length
  rw [HYL.out] at hby HRY
  rw [HNL.out] at hbn HRN
  simp only [HYL.out, HNL.out] at HEY
  rw [HPL.out] at HWO
  rw [HPL.out]
  clear hry hrn x1 x2 HP hr hp o1 o2 o3
  go_enter Tryd.func24, Tryd.ntmps24
  go_wp2_with fail
  with_reducible refine HWO.out.mono ?_
  intro e w1 hpost
  obtain ⟨hh, hb1⟩ := hpost
  rcases hh with ⟨rfl, hmany⟩ | ⟨qb, mb, Q, c, rfl, hmp, hsn, hcl⟩
  · exact absurd hmany hnm
  · obtain ⟨m0, hT⟩ := hmp 0 (by omega)
    have HQL : Hid (∀ u : List Int, u.length ≤ 5 → (Q 0 u ↔ Lang p 0 u)) := fun u hu => ⟨fun h => (hsn 0 u h).2, fun h => closed_allQ hcl h hu⟩
    have HM0 := Lib.hid m0
    have HTM := Lib.hid hT
    have HB1 := Lib.hid hb1
    obtain ⟨ms, HMS⟩ := nameIt (mb 0)
    rw [HMS.out] at HM0 HTM
    have HHAS : Hid (∀ (u : List Int) (k : Nat) a cc W, u.length = k → u.length ≤ 5 → (∀ x ∈ u, 0 ≤ x ∧ x < (t : Int)) → Below w1.heap.size w1 W → Sl W (.slice a k cc) (ints u) → Calls Tryd.prog 26 #[.map (some ms), .slice a k cc] W fun e w' => e = .returned (.bool (G u)) ∧ Below W.heap.size W w') := by
      intro u k a cc W h1 h2 h3 h4 h5
      refine Lg.hasE ms (c 0) (Q 0) u k h1 (fun x hx => by have := h3 x hx; unfold small; omega) (by omega) a cc W (HTM.out.keep h4) h5 (G u) ?_
      rw [HGL.out, HQL.out u h2]
    have HMC : Hid (∀ W, Below w1.heap.size w1 W → W.cell? ⟨qb, 0, none⟩ = some (.map (some ms))) := fun W h => (h.cell (lt_of_cell HM0.out)).trans HM0.out
    have hn0 : (0 : Int) < (n : Int) := by omega
    obtain ⟨y1, y2⟩ := HEY.out w1 hb1
    have HY0 : Hid (∀ i (h : i < yes.length), i < 0 → G yes[i] = true) := fun i h hi => by omega
    clear hmp hsn hcl m0 hT hb1 x0 hnm y2
    go_wp2_with fail
    go_loopg [9, 23] yl (fun gg v9 v23 wr => ∃ j : Nat, j ≤ yl ∧ yl - j ≤ gg ∧ v23 = .int .i64 (j : Int) ∧ Hid (∀ i (h : i < yes.length), i < j → G yes[i] = true) ∧ Hid (Below w1.heap.size w1 wr))
    case atStart => exact ⟨0, by omega, by omega, rfl, HY0, Below.refl _ _⟩
    case round =>
      clear HY0 y1
      obtain ⟨j, hj, hgj, rfl, HYJ, HB⟩ := hrel
      obtain ⟨w5, rfl⟩ : ∃ ww : World, ww = wr := ⟨_, rfl⟩
      by_cases hjy : j < yl
      · have hjy' : (j : Int) < (yl : Int) := by omega
        have hj0 : (0 : Int) ≤ (j : Int) := by omega
        have hjY : j < yes.length := by rw [HYL.out]; exact hjy
        obtain ⟨ba, oa', u, hae, -, c1, hru⟩ := ints_at (HRY.out.below (HB1.out.trans (HB.out.mono HB1.out.size))) hjY
        have hwo := HYO.out _ (List.getElem_mem hjY)
        obtain ⟨x, HX⟩ := nameIt (yes[j]'hjY)
        rw [HX.out] at hru hwo
        have hsl := sl_rd hru
        obtain ⟨ua, un, uc, rfl⟩ : ∃ a n c, u = .slice a n c := by obtain ⟨a, k, rfl⟩ := hsl.form; exact ⟨_, _, _, rfl⟩
        have hun : x.length = un := by have := hsl.len.1; rw [ints_len] at this; exact this.symm
        have HCF := Lib.hid (HHAS.out x un ua uc w5 hun hwo.1 hwo.2 HB.out hsl)
        have m1 := HMC.out w5 HB.out
        obtain ⟨gx, HGX⟩ := nameIt (G x)
        rw [HGX.out] at HCF
        subst hae
        clear hru hsl hun hwo
        go_wp2_with fail
        with_reducible refine HCF.out.mono ?_
        rintro e w6 ⟨rfl, hb6⟩
        have HB6 : Hid (Below w1.heap.size w1 w6) := HB.out.trans (hb6.mono HB.out.size)
        clear hb6 HCF m1 c1
        cases gx with
        | true =>
          have HYN : Hid (∀ i (h : i < yes.length), i < j + 1 → G yes[i] = true) := fun i h hi => by
            by_cases e : i = j
            · subst e; rw [HX.out]; exact HGX.out
            · exact HYJ.out i h (by omega)
          go_wp2_with fail
          go_roundg (yl - (j + 1))
          case measure => omega
          case rel => exact ⟨j + 1, by omega, by omega, by go_num, HYN, HB6⟩
        | false =>
          have HE := Lib.hid (HFY.out w6 x (by rw [← HX.out]; exact List.getElem_mem hjY) HGX.out (HB1.out.trans (HB6.out.mono HB1.out.size)))
          go_wp2_with fail
          exact HE.out
      · have hjy' : ¬ (j : Int) < (yl : Int) := by omega
        have HYA : Hid (∀ u ∈ yes, G u = true) := fun u hu => by
          obtain ⟨i, hi, rfl⟩ := List.getElem_of_mem hu
          exact HYJ.out i hi (by rw [HYL.out] at hi; omega)
        have HB5 : Hid (Below w.heap.size w w5) := HB1.out.trans (HB.out.mono HB1.out.size)
        obtain ⟨y1, y2⟩ := HEY.out w5 HB5.out
        have HN0 : Hid (∀ i (h : i < no.length), i < 0 → G no[i] = false) := fun i h hi => by omega
        have HBS := Lib.hid HB.out
        clear HYJ y1
        go_wp2_with fail
        go_loopg [11, 36] nl (fun gg v11 v36 wr => ∃ j : Nat, j ≤ nl ∧ nl - j ≤ gg ∧ v36 = .int .i64 (j : Int) ∧ Hid (∀ i (h : i < no.length), i < j → G no[i] = false) ∧ Hid (Below w1.heap.size w1 wr))
        case atStart => exact ⟨0, by omega, by omega, rfl, HN0, HBS⟩
        case round =>
          clear HN0 HBS y2 HB HB5
          obtain ⟨k, hk, hgk, rfl, HNJ, HB⟩ := hrel
          obtain ⟨w5, rfl⟩ : ∃ ww : World, ww = wr := ⟨_, rfl⟩
          by_cases hkn : k < nl
          · have hkn' : (k : Int) < (nl : Int) := by omega
            have hk0 : (0 : Int) ≤ (k : Int) := by omega
            have hkN : k < no.length := by rw [HNL.out]; exact hkn
            obtain ⟨ba, oa', u, hae, -, c1, hru⟩ := ints_at (HRN.out.below (HB1.out.trans (HB.out.mono HB1.out.size))) hkN
            have hwo := HNO.out _ (List.getElem_mem hkN)
            obtain ⟨x, HX⟩ := nameIt (no[k]'hkN)
            rw [HX.out] at hru hwo
            have hsl := sl_rd hru
            obtain ⟨ua, un, uc, rfl⟩ : ∃ a n c, u = .slice a n c := by obtain ⟨a, k, rfl⟩ := hsl.form; exact ⟨_, _, _, rfl⟩
            have hun : x.length = un := by have := hsl.len.1; rw [ints_len] at this; exact this.symm
            have HCF := Lib.hid (HHAS.out x un ua uc w5 hun hwo.1 hwo.2 HB.out hsl)
            have m1 := HMC.out w5 HB.out
            obtain ⟨gx, HGX⟩ := nameIt (G x)
            rw [HGX.out] at HCF
            subst hae
            clear hru hsl hun hwo
            go_wp2_with fail
            with_reducible refine HCF.out.mono ?_
            rintro e w6 ⟨rfl, hb6⟩
            have HB6 : Hid (Below w1.heap.size w1 w6) := HB.out.trans (hb6.mono HB.out.size)
            clear hb6 HCF m1 c1
            cases gx with
            | false =>
              have HNN : Hid (∀ i (h : i < no.length), i < k + 1 → G no[i] = false) := fun i h hi => by
                by_cases e : i = k
                · subst e; rw [HX.out]; exact HGX.out
                · exact HNJ.out i h (by omega)
              go_wp2_with fail
              go_roundg (nl - (k + 1))
              case measure => omega
              case rel => exact ⟨k + 1, by omega, by omega, by go_num, HNN, HB6⟩
            | true =>
              have HE := Lib.hid (HFN.out w6 x (by rw [← HX.out]; exact List.getElem_mem hkN) HGX.out (HB1.out.trans (HB6.out.mono HB1.out.size)))
              go_wp2_with fail
              exact HE.out
          · have hkn' : ¬ (k : Int) < (nl : Int) := by omega
            have HE := Lib.hid (HT1.out w5 HYA.out (fun u hu => by
              obtain ⟨i, hi, rfl⟩ := List.getElem_of_mem hu
              exact HNJ.out i hi (by rw [HNL.out] at hi; omega)) (HB1.out.trans (HB.out.mono HB1.out.size)))
            go_wp2_with fail
            exact HE.out
end
end Gs
end Go.Proofs.YthnkgmlhpefldaaDoor
namespace Go.Proofs.YthnkgmlhpefldaaDoor
open Go.RowKit
namespace Gs
open Lg

theorem Rd.dropR {S : Nat → Prop} {w : World} {L : List Rule} {b off n cap k : Nat} (h : Rd S w (.sl (L.map Rule.d)) [.slice (some ⟨b, off, none⟩) n cap]) (hk : k ≤ n) :
    Rd S w (.sl ((L.drop k).map Rule.d)) [.slice (some ⟨b, if cap = k then off else off + k * 2, none⟩) (n - k) (cap - k)] := by
  obtain ⟨a', cap', C, e, h1, h2, h3, h4, h5⟩ := h
  simp at e
  obtain ⟨rfl, rfl, rfl⟩ := e
  rw [List.length_map] at h1
  have hsp : L.map Rule.d = (L.take k).map Rule.d ++ (L.drop k).map Rule.d := by rw [← List.map_append, List.take_append_drop]
  rw [hsp] at h5
  obtain ⟨c1, c2, rfl, k1, k2⟩ := h5.split
  have hl1 : c1.length = k * 2 := by
    rw [RdAll.len _ _ k1, cellsAll_eq (rules_cells _)]; simp; omega
  refine ⟨some ⟨b, if cap = k then off else off + k * 2, none⟩, cap - k, c2, by simp, by simp; omega, by omega, (fun e => by cases e), fun i hi => ?_, k2⟩
  have hi2 : k * 2 + i < (c1 ++ c2).length := by rw [List.length_append]; omega
  obtain ⟨x, hx, hs, hc⟩ := h4 (k * 2 + i) hi2
  cases hx
  refine ⟨_, rfl, hs, ?_⟩
  have hne : cap ≠ k := by
    intro e
    have h6 := RdAll.len _ _ k2
    rw [cellsAll_eq (rules_cells _)] at h6
    simp at h6
    omega
  rw [if_neg hne]
  have e1 : (⟨b, off, none⟩ : Addr).add (k * 2 + i) = (⟨b, off + k * 2, none⟩ : Addr).add i := by
    unfold Addr.add
    by_cases e : i = 0 <;> simp [e] <;> omega
  rw [← e1, hc]
  rw [List.getElem_append_right (by omega)]
  congr 1
  congr 1
  omega
def MkP (T N : Int) (p : List Rule) (S : Nat → Prop) (w : World) (e : Ending) (w' : World) : Prop :=
  ∃ a c, e = .returned (.tuple #[.agg #[.int .i64 T, .int .i64 N, .int .i64 0, .slice a p.length c], .bool true]) ∧ Rd (fun k => S k ∨ w.heap.size ≤ k) w' (.sl (p.map Rule.d)) [.slice a p.length c] ∧ Below w.heap.size w w'
set_option maxHeartbeats 4000000 in
set_option maxRecDepth 100000 in
theorem make1E (T N : Int) (tb nb : Nat) (p : List Rule) (hp : p.length ≤ 100) (S : Nat → Prop) (pa : Option Addr) (pc : Nat) (w : World) (h0 : w.cell? ⟨tb, 0, none⟩ = some (.int .i64 T)) (h1 : w.cell? ⟨nb, 0, none⟩ = some (.int .i64 N)) (hr : Rd S w (.sl (p.map Rule.d)) [.slice pa p.length pc]) :
    Calls Tryd.prog 27 #[.slice pa p.length pc, .pointer (some ⟨tb, 0, none⟩), .pointer (some ⟨nb, 0, none⟩)] w (MkP T N p S w) := by
  obtain ⟨PST, HP⟩ := nameIt (MkP T N p S w)
  rw [HP.out]
  obtain ⟨w1, HW1⟩ := nameIt (w.alloc (.cells #[.int .i64 0, .int .i64 0, .int .i64 0, .slice none 0 0] 25))
  have hb1 : Below w.heap.size w w1 := by rw [← HW1.out]; exact (Below.refl _ _).alloc (Nat.le_refl _) _
  have hs1 : w1.heap.size = w.heap.size + 1 := by rw [← HW1.out]; simp
  have X0 : Hid (w1.heap[w.heap.size]? = some (.cells #[.int .i64 0, .int .i64 0, .int .i64 0, .slice none 0 0] 25 (0, 0))) := by rw [← HW1.out]; exact bx_new _ _ _ rfl
  have HFIN : Hid (∀ a c w' y0 y1 y2 y3, RowD (fun k => S k ∧ k < w.heap.size) (w.heap.size + 1) 32 2 (p.map Rule.d) (.slice a p.length c) w' → Below w1.heap.size w1 w' → PST (.returned (.tuple #[.agg #[.int .i64 T, .int .i64 N, .int .i64 0, .slice a p.length c], .bool true])) ((((w'.setCell ⟨w.heap.size, 0, none⟩ y0).setCell ⟨w.heap.size, 1, none⟩ y1).setCell ⟨w.heap.size, 2, none⟩ y2).setCell ⟨w.heap.size, 3, none⟩ y3)) := by
    intro a c w' y0 y1 y2 y3 h2 h3
    rw [← HP.out]
    obtain ⟨⟨xs, ho, hd⟩, hle⟩ := h2
    have h4 : Rd (fun k => (S k ∨ w.heap.size ≤ k) ∧ k ≠ w.heap.size) w' (.sl (p.map Rule.d)) [.slice a p.length c] := by
      rw [List.length_map] at ho
      exact rd_of_own ho (hd.mono fun k hk _ => ⟨.inl hk.1.1, by have := hk.1.2; omega⟩) (by simp) (fun k e => by have := (ho.lt k e).1; exact ⟨.inr (by omega), by omega⟩)
    exact ⟨a, c, rfl, (Rd.box4 h4 (b := w.heap.size) (fun h => h.2 rfl) y0 y1 y2 y3).mono fun k hk _ => hk.1, below_box4 (hb1.trans (h3.mono hb1.size)) (Nat.le_refl _) _ _ _ _⟩
  clear HP
  have x0 := (hb1.cell (lt_of_cell h0)).trans h0
  have x1 := (hb1.cell (lt_of_cell h1)).trans h1
  have HCL : Hid (∀ W, Below w1.heap.size w1 W → Calls Tryd.prog 17 #[.slice pa p.length pc] W fun e w' => ∃ a c, e = .returned (.slice a p.length c) ∧ RowD (fun k => S k ∧ k < w.heap.size) (w.heap.size + 1) 32 2 (p.map Rule.d) (.slice a p.length c) w' ∧ Below W.heap.size W w') := fun W h =>
    (cloneRules (fun k => S k ∧ k < w.heap.size) p pa pc W (((hr.mono (S' := fun k => S k ∧ k < w.heap.size) fun k hk hlt => ⟨hk, hlt⟩).below hb1).below h) (by omega)).mono fun e w' ⟨a, c, e1, e2, e3⟩ => ⟨a, c, e1, e2.lower (by have := h.size; omega), e3⟩
  obtain ⟨pl, HPL⟩ := nameIt p.length
  obtain ⟨rb, HRB⟩ := nameIt w.heap.size
  rw [HPL.out] at HCL HFIN
  rw [HRB.out] at X0 HFIN
  simp only [HRB.out] at HCL
  rw [HPL.out]
  clear hb1 hs1 h0 h1 hr
  go_enter Tryd.func27, Tryd.ntmps27
  go_upto_region 1 with fail
  rw [HW1.out, HRB.out]
  have HBD : Hid (Below w1.heap.size w1 w1.drew) := (Below.refl _ _).drew
  obtain ⟨wd, HWD⟩ := nameIt w1.drew
  rw [HWD.out] at HBD
  have HS : Hid (∀ W', Below w1.heap.size w1 W' → (fun w' => w'.cell? ⟨tb, 0, none⟩ = some (.int .i64 T) ∧ w'.cell? ⟨nb, 0, none⟩ = some (.int .i64 N)) W') := fun W' h => ⟨(h.cell (lt_of_cell x0)).trans x0, (h.cell (lt_of_cell x1)).trans x1⟩
  refine wp_region_U (S := (fun w' => w'.cell? ⟨tb, 0, none⟩ = some (.int .i64 T) ∧ w'.cell? ⟨nb, 0, none⟩ = some (.int .i64 N))) 5 (by kernel_rfl) (fun inv => ?_)
  rw [HWD.out]
  clear HWD
  refine wpU_take (i := 0) (v := .int .i64 T) rfl inv (by kernel_rfl) (by kernel_rfl) (by decide) (by decide) (by kernel_rfl) (by kernel_rfl) (by kernel_rfl) (fun _ _ _ h => h) (Or.inl ⟨by rfl, fun w' hw' => ?_⟩) (HS.out _ HBD.out) (fun inv => ?_)
  · obtain ⟨h0, h1⟩ := hw'
    go_simp
  try simp only [Act.put, List.setIfInBounds_toArray, List.set_cons_zero, List.set_cons_succ]
  refine wpU_take (i := 1) (v := .int .i64 N) rfl inv (by kernel_rfl) (by kernel_rfl) (by decide) (by decide) (by kernel_rfl) (by kernel_rfl) (by kernel_rfl) (fun _ _ _ h => h) (Or.inl ⟨by rfl, fun w' hw' => ?_⟩) (HS.out _ HBD.out) (fun inv => ?_)
  · obtain ⟨h0, h1⟩ := hw'
    go_simp
  try simp only [Act.put, List.setIfInBounds_toArray, List.set_cons_zero, List.set_cons_succ]
  refine wpU_take (i := 2) (v := .slice pa pl pc) rfl inv (by kernel_rfl) (by kernel_rfl) (by decide) (by decide) (by kernel_rfl) (by kernel_rfl) (by kernel_rfl) (fun _ _ _ h => h) (Or.inl ⟨by rfl, fun w' hw' => ?_⟩) (HS.out _ HBD.out) (fun inv => ?_)
  · obtain ⟨h0, h1⟩ := hw'
    go_simp
  try simp only [Act.put, List.setIfInBounds_toArray, List.set_cons_zero, List.set_cons_succ]
  refine wpU_one (i := 3) (by kernel_rfl) rfl (fun K hK => ?_)
  replace inv := inv_setc (i := 3) inv (by kernel_rfl) (by decide)
  go_simp
  with_reducible refine (HCL.out wd HBD.out).mono ?_
  rintro e w2 ⟨ac, cc, rfl, hrow, hb2⟩
  have HROW := Lib.hid hrow
  have HB2 : Hid (Below w1.heap.size w1 w2) := HBD.out.trans (hb2.mono HBD.out.size)
  clear hrow hb2
  refine hK.out _ _ (fun _ => HS.out _ HB2.out) ?_
  clear hK K
  try simp only [Act.put, List.setIfInBounds_toArray, List.set_cons_zero, List.set_cons_succ]
  refine wpU_one (i := 4) (by kernel_rfl) rfl (fun K hK => ?_)
  replace inv := inv_setc (i := 4) inv (by kernel_rfl) (by decide)
  go_simp
  refine hK.out _ _ (fun _ => HS.out _ HB2.out) ?_
  clear hK K
  try simp only [Act.put, List.setIfInBounds_toArray, List.set_cons_zero, List.set_cons_succ]
  obtain ⟨z0, z1, z2, z3⟩ := bx_cells4 (bx_keep X0.out HB2.out)
  obtain ⟨f0, f1, f2, f3⟩ := bx_free4 (bx_keep X0.out HB2.out)
  refine wpU_one (i := 5) (by kernel_rfl) rfl (fun K hK => ?_)
  go_simp
  refine hK.out _ _ (fun h => absurd (show true = false from h) (by decide)) ?_
  clear hK K
  try simp only [Act.put, List.setIfInBounds_toArray, List.set_cons_zero, List.set_cons_succ]
  refine wpU_one (i := 6) (by kernel_rfl) rfl (fun K hK => ?_)
  go_simp
  refine hK.out _ _ (fun h => absurd (show true = false from h) (by decide)) ?_
  clear hK K
  try simp only [Act.put, List.setIfInBounds_toArray, List.set_cons_zero, List.set_cons_succ]
  refine wpU_done (by kernel_rfl) ?_ _
  go_wp2_with fail
  refine bodyPost_ret (v := .tuple #[.agg #[.int .i64 T, .int .i64 N, .int .i64 0, .slice ac pl cc], .bool true]) (by simp [results, Tryd.results27, go_sem, z0, z1, z2, z3]) rfl ?_
  exact HFIN.out _ _ _ _ _ _ _ HROW.out HB2.out
end Gs
end Go.Proofs.YthnkgmlhpefldaaDoor
