/- parlref5.WordsOf. Plain and memory: what parlref5.WordsOf keeps. -/
import Derived.Test.YthnkgmlhpefldaaDoorJGuessTellsRow6
import Derived.Test.YthnkgmlhpefldaaDoorJGuessTellsRow2
import Derived.Deep.DeepCutAuto
namespace Go.Proofs.YthnkgmlhpefldaaDoor
open Go.RowKit
namespace Lg
namespace Sm
open Tx

def okTm (r : Rule) : Prop := r.right.length ≤ 4 ∧ ∀ s ∈ r.right, s.term = true → small s.n
theorem okTm_of {g : Gram} (h : checkG g = 0) : ∀ r ∈ g.rules, okTm r := by
  obtain ⟨⟨h1, h2, _⟩, _, h8⟩ := checkG_zero h
  intro r hr
  obtain ⟨_, _, a3, a4⟩ := h8 r hr
  refine ⟨a3, fun s hs e => ?_⟩
  have := a4 s hs
  unfold hasS at this
  rw [e] at this
  simp at this
  exact ⟨this.1, by omega⟩
theorem pow3_le {j : Nat} (h : j ≤ 4) : 200 ^ j ≤ 81000000000000 := Nat.le_trans (Nat.pow_le_pow_right (by decide) h) (by decide)
set_option maxHeartbeats 16000000 in
set_option maxRecDepth 100000 in
theorem wordsOfE (K : List Rule) (N n : Nat) (hN1 : 1 ≤ N) (hN10 : N ≤ 10) (hn12 : n ≤ 12) (hok : ∀ r ∈ K, okRu N r) (htm : ∀ r ∈ K, okTm r) (ar : Option Addr) (cr : Nat) (w : World) (hr : Rd AnyB w (.sl (K.map Rule.d)) [.slice ar K.length cr]) :
    Calls Tryd.prog 25 #[.agg #[.int .i64 (N : Int), .slice ar K.length cr], .int .i64 (n : Int), .int .i64 200] w (WoPost K N n w) := by
  have hbs := hr.bounds.2
  unfold maxLen at hbs
  obtain ⟨hc1, hc2⟩ := hbs
  have HR := Lib.hid hr
  obtain ⟨PST, HP⟩ := nameIt (WoPost K N n w)
  have HFIN : Hid (∀ G H ob mb Q c w', WI w G H ob N mb Q c w' → SoundQ K n Q → ClosedQ K n Q → PST (.returned (.tuple #[.slice (some ⟨ob, 0, none⟩) N N, .bool true])) w') := by
    intro G H ob mb Q c w' h1 h2 h3
    rw [← HP.out]
    exact ⟨.inr ⟨ob, mb, Q, c, rfl, fun a ha => ⟨h1.head ha, h1.maps a ha⟩, h2, h3⟩, h1.bel⟩
  have HFIN0 : Hid (∀ w', Below w.heap.size w w' → Many K n → PST (.returned (.tuple #[.slice none 0 0, .bool false])) w') := by
    intro w' h h2
    rw [← HP.out]
    exact ⟨.inl ⟨rfl, h2⟩, h⟩
  rw [HP.out]
  clear HP
  have HOK := Lib.hid hok
  have HTM := Lib.hid htm
  have HTM2 : Hid (∀ r ∈ K, ∀ s ∈ r.right, s.term = true → small s.n) := fun r hr => (htm r hr).2
  obtain ⟨kl, HKL⟩ := nameIt K.length
  rw [HKL.out] at HR hc1
  rw [HKL.out]
  have hmk1 : ∀ W : World, (Instr.makeSlice 57 (.int .i64 (N : Int)) (.int .i64 (N : Int))).run Tryd.prog W = .ok (.slice (some ⟨W.heap.size, 0, none⟩) N N) (W.alloc (.cells (madeCells #[.map none] N) 63)) := fun W => by
    have := run_make_row' (P := Tryd.prog) 57 63 (.map none) 8 Tryd.underlying57 (by kernel_rfl) rfl .i64 .i64 N (by omega) (by omega) W
    simpa using this
  have hmm : ∀ W : World, (Instr.makeMap 71 none).run Tryd.prog W = .ok (.map (some W.heap.size)) (W.alloc (.map #[] 0)) := fun W => by
    simp [Instr.makeMap, run_underlying Tryd.underlying71]; try rfl
  obtain ⟨G, HG⟩ : ∃ G : Array Value, Hid (G = #[.int .i64 N, .slice ar kl cr]) := ⟨_, rfl⟩
  obtain ⟨w0, HW0⟩ := nameIt (w.alloc (.cells #[.int .i64 N, .slice ar kl cr] 61))
  have HB0 : Hid (Below w.heap.size w w0) := by rw [← HW0.out]; exact (Below.refl _ _).alloc (Nat.le_refl _) _
  have X1 : Hid (w0.heap[w.heap.size]? = some (.cells #[.int .i64 N, .slice ar kl cr] 61 (0, 0))) := by rw [← HW0.out]; exact bx_new _ _ _ rfl
  have hs0 : w0.heap.size = w.heap.size + 1 := by rw [← HW0.out]; simp
  obtain ⟨ob, HOB⟩ := nameIt w0.heap.size
  have HI0 : Hid (∃ mb, WG w G ob N mb 0 (w0.alloc (.cells (madeCells #[.map none] N) 63))) := by
    refine ⟨fun _ => 0, HB0.out.alloc (by omega) _, ?_, ⟨_, _, bx_new _ _ _ HOB.out.symm, size_madeCells _ _, fun a ha => by omega⟩, fun a ha => by omega, fun a b ha => by omega, fun a ha => by omega, by have := HOB.out; omega⟩
    rw [HG.out]
    exact bx_keep X1.out ((Below.refl _ _).alloc (Nat.le_refl _) _)
  obtain ⟨x0, x1⟩ := bx_cells2 X1.out
  have hl0 : w.heap.size < w0.heap.size := by omega
  clear hr hok hs0 htm
  go_enter Tryd.func25, Tryd.ntmps25
  go_upto_region 1 with fail
  rw [HW0.out]
  go_wp2_with fail
  rw [HOB.out]
  clear x0 x1 hmk1
  go_loopg [9, 25] N (fun gg v9 v25 wr => ∃ k : Nat, k ≤ N ∧ N - k ≤ gg ∧ v25 = .int .i64 k ∧ Hid (∃ mb, WG w G ob N mb k wr))
  case atStart => exact ⟨0, by omega, by omega, rfl, HI0⟩
  case round =>
    clear HI0
    obtain ⟨k, hk, hg, rfl, HI⟩ := hrel
    by_cases hkN : k < N
    · have hkN' : (k : Int) < (N : Int) := by omega
      obtain ⟨mb, hd⟩ := HI.out
      have hob := hd.lt
      obtain ⟨⟨vc, hc8⟩, hf8⟩ := hd.hcell hkN
      have HT1 : Hid (∃ mb, WG w G ob N mb (k + 1) ((wr.alloc (.map #[] 0)).setCell ⟨ob, k, none⟩ (.map (some wr.heap.size)))) := ⟨_, hd.add hkN⟩
      have hne8 : ¬ ob = wr.heap.size := by omega
      have hne9 : ¬ wr.heap.size = ob := by omega
      obtain ⟨w1, HW1⟩ := nameIt ((wr.alloc (.map #[] 0)).setCell ⟨ob, k, none⟩ (.map (some wr.heap.size)))
      have hcomm : (wr.setCell ⟨ob, k, none⟩ (.map (some wr.heap.size))).alloc (.map #[] 0) = w1 := by
        rw [← HW1.out]
        simp [go_sem, hob]
      have HCM := Lib.hid hcomm
      rw [HW1.out] at HT1
      clear hcomm hd
      go_upto_region 6 with fail
      first | rw [HCM.out] | rw [HW1.out]
      clear hc8 hf8 hne8 hne9
      go_wp2_with fail
      go_roundg (N - (k + 1))
      case measure => omega
      case rel => exact ⟨k + 1, by omega, by omega, by go_num, HT1⟩
    · have hkN' : ¬ (k : Int) < (N : Int) := by omega
      obtain ⟨mb, hd⟩ := HI.out
      have hkk : k = N := by omega
      rw [hkk] at hd
      obtain ⟨H, HH⟩ := nameIt wr.heap.size
      obtain ⟨Q0, HQ0⟩ : ∃ Q0 : Nat → List Int → Prop, Hid (Q0 = fun _ _ => False) := ⟨_, rfl⟩
      obtain ⟨c0, HC0⟩ : ∃ c0 : Nat → Nat, Hid (c0 = fun _ => 0) := ⟨_, rfl⟩
      have HD0 : Hid (WI w G H ob N mb Q0 c0 wr) := by rw [← HH.out, HQ0.out, HC0.out]; exact hd.fin
      have HS0 : Hid (SoundQ K n Q0) := by rw [HQ0.out]; intro A u h; exact h.elim
      have HCB0 : Hid (∀ a, a < N → c0 a ≤ 200) := by rw [HC0.out]; intro a _; exact Nat.zero_le _
      have HSTA : Hid ((∀ a, a < N → mb a < H) ∧ ob < H ∧ w.heap.size < H) := ⟨fun a ha => (HD0.out.ne a ha).2.2, HD0.out.pl.2, by have := HD0.out.pl; omega⟩
      clear hd hkk HI
      go_wp2_with fail
      go_loopg [10, 12, 13, 15, 16, 17, 18, 19] (muQ c0 N + 1) (fun gg v10 v12 v13 v15 v16 v17 v18 v19 wr => ∃ (ag : Bool) (Q : Nat → List Int → Prop) (c : Nat → Nat), v10 = .bool ag ∧ (ag = true → muQ c N + 1 ≤ gg) ∧ Hid (WI w G H ob N mb Q c wr) ∧ Hid (SoundQ K n Q) ∧ Hid (∀ a, a < N → c a ≤ 200) ∧ Hid (ag = false → ClosedQ K n Q))
      case atStart => exact ⟨true, Q0, c0, rfl, (fun _ => Nat.le_refl _), HD0, HS0, HCB0, (fun e => by cases e)⟩
      case round =>
        clear HD0 HS0 HCB0
        obtain ⟨ag, Q, c, rfl, hgg, HE, HS, HCB, HAG⟩ := hrel
        obtain ⟨w3, rfl⟩ : ∃ ww : World, ww = wr := ⟨_, rfl⟩
        cases ag with
        | false =>
          have HX := Lib.hid (HFIN.out G H ob mb Q c w3 HE.out HS.out (HAG.out rfl))
          clear hgg HAG
          go_wp2_with fail
          exact HX.out
        | true =>
          have hgg' := hgg rfl
          obtain ⟨mu, HMU⟩ := nameIt (muQ c N)
          rw [HMU.out] at hgg'
          have hbx := HE.out.box
          rw [HG.out] at hbx
          obtain ⟨x0, x1⟩ := bx_cells2 hbx
          have HC0' : Hid (ClQTo K n Q 0) := fun r hr => by simp at hr
          clear hgg HAG hbx
          go_wp2_with fail
          clear x0 x1
          go_loopg [10, 12, 13, 15, 16, 17, 18, 19, 37] kl (fun gg v10 v12 v13 v15 v16 v17 v18 v19 v37 wr => ∃ (q : Nat) (Q1 : Nat → List Int → Prop) (c1 : Nat → Nat) (b : Bool), q ≤ kl ∧ kl - q ≤ gg ∧ v10 = .bool b ∧ v37 = .int .i64 q ∧ Hid (WI w G H ob N mb Q1 c1 wr) ∧ Hid (SoundQ K n Q1) ∧ Hid (∀ a, a < N → c1 a ≤ 200) ∧ Hid (b = false → Q1 = Q ∧ c1 = c ∧ ClQTo K n Q q) ∧ Hid (b = true → muQ c1 N < mu))
          case atStart => exact ⟨0, Q, c, false, by omega, by omega, rfl, rfl, HE, HS, HCB, (fun _ => ⟨rfl, rfl, HC0'.out⟩), (fun e => by cases e)⟩
          case round =>
            clear HE HS HCB HC0'
            obtain ⟨q, Q1, c1, b, hq, hg2, rfl, rfl, HE, HS, HCB, HC, HMB⟩ := hrel
            obtain ⟨w4, rfl⟩ : ∃ ww : World, ww = wr := ⟨_, rfl⟩
            by_cases hlt : q < kl
            · have hlt' : (q : Int) < (kl : Int) := by omega
              have hq0 : (0 : Int) ≤ (q : Int) := by omega
              have hqx : q < K.length := by rw [HKL.out]; exact hlt
              obtain ⟨rbk, ro, rv, hae, -, hrb, r0, r1, hrr⟩ := (show Rd AnyB w (.sl (K.map Rule.d)) [.slice ar K.length cr] by rw [HKL.out]; exact HR.out).rule_at hqx
              obtain ⟨sa, sc, rfl, hsc1, hsc2⟩ := hrr.form
              rw [List.length_map] at r1 hrr hsc1
              have t0 := (HE.out.bel.cell (lt_of_cell r0)).trans r0
              have t1 := (HE.out.bel.cell (lt_of_cell r1)).trans r1
              have HRR := Lib.hid hrr
              have HOR := Lib.hid (HOK.out _ (List.getElem_mem hqx))
              have HTR := Lib.hid (HTM.out _ (List.getElem_mem hqx))
              have HMEM := Lib.hid (List.getElem_mem hqx)
              have HNX : Hid (ClQTo K n Q q → ClQ n Q K[q] → ClQTo K n Q (q + 1)) := fun h1 h2 => clQ_next hqx h1 h2
              obtain ⟨r, HRN⟩ := nameIt (K[q]'hqx)
              rw [HRN.out] at t0 t1 HRR HOR HTR hsc1 HMEM HNX
              obtain ⟨hr1, hr2, hr3⟩ := HOR.out
              obtain ⟨hr4, hr5⟩ := HTR.out
              obtain ⟨A, hA⟩ : ∃ A : Nat, r.left = (A : Int) := ⟨r.left.toNat, by omega⟩
              have hAN : A < N := by rw [hA] at hr2; simpa using hr2
              have HAL : Hid (r.left.toNat = A) := by show _ = _; rw [hA]; simp
              have HASND : Hid (∀ u, atQ Q1 n r.right u → u.length ≤ n ∧ Lang K A u) := fun u hu => by
                have := atQ_sound HS.out HMEM.out hr1 hu
                rw [HAL.out] at this; exact this
              rw [hA] at t0
              have HOS := Lib.hid hr3
              have HTS := Lib.hid hr5
              have hA0 : (0 : Int) ≤ (A : Int) := by omega
              have hA1 : (A : Int) < (N : Int) := by omega
              obtain ⟨rt, HRT⟩ := nameIt r.right
              rw [HRT.out] at t1 HRR HOS HTS hsc1 hr4 HASND
              obtain ⟨rn, HRNL⟩ := nameIt rt.length
              rw [HRNL.out] at t1 hsc1 hr4
              obtain ⟨w5, HW5⟩ := nameIt (w4.alloc (.cells #[.int .i64 (A : Int), .slice sa rn sc] 32))
              have hb5 : Below w4.heap.size w4 w5 := by rw [← HW5.out]; exact (Below.refl _ _).alloc (Nat.le_refl _) _
              have HE5 := Lib.hid (HE.out.keep hb5)
              have Y5 : Hid (w5.heap[w4.heap.size]? = some (.cells #[.int .i64 (A : Int), .slice sa rn sc] 32 (0, 0))) := by rw [← HW5.out]; exact bx_new _ _ _ rfl
              have hgbH : H ≤ w4.heap.size := HE.out.hs
              obtain ⟨gb, HGB⟩ := nameIt w4.heap.size
              rw [HGB.out] at Y5 hgbH
              have HMAPS : Hid (∀ W Q' c', WI w G H ob N mb Q' c' W → W.cell? ⟨ob, A, none⟩ = some (.map (some (mb A)))) := fun W Q' c' h => h.head hAN
              have HOKA : Hid (∀ l', (∀ s ∈ l', s ∈ rt) → ∀ a, atQ Q1 n l' a → okW a) := fun l' hl' a ha => LL_okW HTM2.out HS.out (fun s hs => HTS.out s (hl' s hs)) ha.2
              have HOKB : Hid (∀ B b, Q1 B b → okW b) := fun B b h => lang_okW HTM2.out (HS.out B b h).2
              have HLE : Hid (∀ l' a, atQ Q1 n l' a → a.length ≤ n) := fun l' a h => h.1
              have HLEB : Hid (∀ B b, Q1 B b → b.length ≤ n) := fun B b h => (HS.out B b h).1
              subst hae
              clear hrr r0 r1 hb5 hr3 hr1 hr2 hA hr5
              go_upto_region 13 with fail
              rw [HW5.out, HGB.out]
              clear t0 t1 HW5
              -- at = texts{"": true}
              have HT5 : Hid (TxM w5.heap.size (fun _ => False) 0 (w5.alloc (.map #[] 0))) := TxM.start w5 rfl (fun _ _ h => h)
              obtain ⟨w6, ca0, hup, hAT6, hgr6, -, hca0⟩ := HT5.out.add (u := []) (Q' := atQ Q1 n []) (s := ⟨#[]⟩) Tryd.underlying71 (by intro x hx; cases hx) (by unfold Bts; rfl) (by unfold maxLen; decide) (by unfold maxLen; decide) (fun v _ => by rw [atQ_nil]; simp)
              have hca1 : ca0 = 1 := hca0 (fun h => h)
              have hg56 : w5.grownBy w6 (some w5.heap.size) := (World.grownBy_alloc w5 _ none).andThen hgr6 (fun j e => by cases e; exact .inl (Nat.le_refl _)) |>.but _
              have HE6 : Hid (WI w G H ob N mb Q1 c1 w6) := HE5.out.grown hg56 (fun k e => by cases e; exact HE5.out.hs)
              have hb56 : Below w5.heap.size w5 w6 := (Below.refl _ _).grown hg56 (Nat.le_refl _) (fun k e => by cases e; exact Nat.le_refl _)
              have Y6 := Lib.hid (bx_keep Y5.out hb56)
              have HAT : Hid (TxM w5.heap.size (atQ Q1 n (rt.take 0)) ca0 w6) := by rw [List.take_zero]; exact hAT6
              have hab5 : H ≤ w5.heap.size := HE5.out.hs
              have HCA : Hid (ca0 ≤ 200 ^ 0) := by show _ ≤ _; rw [hca1]; decide
              obtain ⟨ab0, HAB⟩ := nameIt w5.heap.size
              rw [HAB.out] at HAT hab5
              clear hca0 hca1 hAT6 hgr6 hg56 hb56 HT5
              obtain ⟨y0, y1⟩ := bx_cells2 Y6.out
              go_upto_region 14 with fail
              rw [HAB.out]
              clear hup
              go_wp2_with fail
              clear y0 y1
              go_loopg [13, 15, 16, 17, 18, 46] rn (fun gg v13 v15 v16 v17 v18 v46 wr => ∃ (j ab ca : Nat), j ≤ rn ∧ rn - j ≤ gg ∧ v13 = .map (some ab) ∧ v46 = .int .i64 j ∧ H ≤ ab ∧ Hid (WI w G H ob N mb Q1 c1 wr) ∧ Hid (TxM ab (atQ Q1 n (rt.take j)) ca wr) ∧ Hid (ca ≤ 200 ^ j) ∧ Hid (wr.heap[gb]? = some (.cells #[.int .i64 (A : Int), .slice sa rn sc] 32 (0, 0))))
              case atStart => exact ⟨0, ab0, ca0, by omega, by omega, rfl, rfl, hab5, HE6, HAT, HCA, Y6⟩
              case round =>
                clear HE6 HAT HCA Y6
                obtain ⟨j, ab, ca, hj, hg3, rfl, rfl, hab, HE6, HAT, HCA, Y6⟩ := hrel
                obtain ⟨w7, rfl⟩ : ∃ ww : World, ww = wr := ⟨_, rfl⟩
                by_cases hjm : j < rn
                · have hjm' : (j : Int) < (rn : Int) := by omega
                  have hj0 : (0 : Int) ≤ (j : Int) := by omega
                  have hjx : j < rt.length := by rw [HRNL.out]; exact hjm
                  obtain ⟨sb, so, hae, -, hsb, s0, s1⟩ := HRR.out.sym_at hjx
                  have u0 := (HE6.out.bel.cell (lt_of_cell s0)).trans s0
                  have u1 := (HE6.out.bel.cell (lt_of_cell s1)).trans s1
                  have HTK : Hid (rt.take (j + 1) = rt.take j ++ [rt[j]]) := List.take_succ_eq_append_getElem hjx
                  have HOSJ := Lib.hid (HOS.out _ (List.getElem_mem hjx))
                  have HTSJ := Lib.hid (HTS.out _ (List.getElem_mem hjx))
                  obtain ⟨sy, HSY⟩ := nameIt (rt[j]'hjx)
                  rw [HSY.out] at u0 u1 HTK HOSJ HTSJ
                  obtain ⟨st, HST⟩ := nameIt sy.term
                  obtain ⟨sn, HSN⟩ := nameIt sy.n
                  rw [HST.out] at u0
                  rw [HSN.out] at u1
                  obtain ⟨lt, HLT⟩ := nameIt (rt.take j)
                  rw [HLT.out] at HTK HAT
                  have HOKL : Hid (∀ a, atQ Q1 n lt a → okW a) := HOKA.out lt (by rw [← HLT.out]; exact fun s hs => List.mem_of_mem_take hs)
                  obtain ⟨w8, HW8⟩ := nameIt (w7.alloc (.cells #[.bool st, .int .i64 sn] 44))
                  have hb8 : Below w7.heap.size w7 w8 := by rw [← HW8.out]; exact (Below.refl _ _).alloc (Nat.le_refl _) _
                  have S8 : Hid (w8.heap[w7.heap.size]? = some (.cells #[.bool st, .int .i64 sn] 44 (0, 0))) := by rw [← HW8.out]; exact bx_new _ _ _ rfl
                  have HE8 := HE6.out.keep hb8
                  have HAT8 := HAT.out.keep hb8
                  have Y8 := bx_keep Y6.out hb8
                  obtain ⟨sbx, HSB⟩ := nameIt w7.heap.size
                  rw [HSB.out] at S8
                  obtain ⟨w9, HW9⟩ := nameIt (w8.alloc (.map #[] 0))
                  have hb9 : Below w8.heap.size w8 w9 := by rw [← HW9.out]; exact (Below.refl _ _).alloc (Nat.le_refl _) _
                  have HE9 := Lib.hid (HE8.keep hb9)
                  have HAT9 := HAT8.keep hb9
                  have Y9 := Lib.hid (bx_keep Y8 hb9)
                  have S9 := Lib.hid (bx_keep S8.out hb9)
                  have HNB : Hid (TxM w8.heap.size (NX Q1 n lt sy (atQ Q1 n lt)) 0 w9) := by rw [← HW9.out]; exact TxM.start w8 rfl (fun _ _ h => NX_start h)
                  have hnbH : H ≤ w8.heap.size := HE8.hs
                  have hnab : ab < w8.heap.size := HAT8.lt
                  have hnsb : sbx < w8.heap.size := lt_of_cell (bx_cells2 S8.out).1
                  have hngb : gb < w8.heap.size := lt_of_cell (bx_cells2 Y8).1
                  obtain ⟨nb, HNBN⟩ := nameIt w8.heap.size
                  rw [HNBN.out] at HNB hnbH hnab hnsb hngb
                  subst hae
                  clear s0 s1 hb8 HE8 HAT8 Y8 S8 hb9
                  go_upto_region 17 with fail
                  rw [HW8.out, HSB.out]
                  clear u0 u1 HW8
                  go_upto_region 18 with fail
                  rw [HW9.out, HNBN.out]
                  clear HW9
                  obtain ⟨rg, HNS10⟩ := nameIt w9.heap.size
                  have hrgnb : nb < rg := by rw [← HNS10.out]; exact HNB.out.lt
                  have HAT9' := Lib.hid HAT9
                  clear HAT9
                  go_wp2_with (first
                    | (at_range; refine wpList_range_tx _ rfl _ 71 rfl Tryd.underlying71 rfl HAT9'.out ?_; intro w10 hrg0 hb10 hs10)
                    | fail)
                  try go_frame
                  rw [HNS10.out] at hrg0
                  rw [HNS10.out]
                  have HRG := Lib.hid hrg0
                  have HE10 := Lib.hid (HE9.out.keep hb10)
                  have Y10 := Lib.hid (bx_keep Y9.out hb10)
                  have S10 := Lib.hid (bx_keep S9.out hb10)
                  have HNB10 := Lib.hid (HNB.out.keep hb10)
                  obtain ⟨B, HB⟩ := nameIt sn.toNat
                  obtain ⟨m, HM⟩ := nameIt (if st = true then 1 else c1 B)
                  have HBN : Hid (st = false → 0 ≤ sn ∧ B < N) := by
                    intro e
                    obtain ⟨h1, h2⟩ := HOSJ.out (by rw [HST.out]; exact e)
                    rw [HSN.out] at h1 h2
                    exact ⟨h1, by rw [← HB.out]; exact h2⟩
                  have hm3 : m ≤ 200 := by
                    rw [← HM.out]
                    cases st with
                    | true => simp
                    | false => simpa using HCB.out B (HBN.out rfl).2
                  have HCM : Hid (ca * m ≤ 200 ^ (j + 1)) := by
                    show _ ≤ _
                    rw [Nat.pow_succ]
                    exact Nat.mul_le_mul HCA.out hm3
                  obtain ⟨T, HT⟩ := nameIt (ca * m)
                  rw [HT.out] at HCM
                  have hT81 : T ≤ 81000000000000 := Nat.le_trans HCM.out (pow3_le (by omega))
                  have HST0 : Hid (0 + ca * m ≤ T) := by rw [HT.out]; show _ ≤ _; omega
                  clear hrg0 hb10 hs10 HE9 Y9 S9 HNB
                  go_loopg [17, 18] ca (fun gg v17 v18 wr => ∃ (L : List Int → Prop) (cnt cn : Nat), cnt ≤ gg ∧ Hid (RgM ab rg (atQ Q1 n lt) L cnt wr) ∧ Hid (WI w G H ob N mb Q1 c1 wr) ∧ Hid (TxM nb (NX Q1 n lt sy L) cn wr) ∧ Hid (cn + cnt * m ≤ T) ∧ Hid (wr.heap[gb]? = some (.cells #[.int .i64 (A : Int), .slice (some ⟨sb, so, none⟩) rn sc] 32 (0, 0))) ∧ Hid (wr.heap[sbx]? = some (.cells #[.bool st, .int .i64 sn] 44 (0, 0))))
                  case atStart => exact ⟨_, ca, 0, Nat.le_refl _, HRG, HE10, HNB10, HST0, Y10, S10⟩
                  case round =>
                    clear HRG HE10 HNB10 HST0 Y10 S10
                    obtain ⟨L, cnt, cn, hcg, HRG, HE10, HNB10, HCN, Y10, S10⟩ := hrel
                    obtain ⟨w10', rfl⟩ : ∃ ww : World, ww = wr := ⟨_, rfl⟩
                    go_wp2_with (first
                      | (at_next; refine wpList_next_tx _ rfl _ rfl rfl HRG.out ?_ ?_)
                      | fail)
                    · intro hl0
                      have HATN : Hid (TxM nb (atQ Q1 n (rt.take (j + 1))) cn w10') := by
                        rw [HTK.out]
                        exact HNB10.out.eq fun u _ => NX_end HOKL.out hl0
                      have HCAN : Hid (cn ≤ 200 ^ (j + 1)) := Nat.le_trans (by have := HCN.out; omega) HCM.out
                      clear HRG HNB10 HCN S10
                      go_wp2_with fail
                      go_roundg (rn - (j + 1))
                      case measure => omega
                      case rel => exact ⟨j + 1, nb, cn, by omega, by omega, rfl, by go_num, hnbH, HE10, HATN, HCAN, Y10⟩
                    · intro x u w11 cnt1 hu hQu hLu hBx hsx hrg1 hlt1 hg1 hs1 hen
                      have hul := HLE.out lt u hQu
                      have HE11 := Lib.hid (HE10.out.grown hg1 (fun k e => by cases e; omega))
                      have HNB11 := Lib.hid (HNB10.out.kept hg1 (fun e => by have := Option.some.inj e; omega))
                      have Y11 := Lib.hid (bx_grown Y10.out hg1 (fun e => by have := Option.some.inj e; omega))
                      have S11 := Lib.hid (bx_grown S10.out hg1 (fun e => by have := Option.some.inj e; omega))
                      have HRG11 := Lib.hid hrg1
                      have HBX := Lib.hid hBx
                      have HUOK := Lib.hid hu
                      have HUQ := Lib.hid hQu
                      have hcnT : cn ≤ T := by have := HCN.out; omega
                      have HC1 : Hid (cn + m + cnt1 * m ≤ T) := by
                        have h1 := HCN.out
                        have h2 : (cnt1 + 1) * m ≤ cnt * m := Nat.mul_le_mul_right m hlt1
                        rw [Nat.add_mul, Nat.one_mul] at h2
                        show _ ≤ _
                        omega
                      obtain ⟨ul, HUL⟩ := nameIt u.length
                      rw [HUL.out] at hsx hul
                      have hx0 : (0 : Int) ≤ (ul : Int) := by omega
                      clear HRG HE10 HNB10 HCN Y10 S10 hu hQu hLu hBx hrg1 hg1 hs1
                      obtain ⟨z0, z1⟩ := bx_cells2 S11.out
                      cases st with
                      | true =>
                        have hm1 : m = 1 := by rw [← HM.out]; simp
                        have hsm : small sn := by have := HTSJ.out HST.out; rw [HSN.out] at this; exact this
                        have HTM3 : Hid (∀ v, NX Q1 n lt sy (rmv L u) v ↔ NX Q1 n lt sy L v ∨ (v = u ++ [sn] ∧ v.length ≤ n)) := fun v => by
                          have := NX_term (L := L) (u := v) HST.out HUQ.out
                          rw [HSN.out] at this
                          exact this
                        by_cases hun : ul < n
                        · have hun' : (ul : Int) < (n : Int) := by omega
                          have hw8 : IntKind.u8.wrap sn = sn := by
                            obtain ⟨h1, h2⟩ := hsm
                            rw [IntKind.wrap_u8']; omega
                          obtain ⟨cs, hcs1, hcs2, hcv⟩ := conv_byte hsm (g := w11.heap.size) (W := w11.alloc (.cells #[.int .u8 sn] 5)) (by simp)
                          have hb12 : Below w11.heap.size w11 (w11.alloc (.cells #[.int .u8 sn] 5)) := (Below.refl _ _).alloc (Nat.le_refl _) _
                          obtain ⟨w13, cn', hup, hT13, hg13, hca, hcb⟩ := (HNB11.out.keep hb12).add (u := u ++ [sn]) (Q' := NX Q1 n lt sy (rmv L u)) (s := x ++ cs) Tryd.underlying71 (okW_app HUOK.out (fun z hz => by simp at hz; subst hz; exact hsm)) (by rw [kw_app]; exact HBX.out.app hcs1) (by rw [ByteArray.size_append, hsx, hcs2]; unfold maxLen; omega) (by unfold maxLen; omega) (fun v _ => by
                            rw [HTM3.out v]
                            constructor
                            · rintro (h | ⟨h, _⟩)
                              · exact .inl h
                              · exact .inr h
                            · rintro (h | h)
                              · exact .inl h
                              · exact .inr ⟨h, by rw [h, List.length_append, HUL.out]; simp; omega⟩)
                          have hcn' : cn' ≤ cn + 1 := by
                            rcases Classical.em (NX Q1 n lt sy L (u ++ [sn])) with h | h
                            · rw [hca h]; omega
                            · rw [hcb h]; omega
                          have HRG13 := Lib.hid ((HRG11.out.keep hb12).kept hg13 (fun e => by have := Option.some.inj e; omega) (fun e => by have := Option.some.inj e; omega))
                          have HE13 := Lib.hid ((HE11.out.keep hb12).grown hg13 (fun k e => by cases e; omega))
                          have HT13 := Lib.hid hT13
                          have Y13 := Lib.hid (bx_grown (bx_keep Y11.out hb12) hg13 (fun e => by have := Option.some.inj e; omega))
                          have S13 := Lib.hid (bx_grown (bx_keep S11.out hb12) hg13 (fun e => by have := Option.some.inj e; omega))
                          have HC13 : Hid (cn' + cnt1 * m ≤ T) := by have := HC1.out; rw [hm1] at this ⊢; show _ ≤ _; omega
                          clear hT13 hg13 hca hcb hb12 hcs1 HC1
                          go_wp2_with fail
                          go_roundg cnt1
                          case measure => omega
                          case rel => exact ⟨rmv L u, cnt1, cn', by omega, HRG13, HE13, HT13, HC13, Y13, S13⟩
                        · have hun' : ¬ (ul : Int) < (n : Int) := by omega
                          have HT12 : Hid (TxM nb (NX Q1 n lt sy (rmv L u)) cn w11) := HNB11.out.eq fun v _ => by
                            rw [HTM3.out v]
                            constructor
                            · exact .inl
                            · rintro (h | ⟨h, h2⟩)
                              · exact h
                              · rw [h, List.length_append, HUL.out] at h2; simp at h2; omega
                          have HC12 : Hid (cn + cnt1 * m ≤ T) := by have := HC1.out; show _ ≤ _; omega
                          go_wp2_with fail
                          go_roundg cnt1
                          case measure => omega
                          case rel => exact ⟨rmv L u, cnt1, cn, by omega, HRG11, HE11, HT12, HC12, Y11, S11⟩
                      | false =>
                        obtain ⟨hsn0, hBN⟩ := HBN.out rfl
                        have hmB : m = c1 B := by rw [← HM.out]; simp
                        obtain rfl : sn = (B : Int) := by have := HB.out; omega
                        have hB0 : (0 : Int) ≤ (B : Int) := by omega
                        have hB1 : (B : Int) < (N : Int) := by omega
                        have k0 := HE11.out.head hBN
                        have HMP := HE11.out.maps B hBN
                        have HSNB : Hid (sy.n.toNat = B) := by show _ = _; rw [HSN.out]; simp
                        have hmbH := HSTA.out.1 B hBN
                        have HOKQ := Lib.hid (HOKB.out B)
                        have HLEQ := Lib.hid (HLEB.out B)
                        obtain ⟨mB, HMBN⟩ := nameIt (mb B)
                        rw [HMBN.out] at k0 HMP hmbH
                        have HMPH := Lib.hid HMP
                        clear HMP
                        go_upto_region 24 with fail
                        go_wp2_with (first
                          | (at_range; refine wpList_range_tx _ rfl _ 63 rfl Tryd.underlying63 rfl HMPH.out ?_; intro w12 hrg2 hb12 hs12)
                          | fail)
                        try go_frame
                        obtain ⟨r2, HR2⟩ := nameIt w11.heap.size
                        rw [HR2.out] at hrg2
                        rw [HR2.out]
                        have hr2n : rg < r2 := by rw [← HR2.out]; exact HRG11.out.lt
                        have HRG2 := Lib.hid hrg2
                        have HRG12 := Lib.hid (HRG11.out.keep hb12)
                        have HE12 := Lib.hid (HE11.out.keep hb12)
                        have HNB12 : Hid (TxM nb (NX2 Q1 n lt sy L u (Q1 B)) cn w12) := (HNB11.out.keep hb12).eq fun v _ => by
                          have := NX2_start (Q := Q1) (n := n) (l := lt) (s := sy) (L := L) (a := u) (u := v)
                          rw [HSNB.out] at this
                          exact this.symm
                        have Y12 := Lib.hid (bx_keep Y11.out hb12)
                        have S12 := Lib.hid (bx_keep S11.out hb12)
                        have HC12 : Hid (cn + c1 B + cnt1 * m ≤ T) := by rw [← hmB]; exact HC1.out
                        obtain ⟨cB, HCBN⟩ := nameIt (c1 B)
                        rw [HCBN.out] at HRG2 HC12
                        clear k0 z0 z1 hrg2 hb12 hs12 HRG11 HE11 HNB11 Y11 S11 HC1 hmB
                        go_loopg [18] cB (fun gg v18 wr => ∃ (L2 : List Int → Prop) (cnt2 cn2 : Nat), cnt2 ≤ gg ∧ Hid (RgM mB r2 (Q1 B) L2 cnt2 wr) ∧ Hid (RgM ab rg (atQ Q1 n lt) (rmv L u) cnt1 wr) ∧ Hid (WI w G H ob N mb Q1 c1 wr) ∧ Hid (TxM nb (NX2 Q1 n lt sy L u L2) cn2 wr) ∧ Hid (cn2 + cnt2 + cnt1 * m ≤ T) ∧ Hid (wr.heap[gb]? = some (.cells #[.int .i64 (A : Int), .slice (some ⟨sb, so, none⟩) rn sc] 32 (0, 0))) ∧ Hid (wr.heap[sbx]? = some (.cells #[.bool false, .int .i64 (B : Int)] 44 (0, 0))))
                        case atStart => exact ⟨_, cB, cn, Nat.le_refl _, HRG2, HRG12, HE12, HNB12, HC12, Y12, S12⟩
                        case round =>
                          clear HRG2 HRG12 HE12 HNB12 HC12 Y12 S12
                          obtain ⟨L2, cnt2, cn2, hcg2, HRG2, HRG12, HE12, HNB12, HC12, Y12, S12⟩ := hrel
                          obtain ⟨w13, rfl⟩ : ∃ ww : World, ww = wr := ⟨_, rfl⟩
                          go_wp2_with (first
                            | (at_next; refine wpList_next_tx _ rfl _ rfl rfl HRG2.out ?_ ?_)
                            | fail)
                          · intro hl0
                            have HTN : Hid (TxM nb (NX Q1 n lt sy (rmv L u)) cn2 w13) := HNB12.out.eq fun v _ => NX2_end HST.out HUQ.out (by rw [HSNB.out]; exact HOKQ.out) hl0
                            have HCN : Hid (cn2 + cnt1 * m ≤ T) := by have := HC12.out; show _ ≤ _; omega
                            clear HRG2 HNB12 HC12
                            go_wp2_with fail
                            go_roundg cnt1
                            case measure => omega
                            case rel => exact ⟨rmv L u, cnt1, cn2, by omega, HRG12, HE12, HTN, HCN, Y12, S12⟩
                          · intro y v w14 cnt3 hv hQv hLv hBy hsy hrg3 hlt3 hg3 hs3 hen3
                            have hvl := HLEQ.out v hQv
                            have hcn2T : cn2 + cnt2 ≤ T := by have := HC12.out; omega
                            have HE14 := Lib.hid (HE12.out.grown hg3 (fun k e => by cases e; omega))
                            have HNB14 := Lib.hid (HNB12.out.kept hg3 (fun e => by have := Option.some.inj e; omega))
                            have Y14 := Lib.hid (bx_grown Y12.out hg3 (fun e => by have := Option.some.inj e; omega))
                            have S14 := Lib.hid (bx_grown S12.out hg3 (fun e => by have := Option.some.inj e; omega))
                            have HRG3 := Lib.hid hrg3
                            have HRG14 := Lib.hid (HRG12.out.kept hg3 (fun e => by have := Option.some.inj e; omega) (fun e => by have := Option.some.inj e; omega))
                            have HBY := Lib.hid hBy
                            have HVOK := Lib.hid hv
                            have HTM3 : Hid (∀ z, NX2 Q1 n lt sy L u (rmv L2 v) z ↔ NX2 Q1 n lt sy L u L2 z ∨ (z = u ++ v ∧ z.length ≤ n)) := fun z => NX2_step (by rw [HSNB.out]; exact hQv)
                            obtain ⟨vl, HVL⟩ := nameIt v.length
                            rw [HVL.out] at hsy hvl
                            have hwr : IntKind.i64.wrap ((ul : Int) + (vl : Int)) = ((ul + vl : Nat) : Int) := by rw [IntWalk.i64_in _ (by omega)]; omega
                            obtain ⟨uv, HUV⟩ := nameIt (ul + vl)
                            rw [HUV.out] at hwr
                            have huv : uv = ul + vl := HUV.out.symm
                            have HUV2 := Lib.hid huv
                            have huv2 : uv ≤ 24 := by omega
                            clear HRG2 HRG12 HE12 HNB12 Y12 S12 hv hQv hLv hBy hrg3 hg3 hs3 huv
                            obtain ⟨z0, z1⟩ := bx_cells2 S14.out
                            by_cases hfit : uv ≤ n
                            · have hfit' : (uv : Int) ≤ (n : Int) := by omega
                              obtain ⟨w15, cn', hup, hT15, hg15, hca, hcb⟩ := HNB14.out.add (u := u ++ v) (Q' := NX2 Q1 n lt sy L u (rmv L2 v)) (s := x ++ y) Tryd.underlying71 (okW_app HUOK.out HVOK.out) (by rw [kw_app]; exact HBX.out.app HBY.out) (by rw [ByteArray.size_append, hsx, hsy]; unfold maxLen; have := HUV2.out; omega) (by unfold maxLen; omega) (fun z _ => by
                                rw [HTM3.out z]
                                constructor
                                · rintro (h | ⟨h, _⟩)
                                  · exact .inl h
                                  · exact .inr h
                                · rintro (h | h)
                                  · exact .inl h
                                  · exact .inr ⟨h, by rw [h, List.length_append, HUL.out, HVL.out]; have := HUV2.out; omega⟩)
                              have hcn' : cn' ≤ cn2 + 1 := by
                                rcases Classical.em (NX2 Q1 n lt sy L u L2 (u ++ v)) with h | h
                                · rw [hca h]; omega
                                · rw [hcb h]; omega
                              have HRG15 := Lib.hid (HRG14.out.kept hg15 (fun e => by have := Option.some.inj e; omega) (fun e => by have := Option.some.inj e; omega))
                              have HRG4 := Lib.hid (HRG3.out.kept hg15 (fun e => by have := Option.some.inj e; omega) (fun e => by have := Option.some.inj e; omega))
                              have HE15 := Lib.hid (HE14.out.grown hg15 (fun k e => by cases e; omega))
                              have HT15 := Lib.hid hT15
                              have Y15 := Lib.hid (bx_grown Y14.out hg15 (fun e => by have := Option.some.inj e; omega))
                              have S15 := Lib.hid (bx_grown S14.out hg15 (fun e => by have := Option.some.inj e; omega))
                              have HC15 : Hid (cn' + cnt3 + cnt1 * m ≤ T) := by have := HC12.out; show _ ≤ _; omega
                              clear hT15 hg15 hca hcb HC12
                              go_wp2_with fail
                              go_roundg cnt3
                              case measure => omega
                              case rel => exact ⟨rmv L2 v, cnt3, cn', by omega, HRG4, HRG15, HE15, HT15, HC15, Y15, S15⟩
                            · have hfit' : ¬ (uv : Int) ≤ (n : Int) := by omega
                              have HT14 : Hid (TxM nb (NX2 Q1 n lt sy L u (rmv L2 v)) cn2 w14) := HNB14.out.eq fun z _ => by
                                rw [HTM3.out z]
                                constructor
                                · exact .inl
                                · rintro (h | ⟨h, h2⟩)
                                  · exact h
                                  · rw [h, List.length_append, HUL.out, HVL.out] at h2; have := HUV2.out; omega
                              have HC14 : Hid (cn2 + cnt3 + cnt1 * m ≤ T) := by have := HC12.out; show _ ≤ _; omega
                              go_wp2_with fail
                              go_roundg cnt3
                              case measure => omega
                              case rel => exact ⟨rmv L2 v, cnt3, cn2, by omega, HRG3, HRG14, HE14, HT14, HC14, Y14, S14⟩
                · have hjm' : ¬ (j : Int) < (rn : Int) := by omega
                  have HATE : Hid (TxM ab (atQ Q1 n rt) ca w7) := by
                    have := HAT.out
                    rwa [List.take_of_length_le (by rw [HRNL.out]; omega)] at this
                  have hca81 : ca ≤ 81000000000000 := Nat.le_trans HCA.out (pow3_le (by omega))
                  have HOKT : Hid (∀ a, atQ Q1 n rt a → okW a) := HOKA.out rt (fun s hs => hs)
                  have hnabl : ab < w7.heap.size := HAT.out.lt
                  have hngb : gb < w7.heap.size := lt_of_cell (bx_cells2 Y6.out).1
                  obtain ⟨rg, HNS10⟩ := nameIt w7.heap.size
                  rw [HNS10.out] at hnabl hngb
                  clear HAT HCA
                  go_wp2_with (first
                    | (at_range; refine wpList_range_tx _ rfl _ 71 rfl Tryd.underlying71 rfl HATE.out ?_; intro w8 hrg0 hb8 hs8)
                    | fail)
                  try go_frame
                  rw [HNS10.out] at hrg0
                  rw [HNS10.out]
                  have HRG := Lib.hid hrg0
                  have HE8 := Lib.hid (HE6.out.keep hb8)
                  have Y8 := Lib.hid (bx_keep Y6.out hb8)
                  have HSB : Hid (b = false → b = false ∧ Q1 = Q1 ∧ c1 = c1) := fun e => ⟨e, rfl, rfl⟩
                  have HCV : Hid (∀ z, okW z → atQ Q1 n rt z → ¬ atQ Q1 n rt z → Q1 A z) := fun z _ h1 h2 => absurd h1 h2
                  have HCA0 : Hid (c1 A + ca ≤ 200 + ca) := by have := HCB.out A hAN; show _ ≤ _; omega
                  have HCO : Hid (∀ a, a < N → a ≠ A → c1 a ≤ 200) := fun a ha _ => HCB.out a ha
                  clear hrg0 hb8 hs8 HE6 Y6 HATE
                  go_loopg [10, 19] ca (fun gg v10 v19 wr => ∃ (L : List Int → Prop) (cnt : Nat) (Q2 : Nat → List Int → Prop) (c2 : Nat → Nat) (b2 : Bool), cnt ≤ gg ∧ v10 = .bool b2 ∧ Hid (RgM ab rg (atQ Q1 n rt) L cnt wr) ∧ Hid (WI w G H ob N mb Q2 c2 wr) ∧ Hid (SoundQ K n Q2) ∧ Hid (b2 = false → b = false ∧ Q2 = Q1 ∧ c2 = c1) ∧ Hid (b2 = true → muQ c2 N < mu) ∧ Hid (∀ z, okW z → atQ Q1 n rt z → ¬ L z → Q2 A z) ∧ Hid (c2 A + cnt ≤ 200 + ca) ∧ Hid (∀ a, a < N → a ≠ A → c2 a ≤ 200) ∧ Hid (wr.heap[gb]? = some (.cells #[.int .i64 (A : Int), .slice sa rn sc] 32 (0, 0))))
                  case atStart => exact ⟨_, ca, Q1, c1, b, Nat.le_refl _, rfl, HRG, HE8, HS, HSB, HMB, HCV, HCA0, HCO, Y8⟩
                  case round =>
                    clear HRG HE8 HSB HCV HCA0 HCO Y8
                    obtain ⟨L, cnt, Q2, c2, b2, hcg, rfl, HRG, HE8, HS2, HSB, HMB2, HCV, HCA0, HCO, Y8⟩ := hrel
                    obtain ⟨w8', rfl⟩ : ∃ ww : World, ww = wr := ⟨_, rfl⟩
                    go_wp2_with (first
                      | (at_next; refine wpList_next_tx _ rfl _ rfl rfl HRG.out ?_ ?_)
                      | fail)
                    · intro hl0
                      have HALL : Hid (∀ z, atQ Q1 n rt z → Q2 A z) := fun z hz => HCV.out z (HOKT.out z hz) hz (hl0 z (HOKT.out z hz))
                      have HLEN : Hid (∀ ty, (Builtin.len_ #[63] ty #[.map (some (mb A))]).run Tryd.prog w8' = .ok (.int .i64 (c2 A : Int)) w8') := fun ty => (HE8.out.maps A hAN).len Tryd.underlying63 ty
                      have hmA := HMAPS.out w8' Q2 c2 HE8.out
                      have HNC : Hid (b2 = false → Q2 = Q ∧ c2 = c ∧ ClQTo K n Q (q + 1)) := by
                        intro e
                        obtain ⟨e1, e2, e3⟩ := HSB.out e
                        obtain ⟨e4, e5, e6⟩ := HC.out e1
                        refine ⟨e2.trans e4, e3.trans e5, HNX.out e6 ?_⟩
                        intro z hz
                        rw [HAL.out, ← e4, ← e2]
                        rw [HRT.out, ← e4] at hz
                        exact HALL.out z hz
                      have HF0 : Hid (200 < c2 A → PST (.returned (.tuple #[.slice none 0 0, .bool false])) w8') := fun h => HFIN0.out w8' HE8.out.bel (by
                        obtain ⟨l, k1, k2, k3⟩ := (HE8.out.maps A hAN).words
                        exact ⟨A, l, k1, by rw [k2]; exact h, fun u hu => HS2.out A u (k3 u hu)⟩)
                      have HCBN : Hid (c2 A ≤ 200 → ∀ a, a < N → c2 a ≤ 200) := fun h a ha => by
                        by_cases e : a = A
                        · rw [e]; exact h
                        · exact HCO.out a ha e
                      have hcA : c2 A ≤ 200 + ca := by have := HCA0.out; omega
                      obtain ⟨mA, HMA⟩ := nameIt (mb A)
                      rw [HMA.out] at hmA HLEN
                      obtain ⟨cA, HCAN⟩ := nameIt (c2 A)
                      rw [HCAN.out] at HLEN HCBN hcA HF0
                      have hlen := HLEN.out
                      obtain ⟨y0, y1⟩ := bx_cells2 Y8.out
                      clear HRG HCV HCA0 HCO HSB HALL HLEN
                      by_cases hbig : 200 < cA
                      · have hbig' : (200 : Int) < (cA : Int) := by omega
                        have HF0' := Lib.hid (HF0.out hbig)
                        go_wp2_with fail
                        exact HF0'.out
                      · have hbig' : ¬ (200 : Int) < (cA : Int) := by omega
                        have HCB3 := Lib.hid (HCBN.out (by omega))
                        go_wp2_with fail
                        go_roundg (kl - (q + 1))
                        case measure => omega
                        case rel => exact ⟨q + 1, Q2, c2, b2, by omega, by omega, rfl, by go_num, HE8, HS2, HCB3, HNC, HMB2⟩
                    · intro x u w9 cnt1 hu hQu hLu hBx hsx hrg1 hlt1 hg1 hs1 hen
                      have HE9 := Lib.hid (HE8.out.grown hg1 (fun k e => by cases e; omega))
                      have Y9 := Lib.hid (bx_grown Y8.out hg1 (fun e => by have := Option.some.inj e; omega))
                      have hul := HLE.out rt u hQu
                      have hc8 : c2 A + cnt ≤ 200 + ca := HCA0.out
                      have hmA := HMAPS.out w9 Q2 c2 HE9.out
                      have HTA := HE9.out.maps A hAN
                      have hxm : x.size ≤ maxLen := by rw [hsx]; unfold maxLen; omega
                      obtain ⟨hlook1, hlook2⟩ := HTA.look Tryd.underlying63 hu hBx hxm
                      have HRG1 := Lib.hid hrg1
                      have HBX := Lib.hid hBx
                      have HUOK := Lib.hid hu
                      have HUQ := Lib.hid hQu
                      have hmbH := HSTA.out.1 A hAN
                      have HUA : Hid (u.length ≤ n ∧ Lang K A u) := HASND.out u hQu
                      clear HRG HE8 Y8 hu hBx hLu hrg1 hg1 hs1 HTA
                      obtain ⟨y0, y1⟩ := bx_cells2 Y9.out
                      rcases Classical.em (Q2 A u) with hq | hq
                      · have hlk := hlook1 hq
                        have HCVN : Hid (∀ z, okW z → atQ Q1 n rt z → ¬ rmv L u z → Q2 A z) := fun z h1 h2 h3 => by
                          by_cases e : z = u
                          · rw [e]; exact hq
                          · exact HCV.out z h1 h2 (fun h => h3 ⟨h, e⟩)
                        have HCAN : Hid (c2 A + cnt1 ≤ 200 + ca) := by show _ ≤ _; omega
                        obtain ⟨mA, HMA⟩ := nameIt (mb A)
                        rw [HMA.out] at hmA hlk
                        clear hlook1 hlook2 hsx hc8 hxm hq
                        go_wp2_with fail
                        go_roundg cnt1
                        case measure => omega
                        case rel => exact ⟨rmv L u, cnt1, Q2, c2, b2, by omega, rfl, HRG1, HE9, HS2, HSB, HMB2, HCVN, HCAN, HCO, Y9⟩
                      · have hlk := hlook2 hq
                        obtain ⟨v0, st, wa, w10, c', hen1, hst1, hw10, hg10, hcc⟩ := HE9.out.entry hAN HUOK.out HBX.out hxm (by unfold maxLen; omega)
                        have hc1' : c' = c2 A + 1 := hcc hq
                        have HE10 := Lib.hid hw10
                        have Y10 := Lib.hid (bx_grown Y9.out hg10 (fun e => by have := Option.some.inj e; omega))
                        have HRG10 := Lib.hid (HRG1.out.kept hg10 (fun e => by have := Option.some.inj e; omega) (fun e => by have := Option.some.inj e; omega))
                        have HS10 : Hid (SoundQ K n (addQ Q2 A u)) := addQ_sound HS2.out HUA.out
                        have HMU10 : Hid (muQ (upd c2 A c') N < mu) := by
                          show _ < _
                          cases b2 with
                          | true => exact Nat.lt_of_le_of_lt (muQ_le (by omega)) (HMB2.out rfl)
                          | false =>
                            obtain ⟨e1, _, e3⟩ := HSB.out rfl
                            have e5 := (HC.out e1).2.1
                            have h1 : c2 A ≤ 200 := by rw [e3]; exact HCB.out A hAN
                            have h2 := muQ_lt (c := c2) (x := c') hAN (by omega) h1
                            rw [e3, e5] at h2
                            rw [e3, e5, ← HMU.out]; exact h2
                        have HCVN : Hid (∀ z, okW z → atQ Q1 n rt z → ¬ rmv L u z → addQ Q2 A u A z) := fun z h1 h2 h3 => by
                          by_cases e : z = u
                          · exact .inr ⟨rfl, e⟩
                          · exact .inl (HCV.out z h1 h2 (fun h => h3 ⟨h, e⟩))
                        have HCAN : Hid (upd c2 A c' A + cnt1 ≤ 200 + ca) := by
                          have : upd c2 A c' A = c' := by unfold upd; rw [if_pos rfl]
                          show _ ≤ _
                          rw [this]; omega
                        have HCON : Hid (∀ a, a < N → a ≠ A → upd c2 A c' a ≤ 200) := fun a ha e => by
                          have : upd c2 A c' a = c2 a := by unfold upd; rw [if_neg e]
                          rw [this]; exact HCO.out a ha e
                        obtain ⟨mA, HMA⟩ := nameIt (mb A)
                        rw [HMA.out] at hmA hlk hen1 hst1
                        clear hlook1 hlook2 hsx hc8 hxm hq hw10 hg10 hcc hc1'
                        go_wp2_with fail
                        go_roundg cnt1
                        case measure => omega
                        case rel => exact ⟨rmv L u, cnt1, addQ Q2 A u, upd c2 A c', true, by omega, rfl, HRG10, HE10, HS10, (fun e => by cases e), (fun _ => HMU10.out), HCVN, HCAN, HCON, Y10⟩
            · have hlt' : ¬ (q : Int) < (kl : Int) := by omega
              have HCE : Hid (b = false → ClosedQ K n Q1) := by
                intro e
                obtain ⟨h1, _, h2⟩ := HC.out e
                rw [h1]
                exact clQ_end (by rw [HKL.out]; omega) h2
              have HMM : Hid (b = true → muQ c1 N + 1 ≤ mu) := HMB.out
              go_wp2_with fail
              go_roundg mu
              case measure => omega
              case rel => exact ⟨b, Q1, c1, rfl, HMM.out, HE, HS, HCB, HCE⟩
end Sm
end Lg
end Go.Proofs.YthnkgmlhpefldaaDoor
namespace Go.Proofs.YthnkgmlhpefldaaDoor
open Go.RowKit
namespace Lg
open Tx

section
variable {rules : List Rule} {Q : Nat → List Int → Prop} {n : Nat} {l : List Sym} {s : Sym} {L L2 : List Int → Prop} {u a b : List Int}
/-- what a round over the words so far has made, L still to come -/
def NX (Q : Nat → List Int → Prop) (n : Nat) (l : List Sym) (s : Sym) (L : List Int → Prop) (u : List Int) : Prop := ∃ a b, u = a ++ b ∧ atQ Q n l a ∧ ¬ L a ∧ LS Q s b ∧ u.length ≤ n
theorem NX_start : ¬ NX Q n l s (atQ Q n l) u := by rintro ⟨a, b, _, h1, h2, _⟩; exact h2 h1
theorem NX_end (hok : ∀ a, atQ Q n l a → okW a) (hL : ∀ a, okW a → ¬ L a) : NX Q n l s L u ↔ atQ Q n (l ++ [s]) u := by
  rw [atQ_snoc]
  constructor
  · rintro ⟨a, b, h1, h2, _, h3, h4⟩; exact ⟨a, b, h1, h2, h3, h4⟩
  · rintro ⟨a, b, h1, h2, h3, h4⟩; exact ⟨a, b, h1, h2, hL a (hok a h2), h3, h4⟩
theorem NX_term (hs : s.term = true) (ha : atQ Q n l a) : NX Q n l s (rmv L a) u ↔ NX Q n l s L u ∨ (u = a ++ [s.n] ∧ u.length ≤ n) := by
  constructor
  · rintro ⟨c, b, h1, h2, h3, h4, h5⟩
    by_cases e : c = a
    · subst e
      unfold LS at h4
      rw [if_pos hs] at h4
      subst h4
      exact .inr ⟨h1, h5⟩
    · exact .inl ⟨c, b, h1, h2, fun h => h3 ⟨h, e⟩, h4, h5⟩
  · rintro (⟨c, b, h1, h2, h3, h4, h5⟩ | ⟨h1, h2⟩)
    · exact ⟨c, b, h1, h2, fun h => h3 h.1, h4, h5⟩
    · exact ⟨a, [s.n], h1, ha, fun h => h.2 rfl, by unfold LS; rw [if_pos hs], h2⟩
def NX2 (Q : Nat → List Int → Prop) (n : Nat) (l : List Sym) (s : Sym) (L : List Int → Prop) (a : List Int) (L2 : List Int → Prop) (u : List Int) : Prop := NX Q n l s L u ∨ ∃ b, u = a ++ b ∧ Q s.n.toNat b ∧ ¬ L2 b ∧ u.length ≤ n
theorem NX2_start : NX2 Q n l s L a (Q s.n.toNat) u ↔ NX Q n l s L u := by
  constructor
  · rintro (h | ⟨b, _, h1, h2, _⟩)
    · exact h
    · exact absurd h1 h2
  · exact .inl
theorem NX2_step (hb : Q s.n.toNat b) : NX2 Q n l s L a (rmv L2 b) u ↔ NX2 Q n l s L a L2 u ∨ (u = a ++ b ∧ u.length ≤ n) := by
  constructor
  · rintro (h | ⟨c, h1, h2, h3, h4⟩)
    · exact .inl (.inl h)
    · by_cases e : c = b
      · subst e; exact .inr ⟨h1, h4⟩
      · exact .inl (.inr ⟨c, h1, h2, fun h => h3 ⟨h, e⟩, h4⟩)
  · rintro ((h | ⟨c, h1, h2, h3, h4⟩) | ⟨h1, h2⟩)
    · exact .inl h
    · exact .inr ⟨c, h1, h2, fun h => h3 h.1, h4⟩
    · exact .inr ⟨b, h1, hb, fun h => h.2 rfl, h2⟩
theorem NX2_end (hs : s.term = false) (ha : atQ Q n l a) (hok : ∀ b, Q s.n.toNat b → okW b) (hL : ∀ b, okW b → ¬ L2 b) : NX2 Q n l s L a L2 u ↔ NX Q n l s (rmv L a) u := by
  have hls : ∀ b, LS Q s b ↔ Q s.n.toNat b := fun b => by unfold LS; rw [hs]; simp
  constructor
  · rintro (⟨c, b, h1, h2, h3, h4, h5⟩ | ⟨b, h1, h2, _, h4⟩)
    · exact ⟨c, b, h1, h2, fun h => h3 h.1, h4, h5⟩
    · exact ⟨a, b, h1, ha, fun h => h.2 rfl, (hls b).2 h2, h4⟩
  · rintro ⟨c, b, h1, h2, h3, h4, h5⟩
    by_cases e : c = a
    · subst e
      have hq := (hls b).1 h4
      exact .inr ⟨b, h1, hq, hL b (hok b hq), h5⟩
    · exact .inl ⟨c, b, h1, h2, fun h => h3 ⟨h, e⟩, h4, h5⟩
end
def ClQ (n : Nat) (Q : Nat → List Int → Prop) (r : Rule) : Prop := ∀ u, atQ Q n r.right u → Q r.left.toNat u
def ClQTo (rules : List Rule) (n : Nat) (Q : Nat → List Int → Prop) (q : Nat) : Prop := ∀ r ∈ rules.take q, ClQ n Q r
theorem clQ_next {rules : List Rule} {n : Nat} {Q : Nat → List Int → Prop} {q : Nat} (hq : q < rules.length) (h : ClQTo rules n Q q) (h2 : ClQ n Q rules[q]) : ClQTo rules n Q (q + 1) := by
  intro r hr
  rw [List.take_succ_eq_append_getElem hq, List.mem_append] at hr
  rcases hr with hr | hr
  · exact h r hr
  · simp at hr; subst hr; exact h2
theorem clQ_end {rules : List Rule} {n : Nat} {Q : Nat → List Int → Prop} {q : Nat} (hq : rules.length ≤ q) (h : ClQTo rules n Q q) : ClosedQ rules n Q := fun r hr => h r (by rw [List.take_of_length_le hq]; exact hr)
/-- how many words may still come -/
def muQ (c : Nat → Nat) (N : Nat) : Nat := sumR (fun a => 3001 - c a) N
def upd (c : Nat → Nat) (A x : Nat) : Nat → Nat := fun a => if a = A then x else c a
theorem muQ_le {c : Nat → Nat} {A x N : Nat} (h : c A ≤ x) : muQ (upd c A x) N ≤ muQ c N := sumR_le fun a _ => by
  unfold upd
  split
  · rename_i e; subst e; omega
  · exact Nat.le_refl _
theorem muQ_lt {c : Nat → Nat} {A x N : Nat} (hA : A < N) (h : c A < x) (h3 : c A ≤ 3000) : muQ (upd c A x) N < muQ c N := by
  refine sumR_lt (k := A) ?_ hA fun a _ => ?_
  · unfold upd; rw [if_pos rfl]; omega
  · unfold upd
    split
    · rename_i e; subst e; omega
    · exact Nat.le_refl _
theorem upd_self {c : Nat → Nat} {A : Nat} : upd c A (c A) = c := by
  funext a
  unfold upd
  split
  · rename_i e; rw [e]
  · rfl
/-- the table of maps -/
structure WI (w : World) (G : Array Value) (H ob N : Nat) (mb : Nat → Nat) (Q : Nat → List Int → Prop) (c : Nat → Nat) (wr : World) : Prop where
  bel : Below w.heap.size w wr
  box : wr.heap[w.heap.size]? = some (.cells G 61 (0, 0))
  hdr : ∃ cs T, wr.heap[ob]? = some (.cells cs T (0, 0)) ∧ ∀ a, a < N → cs[a]? = some (.map (some (mb a)))
  maps : ∀ a, a < N → TxM (mb a) (Q a) (c a) wr
  inj : ∀ a b, a < N → b < N → mb a = mb b → a = b
  ne : ∀ a, a < N → mb a ≠ ob ∧ w.heap.size < mb a ∧ mb a < H
  pl : w.heap.size < ob ∧ ob < H
  hs : H ≤ wr.heap.size
section
variable {w : World} {G : Array Value} {H ob N : Nat} {mb : Nat → Nat} {Q : Nat → List Int → Prop} {c : Nat → Nat} {wr w' : World}
theorem WI.grown {row : Option Nat} (h : WI w G H ob N mb Q c wr) (hg : wr.grownBy w' row) (hr : ∀ k, row = some k → H ≤ k) : WI w G H ob N mb Q c w' := by
  obtain ⟨h1, h2, ⟨cs, T, h3, h4⟩, h5, h6, h7, h8, h9⟩ := h
  have hblk : ∀ k, k < H → w'.heap[k]? = wr.heap[k]? := fun k hk => hg.block k (by omega) (fun e => by have := hr k e.symm; omega)
  refine ⟨h1.grown hg h1.size (fun k e => by have := hr k e; omega), by rw [hblk _ (by omega)]; exact h2, ⟨cs, T, by rw [hblk _ h8.2]; exact h3, h4⟩, fun a ha => (h5 a ha).kept hg (fun e => ?_), h6, h7, h8, Nat.le_trans h9 hg.size⟩
  have := hr _ e.symm
  have := (h7 a ha).2.2
  omega
theorem WI.keep (h : WI w G H ob N mb Q c wr) (hb : Below wr.heap.size wr w') : WI w G H ob N mb Q c w' := h.grown (grown_below hb none) (fun k e => by cases e)
theorem WI.head (h : WI w G H ob N mb Q c wr) {a : Nat} (ha : a < N) : wr.cell? ⟨ob, a, none⟩ = some (.map (some (mb a))) := by
  obtain ⟨cs, T, h1, h2⟩ := h.hdr
  simp [World.cell?, h1, h2 a ha]
theorem WI.entry (h : WI w G H ob N mb Q c wr) {A : Nat} (hA : A < N) {u : List Int} (hu : okW u) {s : ByteArray} (hs : Bts s (kw u)) (hl : s.size ≤ maxLen) (hc : c A < maxLen) :
    ∃ v0 st w1 w' c', (Instr.mapEntry 63 (.map (some (mb A))) (.string s)).run Tryd.prog wr = .ok (.tuple #[v0, .int .i64 st]) w1 ∧ (Instr.entryStore 63 (.map (some (mb A))) (.int .i64 st) (.bool true)).run Tryd.prog w1 = .ok () w' ∧
      WI w G H ob N mb (addQ Q A u) (upd c A c') w' ∧ wr.grownBy w' (some (mb A)) ∧ (¬ Q A u → c' = c A + 1) := by
  obtain ⟨h1, h2, ⟨cs, T, h3, h4⟩, h5, h6, h7, h8, h9⟩ := h
  obtain ⟨v0, st, w1, w', c', k1, k2, k3, k4, _, _, k6⟩ := (h5 A hA).entry (Q' := addQ Q A u A) Tryd.underlying63 hu hs hl hc (fun v _ => by unfold addQ; simp)
  have hblk : ∀ k, k < wr.heap.size → k ≠ mb A → w'.heap[k]? = wr.heap[k]? := fun k hk hn => k4.block k hk (fun e => hn (Option.some.inj e))
  have hA7 := h7 A hA
  refine ⟨v0, st, w1, w', c', k1, k2, ⟨h1.grown k4 h1.size (fun k e => by cases e; omega), by rw [hblk _ (by omega) (by omega)]; exact h2, ⟨cs, T, by rw [hblk _ (by omega) (fun e => hA7.1 e.symm)]; exact h3, h4⟩, fun a ha => ?_, h6, h7, h8, Nat.le_trans h9 k4.size⟩, k4, k6⟩
  by_cases e : a = A
  · subst e
    have : upd c a c' a = c' := by unfold upd; rw [if_pos rfl]
    rw [this]; exact k3
  · have : upd c A c' a = c a := by unfold upd; rw [if_neg e]
    rw [this]
    refine ((h5 a ha).kept k4 (fun e2 => e (h6 a A ha hA (Option.some.inj e2)))).eq fun v _ => ?_
    unfold addQ; simp [e]
end
/-- while it is made -/
structure WG (w : World) (G : Array Value) (ob N : Nat) (mb : Nat → Nat) (k : Nat) (wr : World) : Prop where
  bel : Below w.heap.size w wr
  box : wr.heap[w.heap.size]? = some (.cells G 61 (0, 0))
  hdr : ∃ cs T, wr.heap[ob]? = some (.cells cs T (0, 0)) ∧ cs.size = N ∧ ∀ a, a < k → a < N → cs[a]? = some (.map (some (mb a)))
  maps : ∀ a, a < k → a < N → TxM (mb a) (fun _ => False) 0 wr
  inj : ∀ a b, a < k → b < k → a < N → b < N → mb a = mb b → a = b
  ne : ∀ a, a < k → a < N → mb a ≠ ob ∧ w.heap.size < mb a
  pl : w.heap.size < ob
section
variable {w : World} {G : Array Value} {ob N : Nat} {mb : Nat → Nat} {k : Nat} {wr w' : World}
theorem WG.lt (h : WG w G ob N mb k wr) : ob < wr.heap.size := by
  obtain ⟨cs, T, h1, _⟩ := h.hdr
  exact (Array.getElem?_eq_some_iff.1 h1).1
theorem WG.hcell (h : WG w G ob N mb k wr) (hk : k < N) : (∃ v, wr.cell? ⟨ob, k, none⟩ = some v) ∧ wr.frozen? ⟨ob, k, none⟩ = false := by
  obtain ⟨cs, T, h1, h2, h3⟩ := h.hdr
  exact ⟨⟨cs[k]'(by omega), by simp [World.cell?, h1]⟩, by simp [World.frozen?, h1]⟩
theorem WG.add (h : WG w G ob N mb k wr) (hk : k < N) : WG w G ob N (fun a => if a = k then wr.heap.size else mb a) (k + 1) ((wr.alloc (.map #[] 0)).setCell ⟨ob, k, none⟩ (.map (some wr.heap.size))) := by
  have hob := h.lt
  have hml := fun a h1 h2 => (h.maps a h1 h2).lt
  obtain ⟨h1, h2, ⟨cs, T, h3, h4, h5⟩, h6, h7, h8, h9⟩ := h
  have hba : Below wr.heap.size wr (wr.alloc (.map #[] 0)) := (Below.refl _ _).alloc (Nat.le_refl _) _
  have hsz := h1.size
  refine ⟨(h1.alloc h1.size _).setCell (by show w.heap.size ≤ ob; omega) _, bx_other (bx_keep h2 hba) (by show w.heap.size ≠ ob; omega) _ _, ⟨cs.setIfInBounds k (.map (some wr.heap.size)), T, bx_set (bx_keep h3 hba) _ _, by simpa using h4, fun a ha hn => ?_⟩, fun a ha hn => ?_, fun a b ha hb han hbn e => ?_, fun a ha hn => ?_, h9⟩
  · rw [Array.getElem?_setIfInBounds]
    by_cases e : k = a
    · subst e
      rw [if_pos rfl, if_pos (by omega)]; simp
    · rw [if_neg e, h5 a (by omega) hn]
      simp [show ¬ a = k from fun h => e h.symm]
  · by_cases e : a = k
    · subst e
      simp only [if_true]
      obtain ⟨D, k1, k2⟩ := TxM.start (Q := fun _ => False) wr rfl (fun _ _ h => h)
      exact ⟨D, k1.setCell (by show wr.heap.size ≠ ob; omega) _, k2⟩
    · simp only [e, if_false]
      obtain ⟨D, k1, k2⟩ := (h6 a (by omega) hn).keep hba
      exact ⟨D, k1.setCell (by show mb a ≠ ob; exact (h8 a (by omega) hn).1) _, k2⟩
  · by_cases e1 : a = k <;> by_cases e2 : b = k <;> simp only [e1, e2, if_true, if_false] at e ⊢
    · have := hml b (by omega) hbn; omega
    · have := hml a (by omega) han; omega
    · exact h7 a b (by omega) (by omega) han hbn e
  · by_cases e : a = k
    · subst e; simp only [if_true]; omega
    · simp only [e, if_false]; exact h8 a (by omega) hn
theorem WG.fin (h : WG w G ob N mb N wr) : WI w G wr.heap.size ob N mb (fun _ _ => False) (fun _ => 0) wr := by
  have hob := h.lt
  obtain ⟨h1, h2, ⟨cs, T, h3, h4, h5⟩, h6, h7, h8, h9⟩ := h
  exact ⟨h1, h2, ⟨cs, T, h3, fun a ha => h5 a ha ha⟩, fun a ha => h6 a ha ha, fun a b ha hb => h7 a b ha hb ha hb, fun a ha => ⟨(h8 a ha ha).1, (h8 a ha ha).2, (h6 a ha ha).lt⟩, ⟨h9, hob⟩, Nat.le_refl _⟩
end
/-- what WordsOf returns -/
def WoPost (rules : List Rule) (N n : Nat) (w : World) (e : Ending) (w' : World) : Prop :=
  (e = .returned (.tuple #[.slice none 0 0, .bool false]) ∨ ∃ (ob : Nat) (mb : Nat → Nat) (Q : Nat → List Int → Prop) (c : Nat → Nat), e = .returned (.tuple #[.slice (some ⟨ob, 0, none⟩) N N, .bool true]) ∧
    (∀ a, a < N → w'.cell? ⟨ob, a, none⟩ = some (.map (some (mb a))) ∧ TxM (mb a) (Q a) (c a) w') ∧ SoundQ rules n Q ∧ ClosedQ rules n Q) ∧ Below w.heap.size w w'
end Lg
end Go.Proofs.YthnkgmlhpefldaaDoor
