/- core.Ends. filter.rejected. The contracts of tree.leaves and tree.Leaf. The contract of Range. filter.Holds: the recursive closure. filter.Holds. -/
import Derived.Test.YtgcfpbjifjklbaaDoorJFilterBansRow7
import Derived.Deep.DeepCutAuto
import Derived.Test.YtgcfpbjifjklbaaDoorJFilterBansRow2
import Derived.Test.YtgcfpbjifjklbaaDoorJFilterBansRow3
import Derived.Test.YtgcfpbjifjklbaaDoorJFilterBansRow4
import Derived.Laws.EntriesVeiled
import Derived.Deep.LoopGhost
namespace Go.Proofs.YtgcfpbjifjklbaaDoor
open Go.RowKit
namespace Lg
def okRu (N : Nat) (r : Rule) : Prop := 0 ≤ r.left ∧ r.left.toNat < N ∧ ∀ s ∈ r.right, okSy N s
theorem okRu_of {g : Gram} (h : checkG g = 0) : ∃ N : Nat, g.nons = (N : Int) ∧ 1 ≤ N ∧ N ≤ 10 ∧ ∀ r ∈ g.rules, okRu N r := by
  obtain ⟨⟨_, _, h3, h4, _, _⟩, _, h8⟩ := checkG_zero h
  refine ⟨g.nons.toNat, by omega, by omega, by omega, fun r hr => ?_⟩
  obtain ⟨a1, a2, _, a4⟩ := h8 r hr
  refine ⟨a1, by omega, fun s hs e => ?_⟩
  have := a4 s hs
  unfold hasS at this
  rw [e] at this
  simp at this
  exact ⟨this.1, by omega⟩
set_option maxHeartbeats 8000000 in
set_option maxRecDepth 100000 in
theorem endsE (g : Gram) (N : Nat) (hgn : g.nons = (N : Int)) (hN1 : 1 ≤ N) (hN10 : N ≤ 10) (hok : ∀ r ∈ g.rules, okRu N r) (ar : Option Addr) (cr : Nat) (wd : List Int) (n : Nat) (hn : wd.length = n) (hn12 : n ≤ 12) (wa : Option Addr) (wc : Nat) (w : World) (hr : Rd AnyB w (.sl (g.rules.map Rule.d)) [.slice ar g.rules.length cr]) (hw : Sl w (.slice wa n wc) (ints wd)) (hT : TabG w) :
    Calls Tryd.prog 39 #[.agg #[.int .i64 g.terms, .int .i64 g.nons, .int .i64 g.start, .slice ar g.rules.length cr], .slice wa n wc] w (EndsPost g.rules wd N w) := by
  have hbs := hr.bounds.2
  unfold maxLen at hbs
  obtain ⟨hc1, hc2⟩ := hbs
  have HR := Lib.hid hr
  obtain ⟨PST, HP⟩ := nameIt (EndsPost g.rules wd N w)
  have HFIN : Hid (∀ H bt rb E G w', EI g.rules wd w H bt N (n + 1) rb E G w' → ClosedE g.rules wd E → PST (.returned (.slice (some ⟨bt, 0, none⟩) N N)) w') := by
    intro H bt rb E G w' h1 h2
    rw [← HP.out]
    exact ⟨bt, H, rb, E, rfl, by rw [hn]; exact h1.tab, h1.hs, h1.snd, h2, h1.bel⟩
  rw [HP.out]
  clear HP
  obtain ⟨gt, HGT⟩ := nameIt g.terms
  obtain ⟨gs, HGS⟩ := nameIt g.start
  have HOK := Lib.hid hok
  obtain ⟨K, HK⟩ := nameIt g.rules
  rw [HK.out] at HR hc1 HOK HFIN
  rw [hgn, HGT.out, HGS.out, HK.out]
  obtain ⟨kl, HKL⟩ := nameIt K.length
  rw [HKL.out] at HR hc1
  rw [HKL.out]
  have HW : Hid (∀ w', Below w.heap.size w w' → Sl w' (.slice wa n wc) (ints wd)) := fun w' h => hw.keep h
  have HTG : Hid (∀ w', Below w.heap.size w w' → TabG w') := fun w' h => hT.keep h
  have hwb := hw.len.2
  unfold maxLen at hwb
  obtain ⟨hwc1, hwc2⟩ := hwb
  obtain ⟨M, HM⟩ := nameIt (n + 1)
  have hM1 : 1 ≤ M := by have := HM.out; omega
  have hM2 : M ≤ 13 := by have := HM.out; omega
  have hMn : ((n : Int) + 1) = (M : Int) := by have := HM.out; omega
  have hwr : IntKind.i64.wrap ((n : Int) + 1) = (M : Int) := by rw [IntWalk.i64_in _ (by omega), hMn]
  have HNL := Lib.hid hn
  rw [HM.out] at HFIN
  have hmk1 : ∀ W : World, (Instr.makeSlice 82 (.int .i64 (N : Int)) (.int .i64 (N : Int))).run Tryd.prog W = .ok (.slice (some ⟨W.heap.size, 0, none⟩) N N) (W.alloc (.cells (madeCells #[.slice none 0 0] N) 109)) := fun W => by
    have := run_make_row' (P := Tryd.prog) 82 109 (.slice none 0 0) 24 Tryd.underlying82 (by kernel_rfl) rfl .i64 .i64 N (by omega) (by omega) W
    simpa using this
  have hmk2 : ∀ W : World, (Instr.makeSlice 109 (.int .i64 (M : Int)) (.int .i64 (M : Int))).run Tryd.prog W = .ok (.slice (some ⟨W.heap.size, 0, none⟩) M M) (W.alloc (.cells (madeCells #[.int .u32 0] M) 110)) := fun W => by
    have := run_make_row' (P := Tryd.prog) 109 110 (.int .u32 0) 4 Tryd.underlying109 (by kernel_rfl) rfl .i64 .i64 M (by omega) (by omega) W
    simpa using this
  obtain ⟨G, HG⟩ : ∃ G : Array Value, Hid (G = #[.int .i64 gt, .int .i64 N, .int .i64 gs, .slice ar kl cr]) := ⟨_, rfl⟩
  obtain ⟨w0, HW0⟩ := nameIt (w.alloc (.cells #[.int .i64 gt, .int .i64 N, .int .i64 gs, .slice ar kl cr] 24))
  have HB0 : Hid (Below w.heap.size w w0) := by rw [← HW0.out]; exact (Below.refl _ _).alloc (Nat.le_refl _) _
  have X1 : Hid (w0.heap[w.heap.size]? = some (.cells #[.int .i64 gt, .int .i64 N, .int .i64 gs, .slice ar kl cr] 24 (0, 0))) := by rw [← HW0.out]; exact bx_new _ _ _ rfl
  have hs0 : w0.heap.size = w.heap.size + 1 := by rw [← HW0.out]; simp
  obtain ⟨bt, HBT⟩ := nameIt w0.heap.size
  have HI0 : Hid (∃ rb, GI w bt N M G rb 0 (w0.alloc (.cells (madeCells #[.slice none 0 0] N) 109))) := by
    refine ⟨fun _ => 0, Grd.start _ _ _ HBT.out.symm (by omega), HB0.out.alloc (by omega) _, ?_⟩
    rw [HG.out]
    exact bx_keep X1.out ((Below.refl _ _).alloc (Nat.le_refl _) _)
  obtain ⟨x0, x1, x2, x3⟩ := bx_cells4 X1.out
  have hl0 : w.heap.size < w0.heap.size := by omega
  clear hr hok hgn hw hT hs0 hn hMn
  go_enter Tryd.func39, Tryd.ntmps39
  go_upto_region 1 with fail
  rw [HW0.out]
  go_wp2_with fail
  rw [HBT.out]
  clear x0 x1 x2 x3 hmk1
  go_loopg [6, 17] N (fun gg v6 v17 wr => ∃ k : Nat, k ≤ N ∧ N - k ≤ gg ∧ v17 = .int .i64 k ∧ Hid (∃ rb, GI w bt N M G rb k wr))
  case atStart => exact ⟨0, by omega, by omega, rfl, HI0⟩
  case round =>
    clear HI0
    obtain ⟨k, hk, hg, rfl, HI⟩ := hrel
    by_cases hkN : k < N
    · have hkN' : (k : Int) < (N : Int) := by omega
      obtain ⟨rb, hd⟩ := HI.out
      have hbt := hd.tab.lt
      have hbB := hd.tab.bB
      have hsz := hd.bel.size
      obtain ⟨⟨vc, hc8⟩, hf8⟩ := hd.tab.hcell hkN
      have HT1 : Hid (∃ rb, GI w bt N M G rb (k + 1) ((wr.alloc (.cells (madeCells #[.int .u32 0] M) 110)).setCell ⟨bt, k, none⟩ (.slice (some ⟨wr.heap.size, 0, none⟩) M M))) := by
        refine ⟨_, hd.tab.add hkN (by omega), (hd.bel.alloc (by omega) _).setCell (by show w.heap.size ≤ bt; omega) _, ?_⟩
        exact bx_other (bx_keep hd.box ((Below.refl _ _).alloc (Nat.le_refl _) _)) (by show w.heap.size ≠ bt; omega) _ _
      have hne8 : ¬ bt = wr.heap.size := by omega
      have hne9 : ¬ wr.heap.size = bt := by omega
      obtain ⟨w1, HW1⟩ := nameIt ((wr.alloc (.cells (madeCells #[.int .u32 0] M) 110)).setCell ⟨bt, k, none⟩ (.slice (some ⟨wr.heap.size, 0, none⟩) M M))
      have hcomm : (wr.setCell ⟨bt, k, none⟩ (.slice (some ⟨wr.heap.size, 0, none⟩) M M)).alloc (.cells (madeCells #[.int .u32 0] M) 110) = w1 := by
        rw [← HW1.out]
        simp [go_sem, hbt]
      have HCM := Lib.hid hcomm
      rw [HW1.out] at HT1
      clear hcomm hd
      go_upto_region 6 with fail
      rw [HCM.out]
      clear hc8 hf8 hne8 hne9
      go_wp2_with fail
      go_roundg (N - (k + 1))
      case measure => omega
      case rel => exact ⟨k + 1, by omega, by omega, by go_num, HT1⟩
    · have hkN' : ¬ (k : Int) < (N : Int) := by omega
      obtain ⟨rb, hd⟩ := HI.out
      have hkk : k = N := by omega
      rw [hkk] at hd
      have HD0 : Hid (EI K wd w wr.heap.size bt N M rb (fun _ _ => 0) G wr) := hd.fin
      obtain ⟨H, HH⟩ := nameIt wr.heap.size
      rw [HH.out] at HD0
      obtain ⟨E0, HE0⟩ : ∃ E0 : Nat → Nat → Nat, Hid (E0 = fun _ _ => 0) := ⟨_, rfl⟩
      rw [← HE0.out] at HD0
      have HBTH : Hid (bt < H ∧ w.heap.size < H ∧ ∀ a, a < N → rb a < H) := ⟨HD0.out.tab.pl.2, by have := HD0.out.tab.pl; omega, fun a ha => (HD0.out.tab.ne a ha).2.2⟩
      clear hd hkk HI
      go_wp2_with fail
      go_loopg [7, 9, 10, 11] (muE E0 N M + 1) (fun gg v7 v9 v10 v11 wr => ∃ (ag : Bool) (E : Nat → Nat → Nat), v7 = .bool ag ∧ (ag = true → muE E N M + 1 ≤ gg) ∧ Hid (EI K wd w H bt N M rb E G wr) ∧ Hid (ag = false → ClosedE K wd E))
      case atStart => exact ⟨true, E0, rfl, (fun _ => Nat.le_refl _), HD0, (fun e => by cases e)⟩
      case round =>
        clear HD0
        obtain ⟨ag, E, rfl, hgg, HE, HAG⟩ := hrel
        obtain ⟨w3, rfl⟩ : ∃ ww : World, ww = wr := ⟨_, rfl⟩
        cases ag with
        | false =>
          have HX := Lib.hid (HFIN.out H bt rb E G w3 HE.out (HAG.out rfl))
          clear hgg HAG
          go_wp2_with fail
          exact HX.out
        | true =>
          have hgg' := hgg rfl
          obtain ⟨mu, HMU⟩ := nameIt (muE E N M)
          rw [HMU.out] at hgg'
          have hbx := HE.out.box
          rw [HG.out] at hbx
          obtain ⟨x0, x1, x2, x3⟩ := bx_cells4 hbx
          have HC0 : Hid (ClTo K wd E 0) := fun r hr => by simp at hr
          clear hgg HAG hbx
          go_wp2_with fail
          clear x0 x1 x2 x3
          go_loopg [7, 9, 10, 11, 32] kl (fun gg v7 v9 v10 v11 v32 wr => ∃ (q : Nat) (Y : Nat → Nat → Nat) (b : Bool), q ≤ kl ∧ kl - q ≤ gg ∧ v7 = .bool b ∧ v32 = .int .i64 q ∧ Hid (EI K wd w H bt N M rb Y G wr) ∧ Hid (b = false → Y = E ∧ ClTo K wd E q) ∧ Hid (b = true → muE Y N M < mu))
          case atStart => exact ⟨0, E, false, by omega, by omega, rfl, rfl, HE, (fun _ => ⟨rfl, HC0.out⟩), (fun e => by cases e)⟩
          case round =>
            clear HE HC0
            obtain ⟨q, Y, b, hq, hg2, rfl, rfl, HE, HC, HMB⟩ := hrel
            obtain ⟨w4, rfl⟩ : ∃ ww : World, ww = wr := ⟨_, rfl⟩
            by_cases hlt : q < kl
            · have hlt' : (q : Int) < (kl : Int) := by omega
              have hq0 : (0 : Int) ≤ (q : Int) := by omega
              have hqx : q < K.length := by rw [HKL.out]; exact hlt
              obtain ⟨rbk, ro, rv, hae, -, hrb, r0, r1, hrr⟩ := (show Rd AnyB w (.sl (K.map Rule.d)) [.slice ar K.length cr] by rw [HKL.out]; exact HR.out).rule_at hqx
              obtain ⟨sa, sc, rfl, hsc1, hsc2⟩ := hrr.form
              rw [List.length_map] at r1 hrr hsc1
              have t0 := (HE.out.bel.cell (lt_of_cell r0)).trans r0
              have t1 := (HE.out.bel.cell (lt_of_cell r1)).trans r1
              have HRR := Lib.hid hrr
              have HOR := Lib.hid (HOK.out _ (List.getElem_mem hqx))
              have HMEM := Lib.hid (List.getElem_mem hqx)
              have HNX : Hid (ClTo K wd E q → (∀ i, i ≤ n → ClAt wd E K[q] i) → ClTo K wd E (q + 1)) := fun h1 h2 => clTo_next hqx h1 (by rw [HNL.out]; exact h2)
              obtain ⟨r, HRN⟩ := nameIt (K[q]'hqx)
              rw [HRN.out] at t0 t1 HRR HOR hsc1 HMEM HNX
              obtain ⟨hr1, hr2, hr3⟩ := HOR.out
              obtain ⟨A, hA⟩ : ∃ A : Nat, r.left = (A : Int) := ⟨r.left.toNat, by omega⟩
              have hAN : A < N := by rw [hA] at hr2; simpa using hr2
              have HAL := Lib.hid hA
              rw [hA] at t0
              have HOS := Lib.hid hr3
              have hA0 : (0 : Int) ≤ (A : Int) := by omega
              have hA1 : (A : Int) < (N : Int) := by omega
              obtain ⟨rt, HRT⟩ := nameIt r.right
              rw [HRT.out] at t1 HRR HOS hsc1
              have HRRL : Hid (∀ W, Below w.heap.size w W → Rd AnyB W (.sl (rt.map Sym.d)) [.slice sa rt.length sc]) := fun W h => HRR.out.below h
              obtain ⟨rn, HRNL⟩ := nameIt rt.length
              rw [HRNL.out] at t1 hsc1 HRRL
              obtain ⟨w5, HW5⟩ := nameIt (w4.alloc (.cells #[.int .i64 (A : Int), .slice sa rn sc] 57))
              have hb5 : Below w4.heap.size w4 w5 := by rw [← HW5.out]; exact (Below.refl _ _).alloc (Nat.le_refl _) _
              have HE5 := Lib.hid (HE.out.keep hb5)
              have Y5 : Hid (w5.heap[w4.heap.size]? = some (.cells #[.int .i64 (A : Int), .slice sa rn sc] 57 (0, 0))) := by rw [← HW5.out]; exact bx_new _ _ _ rfl
              have hgbH : H ≤ w4.heap.size := HE.out.hs
              obtain ⟨gb, HGB⟩ := nameIt w4.heap.size
              rw [HGB.out] at Y5 hgbH
              have HHEAD : Hid (∀ wr Z, EI K wd w H bt N M rb Z G wr → wr.cell? ⟨bt, A, none⟩ = some (.slice (some ⟨rb A, 0, none⟩) M M)) := fun wr Z h => h.tab.head hAN
              have hrbA : rb A < H := HBTH.out.2.2 A hAN
              have HCI0 : Hid (∀ l, l < 0 → ClAt wd E r l) := fun l hl => absurd hl (Nat.not_lt_zero l)
              obtain ⟨ra, HRA⟩ := nameIt (rb A)
              rw [HRA.out] at HHEAD hrbA
              subst hae
              clear hrr r0 r1 hb5 hr3 hr1 hr2 hA
              go_upto_region 13 with fail
              rw [HW5.out, HGB.out]
              clear t0 t1 HW5
              go_wp2_with fail
              go_loopg [7, 10, 11, 39] M (fun gg v7 v10 v11 v39 wr => ∃ (i : Nat) (Z : Nat → Nat → Nat) (c : Bool), i ≤ M ∧ M - i ≤ gg ∧ v7 = .bool c ∧ v39 = .int .i64 i ∧ Hid (EI K wd w H bt N M rb Z G wr) ∧ Hid (c = false → b = false ∧ Z = Y ∧ ∀ l, l < i → ClAt wd E r l) ∧ Hid (c = true → muE Z N M < mu) ∧ Hid (wr.heap[gb]? = some (.cells #[.int .i64 (A : Int), .slice sa rn sc] 57 (0, 0))))
              case atStart => exact ⟨0, Y, b, by omega, by omega, rfl, rfl, HE5, (fun e => ⟨e, rfl, HCI0.out⟩), HMB.out, Y5⟩
              case round =>
                clear HE5 Y5 HCI0
                obtain ⟨i, Z, c, hi, hg3, rfl, rfl, HZ, HCZ, HMZ, Y5⟩ := hrel
                obtain ⟨w6, rfl⟩ : ∃ ww : World, ww = wr := ⟨_, rfl⟩
                by_cases hiM : i < M
                · have hiM' : (i : Int) < (M : Int) := by omega
                  have hi0 : (0 : Int) ≤ (i : Int) := by omega
                  have hin : i ≤ n := by have := HM.out; omega
                  have HRE : Hid (Calls Tryd.prog 60 #[.slice wa n wc, .slice (some ⟨bt, 0, none⟩) N N, .slice sa rn sc, .int .i64 (i : Int)] w6 (ReachPost Z wd rt i w6)) := by
                    have h := reachE (N := N) (rb := rb) (lo := w.heap.size + 1) (hi := H) (bt := bt) HNL.out hn12 hN10 HZ.out.snd rt HOS.out i hin wa wc sa sc w6 (HW.out w6 HZ.out.bel) (by rw [HM.out]; exact HZ.out.tab) HZ.out.hs (by rw [HRNL.out]; exact HRRL.out w6 HZ.out.bel) (HTG.out w6 HZ.out.bel)
                    rw [HRNL.out] at h
                    exact h
                  obtain ⟨y0, y1⟩ := bx_cells2 Y5.out
                  go_wp2_with fail
                  with_reducible refine HRE.out.mono ?_
                  rintro e w7 ⟨x, rfl, hx, hb7⟩
                  have HZ7 := Lib.hid (HZ.out.keep hb7)
                  have Y7 := Lib.hid (bx_keep Y5.out hb7)
                  have hx8 : x < 8192 := bits_lt (m := 12) fun j hj => by have := (RB_sound HZ.out.snd (by rw [HNL.out]; exact hin) ((hx j).1 hj)).2.1; rw [HNL.out] at this; omega
                  have hz8 : Z A i < 8192 := HZ.out.snd.lt (by rw [HNL.out]; exact hn12) A i
                  have HXX := Lib.hid hx
                  have HSO : Hid (SoundE K wd (orE Z A i x)) := orE_sound HZ.out.snd fun j hj => by
                    obtain ⟨a1, a2, a3⟩ := RB_sound HZ.out.snd (by rw [HNL.out]; exact hin) ((hx j).1 hj)
                    exact ⟨a1, a2, lang_rule HMEM.out HAL.out (by rw [HRT.out]; exact a3)⟩
                  have c0 := HHEAD.out w7 Z HZ7.out
                  have c1 : w7.cell? ⟨ra, i, none⟩ = some (.int .u32 (Z A i : Int)) := by rw [← HRA.out]; exact HZ7.out.tab.cell hAN hiM
                  have f1 : w7.frozen? ⟨ra, i, none⟩ = false := by rw [← HRA.out]; exact HZ7.out.tab.free hAN i
                  have HST : Hid (EI K wd w H bt N M rb (orE Z A i x) G (w7.setCell ⟨ra, i, none⟩ (.int .u32 ((Z A i ||| x : Nat) : Int)))) := by
                    rw [← HRA.out]; exact HZ7.out.set hAN hiM HSO.out
                  have hz12 : Z A i < 4294967296 := by omega
                  have hx12 : x < 4294967296 := by omega
                  have hor : bits BinOp.or IntKind.u32 (Z A i : Int) (x : Int) = ((Z A i ||| x : Nat) : Int) := u32_or_nat _ _ hz12 hx12
                  have han : bits BinOp.andNot IntKind.u32 (x : Int) (Z A i : Int) = ((x &&& (4294967295 - Z A i) : Nat) : Int) := u32_andNot_nat _ _ hx12 hz12
                  have HMUZ : Hid (muE Z N M ≤ mu) := by
                    show muE Z N M ≤ mu
                    cases c with
                    | true => exact Nat.le_of_lt (HMZ.out rfl)
                    | false =>
                      obtain ⟨e1, e2, _⟩ := HCZ.out rfl
                      rw [e2, (HC.out e1).1, HMU.out]; exact Nat.le_refl _
                  have HLT : Hid (x &&& (4294967295 - Z A i) ≠ 0 → muE (orE Z A i x) N M < mu) := fun h => Nat.lt_of_lt_of_le (muE_or hAN hiM (or_lt hx12 hz12 h) (Nat.or_lt_two_pow (n := 13) hz8 hx8)) HMUZ.out
                  have HCL : Hid (x &&& (4294967295 - Z A i) = 0 → c = false → b = false ∧ Z = Y ∧ ∀ l, l < i + 1 → ClAt wd E r l) := by
                    intro h e
                    obtain ⟨h1, h2, h3⟩ := HCZ.out e
                    refine ⟨h1, h2, fun l hl => ?_⟩
                    by_cases el : l = i
                    · subst el
                      intro j hj
                      have hZE : Z = E := h2.trans (HC.out h1).1
                      rw [← hZE, HRT.out] at hj
                      have := andNot_zero hx12 hz12 h j ((HXX.out j).2 hj)
                      rw [← hZE, HAL.out]
                      simpa using this
                    · exact h3 l (by omega)
                  obtain ⟨zz, HZZ⟩ := nameIt (Z A i)
                  rw [HZZ.out] at c1 HST hor han HLT HCL
                  obtain ⟨z2, HZ2⟩ := nameIt (zz ||| x)
                  rw [HZ2.out] at HST hor
                  obtain ⟨z3, HZ3⟩ := nameIt (x &&& (4294967295 - zz))
                  rw [HZ3.out] at han HLT HCL
                  obtain ⟨y0', y1'⟩ := bx_cells2 Y7.out
                  have hgr : ¬ ra = gb := by omega
                  have hrg : ¬ gb = ra := by omega
                  have Y8 : Hid ((w7.setCell ⟨ra, i, none⟩ (.int .u32 (z2 : Int))).heap[gb]? = some (.cells #[.int .i64 (A : Int), .slice sa rn sc] 57 (0, 0))) := bx_other Y7.out (show gb ≠ ra from hrg) _ _
                  clear hx y0 y1 hb7 HRE hx8 hz8
                  by_cases h0 : z3 = 0
                  · have HCN := Lib.hid (HCL.out h0)
                    subst h0
                    go_wp2_with fail
                    go_roundg (M - (i + 1))
                    case measure => omega
                    case rel => exact ⟨i + 1, Z, c, by omega, by omega, rfl, by go_num, HZ7, HCN, HMZ, Y7⟩
                  · have h0' : ((z3 : Int) != 0) = true := by simpa using h0
                    have HLN : Hid (muE (orE Z A i x) N M < mu) := HLT.out h0
                    go_wp2_with fail
                    go_roundg (M - (i + 1))
                    case measure => omega
                    case rel => exact ⟨i + 1, orE Z A i x, true, by omega, by omega, rfl, by go_num, HST, (fun e => by cases e), (fun _ => HLN.out), Y8⟩
                · have hiM' : ¬ (i : Int) < (M : Int) := by omega
                  have HCN : Hid (c = false → Z = E ∧ ClTo K wd E (q + 1)) := by
                    intro e
                    obtain ⟨h1, h2, h3⟩ := HCZ.out e
                    obtain ⟨h4, h5⟩ := HC.out h1
                    exact ⟨h2.trans h4, HNX.out h5 fun l hl => h3 l (by have := HM.out; omega)⟩
                  go_wp2_with fail
                  go_roundg (kl - (q + 1))
                  case measure => omega
                  case rel => exact ⟨q + 1, Z, c, by omega, by omega, rfl, by go_num, HZ, HCN, HMZ⟩
            · have hlt' : ¬ (q : Int) < (kl : Int) := by omega
              have HCE : Hid (b = false → ClosedE K wd Y) := by
                intro e
                obtain ⟨h1, h2⟩ := HC.out e
                rw [h1]
                exact clTo_end (by rw [HKL.out]; omega) h2
              have HMM : Hid (b = true → muE Y N M + 1 ≤ mu) := HMB.out
              go_wp2_with fail
              go_roundg mu
              case measure => omega
              case rel => exact ⟨b, Y, rfl, HMM.out, HE, HCE⟩
end Lg
end Go.Proofs.YtgcfpbjifjklbaaDoor
namespace Go.Proofs.YtgcfpbjifjklbaaDoor
open Go.RowKit
namespace Fb
theorem bitE (x j : Nat) (h : x < 4294967296) : (bits BinOp.and IntKind.u32 ((x : Int) / 2 ^ j) 1 == 1) = x.testBit j := by
  have h1 : ((x : Int) / 2 ^ j) = ((x / 2 ^ j : Nat) : Int) := by push_cast; rfl
  have h0 : bits BinOp.and IntKind.u32 ((x : Int) / 2 ^ j) 1 = ((x / 2 ^ j % 2 : Nat) : Int) := by
    rw [h1]
    have h2 := u32_and_nat (x / 2 ^ j) 1 (by have := Nat.div_le_self x (2 ^ j); omega) (by omega)
    have h3 : x / 2 ^ j &&& 1 = x / 2 ^ j % 2 := Nat.and_one_is_mod _
    rw [h3] at h2
    exact h2
  rw [h0]
  have h5 : x.testBit j = decide (x / 2 ^ j % 2 = 1) := Nat.testBit_eq_decide_div_mod_eq
  rw [h5]
  have := Nat.mod_lt (x / 2 ^ j) (show 0 < 2 by decide)
  rcases (show x / 2 ^ j % 2 = 0 ∨ x / 2 ^ j % 2 = 1 by omega) with h | h <;> rw [h] <;> rfl
set_option maxHeartbeats 1000000 in
set_option maxRecDepth 100000 in
theorem rejClE (q : Rej) (lf : Int) (i j : Nat) (E : Nat → Nat → Nat) (lo hi bt N M : Nat) (rb : Nat → Nat) (nb tb fb ob : Nat) (W : World) (hT : Cs.Tb 110 lo hi bt N M rb (fun a k => .int .u32 (E a k : Int)) W) (hN : N ≤ 100) (hM : M ≤ 30)
    (x1 : W.cell? ⟨nb, 0, none⟩ = some (.int .i64 lf)) (x2 : W.cell? ⟨tb, 0, none⟩ = some (.slice (some ⟨bt, 0, none⟩) N N)) (x3 : W.cell? ⟨fb, 0, none⟩ = some (.int .i64 i)) (x4 : W.cell? ⟨ob, 0, none⟩ = some (.int .i64 j))
    (hm0 : 0 ≤ q.m) (hm : q.m < (N : Int)) (hi : i < M) (hj : j < M) (hE : ∀ a k, E a k < 8192) :
    Calls Tryd.prog 63 #[.agg #[.int .i64 q.n, .int .i64 q.m], .pointer (some ⟨nb, 0, none⟩), .pointer (some ⟨tb, 0, none⟩), .pointer (some ⟨fb, 0, none⟩), .pointer (some ⟨ob, 0, none⟩)] W fun e w' => e = .returned (.bool ((q.n == lf) && (E q.m.toNat i).testBit j)) ∧ Below W.heap.size W w' := by
  obtain ⟨qn, qm⟩ := q
  simp only at hm0 hm ⊢
  obtain ⟨m, rfl⟩ : ∃ m : Nat, qm = (m : Int) := ⟨qm.toNat, by omega⟩
  rw [Int.toNat_natCast]
  have hmN : m < N := by omega
  obtain ⟨w0, HW0⟩ := nameIt (W.alloc (.cells #[.int .i64 qn, .int .i64 (m : Int)] 58))
  have hb0 : Below W.heap.size W w0 := by rw [← HW0.out]; exact (Below.refl _ _).alloc (Nat.le_refl _) _
  have X1 : Hid (w0.heap[W.heap.size]? = some (.cells #[.int .i64 qn, .int .i64 (m : Int)] 58 (0, 0))) := by rw [← HW0.out]; exact bx_new _ _ _ rfl
  have HB0 := Lib.hid hb0
  obtain ⟨y0, y1⟩ := bx_cells2 X1.out
  have t1 := (hb0.cell (lt_of_cell (hT.head hmN))).trans (hT.head hmN)
  have t2 := (hb0.cell (lt_of_cell (hT.cell hmN hi))).trans (hT.cell hmN hi)
  replace x1 := (hb0.cell (lt_of_cell x1)).trans x1
  replace x2 := (hb0.cell (lt_of_cell x2)).trans x2
  replace x3 := (hb0.cell (lt_of_cell x3)).trans x3
  replace x4 := (hb0.cell (lt_of_cell x4)).trans x4
  have hl1 : W.heap.size < w0.heap.size := (Array.getElem?_eq_some_iff.1 X1.out).1
  have HBT := Lib.hid (bitE (E m i) j (by have := hE m i; omega))
  obtain ⟨x, HX⟩ := nameIt (E m i)
  simp only [HX.out] at t2 HBT
  obtain ⟨v, HV⟩ := nameIt (x.testBit j)
  rw [HV.out] at HBT
  rw [HX.out, HV.out]
  have hm1 : (m : Int) < (N : Int) := hm
  have hi1 : (i : Int) < (M : Int) := by omega
  have hj0 : (0 : Int) ≤ (j : Int) := by omega
  have hjj : (j : Int) ≤ 30 := by omega
  have hmin : min j 32 = j := by omega
  clear hb0 hT hE
  by_cases hq : qn = lf
  · subst hq
    have k1 : (qn == qn) = true := by simp
    have k2 := HBT.out
    rw [k1]
    go_enter Tryd.func63, Tryd.ntmps63
    go_upto_region 1 with fail
    rw [HW0.out]
    clear HW0
    go_quiet (fail)
    go_wp2_with fail
    go_ret
    exact ⟨by simp, HB0.out.trans ((below_drewN _ _).mono HB0.out.size)⟩
  · have k1 : (qn == lf) = false := by simpa using hq
    rw [k1]
    clear hq
    go_enter Tryd.func63, Tryd.ntmps63
    go_upto_region 1 with fail
    rw [HW0.out]
    clear HW0
    go_quiet (fail)
    go_wp2_with fail
    go_ret
    exact ⟨by simp, HB0.out.trans ((below_drewN _ _).mono HB0.out.size)⟩
def RejFn (la : Array Value) (F : Rej → Bool) (w : World) (l : List Rej) : Prop := ∀ q ∈ l, ∀ W, Below w.heap.size w W → Calls Tryd.prog 63 (#[.agg #[.int .i64 q.n, .int .i64 q.m]] ++ la) W fun e w' => e = .returned (.bool (F q)) ∧ Below W.heap.size W w'
set_option maxHeartbeats 1000000 in
set_option maxRecDepth 100000 in
theorem indexRejE (l : List Rej) (F : Rej → Bool) (nb tb fb ob : Nat) (ja : Option Addr) (jc : Nat) (W : World) (hj : Rd AnyB W (.sl (l.map Rej.d)) [.slice ja l.length jc]) (hf : RejFn #[.pointer (some ⟨nb, 0, none⟩), .pointer (some ⟨tb, 0, none⟩), .pointer (some ⟨fb, 0, none⟩), .pointer (some ⟨ob, 0, none⟩)] F W l) :
    Calls Tryd.prog 83 #[.slice ja l.length jc, .func (.func 63) #[] #[.pointer (some ⟨nb, 0, none⟩), .pointer (some ⟨tb, 0, none⟩), .pointer (some ⟨fb, 0, none⟩), .pointer (some ⟨ob, 0, none⟩)]] W fun e w' => ∃ r : Int, e = .returned (.int .i64 r) ∧ decide (0 ≤ r) = l.any F ∧ Below W.heap.size W w' := by
  obtain ⟨hc3, hc4⟩ := hj.bounds.2
  unfold maxLen at hc4
  have HMT : Hid (∀ i (h : i < l.length), F l[i] = true → l.any F = true) := fun i h e => List.any_eq_true.2 ⟨_, List.getElem_mem h, e⟩
  have HMF : Hid ((∀ i (h : i < l.length), F l[i] = false) → l.any F = false) := fun h => by
    rw [List.any_eq_false]; intro x hx; obtain ⟨i, hi, rfl⟩ := List.getElem_of_mem hx; rw [h i hi]; decide
  have HFN := Lib.hid hf
  obtain ⟨PST, HP⟩ := nameIt (fun (e : Ending) (w' : World) => ∃ r : Int, e = .returned (.int .i64 r) ∧ decide (0 ≤ r) = l.any F ∧ Below W.heap.size W w')
  have HFIN : Hid (∀ (r : Int) w', decide (0 ≤ r) = l.any F → Below W.heap.size W w' → PST (.returned (.int .i64 r)) w') := fun r w' h1 h2 => by rw [← HP.out]; exact ⟨r, rfl, h1, h2⟩
  rw [HP.out]
  clear HP
  obtain ⟨B, HBn⟩ := nameIt (l.any F)
  rw [HBn.out] at HFIN
  rw [HBn.out] at HMF
  simp only [HBn.out] at HMT
  obtain ⟨ln, HLN⟩ := nameIt l.length
  have HL := Lib.hid hj
  rw [HLN.out] at hc3
  rw [HLN.out] at HL
  rw [HLN.out]
  have eg : ∀ args w, (callFunc 63 args).run Tryd.prog w = .ok (.enter 63 args) w := enters_of Tryd.func63 (by kernel_rfl) rfl
  clear hj hf
  go_enter Tryd.func83, Tryd.ntmps83
  go_wp2_with fail
  go_loopg [8] ln (fun gg v8 wr => ∃ i : Nat, i ≤ ln ∧ ln - i ≤ gg ∧ v8 = .int .i64 i ∧ Hid (Below W.heap.size W wr) ∧ Hid (∀ k (h : k < l.length), k < i → F l[k] = false))
  case atStart => exact ⟨0, by omega, by omega, rfl, Below.refl _ _, fun k h1 h2 => by omega⟩
  case round =>
    obtain ⟨i, hi, hg, rfl, HB, HNO⟩ := hrel
    by_cases hlt : i < ln
    · have hlt' : (i : Int) < (ln : Int) := by omega
      have hic : (i : Int) ≤ (jc : Int) := by omega
      have hil : i < l.length := by rw [HLN.out]; exact hlt
      obtain ⟨bb, bo, hae, -, hbl, c0, c1⟩ := Rd.rej_at (HL.out.below HB.out) hil
      have HT := Lib.hid (fun e => HMT.out i hil e)
      have HNX : Hid (F l[i] = false → ∀ k (h : k < l.length), k < i + 1 → F l[k] = false) := fun hne k h1 h2 => by
        by_cases e : k = i
        · subst e; exact hne
        · exact HNO.out k h1 (by omega)
      have HC : Hid (Calls Tryd.prog 63 #[.agg #[.int .i64 l[i].n, .int .i64 l[i].m], .pointer (some ⟨nb, 0, none⟩), .pointer (some ⟨tb, 0, none⟩), .pointer (some ⟨fb, 0, none⟩), .pointer (some ⟨ob, 0, none⟩)] wr fun e w' => e = .returned (.bool (F l[i])) ∧ Below wr.heap.size wr w') := HFN.out _ (List.getElem_mem hil) wr HB.out
      obtain ⟨fv, HFV⟩ := nameIt (F l[i])
      rw [HFV.out] at HT HNX HC
      obtain ⟨x, HX⟩ := nameIt (l[i]'hil)
      rw [HX.out] at c0 c1 HC
      obtain ⟨x1, x2⟩ := x
      simp only at c0 c1 HC
      subst hae
      clear HNO
      go_wp2_with fail
      refine HC.out.mono ?_
      rintro e w1 ⟨rfl, hb1⟩
      have HB1 : Hid (Below W.heap.size W w1) := HB.out.trans (hb1.mono HB.out.size)
      clear hb1 c0 c1 hbl
      cases fv with
      | true =>
        have HE : Hid (B = true) := HT.out (by trivial)
        clear HNX
        go_wp2_with fail
        exact HFIN.out _ _ (by rw [HE.out]; simp) HB1.out
      | false =>
        have HE := Lib.hid (HNX.out (by trivial))
        clear HNX
        go_wp2_with fail
        go_roundg (ln - (i + 1))
        case measure => omega
        case rel => exact ⟨i + 1, by omega, by omega, by go_num, HB1.out, HE.out⟩
    · have hlt' : ¬ (i : Int) < (ln : Int) := by omega
      have HE : Hid (B = false) := HMF.out fun k h => HNO.out k h (by rw [HLN.out] at h; omega)
      go_wp2_with fail
      exact HFIN.out _ _ (by rw [HE.out]; rfl) HB.out
set_option maxHeartbeats 1000000 in
set_option maxRecDepth 100000 in
theorem containsRejE (l : List Rej) (F : Rej → Bool) (nb tb fb ob : Nat) (ja : Option Addr) (jc : Nat) (W : World) (hj : Rd AnyB W (.sl (l.map Rej.d)) [.slice ja l.length jc]) (hf : RejFn #[.pointer (some ⟨nb, 0, none⟩), .pointer (some ⟨tb, 0, none⟩), .pointer (some ⟨fb, 0, none⟩), .pointer (some ⟨ob, 0, none⟩)] F W l) :
    Calls Tryd.prog 62 #[.slice ja l.length jc, .func (.func 63) #[] #[.pointer (some ⟨nb, 0, none⟩), .pointer (some ⟨tb, 0, none⟩), .pointer (some ⟨fb, 0, none⟩), .pointer (some ⟨ob, 0, none⟩)]] W fun e w' => e = .returned (.bool (l.any F)) ∧ Below W.heap.size W w' := by
  have HC := Lib.hid (indexRejE l F nb tb fb ob ja jc W hj hf)
  obtain ⟨B, HBn⟩ := nameIt (l.any F)
  rw [HBn.out] at HC ⊢
  obtain ⟨ln, HLN⟩ := nameIt l.length
  rw [HLN.out] at HC ⊢
  clear hj hf
  go_enter Tryd.func62, Tryd.ntmps62
  go_wp2_with fail
  refine HC.out.mono ?_
  rintro e w1 ⟨r, rfl, hr, hb1⟩
  have HE := Lib.hid hb1
  clear hb1
  go_wp2_with fail
  go_ret
  exact ⟨rfl, HE.out⟩
set_option maxHeartbeats 1000000 in
set_option maxRecDepth 100000 in
theorem rejectedE (bv : Value) (l : List Rej) (lf : Int) (i j : Nat) (E : Nat → Nat → Nat) (lo hi bt N M : Nat) (rb : Nat → Nat) (ja : Option Addr) (jc : Nat) (W : World) (hj : Rd AnyB W (.sl (l.map Rej.d)) [.slice ja l.length jc]) (hT : Cs.Tb 110 lo hi bt N M rb (fun a k => .int .u32 (E a k : Int)) W) (hhi : hi ≤ W.heap.size) (hN : N ≤ 100) (hM : M ≤ 30)
    (hq : ∀ q ∈ l, 0 ≤ q.m ∧ q.m < (N : Int)) (hi' : i < M) (hj' : j < M) (hE : ∀ a k, E a k < 8192) :
    Calls Tryd.prog 42 #[.agg #[bv, .slice ja l.length jc], .slice (some ⟨bt, 0, none⟩) N N, .int .i64 lf, .int .i64 i, .int .i64 j] W fun e w' => e = .returned (.bool (rejHit l lf (fun m i j => (E m.toNat i).testBit j) i j)) ∧ Below W.heap.size W w' := by
  obtain ⟨w0, HW0⟩ := nameIt (((((W.alloc (.cells #[bv, .slice ja l.length jc] 28)).alloc (.cells #[.slice (some ⟨bt, 0, none⟩) N N] 82)).alloc (.cells #[.int .i64 lf] 3)).alloc (.cells #[.int .i64 i] 3)).alloc (.cells #[.int .i64 j] 3))
  have hb0 : Below W.heap.size W w0 := by rw [← HW0.out]; exact (((((Below.refl _ _).alloc (Nat.le_refl _) _).alloc (by simp) _).alloc (by first | (simp; done) | (simp; omega)) _).alloc (by first | (simp; done) | (simp; omega)) _).alloc (by first | (simp; done) | (simp; omega)) _
  have X1 : Hid (w0.heap[W.heap.size]? = some (.cells #[bv, .slice ja l.length jc] 28 (0, 0))) := by rw [← HW0.out]; exact bx_keep (bx_new _ _ _ rfl) (((((Below.refl _ _).alloc (Nat.le_refl _) _).alloc (by simp) _).alloc (by first | (simp; done) | (simp; omega)) _).alloc (by first | (simp; done) | (simp; omega)) _)
  have X2 : Hid (w0.heap[W.heap.size + 1]? = some (.cells #[.slice (some ⟨bt, 0, none⟩) N N] 82 (0, 0))) := by rw [← HW0.out]; exact bx_keep (bx_new _ _ _ (by simp)) ((((Below.refl _ _).alloc (Nat.le_refl _) _).alloc (by simp) _).alloc (by first | (simp; done) | (simp; omega)) _)
  have X3 : Hid (w0.heap[W.heap.size + 2]? = some (.cells #[.int .i64 lf] 3 (0, 0))) := by rw [← HW0.out]; exact bx_keep (bx_new _ _ _ (by simp)) (((Below.refl _ _).alloc (Nat.le_refl _) _).alloc (by simp) _)
  have X4 : Hid (w0.heap[W.heap.size + 3]? = some (.cells #[.int .i64 i] 3 (0, 0))) := by rw [← HW0.out]; exact bx_keep (bx_new _ _ _ (by simp)) ((Below.refl _ _).alloc (Nat.le_refl _) _)
  have X5 : Hid (w0.heap[W.heap.size + 4]? = some (.cells #[.int .i64 j] 3 (0, 0))) := by rw [← HW0.out]; exact bx_new _ _ _ (by simp)
  have HB0 := Lib.hid hb0
  have HC : Hid (Calls Tryd.prog 62 #[.slice ja l.length jc, .func (.func 63) #[] #[.pointer (some ⟨W.heap.size + 2, 0, none⟩), .pointer (some ⟨W.heap.size + 1, 0, none⟩), .pointer (some ⟨W.heap.size + 3, 0, none⟩), .pointer (some ⟨W.heap.size + 4, 0, none⟩)]] w0 fun e w' => e = .returned (.bool (l.any fun q => (q.n == lf) && (E q.m.toNat i).testBit j)) ∧ Below w0.heap.size w0 w') := by
    refine containsRejE l _ _ _ _ _ ja jc w0 (hj.below hb0) (fun q hqm W' hb' => ?_)
    exact rejClE q lf i j E lo hi bt N M rb _ _ _ _ W' ((hT.keep hhi hb0).keep (Nat.le_trans hhi hb0.size) hb') hN hM (bx_cells1 (bx_keep X3.out hb')) (bx_cells1 (bx_keep X2.out hb')) (bx_cells1 (bx_keep X4.out hb')) (bx_cells1 (bx_keep X5.out hb')) (hq q hqm).1 (hq q hqm).2 hi' hj' hE
  have HV : Hid ((l.any fun q => (q.n == lf) && (E q.m.toNat i).testBit j) = rejHit l lf (fun m i j => (E m.toNat i).testBit j) i j) := rfl
  rw [HV.out] at HC
  obtain ⟨B, HBn⟩ := nameIt (rejHit l lf (fun m i j => (E m.toNat i).testBit j) i j)
  rw [HBn.out] at HC ⊢
  obtain ⟨ln, HLN⟩ := nameIt l.length
  rw [HLN.out] at HC HW0 X1 ⊢
  have hl1 : W.heap.size < w0.heap.size := (Array.getElem?_eq_some_iff.1 X1.out).1
  obtain ⟨x0, x1⟩ := bx_cells2 X1.out
  clear hb0 hT hj hq hE HV
  go_enter Tryd.func42, Tryd.ntmps42
  go_upto_region 1 with fail
  rw [HW0.out]
  clear HW0
  go_wp2_with fail
  refine HC.out.mono ?_
  rintro e w1 ⟨rfl, hb1⟩
  have HE : Hid (Below W.heap.size W w1) := HB0.out.trans (hb1.mono HB0.out.size)
  clear hb1
  go_wp2_with fail
  go_ret
  exact ⟨rfl, HE.out⟩
end Fb
end Go.Proofs.YtgcfpbjifjklbaaDoor
namespace Go.Proofs.YtgcfpbjifjklbaaDoor
open Go.RowKit
mutual
def leafP : Tree → Nat → List Int
  | .node r _ ks, n => if r = -1 then [] else leafPL 0 ks n
def leafPL : Nat → List Tree → Nat → List Int
  | _, [], _ => []
  | i, k :: ks, n => if n < lv k then (i : Int) :: leafP k n else leafPL (i + 1) ks (n - lv k)
end
theorem leafP_leaf {t : Tree} (h : t.rule = -1) (n : Nat) : leafP t n = [] := by
  cases t; simp only [Tree.rule] at h; simp [leafP, h]
theorem kid_nodes_lt {t : Tree} (hr : t.rule ≠ -1) {i : Nat} (h : i < t.kids.length) : (nodes t.kids[i]).length < (nodes t).length := by
  have e : kidsOf t = t.kids := by simp [kidsOf, hr]
  have := nodesL_kid h
  rw [nodes_eq t, e]
  simp; omega
structure LeafRel (t : Tree) (n0 : Nat) (w : World) (c : Tree) (n : Nat) (P : List Int) (cv pv : Value) (wr : World) : Prop where
  box : wr.heap[w.heap.size]? = some (.cells #[.int .i64 c.rule, .int .i64 c.term, cv] 32 (0, 0))
  kid : Rd AnyB w (.sl (c.kids.map Tree.d)) [cv]
  own : wr.ownsRow (w.heap.size + 1) 3 1 pv P.length (ints P)
  bel : Below w.heap.size w wr
  eq : P ++ leafP c n = leafP t n0
  lt : n < lv c
  len : P.length + (nodes c).length ≤ (nodes t).length
end Go.Proofs.YtgcfpbjifjklbaaDoor
namespace Go.Proofs.YtgcfpbjifjklbaaDoor
open Go.RowKit
theorem rangeT_nil (t : Tree) : rangeT t [] = (0, lv t) := by rw [rangeT]
theorem below_kid {c x : Tree} {i : Int} {p : List Int} (h : belowT c (i :: p) = some x) : ∃ (j : Nat), i = (j : Int) ∧ c.rule ≠ -1 ∧ ∃ hj : j < c.kids.length, belowT c.kids[j] p = some x := by
  rw [belowT] at h
  cases hk : kidAt c i with
  | none => rw [hk] at h; simp at h
  | some k =>
    rw [hk] at h
    unfold kidAt at hk
    by_cases e1 : c.rule = -1
    · simp [e1] at hk
    · by_cases e2 : i < 0
      · simp [e2] at hk
      · simp [e1, e2] at hk
        obtain ⟨h3, h4⟩ := List.getElem?_eq_some_iff.1 hk
        exact ⟨i.toNat, by omega, e1, h3, by rw [h4]; simpa using h⟩
theorem lv_kid_le {c : Tree} (hr : c.rule ≠ -1) {i : Nat} (h : i < c.kids.length) : lvs (c.kids.take i) + lv c.kids[i] ≤ lv c := by
  rw [lv_inner hr, ← lvs_take_succ h]
  conv => rhs; rw [← List.take_append_drop (i + 1) c.kids, lvs_append]
  omega
structure RangeRel (t x : Tree) (p : List Int) (w : World) (i : Nat) (c : Tree) (n : Nat) (cv : Value) (wr : World) : Prop where
  box : wr.heap[w.heap.size]? = some (.cells #[.int .i64 c.rule, .int .i64 c.term, cv] 32 (0, 0))
  kid : Rd AnyB w (.sl (c.kids.map Tree.d)) [cv]
  bel : Below w.heap.size w wr
  ex : belowT c (p.drop i) = some x
  eq : shift n (rangeT c (p.drop i)) = rangeT t p
  lt : n + lv c ≤ lv t
  sz : (nodes c).length ≤ (nodes t).length
def RangePost (t : Tree) (p : List Int) (w : World) (e : Ending) (w' : World) : Prop := e = .returned (.tuple #[.int .i64 (rangeT t p).1, .int .i64 (rangeT t p).2]) ∧ Below w.heap.size w w'
set_option maxHeartbeats 2000000 in
set_option maxRecDepth 100000 in
theorem rangeE (t x : Tree) (v : Value) (ap : Option Addr) (cp : Nat) (p : List Int) (w : World) (hv : Rd AnyB w (.sl (t.kids.map Tree.d)) [v]) (hp : Sl w (.slice ap p.length cp) (ints p)) (hx : belowT t p = some x) (hN : (nodes t).length ≤ 1099511627776) :
    Calls Tryd.prog 46 #[.agg #[.int .i64 t.rule, .int .i64 t.term, v], .slice ap p.length cp] w (RangePost t p w) := by
  obtain ⟨a, nk, cap, rfl⟩ := treeBox hv
  have HNN := Lib.hid hN
  have HP := Lib.hid hp
  have hpl := hp.len
  unfold maxLen at hpl
  obtain ⟨-, hp1, hp2⟩ := hpl
  obtain ⟨w0, HW0⟩ := nameIt (w.alloc (.cells #[.int .i64 t.rule, .int .i64 t.term, .slice a nk cap] 32))
  have HR0 : Hid (RangeRel t x p w 0 t 0 (.slice a nk cap) w0) := by
    rw [← HW0.out]
    exact ⟨bx_new _ _ _ rfl, hv, (Below.refl _ _).alloc (Nat.le_refl _) _, by simpa using hx, by simp [shift], by omega, Nat.le_refl _⟩
  have HLV := Lib.hid (Nat.le_trans (lv_le t) hN)
  clear hv hp hx hN
  go_enter Tryd.func46, Tryd.ntmps46
  go_wp2_with fail
  rw [HW0.out]
  go_loopg [6, 13] p.length (fun gg v6 v13 wr => ∃ (i : Nat) (c : Tree) (n : Nat) (cv : Value), i ≤ p.length ∧ p.length - i ≤ gg ∧ v13 = .int .i64 i ∧ v6 = .int .i64 n ∧ Hid (RangeRel t x p w i c n cv wr))
  case atStart => exact ⟨0, t, 0, _, by omega, by omega, rfl, rfl, HR0⟩
  case round =>
    clear HR0 HW0
    obtain ⟨wo, rfl⟩ : ∃ wo : World, wo = wr := ⟨_, rfl⟩
    obtain ⟨i, c, n, cv, hi, hg, rfl, rfl, HR⟩ := hrel
    obtain ⟨ac, nc, cc, rfl⟩ := treeBox HR.out.kid
    have hbox := HR.out.box
    have HNC : Hid (c.kids.length = nc) := by show _ = _; have := HR.out.kid.bounds.1; simpa using this.symm
    have hncb : nc ≤ cc ∧ cc ≤ 9223372036854775807 := by have := HR.out.kid.bounds; unfold maxLen at this; omega
    obtain ⟨hnc1, hnc2⟩ := hncb
    obtain ⟨r, HXr⟩ := nameIt c.rule
    obtain ⟨tm, HXt⟩ := nameIt c.term
    rw [HXr.out, HXt.out] at hbox
    obtain ⟨x0, x1, x2⟩ := bx_cells3 hbox
    have hwo : w.heap.size < wo.heap.size := (Array.getElem?_eq_some_iff.1 hbox).1
    clear hbox
    by_cases hlt : i < p.length
    · have hlt' : (i : Int) < (p.length : Int) := by omega
      have hex := HR.out.ex
      have heq := HR.out.eq
      rw [List.drop_eq_getElem_cons hlt] at hex heq
      obtain ⟨j, hj, hcr, hjl, hbk⟩ := below_kid hex
      obtain ⟨ba, oa, hae, hca⟩ := (HP.out.keep HR.out.bel).at hlt
      have c1 := hca i (by rw [ints_len]; exact hlt)
      rw [ints_get, hj] at c1
      rw [hj, rangeT_cons (k := c.kids[j]) (by simp), shift_shift] at heq
      have HBK := Lib.hid hbk
      have HEQ := Lib.hid heq
      have HCR := Lib.hid hcr
      have HLK := Lib.hid (lv_kid_le hcr hjl)
      have HJL := Lib.hid hjl
      have hjn : j < nc := by rw [← HNC.out]; exact hjl
      have hjn' : (j : Int) < (nc : Int) := by omega
      have hjcc : j ≤ cc := by omega
      have HSZ := Lib.hid (kid_nodes_lt hcr hjl)
      subst hae
      clear hca hex heq hj hcr hbk
      go_wp2_with fail
      go_loopg [6, 22] j (fun gg' v6 v22 wr => ∃ (k : Nat), k ≤ j ∧ j - k ≤ gg' ∧ v22 = .int .i64 k ∧ v6 = .int .i64 (n + lvs (c.kids.take k) : Nat) ∧ Hid (Below wo.heap.size wo wr))
      case atStart => exact ⟨0, by omega, by omega, rfl, by simp [lvs], Below.refl _ _⟩
      case round =>
        obtain ⟨k, hk, hgk, rfl, rfl, HM⟩ := hrel
        have hsl : n + lvs (c.kids.take k) ≤ 1099511627776 := by
          have h1 := HR.out.lt
          have h2 := HLV.out
          have h3 := lv_inner HCR.out
          have h4 : lvs (c.kids.take k) ≤ lvs c.kids := by
            conv => rhs; rw [← List.take_append_drop k c.kids, lvs_append]
            omega
          omega
        obtain ⟨s, HS⟩ := nameIt (n + lvs (c.kids.take k))
        rw [HS.out] at hsl
        rw [HS.out]
        by_cases hkj : k < j
        · have hkj' : (k : Int) < (j : Int) := by omega
          have hkl : k < c.kids.length := by omega
          obtain ⟨b, off, v, hae, -, hbl, k0, k1, k2, hkid⟩ := HR.out.kid.kid hkl
          obtain ⟨av, nv, cv, rfl⟩ := treeBox hkid
          have HBW := Lib.hid (HR.out.bel.trans (HM.out.mono HR.out.bel.size))
          have e0 := (HBW.out.cell (p := ⟨b, off + k * 3, none⟩) hbl).trans k0
          have e1 := (HBW.out.cell (p := ⟨b, off + k * 3 + 1, none⟩) hbl).trans k1
          have e2 := (HBW.out.cell (p := ⟨b, off + k * 3 + 2, none⟩) hbl).trans k2
          have HTS := Lib.hid (lvs_take_succ hkl)
          have hnk := kid_nodes_lt HCR.out hkl
          have hlvk := lv_le c.kids[k]
          obtain ⟨y, HX⟩ := nameIt (c.kids[k]'hkl)
          rw [HX.out] at e0 e1 hkid hnk hlvk HTS
          obtain ⟨q0, HQ0⟩ := nameIt y.rule
          obtain ⟨q1, HQ1⟩ := nameIt y.term
          have hb3 := (Below.refl wr.heap.size wr).alloc (Nat.le_refl _) (.cells #[.int .i64 q0, .int .i64 q1, .slice av nv cv] 32)
          have hy := yieldE y _ _ ((hkid.below HBW.out).below hb3) (by have := HR.out.sz; have := HNN.out; omega)
          rw [HQ0.out] at e0 hy
          rw [HQ1.out] at e1 hy
          have HY := Lib.hid hy
          have HB3 := Lib.hid hb3
          have HLE : Hid ((ints (leavesOf (nodes y))).length = lv y) := by show _ = _; rw [ints_len]; rfl
          have hlk : lv y ≤ 1099511627776 := by have := HR.out.sz; have := HNN.out; omega
          obtain ⟨ly, HLY⟩ := nameIt (lv y)
          rw [HLY.out] at HLE hlk HTS
          have HSE : Hid (n + lvs (c.kids.take (k + 1)) = s + ly) := by show _ = _; rw [HTS.out, ← HS.out]; omega
          subst hae
          clear k0 k1 k2 hkid hb3 hy hnk hlvk x0 x1 x2
          go_wp2_with fail
          refine HY.out.mono ?_
          rintro e w1 ⟨v1, rfl, hs1, hb1⟩
          obtain ⟨a1, c1', rfl⟩ := hs1.form
          rw [HLE.out]
          have HM' := Lib.hid (HM.out.trans ((HB3.out.trans (hb1.mono HB3.out.size)).mono HM.out.size))
          clear hs1 hb1 e0 e1 e2 HY
          go_wp2_with fail
          go_roundg (j - (k + 1))
          case measure => omega
          case rel => exact ⟨k + 1, by omega, by omega, by go_num, by rw [HSE.out]; go_num, HM'⟩
        · have hkj' : ¬ (k : Int) < (j : Int) := by omega
          obtain rfl : k = j := by omega
          obtain ⟨b, off, v, hae, -, hbl, k0, k1, k2, hkid⟩ := HR.out.kid.kid hjl
          obtain ⟨av, nv, cv, rfl⟩ := treeBox hkid
          have HBW := Lib.hid (HR.out.bel.trans (HM.out.mono HR.out.bel.size))
          have hbx := bx_keep HR.out.box HM.out
          have HBX := Lib.hid hbx
          rw [HXr.out, HXt.out] at hbx
          have e0 := (HBW.out.cell (p := ⟨b, off + k * 3, none⟩) hbl).trans k0
          have e1 := (HBW.out.cell (p := ⟨b, off + k * 3 + 1, none⟩) hbl).trans k1
          have e2 := (HBW.out.cell (p := ⟨b, off + k * 3 + 2, none⟩) hbl).trans k2
          clear x0 x1 x2
          obtain ⟨x0, x1, x2⟩ := bx_cells3 hbx
          obtain ⟨f0, f1, f2⟩ := bx_free3 hbx
          have HR' : Hid (RangeRel t x p w (i + 1) (c.kids[k]'hjl) s (.slice av nv cv) (((wr.setCell ⟨w.heap.size, 0, none⟩ (.int .i64 (c.kids[k]'hjl).rule)).setCell ⟨w.heap.size, 1, none⟩ (.int .i64 (c.kids[k]'hjl).term)).setCell ⟨w.heap.size, 2, none⟩ (.slice av nv cv))) := by
            refine ⟨bx_set3 HBX.out _ _ _, hkid, below_box3 HBW.out (Nat.le_refl _) _ _ _, HBK.out, by rw [← HS.out]; exact HEQ.out, ?_, ?_⟩
            · have h1 := HLK.out
              have h2 := HR.out.lt
              have h3 := HS.out
              omega
            · have h1 := HSZ.out
              have h2 := HR.out.sz
              omega
          obtain ⟨y, HX⟩ := nameIt (c.kids[k]'hjl)
          rw [HX.out] at e0 e1 HR'
          obtain ⟨q0, HQ0⟩ := nameIt y.rule
          obtain ⟨q1, HQ1⟩ := nameIt y.term
          rw [HQ0.out] at e0 HR'
          rw [HQ1.out] at e1 HR'
          have hbne : ¬ w.heap.size = b := by omega
          subst hae
          clear k0 k1 k2 hkid hbx
          go_wp2_with fail
          go_roundg (p.length - (i + 1))
          case measure => omega
          case rel => exact ⟨i + 1, y, s, _, by omega, by omega, by go_num, rfl, HR'⟩
    · have hlt' : ¬ (i : Int) < (p.length : Int) := by omega
      have hd : p.drop i = [] := List.drop_of_length_le (by omega)
      have HE : Hid (rangeT t p = (n, n + lv c)) := by show _ = _; rw [← HR.out.eq, hd, rangeT_nil]; simp [shift]
      have hy := yieldE c _ wo (HR.out.kid.below HR.out.bel) (by have := HR.out.sz; have := HNN.out; omega)
      rw [HXr.out, HXt.out] at hy
      have HY := Lib.hid hy
      have hlv : n + lv c ≤ 1099511627776 := by have := HR.out.lt; have := HLV.out; omega
      have HLE : Hid ((ints (leavesOf (nodes c))).length = lv c) := by show _ = _; rw [ints_len]; rfl
      obtain ⟨lc, HLC⟩ := nameIt (lv c)
      rw [HLC.out] at HE hlv HLE
      clear hy hd
      go_wp2_with fail
      refine HY.out.mono ?_
      rintro e w1 ⟨v1, rfl, hs1, hb1⟩
      obtain ⟨a1, c1, rfl⟩ := hs1.form
      rw [HLE.out]
      have HB1 := Lib.hid (HR.out.bel.trans (hb1.mono HR.out.bel.size))
      clear hs1 hb1
      go_wp2_with fail
      refine bodyPost_ret (results_tmp2 Tryd.results46 _ _ _) rfl ?_
      refine ⟨?_, HB1.out⟩
      rw [HE.out]
      simp
end Go.Proofs.YtgcfpbjifjklbaaDoor
namespace Go.Proofs.YtgcfpbjifjklbaaDoor
open Go.RowKit
namespace Fb
structure HdC (g : Gram) (x : Filt) (E : Nat → Nat → Nat) (N M : Nat) (gb xb eb : Nat) (w0 : World) : Prop where
  gbox : ∃ ar cr, w0.heap[gb]? = some (.cells #[.int .i64 g.terms, .int .i64 g.nons, .int .i64 g.start, .slice ar g.rules.length cr] 24 (0, 0)) ∧ Rd AnyB w0 (.sl (g.rules.map Rule.d)) [.slice ar g.rules.length cr]
  xbox : ∃ ba bc ja jc, w0.heap[xb]? = some (.cells #[.slice ba x.bans.length bc, .slice ja x.rejs.length jc] 28 (0, 0)) ∧ Rd AnyB w0 (.sl (x.bans.map Ban.d)) [.slice ba x.bans.length bc] ∧ Rd AnyB w0 (.sl (x.rejs.map Rej.d)) [.slice ja x.rejs.length jc]
  ebox : ∃ lo hi bt rb, w0.heap[eb]? = some (.cells #[.slice (some ⟨bt, 0, none⟩) N N] 82 (0, 0)) ∧ Cs.Tb 110 lo hi bt N M rb (fun a k => .int .u32 (E a k : Int)) w0 ∧ hi ≤ w0.heap.size
  hN : N ≤ 100
  hM : M ≤ 30
  rejs : ∀ q ∈ x.rejs, 0 ≤ q.m ∧ q.m < (N : Int)
  bans : ∀ b ∈ x.bans, 0 ≤ b.kid
  small : ∀ a k, E a k < 8192
def clV (ab gb xb eb : Nat) : Value := .func (.func 40) #[] #[.pointer (some ⟨ab, 0, none⟩), .pointer (some ⟨xb, 0, none⟩), .pointer (some ⟨ab + 1, 0, none⟩), .pointer (some ⟨eb, 0, none⟩), .pointer (some ⟨gb, 0, none⟩)]
structure AtI (w0 : World) (ab gb xb eb : Nat) (q : Nat) (W : World) : Prop where
  bel : Below w0.heap.size w0 W
  lo : w0.heap.size ≤ ab
  abox : W.heap[ab]? = some (.cells #[.int .i64 q] 3 (0, 0))
  fbox : W.heap[ab + 1]? = some (.cells #[clV ab gb xb eb] 84 (0, 0))
section
variable {w0 W W' : World} {ab gb xb eb q : Nat}
theorem AtI.keep (h : AtI w0 ab gb xb eb q W) (hb : Below W.heap.size W W') : AtI w0 ab gb xb eb q W' :=
  ⟨h.bel.trans (hb.mono h.bel.size), h.lo, bx_keep h.abox hb, bx_keep h.fbox hb⟩
theorem AtI.set (h : AtI w0 ab gb xb eb q W) (n : Nat) : AtI w0 ab gb xb eb n (W.setCell ⟨ab, 0, none⟩ (.int .i64 n)) := by
  refine ⟨h.bel.setCell h.lo _, h.lo, ?_, bx_other h.fbox (by omega) _ _⟩
  rw [bx_set h.abox]; rfl
end
def HdPost (P : NodeP) (w0 : World) (ab gb xb eb : Nat) (t : Tree) (n : Nat) (W : World) (e : Ending) (w' : World) : Prop :=
  ∃ n', e = .returned (.bool (okH P t n)) ∧ AtI w0 ab gb xb eb n' w' ∧ W.grownBy w' (some ab) ∧ (okH P t n = true → n' = n + lv t)
set_option maxHeartbeats 4000000 in
set_option maxRecDepth 100000 in
theorem holdsClE (g : Gram) (x : Filt) (E : Nat → Nat → Nat) (N M : Nat) (gb xb eb : Nat) (w0 : World) (hc : HdC g x E N M gb xb eb w0) (ab : Nat) : ∀ (m : Nat) (t : Tree) (v : Value) (n : Nat) (W : World), (nodes t).length ≤ m → AtI w0 ab gb xb eb n W → Rd AnyB w0 (.sl (t.kids.map Tree.d)) [v] → (∀ y ∈ nodes t, -1 ≤ y.rule ∧ y.rule < (g.rules.length : Int)) → n + lv t < M →
    Calls Tryd.prog 40 #[.agg #[.int .i64 t.rule, .int .i64 t.term, v], .pointer (some ⟨ab, 0, none⟩), .pointer (some ⟨xb, 0, none⟩), .pointer (some ⟨ab + 1, 0, none⟩), .pointer (some ⟨eb, 0, none⟩), .pointer (some ⟨gb, 0, none⟩)] W
      (HdPost (permP g x fun m i j => (E m.toNat i).testBit j) w0 ab gb xb eb t n W) := by
  intro m
  induction m with
  | zero => intro t v n W hm; have := nodes_pos t; omega
  | succ m ih =>
  intro t v n W hm hat hv hval hnM
  have IH := Lib.hid ih
  have HC := Lib.hid hc
  have HAT := Lib.hid hat
  have HV := Lib.hid hv
  have HM30 := hc.hM
  obtain ⟨P, HPn⟩ := nameIt (permP g x fun m i j => (E m.toNat i).testBit j)
  rw [HPn.out] at IH ⊢
  obtain ⟨a, nk, cap, rfl⟩ := treeBox hv
  have HNK : Hid (t.kids.length = nk) := by show _ = _; have := hv.bounds.1; simpa using this.symm
  have hcap : nk ≤ cap ∧ cap ≤ 9223372036854775807 := by have := hv.bounds; unfold maxLen at this; omega
  have hroot := hval t (by rw [nodes_eq]; simp)
  obtain ⟨PST, HPS⟩ := nameIt (HdPost P w0 ab gb xb eb t n W)
  have HFIN : Hid (∀ (b : Bool) (n' : Nat) w', okH P t n = b → AtI w0 ab gb xb eb n' w' → W.grownBy w' (some ab) → (b = true → n' = n + lv t) → PST (.returned (.bool b)) w') := by
    intro b n' w' h1 h2 h3 h4
    rw [← HPS.out]
    exact ⟨n', by rw [h1], h2, h3, fun h => h4 (by rw [← h1]; exact h)⟩
  rw [HPS.out]
  clear HPS
  obtain ⟨w1, HW1⟩ := nameIt (W.alloc (.cells #[.int .i64 t.rule, .int .i64 t.term, .slice a nk cap] 32))
  have hb1 : Below W.heap.size W w1 := by rw [← HW1.out]; exact (Below.refl _ _).alloc (Nat.le_refl _) _
  have X6 : Hid (w1.heap[W.heap.size]? = some (.cells #[.int .i64 t.rule, .int .i64 t.term, .slice a nk cap] 32 (0, 0))) := by rw [← HW1.out]; exact bx_new _ _ _ rfl
  have HI1 := Lib.hid (hat.keep hb1)
  have HG1 := Lib.hid (grown_below hb1 (some ab))
  have hlab : ab < W.heap.size := (Array.getElem?_eq_some_iff.1 hat.abox).1
  by_cases hr : t.rule = -1
  · have HLV : Hid (lv t = 1) := lv_leaf hr
    have HOK : Hid (okH P t n = true) := okH_leaf hr
    obtain ⟨r, HRr⟩ := nameIt t.rule
    obtain ⟨tm, HRt⟩ := nameIt t.term
    rw [HRr.out, HRt.out] at HW1 X6
    rw [HRr.out, HRt.out]
    rw [HRr.out] at hr
    subst hr
    have y0 := bx_cells1 HI1.out.abox
    obtain ⟨x0, x1, x2⟩ := bx_cells3 X6.out
    have hl1 : W.heap.size < w1.heap.size := (Array.getElem?_eq_some_iff.1 X6.out).1
    have hfr : w1.frozen? ⟨ab, 0, none⟩ = false := bx_free1 HI1.out.abox
    have k2 : IntKind.i64.wrap ((n : Int) + 1) = ((n + 1 : Nat) : Int) := by rw [IntWalk.i64_in _ (by omega)]; omega
    have HE : Hid (PST (.returned (.bool true)) (w1.setCell ⟨ab, 0, none⟩ (.int .i64 ((n + 1 : Nat) : Int)))) := HFIN.out true (n + 1) _ HOK.out (HI1.out.set (n + 1)) (grown_trans HG1.out (grown_cell _ _ _)) (fun _ => by rw [HLV.out])
    clear hat hv hval ih hc hb1 hroot
    obtain ⟨n1, HN1⟩ := nameIt ((n + 1 : Nat) : Int)
    rw [HN1.out] at k2 HE
    go_enter Tryd.func40, Tryd.ntmps40
    go_upto_region 1 with fail
    rw [HW1.out]
    clear HW1
    go_wp2_with fail
    exact HE.out
  · have hr0 : 0 ≤ t.rule := by omega
    have HLV : Hid (lv t = lvs t.kids) := lv_inner hr
    have HOK := Lib.hid (okH_node (P := P) (n := n) hr)
    have HKN := Lib.hid (fun i (h : i < t.kids.length) => kid_nodes_lt' hr h)
    have HVK : Hid (∀ i (h : i < t.kids.length), ∀ y ∈ nodes t.kids[i], -1 ≤ y.rule ∧ y.rule < (g.rules.length : Int)) := by
      intro i h y hy
      refine hval y ?_
      rw [nodes_eq, show kidsOf t = t.kids from by simp [kidsOf, hr]]
      refine List.mem_cons_of_mem _ ?_
      rw [nodesL_split h]
      simp [hy]
    have HLT : Hid (∀ i (h : i < t.kids.length), lvs (t.kids.take i) + lv t.kids[i] ≤ lv t) := fun i h => lv_kid_le hr h
    obtain ⟨ri, hri⟩ : ∃ ri : Nat, t.rule = (ri : Int) := ⟨t.rule.toNat, by omega⟩
    have hrl : ri < g.rules.length := by omega
    have HRA : Hid ((ruleAt g t.rule).left = (g.rules[ri]'hrl).left) := by show _ = _; unfold ruleAt; rw [hri, Int.toNat_natCast, List.getElem?_eq_getElem hrl]; rfl
    have HPT : Hid (P t n (n + lvs t.kids) = (!banAny x.bans t nk && !rejHit x.rejs (g.rules[ri]'hrl).left (fun m i j => (E m.toNat i).testBit j) n (n + lvs t.kids))) := by
      show _ = _
      rw [← HPn.out, ← HRA.out, ← HNK.out]; rfl
    have HKP : Hid (∀ b ∈ x.bans, 0 ≤ b.kid) := hc.bans
    obtain ⟨ar, cr, hgb, hgr⟩ := hc.gbox
    obtain ⟨ba, bc, ja, jc, hxb, hxr, hxj⟩ := hc.xbox
    obtain ⟨lo, hi, bt, rb, heb, htb, hhi⟩ := hc.ebox
    have hgb2 := hgr.bounds.2
    unfold maxLen at hgb2
    obtain ⟨hK1, hK2⟩ := hgb2
    have HGB := Lib.hid hgb
    have HXB := Lib.hid hxb
    have HEB := Lib.hid heb
    have HGR := Lib.hid hgr
    have HCB := Lib.hid (fun (b : Ban) (w' : World) (hb : Below w0.heap.size w0 w') => containsBanE x.bans b ba bc w' (hxr.below hb))
    have HRJ := Lib.hid (fun (lf : Int) (i j : Nat) (w' : World) (hb : Below w0.heap.size w0 w') (h1 : i < M) (h2 : j < M) => rejectedE (.slice ba x.bans.length bc) x.rejs lf i j E lo hi bt N M rb ja jc w' (hxj.below hb) (htb.keep hhi hb) (Nat.le_trans hhi hb.size) hc.hN hc.hM hc.rejs h1 h2 hc.small)
    obtain ⟨bn, HBN⟩ := nameIt x.bans.length
    obtain ⟨jn, HJN⟩ := nameIt x.rejs.length
    obtain ⟨K, HKn⟩ := nameIt g.rules.length
    simp only [HBN.out, HJN.out] at HCB HRJ HXB
    rw [HKn.out] at HGB HGR hK1
    have hrK : ri < K := by rw [HKn.out] at hrl; exact hrl
    have hrK' : (ri : Int) < (K : Int) := by omega
    have hrc' : (ri : Int) ≤ (cr : Int) := by omega
    have HNM : Hid (n + lvs t.kids < M) := by rw [← HLV.out]; exact hnM
    have HI0 : Hid (0 ≤ nk ∧ okHL P (t.kids.take 0) n = true ∧ banAny x.bans t 0 = false) := ⟨by omega, rfl, rfl⟩
    obtain ⟨tm, HRt⟩ := nameIt t.term
    rw [hri, HRt.out] at HW1 X6
    rw [hri, HRt.out]
    have HRI : Hid (t.rule = (ri : Int)) := hri
    have k1 : decide ((ri : Int) < 0) = false := by simp
    obtain ⟨b6, HB6⟩ := nameIt W.heap.size
    rw [HB6.out] at X6 hlab
    have hl1 : b6 < w1.heap.size := (Array.getElem?_eq_some_iff.1 X6.out).1
    have hlw1 : b6 ≤ w1.heap.size := by omega
    obtain ⟨x0, x1, x2⟩ := bx_cells3 X6.out
    have y0 := bx_cells1 HI1.out.abox
    have HST : Hid (n = n + lvs (t.kids.take 0)) := rfl
    clear hat hv hval ih hc hb1 hroot hgb hxb heb hgr hxr hxj htb hri hr hr0
    go_enter Tryd.func40, Tryd.ntmps40
    go_upto_region 1 with fail
    rw [HW1.out, HB6.out]
    clear HW1
    go_wp2_with fail
    clear x0 x1 x2 y0
    go_loopg [20] nk (fun gg v20 wr => ∃ (i n' : Nat), i ≤ nk ∧ nk - i ≤ gg ∧ v20 = .int .i64 i ∧ Hid (n' = n + lvs (t.kids.take i)) ∧ Hid (AtI w0 ab gb xb eb n' wr) ∧ Hid (W.grownBy wr (some ab)) ∧ Hid (wr.heap[b6]? = some (.cells #[.int .i64 ri, .int .i64 tm, .slice a nk cap] 32 (0, 0))) ∧ Hid (0 ≤ nk ∧ okHL P (t.kids.take i) n = true ∧ banAny x.bans t i = false))
    case atStart => exact ⟨0, n, by omega, by omega, rfl, HST.out, HI1.out, HG1.out, X6.out, HI0.out⟩
    case round =>
      clear HI1 HG1 X6 HI0 HST
      obtain ⟨i, n', hi, hg, rfl, HN', HI, HG, X6, HOKS⟩ := hrel
      by_cases hlt : i < nk
      · have hlt' : (i : Int) < (nk : Int) := by omega
        have hic : (i : Int) ≤ (cap : Int) := by omega
        have hil : i < t.kids.length := by rw [HNK.out]; exact hlt
        obtain ⟨kb, ko, vk, hae, -, hbl, c0, c1, c2, hkv⟩ := (HV.out).kid hil
        replace c0 := (HI.out.bel.cell (lt_of_cell c0)).trans c0
        replace c1 := (HI.out.bel.cell (lt_of_cell c1)).trans c1
        replace c2 := (HI.out.bel.cell (lt_of_cell c2)).trans c2
        have hkm := HKN.out i hil
        have hkr := HVK.out i hil _ (by rw [nodes_eq]; exact List.mem_cons_self ..)
        have HBS := Lib.hid (banAny_succ x.bans t i)
        have HBH : Hid (banHit x.bans t i = decide ((⟨t.rule, (i : Int), t.kids[i].rule⟩ : Ban) ∈ x.bans)) := banHit_at hil
        have HOT := Lib.hid (okHL_take (P := P) hil n)
        have HLT2 : Hid (lvs (t.kids.take (i + 1)) = lvs (t.kids.take i) + lv t.kids[i]) := lvs_take_succ hil
        have hlk := HLT.out i hil
        have HKC : Hid (∀ n' W', AtI w0 ab gb xb eb n' W' → n' + lv t.kids[i] < M → Calls Tryd.prog 40 #[.agg #[.int .i64 t.kids[i].rule, .int .i64 t.kids[i].term, vk], .pointer (some ⟨ab, 0, none⟩), .pointer (some ⟨xb, 0, none⟩), .pointer (some ⟨ab + 1, 0, none⟩), .pointer (some ⟨eb, 0, none⟩), .pointer (some ⟨gb, 0, none⟩)] W' (HdPost P w0 ab gb xb eb t.kids[i] n' W')) :=
          fun n' W' h1 h2 => IH.out _ vk n' W' (by omega) h1 hkv (HVK.out i hil) h2
        have hnk : n' + lv t.kids[i] < M := by have h1 := HN'.out; omega
        have HKC2 := Lib.hid (fun W' h1 => HKC.out n' W' h1 hnk)
        rw [HRI.out] at HBH
        obtain ⟨vka, vkn, vkc, rfl⟩ := treeBox hkv
        obtain ⟨kr, HKR⟩ := nameIt t.kids[i].rule
        obtain ⟨kt, HKT⟩ := nameIt t.kids[i].term
        obtain ⟨kv, HKV⟩ := nameIt (lv t.kids[i])
        obtain ⟨ok, HOKn⟩ := nameIt (okH P t.kids[i] n')
        have HPO : Hid (∀ W' e w', HdPost P w0 ab gb xb eb t.kids[i] n' W' e w' → ∃ n2, e = .returned (.bool ok) ∧ AtI w0 ab gb xb eb n2 w' ∧ W'.grownBy w' (some ab) ∧ (ok = true → n2 = n' + kv)) := fun W' e w' h => by rw [← HOKn.out, ← HKV.out]; exact h
        rw [HKR.out] at c0 hkr HBH HKC2
        rw [HKT.out] at c1 HKC2
        rw [HKV.out] at HLT2 hlk
        rw [← HN'.out, HOKn.out] at HOT
        have HCB2 := Lib.hid (fun w' hb => HCB.out ⟨(ri : Int), (i : Int), kr⟩ w' hb)
        obtain ⟨bm, HBM⟩ := nameIt (decide ((⟨(ri : Int), (i : Int), kr⟩ : Ban) ∈ x.bans))
        rw [HBM.out] at HBH
        simp only [HBM.out] at HCB2
        obtain ⟨w4, HW4⟩ := nameIt (wr.alloc (.cells #[.int .i64 kr, .int .i64 kt, .slice vka vkn vkc] 32))
        have hb4 : Below wr.heap.size wr w4 := by rw [← HW4.out]; exact (Below.refl _ _).alloc (Nat.le_refl _) _
        have X10 : Hid (w4.heap[wr.heap.size]? = some (.cells #[.int .i64 kr, .int .i64 kt, .slice vka vkn vkc] 32 (0, 0))) := by rw [← HW4.out]; exact bx_new _ _ _ rfl
        have HI4 := Lib.hid (HI.out.keep hb4)
        have HG4 := Lib.hid (grown_trans HG.out (grown_below hb4 (some ab)))
        have X64 := Lib.hid (bx_keep X6.out hb4)
        obtain ⟨b10, HB10⟩ := nameIt wr.heap.size
        rw [HB10.out] at X10
        have hl10 : b10 < w4.heap.size := (Array.getElem?_eq_some_iff.1 X10.out).1
        obtain ⟨z0, z1, z2⟩ := bx_cells3 X10.out
        obtain ⟨x0, x1, x2⟩ := bx_cells3 X64.out
        have f0 := bx_cells1 HI4.out.fbox
        unfold clV at f0
        obtain ⟨g0, g1⟩ := bx_cells2 (bx_keep HXB.out HI4.out.bel)
        have eg : ∀ args w, (callFunc 40 args).run Tryd.prog w = .ok (.enter 40 args) w := enters_of Tryd.func40 (by kernel_rfl) rfl
        have HSTOP : Hid (∀ n2 w', (bm = true ∨ ok = false) → (kr = -1 → bm = false) → AtI w0 ab gb xb eb n2 w' → W.grownBy w' (some ab) → PST (.returned (.bool false)) w') := by
          intro n2 w' h1 h2 h3 h4
          refine HFIN.out false n2 w' ?_ h3 h4 (fun h => by cases h)
          rw [HOK.out]
          rcases h1 with h1 | h1
          · rw [HPT.out]
            have hb : banAny x.bans t nk = true := banAny_true (n := i + 1) (by rw [HBS.out, HBH.out, h1]; simp) (by omega)
            rw [hb]; simp
          · have ho : okHL P t.kids n = false := okHL_false (i := i + 1) (by rw [HOT.out, h1]; simp)
            rw [ho]; rfl
        have HBMK : Hid (kr = -1 → bm = false) := by
          intro e
          rw [← HBM.out, decide_eq_false_iff_not]
          intro hmem
          have := HKP.out _ hmem
          simp only at this
          omega
        have HGO : Hid (bm = false → ok = true → okHL P (t.kids.take (i + 1)) n = true ∧ banAny x.bans t (i + 1) = false) := by
          intro h1 h2
          refine ⟨by rw [HOT.out, HOKS.out.2.1, h2]; rfl, by rw [HBS.out, HOKS.out.2.2, HBH.out, h1]; rfl⟩
        have HN2 : Hid (∀ n2, n2 = n' + kv → n2 = n + lvs (t.kids.take (i + 1))) := fun n2 h => by rw [h, HLT2.out, HN'.out, Nat.add_assoc]
        have HCB3 := Lib.hid (HCB2.out w4 HI4.out.bel)
        have HCK4 := Lib.hid (HKC2.out w4 HI4.out)
        have IHK := HKC2
        subst hae
        go_upto_region 8 with fail
        rw [HW4.out, HB10.out]
        clear c0 c1 c2 hbl hkv HI HG X6 HW4 hb4 HOT HBS HBH HLT2 hlk hkm HKC HKC2 HCB2
        by_cases hk1 : kr = -1
        · have HBF := Lib.hid (HBMK.out hk1)
          subst hk1
          go_wp2_with fail
          refine HCK4.out.mono ?_
          intro e w5 hpo
          obtain ⟨n2, rfl, hi5, hg5, hn5⟩ := HPO.out _ _ _ hpo
          have HI5 := Lib.hid hi5
          have HG5 := Lib.hid (grown_trans HG4.out hg5)
          have X65 : Hid (w5.heap[b6]? = some (.cells #[.int .i64 ri, .int .i64 tm, .slice (some ⟨kb, ko, none⟩) nk cap] 32 (0, 0))) := (hg5.block b6 (Array.getElem?_eq_some_iff.1 X64.out).1 (by intro e; injection e with e; omega)).trans X64.out
          have HN5 := Lib.hid hn5
          clear hpo hi5 hg5 hn5 x0 x1 x2 z0 z1 z2 f0 g0 g1
          cases ok with
          | false =>
            have HE := Lib.hid (HSTOP.out n2 w5 (.inr rfl) HBMK.out HI5.out HG5.out)
            clear HN5 HGO HSTOP HBMK
            go_wp2_with fail
            exact HE.out
          | true =>
            have HE1 := Lib.hid (HGO.out HBF.out (by trivial))
            have HE2 := Lib.hid (HN2.out n2 (HN5.out (by trivial)))
            clear HN5 HGO HSTOP HBMK HN2
            go_wp2_with fail
            go_roundg (nk - (i + 1))
            case measure => omega
            case rel => exact ⟨i + 1, n2, by omega, by omega, by go_num, HE2.out, HI5.out, HG5.out, X65.out, Nat.zero_le _, HE1.out⟩
        · have k3 : decide (0 ≤ kr) = true := by simp; omega
          go_wp2_with fail
          refine HCB3.out.mono ?_
          rintro e w5 ⟨rfl, hb5⟩
          have HI5 := Lib.hid (HI4.out.keep hb5)
          have HG5 := Lib.hid (grown_trans HG4.out (grown_below hb5 (some ab)))
          have X65 := Lib.hid (bx_keep X64.out hb5)
          have X105 := Lib.hid (bx_keep X10.out hb5)
          clear hb5 x0 x1 x2 z0 z1 z2 f0 g0 g1
          cases bm with
          | true =>
            have HE := Lib.hid (HSTOP.out n' w5 (.inl rfl) HBMK.out HI5.out HG5.out)
            clear HGO HSTOP HBMK
            go_wp2_with fail
            exact HE.out
          | false =>
            have HCK5 := Lib.hid (IHK.out w5 HI5.out)
            obtain ⟨z0, z1, z2⟩ := bx_cells3 X105.out
            have f0 := bx_cells1 HI5.out.fbox
            unfold clV at f0
            have hl10 : b10 < w5.heap.size := (Array.getElem?_eq_some_iff.1 X105.out).1
            go_wp2_with fail
            refine HCK5.out.mono ?_
            intro e w6 hpo
            obtain ⟨n2, rfl, hi6, hg6, hn6⟩ := HPO.out _ _ _ hpo
            have HI6 := Lib.hid hi6
            have HG6 := Lib.hid (grown_trans HG5.out hg6)
            have X66 : Hid (w6.heap[b6]? = some (.cells #[.int .i64 ri, .int .i64 tm, .slice (some ⟨kb, ko, none⟩) nk cap] 32 (0, 0))) := (hg6.block b6 (Array.getElem?_eq_some_iff.1 X65.out).1 (by intro e; injection e with e; omega)).trans X65.out
            have HN6 := Lib.hid hn6
            clear hpo hi6 hg6 hn6 z0 z1 z2 f0
            cases ok with
            | false =>
              have HE := Lib.hid (HSTOP.out n2 w6 (.inr rfl) HBMK.out HI6.out HG6.out)
              clear HN6 HGO HSTOP HBMK
              go_wp2_with fail
              exact HE.out
            | true =>
              have HE1 := Lib.hid (HGO.out (by trivial) (by trivial))
              have HE2 := Lib.hid (HN2.out n2 (HN6.out (by trivial)))
              clear HN6 HGO HSTOP HBMK HN2
              go_wp2_with fail
              go_roundg (nk - (i + 1))
              case measure => omega
              case rel => exact ⟨i + 1, n2, by omega, by omega, by go_num, HE2.out, HI6.out, HG6.out, X66.out, Nat.zero_le _, HE1.out⟩
      · have hend : i = nk := by omega
        subst hend
        have hlt' : ¬ (i : Int) < (i : Int) := by omega
        have HTK : Hid (t.kids.take i = t.kids) := List.take_of_length_le (by rw [HNK.out]; exact Nat.le_refl _)
        have hn2 : n' = n + lvs t.kids := by have h := HN'.out; rw [HTK.out] at h; exact h
        have HN2 := Lib.hid hn2
        have hnM2 : n' < M := by have := HNM.out; omega
        have hn1 : n < M := by have := HNM.out; omega
        obtain ⟨rbk, ro, vr, hae, -, hbl, d0, d1, -⟩ := HGR.out.rule_at hrl
        have HRJ2 := Lib.hid (fun w' hb => HRJ.out (g.rules[ri]'hrl).left n n' w' hb hn1 hnM2)
        rw [← hn2] at HPT
        clear hn2
        obtain ⟨lf, HLF⟩ := nameIt (g.rules[ri]'hrl).left
        simp only [HLF.out] at HRJ2
        rw [HLF.out] at d0 HPT
        obtain ⟨rj, HRJn⟩ := nameIt (rejHit x.rejs lf (fun m i j => (E m.toNat i).testBit j) n n')
        simp only [HRJn.out] at HRJ2
        rw [HRJn.out] at HPT
        have HRES : Hid (okH P t n = !rj) := by
          show _ = _
          have h1 := HOKS.out.2.1
          rw [HTK.out] at h1
          rw [HOK.out, h1, ← HN2.out, HPT.out, HOKS.out.2.2]; simp
        have HRJ3 : Hid (∀ w', Below wr.heap.size wr w' → Calls Tryd.prog 42 #[.agg #[.slice ba bn bc, .slice ja jn jc], .slice (some ⟨bt, 0, none⟩) N N, .int .i64 lf, .int .i64 n, .int .i64 n'] w' fun e w'' => e = .returned (.bool rj) ∧ Below w'.heap.size w' w'') := fun w' hb => HRJ2.out w' (HI.out.bel.trans (hb.mono HI.out.bel.size))
        replace d0 := (HI.out.bel.cell (lt_of_cell d0)).trans d0
        obtain ⟨g0, g1⟩ := bx_cells2 (bx_keep HXB.out HI.out.bel)
        obtain ⟨h0, h1, h2, h3⟩ := bx_cells4 (bx_keep HGB.out HI.out.bel)
        have e0 := bx_cells1 (bx_keep HEB.out HI.out.bel)
        obtain ⟨x0, x1, x2⟩ := bx_cells3 X6.out
        have a0 := bx_cells1 HI.out.abox
        have HE : Hid (∀ w', Below wr.heap.size wr w' → PST (.returned (.bool (!rj))) w') := by
          intro w' hb
          refine HFIN.out (!rj) n' w' HRES.out (HI.out.keep hb) (grown_trans HG.out (grown_below hb (some ab))) (fun _ => ?_)
          rw [HN2.out, HLV.out]
        have ad0 := aft_cell d0
        have ag0 := aft_cell g0
        have ag1 := aft_cell g1
        have ah3 := aft_cell h3
        have ae0 := aft_cell e0
        have ax0 := aft_cell x0
        have aa0 := aft_cell a0
        subst hae
        go_upto_region 11 with fail
        refine wp_region_after (by kernel_rfl) (by kernel_rfl) ?_
        repeat (go_big_quiet_step (with_reducible exact Calls.after (HRJ3.out _ (Aft.bel _))))
        refine wpQuiet_nil ?_
        rintro w7 ⟨⟨_, hb7⟩, rfl⟩
        have HE2 := Lib.hid (HE.out w7 hb7)
        clear ad0 ag0 ag1 ah3 ae0 ax0 aa0 d0 g0 g1 h0 h1 h2 h3 e0 x0 x1 x2 a0 hb7
        go_wp2_with fail
        exact HE2.out
end Fb
end Go.Proofs.YtgcfpbjifjklbaaDoor
namespace Go.Proofs.YtgcfpbjifjklbaaDoor
open Go.RowKit
namespace Fb
def holdErr (g : Gram) (x : Filt) (t : Tree) : Int := if checkF g x ≠ 0 then checkF g x else if checkT g t ≠ 0 then checkT g t else if 12 < lv t then 2 else 0
def HoldsPost (g : Gram) (x : Filt) (t : Tree) (W : World) (e : Ending) (w' : World) : Prop :=
  Below W.heap.size W w' ∧ ((holdErr g x t ≠ 0 ∧ e = .returned (.tuple #[.bool false, .int .i64 (holdErr g x t)])) ∨
    (holdErr g x t = 0 ∧ ∃ E, Lg.SoundE g.rules (leavesOf (nodes t)) E ∧ Lg.ClosedE g.rules (leavesOf (nodes t)) E ∧ e = .returned (.tuple #[.bool (holdB g x (fun m i j => (E m.toNat i).testBit j) t), .int .i64 0])))
theorem valid_rules {g : Gram} {t : Tree} (h : checkT g t = 0) : ∀ y ∈ nodes t, -1 ≤ y.rule ∧ y.rule < (g.rules.length : Int) := by
  unfold checkT at h
  by_cases h1 : checkG g = 0
  · rw [if_neg (by simp [h1])] at h
    by_cases h2 : 5000 < (nodes t).length
    · rw [if_pos h2] at h; exact absurd h (by decide)
    · rw [if_neg h2] at h
      cases hv : validT g t with
      | false => rw [hv] at h; simp at h
      | true =>
        intro y hy
        have h3 := List.all_eq_true.1 hv y hy
        unfold nodeOk at h3
        by_cases e : y.rule = -1
        · omega
        · rw [if_neg e] at h3
          by_cases e2 : y.rule < 0
          · rw [if_pos e2] at h3; cases h3
          · rw [if_neg e2] at h3
            rcases Nat.lt_or_ge y.rule.toNat g.rules.length with h4 | h4
            · omega
            · rw [List.getElem?_eq_none h4] at h3; cases h3
  · rw [if_pos h1] at h; exact absurd h h1
theorem checkT_g {g : Gram} {t : Tree} (h : checkT g t = 0) : checkG g = 0 ∧ (nodes t).length ≤ 5000 := by
  unfold checkT at h
  by_cases h1 : checkG g = 0
  · rw [if_neg (by simp [h1])] at h
    refine ⟨h1, ?_⟩
    by_cases h2 : 5000 < (nodes t).length
    · rw [if_pos h2] at h; exact absurd h (by decide)
    · omega
  · rw [if_pos h1] at h; exact absurd h h1
set_option maxHeartbeats 4000000 in
set_option maxRecDepth 100000 in
theorem holdsE (g : Gram) (x : Filt) (t : Tree) (ar : Option Addr) (cr : Nat) (ba : Option Addr) (bc : Nat) (ja : Option Addr) (jc : Nat) (at' : Option Addr) (ct : Nat) (W : World) (hr : Rd AnyB W (.sl (g.rules.map Rule.d)) [.slice ar g.rules.length cr])
    (hb : Rd AnyB W (.sl (x.bans.map Ban.d)) [.slice ba x.bans.length bc]) (hj : Rd AnyB W (.sl (x.rejs.map Rej.d)) [.slice ja x.rejs.length jc]) (hk : Rd AnyB W (.sl (t.kids.map Tree.d)) [.slice at' t.kids.length ct]) (hN : (nodes t).length ≤ 1099511627776) (hT : Lg.TabG W) :
    Calls Tryd.prog 14 #[.agg #[.int .i64 g.terms, .int .i64 g.nons, .int .i64 g.start, .slice ar g.rules.length cr], .agg #[.slice ba x.bans.length bc, .slice ja x.rejs.length jc], .agg #[.int .i64 t.rule, .int .i64 t.term, .slice at' t.kids.length ct]] W (HoldsPost g x t W) := by
  obtain ⟨PST, HP⟩ := nameIt (HoldsPost g x t W)
  have HBAD : Hid (∀ w' q, holdErr g x t = q → q ≠ 0 → Below W.heap.size W w' → PST (.returned (.tuple #[.bool false, .int .i64 q])) w') := by
    intro w' q h0 h1 h2; rw [← HP.out]; exact ⟨h2, .inl ⟨by rw [h0]; exact h1, by rw [h0]⟩⟩
  have HGOOD : Hid (∀ w' E, holdErr g x t = 0 → Lg.SoundE g.rules (leavesOf (nodes t)) E → Lg.ClosedE g.rules (leavesOf (nodes t)) E → Below W.heap.size W w' → PST (.returned (.tuple #[.bool (holdB g x (fun m i j => (E m.toNat i).testBit j) t), .int .i64 0])) w') := by
    intro w' E h0 h1 h2 h3; rw [← HP.out]; exact ⟨h3, .inr ⟨h0, E, h1, h2, rfl⟩⟩
  rw [HP.out]
  clear HP
  have HB1 : Hid (checkF g x ≠ 0 → holdErr g x t = checkF g x) := fun h => by unfold holdErr; rw [if_pos h]
  have HB2 : Hid (checkF g x = 0 → checkT g t ≠ 0 → holdErr g x t = checkT g t) := fun h h2 => by unfold holdErr; rw [if_neg (by simpa using h), if_pos h2]
  have HB3 : Hid (checkF g x = 0 → checkT g t = 0 → 12 < lv t → holdErr g x t = 2) := fun h h2 h3 => by unfold holdErr; rw [if_neg (by simpa using h), if_neg (by simpa using h2), if_pos h3]
  have HB4 : Hid (checkF g x = 0 → checkT g t = 0 → ¬ 12 < lv t → holdErr g x t = 0) := fun h h2 h3 => by unfold holdErr; rw [if_neg (by simpa using h), if_neg (by simpa using h2), if_neg h3]
  obtain ⟨w0, HW0⟩ := nameIt (((W.alloc (.cells #[.int .i64 g.terms, .int .i64 g.nons, .int .i64 g.start, .slice ar g.rules.length cr] 24)).alloc (.cells #[.slice ba x.bans.length bc, .slice ja x.rejs.length jc] 28)).alloc (.cells #[.int .i64 t.rule, .int .i64 t.term, .slice at' t.kids.length ct] 32))
  have hb0 : Below W.heap.size W w0 := by rw [← HW0.out]; exact (((Below.refl _ _).alloc (Nat.le_refl _) _).alloc (by simp) _).alloc (by first | (simp; done) | (simp; omega)) _
  have X1 : Hid (w0.heap[W.heap.size]? = some (.cells #[.int .i64 g.terms, .int .i64 g.nons, .int .i64 g.start, .slice ar g.rules.length cr] 24 (0, 0))) := by
    rw [← HW0.out]; exact bx_keep (bx_new _ _ _ rfl) (((Below.refl _ _).alloc (Nat.le_refl _) _).alloc (by simp) _)
  have X2 : Hid (w0.heap[W.heap.size + 1]? = some (.cells #[.slice ba x.bans.length bc, .slice ja x.rejs.length jc] 28 (0, 0))) := by
    rw [← HW0.out]; exact bx_keep (bx_new _ _ _ (by simp)) ((Below.refl _ _).alloc (Nat.le_refl _) _)
  have X3 : Hid (w0.heap[W.heap.size + 2]? = some (.cells #[.int .i64 t.rule, .int .i64 t.term, .slice at' t.kids.length ct] 32 (0, 0))) := by
    rw [← HW0.out]; exact bx_new _ _ _ (by simp)
  have HB0 := Lib.hid hb0
  have HRR := Lib.hid (hr.below hb0)
  have HBB := Lib.hid (hb.below hb0)
  have HJJ := Lib.hid (hj.below hb0)
  have HKK := Lib.hid (hk.below hb0)
  have HTT := Lib.hid (hT.keep hb0)
  have C1 := Lib.hid (checkFE g x ar cr ba bc ja jc w0 HRR.out HBB.out HJJ.out)
  have C2 := Lib.hid (fun w' (h : Below w0.heap.size w0 w') => treeCheckE g ar cr t at' ct w' (HRR.out.below h) (HKK.out.below h) hN)
  have C3 := Lib.hid (fun w' (h : Below w0.heap.size w0 w') (h2 : (nodes t).length ≤ 5000) => wordT t _ w' (HKK.out.below h) (by omega))
  have HVR := Lib.hid (fun h => valid_rules (g := g) (t := t) h)
  have HTG := Lib.hid (fun h => checkT_g (g := g) (t := t) h)
  have HFF : Hid (checkF g x = 0 → filtF g x = 0) := fun h => by
    unfold checkF at h
    by_cases h1 : checkG g = 0
    · rw [if_neg (by simpa using h1)] at h; exact h
    · rw [if_pos h1] at h; exact absurd h h1
  obtain ⟨gt, HGT⟩ := nameIt g.terms
  obtain ⟨gn, HGN⟩ := nameIt g.nons
  obtain ⟨gs, HGS⟩ := nameIt g.start
  obtain ⟨K, HKn⟩ := nameIt g.rules.length
  obtain ⟨bn, HBNn⟩ := nameIt x.bans.length
  obtain ⟨jn, HJNn⟩ := nameIt x.rejs.length
  obtain ⟨tr, HTR⟩ := nameIt t.rule
  obtain ⟨tm, HTM⟩ := nameIt t.term
  obtain ⟨kn, HKNn⟩ := nameIt t.kids.length
  obtain ⟨z1, HZ1⟩ := nameIt (checkF g x)
  obtain ⟨z2, HZ2⟩ := nameIt (checkT g t)
  obtain ⟨er, HER⟩ := nameIt (holdErr g x t)
  rw [HGT.out, HGN.out, HGS.out, HKn.out, HBNn.out, HJNn.out, HTR.out, HTM.out, HKNn.out] at HW0
  rw [HGT.out, HGN.out, HGS.out, HKn.out] at X1
  rw [HBNn.out, HJNn.out] at X2
  rw [HTR.out, HTM.out, HKNn.out] at X3
  rw [HGT.out, HGN.out, HGS.out, HKn.out, HBNn.out, HJNn.out, HZ1.out] at C1
  simp only [HGT.out, HGN.out, HGS.out, HKn.out, HTR.out, HTM.out, HKNn.out, HZ2.out] at C2
  simp only [HTR.out, HTM.out, HKNn.out] at C3
  rw [HER.out] at HBAD HGOOD HB1 HB2 HB3 HB4
  rw [HZ1.out] at HB1 HB2 HB3 HB4 HFF
  rw [HZ2.out] at HB2 HB3 HB4
  simp only [HZ2.out] at HVR HTG
  rw [HKn.out] at HRR
  rw [HBNn.out] at HBB
  rw [HJNn.out] at HJJ
  rw [HKNn.out] at HKK
  rw [HGT.out, HGN.out, HGS.out, HKn.out, HBNn.out, HJNn.out, HTR.out, HTM.out, HKNn.out]
  have HBW : Hid (∀ w', Below w0.heap.size w0 w' → Below W.heap.size W w') := fun w' h => HB0.out.trans (h.mono HB0.out.size)
  obtain ⟨b1, HBX⟩ := nameIt W.heap.size
  rw [HBX.out] at X1 X2 X3
  obtain ⟨x0, x1, x2, x3⟩ := bx_cells4 X1.out
  obtain ⟨y0, y1⟩ := bx_cells2 X2.out
  clear hr hb hj hk hb0 hT
  go_enter Tryd.func14, Tryd.ntmps14
  go_upto_region 1 with fail
  rw [HW0.out, HBX.out]
  clear HW0
  have hl3 : b1 + 2 < w0.heap.size := (Array.getElem?_eq_some_iff.1 X3.out).1
  go_wp2_with fail
  refine C1.out.mono ?_
  rintro e w1 ⟨rfl, hb1⟩
  have HB01 := Lib.hid hb1
  clear hb1 x0 x1 x2 x3 y0 y1 C1
  by_cases hz1 : z1 = 0
  case neg =>
    have k1 : (z1 != 0) = true := by simpa using hz1
    have HE := Lib.hid (HBAD.out w1 z1 (HB1.out hz1) hz1 (HBW.out w1 HB01.out))
    clear hz1 HB1 HB2 HB3 HB4
    go_wp2_with fail
    exact HE.out
  have k1 : (z1 != 0) = false := by simpa using hz1
  have HZ10 := Lib.hid hz1
  have C2a := Lib.hid (C2.out w1 HB01.out)
  obtain ⟨x0, x1, x2, x3⟩ := bx_cells4 (bx_keep X1.out HB01.out)
  obtain ⟨y0, y1, y2⟩ := bx_cells3 (bx_keep X3.out HB01.out)
  clear hz1 C2
  go_wp2_with fail
  refine C2a.out.mono ?_
  rintro e w2 ⟨rfl, hb2⟩
  have HB02 := Lib.hid (HB01.out.trans (hb2.mono HB01.out.size))
  clear hb2 x0 x1 x2 x3 y0 y1 y2 C2a
  by_cases hz2 : z2 = 0
  case neg =>
    have k2 : (z2 != 0) = true := by simpa using hz2
    have HE := Lib.hid (HBAD.out w2 z2 (HB2.out HZ10.out hz2) hz2 (HBW.out w2 HB02.out))
    clear hz2 HB1 HB2 HB3 HB4
    go_wp2_with fail
    exact HE.out
  have k2 : (z2 != 0) = false := by simpa using hz2
  have HZ20 := Lib.hid hz2
  obtain ⟨hg0, hn5⟩ := HTG.out hz2
  have HG0 := Lib.hid hg0
  have C3a := Lib.hid (C3.out w2 HB02.out hn5)
  obtain ⟨y0, y1, y2⟩ := bx_cells3 (bx_keep X3.out HB02.out)
  clear hz2 C3 hg0
  go_wp2_with fail
  refine C3a.out.mono ?_
  rintro e w3 ⟨v3, rfl, hs3, hb3⟩
  have HB03 := Lib.hid (HB02.out.trans (hb3.mono HB02.out.size))
  obtain ⟨a3, c3, rfl⟩ := hs3.form
  have hs3c := hs3.len.2
  unfold maxLen at hs3c
  rw [ints_len] at hs3 hs3c
  have HS3 := Lib.hid hs3
  have HLV : Hid (lv t = (leavesOf (nodes t)).length) := rfl
  obtain ⟨wd, HWDn⟩ := nameIt (leavesOf (nodes t))
  rw [HWDn.out] at HS3 HGOOD HLV hs3c
  rw [HWDn.out]
  obtain ⟨n, HNn⟩ := nameIt wd.length
  rw [HNn.out] at HS3 HLV hs3c
  rw [ints_len, HNn.out]
  clear hb3 y0 y1 y2 C3a hs3
  by_cases hn : 12 < n
  · have k3 : decide ((12 : Int) < (n : Int)) = true := by simp; omega
    have k4 : ¬ n ≤ 12 := by omega
    have HE := Lib.hid (HBAD.out w3 2 (HB3.out HZ10.out HZ20.out (by rw [HLV.out]; exact hn)) (by decide) (HBW.out w3 HB03.out))
    clear HB1 HB2 HB3 HB4
    go_wp2_with fail
    exact HE.out
  · have k3 : decide ((12 : Int) < (n : Int)) = false := by simp; omega
    have k4 : n ≤ 12 := by omega
    obtain ⟨N, hgN, hN1, hN10, hok⟩ := Lg.okRu_of HG0.out
    have HER0 : Hid (er = 0) := HB4.out HZ10.out HZ20.out (by rw [HLV.out]; exact hn)
    have C4 := Lib.hid (Lg.endsE g N hgN hN1 hN10 hok ar cr wd n HNn.out k4 a3 c3 w3 (by rw [HKn.out]; exact HRR.out.below HB03.out) HS3.out (HTT.out.keep HB03.out))
    rw [HGT.out, HGN.out, HGS.out, HKn.out] at C4
    rw [HGN.out] at hgN
    obtain ⟨x0, x1, x2, x3⟩ := bx_cells4 (bx_keep X1.out HB03.out)
    obtain ⟨_, _, hkb, hrj⟩ := filtF_bans (HFF.out HZ10.out)
    have HKB := Lib.hid hkb
    have HRJ : Hid (∀ q ∈ x.rejs, 0 ≤ q.m ∧ q.m < (N : Int)) := fun q hq => by
      have := hrj q hq
      rw [HGN.out] at this
      omega
    have HLO : Hid (∀ r ∈ g.rules, 0 ≤ r.left) := fun r hr => (hok r hr).1
    clear HB1 HB2 HB3 HB4 hgN hN1 hok hkb hrj
    have HN10 := Lib.hid hN10
    clear hN10
    go_wp2_with fail
    refine C4.out.mono ?_
    rintro e w4 ⟨bt, H, rb, E, rfl, htb, hH, hsn, hcl, hb4⟩
    have HB04 := Lib.hid (HB03.out.trans (hb4.mono HB03.out.size))
    have HSN := Lib.hid hsn
    have HCL := Lib.hid hcl
    rw [HNn.out] at htb
    obtain ⟨w5, HW5⟩ := nameIt (w4.alloc (.cells #[.slice (some ⟨bt, 0, none⟩) N N] 82))
    have hb5 : Below w4.heap.size w4 w5 := by rw [← HW5.out]; exact (Below.refl _ _).alloc (Nat.le_refl _) _
    have hb05 : Below w0.heap.size w0 w5 := HB04.out.trans (hb5.mono HB04.out.size)
    have XE : w5.heap[w4.heap.size]? = some (.cells #[.slice (some ⟨bt, 0, none⟩) N N] 82 (0, 0)) := by rw [← HW5.out]; exact bx_new _ _ _ rfl
    have hsz5 : w5.heap.size = w4.heap.size + 1 := by rw [← HW5.out]; simp
    have hlt13 := hsn.lt (by rw [HNn.out]; exact k4)
    have HC : HdC g x E N (n + 1) b1 (b1 + 1) w4.heap.size w5 := by
      refine ⟨⟨ar, cr, ?_, by rw [HKn.out]; exact HRR.out.below hb05⟩, ⟨ba, bc, ja, jc, by rw [HBNn.out, HJNn.out]; exact bx_keep X2.out hb05, by rw [HBNn.out]; exact HBB.out.below hb05, by rw [HJNn.out]; exact HJJ.out.below hb05⟩, ⟨_, _, bt, rb, XE, htb.keep hH hb5, Nat.le_trans hH hb5.size⟩, by have := HN10.out; omega, by omega, HRJ.out, HKB.out, hlt13⟩
      rw [HGT.out, HGN.out, HGS.out, HKn.out]; exact bx_keep X1.out hb05
    obtain ⟨w6, HW6⟩ := nameIt ((w5.alloc (.cells #[.int .i64 0] 3)).alloc (.cells #[clV (w4.heap.size + 1) b1 (b1 + 1) w4.heap.size] 84))
    have hb6 : Below w5.heap.size w5 w6 := by rw [← HW6.out]; exact ((Below.refl _ _).alloc (Nat.le_refl _) _).alloc (by simp) _
    have HAI : AtI w5 (w4.heap.size + 1) b1 (b1 + 1) w4.heap.size 0 w6 := by
      refine ⟨hb6, by omega, ?_, ?_⟩
      · rw [← HW6.out]; exact bx_keep (bx_new _ _ _ hsz5.symm) ((Below.refl _ _).alloc (Nat.le_refl _) _)
      · rw [← HW6.out]; exact bx_new _ _ _ (by simp [hsz5])
    have HCALL := Lib.hid (holdsClE g x E N (n + 1) b1 (b1 + 1) w4.heap.size w5 HC (w4.heap.size + 1) _ t (.slice at' kn ct) 0 w6 (Nat.le_refl _) HAI (HKK.out.below hb05) (HVR.out HZ20.out) (by rw [HLV.out]; omega))
    rw [HTR.out, HTM.out] at HCALL
    have HFBX := bx_cells1 HAI.fbox
    have X36 := bx_keep X3.out (hb05.trans (hb6.mono hb05.size))
    obtain ⟨y0, y1, y2⟩ := bx_cells3 X36
    have hlf : w4.heap.size + 1 + 1 < w6.heap.size := (Array.getElem?_eq_some_iff.1 HAI.fbox).1
    have HSZ5 : Hid (w4.heap.size ≤ w5.heap.size) := hb5.size
    have hlf3 : b1 + 2 < w6.heap.size := (Array.getElem?_eq_some_iff.1 X36).1
    have HEND : Hid (∀ w', Below w5.heap.size w5 w' → PST (.returned (.tuple #[.bool (holdB g x (fun m i j => (E m.toNat i).testBit j) t), .int .i64 0])) w') := fun w' hb' => HGOOD.out w' E HER0.out HSN.out HCL.out (HBW.out w' (hb05.trans (hb'.mono hb05.size)))
    have eg : ∀ args w, (callFunc 40 args).run Tryd.prog w = .ok (.enter 40 args) w := enters_of Tryd.func40 (by kernel_rfl) rfl
    unfold clV at HFBX HW6
    unfold HdPost at HCALL
    have HHB : Hid (okH (permP g x fun m i j => (E m.toNat i).testBit j) t 0 = holdB g x (fun m i j => (E m.toNat i).testBit j) t) := rfl
    obtain ⟨B, HBn⟩ := nameIt (okH (permP g x fun m i j => (E m.toNat i).testBit j) t 0)
    rw [HBn.out] at HCALL HHB
    rw [← HHB.out] at HEND
    obtain ⟨b4, HB4x⟩ := nameIt w4.heap.size
    rw [HB4x.out] at HFBX HW6 HCALL hlf
    clear hb4 hsn hcl htb hH C4 x0 x1 x2 x3 hb5 hb05 XE hlt13 HC HAI hb6 X36
    go_upto_region 14 with fail
    rw [HW5.out, HB4x.out, HW6.out]
    clear HW5 HW6
    go_wp2_with fail
    refine HCALL.out.mono ?_
    rintro e w7 ⟨n', rfl, hat, hgr, -⟩
    have HE := Lib.hid (HEND.out w7 hat.bel)
    clear hat hgr y0 y1 y2
    go_wp2_with fail
    exact HE.out
end Fb
end Go.Proofs.YtgcfpbjifjklbaaDoor
