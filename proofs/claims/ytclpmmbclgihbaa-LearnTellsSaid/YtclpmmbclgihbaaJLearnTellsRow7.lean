/- The contract of learner.close. The contract of number in dfa.Parts. -/
import Derived.Test.YtclpmmbclgihbaaJLearnTellsRow6
import Derived.Test.YtclpmmbclgihbaaJLearnTellsRow2
import Derived.BigQuiet
import Derived.Deep.DeepCutAuto
import Derived.Laws.EntriesVeiled
namespace Go.Proofs.Ytclpmmbclgihbaa
open Go.RowKit
namespace Cl
open Df Lr Km

theorem AcR.rdS {S S' : Nat → Prop} {B0 : Nat} {A : List (List Int)} {sv : Value} {w : World} (h : AcR S B0 A sv w) (h1 : ∀ q, S q → S' q) (h2 : ∀ q, sv.ownBlock = some q → S' q) : Rd S' w (.sl (A.map D.ints)) [sv] := by
  obtain ⟨xs, a, b⟩ := h
  exact rd_of_own a (b.mono fun q hq _ => h1 q hq.1) (by simp) h2
theorem inv_setG {md : Region.Mode} {ops : Array Oper} {n i : Nat} {listed : Array Bool} (inv : HeadInv md ops n listed) (hr : (Region.ready md ops listed).contains i = true) (hin : i < n) : HeadInv md ops n (listed.setIfInBounds i true) := inv.set (by simpa using hr) hin
theorem acRow {S : Nat → Prop} {B0 : Nat} {A : List (List Int)} {a : Option Addr} {L cs i : Nat} {w : World} (h : AcR S B0 A (.slice a L cs) w) (hL : A.length = L) (hi : i < A.length) :
    ∃ b off v, a = some ⟨b, off, none⟩ ∧ w.cell? ⟨b, off + i, none⟩ = some v ∧ Rd (fun q => S q ∧ (Value.slice a L cs).ownBlock ≠ some q) w (D.ints A[i]) [v] := by
  obtain ⟨xs, h1, h2⟩ := h
  have hxl : xs.length = A.length := by rw [RdAll.len _ _ h2, cellsAll_eq (k := 1) (by intro d hd; rw [List.mem_map] at hd; obtain ⟨x, _, rfl⟩ := hd; rfl)]; simp
  have hs := sl_of_own h1
  obtain ⟨b, off, e1, e2⟩ := hs.at (k := i) (by omega)
  have h3 := RdAll.get (k := 1) h2 (by intro d hd; rw [List.mem_map] at hd; obtain ⟨x, _, rfl⟩ := hd; rfl) i (by rw [List.length_map]; exact hi)
  rw [List.getElem_map, Nat.mul_one] at h3
  have hix : i < xs.length := by omega
  have e3 : (xs.drop i).take 1 = [xs[i]] := by rw [List.drop_eq_getElem_cons hix]; rfl
  rw [e3] at h3
  exact ⟨b, off, xs[i], e1, e2 i hix, h3⟩
set_option maxHeartbeats 8000000 in
set_option maxRecDepth 100000 in
theorem closeE (fn : Nat) (lb : Array Value) (f : List Int → Bool) (T : List (List Int)) (m : Nat) (hm : T.length = m) (hm2 : m ≤ 200) (k : Nat) (hT : ∀ t ∈ T, ovK (k : Int) t ∧ t.length ≤ 5000) (hk : 1 ≤ k ∧ k ≤ 16) (A0 : List (List Int)) (n0 : Nat) (hn0 : A0.length = n0) (hA : OkA f T k A0) (hBD : ∀ A, OkA f T k A → A.length ≤ 200)
    (b mb B0 c : Nat) (hc : c + 900000 ≤ 1000000000) (rv : Value) (ta a0 : Option Addr) (tc c0 : Nat) (w : World) (eg : ∀ args w, (callFunc fn args).run Try.prog w = .ok (.enter fn args) w) (hf : ∀ W, GrX (fun q => q = b ∨ q = mb ∨ (Value.slice a0 n0 c0).ownBlock = some q) w W → AskFn fn lb f (k : Int) W) (Z : Nat → Prop) (hZ : ∀ q, Z q → q < w.heap.size)
    (hl : LrS Z f T B0 b mb (.int .i64 (k : Int)) (.func (.func fn) #[] lb) (.slice ta m tc) c A0 (.slice a0 n0 c0) rv w) (hB : B0 ≤ w.heap.size) :
    Calls Try.prog 17 #[.pointer (some ⟨b, 0, none⟩)] w (CloseR Z f T w B0 b mb (.int .i64 (k : Int)) (.func (.func fn) #[] lb) (.slice ta m tc) (.slice a0 n0 c0) (c + 800000) (discA f T k A0 200) (rowsA f T k A0 200) (accsA f T k A0 200)) := by
  have hmk : ∀ W : World, (Instr.makeMap 41 none).run Try.prog W = .ok (.map (some W.heap.size)) (W.alloc (.map #[] 0)) := fun W => by
    simp [Instr.makeMap, run_underlying Try.underlying41]; try rfl
  have hms : ∀ W : World, (Instr.makeSlice 22 (.int .i64 (k : Int)) (.int .i64 (k : Int))).run Try.prog W = .ok (.slice (some ⟨W.heap.size, 0, none⟩) k k) (W.alloc (.cells (madeCells #[.int .i64 0] k) 3)) := fun W => by
    have := run_make_row' (P := Try.prog) 22 3 (.int .i64 0) 8 Try.underlying22 (by kernel_rfl) rfl .i64 .i64 k (by omega) (by omega) W
    simpa using this
  obtain ⟨rb, HRB⟩ := nameIt (w.heap.size + 1)
  have HF0 := Lib.hid (ClF.start hl HRB.out.symm)
  have hbl := (Array.getElem?_eq_some_iff.1 hl.bx).1
  have HLO : Hid (b < w.heap.size ∧ mb < w.heap.size ∧ b ≠ mb ∧ w.heap.size < rb) := ⟨hbl, hl.kn.lt, hl.ne, by have := HRB.out; omega⟩
  obtain ⟨x0, x1, x2, x3, x4, x5⟩ := bx_cells6 hl.bx
  obtain ⟨f0, f1, f2, f3, f4, f5⟩ := bx_free6 hl.bx
  have HAC : Hid (∀ W, GrX (fun q => q = b ∨ q = mb) w W → Rd (fun q => q ≠ b ∧ q ≠ mb) W (.sl (A0.map D.ints)) [.slice a0 n0 c0]) := fun W hg =>
    Rd.keep (fun q hq hlt => ⟨hq, hg.block q hlt (fun e => e.elim hq.1 hq.2)⟩) _ _ (hl.ac.rdS (fun q h => ⟨h.1, h.2.1⟩) (fun q e => ⟨(hl.so q e).1, (hl.so q e).2.1⟩))
  have HTS : Hid (∀ W, GrX (fun q => q = b ∨ q = mb) w W → Rd (fun q => q ≠ mb) W (.sl (T.map D.ints)) [.slice ta m tc]) := fun W hg =>
    Rd.keep (fun q hq hlt => ⟨hq.2.1, hg.block q hlt (fun e => e.elim hq.1 hq.2.1)⟩) _ _ hl.ts
  have HLS := Lib.hid hl
  have HAO := Lib.hid hA
  have HBD := Lib.hid hBD
  have HN0 := Lib.hid hn0
  have hn200 : n0 ≤ 200 := by rw [← hn0]; exact hBD _ hA
  have HMM := Lib.hid hm
  have HTT := Lib.hid hT
  have HFF := Lib.hid hf
  have HZZ := Lib.hid hZ
  have HBB := Lib.hid hB
  have hsm : ∀ u : List Int, (∀ y ∈ u, 0 ≤ y ∧ y < (k : Int)) → ovK (k : Int) u := fun u hu => hu
  have HSM := Lib.hid hsm
  have HROW : Hid (∀ (u : List Int) (nn : Nat) (cc : Nat) (a : Option Addr) (ca : Nat) (av rv' : Value) (W : World), u.length = nn → ovK (k : Int) u → nn ≤ 1000 → cc ≤ c + 800000 → GrX (fun q => q = b ∨ q = mb ∨ (Value.slice a0 n0 c0).ownBlock = some q) w W → W.heap[b]? = some (.cells #[.int .i64 (k : Int), .func (.func fn) #[] lb, .map (some mb), av, .slice ta m tc, rv'] 43 (0, 0)) → KN f mb cc W → Sl W (.slice a nn ca) (ints u) → Rd (fun q => q ≠ mb) W (.sl (T.map D.ints)) [.slice ta m tc] →
      Calls Try.prog 27 #[.pointer (some ⟨b, 0, none⟩), .slice a nn ca] W fun e w' => ∃ (c' : Nat) (s : ByteArray), e = .returned (.string s) ∧ Bts s (rwT f T u) ∧ KN f mb c' w' ∧ c' ≤ cc + m ∧ W.grownBy w' (some mb)) :=
    fun u nn cc a ca av rv' W h1 h2 h3 h4 h5 h6 h7 h8 h9 => rowE fn lb f b mb cc (by omega) k av rv' T m hm (by omega) (k : Int) (by omega) hT ta tc u nn h1 h2 (by omega) a ca W eg (fun W' hW' => hf W' (h5.grown hW' (fun q e _ => .inr (.inl (Option.some.inj e).symm)))) h6 h7 h8 h9 hl.ne
  have HRWL : Hid (∀ u, (rwT f T u).length = m) := fun u => by
    show _ = _
    unfold rwT u8b bitsT
    rw [List.length_map, List.length_map]; exact hm
  obtain ⟨PST, HPS⟩ := nameIt (CloseR Z f T w B0 b mb (.int .i64 (k : Int)) (.func (.func fn) #[] lb) (.slice ta m tc) (.slice a0 n0 c0) (c + 800000) (discA f T k A0 200) (rowsA f T k A0 200) (accsA f T k A0 200))
  rw [HPS.out]
  clear hl hA hBD hn0 hm hT hf hB hsm hZ
  go_enter Try.func17, Try.ntmps17
  go_upto_region 3 with fail
  rw [HRB.out]
  obtain ⟨w1, HW1⟩ := nameIt (((w.setCell ⟨b, 5, none⟩ (.map (some rb))).alloc (.cells #[.int .i64 0, .slice none 0 0, .slice none 0 0] 25)).alloc (.map #[] 0))
  rw [HW1.out] at HF0 ⊢
  go_loopg [4, 5, 25] n0 (fun gg v4 v5 v25 wr => ∃ (i cc : Nat), i ≤ n0 ∧ n0 - i ≤ gg ∧ v25 = .int .i64 i ∧ cc ≤ c + 201 * i ∧ Hid (ClF f w b mb rb (.int .i64 (k : Int)) (.func (.func fn) #[] lb) (.slice ta m tc) (.slice a0 n0 c0) cc (ks f T (A0.take i)) wr))
  case atStart => exact ⟨0, c, by omega, by omega, rfl, by omega, HF0⟩
  case round =>
    clear HF0 x0 x1 x2 x3 x4 x5 f0 f1 f2 f3 f4 f5
    obtain ⟨i, cc, hi, hg, rfl, hcc, HF⟩ := hrel
    obtain ⟨wo, rfl⟩ : ∃ ww : World, ww = wr := ⟨_, rfl⟩
    by_cases hlt : i < n0
    · have hlt' : (i : Int) < (n0 : Int) := by omega
      have hi0 : (0 : Int) ≤ (i : Int) := by omega
      have hix : i < A0.length := by rw [HN0.out]; exact hlt
      obtain ⟨bb, oo, vu, hae, d0, hsl⟩ := Rd.rowI_at (HAC.out wo HF.out.fr) hix
      have hul := HAO.out.len _ (List.getElem_mem hix)
      have hus := HSM.out _ (HAO.out.sym _ (List.getElem_mem hix))
      have htk : A0.take (i + 1) = A0.take i ++ [A0[i]] := List.take_succ_eq_append_getElem hix
      have hnd := HAO.out.nd
      obtain ⟨u, HU⟩ := nameIt A0[i]
      simp only [HU.out] at hsl hul hus htk
      have hnin : rwT f T u ∉ ks f T (A0.take i) := by
        intro hin
        have e1 : (ks f T A0).take (i + 1) = ks f T (A0.take i) ++ [rwT f T u] := by unfold ks; rw [← List.map_take, htk, List.map_append]; rfl
        have h2 := List.Nodup.sublist (List.take_sublist (i + 1) _) hnd
        rw [e1] at h2
        exact (List.nodup_append.1 h2).2.2 _ hin _ (by simp) rfl
      obtain ⟨au, cu, rfl⟩ := hsl.form
      rw [ints_len] at d0 hsl
      obtain ⟨lu, HLU⟩ := nameIt u.length
      rw [HLU.out] at d0 hsl
      rw [HN0.out] at hul
      rw [HLU.out] at hul
      have HCALL := Lib.hid (fun (W : World) (hb : Below wo.heap.size wo W) => HROW.out u lu cc au cu (.slice a0 n0 c0) (.map (some rb)) W HLU.out hus (by omega) (by omega) ((HF.out.fr.mono (fun q _ e => e.elim .inl (fun e => .inr (.inl e)))).grown (grown_below hb none) (fun q e => by cases e)) (bx_keep HF.out.bx hb) (HF.out.kn.keep hb) (hsl.keep hb) ((HTS.out wo HF.out.fr).below hb))
      have HTK : Hid (ks f T (A0.take i) ++ [rwT f T u] = ks f T (A0.take (i + 1))) := by show _ = _; rw [htk]; unfold ks; rw [List.map_append]; rfl
      have hkl : (ks f T (A0.take i)).length = i := by unfold ks; rw [List.length_map, List.length_take]; omega
      have HNIN := Lib.hid hnin
      have HKL := Lib.hid hkl
      obtain ⟨x0, x1, x2, x3, x4, x5⟩ := bx_cells6 HF.out.bx
      have HS : Hid (∀ W : World, W.heap[b]? = wo.heap[b]? → W.cell? ⟨b, 0 + 5, none⟩ = some (.map (some rb))) := fun W h => by
        have := h.trans HF.out.bx
        exact (bx_cells6 this).2.2.2.2.2
      subst hae
      clear hsl hul hus htk hnd hnin hkl
      go_upto_region 5 with fail
      refine wp_region_U (S := (fun w' => w'.cell? ⟨b, 0 + 5, none⟩ = some (.map (some rb)))) 8 (by kernel_rfl) (fun inv => ?_)
      refine wpU_take (i := 0) (v := .pointer (some ⟨b, 0, none⟩)) rfl inv (by kernel_rfl) (by kernel_rfl) (by decide) (by decide) (by kernel_rfl) (by kernel_rfl) (by kernel_rfl) (fun _ _ _ h => h) (Or.inl ⟨by rfl, fun w' hw' => ?_⟩) (HS.out _ rfl) (fun inv => ?_)
      · obtain h0 := hw'
        go_simp
      try simp only [Act.put, List.setIfInBounds_toArray, List.set_cons_zero, List.set_cons_succ]
      refine wpU_take (i := 1) (v := .pointer (some ⟨b, 0, none⟩)) rfl inv (by kernel_rfl) (by kernel_rfl) (by decide) (by decide) (by kernel_rfl) (by kernel_rfl) (by kernel_rfl) (fun _ _ _ h => h) (Or.inl ⟨by rfl, fun w' hw' => ?_⟩) (HS.out _ rfl) (fun inv => ?_)
      · obtain h0 := hw'
        go_simp
      try simp only [Act.put, List.setIfInBounds_toArray, List.set_cons_zero, List.set_cons_succ]
      refine wpU_take (i := 2) (v := .pointer (some ⟨b, 0 + 5, none⟩)) rfl inv (by kernel_rfl) (by kernel_rfl) (by decide) (by decide) (by kernel_rfl) (by kernel_rfl) (by kernel_rfl) (fun _ _ _ h => h) (Or.inl ⟨by rfl, fun w' hw' => ?_⟩) (HS.out _ rfl) (fun inv => ?_)
      · obtain h0 := hw'
        go_simp
      try simp only [Act.put, List.setIfInBounds_toArray, List.set_cons_zero, List.set_cons_succ]
      refine wpU_take (i := 3) (v := .map (some rb)) rfl inv (by kernel_rfl) (by kernel_rfl) (by decide) (by decide) (by kernel_rfl) (by kernel_rfl) (by kernel_rfl) (fun _ _ _ h => h) (Or.inl ⟨by rfl, fun w' hw' => ?_⟩) (HS.out _ rfl) (fun inv => ?_)
      · obtain h0 := hw'
        go_simp
      try simp only [Act.put, List.setIfInBounds_toArray, List.set_cons_zero, List.set_cons_succ]
      refine wpU_take (i := 4) (v := .pointer (some ⟨b, 0, none⟩)) rfl inv (by kernel_rfl) (by kernel_rfl) (by decide) (by decide) (by kernel_rfl) (by kernel_rfl) (by kernel_rfl) (fun _ _ _ h => h) (Or.inl ⟨by rfl, fun w' hw' => ?_⟩) (HS.out _ rfl) (fun inv => ?_)
      · obtain h0 := hw'
        go_simp
      try simp only [Act.put, List.setIfInBounds_toArray, List.set_cons_zero, List.set_cons_succ]
      refine wpU_take (i := 5) (v := .slice au lu cu) rfl inv (by kernel_rfl) (by kernel_rfl) (by decide) (by decide) (by kernel_rfl) (by kernel_rfl) (by kernel_rfl) (fun _ _ _ h => h) (Or.inl ⟨by rfl, fun w' hw' => ?_⟩) (HS.out _ rfl) (fun inv => ?_)
      · obtain h0 := hw'
        go_simp
      try simp only [Act.put, List.setIfInBounds_toArray, List.set_cons_zero, List.set_cons_succ]
      refine wpU_take (i := 7) (v := .int .i64 (i : Int)) rfl inv (by kernel_rfl) (by kernel_rfl) (by decide) (by decide) (by kernel_rfl) (by kernel_rfl) (by kernel_rfl) (fun _ _ _ h => h) (Or.inl ⟨by rfl, fun w' hw' => ?_⟩) (HS.out _ rfl) (fun inv => ?_)
      · obtain h0 := hw'
        go_simp
      try simp only [Act.put, List.setIfInBounds_toArray, List.set_cons_zero, List.set_cons_succ]
      refine wpU_one (i := 6) (by kernel_rfl) rfl (fun K hK => ?_)
      replace inv := inv_setG (i := 6) inv (by kernel_rfl) (by decide)
      go_simp
      refine (HCALL.out _ (Below.refl _ _).drew).mono ?_
      rintro e w2 ⟨c2, ss, rfl, hbs, hk2, hc2, hg2⟩
      have hg2' : wo.grownBy w2 (some mb) := grown_trans (grown_drew _ _) hg2
      have hbk := hg2'.block b (Array.getElem?_eq_some_iff.1 HF.out.bx).1 (fun e => HLO.out.2.2.1 (Option.some.inj e))
      have HBK := Lib.hid hbk
      have HF2 := Lib.hid (HF.out.call HLO.out hg2' hk2)
      have hss : ss.size ≤ maxLen := by rw [hbs.size, HRWL.out]; unfold maxLen; omega
      have hkey := key_string ss _ hbs hss
      obtain ⟨w3, hup, hk3, hg3⟩ := HF2.out.km.store strKl Try.underlying41 (by rw [HKL.out]; unfold maxLen; omega) hkey (velInt (n := (i : Int)) (by simp [Lit.wf, IntKind.min, IntKind.max, IntKind.signed, IntKind.bits]; omega))
      have hk4 : KMap 9 3 rb (FS (ks f T (A0.take (i + 1)))) (ks f T (A0.take (i + 1))).length w3 := by
        rw [show (FS (ks f T (A0.take i)) (Lit.string (rwT f T u))).isSome = false by simp only [FS]; rw [if_neg HNIN.out]; rfl, HKL.out] at hk3
        rw [← HTK.out, List.length_append, HKL.out]
        refine hk3.eq fun l => ?_
        have h := fS_put HNIN.out l
        rw [HKL.out] at h
        exact h
      have HF3 := Lib.hid (HF2.out.mapped HLO.out hg3 hk4)
      clear hbs hk2 hg2 hg2' hbk hss hkey hk3 hg3 hk4
      refine hK.out _ _ (fun _ => HS.out _ HBK.out) ?_
      clear hK K
      try simp only [Act.put, List.setIfInBounds_toArray, List.set_cons_zero, List.set_cons_succ]
      refine wpU_one (i := 8) (by kernel_rfl) rfl (fun K hK => ?_)
      go_simp
      refine hK.out _ _ (fun h => absurd (show true = false from h) (by decide)) ?_
      clear hK K
      try simp only [Act.put, List.setIfInBounds_toArray, List.set_cons_zero, List.set_cons_succ]
      refine wpU_done (by kernel_rfl) ?_ _
      go_wp2_with fail
      go_roundg (n0 - (i + 1))
      case measure => omega
      case rel => exact ⟨i + 1, c2, by omega, by omega, by go_num, by omega, HF3⟩
    · have hlt' : ¬ (i : Int) < (n0 : Int) := by omega
      obtain rfl : n0 = i := by omega
      have hta : A0.take n0 = A0 := List.take_of_length_le (by rw [HN0.out]; exact Nat.le_refl _)
      have HFW := HF.out
      rw [hta] at HFW
      obtain ⟨ob, HOB⟩ := nameIt wo.heap.size
      have HC0 := Lib.hid (HFW.rounds HLS.out HRB.out.symm HBB.out HOB.out.symm)
      obtain ⟨w1, HW1⟩ := nameIt (wo.alloc (.cells #[.int .i64 0, .slice none 0 0, .slice none 0 0] 25))
      rw [HW1.out] at HC0
      have HOK : Hid (∀ i, OkA f T k (discA f T k A0 i)) := discA_ok HAO.out
      clear hta HFW HF
      go_upto_region 8 with fail
      rw [HW1.out, HOB.out]
      go_wp2_with fail
      go_loopg [7, 8, 9, 10, 11, 12, 13, 14, 15] 200 (fun gg v7 v8 v9 v10 v11 v12 v13 v14 v15 wr => ∃ (i c1 : Nat) (X : Nat → Prop) (sv vR vA : Value), i ≤ (discA f T k A0 i).length ∧ i ≤ 200 ∧ 200 - i ≤ gg ∧ v7 = .int .i64 i ∧ c1 ≤ c + 40200 + 3500 * i ∧ Hid (∀ q, q < i → q < (discA f T k A0 q).length) ∧ Hid (ClI Z f T w B0 b mb rb ob (.int .i64 (k : Int)) (.func (.func fn) #[] lb) (.slice ta m tc) (.slice a0 n0 c0) X (fun _ => False) c1 (discA f T k A0 i) (ks f T (discA f T k A0 i)) sv (rowsA f T k A0 i) (accsA f T k A0 i) vR vA wr))
      case atStart => exact ⟨0, cc, _, _, _, _, by omega, by omega, by omega, rfl, by omega, fun q h => by omega, HC0⟩
      case round =>
        clear HC0 HW1
        obtain ⟨i, c1, X, sv, vR, vA, hiL, hin, hg, rfl, hc1, HAL, HC⟩ := hrel
        obtain ⟨wo, rfl⟩ : ∃ ww : World, ww = wr := ⟨_, rfl⟩
        have hL2 := HBD.out _ (HOK.out i)
        obtain ⟨xs0, hown, -⟩ := HC.out.ac
        obtain ⟨sa, cs, rfl, -, -⟩ := own_len hown
        obtain ⟨L, HL⟩ := nameIt (discA f T k A0 i).length
        have HBX := HC.out.bx
        rw [HL.out] at hiL hL2 HBX
        obtain ⟨x0, x1, x2, x3, x4, x5⟩ := bx_cells6 HBX
        clear hown
        by_cases hlt : i < L
        · have hlt' : (i : Int) < (L : Int) := by omega
          have hi0 : (0 : Int) ≤ (i : Int) := by omega
          have hil : i < (discA f T k A0 i).length := by rw [HL.out]; exact hlt
          have hs := List.getElem?_eq_getElem hil
          obtain ⟨bb, oo, vu, hae, d0, hrd⟩ := acRow HC.out.ac rfl hil
          have hul := (HOK.out i).len _ (List.getElem_mem hil)
          have hus := (HOK.out i).sym _ (List.getElem_mem hil)
          obtain ⟨u, HU⟩ := nameIt ((discA f T k A0 i)[i]'hil)
          rw [HU.out] at hs hrd hul hus
          rw [HL.out] at hul
          have HUS := Lib.hid hus
          have HUB := Lib.hid (HSM.out _ hus)
          obtain ⟨au, cu, rfl⟩ := (sl_rd hrd).form
          rw [ints_len] at d0 hrd
          obtain ⟨lu, HLU⟩ := nameIt u.length
          rw [HLU.out] at d0 hrd hul
          have HSI := Lib.hid hs
          obtain ⟨g9, HG9⟩ := nameIt wo.heap.size
          have HR0 := Lib.hid (HC.out.begin HG9.out.symm (.cells (madeCells #[.int .i64 0] k) 3))
          have HU0 := Lib.hid (HC.out.rdB HG9.out.symm (.cells (madeCells #[.int .i64 0] k) 3) hrd)
          have HV0 : Hid (Vrow 3 g9 k (rowVA f T (extA f T u (discA f T k A0 i) 0) u 0) (wo.alloc (.cells (madeCells #[.int .i64 0] k) 3))) := (vrow_new wo _ _ k HG9.out.symm).eq fun q _ => by unfold rowVA; simp
          obtain ⟨wA, HWA⟩ := nameIt (wo.alloc (.cells (madeCells #[.int .i64 0] k) 3))
          rw [HWA.out] at HR0 HU0 HV0
          have HRWL2 : Hid ((rowsA f T k A0 i).length = i) := by show _ = _; unfold rowsA; rw [List.length_map, List.length_take]; omega
          have HACL : Hid ((accsA f T k A0 i).length = i) := by show _ = _; unfold accsA; rw [List.length_map, List.length_take]; omega
          have HEO : Hid (∀ j, j ≤ k → OkA f T k (extA f T u (discA f T k A0 i) j)) := fun j hj => extA_ok (HOK.out i) (by rw [HLU.out, HL.out]; exact hul) hus j hj
          have HDN : Hid (discA f T k A0 (i + 1) = extA f T u (discA f T k A0 i) k) := by
            show (match (discA f T k A0 i)[i]? with | none => discA f T k A0 i | some u => extA f T u (discA f T k A0 i) k) = _
            rw [HSI.out]
          have HEP : Hid (∀ j, i < (extA f T u (discA f T k A0 i) j).length) := fun j => Nat.lt_of_lt_of_le hil (extA_prefix u _ j).length_le
          obtain ⟨D0, HD0⟩ := nameIt (discA f T k A0 i)
          obtain ⟨LR, HLR⟩ := nameIt (rowsA f T k A0 i)
          obtain ⟨LA, HLA⟩ := nameIt (accsA f T k A0 i)
          rw [HLR.out, HLA.out] at HR0
          rw [HD0.out] at HV0 HR0 HDN
          simp only [HD0.out] at HEO HEP
          subst hae
          clear hs hrd hus HBX
          go_upto_region 13 with fail
          rw [HWA.out, HG9.out]
          go_wp2_with fail
          go_loopg [10, 11, 12, 13, 14, 62] k (fun gg u10 u11 u12 u13 u14 u62 wr => ∃ (j c2 : Nat) (X : Nat → Prop) (sv : Value), j ≤ k ∧ k - j ≤ gg ∧ u62 = .int .i64 j ∧ c2 ≤ c1 + 200 * j ∧ Hid (ClI Z f T w B0 b mb rb ob (.int .i64 (k : Int)) (.func (.func fn) #[] lb) (.slice ta m tc) (.slice a0 n0 c0) X (fun q => q = g9) c2 (extA f T u D0 j) (ks f T (extA f T u D0 j)) sv LR LA vR vA wr) ∧ Hid (Rd (fun q => SE Z X (fun q => q = g9) b mb rb ob w.heap.size q ∧ sv.ownBlock ≠ some q) wr (D.ints u) [.slice au lu cu]) ∧ Hid (Vrow 3 g9 k (rowVA f T (extA f T u D0 j) u j) wr))
          case atStart => exact ⟨0, c1, _, _, by omega, by omega, rfl, by omega, HR0, HU0, HV0⟩
          case round =>
            clear HR0 HU0 HV0 HWA d0 x0 x1 x2 x3 x4 x5
            obtain ⟨j, c2, X, sv, hjk, hgg, rfl, hc2, HC, HUR, HV⟩ := hrel
            obtain ⟨w2, rfl⟩ : ∃ ww : World, ww = wr := ⟨_, rfl⟩
            obtain ⟨xs0, hown, -⟩ := HC.out.ac
            obtain ⟨sa, cs, rfl, -, -⟩ := own_len hown
            have hown2 := hown.lt
            have hL2 := HBD.out _ (HEO.out j hjk)
            by_cases hjlt : j < k
            · have hjlt' : (j : Int) < (k : Int) := by omega
              have hj0 : (0 : Int) ≤ (j : Int) := by omega
              have HOJ := HEO.out (j + 1) (by omega)
              have hL3 := HBD.out _ HOJ
              have hnx := extA_next (f := f) (T := T) u D0 j
              have HOBL : Hid (ob < w2.heap.size) := HC.out.size
              obtain ⟨EJ, HEJ⟩ := nameIt (extA f T u D0 j)
              obtain ⟨EN, HEN⟩ := nameIt (extA f T u D0 (j + 1))
              rw [HEJ.out] at HC HV hL2 hnx
              rw [HEN.out] at hnx hL3
              have HVN : Hid (∀ (W : World) (z : Int), Vrow 3 g9 k (rowVA f T EJ u j) W → z = valA f T EN (u ++ [(j : Int)]) → Vrow 3 g9 k (rowVA f T EN u (j + 1)) (W.setCell ⟨g9, j, none⟩ (.int .i64 z))) := by
                intro W z h1 h2
                rw [← HEN.out] at h2 ⊢
                rw [← HEJ.out] at h1
                exact vrowA_set h1 hjlt h2
              obtain ⟨x, HX⟩ := nameIt (u ++ [(j : Int)])
              rw [HX.out] at hnx HVN
              have HNX := Lib.hid hnx
              have hxl : x.length = lu + 1 := by rw [← HX.out, List.length_append, HLU.out]; rfl
              have hxb : ovK (k : Int) x := by rw [← HX.out]; exact ovK_app HUB.out (fun y hy => by simp at hy; subst hy; omega)
              have HXL := Lib.hid hxl
              have HXB := Lib.hid hxb
              have hsu := sl_rd HUR.out
              have HCL := Lib.hid (clone_int _ u w2 hsu (by rw [HLU.out]; omega))
              obtain ⟨L, HL⟩ := nameIt EJ.length
              rw [HEJ.out] at hown hown2
              rw [HL.out] at hL2 hown
              have hbx := HC.out.bx
              rw [HL.out] at hbx
              have HLNE : Hid (ob < g9) := (HC.out.gx g9 rfl).2
              rw [HEJ.out] at HUR
              clear hnx hxl hxb hsu HOJ
              go_wp2_with fail
              with_reducible refine HCL.out.mono ?_
              rintro e w3 ⟨a3, c3, rfl, ho3, hb3⟩
              have HO3 := Lib.hid ho3
              have HB3 := Lib.hid hb3
              have HSZ3 := Lib.hid hb3.size
              rw [HLU.out] at HO3 ⊢
              clear ho3 hb3
              go_wp2_with (at_builtin; refine wp_app1at elInt rfl _ _ rfl HO3.out rfl rfl (by simp) rfl rfl (by omega) (by unfold maxLen; omega) HSZ3.out ?_)
              intro v' w4 ho4 hg4 hat4
              have hw4 : Below w2.heap.size w2 w4 := HB3.out.grown hg4 HB3.out.size (fun q e => (HO3.out.lt q e).1)
              obtain ⟨g4, k4, rfl, -, -, -, hg4a, hg4b⟩ := own_at ho4 hat4
              have hxi : ints u ++ [.int .i64 (j : Int)] = ints x := by rw [← HX.out, ints_append]; rfl
              have HC4 := Lib.hid (HC.out.below hw4)
              have HU4 := Lib.hid (HC.out.rdF (grown_below hw4 none) (.inl rfl) HUR.out)
              have HV4 := Lib.hid (HV.out.keep hw4)
              have hx4 : Rd (fun q => SE Z (FrX X w2 w4) (fun q => q = g9) b mb rb ob w.heap.size q ∧ (Value.slice sa EJ.length cs).ownBlock ≠ some q) w4 (D.ints x) [.slice (some ⟨g4, 0, none⟩) (lu + 1) k4] := by
                have h4 : w4.ownsRow w2.heap.size 3 1 (.slice (some ⟨g4, 0, none⟩) (lu + 1) k4) (lu + 1) (ints u ++ [.int .i64 (j : Int)]) := ho4
                rw [hxi] at h4
                have h5 := HV.out.lt
                exact rd_of_own (ds := x.map D.int) h4 ((rdAll_ints x _).2 rfl) (by rw [List.length_map]; exact HXL.out) (fun q e => by
                  have h6 := h4.lt q e
                  refine ⟨.inr ⟨by have h7 : ob < w2.heap.size := HOBL.out; omega, .inr h6, fun e2 => by omega⟩, fun e2 => ?_⟩
                  have := hown2 q e2
                  omega)
              have HX4 := Lib.hid hx4
              have HROW4 := Lib.hid (HROW.out x (lu + 1) c2 (some ⟨g4, 0, none⟩) k4 (.slice sa L cs) (.map (some rb)) w4 HXL.out HXB.out (by omega) (by omega) HC4.out.fr (bx_keep hbx hw4) HC4.out.kn (sl_rd hx4) (HC4.out.ts.mono fun q hq _ => hq.2.2.1))
              clear ho4 hg4 hat4 hw4 hx4 hxi hbx hown hown2
              go_wp2_with fail
              with_reducible refine HROW4.out.mono ?_
              rintro e w5 ⟨c5, ss, rfl, hbs, hk5, hc5, hg5⟩
              have HC5 := Lib.hid (HC4.out.call hg5 hk5)
              have HU5 := Lib.hid (HC4.out.rdF hg5 (.inr (.inl rfl)) HU4.out)
              have HX5 := Lib.hid (HC4.out.rdF hg5 (.inr (.inl rfl)) HX4.out)
              have HV5 := Lib.hid (HV4.out.grown hg5 (fun e => by have e2 : mb = g9 := Option.some.inj e; have h1 : ob < g9 := HLNE.out; have := HC.out.lo; omega))
              have hss : ss.size ≤ maxLen := by rw [hbs.size, HRWL.out]; unfold maxLen; omega
              have hkey := key_string ss _ hbs hss
              have hlook := HC5.out.km.look strKl Try.underlying41 hkey
              have hbx5 := HC5.out.bx
              rw [HL.out] at hbx5
              obtain ⟨x0, x1, x2, x3, x4, x5⟩ := bx_cells6 hbx5
              obtain ⟨f0, f1, f2, f3, f4, f5⟩ := bx_free6 hbx5
              have q0 := HV5.out.cell hjlt
              have qf := HV5.out.free j
              have HKL : Hid ((ks f T EJ).length = L) := by show _ = _; unfold ks; rw [List.length_map]; exact HL.out
              by_cases hin : rwT f T x ∈ ks f T EJ
              · have hEN : EN = EJ := by rw [HNX.out]; unfold stepA; rw [if_pos hin]
                have hva : ((ks f T EJ).idxOf (rwT f T x) : Int) = valA f T EN x := by rw [hEN]; rfl
                have e1 := (hlook.1 ((ks f T EJ).idxOf (rwT f T x) : Int) (by simp only [FS]; rw [if_pos hin])).1
                have HV6 := Lib.hid (HVN.out w5 ((ks f T EJ).idxOf (rwT f T x) : Int) HV5.out hva)
                obtain ⟨z, HZ⟩ := nameIt ((ks f T EJ).idxOf (rwT f T x) : Int)
                rw [HZ.out] at e1 HV6
                have HC6 := Lib.hid (HC5.out.cell (g := g9) rfl j (.int .i64 z))
                have HU6 := Lib.hid (HC5.out.rdF (grown_cell w5 ⟨g9, j, none⟩ (.int .i64 z)) (.inr (.inr (.inr ⟨g9, rfl, rfl⟩))) HU5.out)
                rw [← hEN, ← HEN.out] at HC6 HU6
                rw [← HEN.out] at HV6
                clear hva hlook hkey hin hbs hss hk5 hg5 hEN hbx5
                go_wp2_with fail
                go_roundg (k - (j + 1))
                case measure => omega
                case rel => exact ⟨j + 1, c5, _, _, by omega, by omega, by go_num, by omega, HC6, HU6, HV6⟩
              · have hEN : EN = EJ ++ [x] := by rw [HNX.out]; unfold stepA; rw [if_neg hin]
                have e1 := hlook.2 (by simp only [FS]; rw [if_neg hin])
                have hL4 : L + 1 ≤ 200 := by rw [hEN, List.length_append, HL.out] at hL3; exact hL3
                have hL5 : ¬ (L : Int) = 200 := by omega
                obtain ⟨w6, hup, hk6, hg6⟩ := HC5.out.km.store strKl Try.underlying41 (by rw [HKL.out]; unfold maxLen; omega) hkey (velInt (n := (L : Int)) (by simp [Lit.wf, IntKind.min, IntKind.max, IntKind.signed, IntKind.bits]; omega))
                have hk7 : KMap 9 3 rb (FS (ks f T EN)) (ks f T EN).length w6 := by
                  rw [show (FS (ks f T EJ) (Lit.string (rwT f T x))).isSome = false by simp only [FS]; rw [if_neg hin]; rfl] at hk6
                  rw [show ks f T EN = ks f T EJ ++ [rwT f T x] by rw [hEN]; unfold ks; rw [List.map_append]; rfl, List.length_append]
                  refine hk6.eq fun l => ?_
                  have h := fS_put hin l
                  rw [HKL.out] at h
                  exact h
                have HC6 := Lib.hid (HC5.out.mapped hg6 hk7)
                have HU6 := Lib.hid (HC5.out.rdF hg6 (.inr (.inr (.inl rfl))) HU5.out)
                have HX6 := Lib.hid (HC5.out.rdF hg6 (.inr (.inr (.inl rfl))) HX5.out)
                have HV6 := Lib.hid (HV5.out.grown hg6 (fun e => by have e2 : rb = g9 := Option.some.inj e; have h1 : ob < g9 := HLNE.out; have := HC.out.lo; omega))
                obtain ⟨xs6, ho6, hr6⟩ := HC6.out.ac
                have HO6 : Hid (w6.ownsRow B0 22 1 (.slice sa L cs) L xs6) := by rw [HL.out] at ho6; exact ho6
                have HR6 := Lib.hid hr6
                have HB6 : Hid (B0 ≤ w6.heap.size) := by have h1 := HC6.out.size; have h2 := HC6.out.lo; show _ ≤ _; omega
                have hbx6 := HC6.out.bx
                rw [HL.out] at hbx6
                obtain ⟨z0, z1, z2, z3, z4, z5⟩ := bx_cells6 hbx6
                have hva : (L : Int) = valA f T EN x := by
                  unfold valA
                  rw [show ks f T EN = ks f T EJ ++ [rwT f T x] by rw [hEN]; unfold ks; rw [List.map_append]; rfl, List.idxOf_append, if_neg hin, HKL.out]
                  simp
                have HEN2 := Lib.hid hEN
                have HVA := Lib.hid hva
                have hblt : b < w6.heap.size := lt_of_cell z0
                have HBX6 := Lib.hid hbx6
                clear hlook hkey hin hbs hss hk5 hg5 hEN hbx5 hk6 hg6 hk7 ho6 hr6 hva q0 qf hbx6
                go_wp2_with (at_builtin; refine wp_app1at elIntsP rfl _ _ rfl HO6.out rfl rfl (by simp) rfl rfl (by omega) (by unfold maxLen; omega) HB6.out ?_)
                intro v' w7 ho7 hg7 hat7
                obtain ⟨hP, hR⟩ := HC6.out.push HR6.out HX6.out (by rw [HL.out]; exact ho7) (by rw [HL.out]; exact hg7) (by rw [HL.out]; exact hat7)
                have HC8 := Lib.hid hP
                have HU8 := Lib.hid (hR HU6.out)
                obtain ⟨g7, k7, rfl, -, -, -, -, -⟩ := own_at ho7 hat7
                have hg9s := HV6.out.lt
                have HV8 : Hid (Vrow 3 g9 k (rowVA f T EJ u j) (w7.setCell ⟨b, 3, none⟩ (.slice (some ⟨g7, 0, none⟩) (L + 1) k7))) := (HV6.out.grown hg7 (fun e => by
                  rcases HC6.out.so g9 (by rw [HL.out]; exact e) with a | a
                  · have h1 : ob < g9 := HLNE.out; omega
                  · exact a.2.2 rfl)).other (by have h1 : ob < g9 := HLNE.out; have h2 := HC.out.lo; omega) _ _
                have hnob : (Value.slice sa L cs).ownBlock ≠ some b := by
                  intro e
                  have h1 := HC6.out.lo
                  rcases HC6.out.so b (by rw [HL.out]; exact e) with a | a <;> omega
                have hb7 := (hg7.block b hblt (fun e => hnob e.symm)).trans HBX6.out
                obtain ⟨y0, y1, y2, y3, y4, y5⟩ := bx_cells6 hb7
                obtain ⟨j0, j1, j2, j3, j4, j5⟩ := bx_free6 hb7
                have q0 := HV8.out.cell hjlt
                have qf := HV8.out.free j
                have HC9 := Lib.hid (HC8.out.cell (g := g9) rfl j (.int .i64 (L : Int)))
                have HU9 := Lib.hid (HC8.out.rdF (grown_cell _ ⟨g9, j, none⟩ (.int .i64 (L : Int))) (.inr (.inr (.inr ⟨g9, rfl, rfl⟩))) HU8.out)
                have HV9 := Lib.hid (HVN.out _ (L : Int) HV8.out HVA.out)
                rw [← HEN2.out, ← HEN.out] at HC9
                rw [← HEN.out] at HV9
                have hbg : ¬ b = g9 := by have h1 : ob < g9 := HLNE.out; have h2 := HC.out.lo; omega
                have hgb : ¬ g9 = b := fun e => hbg e.symm
                clear hP hR ho7 hg7 hat7 hb7 hnob z0 z1 z2 z3 z4 z5 x0 x1 x2 x3 x4 x5 f0 f1 f2 f3 f4 f5
                go_wp2_with fail
                go_roundg (k - (j + 1))
                case measure => omega
                case rel => exact ⟨j + 1, c5, _, _, by omega, by omega, by go_num, by omega, HC9, HU9, HV9⟩
            · obtain rfl : k = j := by omega
              have hjlt' : ¬ (k : Int) < (k : Int) := by omega
              obtain ⟨EK, HEK⟩ := nameIt (extA f T u D0 k)
              rw [HEK.out] at HC HV hL2 HUR
              obtain ⟨L, HL⟩ := nameIt EK.length
              have hbx := HC.out.bx
              rw [HL.out] at hbx hL2
              have hiL2 : i < L := by have := HEP.out k; rw [HEK.out, HL.out] at this; exact this
              have HMB := Lib.hid (memberE fn lb f b mb c2 (by omega) (k : Int) (.slice sa L cs) (.slice ta m tc) (.map (some rb)) u lu HLU.out (k : Int) (by omega) HUB.out (by omega) au cu w2 eg (HFF.out w2 HC.out.fr) hbx HC.out.kn (sl_rd HUR.out))
              obtain ⟨r, HR⟩ := nameIt (f u)
              obtain ⟨ma, HMA⟩ := nameIt (if r = true then (0 : Int) else -1)
              rw [HR.out] at HMB
              clear hown hown2 hbx
              go_wp2_with fail
              with_reducible refine HMB.out.mono ?_
              rintro e w5 ⟨c5, rfl, hk5, hc5, hg5⟩
              have HC5 := Lib.hid (HC.out.call hg5 hk5)
              have hv5 := HV.out.grown hg5 (fun e => by have e2 : mb = g9 := Option.some.inj e; have h1 := (HC.out.gx g9 rfl).2; have h2 := HC.out.lo; omega)
              obtain ⟨hw, hp⟩ := HC5.out.whole hv5 (by unfold maxLen; omega) rfl ma
              have HW := Lib.hid hw
              have HPX := Lib.hid hp
              clear hw hp hv5 hk5 hg5
              go_upto_if 115 with fail
              go_cut [15] (fun t15 wx => t15 = .int .i64 ma ∧ Hid (w5 = wx))
              case first =>
                cases r with
                | true =>
                  have hma : ma = 0 := HMA.out.symm
                  subst hma
                  go_wp2_with fail
                  go_meet
                  exact ⟨rfl, rfl⟩
                | false =>
                  have hma : ma = -1 := HMA.out.symm
                  subst hma
                  go_wp2_with fail
                  go_meet
                  exact ⟨rfl, rfl⟩
              case rest =>
                obtain ⟨rfl, HWX⟩ := hcut
                obtain rfl := HWX.out
                obtain ⟨X2, HX2⟩ := nameIt (fun q => FrX X w2 w5 q ∧ q ≠ g9)
                rw [HX2.out] at HW HPX
                have hin2 : i < 200 := Nat.lt_of_lt_of_le hil (HBD.out _ (HOK.out i))
                obtain ⟨xs0, ow1, -⟩ := HPX.out.rows
                obtain ⟨aR, cR, rfl, -, -⟩ := own_len ow1
                obtain ⟨aA, cA', rfl, -, -⟩ := own_len HPX.out.acc
                have HLRI : Hid (LR.length = i) := by show _ = _; rw [← HLR.out]; exact HRWL2.out
                have HLAI : Hid (LA.length = i) := by show _ = _; rw [← HLA.out]; exact HACL.out
                have hbo := HW.out.bxo
                rw [HLRI.out, HLAI.out] at hbo
                have hPI := HPX.out
                rw [HLRI.out, HLAI.out] at hPI
                obtain ⟨NR, HNR⟩ := nameIt (rowA f T k EK u)
                rw [HNR.out] at hPI
                have HPI := Lib.hid hPI
                have HBO := Lib.hid hbo
                have hsz3 : ob + 1 ≤ w5.heap.size := hPI.le
                have HNEXT : Hid (∀ (W : World) (vR' vA' : Value), PX X2 (ob + 1) w5 NR ma (LR ++ [NR]) (LA ++ [ma]) vR' vA' none none none W → ClI Z f T w B0 b mb rb ob (.int .i64 (k : Int)) (.func (.func fn) #[] lb) (.slice ta m tc) (.slice a0 n0 c0) X2 (fun _ => False) c5 (discA f T k A0 (i + 1)) (ks f T (discA f T k A0 (i + 1))) (.slice sa EK.length cs) (rowsA f T k A0 (i + 1)) (accsA f T k A0 (i + 1)) vR' vA' ((W.setCell ⟨ob, 2, none⟩ vR').setCell ⟨ob, 1, none⟩ vA')) := by
                  intro W vR' vA' hp
                  have e1 := rowsA_next HAL.out HSI.out
                  have e2 := accsA_next HSI.out
                  rw [HDN.out, HEK.out, HLR.out, HNR.out] at e1
                  rw [HLA.out, HR.out, HMA.out] at e2
                  rw [e1, e2, HDN.out, HEK.out]
                  exact HW.out.next hp
                have HAL2 : Hid (∀ q, q < i + 1 → q < (discA f T k A0 q).length) := fun q hq => by
                  by_cases e : q = i
                  · rw [e]; exact hil
                  · exact HAL.out q (by omega)
                have HIL : Hid (i + 1 ≤ (discA f T k A0 (i + 1)).length) := by show _ ≤ _; rw [HDN.out, HEK.out, HL.out]; exact hiL2
                have HS2 : Hid (∀ W, Below (ob + 1) w5 W → (fun w' => w'.cell? ⟨ob, 0 + 2, none⟩ = some (.slice aR i cR) ∧ w'.cell? ⟨ob, 0 + 1, none⟩ = some (.slice aA i cA')) W) := by
                  intro W hb
                  obtain ⟨y0, y1, y2⟩ := bx_cells3 ((hb.block ob (by omega)).trans HBO.out)
                  exact ⟨y2, y1⟩
                clear hPI hbo ow1
                go_upto_region 30 with fail
                refine wp_region_U (S := (fun w' => w'.cell? ⟨ob, 0 + 2, none⟩ = some (.slice aR i cR) ∧ w'.cell? ⟨ob, 0 + 1, none⟩ = some (.slice aA i cA'))) 11 (by kernel_rfl) (fun inv => ?_)
                refine wpU_take (i := 0) (v := .pointer (some ⟨ob, 0 + 2, none⟩)) rfl inv (by kernel_rfl) (by kernel_rfl) (by decide) (by decide) (by kernel_rfl) (by kernel_rfl) (by kernel_rfl) (fun _ _ _ h => h) (Or.inl ⟨by rfl, fun w' hw' => ?_⟩) (HS2.out _ (Below.refl _ _).drew) (fun inv => ?_)
                · obtain ⟨h0, h1⟩ := hw'
                  go_simp
                try simp only [Act.put, List.setIfInBounds_toArray, List.set_cons_zero, List.set_cons_succ]
                refine wpU_take (i := 1) (v := .slice aR i cR) rfl inv (by kernel_rfl) (by kernel_rfl) (by decide) (by decide) (by kernel_rfl) (by kernel_rfl) (by kernel_rfl) (fun _ _ _ h => h) (Or.inl ⟨by rfl, fun w' hw' => ?_⟩) (HS2.out _ (Below.refl _ _).drew) (fun inv => ?_)
                · obtain ⟨h0, h1⟩ := hw'
                  go_simp
                try simp only [Act.put, List.setIfInBounds_toArray, List.set_cons_zero, List.set_cons_succ]
                refine wpU_take (i := 2) (v := .slice (some ⟨g9, 0, none⟩) k k) rfl inv (by kernel_rfl) (by kernel_rfl) (by decide) (by decide) (by kernel_rfl) (by kernel_rfl) (by kernel_rfl) (fun _ _ _ h => h) (Or.inl ⟨by rfl, fun w' hw' => ?_⟩) (HS2.out _ (Below.refl _ _).drew) (fun inv => ?_)
                · obtain ⟨h0, h1⟩ := hw'
                  go_simp
                try simp only [Act.put, List.setIfInBounds_toArray, List.set_cons_zero, List.set_cons_succ]
                refine wpU_take (i := 5) (v := .pointer (some ⟨ob, 0 + 1, none⟩)) rfl inv (by kernel_rfl) (by kernel_rfl) (by decide) (by decide) (by kernel_rfl) (by kernel_rfl) (by kernel_rfl) (fun _ _ _ h => h) (Or.inl ⟨by rfl, fun w' hw' => ?_⟩) (HS2.out _ (Below.refl _ _).drew) (fun inv => ?_)
                · obtain ⟨h0, h1⟩ := hw'
                  go_simp
                try simp only [Act.put, List.setIfInBounds_toArray, List.set_cons_zero, List.set_cons_succ]
                refine wpU_take (i := 6) (v := .slice aA i cA') rfl inv (by kernel_rfl) (by kernel_rfl) (by decide) (by decide) (by kernel_rfl) (by kernel_rfl) (by kernel_rfl) (fun _ _ _ h => h) (Or.inl ⟨by rfl, fun w' hw' => ?_⟩) (HS2.out _ (Below.refl _ _).drew) (fun inv => ?_)
                · obtain ⟨h0, h1⟩ := hw'
                  go_simp
                try simp only [Act.put, List.setIfInBounds_toArray, List.set_cons_zero, List.set_cons_succ]
                refine wpU_take (i := 7) (v := .int .i64 ma) rfl inv (by kernel_rfl) (by kernel_rfl) (by decide) (by decide) (by kernel_rfl) (by kernel_rfl) (by kernel_rfl) (fun _ _ _ h => h) (Or.inl ⟨by rfl, fun w' hw' => ?_⟩) (HS2.out _ (Below.refl _ _).drew) (fun inv => ?_)
                · obtain ⟨h0, h1⟩ := hw'
                  go_simp
                try simp only [Act.put, List.setIfInBounds_toArray, List.set_cons_zero, List.set_cons_succ]
                have HP0 : Hid (PX X2 (ob + 1) w5 NR ma LR LA (.slice aR i cR) (.slice aA i cA') (some (.slice (some ⟨g9, 0, none⟩) k k)) none none w5.drew) := HPI.out.keep (Below.refl _ _).drew
                refine wpU_two (i := 3) (j := 8) (by kernel_rfl) rfl rfl (fun K hK => ?_) (fun K hK => ?_)
                · replace inv := inv_setG (i := 3) inv (by kernel_rfl) (by decide)
                  go_simp
                  have HP11 := Lib.hid ((HPI.out.bltB (g := w5.heap.size) rfl).keep (Below.refl _ _).drew)
                  obtain ⟨w11, HW11⟩ := nameIt (w5.alloc (.cells #[.slice (some ⟨g9, 0, none⟩) k k] 22)).drew
                  rw [HW11.out] at HP11 ⊢
                  refine hK.out _ _ (fun _ => HS2.out _ HP11.out.bel) ?_
                  clear hK K
                  try simp only [Act.put, List.setIfInBounds_toArray, List.set_cons_zero, List.set_cons_succ]
                  refine wpU_two (i := 4) (j := 8) (by kernel_rfl) rfl rfl (fun K hK => ?_) (fun K hK => ?_)
                  · replace inv := inv_setG (i := 4) inv (by kernel_rfl) (by decide)
                    obtain ⟨xs12, hx12, hy12⟩ := HP11.out.rows
                    obtain ⟨hT12, v12, hv12, hbx12⟩ := HP11.out.bB _ rfl
                    cases hv12
                    rw [HLRI.out] at hx12
                    refine step_appB elIntsP (by rfl) _ _ (by rfl) hx12 (by rfl) (by rfl) hbx12 (by rfl) (by rfl) (by omega) (by unfold maxLen; omega) HP11.out.size ?_
                    intro g12 c12 w12 ho12 hg12 hat12 hlt12
                    have HP12 := Lib.hid (HP11.out.appR (N := LR ++ [NR]) hy12 (by rw [HLRI.out]; exact ho12) hg12 (at_lies hat12) rfl)
                    clear hx12 hy12 hT12 hbx12 ho12 hg12 hat12 hlt12
                    refine hK.out _ _ (fun _ => HS2.out _ HP12.out.bel) ?_
                    clear hK K
                    try simp only [Act.put, List.setIfInBounds_toArray, List.set_cons_zero, List.set_cons_succ]
                    refine wpU_take (i := 10) (v := .pointer (some ⟨ob, 0 + 2, none⟩)) rfl inv (by kernel_rfl) (by kernel_rfl) (by decide) (by decide) (by kernel_rfl) (by kernel_rfl) (by kernel_rfl) (fun _ _ _ h => h) (Or.inl ⟨by rfl, fun w' hw' => ?_⟩) (HS2.out _ HP12.out.bel) (fun inv => ?_)
                    · obtain ⟨h0, h1⟩ := hw'
                      go_simp
                    try simp only [Act.put, List.setIfInBounds_toArray, List.set_cons_zero, List.set_cons_succ]
                    refine wpU_one (i := 8) (by kernel_rfl) rfl (fun K hK => ?_)
                    replace inv := inv_setG (i := 8) inv (by kernel_rfl) (by decide)
                    go_simp
                    have HP13 := Lib.hid (HP12.out.bltA (g := w12.heap.size) rfl)
                    obtain ⟨w13, HW13⟩ := nameIt (w12.alloc (.cells #[.int .i64 ma] 3))
                    rw [HW13.out] at HP13 ⊢
                    refine hK.out _ _ (fun _ => HS2.out _ HP13.out.bel) ?_
                    clear hK K
                    try simp only [Act.put, List.setIfInBounds_toArray, List.set_cons_zero, List.set_cons_succ]
                    refine wpU_one (i := 9) (by kernel_rfl) rfl (fun K hK => ?_)
                    replace inv := inv_setG (i := 9) inv (by kernel_rfl) (by decide)
                    have hx14 := HP13.out.acc
                    obtain ⟨hT14, hbx14⟩ := HP13.out.bA _ rfl
                    rw [HLAI.out] at hx14
                    refine step_appB elInt (by rfl) _ _ (by rfl) hx14 (by rfl) (by rfl) hbx14 (by rfl) (by rfl) (by omega) (by unfold maxLen; omega) HP13.out.size ?_
                    intro g14 c14 w14 ho14 hg14 hat14 hlt14
                    have HP14 := Lib.hid (HP13.out.appA (N := LA ++ [ma]) (by rw [HLAI.out]; exact ho14) hg14 (at_lies hat14) rfl)
                    clear hx14 hT14 hbx14 ho14 hg14 hat14 hlt14
                    refine hK.out _ _ (fun _ => HS2.out _ HP14.out.bel) ?_
                    clear hK K
                    try simp only [Act.put, List.setIfInBounds_toArray, List.set_cons_zero, List.set_cons_succ]
                    have HNXT := Lib.hid (HNEXT.out _ _ _ HP14.out)
                    have Z3 := (HP14.out.bel.block ob (by omega)).trans HBO.out
                    obtain ⟨y0, y1, y2⟩ := bx_cells3 Z3
                    obtain ⟨f0, f1, f2⟩ := bx_free3 Z3
                    clear Z3
                    refine wpU_one (i := 11) (by kernel_rfl) rfl (fun K hK => ?_)
                    go_simp
                    refine hK.out _ _ (fun h => absurd (show true = false from h) (by decide)) ?_
                    clear hK K
                    try simp only [Act.put, List.setIfInBounds_toArray, List.set_cons_zero, List.set_cons_succ]
                    refine wpU_one (i := 12) (by kernel_rfl) rfl (fun K hK => ?_)
                    go_simp
                    refine hK.out _ _ (fun h => absurd (show true = false from h) (by decide)) ?_
                    clear hK K
                    try simp only [Act.put, List.setIfInBounds_toArray, List.set_cons_zero, List.set_cons_succ]
                    refine wpU_one (i := 13) (by kernel_rfl) rfl (fun K hK => ?_)
                    go_simp
                    refine hK.out _ _ (fun h => absurd (show true = false from h) (by decide)) ?_
                    clear hK K
                    try simp only [Act.put, List.setIfInBounds_toArray, List.set_cons_zero, List.set_cons_succ]
                    refine wpU_done (by kernel_rfl) ?_ _
                    go_wp2_with fail
                    go_roundg (200 - (i + 1))
                    case measure => omega
                    case rel => exact ⟨i + 1, c5, X2, _, _, _, HIL.out, by omega, by omega, by go_num, by omega, HAL2, HNXT⟩
                  · replace inv := inv_setG (i := 8) inv (by kernel_rfl) (by decide)
                    go_simp
                    have HP15 := Lib.hid (HP11.out.bltA (g := w11.heap.size) rfl)
                    obtain ⟨w15, HW15⟩ := nameIt (w11.alloc (.cells #[.int .i64 ma] 3))
                    rw [HW15.out] at HP15 ⊢
                    refine hK.out _ _ (fun _ => HS2.out _ HP15.out.bel) ?_
                    clear hK K
                    try simp only [Act.put, List.setIfInBounds_toArray, List.set_cons_zero, List.set_cons_succ]
                    refine wpU_one (i := 4) (by kernel_rfl) rfl (fun K hK => ?_)
                    replace inv := inv_setG (i := 4) inv (by kernel_rfl) (by decide)
                    obtain ⟨xs16, hx16, hy16⟩ := HP15.out.rows
                    obtain ⟨hT16, v16, hv16, hbx16⟩ := HP15.out.bB _ rfl
                    cases hv16
                    rw [HLRI.out] at hx16
                    refine step_appB elIntsP (by rfl) _ _ (by rfl) hx16 (by rfl) (by rfl) hbx16 (by rfl) (by rfl) (by omega) (by unfold maxLen; omega) HP15.out.size ?_
                    intro g16 c16 w16 ho16 hg16 hat16 hlt16
                    have HP16 := Lib.hid (HP15.out.appR (N := LR ++ [NR]) hy16 (by rw [HLRI.out]; exact ho16) hg16 (at_lies hat16) rfl)
                    clear hx16 hy16 hT16 hbx16 ho16 hg16 hat16 hlt16
                    refine hK.out _ _ (fun _ => HS2.out _ HP16.out.bel) ?_
                    clear hK K
                    try simp only [Act.put, List.setIfInBounds_toArray, List.set_cons_zero, List.set_cons_succ]
                    refine wpU_take (i := 10) (v := .pointer (some ⟨ob, 0 + 2, none⟩)) rfl inv (by kernel_rfl) (by kernel_rfl) (by decide) (by decide) (by kernel_rfl) (by kernel_rfl) (by kernel_rfl) (fun _ _ _ h => h) (Or.inl ⟨by rfl, fun w' hw' => ?_⟩) (HS2.out _ HP16.out.bel) (fun inv => ?_)
                    · obtain ⟨h0, h1⟩ := hw'
                      go_simp
                    try simp only [Act.put, List.setIfInBounds_toArray, List.set_cons_zero, List.set_cons_succ]
                    refine wpU_one (i := 9) (by kernel_rfl) rfl (fun K hK => ?_)
                    replace inv := inv_setG (i := 9) inv (by kernel_rfl) (by decide)
                    have hx17 := HP16.out.acc
                    obtain ⟨hT17, hbx17⟩ := HP16.out.bA _ rfl
                    rw [HLAI.out] at hx17
                    refine step_appB elInt (by rfl) _ _ (by rfl) hx17 (by rfl) (by rfl) hbx17 (by rfl) (by rfl) (by omega) (by unfold maxLen; omega) HP16.out.size ?_
                    intro g17 c17 w17 ho17 hg17 hat17 hlt17
                    have HP17 := Lib.hid (HP16.out.appA (N := LA ++ [ma]) (by rw [HLAI.out]; exact ho17) hg17 (at_lies hat17) rfl)
                    clear hx17 hT17 hbx17 ho17 hg17 hat17 hlt17
                    refine hK.out _ _ (fun _ => HS2.out _ HP17.out.bel) ?_
                    clear hK K
                    try simp only [Act.put, List.setIfInBounds_toArray, List.set_cons_zero, List.set_cons_succ]
                    have HNXT := Lib.hid (HNEXT.out _ _ _ HP17.out)
                    have Z3 := (HP17.out.bel.block ob (by omega)).trans HBO.out
                    obtain ⟨y0, y1, y2⟩ := bx_cells3 Z3
                    obtain ⟨f0, f1, f2⟩ := bx_free3 Z3
                    clear Z3
                    refine wpU_one (i := 11) (by kernel_rfl) rfl (fun K hK => ?_)
                    go_simp
                    refine hK.out _ _ (fun h => absurd (show true = false from h) (by decide)) ?_
                    clear hK K
                    try simp only [Act.put, List.setIfInBounds_toArray, List.set_cons_zero, List.set_cons_succ]
                    refine wpU_one (i := 12) (by kernel_rfl) rfl (fun K hK => ?_)
                    go_simp
                    refine hK.out _ _ (fun h => absurd (show true = false from h) (by decide)) ?_
                    clear hK K
                    try simp only [Act.put, List.setIfInBounds_toArray, List.set_cons_zero, List.set_cons_succ]
                    refine wpU_one (i := 13) (by kernel_rfl) rfl (fun K hK => ?_)
                    go_simp
                    refine hK.out _ _ (fun h => absurd (show true = false from h) (by decide)) ?_
                    clear hK K
                    try simp only [Act.put, List.setIfInBounds_toArray, List.set_cons_zero, List.set_cons_succ]
                    refine wpU_done (by kernel_rfl) ?_ _
                    go_wp2_with fail
                    go_roundg (200 - (i + 1))
                    case measure => omega
                    case rel => exact ⟨i + 1, c5, X2, _, _, _, HIL.out, by omega, by omega, by go_num, by omega, HAL2, HNXT⟩
                · replace inv := inv_setG (i := 8) inv (by kernel_rfl) (by decide)
                  go_simp
                  have HP18 := Lib.hid ((HPI.out.bltA (g := w5.heap.size) rfl).keep (Below.refl _ _).drew)
                  obtain ⟨w18, HW18⟩ := nameIt (w5.alloc (.cells #[.int .i64 ma] 3)).drew
                  rw [HW18.out] at HP18 ⊢
                  refine hK.out _ _ (fun _ => HS2.out _ HP18.out.bel) ?_
                  clear hK K
                  try simp only [Act.put, List.setIfInBounds_toArray, List.set_cons_zero, List.set_cons_succ]
                  refine wpU_one (i := 3) (by kernel_rfl) rfl (fun K hK => ?_)
                  replace inv := inv_setG (i := 3) inv (by kernel_rfl) (by decide)
                  go_simp
                  have HP19 := Lib.hid (HP18.out.bltB (g := w18.heap.size) rfl)
                  obtain ⟨w19, HW19⟩ := nameIt (w18.alloc (.cells #[.slice (some ⟨g9, 0, none⟩) k k] 22))
                  rw [HW19.out] at HP19 ⊢
                  refine hK.out _ _ (fun _ => HS2.out _ HP19.out.bel) ?_
                  clear hK K
                  try simp only [Act.put, List.setIfInBounds_toArray, List.set_cons_zero, List.set_cons_succ]
                  refine wpU_one (i := 4) (by kernel_rfl) rfl (fun K hK => ?_)
                  replace inv := inv_setG (i := 4) inv (by kernel_rfl) (by decide)
                  obtain ⟨xs20, hx20, hy20⟩ := HP19.out.rows
                  obtain ⟨hT20, v20, hv20, hbx20⟩ := HP19.out.bB _ rfl
                  cases hv20
                  rw [HLRI.out] at hx20
                  refine step_appB elIntsP (by rfl) _ _ (by rfl) hx20 (by rfl) (by rfl) hbx20 (by rfl) (by rfl) (by omega) (by unfold maxLen; omega) HP19.out.size ?_
                  intro g20 c20 w20 ho20 hg20 hat20 hlt20
                  have HP20 := Lib.hid (HP19.out.appR (N := LR ++ [NR]) hy20 (by rw [HLRI.out]; exact ho20) hg20 (at_lies hat20) rfl)
                  clear hx20 hy20 hT20 hbx20 ho20 hg20 hat20 hlt20
                  refine hK.out _ _ (fun _ => HS2.out _ HP20.out.bel) ?_
                  clear hK K
                  try simp only [Act.put, List.setIfInBounds_toArray, List.set_cons_zero, List.set_cons_succ]
                  refine wpU_take (i := 10) (v := .pointer (some ⟨ob, 0 + 2, none⟩)) rfl inv (by kernel_rfl) (by kernel_rfl) (by decide) (by decide) (by kernel_rfl) (by kernel_rfl) (by kernel_rfl) (fun _ _ _ h => h) (Or.inl ⟨by rfl, fun w' hw' => ?_⟩) (HS2.out _ HP20.out.bel) (fun inv => ?_)
                  · obtain ⟨h0, h1⟩ := hw'
                    go_simp
                  try simp only [Act.put, List.setIfInBounds_toArray, List.set_cons_zero, List.set_cons_succ]
                  refine wpU_one (i := 9) (by kernel_rfl) rfl (fun K hK => ?_)
                  replace inv := inv_setG (i := 9) inv (by kernel_rfl) (by decide)
                  have hx21 := HP20.out.acc
                  obtain ⟨hT21, hbx21⟩ := HP20.out.bA _ rfl
                  rw [HLAI.out] at hx21
                  refine step_appB elInt (by rfl) _ _ (by rfl) hx21 (by rfl) (by rfl) hbx21 (by rfl) (by rfl) (by omega) (by unfold maxLen; omega) HP20.out.size ?_
                  intro g21 c21 w21 ho21 hg21 hat21 hlt21
                  have HP21 := Lib.hid (HP20.out.appA (N := LA ++ [ma]) (by rw [HLAI.out]; exact ho21) hg21 (at_lies hat21) rfl)
                  clear hx21 hT21 hbx21 ho21 hg21 hat21 hlt21
                  refine hK.out _ _ (fun _ => HS2.out _ HP21.out.bel) ?_
                  clear hK K
                  try simp only [Act.put, List.setIfInBounds_toArray, List.set_cons_zero, List.set_cons_succ]
                  have HNXT := Lib.hid (HNEXT.out _ _ _ HP21.out)
                  have Z3 := (HP21.out.bel.block ob (by omega)).trans HBO.out
                  obtain ⟨y0, y1, y2⟩ := bx_cells3 Z3
                  obtain ⟨f0, f1, f2⟩ := bx_free3 Z3
                  clear Z3
                  refine wpU_one (i := 11) (by kernel_rfl) rfl (fun K hK => ?_)
                  go_simp
                  refine hK.out _ _ (fun h => absurd (show true = false from h) (by decide)) ?_
                  clear hK K
                  try simp only [Act.put, List.setIfInBounds_toArray, List.set_cons_zero, List.set_cons_succ]
                  refine wpU_one (i := 12) (by kernel_rfl) rfl (fun K hK => ?_)
                  go_simp
                  refine hK.out _ _ (fun h => absurd (show true = false from h) (by decide)) ?_
                  clear hK K
                  try simp only [Act.put, List.setIfInBounds_toArray, List.set_cons_zero, List.set_cons_succ]
                  refine wpU_one (i := 13) (by kernel_rfl) rfl (fun K hK => ?_)
                  go_simp
                  refine hK.out _ _ (fun h => absurd (show true = false from h) (by decide)) ?_
                  clear hK K
                  try simp only [Act.put, List.setIfInBounds_toArray, List.set_cons_zero, List.set_cons_succ]
                  refine wpU_done (by kernel_rfl) ?_ _
                  go_wp2_with fail
                  go_roundg (200 - (i + 1))
                  case measure => omega
                  case rel => exact ⟨i + 1, c5, X2, _, _, _, HIL.out, by omega, by omega, by go_num, by omega, HAL2, HNXT⟩
        · have hlt' : ¬ (i : Int) < (L : Int) := by omega
          obtain rfl : i = L := by omega
          have hed := rowsA_end (f := f) (T := T) (k := k) (A0 := A0) (n := 200) (i := i) (by rw [HL.out]; exact Nat.le_refl _) hin
          have hde := discA_end (f := f) (T := T) (k := k) (A0 := A0) (i := i) (j := 200) (by rw [HL.out]; exact Nat.le_refl _) hin
          have HHP := HPS.out
          rw [hed.1, hed.2, hde] at HHP
          have HHPS := Lib.hid HHP
          obtain ⟨xs1, o1, -⟩ := HC.out.px.rows
          obtain ⟨aR, cR, rfl, -, -⟩ := own_len o1
          obtain ⟨aA, cA', rfl, -, -⟩ := own_len HC.out.px.acc
          have hbo := HC.out.bxo
          have HFIN := Lib.hid (fun (w3 : World) (hg : wo.grownBy w3 (some w.heap.size)) => ClI.fin (c' := c + 800000) HC.out (by omega) HZZ.out w3 hg)
          rw [HHPS.out] at HFIN
          obtain ⟨kR, HKR⟩ := nameIt (rowsA f T k A0 i).length
          obtain ⟨kA, HKA⟩ := nameIt (accsA f T k A0 i).length
          rw [HKR.out, HKA.out] at hbo HFIN
          obtain ⟨y0, y1, y2⟩ := bx_cells3 hbo
          have hrx := HC.out.rbx
          have HRX := Lib.hid hrx
          obtain ⟨z0, z1, z2⟩ := bx_cells3 hrx
          obtain ⟨f0, f1, f2⟩ := bx_free3 hrx
          clear hed hde HHP hbo hrx o1
          go_wp2_with fail
          obtain ⟨j0, j1, j2⟩ := bx_cells3 (bx_set3 HRX.out (.int .i64 0) (.slice aA kA cA') (.slice aR kR cR))
          refine bodyPost_ret (v := .tuple #[.agg #[.int .i64 0, .slice aA kA cA', .slice aR kR cR], .bool true]) (by simp [results, Try.results17, go_sem, j0, j1, j2]) rfl ?_
          exact HFIN.out _ (grown_box3 w.heap.size wo _ _ _)
end Cl
end Go.Proofs.Ytclpmmbclgihbaa
namespace Go.Proofs.Ytclpmmbclgihbaa
open Go.RowKit
namespace Df
open Km

theorem strKm : Go.Maps.Keyed Try.prog 9 := Go.Maps.string_keyed Try.underlying9
/-- what number leaves: the new row in block np, the two boxes stored -/
def NumPost (n : Nat) (M : Nat → Bool) (k : Nat → List UInt8) (pb cb : Nat) (w : World) (e : Ending) (w' : World) : Prop :=
  ∃ (np : Nat) (w1 : World), e = .returned (.tuple #[]) ∧ w' = (w1.setCell ⟨pb, 0, none⟩ (.slice (some ⟨np, 0, none⟩) n n)).setCell ⟨cb, 0, none⟩ (.int .i64 ((seenTo M k n).length : Int)) ∧ Below w.heap.size w w1 ∧ w.heap.size ≤ np ∧ Vrow 3 np n (fun i => .int .i64 (numP M k n i)) w1
/-- the function of keys -/
def KeyFn (fn : Nat) (lb : Array Value) (n : Nat) (M : Nat → Bool) (k : Nat → List Int) (w : World) : Prop := ∀ W s, s < n → M s = true → Below w.heap.size w W → Calls Try.prog fn (#[.int .i64 (s : Int)] ++ lb) W (KeyPost (k s) W)
set_option maxHeartbeats 4000000 in
set_option maxRecDepth 100000 in
theorem numberE (fn : Nat) (lb : Array Value) (n : Nat) (hn : n ≤ 1000) (M : Nat → Bool) (kk : Nat → List Int) (hkl : ∀ s, (kk s).length ≤ 1000) (pb lvb cb lg : Nat) (po : Option Addr) (cv : Value) (w : World) (eg : ∀ args w, (callFunc fn args).run Try.prog w = .ok (.enter fn args) w)
    (hf : KeyFn fn lb n M kk w) (hp : w.heap[pb]? = some (.cells #[.slice po n n] 22 (0, 0))) (hl : w.heap[lvb]? = some (.cells #[.slice (some ⟨lg, 0, none⟩) n n] 65 (0, 0)))
    (hc : w.heap[cb]? = some (.cells #[cv] 3 (0, 0))) (hpc : pb ≠ cb) (hV : Vrow 4 lg n (fun s => .bool (M s)) w) :
    Calls Try.prog 39 #[.func (.func fn) #[] lb, .pointer (some ⟨pb, 0, none⟩), .pointer (some ⟨lvb, 0, none⟩), .pointer (some ⟨cb, 0, none⟩)] w (NumPost n M (fun s => u8b (kk s)) pb cb w) := by
  obtain ⟨k, HKK⟩ : ∃ k : Nat → List UInt8, Hid ((fun s => u8b (kk s)) = k) := ⟨_, rfl⟩
  have HKS : Hid (∀ s, k s = u8b (kk s)) := fun s => by rw [← HKK.out]
  have HKL : Hid (∀ s, (k s).length ≤ 1000) := fun s => by rw [HKS.out, u8b, List.length_map]; exact hkl s
  rw [HKK.out]
  have hmk : ∀ W : World, (Instr.makeMap 41 none).run Try.prog W = .ok (.map (some W.heap.size)) (W.alloc (.map #[] 0)) := fun W => by
    simp [Instr.makeMap, run_underlying Try.underlying41]; try rfl
  have hms : ∀ W : World, (Instr.makeSlice 22 (.int .i64 (n : Int)) (.int .i64 (n : Int))).run Try.prog W = .ok (.slice (some ⟨W.heap.size, 0, none⟩) n n) (W.alloc (.cells (madeCells #[.int .i64 0] n) 3)) := fun W => by
    have := run_make_row' (P := Try.prog) 22 3 (.int .i64 0) 8 Try.underlying22 (by kernel_rfl) rfl .i64 .i64 n (by omega) (by omega) W
    simpa using this
  obtain ⟨mb, HMB⟩ := nameIt w.heap.size
  obtain ⟨w0, HW0⟩ := nameIt (w.alloc (.map #[] 0))
  have hb0 : Below w.heap.size w w0 := by rw [← HW0.out]; exact (Below.refl _ _).alloc (Nat.le_refl _) _
  obtain ⟨np, HNP⟩ := nameIt w0.heap.size
  have HNPM : Hid (mb < np) := by show _ < _; rw [← HNP.out, ← HW0.out, ← HMB.out]; simp
  obtain ⟨w1, HW1⟩ := nameIt (w0.alloc (.cells (madeCells #[.int .i64 0] n) 3))
  have hb01 : Below w0.heap.size w0 w1 := by rw [← HW1.out]; exact (Below.refl _ _).alloc (Nat.le_refl _) _
  have hb1 : Below w.heap.size w w1 := hb0.trans (hb01.mono hb0.size)
  have HM1 : Hid (KMap 9 3 mb (FS (seenTo M k 0)) (seenTo M k 0).length w1) := by
    have h : KMap 9 3 mb (fun _ => none) 0 w0 := by rw [← HW0.out]; exact KMap.start w HMB.out.symm
    have h2 := h.keep hb01
    show KMap _ _ _ (FS []) 0 _
    rw [fS_nil]; exact h2
  have HR1 : Hid (Vrow 3 np n (fun i => .int .i64 (if i < 0 then numP M k n i else 0)) w1) := by
    rw [← HW1.out]
    exact (vrow_new w0 _ _ n HNP.out.symm).eq fun i _ => by simp
  have HB1 := Lib.hid hb1
  unfold KeyFn at hf
  have HF := Lib.hid hf
  have HP0 := Lib.hid hp
  have HL0 := Lib.hid hl
  have HC0 := Lib.hid hc
  have HV0 := Lib.hid hV
  have HNM : Hid (w.heap.size ≤ np) := by show _ ≤ _; rw [HMB.out]; have := HNPM.out; omega
  have HPC := Lib.hid hpc
  obtain ⟨PST, HPS⟩ := nameIt (NumPost n M k pb cb w)
  have HFIN : Hid (∀ w2, Below w.heap.size w w2 → Vrow 3 np n (fun i => .int .i64 (numP M k n i)) w2 → PST (.returned (.tuple #[])) ((w2.setCell ⟨pb, 0, none⟩ (.slice (some ⟨np, 0, none⟩) n n)).setCell ⟨cb, 0, none⟩ (.int .i64 ((seenTo M k n).length : Int)))) := by
    intro w2 h1 h2
    rw [← HPS.out]
    exact ⟨np, w2, rfl, rfl, h1, HNM.out, h2⟩
  rw [HPS.out]
  have hp0 := bx_cells1 (bx_keep hp hb0)
  have hp1 := bx_cells1 (bx_keep hp hb1)
  clear hb0 hb01 hb1 hf hp hl hc hV hpc HPS hkl
  go_enter Try.func39, Try.ntmps39
  go_upto_region 1 with fail
  rw [HW0.out, HMB.out]
  go_upto_region 2 with fail
  rw [HW1.out, HNP.out]
  go_wp2_with fail
  go_loopg [7, 8, 9, 10, 17] n (fun gg v7 v8 v9 v10 v17 wr => ∃ s : Nat, s ≤ n ∧ n - s ≤ gg ∧ v17 = .int .i64 s ∧ Hid (KMap 9 3 mb (FS (seenTo M k s)) (seenTo M k s).length wr) ∧ Hid (Vrow 3 np n (fun i => .int .i64 (if i < s then numP M k n i else 0)) wr) ∧ Hid (Below w.heap.size w wr))
  case atStart => exact ⟨0, by omega, by omega, rfl, HM1, HR1, HB1⟩
  case round =>
    clear HM1 HR1 HB1 hp0 hp1
    obtain ⟨s, hs, hg, rfl, HM, HR, HB⟩ := hrel
    obtain ⟨w2, rfl⟩ : ∃ ww : World, ww = wr := ⟨_, rfl⟩
    by_cases hlt : s < n
    · have hlt' : (s : Int) < (n : Int) := by omega
      have hs0 : (0 : Int) ≤ (s : Int) := by omega
      have q0 := HR.out.cell hlt
      have qf := HR.out.free s
      obtain ⟨w3, HW3⟩ := nameIt (w2.setCell ⟨np, s, none⟩ (.int .i64 (-1)))
      have HR3 : Hid (Vrow 3 np n (fun i => .int .i64 (if i < s then numP M k n i else if i = s then -1 else 0)) w3) := by
        rw [← HW3.out]
        refine HR.out.set hlt fun i _ => ?_
        by_cases e : i = s
        · subst e; simp
        · simp [e]
      have hb3 : Below w.heap.size w w3 := by rw [← HW3.out]; exact HB.out.setCell (p := ⟨np, s, none⟩) HNM.out _
      have HM3 : Hid (KMap 9 3 mb (FS (seenTo M k s)) (seenTo M k s).length w3) := by
        rw [← HW3.out]
        exact HM.out.setCell (by show mb ≠ np; have := HNPM.out; omega) _
      have HB3 := Lib.hid hb3
      have l0 := bx_cells1 (bx_keep HL0.out hb3)
      have l1 := (HV0.out.keep hb3).cell hlt
      have hst : seenTo M k (s + 1) = if M s = true ∧ k s ∉ seenTo M k s then seenTo M k s ++ [k s] else seenTo M k s := rfl
      have HST := Lib.hid hst
      have HNA := Lib.hid (fun h => numP_at (M := M) (k := k) hlt h)
      obtain ⟨ms, HMS⟩ := nameIt (M s)
      rw [HMS.out] at l1 HST
      clear hb3 hst
      go_upto_region 6 with fail
      rw [HW3.out]
      cases ms with
      | false =>
        have HM4 : Hid (KMap 9 3 mb (FS (seenTo M k (s + 1))) (seenTo M k (s + 1)).length w3) := by rw [HST.out]; exact HM3.out
        have HR4 : Hid (Vrow 3 np n (fun i => .int .i64 (if i < s + 1 then numP M k n i else 0)) w3) := HR3.out.eq fun i _ => by
          by_cases e : i = s
          · subst e
            have h := (numP_neg (M := M) (k := k) (n := n) (i := i)).2 HMS.out
            unfold numP
            rw [HMS.out]; simp
          · by_cases e2 : i < s
            · rw [if_pos e2, if_pos (by omega)]
            · rw [if_neg e2, if_neg e, if_neg (by omega)]
        go_wp2_with fail
        go_roundg (n - (s + 1))
        case measure => omega
        case rel => exact ⟨s + 1, by omega, by omega, by go_num, HM4, HR4, HB3⟩
      | true =>
        have hna := HNA.out HMS.out
        go_wp2_with fail
        with_reducible refine (HF.out _ s hlt HMS.out HB3.out).mono ?_
        rintro e w4 ⟨ss, rfl, hbs, hb4⟩
        rw [← HKS.out] at hbs
        have hss : ss.size ≤ maxLen := by rw [hbs.size]; have := HKL.out s; unfold maxLen; omega
        have hkey := key_string ss _ hbs hss
        have HB4 : Hid (Below w.heap.size w w4) := HB3.out.trans (hb4.mono HB3.out.size)
        have HM4 := Lib.hid (HM3.out.keep hb4)
        have HR4 := Lib.hid (HR3.out.keep hb4)
        have r0 := HR4.out.cell hlt
        have rf := HR4.out.free s
        have hlook := HM4.out.look strKm Try.underlying41 hkey
        have hlen := HM4.out.len Try.underlying41 3
        have HRF : Hid (∀ (w5 : World) (z : Int), Vrow 3 np n (fun i => .int .i64 (if i < s then numP M k n i else if i = s then -1 else 0)) w5 → z = numP M k n s → Vrow 3 np n (fun i => .int .i64 (if i < s + 1 then numP M k n i else 0)) (w5.setCell ⟨np, s, none⟩ (.int .i64 z))) := by
          intro w5 z h hz
          refine h.set hlt fun i _ => ?_
          by_cases e : i = s
          · subst e; rw [if_pos (by omega), if_pos rfl, hz]
          · rw [if_neg e]
            by_cases e2 : i < s
            · rw [if_pos e2, if_pos (by omega)]
            · rw [if_neg e2, if_neg e, if_neg (by omega)]
        by_cases hin : k s ∈ seenTo M k s
        · have hsn : seenTo M k (s + 1) = seenTo M k s := by rw [HST.out, if_neg (fun h => h.2 hin)]
          rw [hsn] at hna
          obtain ⟨e1, e2⟩ := hlook.1 ((seenTo M k s).idxOf (k s) : Int) (by simp only [FS]; rw [if_pos hin])
          rw [← hna] at e1 e2
          have HRN := HRF.out w4 (numP M k n s) HR4.out rfl
          have HMN : KMap 9 3 mb (FS (seenTo M k (s + 1))) (seenTo M k (s + 1)).length (w4.setCell ⟨np, s, none⟩ (.int .i64 (numP M k n s))) := by
            rw [hsn]; exact HM4.out.setCell (by show mb ≠ np; have := HNPM.out; omega) _
          have HBN := Lib.hid (HB4.out.setCell (p := ⟨np, s, none⟩) HNM.out (.int .i64 (numP M k n s)))
          replace HRN := Lib.hid HRN
          replace HMN := Lib.hid HMN
          obtain ⟨z, HZ⟩ := nameIt (numP M k n s)
          rw [HZ.out] at e1 e2 HRN HMN HBN
          clear hna hsn hlook hkey hbs hss hb4 hlen hin
          go_wp2_with fail
          go_roundg (n - (s + 1))
          case measure => omega
          case rel => exact ⟨s + 1, by omega, by omega, by go_num, HMN, HRN, HBN⟩
        · have hsn : seenTo M k (s + 1) = seenTo M k s ++ [k s] := by rw [HST.out, if_pos ⟨(by trivial), hin⟩]
          have e1 := hlook.2 (by simp only [FS]; rw [if_neg hin])
          have hsl := seenTo_len (M := M) (k := k) s
          obtain ⟨w5, hup, hk5, hg5⟩ := HM4.out.store strKm Try.underlying41 (by unfold maxLen; omega) hkey (velInt (n := ((seenTo M k s).length : Int)) (by simp [Lit.wf, IntKind.min, IntKind.max, IntKind.signed, IntKind.bits]; omega))
          have hk6 : KMap 9 3 mb (FS (seenTo M k (s + 1))) (seenTo M k (s + 1)).length w5 := by
            rw [show (FS (seenTo M k s) (Lit.string (k s))).isSome = false by simp only [FS]; rw [if_neg hin]; rfl] at hk5
            rw [hsn, List.length_append]
            exact hk5.eq fun l => fS_put hin l
          obtain ⟨e2, e3⟩ := (hk6.look strKm Try.underlying41 hkey).1 (numP M k n s) (by
            rw [hna]
            simp only [FS]
            rw [if_pos (by rw [hsn]; simp)])
          have hR5 := HR4.out.grown hg5 (fun e => by have := HNPM.out; simp at e; omega)
          have s0 := hR5.cell hlt
          have sf := hR5.free s
          have hb5 : Below w.heap.size w w5 := HB4.out.grown hg5 HB4.out.size (fun x e => by simp at e; have := HMB.out; omega)
          have HRN := Lib.hid (HRF.out w5 (numP M k n s) hR5 rfl)
          have HMN : Hid (KMap 9 3 mb (FS (seenTo M k (s + 1))) (seenTo M k (s + 1)).length (w5.setCell ⟨np, s, none⟩ (.int .i64 (numP M k n s)))) := hk6.setCell (by show mb ≠ np; have := HNPM.out; omega) _
          have HBN := Lib.hid (hb5.setCell (p := ⟨np, s, none⟩) HNM.out (.int .i64 (numP M k n s)))
          obtain ⟨z, HZ⟩ := nameIt (numP M k n s)
          obtain ⟨sl, HSLN⟩ := nameIt (seenTo M k s).length
          rw [HZ.out] at e3 HRN HMN HBN
          rw [HSLN.out] at hup hlen
          clear hna hsn hlook hkey hbs hss hb4 hin e2 hk5 hk6 hg5 hR5 hb5 hsl r0 rf
          go_wp2_with fail
          go_roundg (n - (s + 1))
          case measure => omega
          case rel => exact ⟨s + 1, by omega, by omega, by go_num, HMN, HRN, HBN⟩
    · obtain rfl : s = n := by omega
      have hlt' : ¬ (s : Int) < (s : Int) := by omega
      have hln := HM.out.len Try.underlying41 3
      have p1 := bx_cells1 (bx_keep HP0.out HB.out)
      have p2 := bx_free1 (bx_keep HP0.out HB.out)
      have q1 := bx_cells1 (bx_keep HC0.out HB.out)
      have q2 := bx_free1 (bx_keep HC0.out HB.out)
      have hpc := HPC.out
      have hpc2 : ¬ cb = pb := fun e => hpc e.symm
      have HE := Lib.hid (HFIN.out w2 HB.out (HR.out.eq fun i hi => by rw [if_pos hi]))
      obtain ⟨sl, HSLN⟩ := nameIt (seenTo M k s).length
      rw [HSLN.out] at hln HE
      go_wp2_with fail
      exact bodyPost_end (results_none Try.results39 _ _ _) rfl HE.out
end Df
end Go.Proofs.Ytclpmmbclgihbaa
