/- For every input the law CensusTells returns true, and its arguments read afterwards as before. No condition. -/
import Derived.Test.YtbnpemgmdnghgaaJCensusTellsRow14
import Derived.Test.YtbnpemgmdnghgaaJCensusTellsRow13
import Derived.Test.YtbnpemgmdnghgaaJCensusTellsRow19
import Derived.Test.YtbnpemgmdnghgaaJCensusTellsRow20
import Derived.Test.YtbnpemgmdnghgaaJCensusTellsRow6
import Derived.Test.YtbnpemgmdnghgaaJCensusTellsRow1
import Derived.Test.YtbnpemgmdnghgaaRows
import Derived.ChangeArms
import Derived.ChangeSame
import Derived.SizedLaws
import Derived.Deep.Slices
import Derived.Lib.SmallJoins
import Derived.OpenShut
import Derived.ChangeOld
import Derived.Carry
import Derived.JoinedCond
namespace Go.Proofs.Ytbnpemgmdnghgaa
open Go.RowKit
namespace Cs

def GramPostC (g : Gram) (w : World) (e : Ending) (w' : World) : Prop := ∃ v, e = .returned (.agg #[.int .i64 g.terms, .int .i64 g.nons, .int .i64 g.start, v]) ∧ Rd AnyB w' (.sl (g.rules.map Rule.d)) [v] ∧ Below w.heap.size w w'
def plG : Gram := ⟨2, 1, 0, [⟨0, [⟨true, 0⟩]⟩, ⟨0, [⟨true, 1⟩, ⟨false, 0⟩]⟩]⟩
set_option maxHeartbeats 1000000 in
theorem plE (w : World) : Calls Try.prog 8 #[] w (GramPostC plG w) := by
  go_enter Try.func8, Try.ntmps8
  go_wp2_with fail
  refine bodyPost_ret (v := .agg #[.int .i64 2, .int .i64 1, .int .i64 0, .slice (some ⟨w.heap.size + 1 + 1 + 1, 0, none⟩) 2 2]) (by simp [results, Try.results8, go_sem]) rfl ?_
  refine ⟨_, rfl, ?_, ((((Below.refl _ _).alloc (Nat.le_refl _) _).alloc (by simp) _).alloc (by simp; omega) _).alloc (by simp; omega) _⟩
  refine rd_of_own (own_of_block (bx_new _ _ _ (by simp)) (n := 2) (size := 2) rfl (by simp [maxLen])) ?_ rfl (fun _ _ => trivial)
  refine ⟨[.int .i64 0, .slice (some ⟨w.heap.size + 1, 0, none⟩) 1 1], [.int .i64 0, .slice (some ⟨w.heap.size + 1 + 1, 0, none⟩) 2 2], rfl, ?_, RdAll.one ?_⟩
  · refine rd_rule (r := ⟨0, [⟨true, 0⟩]⟩) ?_
    exact rd_of_own (own_of_block (bx_keep (bx_keep (bx_new _ _ _ (by simp)) ((Below.refl _ _).alloc (Nat.le_refl _) _)) ((Below.refl _ _).alloc (Nat.le_refl _) _)) (n := 1) (size := 2) rfl (by simp [maxLen])) (RdAll.one (rd_sym ⟨true, 0⟩)) rfl (fun _ _ => trivial)
  · refine rd_rule (r := ⟨0, [⟨true, 1⟩, ⟨false, 0⟩]⟩) ?_
    refine rd_of_own (own_of_block (bx_keep (bx_new _ _ _ (by simp)) ((Below.refl _ _).alloc (Nat.le_refl _) _)) (n := 2) (size := 2) rfl (by simp [maxLen])) ?_ rfl (fun _ _ => trivial)
    exact ⟨[.bool true, .int .i64 1], [.bool false, .int .i64 0], rfl, rd_sym ⟨true, 1⟩, RdAll.one (rd_sym ⟨false, 0⟩)⟩
theorem plain_fix : (p3 4 plG.rules (itP 4 plG.rules 1 (fun _ _ => false))).2 = false := by decide +kernel
theorem plain_start : startC plG (itP 4 plG.rules 1 (fun _ _ => false)) 1 4 = 1 := by decide +kernel
theorem plain_err : errC plG 4 = 0 := by decide +kernel
def CountPost (g : Gram) (n : Int) (w : World) (e : Ending) (w' : World) : Prop :=
  Below w.heap.size w w' ∧ ((errC g n ≠ 0 ∧ e = .returned (.tuple #[.int .i64 0, .int .i64 (errC g n)])) ∨
    (errC g n = 0 ∧ ∃ (N n' : Nat) (S : Nat → Nat → Bool), OkC g N ∧ n = (n' : Int) ∧ n' ≤ 24 ∧ DoneC g n' S ∧
      ((startC g S N n' = -1 ∧ e = .returned (.tuple #[.int .i64 0, .int .i64 9])) ∨
       (startC g S N n' ≠ -1 ∧ MaxC ≤ startC g S N n' ∧ e = .returned (.tuple #[.int .i64 0, .int .i64 2])) ∨
       (startC g S N n' ≠ -1 ∧ startC g S N n' < MaxC ∧ e = .returned (.tuple #[.int .i64 (startC g S N n'), .int .i64 0])))))
set_option maxHeartbeats 4000000 in
set_option maxRecDepth 100000 in
theorem rankCountE (g : Gram) (ra : Option Addr) (rcap : Nat) (n : Int) (w : World) (hr : Rd AnyB w (.sl (g.rules.map Rule.d)) [.slice ra g.rules.length rcap]) :
    Calls Try.prog 17 #[.agg #[.int .i64 g.terms, .int .i64 g.nons, .int .i64 g.start, .slice ra g.rules.length rcap], .int .i64 n] w (CountPost g n w) := by
  obtain ⟨w0, HW0⟩ := nameIt (w.alloc (.cells #[.int .i64 g.terms, .int .i64 g.nons, .int .i64 g.start, .slice ra g.rules.length rcap] 24))
  have hb0 : Below w.heap.size w w0 := by rw [← HW0.out]; exact (Below.refl _ _).alloc (Nat.le_refl _) _
  have X0 : Hid (w0.heap[w.heap.size]? = some (.cells #[.int .i64 g.terms, .int .i64 g.nons, .int .i64 g.start, .slice ra g.rules.length rcap] 24 (0, 0))) := by rw [← HW0.out]; exact bx_new _ _ _ rfl
  have HCN := Lib.hid (countE g ra rcap n w0 (hr.below hb0))
  obtain ⟨PST, HP⟩ := nameIt (CountPost g n w)
  rw [HP.out]
  have HF : Hid (∀ w', Below w0.heap.size w0 w' → ∀ x y : Int, ((errC g n ≠ 0 ∧ x = 0 ∧ y = errC g n) ∨
    (errC g n = 0 ∧ ∃ (N n' : Nat) (S : Nat → Nat → Bool), OkC g N ∧ n = (n' : Int) ∧ n' ≤ 24 ∧ DoneC g n' S ∧
      ((startC g S N n' = -1 ∧ x = 0 ∧ y = 9) ∨ (startC g S N n' ≠ -1 ∧ MaxC ≤ startC g S N n' ∧ x = 0 ∧ y = 2) ∨ (startC g S N n' ≠ -1 ∧ startC g S N n' < MaxC ∧ x = startC g S N n' ∧ y = 0)))) → PST (.returned (.tuple #[.int .i64 x, .int .i64 y])) w') := by
    intro w' h x y hh
    rw [← HP.out]
    refine ⟨hb0.trans (h.mono hb0.size), ?_⟩
    rcases hh with ⟨h1, rfl, rfl⟩ | ⟨h1, N, n', S, h2, h3, h4, h5, ⟨h6, rfl, rfl⟩ | ⟨h6, h7, rfl, rfl⟩ | ⟨h6, h7, rfl, rfl⟩⟩
    · exact .inl ⟨h1, rfl⟩
    · exact .inr ⟨h1, N, n', S, h2, h3, h4, h5, .inl ⟨h6, rfl⟩⟩
    · exact .inr ⟨h1, N, n', S, h2, h3, h4, h5, .inr (.inl ⟨h6, h7, rfl⟩)⟩
    · exact .inr ⟨h1, N, n', S, h2, h3, h4, h5, .inr (.inr ⟨h6, h7, rfl⟩)⟩
  obtain ⟨gt, HGT⟩ := nameIt g.terms
  obtain ⟨gn, HGN⟩ := nameIt g.nons
  obtain ⟨gs, HGS⟩ := nameIt g.start
  obtain ⟨rl, HRL⟩ := nameIt g.rules.length
  rw [HGT.out, HGN.out, HGS.out, HRL.out] at HW0 X0 HCN
  rw [HGT.out, HGN.out, HGS.out, HRL.out]
  obtain ⟨x0, x1, x2, x3⟩ := bx_cells4 X0.out
  clear hb0 hr HP
  go_enter Try.func17, Try.ntmps17
  go_upto_region 1 with fail
  rw [HW0.out]
  go_wp2_with fail
  with_reducible refine HCN.out.mono ?_
  clear x0 x1 x2 x3
  rintro e w1 ⟨hb1, ⟨h1, rfl⟩ | ⟨h1, N, n', S, h2, h3, h4, h5, ⟨h6, rfl⟩ | ⟨h6, h7, rfl⟩ | ⟨h6, h7, d, w2, rfl, -, -⟩⟩⟩
  · have HE := Lib.hid (HF.out w1 hb1 _ _ (.inl ⟨h1, rfl, rfl⟩))
    obtain ⟨c, HC⟩ := nameIt (errC g n)
    rw [HC.out] at HE
    rw [HC.out]
    clear hb1 h1 HF
    go_wp2_with fail
    first | exact HE.out | (refine bodyPost_ret (results_tmp2 Try.results17 _ _ _) rfl ?_; exact HE.out)
  · have HE := Lib.hid (HF.out w1 hb1 _ _ (.inr ⟨h1, N, n', S, h2, h3, h4, h5, .inl ⟨h6, rfl, rfl⟩⟩))
    clear hb1 h1 h2 h3 h4 h5 h6 HF
    go_wp2_with fail
    first | exact HE.out | (refine bodyPost_ret (results_tmp2 Try.results17 _ _ _) rfl ?_; exact HE.out)
  · have HE := Lib.hid (HF.out w1 hb1 _ _ (.inr ⟨h1, N, n', S, h2, h3, h4, h5, .inr (.inl ⟨h6, h7, rfl, rfl⟩)⟩))
    clear hb1 h1 h2 h3 h4 h5 h6 h7 HF
    go_wp2_with fail
    first | exact HE.out | (refine bodyPost_ret (results_tmp2 Try.results17 _ _ _) rfl ?_; exact HE.out)
  · have HE := Lib.hid (HF.out w1 hb1 _ _ (.inr ⟨h1, N, n', S, h2, h3, h4, h5, .inr (.inr ⟨h6, h7, rfl, rfl⟩)⟩))
    obtain ⟨c, HC⟩ := nameIt (startC g S N n')
    rw [HC.out] at HE
    rw [HC.out]
    clear hb1 h1 h2 h3 h4 h5 h6 h7 HF
    go_wp2_with fail
    first | exact HE.out | (refine bodyPost_ret (results_tmp2 Try.results17 _ _ _) rfl ?_; exact HE.out)
/-- at the plain grammar -/
theorem countPlainE (ra : Option Addr) (rcap : Nat) (w : World) (hr : Rd AnyB w (.sl (plG.rules.map Rule.d)) [.slice ra plG.rules.length rcap]) :
    Calls Try.prog 17 #[.agg #[.int .i64 2, .int .i64 1, .int .i64 0, .slice ra 2 rcap], .int .i64 4] w (fun e w' => e = .returned (.tuple #[.int .i64 1, .int .i64 0]) ∧ Below w.heap.size w w') := by
  refine (rankCountE plG ra rcap 4 w hr).mono ?_
  rintro e w' ⟨hb, ⟨h1, _⟩ | ⟨h1, N, n', S, h2, h3, h4, h5, h6⟩⟩
  · exact absurd plain_err h1
  · obtain rfl : n' = 4 := by omega
    obtain rfl : N = 1 := by have := h2.nons; simp [plG] at this; omega
    obtain ⟨⟨q, hq⟩, hp⟩ := h5
    have hS := done_eq (p := 1) (N := 1) (fun r hr => (h2.l r hr).2) hq hp plain_fix
    rw [hS, plain_start] at h6
    rcases h6 with ⟨h6, _⟩ | ⟨_, h6, _⟩ | ⟨_, _, he⟩
    · cases h6
    · exact absurd h6 (by decide)
    · exact ⟨he, hb⟩
end Cs
end Go.Proofs.Ytbnpemgmdnghgaa
namespace Go.Proofs.Ytbnpemgmdnghgaa
open Go.RowKit
namespace Cs

set_option maxHeartbeats 4000000 in
set_option maxRecDepth 100000 in
theorem equalTabs (L : List (List Int)) (a a' : Option Addr) (c c' : Nat) (w : World) (h : Rd AnyB w (.sl (L.map D.ints)) [.slice a L.length c]) (h' : Rd AnyB w (.sl (L.map D.ints)) [.slice a' L.length c']) :
    Calls Try.prog 12 #[.slice a L.length c, .slice a' L.length c', .func (.func 13) #[] #[]] w fun e w' => e = .returned (.bool true) ∧ Below w.heap.size w w' := by
  have hc := h.bounds.2
  unfold maxLen at hc
  obtain ⟨hc1, hc2⟩ := hc
  have H1 := Lib.hid h
  have H2 := Lib.hid h'
  have eg : ∀ args w, (callFunc 13 args).run Try.prog w = .ok (.enter 13 args) w := fun _ _ => by kernel_rfl
  obtain ⟨n, HN⟩ := nameIt L.length
  rw [HN.out] at H1 H2 hc1
  rw [HN.out]
  clear h h'
  go_enter Try.func12, Try.ntmps12
  go_wp2_with fail
  go_loopg [17] n (fun gg v17 wr => ∃ i : Nat, i ≤ n ∧ n - i ≤ gg ∧ v17 = .int .i64 i ∧ Hid (Below w.heap.size w wr))
  case atStart => exact ⟨0, by omega, by omega, rfl, Below.refl _ _⟩
  case round =>
    obtain ⟨i, hi, hg, rfl, HB⟩ := hrel
    obtain ⟨w1, rfl⟩ : ∃ ww : World, ww = wr := ⟨_, rfl⟩
    by_cases hlt : i < n
    · have hlt' : (i : Int) < (n : Int) := by omega
      have hi0 : (0 : Int) ≤ (i : Int) := by omega
      have hix : i < L.length := by rw [HN.out]; exact hlt
      obtain ⟨b, off, v, hae, c0, hsl⟩ := rowI_at (H1.out.below HB.out) hix
      obtain ⟨b', off', v', hae', c1, hsl'⟩ := rowI_at (H2.out.below HB.out) hix
      have HEQ := Lib.hid (fun W (hb : Below w1.heap.size w1 W) => equal v v' L[i] L[i] W (hsl.keep hb) (hsl'.keep hb))
      simp only [beq_self_eq_true] at HEQ
      obtain ⟨a0, k0, rfl⟩ := hsl.form
      obtain ⟨a1, k1, rfl⟩ := hsl'.form
      obtain ⟨m, HM⟩ := nameIt (ints L[i]).length
      rw [HM.out] at c0 c1 HEQ
      subst hae hae'
      clear hsl hsl'
      go_wp2_with fail
      refine (HEQ.out _ (Below.refl _ _)).mono ?_
      rintro e w2 ⟨rfl, hb2⟩
      have HB2 := Lib.hid (HB.out.trans (hb2.mono HB.out.size))
      clear hb2 c0 c1
      go_wp2_with fail
      go_roundg (n - (i + 1))
      case measure => omega
      case rel => exact ⟨i + 1, by omega, by omega, by go_num, HB2⟩
    · have hlt' : ¬ (i : Int) < (n : Int) := by omega
      go_wp2_with fail
      go_ret
      exact ⟨rfl, HB.out⟩
theorem plain_fix3 : (p3 3 plG.rules (itP 3 plG.rules 1 (fun _ _ => false))).2 = false := by decide +kernel
theorem plain_tot3 : totV (rowC plG (itP 3 plG.rules 1 (fun _ _ => false)) 1 3 0 4) 0 = 3 := by decide +kernel
theorem plain_err3 : errC plG 3 = 0 := by decide +kernel
theorem totalPlainE (ra : Option Addr) (rcap : Nat) (w : World) (hr : Rd AnyB w (.sl (plG.rules.map Rule.d)) [.slice ra plG.rules.length rcap]) :
    Calls Try.prog 7 #[.agg #[.int .i64 2, .int .i64 1, .int .i64 0, .slice ra 2 rcap], .int .i64 3] w (fun e w' => e = .returned (.tuple #[.int .i64 3, .int .i64 0]) ∧ Below w.heap.size w w') := by
  refine (totalE plG ra rcap 3 w hr).mono ?_
  rintro e w' ⟨hb, ⟨h1, _⟩ | ⟨h1, N, n', S, h2, h3, h4, h5, h6⟩⟩
  · exact absurd plain_err3 h1
  · obtain rfl : n' = 3 := by omega
    obtain rfl : N = 1 := by have := h2.nons; simp [plG] at this; omega
    obtain ⟨⟨q, hq⟩, hp⟩ := h5
    have hS := done_eq (p := 1) (N := 1) (fun r hr => (h2.l r hr).2) hq hp plain_fix3
    rw [hS, show plG.start.toNat = 0 from rfl, plain_tot3] at h6
    exact ⟨h6, hb⟩
theorem errC_ok {g : Gram} {n : Int} (h : checkG g ≠ 0) : errC g n ≠ 0 := by
  unfold errC
  rw [if_pos h]; exact h
theorem vrow_sl {N p : Nat} {X : Nat → Int} {w : World} (hN : N ≤ 10) (h : Vrow 3 p N (fun A => .int .i64 (X A)) w) : Sl w (.slice (some ⟨p, 0, none⟩) N N) (ints ((List.range N).map X)) := by
  refine ⟨some ⟨p, 0, none⟩, N, by simp [ints], by simp [ints], by unfold maxLen; omega, (fun h => by cases h), fun i hi => ⟨_, rfl, ?_⟩⟩
  have hiN : i < N := by simpa [ints] using hi
  have e : (⟨p, 0, none⟩ : Addr).add i = ⟨p, i, none⟩ := by unfold Addr.add; by_cases e : i = 0 <;> simp [e]
  rw [e, h.cell hiN]
  simp [ints]
/-- the two totals -/
theorem tot_same {g : Gram} {N n' : Nat} {S : Nat → Nat → Bool} {F : Nat → Nat → Int} (hst : g.start.toNat < N) (h : tabF F N (n' + 1) = tabC g S N n' N) : totV (rowC g S N n' g.start.toNat (n' + 1)) 0 = totV ((List.range (n' + 1)).map (F g.start.toNat)) 0 := by
  have h2 : (tabF F N (n' + 1))[g.start.toNat]? = (tabC g S N n' N)[g.start.toNat]? := by rw [h]
  simp [tabF, tabC, hst] at h2
  rw [← h2]
def TwPost (e : Ending) (w w' : World) : Prop := e = .returned (.bool true) ∧ Below w.heap.size w w'
set_option maxHeartbeats 8000000 in
set_option maxRecDepth 100000 in
theorem lawCT (g : Gram) (vr : Value) (n : Int) (w : World) (hr : Rd AnyB w (.sl (g.rules.map Rule.d)) [vr]) :
    Calls Try.prog 3 #[.agg #[.int .i64 g.terms, .int .i64 g.nons, .int .i64 g.start, vr], .int .i64 n] w fun e w' => e = .returned (.bool true) ∧ Below w.heap.size w w' := by
  obtain ⟨ra, rcap, rfl, hrc1, hrc2⟩ := hr.form
  rw [List.length_map] at hr hrc1
  rw [List.length_map]
  unfold maxLen at hrc2
  obtain ⟨w0, HW0⟩ := nameIt (w.alloc (.cells #[.int .i64 g.terms, .int .i64 g.nons, .int .i64 g.start, .slice ra g.rules.length rcap] 24))
  have hb0 : Below w.heap.size w w0 := by rw [← HW0.out]; exact (Below.refl _ _).alloc (Nat.le_refl _) _
  have X0 : Hid (w0.heap[w.heap.size]? = some (.cells #[.int .i64 g.terms, .int .i64 g.nons, .int .i64 g.start, .slice ra g.rules.length rcap] 24 (0, 0))) := by rw [← HW0.out]; exact bx_new _ _ _ rfl
  have HR := Lib.hid (hr.below hb0)
  have HPL := Lib.hid (fun W => plE W)
  have HTR : Hid (∀ W, Below w0.heap.size w0 W → Calls Try.prog 9 #[.agg #[.int .i64 g.terms, .int .i64 g.nons, .int .i64 g.start, .slice ra g.rules.length rcap], .int .i64 n] W (TreesPost g n W)) := fun W hb => treesE g ra rcap n W (HR.out.below hb)
  have HCE : Hid (∀ W, Below w0.heap.size w0 W → Calls Try.prog 10 #[.agg #[.int .i64 g.terms, .int .i64 g.nons, .int .i64 g.start, .slice ra g.rules.length rcap], .int .i64 n] W (CensusPost g n W)) := fun W hb => census_ok g ra rcap n W (HR.out.below hb)
  have HTO : Hid (∀ W, Below w0.heap.size w0 W → Calls Try.prog 7 #[.agg #[.int .i64 g.terms, .int .i64 g.nons, .int .i64 g.start, .slice ra g.rules.length rcap], .int .i64 n] W (TotalPost g n W)) := fun W hb => totalE g ra rcap n W (HR.out.below hb)
  have HTQ : Hid (∀ W, Below w0.heap.size w0 W → Calls Try.prog 11 #[.agg #[.int .i64 g.terms, .int .i64 g.nons, .int .i64 g.start, .slice ra g.rules.length rcap], .int .i64 n] W (TotalRPost g n W)) := fun W hb => totalRE g ra rcap n W (HR.out.below hb) (census_ok g)
  have HLS : Hid (∀ W, Below w0.heap.size w0 W → Calls Try.prog 14 #[.agg #[.int .i64 g.terms, .int .i64 g.nons, .int .i64 g.start, .slice ra g.rules.length rcap]] W (LnsPost g W)) := fun W hb => leastE g ra rcap W (HR.out.below hb)
  have HRF : Hid (∀ W, Below w0.heap.size w0 W → Calls Try.prog 15 #[.agg #[.int .i64 g.terms, .int .i64 g.nons, .int .i64 g.start, .slice ra g.rules.length rcap]] W fun e w' => e = .returned (.int .i64 (checkG g)) ∧ Below W.heap.size W w') := fun W hb => ruleFault g ra rcap W (HR.out.below hb)
  have HSH : Hid (∀ N, checkG g = 0 → OkC g N → ∀ W, Below w0.heap.size w0 W → Calls Try.prog 16 #[.agg #[.int .i64 g.terms, .int .i64 g.nons, .int .i64 g.start, .slice ra g.rules.length rcap]] W (LnPost g.rules N W)) := fun N h hok W hb => shortestE g N hok (fun r hr => ((checkG_zero h).2.2 r hr).2.2.1) ra rcap W (HR.out.below hb)
  have HER := Lib.hid (errC_ok (g := g) (n := n))
  obtain ⟨PST, HP⟩ := nameIt (fun (e : Ending) (w' : World) => e = .returned (.bool true) ∧ Below w.heap.size w w')
  rw [HP.out]
  have HFIN : Hid (∀ w', Below w0.heap.size w0 w' → PST (.returned (.bool true)) w') := by
    intro w' h
    rw [← HP.out]
    exact ⟨rfl, hb0.trans (h.mono hb0.size)⟩
  obtain ⟨gb, HGB⟩ := nameIt w.heap.size
  rw [HGB.out] at X0
  obtain ⟨gt, HGT⟩ := nameIt g.terms
  obtain ⟨gn, HGN⟩ := nameIt g.nons
  obtain ⟨gs, HGS⟩ := nameIt g.start
  obtain ⟨rl, HRL⟩ := nameIt g.rules.length
  obtain ⟨CK, HCK⟩ := nameIt (checkG g)
  obtain ⟨EC, HEC⟩ := nameIt (errC g n)
  rw [HGT.out, HGN.out, HGS.out, HRL.out] at HW0 X0 HTR HCE HTO HTQ HLS HRF HSH
  rw [HCK.out] at HRF HSH HER
  rw [HEC.out] at HER
  rw [HGT.out, HGN.out, HGS.out, HRL.out]
  have HCL : Hid (∀ W', Below w0.heap.size w0 W' → W'.cell? ⟨gb, 0, none⟩ = some (.int .i64 gt) ∧ W'.cell? ⟨gb, 0 + 1, none⟩ = some (.int .i64 gn) ∧ W'.cell? ⟨gb, 0 + 2, none⟩ = some (.int .i64 gs) ∧ W'.cell? ⟨gb, 0 + 3, none⟩ = some (.slice ra rl rcap)) := fun W' h => bx_cells4 (bx_keep X0.out h)
  obtain ⟨x0, x1, x2, x3⟩ := HCL.out w0 (Below.refl _ _)
  clear hr hb0 HP X0 hrc1
  go_enter Try.func3, Try.ntmps3
  go_upto_region 1 with fail
  rw [HW0.out, HGB.out]
  clear x0 x1 x2 x3
  go_wp2_with fail
  refine (HPL.out _).mono ?_
  rintro e w1 ⟨v1, rfl, hr1, hb1⟩
  obtain ⟨a1, c1, rfl, -, -⟩ := hr1.form
  have HPC := Lib.hid (totalPlainE a1 c1 w1 hr1)
  have HB1 := Lib.hid hb1
  clear hr1 hb1
  rw [show plG.terms = 2 from rfl, show plG.nons = 1 from rfl, show plG.start = 0 from rfl, show (plG.rules.map Rule.d).length = 2 from rfl]
  go_wp2_with fail
  refine HPC.out.mono ?_
  rintro e w2 ⟨rfl, hb2⟩
  have HB2 := Lib.hid (HB1.out.trans (hb2.mono HB1.out.size))
  clear hb2 HPC HPL HB1
  obtain ⟨x0, x1, x2, x3⟩ := HCL.out w2 HB2.out
  go_wp2_with fail
  with_reducible refine (HTR.out _ HB2.out).mono ?_
  clear x0 x1 x2 x3
  rintro e w3 ⟨hb3, hcase⟩
  have HB3 := Lib.hid (HB2.out.trans (hb3.mono HB2.out.size))
  clear hb3
  obtain ⟨x0, x1, x2, x3⟩ := HCL.out w3 HB3.out
  rcases hcase with ⟨he, rfl⟩ | ⟨he, N, n', S, a3, c3, hok, hn, hn24, hdn, rfl, hrd3⟩
  · rw [HEC.out] at he ⊢
    go_wp2_with fail
    with_reducible refine (HCE.out _ HB3.out).mono ?_
    clear x0 x1 x2 x3
    rintro e w4 ⟨hb4, ⟨_, rfl⟩ | ⟨he', _⟩⟩
    · have HB4 := Lib.hid (HB3.out.trans (hb4.mono HB3.out.size))
      clear hb4
      rw [HEC.out]
      obtain ⟨x0, x1, x2, x3⟩ := HCL.out w4 HB4.out
      go_wp2_with fail
      with_reducible refine (HTO.out _ HB4.out).mono ?_
      clear x0 x1 x2 x3
      rintro e w5 ⟨hb5, ⟨_, rfl⟩ | ⟨he', _⟩⟩
      · have HB5 := Lib.hid (HB4.out.trans (hb5.mono HB4.out.size))
        clear hb5
        rw [HEC.out]
        obtain ⟨x0, x1, x2, x3⟩ := HCL.out w5 HB5.out
        go_wp2_with fail
        with_reducible refine (HTQ.out _ HB5.out).mono ?_
        clear x0 x1 x2 x3
        rintro e w6 ⟨hb6, ⟨_, rfl⟩ | ⟨he', _⟩⟩
        · have HB6 := Lib.hid (HB5.out.trans (hb6.mono HB5.out.size))
          clear hb6
          rw [HEC.out]
          have b3 : (EC != EC) = false := by simp
          have hnil : Rd AnyB w6 (.sl (([] : List (List Int)).map D.ints)) [.slice none ([] : List (List Int)).length 0] := rd_nil _ _
          have HET := Lib.hid (equalTabs [] none none 0 0 w6 hnil hnil)
          clear hnil
          rw [List.length_nil] at HET
          go_wp2_with fail
          with_reducible refine HET.out.mono ?_
          rintro e w7 ⟨rfl, hb7⟩
          have HB7 := Lib.hid (HB6.out.trans (hb7.mono HB6.out.size))
          clear hb7 HET
          obtain ⟨x0, x1, x2, x3⟩ := HCL.out _ HB7.out
          go_wp2_with fail
          with_reducible refine (HLS.out _ HB7.out).mono ?_
          clear x0 x1 x2 x3
          rintro e w8 ⟨hb8, hc8⟩
          have HB8 := Lib.hid (HB7.out.trans (hb8.mono HB7.out.size))
          clear hb8
          obtain ⟨x0, x1, x2, x3⟩ := HCL.out w8 HB8.out
          rcases hc8 with ⟨hk, rfl⟩ | ⟨hk, N8, p8, X8, hok8, rfl, hv8, hl8⟩
          · rw [HCK.out] at hk ⊢
            go_wp2_with fail
            with_reducible refine (HRF.out _ HB8.out).mono ?_
            clear x0 x1 x2 x3
            rintro e w9 ⟨rfl, hb9⟩
            have HB9 := Lib.hid (HB8.out.trans (hb9.mono HB8.out.size))
            have HF := Lib.hid (HFIN.out w9 HB9.out)
            have b1 : (CK != 0) = true := by simpa using hk
            have b2 : (CK == CK) = true := by simp
            clear hb9
            go_wp2_with fail
            first | exact HF.out | (go_ret; exact HF.out)
          · rw [HCK.out] at hk
            subst hk
            go_wp2_with fail
            with_reducible refine (HRF.out _ HB8.out).mono ?_
            clear x0 x1 x2 x3
            rintro e w9 ⟨rfl, hb9⟩
            have HB9 := Lib.hid (HB8.out.trans (hb9.mono HB8.out.size))
            have HV9 := Lib.hid (hv8.keep hb9)
            have HL8 := Lib.hid hl8
            have HS9 := Lib.hid (HSH.out N8 (by first | rfl | trivial) hok8 w9 HB9.out)
            have h10 := hok8.n2
            clear hb9 hv8 hl8 hok8
            obtain ⟨x0, x1, x2, x3⟩ := HCL.out w9 HB9.out
            go_wp2_with fail
            with_reducible refine HS9.out.mono ?_
            clear x0 x1 x2 x3
            rintro e w10 ⟨p10, X10, rfl, hv10, hl10, -, hb10⟩
            have HB10 := Lib.hid (HB9.out.trans (hb10.mono HB9.out.size))
            have hxx : (List.range N8).map X8 = (List.range N8).map X10 := List.map_congr_left (fun A hA => leastV_eq HL8.out hl10 (by simpa using hA))
            have hq := vrow_sl h10 (HV9.out.keep hb10)
            have hq2 := vrow_sl h10 hv10
            rw [← hxx] at hq2
            have HEQ := Lib.hid (equal _ _ _ _ w10 hq hq2)
            rw [beq_self_eq_true] at HEQ
            clear hb10 hxx hq hq2 hv10 hl10
            go_wp2_with fail
            with_reducible refine HEQ.out.mono ?_
            rintro e w11 ⟨rfl, hb11⟩
            have HF := Lib.hid (HFIN.out w11 (HB10.out.trans (hb11.mono HB10.out.size)))
            clear hb11
            go_wp2_with fail
            first | exact HF.out | (go_ret; exact HF.out)
        · exact absurd (HEC.out.symm.trans he') he
      · exact absurd (HEC.out.symm.trans he') he
    · exact absurd (HEC.out.symm.trans he') he
  · have HN3 := Lib.hid hn
    clear hn
    have hst : g.start.toNat < N := by have := hok.s0; have := hok.s1; omega
    go_wp2_with fail
    with_reducible refine (HCE.out _ HB3.out).mono ?_
    clear x0 x1 x2 x3
    rintro e w4 ⟨hb4, ⟨he', _⟩ | ⟨_, N4, n4, a4, c4, F, hok4, hn4, _, rfl, hrd4, _, htab⟩⟩
    · exact absurd he he'
    · have HB4 := Lib.hid (HB3.out.trans (hb4.mono HB3.out.size))
      obtain rfl : N4 = N := by have := hok.nons; have := hok4.nons; omega
      obtain rfl : n4 = n' := by have := HN3.out; omega
      clear hn4
      have htb := htab S hdn
      rw [htb] at hrd4
      have HR3 := Lib.hid (hrd3.below hb4)
      have HR4 := Lib.hid hrd4
      clear hb4 hrd3 hrd4
      obtain ⟨x0, x1, x2, x3⟩ := HCL.out w4 HB4.out
      go_wp2_with fail
      with_reducible refine (HTO.out _ HB4.out).mono ?_
      clear x0 x1 x2 x3
      rintro e w5 ⟨hb5, ⟨he', _⟩ | ⟨_, N5, n5, S5, hok5, hn5, _, hdn5, rfl⟩⟩
      · exact absurd he he'
      · have HB5 := Lib.hid (HB4.out.trans (hb5.mono HB4.out.size))
        obtain rfl : N5 = N4 := by have := hok.nons; have := hok5.nons; omega
        obtain rfl : n5 = n4 := by have := HN3.out; omega
        clear hn5
        have HR35 := Lib.hid (HR3.out.below hb5)
        have HR45 := Lib.hid (HR4.out.below hb5)
        clear hb5 HR3 HR4
        obtain ⟨T5, HT5⟩ := nameIt (totV (rowC g S5 N5 n5 g.start.toNat (n5 + 1)) 0)
        rw [HT5.out]
        obtain ⟨x0, x1, x2, x3⟩ := HCL.out w5 HB5.out
        go_wp2_with fail
        with_reducible refine (HTQ.out _ HB5.out).mono ?_
        clear x0 x1 x2 x3
        rintro e w6 ⟨hb6, ⟨he', _⟩ | ⟨_, N6, n6, F6, hok6, hn6, _, rfl, htab6⟩⟩
        · exact absurd he he'
        · have HB6 := Lib.hid (HB5.out.trans (hb6.mono HB5.out.size))
          obtain rfl : N6 = N5 := by have := hok.nons; have := hok6.nons; omega
          obtain rfl : n6 = n5 := by have := HN3.out; omega
          clear hn6
          have HT6 : Hid (totV ((List.range (n6 + 1)).map (F6 g.start.toNat)) 0 = T5) := by rw [← HT5.out]; exact (tot_same hst (htab6 S5 hdn5)).symm
          rw [HT6.out]
          have b3 : (T5 != T5) = false := by simp
          have HET := Lib.hid (equalTabs (tabC g S N6 n6 N6) a3 a4 c3 c4 w6 (by rw [tabC_len]; exact HR35.out.below hb6) (by rw [tabC_len]; exact HR45.out.below hb6))
          rw [tabC_len] at HET
          clear hb6 HR35 HR45 htb htab htab6 hok hok4 hok5 hok6 hdn hdn5 he HT5 HT6
          go_wp2_with fail
          with_reducible refine HET.out.mono ?_
          rintro e w7 ⟨rfl, hb7⟩
          have HB7 := Lib.hid (HB6.out.trans (hb7.mono HB6.out.size))
          clear hb7 HET
          obtain ⟨x0, x1, x2, x3⟩ := HCL.out _ HB7.out
          go_wp2_with fail
          with_reducible refine (HLS.out _ HB7.out).mono ?_
          clear x0 x1 x2 x3
          rintro e w8 ⟨hb8, hc8⟩
          have HB8 := Lib.hid (HB7.out.trans (hb8.mono HB7.out.size))
          clear hb8
          obtain ⟨x0, x1, x2, x3⟩ := HCL.out w8 HB8.out
          rcases hc8 with ⟨hk, rfl⟩ | ⟨hk, N8, p8, X8, hok8, rfl, hv8, hl8⟩
          · rw [HCK.out] at hk ⊢
            go_wp2_with fail
            with_reducible refine (HRF.out _ HB8.out).mono ?_
            clear x0 x1 x2 x3
            rintro e w9 ⟨rfl, hb9⟩
            have HB9 := Lib.hid (HB8.out.trans (hb9.mono HB8.out.size))
            have HF := Lib.hid (HFIN.out w9 HB9.out)
            have b1 : (CK != 0) = true := by simpa using hk
            have b2 : (CK == CK) = true := by simp
            clear hb9
            go_wp2_with fail
            first | exact HF.out | (go_ret; exact HF.out)
          · rw [HCK.out] at hk
            subst hk
            go_wp2_with fail
            with_reducible refine (HRF.out _ HB8.out).mono ?_
            clear x0 x1 x2 x3
            rintro e w9 ⟨rfl, hb9⟩
            have HB9 := Lib.hid (HB8.out.trans (hb9.mono HB8.out.size))
            have HV9 := Lib.hid (hv8.keep hb9)
            have HL8 := Lib.hid hl8
            have HS9 := Lib.hid (HSH.out N8 (by first | rfl | trivial) hok8 w9 HB9.out)
            have h10 := hok8.n2
            clear hb9 hv8 hl8 hok8
            obtain ⟨x0, x1, x2, x3⟩ := HCL.out w9 HB9.out
            go_wp2_with fail
            with_reducible refine HS9.out.mono ?_
            clear x0 x1 x2 x3
            rintro e w10 ⟨p10, X10, rfl, hv10, hl10, -, hb10⟩
            have HB10 := Lib.hid (HB9.out.trans (hb10.mono HB9.out.size))
            have hxx : (List.range N8).map X8 = (List.range N8).map X10 := List.map_congr_left (fun A hA => leastV_eq HL8.out hl10 (by simpa using hA))
            have hq := vrow_sl h10 (HV9.out.keep hb10)
            have hq2 := vrow_sl h10 hv10
            rw [← hxx] at hq2
            have HEQ := Lib.hid (equal _ _ _ _ w10 hq hq2)
            rw [beq_self_eq_true] at HEQ
            clear hb10 hxx hq hq2 hv10 hl10
            go_wp2_with fail
            with_reducible refine HEQ.out.mono ?_
            rintro e w11 ⟨rfl, hb11⟩
            have HF := Lib.hid (HFIN.out w11 (HB10.out.trans (hb11.mono HB10.out.size)))
            clear hb11
            go_wp2_with fail
            first | exact HF.out | (go_ret; exact HF.out)
end Cs
end Go.Proofs.Ytbnpemgmdnghgaa
namespace Go.Proofs.Ytbnpemgmdnghgaa
open Go.RowKit Go.ChangeShapes Go.WideShapes Go.Deep

/-- data of a type read as plain data, as far as the fuel N goes: sz: at most its bulk; ok: what its numbers keep; lim: what the reach gives -/
def OpensF {α : Type} (P : Program) (t : TypeId) (e : α → D) (sz : α → Nat) (ok lim : α → Prop) (N : Nat) : Prop :=
  ∀ (H : Type) (enc : TypeId × Value → H) (w : World) (n : Nat) (cs : List Value) (x : DataW H × List MemPlace), n ≤ N → DataW.trod enc P w 0 (fun _ => true) true n t cs = some x →
    ∃ a : α, Rd AnyB w (e a) cs ∧ sz a ≤ Rows.uptoBulk x.1 ∧ ok a ∧ ((∀ y ∈ DataW.weights P t x.1, y ≤ reachBytes) → lim a)
def Opens {α : Type} (P : Program) (t : TypeId) (e : α → D) (sz : α → Nat) (ok lim : α → Prop) : Prop := ∀ N, OpensF P t e sz ok lim N

def i64 (n : Int) : Prop := -9223372036854775808 ≤ n ∧ n ≤ 9223372036854775807
def one {α : Type} (_ : α) : Nat := 1
def any {α : Type} (_ : α) : Prop := True

theorem opens_int {P : Program} {t : TypeId} (ht : P.underlying t = some (.int .i64)) : Opens P t D.int one i64 any := by
  intro N H enc w n cs x _ h
  obtain ⟨z, h1, h2, h3⟩ := DataW.trod_int ht h
  subst h1 h2
  refine ⟨z, rfl, by simp [Rows.uptoBulk, one], ?_, fun _ => trivial⟩
  simpa [Lit.wf, IntKind.min, IntKind.max, IntKind.signed, IntKind.bits, i64] using h3
theorem opens_bool {P : Program} {t : TypeId} (ht : P.underlying t = some .bool) : Opens P t D.bool one any any := by
  intro N H enc w n cs x _ h
  obtain ⟨z, h1, h2⟩ := DataW.trod_bool ht h
  subst h1 h2
  exact ⟨z, rfl, by simp [Rows.uptoBulk, one], trivial, fun _ => trivial⟩

theorem bulkAll_append {H : Type} (l r : List (DataW H)) : Rows.uptoBulkAll (l ++ r) = Rows.uptoBulkAll l + Rows.uptoBulkAll r := by
  induction l with
  | nil => simp [Rows.uptoBulkAll]
  | cons x l ih => simp only [List.cons_append, Rows.uptoBulkAll, ih]; omega
theorem weightsAll_append {H : Type} (P : Program) (e : TypeId) (l r : List (DataW H)) : DataW.weightsAll P e (l ++ r) = DataW.weightsAll P e l ++ DataW.weightsAll P e r := by
  induction l with
  | nil => simp [DataW.weightsAll]
  | cons x l ih => simp [DataW.weightsAll, ih]

def slD {α : Type} (e : α → D) (l : List α) : D := .sl (l.map e)
def slSz {α : Type} (sz : α → Nat) (l : List α) : Nat := (l.map sz).sum + 1
def slOk {α : Type} (ok : α → Prop) (l : List α) : Prop := ∀ a ∈ l, ok a
def slLim {α : Type} (b : Nat) (lim : α → Prop) (l : List α) : Prop := l.length * b ≤ reachBytes ∧ ∀ a ∈ l, lim a

theorem opens_slice {α : Type} {P : Program} {t el : TypeId} {e : α → D} {sz : α → Nat} {ok lim : α → Prop} {N b : Nat} (ht : P.underlying t = some (.slice el)) (hby : P.bytesOf el = b) (ho : OpensF P el e sz ok lim N) :
    OpensF P t (slD e) (slSz sz) (slOk ok) (slLim b lim) N := by
  intro H enc w n cs x hn h
  rcases DataW.trod_slice ht h with ⟨rfl, rfl⟩ | ⟨a, len, cap, elems, rest, n', hf, rfl, rfl, hb, hl, hm, hlen, hel, _, _⟩
  · exact ⟨[], ⟨none, 0, [], rfl, by simp, by simp [maxLen], fun _ => rfl, fun i hi => by simp at hi, rfl⟩, by simp [Rows.uptoBulk, slSz], by simp [slOk], fun _ => ⟨by simp, by simp⟩⟩
  · have key : ∀ k, k ≤ len → ∃ (l : List α) (L : List Value), l.length = k ∧ RdAll AnyB w (l.map e) L ∧ L.length = k * P.cellsOf el ∧ (∀ j (hj : j < L.length), w.cell? (a.add j) = some L[j]) ∧
        (l.map sz).sum ≤ Rows.uptoBulkAll ((elems.take k).map (·.1)) ∧ slOk ok l ∧ ((∀ y ∈ DataW.weightsAll P el ((elems.take k).map (·.1)), y ≤ reachBytes) → ∀ a ∈ l, lim a) := by
      intro k
      induction k with
      | zero => intro _; exact ⟨[], [], rfl, by simp [RdAll], by simp, fun j hj => by simp at hj, by simp, by simp [slOk], fun _ => by simp⟩
      | succ k ih =>
        intro hk
        obtain ⟨l, L, h1, h2, h3, h4, h5, h6, h7⟩ := ih (by omega)
        have hk' : k < elems.length := by omega
        have he := hel k (by omega)
        rw [List.getElem?_eq_getElem hk'] at he
        obtain ⟨cs', hc1, hc2⟩ := Option.bind_eq_some_iff.1 he
        obtain ⟨a', r1, r2, r3, r4⟩ := ho H enc w n' cs' elems[k] (by omega) hc2
        obtain ⟨_, hcl, hcc⟩ := World.cells?_some hc1
        refine ⟨l ++ [a'], L ++ cs', by simp [h1], by rw [List.map_append]; exact RdAll.append h2 (RdAll.one r1), by simp [h3, hcl, Nat.add_mul], ?_, ?_, ?_, ?_⟩
        · intro j hj
          by_cases hjl : j < L.length
          · rw [List.getElem_append_left hjl]; exact h4 j hjl
          · simp at hj
            rw [List.getElem_append_right (by omega)]
            have := hcc (j - L.length) (by omega)
            rw [Deep.add_add, ← h3, show L.length + (j - L.length) = j by omega] at this
            rw [this, List.getElem?_eq_getElem (by omega)]
        · rw [List.take_succ_eq_append_getElem hk', List.map_append, List.map_append, bulkAll_append]
          simp [Rows.uptoBulkAll]
          simp at h5
          omega
        · intro y hy
          rcases List.mem_append.1 hy with h | h
          · exact h6 y h
          · simp at h; subst h; exact r3
        · intro hw y hy
          rw [List.take_succ_eq_append_getElem hk', List.map_append, weightsAll_append] at hw
          rcases List.mem_append.1 hy with h | h
          · exact h7 (fun z hz => hw z (List.mem_append_left _ hz)) y h
          · simp at h; subst h
            exact r4 (fun z hz => hw z (List.mem_append_right _ (by simpa [DataW.weightsAll] using hz)))
    obtain ⟨l, L, h1, h2, h3, h4, h5, h6, h7⟩ := key len (Nat.le_refl _)
    rw [List.take_of_length_le (by omega)] at h5 h7
    refine ⟨l, ⟨some a, cap, L, by simp [h1], by simpa [h1] using hl, hm, (fun h => by cases h), fun i hi => ⟨a, rfl, trivial, h4 i hi⟩, h2⟩, ?_, h6, ?_⟩
    · simp only [Rows.uptoBulk, slSz]; omega
    · intro hw
      simp only [DataW.weights, ht] at hw
      refine ⟨?_, h7 fun y hy => hw y (by simp [hy])⟩
      have := hw ((elems.map (·.1)).length + (rest.map (·.1)).length |>.mul (P.bytesOf el)) (by left)
      rw [h1, ← hlen, ← hby]
      have h8 : elems.length * P.bytesOf el ≤ ((elems.map (·.1)).length + (rest.map (·.1)).length) * P.bytesOf el := Nat.mul_le_mul_right _ (by simp)
      exact Nat.le_trans h8 this

theorem split2 {cs : List Value} {c0 c1 : Nat} (h : cs.length = c0 + c1) : cs = (cs.drop 0).take c0 ++ (cs.drop c0).take c1 := by
  rw [List.drop_zero, List.take_of_length_le (l := cs.drop c0) (by simp; omega), List.take_append_drop]
theorem split3 {cs : List Value} {c0 c1 c2 : Nat} (h : cs.length = c0 + c1 + c2) : cs = (cs.drop 0).take c0 ++ ((cs.drop c0).take c1 ++ (cs.drop (c0 + c1)).take c2) := by
  rw [← List.drop_drop, ← split2' (cs := cs.drop c0) (by simp; omega)]
  simp
where
  split2' {cs : List Value} {c1 c2 : Nat} (h : cs.length = c1 + c2) : cs = cs.take c1 ++ (cs.drop c1).take c2 := by
    have := split2 h
    simpa using this
theorem split4 {cs : List Value} {c0 c1 c2 c3 : Nat} (h : cs.length = c0 + c1 + c2 + c3) : cs = (cs.drop 0).take c0 ++ ((cs.drop c0).take c1 ++ ((cs.drop (c0 + c1)).take c2 ++ (cs.drop (c0 + c1 + c2)).take c3)) := by
  have h3 := split3 (cs := cs.drop c0) (c0 := c1) (c1 := c2) (c2 := c3) (by simp; omega)
  simp only [List.drop_drop, List.drop_zero] at h3 ⊢
  rw [← Nat.add_assoc, Nat.add_zero] at h3
  rw [← h3, List.take_append_drop]

theorem opens_struct2 {α β δ : Type} {P : Program} {t : TypeId} {f0 f1 : Field} {e0 : α → D} {e1 : β → D} {s0 : α → Nat} {s1 : β → Nat} {k0 l0 : α → Prop} {k1 l1 : β → Prop} {N c0 c1 : Nat} (mk : α → β → δ) {e : δ → D} {sz : δ → Nat} {ok lim : δ → Prop}
    (ht : P.underlying t = some (.struct #[f0, f1])) (ho : f0.offset = 0 ∧ f1.offset = c0 ∧ P.cellsOf f0.type = c0 ∧ P.cellsOf f1.type = c1 ∧ P.cellsOf t = c0 + c1)
    (h0 : OpensF P f0.type e0 s0 k0 l0 N) (h1 : OpensF P f1.type e1 s1 k1 l1 N)
    (he : ∀ a b, e (mk a b) = .agg [e0 a, e1 b]) (hs : ∀ a b, sz (mk a b) ≤ s0 a + s1 b + 1) (hk : ∀ a b, k0 a → k1 b → ok (mk a b)) (hl : ∀ a b, l0 a → l1 b → lim (mk a b)) : OpensF P t e sz ok lim (N + 1) := by
  intro H enc w n cs x hn h
  obtain ⟨xs, n', hf, rfl, hcl, hlen, hfs⟩ := DataW.trod_struct ht h
  obtain ⟨o0, o1, p0, p1, p2⟩ := ho
  match xs, hlen with
  | [y0, y1], _ =>
    have g0 : DataW.trod enc P w 0 (fun _ => true) true n' f0.type ((cs.drop f0.offset).take (P.cellsOf f0.type)) = some y0 := by simpa using hfs 0 f0 rfl
    have g1 : DataW.trod enc P w 0 (fun _ => true) true n' f1.type ((cs.drop f1.offset).take (P.cellsOf f1.type)) = some y1 := by simpa using hfs 1 f1 rfl
    obtain ⟨a, r1, r2, r3, r4⟩ := h0 H enc w n' _ _ (by omega) g0
    obtain ⟨b, q1, q2, q3, q4⟩ := h1 H enc w n' _ _ (by omega) g1
    rw [o0, p0] at r1
    rw [o1, p1] at q1
    refine ⟨mk a b, ?_, ?_, hk a b r3 q3, fun hw => ?_⟩
    · rw [he, split2 (hcl.trans p2)]
      exact ⟨_, _, rfl, r1, RdAll.one q1⟩
    · have := hs a b
      simp [Rows.uptoBulk, Rows.uptoBulkAll]; omega
    · simp [DataW.weights, ht, DataW.weightsEach] at hw
      exact hl a b (r4 fun y hy => hw y (by simp [hy])) (q4 fun y hy => hw y (by simp [hy]))

theorem opens_struct3 {α β γ δ : Type} {P : Program} {t : TypeId} {f0 f1 f2 : Field} {e0 : α → D} {e1 : β → D} {e2 : γ → D} {s0 : α → Nat} {s1 : β → Nat} {s2 : γ → Nat} {k0 l0 : α → Prop} {k1 l1 : β → Prop} {k2 l2 : γ → Prop} {N c0 c1 c2 : Nat} (mk : α → β → γ → δ) {e : δ → D} {sz : δ → Nat} {ok lim : δ → Prop}
    (ht : P.underlying t = some (.struct #[f0, f1, f2])) (ho : f0.offset = 0 ∧ f1.offset = c0 ∧ f2.offset = c0 + c1 ∧ P.cellsOf f0.type = c0 ∧ P.cellsOf f1.type = c1 ∧ P.cellsOf f2.type = c2 ∧ P.cellsOf t = c0 + c1 + c2)
    (h0 : OpensF P f0.type e0 s0 k0 l0 N) (h1 : OpensF P f1.type e1 s1 k1 l1 N) (h2 : OpensF P f2.type e2 s2 k2 l2 N)
    (he : ∀ a b c, e (mk a b c) = .agg [e0 a, e1 b, e2 c]) (hs : ∀ a b c, sz (mk a b c) ≤ s0 a + s1 b + s2 c + 1) (hk : ∀ a b c, k0 a → k1 b → k2 c → ok (mk a b c)) (hl : ∀ a b c, l0 a → l1 b → l2 c → lim (mk a b c)) : OpensF P t e sz ok lim (N + 1) := by
  intro H enc w n cs x hn h
  obtain ⟨xs, n', hf, rfl, hcl, hlen, hfs⟩ := DataW.trod_struct ht h
  obtain ⟨o0, o1, o2, p0, p1, p2, p3⟩ := ho
  match xs, hlen with
  | [y0, y1, y2], _ =>
    have g0 : DataW.trod enc P w 0 (fun _ => true) true n' f0.type ((cs.drop f0.offset).take (P.cellsOf f0.type)) = some y0 := by simpa using hfs 0 f0 rfl
    have g1 : DataW.trod enc P w 0 (fun _ => true) true n' f1.type ((cs.drop f1.offset).take (P.cellsOf f1.type)) = some y1 := by simpa using hfs 1 f1 rfl
    have g2 : DataW.trod enc P w 0 (fun _ => true) true n' f2.type ((cs.drop f2.offset).take (P.cellsOf f2.type)) = some y2 := by simpa using hfs 2 f2 rfl
    obtain ⟨a, r1, r2, r3, r4⟩ := h0 H enc w n' _ _ (by omega) g0
    obtain ⟨b, q1, q2, q3, q4⟩ := h1 H enc w n' _ _ (by omega) g1
    obtain ⟨c, u1, u2, u3, u4⟩ := h2 H enc w n' _ _ (by omega) g2
    rw [o0, p0] at r1
    rw [o1, p1] at q1
    rw [o2, p2] at u1
    refine ⟨mk a b c, ?_, ?_, hk a b c r3 q3 u3, fun hw => ?_⟩
    · rw [he, split3 (hcl.trans p3)]
      exact ⟨_, _, rfl, r1, _, _, rfl, q1, RdAll.one u1⟩
    · have := hs a b c
      simp [Rows.uptoBulk, Rows.uptoBulkAll]; omega
    · simp [DataW.weights, ht, DataW.weightsEach] at hw
      exact hl a b c (r4 fun y hy => hw y (by simp [hy])) (q4 fun y hy => hw y (by simp [hy])) (u4 fun y hy => hw y (by simp [hy]))

theorem opens_struct4 {α β γ ε δ : Type} {P : Program} {t : TypeId} {f0 f1 f2 f3 : Field} {e0 : α → D} {e1 : β → D} {e2 : γ → D} {e3 : ε → D} {s0 : α → Nat} {s1 : β → Nat} {s2 : γ → Nat} {s3 : ε → Nat} {k0 l0 : α → Prop} {k1 l1 : β → Prop} {k2 l2 : γ → Prop} {k3 l3 : ε → Prop} {N c0 c1 c2 c3 : Nat} (mk : α → β → γ → ε → δ) {e : δ → D} {sz : δ → Nat} {ok lim : δ → Prop}
    (ht : P.underlying t = some (.struct #[f0, f1, f2, f3])) (ho : f0.offset = 0 ∧ f1.offset = c0 ∧ f2.offset = c0 + c1 ∧ f3.offset = c0 + c1 + c2 ∧ P.cellsOf f0.type = c0 ∧ P.cellsOf f1.type = c1 ∧ P.cellsOf f2.type = c2 ∧ P.cellsOf f3.type = c3 ∧ P.cellsOf t = c0 + c1 + c2 + c3)
    (h0 : OpensF P f0.type e0 s0 k0 l0 N) (h1 : OpensF P f1.type e1 s1 k1 l1 N) (h2 : OpensF P f2.type e2 s2 k2 l2 N) (h3 : OpensF P f3.type e3 s3 k3 l3 N)
    (he : ∀ a b c d, e (mk a b c d) = .agg [e0 a, e1 b, e2 c, e3 d]) (hs : ∀ a b c d, sz (mk a b c d) ≤ s0 a + s1 b + s2 c + s3 d + 1) (hk : ∀ a b c d, k0 a → k1 b → k2 c → k3 d → ok (mk a b c d)) (hl : ∀ a b c d, l0 a → l1 b → l2 c → l3 d → lim (mk a b c d)) : OpensF P t e sz ok lim (N + 1) := by
  intro H enc w n cs x hn h
  obtain ⟨xs, n', hf, rfl, hcl, hlen, hfs⟩ := DataW.trod_struct ht h
  obtain ⟨o0, o1, o2, o3, p0, p1, p2, p3, p4⟩ := ho
  match xs, hlen with
  | [y0, y1, y2, y3], _ =>
    have g0 : DataW.trod enc P w 0 (fun _ => true) true n' f0.type ((cs.drop f0.offset).take (P.cellsOf f0.type)) = some y0 := by simpa using hfs 0 f0 rfl
    have g1 : DataW.trod enc P w 0 (fun _ => true) true n' f1.type ((cs.drop f1.offset).take (P.cellsOf f1.type)) = some y1 := by simpa using hfs 1 f1 rfl
    have g2 : DataW.trod enc P w 0 (fun _ => true) true n' f2.type ((cs.drop f2.offset).take (P.cellsOf f2.type)) = some y2 := by simpa using hfs 2 f2 rfl
    have g3 : DataW.trod enc P w 0 (fun _ => true) true n' f3.type ((cs.drop f3.offset).take (P.cellsOf f3.type)) = some y3 := by simpa using hfs 3 f3 rfl
    obtain ⟨a, r1, r2, r3, r4⟩ := h0 H enc w n' _ _ (by omega) g0
    obtain ⟨b, q1, q2, q3, q4⟩ := h1 H enc w n' _ _ (by omega) g1
    obtain ⟨c, u1, u2, u3, u4⟩ := h2 H enc w n' _ _ (by omega) g2
    obtain ⟨d, v1, v2, v3, v4⟩ := h3 H enc w n' _ _ (by omega) g3
    rw [o0, p0] at r1
    rw [o1, p1] at q1
    rw [o2, p2] at u1
    rw [o3, p3] at v1
    refine ⟨mk a b c d, ?_, ?_, hk a b c d r3 q3 u3 v3, fun hw => ?_⟩
    · rw [he, split4 (hcl.trans p4)]
      exact ⟨_, _, rfl, r1, _, _, rfl, q1, _, _, rfl, u1, RdAll.one v1⟩
    · have := hs a b c d
      simp [Rows.uptoBulk, Rows.uptoBulkAll]; omega
    · simp [DataW.weights, ht, DataW.weightsEach] at hw
      exact hl a b c d (r4 fun y hy => hw y (by simp [hy])) (q4 fun y hy => hw y (by simp [hy])) (u4 fun y hy => hw y (by simp [hy])) (v4 fun y hy => hw y (by simp [hy]))

/-- the argument j -/
theorem open_arg {α : Type} {P : Program} {t : TypeId} {e : α → D} {sz : α → Nat} {ok lim : α → Prop} (ho : Opens P t e sz ok lim) {H : Type} {enc : TypeId × Value → H} {W : World} {v : Value} {d : DataW H} {p : List MemPlace} (h : DataW.Trod enc P W 0 (fun _ => true) true t v d p) :
    ∃ a : α, Rd AnyB W (e a) v.cells.toList ∧ sz a ≤ Rows.uptoBulk d ∧ ok a ∧ ((∀ y ∈ DataW.weights P t d, y ≤ reachBytes) → lim a) := by
  obtain ⟨n, hn⟩ := h
  exact ho n H enc W n _ _ (Nat.le_refl _) hn
end Go.Proofs.Ytbnpemgmdnghgaa
namespace Go.Proofs.Ytbnpemgmdnghgaa
open Go.RowKit Go.ChangeShapes Go.WideShapes Go.Deep Go.Joins

def okSym (s : Sym) : Prop := i64 s.n
def okRule (r : Rule) : Prop := i64 r.left ∧ ∀ s ∈ r.right, okSym s
def okGram (g : Gram) : Prop := i64 g.terms ∧ i64 g.nons ∧ i64 g.start ∧ ∀ r ∈ g.rules, okRule r
def szSym (_ : Sym) : Nat := 1
def szRule (r : Rule) : Nat := slSz szSym r.right
def szGram (g : Gram) : Nat := slSz szRule g.rules

set_option maxRecDepth 100000 in
theorem opens_symF (N : Nat) : OpensF Try.prog 65 Sym.d szSym okSym any (N + 1) :=
  opens_struct2 (c0 := 1) (c1 := 1) (fun a b => Sym.mk a b) Try.underlying65 ⟨rfl, rfl, by kernel_rfl, by kernel_rfl, by kernel_rfl⟩ (opens_bool Try.underlying4 N) (opens_int Try.underlying3 N)
    (fun _ _ => rfl) (fun _ _ => by simp [szSym]) (fun _ _ _ h => h) (fun _ _ _ _ => trivial)
set_option maxRecDepth 100000 in
theorem opens_ruleF (N : Nat) : OpensF Try.prog 48 Rule.d szRule okRule any (N + 1 + 1) :=
  opens_struct2 (c0 := 1) (c1 := 1) (fun a b => Rule.mk a b) Try.underlying48 ⟨rfl, rfl, by kernel_rfl, by kernel_rfl, by kernel_rfl⟩ (opens_int Try.underlying3 (N + 1)) (opens_slice Try.underlying46 (b := 16) (by kernel_rfl) (opens_symF N))
    (fun _ _ => rfl) (fun _ _ => by simp [szRule]; omega) (fun _ _ h k => ⟨h, k⟩) (fun _ _ _ _ => trivial)
set_option maxRecDepth 100000 in
theorem opens_gramF (N : Nat) : OpensF Try.prog 24 Gram.d szGram okGram any (N + 1 + 1 + 1) :=
  opens_struct4 (c0 := 1) (c1 := 1) (c2 := 1) (c3 := 1) (fun a b c d => Gram.mk a b c d) Try.underlying24 ⟨rfl, rfl, rfl, rfl, by kernel_rfl, by kernel_rfl, by kernel_rfl, by kernel_rfl, by kernel_rfl⟩ (opens_int Try.underlying3 (N + 1 + 1)) (opens_int Try.underlying3 (N + 1 + 1)) (opens_int Try.underlying3 (N + 1 + 1)) (opens_slice Try.underlying22 (b := 32) (by kernel_rfl) (opens_ruleF N))
    (fun _ _ _ _ => rfl) (fun _ _ _ _ => by simp [szGram]; omega) (fun _ _ _ _ h1 h2 h3 h4 => ⟨h1, h2, h3, h4⟩) (fun _ _ _ _ _ _ _ _ => trivial)
theorem opens_gram : Opens Try.prog 24 Gram.d szGram okGram any := by
  intro N H enc w n cs x hn h
  exact opens_gramF N H enc w n cs x (by omega) h

set_option maxRecDepth 100000 in
theorem open_gramV {W : World} {base : Nat} {v : Value} {g : Gram} (hv : Value.okWide Try.prog W .any base 24 v) (h : Rd AnyB W g.d v.cells.toList) : ∃ u, v = .agg #[.int .i64 g.terms, .int .i64 g.nons, .int .i64 g.start, u] ∧ Rd AnyB W (.sl (g.rules.map Rule.d)) [u] := by
  obtain ⟨cs, rfl, hsz⟩ := okWide_struct Try.underlying24 hv
  obtain ⟨c1, r1, e1, h1, h2⟩ := h
  obtain ⟨c2, r2, rfl, h2, h3⟩ := h2
  obtain ⟨c3, r3, rfl, h3, h4⟩ := h3
  rw [RdAll.one_iff] at h4
  simp [Rd] at h1 h2 h3
  subst h1 h2 h3
  have h5 := h4
  obtain ⟨a, cap, L, e, _⟩ := h4
  subst e
  refine ⟨_, ?_, h5⟩
  congr 1
  exact Array.toList_inj.1 e1
end Go.Proofs.Ytbnpemgmdnghgaa
namespace Go.Proofs.Ytbnpemgmdnghgaa.RowCensusTells
open Go.ChangeShapes Go.WideShapes Go.ChangeAt Go.RowKit
theorem own : ownKnob Try.prog.godebug = none := by kernel_rfl
theorem laidOut : laidOutB Try.prog = true := by kernel_rfl

set_option maxRecDepth 100000 in
theorem contract (H : Type) (enc : TypeId × Value → H) (W : World) (base : Nat) (args : Array Value) (ds gs : List (DataW H)) (before : List MemPlace)
    (hval0 : ∀ (j : Nat) t v, Try.f3.params[j]? = some t → args[j]? = some v → Value.okWide Try.prog W .any base t v)
    (hW : DataW.Whole enc Try.prog Try.f3.params.toList Rows.censusTellsSpec.vars false W args.toList ds gs before)
    (hsz0 : (DataW.weightsEach Try.prog (Try.f3.params.toList ++ Rows.censusTellsSpec.plain.varTypes Try.prog) (ds ++ gs)).all (· ≤ reachBytes) = true) :
    Calls Try.prog 3 args W fun e W' => ∃ v, e = .returned v ∧ Rows.censusTellsSpec.post enc Try.prog Try.f3 false true false false W args v W' := by
  have hval : ∀ (j : Nat) t v, Try.f3.params[j]? = some t → args[j]? = some v → Value.okWide Try.prog W .any base t v := hval0
  have hW' := hW
  obtain ⟨p, q, hA0, hV, rfl, hfz, hnd⟩ := hW
  have hA : DataW.TrodAll enc Try.prog W 0 (fun _ => true) true Try.f3.params.toList args.toList ds p := hA0
  have hsz : (DataW.weightsEach Try.prog (Try.f3.params.toList ++ Rows.censusTellsSpec.plain.varTypes Try.prog) (ds ++ gs)).all (· ≤ reachBytes) = true := hsz0
  rw [Try.params3] at hA hval hsz
  obtain ⟨v0, vs0, d0, ds0, p0, q0, hargs, rfl, rfl, h0, r0'⟩ := trodAll_cons hA
  obtain ⟨v1, vs1, d1, ds1, p1, q1, rfl, rfl, rfl, h1, r1'⟩ := trodAll_cons r0'
  obtain ⟨rfl, rfl, rfl⟩ := trodAll_nil r1'
  obtain rfl : args = #[v0, v1] := by cases args; simp_all
  obtain ⟨rfl, rfl⟩ := trodVars_none hV
  have lt0 : ∀ x ∈ p0, x.block < W.heap.size := by obtain ⟨m, hm⟩ := h0; exact DataW.trod_lt m _ _ _ hm
  have tr0 := h0
  have lt1 : ∀ x ∈ p1, x.block < W.heap.size := by obtain ⟨m, hm⟩ := h1; exact DataW.trod_lt m _ _ _ hm
  have tr1 := h1
  have weightsAt : ∀ (j : Nat) {t : TypeId} {d : DataW H}, (Try.f3.params.toList ++ Rows.censusTellsSpec.plain.varTypes Try.prog)[j]? = some t → ([d0, d1] ++ [])[j]? = some d → ∀ y ∈ DataW.weights Try.prog t d, y ≤ reachBytes := fun j t d ht hd y hy => of_decide_eq_true (List.all_eq_true.1 hsz0 y (DataW.weights_mem_each ht hd y hy))
  obtain ⟨a0, rd0, sz0, k0, li0⟩ := open_arg opens_gram h0
  have lim0 := li0 (weightsAt 0 rfl rfl)
  obtain ⟨u0, rfl, r0⟩ := open_gramV (hval 0 24 v0 rfl rfl) rd0
  obtain ⟨x1, rfl, rfl, rfl, wf1⟩ := open_int Try.underlying3 (hval 1 3 v1 rfl rfl) h1
  have k1 : i64 x1 := by simpa [Lit.wf, IntKind.min, IntKind.max, IntKind.signed, IntKind.bits, i64] using wf1
  clear hA0 hval0
  refine (Cs.lawCT a0 u0 x1 W r0).mono fun e W' ⟨he, bel⟩ => ?_
  subst he
  exact ⟨_, rfl, _, _, _, [], _, [], hW', trodAll_mk1 (shut_bool Try.underlying4 _), (trodAll_cons_mk (Below.trod laidOut (by kernel_rfl) (of_decide_eq_true (by kernel_rfl)) tr0 bel lt0) (trodAll_cons_mk (Below.trod laidOut (by kernel_rfl) (of_decide_eq_true (by kernel_rfl)) tr1 bel lt1) trodAll_mk0)), rfl, bel.frame _, fun h => by cases h⟩

set_option maxRecDepth 100000 in
theorem lifted (os : Os) (started : os.Started) (H : Type) (enc : TypeId × Value → H) :
    ReturnsInHanded {} Try.checked os 3 .any (Rows.censusTellsSpec.pre6 enc Try.prog Try.f3 Rows.censusTellsRow.domain false) (Rows.censusTellsSpec.post enc Try.prog Try.f3 false true false false) := by
  refine returnsInHanded_of_change_sized (C := Try.checked) own started (by kernel_rfl) Try.func3
    (ChangeSpec.witness6 (enc := enc) (C := Try.checked) false ⟨#[], #[.agg #[.int .i64 0, .int .i64 0, .int .i64 0, .slice none 0 0], .int .i64 0], []⟩ 8 (by kernel_rfl) (by kernel_rfl) (by kernel_rfl) (by kernel_rfl)) ?_
  intro W base args ds gs before hval0 hW hcnd hsz0 _
  exact contract H enc W base args ds gs before hval0 hW hsz0

theorem over : Rows.censusTellsRow.holds Try.pinned (OpenSpec.ofChange Rows.censusTellsSpec) :=
  OpenClaim.holds_of_wide 3 Try.f3 rfl rfl rfl rfl rfl rfl rfl ⟨rfl, rfl, rfl, rfl, rfl⟩ rfl rfl rfl rfl rfl (by kernel_rfl) Try.func3 (by kernel_rfl)
    (of_decide_eq_true (by kernel_rfl)) (by unfold Func.isWrapper; first | (rw [if_pos (by decide +kernel)]; kernel_rfl) | (rw [if_neg (by decide +kernel)]; exact ⟨rfl, rfl⟩))
    (fun os started H enc _ => lifted os started H enc)
end Go.Proofs.Ytbnpemgmdnghgaa.RowCensusTells
namespace Go.Proofs.Ytbnpemgmdnghgaa
theorem censusTells_holds : Rows.CensusTellsSaid := RowCensusTells.over
#print axioms censusTells_holds
end Go.Proofs.Ytbnpemgmdnghgaa
