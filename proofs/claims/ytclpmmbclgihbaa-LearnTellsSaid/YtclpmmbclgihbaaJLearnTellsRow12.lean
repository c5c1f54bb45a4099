/- For every input the law LearnTells returns true, and its arguments read afterwards as before. No condition. -/
import Derived.Test.YtclpmmbclgihbaaJLearnTellsRow5
import Derived.Test.YtclpmmbclgihbaaJLearnTellsRow10
import Derived.Test.YtclpmmbclgihbaaJLearnTellsRow11
import Derived.Test.YtclpmmbclgihbaaJLearnTellsRow3
import Derived.BigQuiet
import Derived.Test.YtclpmmbclgihbaaJLearnTellsRow1
import Derived.Test.YtclpmmbclgihbaaRows
import Derived.ChangeArms
import Derived.ChangeSame
import Derived.SizedLaws
import Derived.Deep.Slices
import Derived.OpenShut
import Derived.Lib.SmallJoins
import Derived.Test.YtclpmmbclgihbaaJLearnTellsRow6
import Derived.ChangeOld
import Derived.Carry
import Derived.JoinedCond
namespace Go.Proofs.Ytclpmmbclgihbaa
open Go.RowKit
namespace Lr
open Df Km Cl

theorem askOne (w : World) : AskFn 5 #[] (fD oneD) 1 w := by
  intro W u n a c hn hu hn2 hb hs
  rw [one_f u hu, hn]
  have he : decide (n = 1) = decide ((n : Int) = 1) := decide_eq_decide.2 (by omega)
  rw [he]
  go_enter Try.func5, Try.ntmps5
  go_wp2_with fail
  go_ret
  exact ⟨rfl, Below.refl _ _⟩
theorem askNone (k : Nat) (w : World) : AskFn 11 #[] (fD (noneD k)) (k : Int) w := by
  intro W u n a c hn hu hn2 hb hs
  rw [none_f]
  go_enter Try.func11, Try.ntmps11
  go_wp2_with fail
  go_ret
  exact ⟨rfl, Below.refl _ _⟩
theorem askDfa (x : Dfa) (hx : Right x) (tb : Nat) (aa an : Option Addr) (ca cn : Nat) (w : World) (hb : w.heap[tb]? = some (.cells #[.int .i64 x.start, .slice aa x.acc.length ca, .slice an x.next.length cn] 25 (0, 0))) (hD : DfA x aa an ca cn w) : AskFn 13 #[.pointer (some ⟨tb, 0, none⟩)] (fD x) (x.width : Int) w := by
  intro W u n a c hn hu hn2 hbW hs
  subst hn
  have hd := hD.below hbW
  have HE := Lib.hid (endsE x hx u hu aa an a ca cn c W hd.A hd.N hs)
  obtain ⟨x0, x1, x2⟩ := bx_cells3 (bx_keep hb hbW)
  unfold fD
  obtain ⟨r, HR⟩ := nameIt (goodS x (runS x x.start u))
  obtain ⟨st, HST⟩ := nameIt x.start
  obtain ⟨la, HLA⟩ := nameIt x.acc.length
  obtain ⟨ln, HLN⟩ := nameIt x.next.length
  obtain ⟨n, HN⟩ := nameIt u.length
  rw [HR.out, HST.out, HLA.out, HLN.out, HN.out] at HE
  rw [HST.out] at x0
  rw [HLA.out] at x1
  rw [HLN.out] at x2
  rw [HR.out, HN.out]
  clear hb hD hd hs hu
  go_enter Try.func13, Try.ntmps13
  go_wp2_with fail
  with_reducible refine HE.out.mono ?_
  rintro e w1 ⟨rfl, hb1⟩
  go_wp2_with fail
  go_ret
  exact ⟨rfl, hb1⟩
theorem cmp2 (x : Dfa) (hx : Right x) (tb : Nat) (aa an : Option Addr) (ca cn : Nat) (w : World) (hb : w.heap[tb]? = some (.cells #[.int .i64 x.start, .slice aa x.acc.length ca, .slice an x.next.length cn] 25 (0, 0))) (hD : DfA x aa an ca cn w) : EqFn 6 #[.pointer (some ⟨tb, 0, none⟩)] x w := by
  intro W y ba bn da dn hy hyw hys hDy hbW
  obtain ⟨w0, HW0⟩ := nameIt (W.alloc (.cells #[.int .i64 0, .slice ba y.acc.length da, .slice bn y.next.length dn] 25))
  have hb0 : Below W.heap.size W w0 := by rw [← HW0.out]; exact (Below.refl _ _).alloc (Nat.le_refl _) _
  have hy0 : w0.heap[W.heap.size]? = some (.cells #[.int .i64 0, .slice ba y.acc.length da, .slice bn y.next.length dn] 25 (0, 0)) := by rw [← HW0.out]; exact bx_new _ _ _ rfl
  have HAP := Lib.hid (apartE x y hx hy hyw.symm aa an ba bn ca cn da dn w0 ((hD.below hbW).below hb0) (hDy.below hb0))
  obtain ⟨x0, x1, x2⟩ := bx_cells3 (bx_keep (bx_keep hb hbW) hb0)
  obtain ⟨y0, y1, y2⟩ := bx_cells3 hy0
  have HB := Lib.hid hb0
  have HXX := Lib.hid hx
  have HYY := Lib.hid hy
  rw [hys] at HAP
  obtain ⟨PST, HP⟩ := nameIt (EqPost x y W)
  rw [HP.out]
  obtain ⟨st, HST⟩ := nameIt x.start
  obtain ⟨la, HLA⟩ := nameIt x.acc.length
  obtain ⟨ln, HLN⟩ := nameIt x.next.length
  obtain ⟨lb, HLB⟩ := nameIt y.acc.length
  obtain ⟨lm, HLM⟩ := nameIt y.next.length
  rw [HST.out, HLA.out, HLN.out, HLB.out, HLM.out] at HAP
  rw [HLB.out, HLM.out] at HW0
  rw [HST.out] at x0
  rw [HLA.out] at x1
  rw [HLN.out] at x2
  rw [HLB.out] at y1
  rw [HLM.out] at y2
  have HYS := Lib.hid hys
  rw [HLB.out, HLM.out]
  clear hb hD hb0 hy0 hDy hbW hx hy hyw hys
  go_enter Try.func6, Try.ntmps6
  go_upto_region 1 with fail
  rw [HW0.out]
  go_wp2_with fail
  with_reducible refine HAP.out.mono ?_
  rintro e w1 ⟨hb1, hpost⟩
  have HB1 := Lib.hid (HB.out.trans (hb1.mono HB.out.size))
  rcases hpost with ⟨u, a1, n1, c1, hL, rfl, hs1⟩ | ⟨hfar, rfl⟩
  · have HE : Hid (PST (.returned (.tuple #[.bool false, .slice a1 n1 c1])) w1) := by
      rw [← HP.out]
      exact ⟨HB1.out, .inl ⟨u, a1, n1, c1, hL, rfl, hs1⟩⟩
    clear hL hs1 hb1 x0 x1 x2 y0 y1 y2
    go_wp2_with fail
    exact HE.out
  · have HE : Hid (PST (.returned (.tuple #[.bool true, .slice none 0 0])) w1) := by
      rw [← HP.out]
      have h1 := HXX.out.states
      have h2 := HYY.out.states
      exact ⟨HB1.out, .inr ⟨alike_of_far HXX.out HYY.out (N := inf) (by unfold inf; omega) hfar, none, 0, 0, rfl⟩⟩
    clear hfar hb1 x0 x1 x2 y0 y1 y2
    go_wp2_with fail
    exact HE.out
theorem cmp4 (x : Dfa) (hx : Right x) (tb : Nat) (aa an : Option Addr) (ca cn : Nat) (w : World) (hb : w.heap[tb]? = some (.cells #[.int .i64 x.start, .slice aa x.acc.length ca, .slice an x.next.length cn] 25 (0, 0))) (hD : DfA x aa an ca cn w) : EqFn 12 #[.pointer (some ⟨tb, 0, none⟩)] x w := by
  intro W y ba bn da dn hy hyw hys hDy hbW
  obtain ⟨w0, HW0⟩ := nameIt (W.alloc (.cells #[.int .i64 0, .slice ba y.acc.length da, .slice bn y.next.length dn] 25))
  have hb0 : Below W.heap.size W w0 := by rw [← HW0.out]; exact (Below.refl _ _).alloc (Nat.le_refl _) _
  have hy0 : w0.heap[W.heap.size]? = some (.cells #[.int .i64 0, .slice ba y.acc.length da, .slice bn y.next.length dn] 25 (0, 0)) := by rw [← HW0.out]; exact bx_new _ _ _ rfl
  have HAP := Lib.hid (apartE x y hx hy hyw.symm aa an ba bn ca cn da dn w0 ((hD.below hbW).below hb0) (hDy.below hb0))
  obtain ⟨x0, x1, x2⟩ := bx_cells3 (bx_keep (bx_keep hb hbW) hb0)
  obtain ⟨y0, y1, y2⟩ := bx_cells3 hy0
  have HB := Lib.hid hb0
  have HXX := Lib.hid hx
  have HYY := Lib.hid hy
  rw [hys] at HAP
  obtain ⟨PST, HP⟩ := nameIt (EqPost x y W)
  rw [HP.out]
  obtain ⟨st, HST⟩ := nameIt x.start
  obtain ⟨la, HLA⟩ := nameIt x.acc.length
  obtain ⟨ln, HLN⟩ := nameIt x.next.length
  obtain ⟨lb, HLB⟩ := nameIt y.acc.length
  obtain ⟨lm, HLM⟩ := nameIt y.next.length
  rw [HST.out, HLA.out, HLN.out, HLB.out, HLM.out] at HAP
  rw [HLB.out, HLM.out] at HW0
  rw [HST.out] at x0
  rw [HLA.out] at x1
  rw [HLN.out] at x2
  rw [HLB.out] at y1
  rw [HLM.out] at y2
  have HYS := Lib.hid hys
  rw [HLB.out, HLM.out]
  clear hb hD hb0 hy0 hDy hbW hx hy hyw hys
  go_enter Try.func12, Try.ntmps12
  go_upto_region 1 with fail
  rw [HW0.out]
  go_wp2_with fail
  with_reducible refine HAP.out.mono ?_
  rintro e w1 ⟨hb1, hpost⟩
  have HB1 := Lib.hid (HB.out.trans (hb1.mono HB.out.size))
  rcases hpost with ⟨u, a1, n1, c1, hL, rfl, hs1⟩ | ⟨hfar, rfl⟩
  · have HE : Hid (PST (.returned (.tuple #[.bool false, .slice a1 n1 c1])) w1) := by
      rw [← HP.out]
      exact ⟨HB1.out, .inl ⟨u, a1, n1, c1, hL, rfl, hs1⟩⟩
    clear hL hs1 hb1 x0 x1 x2 y0 y1 y2
    go_wp2_with fail
    exact HE.out
  · have HE : Hid (PST (.returned (.tuple #[.bool true, .slice none 0 0])) w1) := by
      rw [← HP.out]
      have h1 := HXX.out.states
      have h2 := HYY.out.states
      exact ⟨HB1.out, .inr ⟨alike_of_far HXX.out HYY.out (N := inf) (by unfold inf; omega) hfar, none, 0, 0, rfl⟩⟩
    clear hfar hb1 x0 x1 x2 y0 y1 y2
    go_wp2_with fail
    exact HE.out
theorem cmp6 (x : Dfa) (hx : Right x) (tb : Nat) (aa an : Option Addr) (ca cn : Nat) (w : World) (hb : w.heap[tb]? = some (.cells #[.int .i64 x.start, .slice aa x.acc.length ca, .slice an x.next.length cn] 25 (0, 0))) (hD : DfA x aa an ca cn w) : EqFn 15 #[.pointer (some ⟨tb, 0, none⟩)] x w := by
  intro W y ba bn da dn hy hyw hys hDy hbW
  obtain ⟨w0, HW0⟩ := nameIt (W.alloc (.cells #[.int .i64 0, .slice ba y.acc.length da, .slice bn y.next.length dn] 25))
  have hb0 : Below W.heap.size W w0 := by rw [← HW0.out]; exact (Below.refl _ _).alloc (Nat.le_refl _) _
  have hy0 : w0.heap[W.heap.size]? = some (.cells #[.int .i64 0, .slice ba y.acc.length da, .slice bn y.next.length dn] 25 (0, 0)) := by rw [← HW0.out]; exact bx_new _ _ _ rfl
  have HAP := Lib.hid (apartE x y hx hy hyw.symm aa an ba bn ca cn da dn w0 ((hD.below hbW).below hb0) (hDy.below hb0))
  obtain ⟨x0, x1, x2⟩ := bx_cells3 (bx_keep (bx_keep hb hbW) hb0)
  obtain ⟨y0, y1, y2⟩ := bx_cells3 hy0
  have HB := Lib.hid hb0
  have HXX := Lib.hid hx
  have HYY := Lib.hid hy
  rw [hys] at HAP
  obtain ⟨PST, HP⟩ := nameIt (EqPost x y W)
  rw [HP.out]
  obtain ⟨st, HST⟩ := nameIt x.start
  obtain ⟨la, HLA⟩ := nameIt x.acc.length
  obtain ⟨ln, HLN⟩ := nameIt x.next.length
  obtain ⟨lb, HLB⟩ := nameIt y.acc.length
  obtain ⟨lm, HLM⟩ := nameIt y.next.length
  rw [HST.out, HLA.out, HLN.out, HLB.out, HLM.out] at HAP
  rw [HLB.out, HLM.out] at HW0
  rw [HST.out] at x0
  rw [HLA.out] at x1
  rw [HLN.out] at x2
  rw [HLB.out] at y1
  rw [HLM.out] at y2
  have HYS := Lib.hid hys
  rw [HLB.out, HLM.out]
  clear hb hD hb0 hy0 hDy hbW hx hy hyw hys
  go_enter Try.func15, Try.ntmps15
  go_upto_region 1 with fail
  rw [HW0.out]
  go_wp2_with fail
  with_reducible refine HAP.out.mono ?_
  rintro e w1 ⟨hb1, hpost⟩
  have HB1 := Lib.hid (HB.out.trans (hb1.mono HB.out.size))
  rcases hpost with ⟨u, a1, n1, c1, hL, rfl, hs1⟩ | ⟨hfar, rfl⟩
  · have HE : Hid (PST (.returned (.tuple #[.bool false, .slice a1 n1 c1])) w1) := by
      rw [← HP.out]
      exact ⟨HB1.out, .inl ⟨u, a1, n1, c1, hL, rfl, hs1⟩⟩
    clear hL hs1 hb1 x0 x1 x2 y0 y1 y2
    go_wp2_with fail
    exact HE.out
  · have HE : Hid (PST (.returned (.tuple #[.bool true, .slice none 0 0])) w1) := by
      rw [← HP.out]
      have h1 := HXX.out.states
      have h2 := HYY.out.states
      exact ⟨HB1.out, .inr ⟨alike_of_far HXX.out HYY.out (N := inf) (by unfold inf; omega) hfar, none, 0, 0, rfl⟩⟩
    clear hfar hb1 x0 x1 x2 y0 y1 y2
    go_wp2_with fail
    exact HE.out
theorem ofArg (k : Int) (hk : k < 1 ∨ 16 < k) (v1 v2 : Value) (w : World) :
    Calls Try.prog 4 #[.int .i64 k, v1, v2] w fun e w' => e = .returned (.tuple #[.agg #[.int .i64 0, .slice none 0 0, .slice none 0 0], .int .i64 1]) ∧ Below w.heap.size w w' := by
  obtain ⟨w0, HW0⟩ := nameIt (w.alloc (.cells #[.int .i64 0, .slice none 0 0, .slice none 0 0] 25))
  have hb0 : Below w.heap.size w w0 := by rw [← HW0.out]; exact (Below.refl _ _).alloc (Nat.le_refl _) _
  have hx0 : w0.heap[w.heap.size]? = some (.cells #[.int .i64 0, .slice none 0 0, .slice none 0 0] 25 (0, 0)) := by rw [← HW0.out]; exact bx_new _ _ _ rfl
  obtain ⟨x0, x1, x2⟩ := bx_cells3 hx0
  obtain ⟨f0, f1, f2⟩ := bx_free3 hx0
  have HX := Lib.hid hx0
  have HB := Lib.hid hb0
  obtain ⟨PST, HP⟩ := nameIt (fun (e : Ending) (w' : World) => e = .returned (.tuple #[.agg #[.int .i64 0, .slice none 0 0, .slice none 0 0], .int .i64 1]) ∧ Below w.heap.size w w')
  have HFIN : Hid (∀ w', Below w.heap.size w w' → PST (.returned (.tuple #[.agg #[.int .i64 0, .slice none 0 0, .slice none 0 0], .int .i64 1])) w') := fun w' h => by rw [← HP.out]; exact ⟨rfl, h⟩
  rw [HP.out]
  clear hx0 hb0 HP
  by_cases h1 : k < 1
  · have hd1 : decide (k < 1) = true := decide_eq_true h1
    go_enter Try.func4, Try.ntmps4
    go_upto_region 1 with fail
    rw [HW0.out]
    go_wp2_with fail
    obtain ⟨j0, j1, j2⟩ := bx_cells3 (bx_set3 HX.out (.int .i64 0) (.slice none 0 0) (.slice none 0 0))
    refine bodyPost_ret (v := .tuple #[.agg #[.int .i64 0, .slice none 0 0, .slice none 0 0], .int .i64 1]) (by simp [results, Try.results4, go_sem, j0, j1, j2]) rfl ?_
    exact HFIN.out _ (((HB.out.setCell (p := ⟨w.heap.size, 0, none⟩) (Nat.le_refl _) _).setCell (p := ⟨w.heap.size, 1, none⟩) (Nat.le_refl _) _).setCell (p := ⟨w.heap.size, 2, none⟩) (Nat.le_refl _) _)
  · have h2 : 16 < k := hk.resolve_left h1
    have hd1 : decide (k < 1) = false := decide_eq_false h1
    have hd2 : decide (16 < k) = true := decide_eq_true h2
    go_enter Try.func4, Try.ntmps4
    go_upto_region 1 with fail
    rw [HW0.out]
    go_wp2_with fail
    obtain ⟨j0, j1, j2⟩ := bx_cells3 (bx_set3 HX.out (.int .i64 0) (.slice none 0 0) (.slice none 0 0))
    refine bodyPost_ret (v := .tuple #[.agg #[.int .i64 0, .slice none 0 0, .slice none 0 0], .int .i64 1]) (by simp [results, Try.results4, go_sem, j0, j1, j2]) rfl ?_
    exact HFIN.out _ (((HB.out.setCell (p := ⟨w.heap.size, 0, none⟩) (Nat.le_refl _) _).setCell (p := ⟨w.heap.size, 1, none⟩) (Nat.le_refl _) _).setCell (p := ⟨w.heap.size, 2, none⟩) (Nat.le_refl _) _)
theorem rightE (x : Dfa) (aa an : Option Addr) (ca cn : Nat) (w : World) (hD : DfA x aa an ca cn w) :
    Calls Try.prog 10 #[.agg #[.int .i64 x.start, .slice aa x.acc.length ca, .slice an x.next.length cn]] w fun e w' => e = .returned (.bool (decide (dfaErr x = 0))) ∧ Below w.heap.size w w' := by
  obtain ⟨w0, HW0⟩ := nameIt (w.alloc (.cells #[.int .i64 x.start, .slice aa x.acc.length ca, .slice an x.next.length cn] 25))
  have hb0 : Below w.heap.size w w0 := by rw [← HW0.out]; exact (Below.refl _ _).alloc (Nat.le_refl _) _
  have hx0 : w0.heap[w.heap.size]? = some (.cells #[.int .i64 x.start, .slice aa x.acc.length ca, .slice an x.next.length cn] 25 (0, 0)) := by rw [← HW0.out]; exact bx_new _ _ _ rfl
  have hd := hD.below hb0
  have HF := Lib.hid (faultE x aa an ca cn w0 hd.A hd.N)
  obtain ⟨x0, x1, x2⟩ := bx_cells3 hx0
  have HB := Lib.hid hb0
  obtain ⟨E, HE⟩ := nameIt (dfaErr x)
  obtain ⟨st, HST⟩ := nameIt x.start
  obtain ⟨la, HLA⟩ := nameIt x.acc.length
  obtain ⟨ln, HLN⟩ := nameIt x.next.length
  rw [HE.out, HST.out, HLA.out, HLN.out] at HF
  rw [HST.out] at x0
  rw [HLA.out] at x1
  rw [HLN.out] at x2
  rw [HST.out, HLA.out, HLN.out] at HW0
  rw [HE.out, HST.out, HLA.out, HLN.out]
  clear hx0 hb0 hd hD
  go_enter Try.func10, Try.ntmps10
  go_upto_region 1 with fail
  rw [HW0.out]
  go_wp2_with fail
  with_reducible refine HF.out.mono ?_
  rintro e w1 ⟨rfl, hb1⟩
  have HB1 := Lib.hid (HB.out.trans (hb1.mono HB.out.size))
  clear hb1 x0 x1 x2
  go_wp2_with fail
  go_ret
  exact ⟨rfl, HB1.out⟩
/-- mini.Min of a valid flat automaton -/
theorem minE (x : Dfa) (hx : Right x) (he : dfaErr x = 0) (hf : Flat x) (aa an : Option Addr) (ca cn : Nat) (w : World) (hD : DfA x aa an ca cn w) :
    Calls Try.prog 16 #[.agg #[.int .i64 x.start, .slice aa x.acc.length ca, .slice an x.next.length cn]] w fun e w' => ∃ (P : Nat → Int) (aa an : Option Addr) (ca cn : Nat), Num x P ∧ e = .returned (.tuple #[.agg #[.int .i64 0, .slice aa (canonD x P x.next.length).acc.length ca, .slice an (canonD x P x.next.length).next.length cn], .int .i64 0]) ∧
      Sl w' (.slice aa (canonD x P x.next.length).acc.length ca) (ints (canonD x P x.next.length).acc) ∧ Rd AnyB w' (.sl ((canonD x P x.next.length).next.map D.ints)) [.slice an (canonD x P x.next.length).next.length cn] ∧ Below w.heap.size w w' := by
  obtain ⟨w0, HW0⟩ := nameIt ((w.alloc (.cells #[.int .i64 x.start, .slice aa x.acc.length ca, .slice an x.next.length cn] 25)).alloc (.cells #[.int .i64 0, .slice none 0 0, .slice none 0 0] 25))
  have hb0 : Below w.heap.size w w0 := by rw [← HW0.out]; exact ((Below.refl _ _).alloc (Nat.le_refl _) _).alloc (by simp) _
  have hx0 : w0.heap[w.heap.size]? = some (.cells #[.int .i64 x.start, .slice aa x.acc.length ca, .slice an x.next.length cn] 25 (0, 0)) := by rw [← HW0.out]; exact bx_keep (bx_new _ _ _ rfl) ((Below.refl _ _).alloc (Nat.le_refl _) _)
  have hy0 : w0.heap[w.heap.size + 1]? = some (.cells #[.int .i64 0, .slice none 0 0, .slice none 0 0] 25 (0, 0)) := by rw [← HW0.out]; exact bx_new _ _ _ (by simp)
  have hacl := hx.accs
  have HCH : Hid (Calls Try.prog 26 #[.agg #[.int .i64 x.start, .slice aa x.acc.length ca, .slice an x.next.length cn]] w0 fun e w' => e = .returned (.int .i64 (dfaErr x)) ∧ Below w0.heap.size w0 w') := checkE x aa an ca cn w0 (hD.below hb0).A (hD.below hb0).N
  have HCA : Hid (∀ W, Below w0.heap.size w0 W → Calls Try.prog 18 #[.agg #[.int .i64 x.start, .slice aa x.acc.length ca, .slice an x.next.length cn]] W (CanonPost x x.next.length W)) := fun W hb => by
    have hd := (hD.below hb0).below hb
    have h := canonE x hx (fun v hv => by have := hf v hv; omega) aa an ca cn x.next.length rfl W (by rw [← hacl]; exact hd.A) hd.N
    rw [hacl]
    exact h
  rw [he] at HCH
  have HX0 := Lib.hid hx0
  have HY0 := Lib.hid hy0
  have HB := Lib.hid hb0
  have HXX := Lib.hid hx
  have HFL := Lib.hid hf
  have hws : w.heap.size + 1 < w0.heap.size := (Array.getElem?_eq_some_iff.1 hy0).1
  obtain ⟨PST, HP⟩ := nameIt (fun (e : Ending) (w' : World) => ∃ (P : Nat → Int) (aa an : Option Addr) (ca cn : Nat), Num x P ∧ e = .returned (.tuple #[.agg #[.int .i64 0, .slice aa (canonD x P x.next.length).acc.length ca, .slice an (canonD x P x.next.length).next.length cn], .int .i64 0]) ∧
      Sl w' (.slice aa (canonD x P x.next.length).acc.length ca) (ints (canonD x P x.next.length).acc) ∧ Rd AnyB w' (.sl ((canonD x P x.next.length).next.map D.ints)) [.slice an (canonD x P x.next.length).next.length cn] ∧ Below w.heap.size w w')
  rw [HP.out]
  obtain ⟨st, HST⟩ := nameIt x.start
  obtain ⟨la, HLA⟩ := nameIt x.acc.length
  obtain ⟨ln, HLN⟩ := nameIt x.next.length
  rw [HST.out, HLA.out, HLN.out] at HCH HX0 HW0
  simp only [HST.out, HLA.out, HLN.out] at HCA
  rw [HST.out, HLA.out, HLN.out]
  obtain ⟨x0, x1, x2⟩ := bx_cells3 HX0.out
  clear hx0 hy0 hb0 hD hx he hf hacl
  go_enter Try.func16, Try.ntmps16
  go_upto_region 1 with fail
  rw [HW0.out]
  go_wp2_with fail
  with_reducible refine HCH.out.mono ?_
  rintro e w1 ⟨rfl, hb1⟩
  have HB1 := Lib.hid hb1
  have HC1 := Lib.hid (HCA.out w1 hb1)
  obtain ⟨y0, y1, y2⟩ := bx_cells3 (bx_keep HX0.out hb1)
  clear x0 x1 x2 hb1
  go_wp2_with fail
  with_reducible refine HC1.out.mono ?_
  rintro e w2 ⟨M, j, aa2, an2, ca2, cn2, hM, hst, rfl, hA2, hN2, hb2⟩
  have hnum := num_of HXX.out HFL.out HLN.out hM hst
  have HNUM := Lib.hid hnum
  obtain ⟨P, HPP⟩ := nameIt (ptI x M ln (j + 1))
  rw [HPP.out] at HNUM hA2 hN2 ⊢
  have hb02 := HB1.out.trans (hb2.mono HB1.out.size)
  have hy2 := bx_keep HY0.out hb02
  have HY2 := Lib.hid hy2
  have HA2 := Lib.hid hA2
  have HN2 := Lib.hid hN2
  have HB02 := Lib.hid hb02
  obtain ⟨la2, HLA2⟩ := nameIt (canonD x P ln).acc.length
  obtain ⟨ln2, HLN2⟩ := nameIt (canonD x P ln).next.length
  rw [HLA2.out, HLN2.out]
  obtain ⟨z0, z1, z2⟩ := bx_cells3 hy2
  obtain ⟨f0, f1, f2⟩ := bx_free3 hy2
  clear hnum hM hst hA2 hN2 hb2 hb02 hy2 y0 y1 y2
  go_wp2_with fail
  obtain ⟨j0, j1, j2⟩ := bx_cells3 (bx_set3 HY2.out (.int .i64 0) (.slice aa2 la2 ca2) (.slice an2 ln2 cn2))
  refine bodyPost_ret (v := .tuple #[.agg #[.int .i64 0, .slice aa2 la2 ca2, .slice an2 ln2 cn2], .int .i64 0]) (by simp [results, Try.results16, go_sem, j0, j1, j2]) rfl ?_
  have g3 := grown_box3 (w.heap.size + 1) w2 (.int .i64 0) (.slice aa2 la2 ca2) (.slice an2 ln2 cn2)
  have hz1 := HB1.out.size
  have hz2 := HB02.out.size
  rw [← HP.out]
  refine ⟨P, aa2, an2, ca2, cn2, HNUM.out, (by rw [HLN.out, HLA2.out, HLN2.out]), ?_, ?_, ?_⟩
  · rw [HLN.out, HLA2.out]
    have h1 := HA2.out
    rw [HLA2.out] at h1
    exact sl_rd (Rd.keep (S' := AnyB) (fun q hq hl => ⟨trivial, g3.block q hl (fun e => by have e2 := Option.some.inj e; have h2 : w1.heap.size ≤ q := hq; omega)⟩) _ _ h1)
  · rw [HLN.out, HLN2.out]
    have h1 := HN2.out
    rw [HLN2.out] at h1
    exact Rd.keep (S' := AnyB) (fun q hq hl => ⟨trivial, g3.block q hl (fun e => by have e2 := Option.some.inj e; have h2 : w1.heap.size ≤ q := hq; omega)⟩) _ _ h1
  · have h1 := HB.out.trans (HB02.out.mono HB.out.size)
    exact ((h1.setCell (p := ⟨w.heap.size + 1, 0, none⟩) (by show _ ≤ w.heap.size + 1; omega) _).setCell (p := ⟨w.heap.size + 1, 1, none⟩) (by show _ ≤ w.heap.size + 1; omega) _).setCell (p := ⟨w.heap.size + 1, 2, none⟩) (by show _ ≤ w.heap.size + 1; omega) _
end Lr
end Go.Proofs.Ytclpmmbclgihbaa
namespace Go.Proofs.Ytclpmmbclgihbaa
open Go.RowKit
namespace Lr
open Df

set_option maxHeartbeats 4000000 in
set_option maxRecDepth 100000 in
theorem equalTabs (L : List (List Int)) (a a' : Option Addr) (c c' : Nat) (w : World) (h : Rd AnyB w (.sl (L.map D.ints)) [.slice a L.length c]) (h' : Rd AnyB w (.sl (L.map D.ints)) [.slice a' L.length c']) :
    Calls Try.prog 8 #[.slice a L.length c, .slice a' L.length c', .func (.func 9) #[] #[]] w fun e w' => e = .returned (.bool true) ∧ Below w.heap.size w w' := by
  have hc := h.bounds.2
  unfold maxLen at hc
  obtain ⟨hc1, hc2⟩ := hc
  have H1 := Lib.hid h
  have H2 := Lib.hid h'
  have eg : ∀ args w, (callFunc 9 args).run Try.prog w = .ok (.enter 9 args) w := fun _ _ => by kernel_rfl
  obtain ⟨n, HN⟩ := nameIt L.length
  rw [HN.out] at H1 H2 hc1
  rw [HN.out]
  clear h h'
  go_enter Try.func8, Try.ntmps8
  go_wp2_with fail
  go_loopg [17] n (fun gg v17 wr => ∃ i : Nat, i ≤ n ∧ n - i ≤ gg ∧ v17 = .int .i64 i ∧ Hid (Below w.heap.size w wr))
  case atStart => exact ⟨0, by omega, by omega, rfl, Below.refl _ _⟩
  case round =>
    obtain ⟨i, hi, hg, rfl, HB⟩ := hrel
    obtain ⟨w1, rfl⟩ : ∃ ww : World, ww = wr := ⟨_, rfl⟩
    by_cases hlt : i < n
    · have hlt' : (i : Int) < (n : Int) := by omega
      have hi0 : (0 : Int) ≤ (i : Int) := by omega
      have hix : i < L.length := by rw [HN.out]; exact hlt
      obtain ⟨b, off, v, hae, c0, hsl⟩ := Rd.rowI_at (H1.out.below HB.out) hix
      obtain ⟨b', off', v', hae', c1, hsl'⟩ := Rd.rowI_at (H2.out.below HB.out) hix
      have HEQ := Lib.hid (fun W (hb : Below w1.heap.size w1 W) => equal v v' L[i] L[i] W (hsl.keep hb) (hsl'.keep hb))
      simp only [beq_self_eq_true] at HEQ
      obtain ⟨a0, k0, rfl⟩ := hsl.form
      obtain ⟨a1, k1, rfl⟩ := hsl'.form
      obtain ⟨m, HM⟩ := nameIt (ints L[i]).length
      rw [HM.out] at c0 c1 HEQ
      subst hae hae'
      clear hsl hsl'
      go_wp2_with fail
      refine (HEQ.out _ (Below.refl _ _)).mono ?_
      rintro e w2 ⟨rfl, hb2⟩
      have HB2 := Lib.hid (HB.out.trans (hb2.mono HB.out.size))
      clear hb2 c0 c1
      go_wp2_with fail
      go_roundg (n - (i + 1))
      case measure => omega
      case rel => exact ⟨i + 1, by omega, by omega, by go_num, HB2⟩
    · have hlt' : ¬ (i : Int) < (n : Int) := by omega
      go_wp2_with fail
      go_ret
      exact ⟨rfl, HB.out⟩
end Lr
end Go.Proofs.Ytclpmmbclgihbaa
namespace Go.Proofs.Ytclpmmbclgihbaa
open Go.RowKit Go.ChangeShapes Go.WideShapes Go.Deep

/-- data of a type read as plain data, as far as the fuel N goes: sz: at most its bulk; ok: what its numbers keep; lim: what the reach gives -/
def OpensF {α : Type} (P : Program) (t : TypeId) (e : α → D) (sz : α → Nat) (ok lim : α → Prop) (N : Nat) : Prop :=
  ∀ (H : Type) (enc : TypeId × Value → H) (w : World) (n : Nat) (cs : List Value) (x : DataW H × List MemPlace), n ≤ N → DataW.trod enc P w 0 (fun _ => true) true n t cs = some x →
    ∃ a : α, Rd AnyB w (e a) cs ∧ sz a ≤ Rows.uptoBulk x.1 ∧ ok a ∧ ((∀ y ∈ DataW.weights P t x.1, y ≤ reachBytes) → lim a)
def Opens {α : Type} (P : Program) (t : TypeId) (e : α → D) (sz : α → Nat) (ok lim : α → Prop) : Prop := ∀ N, OpensF P t e sz ok lim N

def i64 (n : Int) : Prop := -9223372036854775808 ≤ n ∧ n ≤ 9223372036854775807
def one {α : Type} (_ : α) : Nat := 1
def any {α : Type} (_ : α) : Prop := True

theorem opens_int {P : Program} {t : TypeId} (ht : P.underlying t = some (.int .i64)) : Opens P t D.int one i64 any := by
  intro N H enc w n cs x _ h
  obtain ⟨z, h1, h2, h3⟩ := DataW.trod_int ht h
  subst h1 h2
  refine ⟨z, rfl, by simp [Rows.uptoBulk, one], ?_, fun _ => trivial⟩
  simpa [Lit.wf, IntKind.min, IntKind.max, IntKind.signed, IntKind.bits, i64] using h3
theorem bulkAll_append {H : Type} (l r : List (DataW H)) : Rows.uptoBulkAll (l ++ r) = Rows.uptoBulkAll l + Rows.uptoBulkAll r := by
  induction l with
  | nil => simp [Rows.uptoBulkAll]
  | cons x l ih => simp only [List.cons_append, Rows.uptoBulkAll, ih]; omega
theorem weightsAll_append {H : Type} (P : Program) (e : TypeId) (l r : List (DataW H)) : DataW.weightsAll P e (l ++ r) = DataW.weightsAll P e l ++ DataW.weightsAll P e r := by
  induction l with
  | nil => simp [DataW.weightsAll]
  | cons x l ih => simp [DataW.weightsAll, ih]

def slD {α : Type} (e : α → D) (l : List α) : D := .sl (l.map e)
def slSz {α : Type} (sz : α → Nat) (l : List α) : Nat := (l.map sz).sum + 1
def slOk {α : Type} (ok : α → Prop) (l : List α) : Prop := ∀ a ∈ l, ok a
def slLim {α : Type} (b : Nat) (lim : α → Prop) (l : List α) : Prop := l.length * b ≤ reachBytes ∧ ∀ a ∈ l, lim a

theorem opens_slice {α : Type} {P : Program} {t el : TypeId} {e : α → D} {sz : α → Nat} {ok lim : α → Prop} {N b : Nat} (ht : P.underlying t = some (.slice el)) (hby : P.bytesOf el = b) (ho : OpensF P el e sz ok lim N) :
    OpensF P t (slD e) (slSz sz) (slOk ok) (slLim b lim) N := by
  intro H enc w n cs x hn h
  rcases DataW.trod_slice ht h with ⟨rfl, rfl⟩ | ⟨a, len, cap, elems, rest, n', hf, rfl, rfl, hb, hl, hm, hlen, hel, _, _⟩
  · exact ⟨[], ⟨none, 0, [], rfl, by simp, by simp [maxLen], fun _ => rfl, fun i hi => by simp at hi, rfl⟩, by simp [Rows.uptoBulk, slSz], by simp [slOk], fun _ => ⟨by simp, by simp⟩⟩
  · have key : ∀ k, k ≤ len → ∃ (l : List α) (L : List Value), l.length = k ∧ RdAll AnyB w (l.map e) L ∧ L.length = k * P.cellsOf el ∧ (∀ j (hj : j < L.length), w.cell? (a.add j) = some L[j]) ∧
        (l.map sz).sum ≤ Rows.uptoBulkAll ((elems.take k).map (·.1)) ∧ slOk ok l ∧ ((∀ y ∈ DataW.weightsAll P el ((elems.take k).map (·.1)), y ≤ reachBytes) → ∀ a ∈ l, lim a) := by
      intro k
      induction k with
      | zero => intro _; exact ⟨[], [], rfl, by simp [RdAll], by simp, fun j hj => by simp at hj, by simp, by simp [slOk], fun _ => by simp⟩
      | succ k ih =>
        intro hk
        obtain ⟨l, L, h1, h2, h3, h4, h5, h6, h7⟩ := ih (by omega)
        have hk' : k < elems.length := by omega
        have he := hel k (by omega)
        rw [List.getElem?_eq_getElem hk'] at he
        obtain ⟨cs', hc1, hc2⟩ := Option.bind_eq_some_iff.1 he
        obtain ⟨a', r1, r2, r3, r4⟩ := ho H enc w n' cs' elems[k] (by omega) hc2
        obtain ⟨_, hcl, hcc⟩ := World.cells?_some hc1
        refine ⟨l ++ [a'], L ++ cs', by simp [h1], by rw [List.map_append]; exact RdAll.append h2 (RdAll.one r1), by simp [h3, hcl, Nat.add_mul], ?_, ?_, ?_, ?_⟩
        · intro j hj
          by_cases hjl : j < L.length
          · rw [List.getElem_append_left hjl]; exact h4 j hjl
          · simp at hj
            rw [List.getElem_append_right (by omega)]
            have := hcc (j - L.length) (by omega)
            rw [Deep.add_add, ← h3, show L.length + (j - L.length) = j by omega] at this
            rw [this, List.getElem?_eq_getElem (by omega)]
        · rw [List.take_succ_eq_append_getElem hk', List.map_append, List.map_append, bulkAll_append]
          simp [Rows.uptoBulkAll]
          simp at h5
          omega
        · intro y hy
          rcases List.mem_append.1 hy with h | h
          · exact h6 y h
          · simp at h; subst h; exact r3
        · intro hw y hy
          rw [List.take_succ_eq_append_getElem hk', List.map_append, weightsAll_append] at hw
          rcases List.mem_append.1 hy with h | h
          · exact h7 (fun z hz => hw z (List.mem_append_left _ hz)) y h
          · simp at h; subst h
            exact r4 (fun z hz => hw z (List.mem_append_right _ (by simpa [DataW.weightsAll] using hz)))
    obtain ⟨l, L, h1, h2, h3, h4, h5, h6, h7⟩ := key len (Nat.le_refl _)
    rw [List.take_of_length_le (by omega)] at h5 h7
    refine ⟨l, ⟨some a, cap, L, by simp [h1], by simpa [h1] using hl, hm, (fun h => by cases h), fun i hi => ⟨a, rfl, trivial, h4 i hi⟩, h2⟩, ?_, h6, ?_⟩
    · simp only [Rows.uptoBulk, slSz]; omega
    · intro hw
      simp only [DataW.weights, ht] at hw
      refine ⟨?_, h7 fun y hy => hw y (by simp [hy])⟩
      have := hw ((elems.map (·.1)).length + (rest.map (·.1)).length |>.mul (P.bytesOf el)) (by left)
      rw [h1, ← hlen, ← hby]
      have h8 : elems.length * P.bytesOf el ≤ ((elems.map (·.1)).length + (rest.map (·.1)).length) * P.bytesOf el := Nat.mul_le_mul_right _ (by simp)
      exact Nat.le_trans h8 this

theorem split2 {cs : List Value} {c0 c1 : Nat} (h : cs.length = c0 + c1) : cs = (cs.drop 0).take c0 ++ (cs.drop c0).take c1 := by
  rw [List.drop_zero, List.take_of_length_le (l := cs.drop c0) (by simp; omega), List.take_append_drop]
theorem split3 {cs : List Value} {c0 c1 c2 : Nat} (h : cs.length = c0 + c1 + c2) : cs = (cs.drop 0).take c0 ++ ((cs.drop c0).take c1 ++ (cs.drop (c0 + c1)).take c2) := by
  rw [← List.drop_drop, ← split2' (cs := cs.drop c0) (by simp; omega)]
  simp
where
  split2' {cs : List Value} {c1 c2 : Nat} (h : cs.length = c1 + c2) : cs = cs.take c1 ++ (cs.drop c1).take c2 := by
    have := split2 h
    simpa using this
theorem opens_struct3 {α β γ δ : Type} {P : Program} {t : TypeId} {f0 f1 f2 : Field} {e0 : α → D} {e1 : β → D} {e2 : γ → D} {s0 : α → Nat} {s1 : β → Nat} {s2 : γ → Nat} {k0 l0 : α → Prop} {k1 l1 : β → Prop} {k2 l2 : γ → Prop} {N c0 c1 c2 : Nat} (mk : α → β → γ → δ) {e : δ → D} {sz : δ → Nat} {ok lim : δ → Prop}
    (ht : P.underlying t = some (.struct #[f0, f1, f2])) (ho : f0.offset = 0 ∧ f1.offset = c0 ∧ f2.offset = c0 + c1 ∧ P.cellsOf f0.type = c0 ∧ P.cellsOf f1.type = c1 ∧ P.cellsOf f2.type = c2 ∧ P.cellsOf t = c0 + c1 + c2)
    (h0 : OpensF P f0.type e0 s0 k0 l0 N) (h1 : OpensF P f1.type e1 s1 k1 l1 N) (h2 : OpensF P f2.type e2 s2 k2 l2 N)
    (he : ∀ a b c, e (mk a b c) = .agg [e0 a, e1 b, e2 c]) (hs : ∀ a b c, sz (mk a b c) ≤ s0 a + s1 b + s2 c + 1) (hk : ∀ a b c, k0 a → k1 b → k2 c → ok (mk a b c)) (hl : ∀ a b c, l0 a → l1 b → l2 c → lim (mk a b c)) : OpensF P t e sz ok lim (N + 1) := by
  intro H enc w n cs x hn h
  obtain ⟨xs, n', hf, rfl, hcl, hlen, hfs⟩ := DataW.trod_struct ht h
  obtain ⟨o0, o1, o2, p0, p1, p2, p3⟩ := ho
  match xs, hlen with
  | [y0, y1, y2], _ =>
    have g0 : DataW.trod enc P w 0 (fun _ => true) true n' f0.type ((cs.drop f0.offset).take (P.cellsOf f0.type)) = some y0 := by simpa using hfs 0 f0 rfl
    have g1 : DataW.trod enc P w 0 (fun _ => true) true n' f1.type ((cs.drop f1.offset).take (P.cellsOf f1.type)) = some y1 := by simpa using hfs 1 f1 rfl
    have g2 : DataW.trod enc P w 0 (fun _ => true) true n' f2.type ((cs.drop f2.offset).take (P.cellsOf f2.type)) = some y2 := by simpa using hfs 2 f2 rfl
    obtain ⟨a, r1, r2, r3, r4⟩ := h0 H enc w n' _ _ (by omega) g0
    obtain ⟨b, q1, q2, q3, q4⟩ := h1 H enc w n' _ _ (by omega) g1
    obtain ⟨c, u1, u2, u3, u4⟩ := h2 H enc w n' _ _ (by omega) g2
    rw [o0, p0] at r1
    rw [o1, p1] at q1
    rw [o2, p2] at u1
    refine ⟨mk a b c, ?_, ?_, hk a b c r3 q3 u3, fun hw => ?_⟩
    · rw [he, split3 (hcl.trans p3)]
      exact ⟨_, _, rfl, r1, _, _, rfl, q1, RdAll.one u1⟩
    · have := hs a b c
      simp [Rows.uptoBulk, Rows.uptoBulkAll]; omega
    · simp [DataW.weights, ht, DataW.weightsEach] at hw
      exact hl a b c (r4 fun y hy => hw y (by simp [hy])) (q4 fun y hy => hw y (by simp [hy])) (u4 fun y hy => hw y (by simp [hy]))

/-- the argument j -/
theorem open_arg {α : Type} {P : Program} {t : TypeId} {e : α → D} {sz : α → Nat} {ok lim : α → Prop} (ho : Opens P t e sz ok lim) {H : Type} {enc : TypeId × Value → H} {W : World} {v : Value} {d : DataW H} {p : List MemPlace} (h : DataW.Trod enc P W 0 (fun _ => true) true t v d p) :
    ∃ a : α, Rd AnyB W (e a) v.cells.toList ∧ sz a ≤ Rows.uptoBulk d ∧ ok a ∧ ((∀ y ∈ DataW.weights P t d, y ≤ reachBytes) → lim a) := by
  obtain ⟨n, hn⟩ := h
  exact ho n H enc W n _ _ (Nat.le_refl _) hn
end Go.Proofs.Ytclpmmbclgihbaa
namespace Go.Proofs.Ytclpmmbclgihbaa
open Go.RowKit Go.ChangeShapes Go.WideShapes Go.Deep
namespace Df

def szDfa (x : Dfa) : Nat := slSz one x.acc + slSz (slSz one) x.next
def okD (_ : Dfa) : Prop := True
theorem opens_row (N : Nat) : OpensF Try.prog 22 (slD D.int) (slSz one) (slOk i64) (slLim 8 any) N := opens_slice Try.underlying22 (by kernel_rfl) (opens_int Try.underlying3 N)
set_option maxRecDepth 100000 in
theorem opens_dfaF (N : Nat) : OpensF Try.prog 25 Dfa.d szDfa okD any (N + 1) :=
  opens_struct3 (c0 := 1) (c1 := 1) (c2 := 1) (fun a b c => Dfa.mk a b c) Try.underlying25 ⟨rfl, rfl, rfl, by kernel_rfl, by kernel_rfl, by kernel_rfl, by kernel_rfl⟩ (opens_int Try.underlying3 N) (opens_row N) (opens_slice Try.underlying23 (b := 24) (by kernel_rfl) (opens_row N))
    (fun _ _ _ => rfl) (fun _ _ _ => by simp [szDfa]; omega) (fun _ _ _ _ _ _ => trivial) (fun _ _ _ _ _ _ => trivial)
theorem opens_dfa : Opens Try.prog 25 Dfa.d szDfa okD any := by
  intro N H enc w n cs x hn h
  exact opens_dfaF N H enc w n cs x (by omega) h
set_option maxRecDepth 100000 in
theorem open_dfaV {W : World} {base : Nat} {v : Value} {x : Dfa} (hv : Value.okWide Try.prog W .any base 25 v) (h : Rd AnyB W x.d v.cells.toList) : ∃ u n, v = .agg #[.int .i64 x.start, u, n] ∧ Sl W u (ints x.acc) ∧ Rd AnyB W (.sl (x.next.map D.ints)) [n] := by
  obtain ⟨cs, rfl, hsz⟩ := okWide_struct Try.underlying25 hv
  obtain ⟨c1, r1, e1, h1, h2⟩ := h
  obtain ⟨c2, r2, rfl, h2, h3⟩ := h2
  rw [RdAll.one_iff] at h3
  simp [Rd] at h1
  subst h1
  have h2' := h2
  have h3' := h3
  obtain ⟨a, cap, L, e, _⟩ := h2
  subst e
  obtain ⟨a', cap', L', e', _⟩ := h3
  subst e'
  refine ⟨_, _, ?_, sl_rd h2', h3'⟩
  congr 1
  exact Array.toList_inj.1 e1
end Df
end Go.Proofs.Ytclpmmbclgihbaa
namespace Go.Proofs.Ytclpmmbclgihbaa
open Go.RowKit
namespace Lr
open Df Km Cl

theorem inv_setT {md : Region.Mode} {ops : Array Oper} {n i : Nat} {listed : Array Bool} (inv : HeadInv md ops n listed) (hr : (Region.ready md ops listed).contains i = true) (hin : i < n) : HeadInv md ops n (listed.setIfInBounds i true) := inv.set (by simpa using hr) hin
theorem sl_lit2 {w : World} {b : Nat} {u v : Value} {T : TypeId} (h : w.heap[b]? = some (.cells #[u, v] T (0, 0))) : Sl w (.slice (some ⟨b, 0, none⟩) 2 2) [u, v] := by
  obtain ⟨c0, c1⟩ := bx_cells2 h
  refine ⟨some ⟨b, 0, none⟩, 2, rfl, by simp, by simp [maxLen], (fun h => by cases h), fun i hi => ⟨_, rfl, ?_⟩⟩
  rw [add_at]
  match i, hi with
  | 0, _ => exact c0
  | 1, _ => exact c1
theorem rd_lit2 {S : Nat → Prop} {w : World} {b : Nat} {u v : Value} {T : TypeId} {d e : D} (h : w.heap[b]? = some (.cells #[u, v] T (0, 0))) (hb : S b) (hd : Rd S w d [u]) (he : Rd S w e [v]) : Rd S w (.sl [d, e]) [.slice (some ⟨b, 0, none⟩) 2 2] := by
  obtain ⟨c0, c1⟩ := bx_cells2 h
  refine ⟨some ⟨b, 0, none⟩, 2, [u, v], rfl, by simp, by simp [maxLen], (fun h => by cases h), fun i hi => ⟨_, rfl, hb, ?_⟩, ⟨[u], [v], rfl, hd, RdAll.one he⟩⟩
  rw [add_at]
  match i, hi with
  | 0, _ => exact c0
  | 1, _ => exact c1
theorem err_of_rightL {x : Dfa} (h : Right x) : dfaErr x = 0 := by
  obtain ⟨h1, h2, h3, h4, h5, h6, h7⟩ := h
  unfold dfaErr
  rw [if_neg (by omega), if_neg (by omega), if_neg (by omega), if_neg, if_neg]
  · rintro (h | h | ⟨v, hv, h⟩ | ⟨r, hr, v, hv, h | h⟩)
    · omega
    · omega
    · have := h6 v hv; omega
    · have := h7 r hr v hv; omega
    · have := h7 r hr v hv; omega
  · rintro ⟨r, hr, h⟩
    have := h4 r hr
    omega
/-- the first automaton, as it is made -/
theorem one_start (w : World) (s0 : Nat) (hs : w.heap.size = s0) (w1 : World) (hw : w1 = (((((w.alloc (.cells #[.int .i64 (-1), .int .i64 0] 3)).alloc (.cells #[.int .i64 1] 3)).alloc (.cells #[.int .i64 (-1)] 3)).alloc (.cells #[.slice (some ⟨s0 + 1, 0, none⟩) 1 1, .slice (some ⟨s0 + 1 + 1, 0, none⟩) 1 1] 22)).alloc (.cells #[.int .i64 0, .slice (some ⟨s0, 0, none⟩) 2 2, .slice (some ⟨s0 + 1 + 1 + 1, 0, none⟩) 2 2] 25))) :
    DfA oneD (some ⟨s0, 0, none⟩) (some ⟨s0 + 1 + 1 + 1, 0, none⟩) 2 2 w1 ∧ w1.heap[s0 + 1 + 1 + 1 + 1]? = some (.cells #[.int .i64 0, .slice (some ⟨s0, 0, none⟩) 2 2, .slice (some ⟨s0 + 1 + 1 + 1, 0, none⟩) 2 2] 25 (0, 0)) ∧ Below w.heap.size w w1 := by
  subst hw hs
  obtain ⟨a1, H1⟩ := nameIt (w.alloc (.cells #[.int .i64 (-1), .int .i64 0] 3))
  rw [H1.out]
  have z1 : a1.heap.size = w.heap.size + 1 := by rw [← H1.out]; simp
  have b1 : Below w.heap.size w a1 := by rw [← H1.out]; exact (Below.refl _ _).alloc (Nat.le_refl _) _
  have r1 : a1.heap[w.heap.size]? = some (.cells #[.int .i64 (-1), .int .i64 0] 3 (0, 0)) := by rw [← H1.out]; exact bx_new _ _ _ rfl
  obtain ⟨a2, H2⟩ := nameIt (a1.alloc (.cells #[.int .i64 1] 3))
  rw [H2.out]
  have z2 : a2.heap.size = w.heap.size + 1 + 1 := by rw [← H2.out]; simp [z1]
  have b2 : Below a1.heap.size a1 a2 := by rw [← H2.out]; exact (Below.refl _ _).alloc (Nat.le_refl _) _
  have r2 : a2.heap[w.heap.size + 1]? = some (.cells #[.int .i64 1] 3 (0, 0)) := by rw [← H2.out]; exact bx_new _ _ _ z1.symm
  obtain ⟨a3, H3⟩ := nameIt (a2.alloc (.cells #[.int .i64 (-1)] 3))
  rw [H3.out]
  have z3 : a3.heap.size = w.heap.size + 1 + 1 + 1 := by rw [← H3.out]; simp [z2]
  have b3 : Below a2.heap.size a2 a3 := by rw [← H3.out]; exact (Below.refl _ _).alloc (Nat.le_refl _) _
  have r3 : a3.heap[w.heap.size + 1 + 1]? = some (.cells #[.int .i64 (-1)] 3 (0, 0)) := by rw [← H3.out]; exact bx_new _ _ _ z2.symm
  obtain ⟨a4, H4⟩ := nameIt (a3.alloc (.cells #[.slice (some ⟨w.heap.size + 1, 0, none⟩) 1 1, .slice (some ⟨w.heap.size + 1 + 1, 0, none⟩) 1 1] 22))
  rw [H4.out]
  have z4 : a4.heap.size = w.heap.size + 1 + 1 + 1 + 1 := by rw [← H4.out]; simp [z3]
  have b4 : Below a3.heap.size a3 a4 := by rw [← H4.out]; exact (Below.refl _ _).alloc (Nat.le_refl _) _
  have r4 : a4.heap[w.heap.size + 1 + 1 + 1]? = some (.cells #[.slice (some ⟨w.heap.size + 1, 0, none⟩) 1 1, .slice (some ⟨w.heap.size + 1 + 1, 0, none⟩) 1 1] 22 (0, 0)) := by rw [← H4.out]; exact bx_new _ _ _ z3.symm
  obtain ⟨a5, H5⟩ := nameIt (a4.alloc (.cells #[.int .i64 0, .slice (some ⟨w.heap.size, 0, none⟩) 2 2, .slice (some ⟨w.heap.size + 1 + 1 + 1, 0, none⟩) 2 2] 25))
  rw [H5.out]
  have b5 : Below a4.heap.size a4 a5 := by rw [← H5.out]; exact (Below.refl _ _).alloc (Nat.le_refl _) _
  have r5 : a5.heap[w.heap.size + 1 + 1 + 1 + 1]? = some (.cells #[.int .i64 0, .slice (some ⟨w.heap.size, 0, none⟩) 2 2, .slice (some ⟨w.heap.size + 1 + 1 + 1, 0, none⟩) 2 2] 25 (0, 0)) := by rw [← H5.out]; exact bx_new _ _ _ z4.symm
  have b35 : Below a3.heap.size a3 a5 := b4.trans (b5.mono b4.size)
  have b25 : Below a2.heap.size a2 a5 := b3.trans (b35.mono b3.size)
  have b15 : Below a1.heap.size a1 a5 := b2.trans (b25.mono b2.size)
  refine ⟨⟨sl_lit2 (bx_keep r1 b15), ?_⟩, r5, b1.trans (b15.mono b1.size)⟩
  exact rd_lit2 (d := .sl [.int 1]) (e := .sl [.int (-1)]) (bx_keep r4 b5) trivial (rd_lit1 (bx_keep r2 b25) trivial rfl) (rd_lit1 (bx_keep r3 b35) trivial rfl)
set_option maxHeartbeats 8000000 in
set_option maxRecDepth 100000 in
theorem lawLT (x : Dfa) (sy : Int) (aa an : Option Addr) (ca cn : Nat) (w : World) (hD : DfA x aa an ca cn w) :
    Calls Try.prog 3 #[.agg #[.int .i64 x.start, .slice aa x.acc.length ca, .slice an x.next.length cn], .int .i64 sy] w fun e w' => e = .returned (.bool true) ∧ Below w.heap.size w w' := by
  have hcn := hD.N.bounds.2
  unfold maxLen at hcn
  obtain ⟨w0, HW0⟩ := nameIt (w.alloc (.cells #[.int .i64 x.start, .slice aa x.acc.length ca, .slice an x.next.length cn] 25))
  have hb0 : Below w.heap.size w w0 := by rw [← HW0.out]; exact (Below.refl _ _).alloc (Nat.le_refl _) _
  have hx0 : w0.heap[w.heap.size]? = some (.cells #[.int .i64 x.start, .slice aa x.acc.length ca, .slice an x.next.length cn] 25 (0, 0)) := by rw [← HW0.out]; exact bx_new _ _ _ rfl
  have hz0 : w0.heap.size = w.heap.size + 1 := by rw [← HW0.out]; simp
  obtain ⟨s0, HS0⟩ := nameIt w0.heap.size
  obtain ⟨w1, HW1⟩ := nameIt (((((w0.alloc (.cells #[.int .i64 (-1), .int .i64 0] 3)).alloc (.cells #[.int .i64 1] 3)).alloc (.cells #[.int .i64 (-1)] 3)).alloc (.cells #[.slice (some ⟨s0 + 1, 0, none⟩) 1 1, .slice (some ⟨s0 + 1 + 1, 0, none⟩) 1 1] 22)).alloc (.cells #[.int .i64 0, .slice (some ⟨s0, 0, none⟩) 2 2, .slice (some ⟨s0 + 1 + 1 + 1, 0, none⟩) 2 2] 25))
  obtain ⟨ho1, ho2, ho3⟩ := one_start w0 s0 HS0.out w1 HW1.out.symm
  have HO1 := Lib.hid ho1
  have HO2 := Lib.hid ho2
  have hb1 : Below w.heap.size w w1 := hb0.trans (ho3.mono hb0.size)
  have HB1 := Lib.hid hb1
  have HX1 := Lib.hid (bx_keep hx0 ho3)
  have HD1 := Lib.hid (hD.below hb1)
  have HL1 := Lib.hid (learnE 5 6 #[] #[.pointer (some ⟨s0 + 1 + 1 + 1 + 1, 0, none⟩)] oneD one_right (by decide) 1 rfl (by omega) w1 (fun _ _ => rfl) (fun _ _ => rfl) (fun W hW => askOne W) (cmp2 oneD one_right (s0 + 1 + 1 + 1 + 1) (some ⟨s0, 0, none⟩) (some ⟨s0 + 1 + 1 + 1, 0, none⟩) 2 2 w1 ho2 ho1))
  obtain ⟨PST, HP⟩ := nameIt (fun (e : Ending) (w' : World) => e = .returned (.bool true) ∧ Below w.heap.size w w')
  have HFIN : Hid (∀ w', Below w.heap.size w w' → PST (.returned (.bool true)) w') := fun w' h => by rw [← HP.out]; exact ⟨rfl, h⟩
  rw [HP.out]
  obtain ⟨st, HST⟩ := nameIt x.start
  obtain ⟨la, HLA⟩ := nameIt x.acc.length
  obtain ⟨ln, HLN⟩ := nameIt x.next.length
  rw [HST.out, HLA.out, HLN.out] at HW0 HX1
  rw [HLN.out] at hcn
  rw [HST.out, HLA.out, HLN.out]
  clear hD hb0 hx0 hz0 ho1 ho2 ho3 hb1 HP
  go_enter Try.func3, Try.ntmps3
  go_upto_region 1 with fail
  rw [HW0.out]
  go_upto_region 2 with fail
  rw [HS0.out, HW1.out]
  go_wp2_with fail
  refine HL1.out.mono ?_
  rintro e w2 ⟨x2, P2, aa2, an2, ca2, cn2, hr2, hf2, hw2, hn2, hs2, rfl, hA2, hN2, hb2⟩
  have hc2 : canonD x2 P2 x2.next.length = oneD := by
    rw [← canon_one one_right hr2 one_flat hf2 hw2.symm one_num hn2 hs2]
    exact one_canon
  rw [hc2] at hA2 hN2 ⊢
  have e1 : oneD.acc.length = 2 := rfl
  have e2 : oneD.next.length = 2 := rfl
  rw [e1] at hA2
  rw [e2] at hN2
  rw [e1, e2]
  obtain ⟨xb, HXB⟩ := nameIt w2.heap.size
  have hb23 : Below w2.heap.size w2 (w2.alloc (.cells #[.int .i64 0, .slice aa2 2 ca2, .slice an2 2 cn2] 25)) := (Below.refl _ _).alloc (Nat.le_refl _) _
  have hx3 : (w2.alloc (.cells #[.int .i64 0, .slice aa2 2 ca2, .slice an2 2 cn2] 25)).heap[xb]? = some (.cells #[.int .i64 0, .slice aa2 2 ca2, .slice an2 2 cn2] 25 (0, 0)) := bx_new _ _ _ HXB.out.symm
  obtain ⟨w3, HW3⟩ := nameIt (w2.alloc (.cells #[.int .i64 0, .slice aa2 2 ca2, .slice an2 2 cn2] 25))
  rw [HW3.out] at hb23 hx3
  have hb13 := hb2.trans (hb23.mono hb2.size)
  have HEQT := Lib.hid (equalTabs oneD.next an2 (some ⟨s0 + 1 + 1 + 1, 0, none⟩) cn2 2 w3 (hN2.below hb23) (HO1.out.N.below hb13))
  rw [e2] at HEQT
  obtain ⟨x0, x1, x2'⟩ := bx_cells3 hx3
  obtain ⟨o0, o1, o2⟩ := bx_cells3 (bx_keep HO2.out hb13)
  have HB13 := Lib.hid hb13
  clear hr2 hf2 hw2 hn2 hs2 hA2 hN2 hb2 hc2 hb23 hx3 hb13 e1 e2
  go_upto_region 3 with fail
  rw [HXB.out, HW3.out]
  go_wp2_with fail
  with_reducible refine HEQT.out.mono ?_
  rintro e w4 ⟨rfl, hb4⟩
  have hb14 := HB13.out.trans (hb4.mono HB13.out.size)
  have HB14 := Lib.hid hb14
  have HX4 := Lib.hid (bx_keep HX1.out hb14)
  have HD4 := Lib.hid (HD1.out.below hb14)
  have HRT := Lib.hid (rightE x aa an ca cn w4 (HD1.out.below hb14))
  rw [HST.out, HLA.out, HLN.out] at HRT
  obtain ⟨d0, d1, d2⟩ := bx_cells3 HX4.out
  clear hb4 hb14 x0 x1 x2' o0 o1 o2
  go_wp2_with fail
  with_reducible refine HRT.out.mono ?_
  rintro e w5 ⟨rfl, hb5⟩
  have hb15 := HB14.out.trans (hb5.mono HB14.out.size)
  have HB15 := Lib.hid (HB1.out.trans (hb15.mono HB1.out.size))
  have HX5 := Lib.hid (bx_keep HX4.out hb5)
  have HD5 := Lib.hid (HD4.out.below hb5)
  clear hb5 hb15 d0 d1 d2
  by_cases herr : dfaErr x = 0
  · have hdt : decide (dfaErr x = 0) = true := decide_eq_true herr
    rw [hdt]
    have HERR := Lib.hid herr
    have hxr := right_of herr
    clear hdt herr
    obtain ⟨d0, d1, d2⟩ := bx_cells3 HX5.out
    have HXR := Lib.hid hxr
    have hst := hxr.states
    rw [HLN.out] at hst
    have hsy := hxr.syms
    have hacl := hxr.accs
    rw [HLA.out, HLN.out] at hacl
    have hla200 : la ≤ 200 := by omega
    clear hacl
    have HE5 := Lib.hid (HFIN.out w5 HB15.out)
    by_cases h60 : 60 < ln
    · have h60' : (60 : Int) < (ln : Int) := by omega
      go_wp2_with fail
      exact HE5.out
    · have h60' : ¬ (60 : Int) < (ln : Int) := by omega
      obtain ⟨br, or, vr, hae, c0, hrow⟩ := Rd.rowI_at HD5.out.N (i := 0) (by rw [HLN.out]; omega)
      have hrl := hxr.rows _ (List.getElem_mem (show 0 < x.next.length by rw [HLN.out]; omega))
      obtain ⟨ar, kr, rfl⟩ := hrow.form
      rw [ints_len, hrl, Nat.add_zero] at c0
      obtain ⟨wd, HWD⟩ := nameIt x.width
      rw [HWD.out] at c0 hsy
      have HLE := Lib.hid (learnE 13 15 #[.pointer (some ⟨w.heap.size, 0, none⟩)] #[.pointer (some ⟨w.heap.size, 0, none⟩)] x hxr (by rw [HLN.out]; omega) wd HWD.out (by omega) w5 (fun _ _ => rfl) (fun _ _ => rfl) (fun W hW => by
        have h1 : W.heap[w.heap.size]? = some (.cells #[.int .i64 x.start, .slice aa x.acc.length ca, .slice an x.next.length cn] 25 (0, 0)) := by rw [HST.out, HLA.out, HLN.out]; exact bx_keep HX5.out hW
        have h2 := askDfa x HXR.out w.heap.size aa an ca cn W h1 (HD5.out.below hW)
        rw [HWD.out] at h2
        exact h2) (cmp6 x hxr w.heap.size aa an ca cn w5 (by rw [HST.out, HLA.out, HLN.out]; exact HX5.out) HD5.out))
      subst hae
      clear hrow hrl hxr
      go_wp2_with fail
      refine HLE.out.mono ?_
      rintro e w6 ⟨x6, P6, aa6, an6, ca6, cn6, hr6, hf6, hw6, hn6, hs6, rfl, hA6, hN6, hb6⟩
      have HR6 := Lib.hid hr6
      have HF6 := Lib.hid hf6
      have HW6 := Lib.hid hw6
      have HN6 := Lib.hid hn6
      have HS6 := Lib.hid hs6
      obtain ⟨y, HY⟩ := nameIt (canonD x6 P6 x6.next.length)
      rw [HY.out] at hA6 hN6 ⊢
      obtain ⟨ya, HYA⟩ := nameIt y.acc.length
      obtain ⟨yn, HYN⟩ := nameIt y.next.length
      rw [HYA.out] at hA6 ⊢
      rw [HYN.out] at hN6 ⊢
      obtain ⟨xb, HXB⟩ := nameIt w6.heap.size
      have hb67 : Below w6.heap.size w6 (w6.alloc (.cells #[.int .i64 0, .slice aa6 ya ca6, .slice an6 yn cn6] 25)) := (Below.refl _ _).alloc (Nat.le_refl _) _
      have hx7 : (w6.alloc (.cells #[.int .i64 0, .slice aa6 ya ca6, .slice an6 yn cn6] 25)).heap[xb]? = some (.cells #[.int .i64 0, .slice aa6 ya ca6, .slice an6 yn cn6] 25 (0, 0)) := bx_new _ _ _ HXB.out.symm
      obtain ⟨w7, HW7⟩ := nameIt (w6.alloc (.cells #[.int .i64 0, .slice aa6 ya ca6, .slice an6 yn cn6] 25))
      rw [HW7.out] at hb67 hx7
      have hb57 := hb6.trans (hb67.mono hb6.size)
      have HYS7 := Lib.hid (hA6.keep hb67)
      have HYN7 := Lib.hid (hN6.below hb67)
      have HXB7 := Lib.hid hx7
      have hx57 := bx_keep HX5.out hb57
      have HX7 := Lib.hid hx57
      have HD7 := Lib.hid (HD5.out.below hb57)
      have HB7 := Lib.hid (HB15.out.trans (hb57.mono HB15.out.size))
      obtain ⟨e0, e1, e2⟩ := bx_cells3 hx57
      clear hr6 hf6 hw6 hn6 hs6 hA6 hN6 hb6 hb67 hx7 hb57 hx57 d0 d1 d2 c0
      go_upto_region 20 with fail
      rw [HXB.out, HW7.out]
      obtain ⟨fb, HFB⟩ := nameIt w7.heap.size
      obtain ⟨w8, HW8⟩ := nameIt (w7.alloc (.cells #[.int .i64 st, .slice none 0 0, .slice (some ⟨br, or, none⟩) ln cn] 25))
      have hb78 : Below w7.heap.size w7 w8 := by rw [← HW8.out]; exact (Below.refl _ _).alloc (Nat.le_refl _) _
      have HF8 : Hid (w8.heap[fb]? = some (.cells #[.int .i64 st, .slice none 0 0, .slice (some ⟨br, or, none⟩) ln cn] 25 (0, 0))) := by rw [← HW8.out]; exact bx_new _ _ _ HFB.out.symm
      have HO8 : Hid (w8.ownsRow (fb + 1) 3 1 (.slice none 0 0) 0 (ints ((plainD x).acc.take 0))) := World.ownsRow_nil _ _ _ _
      have HB8 : Hid (Below fb w7 w8) := by rw [← HFB.out]; exact hb78
      obtain ⟨g0, g1, g2⟩ := bx_cells3 (bx_keep HX7.out hb78)
      have HPA : Hid ((plainD x).acc.length = la) := by show (x.acc.map _).length = la; rw [List.length_map]; exact HLA.out
      go_upto_region 21 with fail
      rw [HFB.out, HW8.out]
      clear e0 e1 e2
      go_wp2_with fail
      clear g0 g1 g2 hb78
      have hfbd : w.heap.size < fb := by have h1 := (Array.getElem?_eq_some_iff.1 HX7.out).1; have h2 : w7.heap.size = fb := HFB.out; omega
      go_loopg [17, 120] la (fun gg v17 v120 wr => ∃ (i : Nat) (fa : Option Addr) (fc : Nat), i ≤ la ∧ la - i ≤ gg ∧ v120 = .int .i64 i ∧ Hid (wr.ownsRow (fb + 1) 3 1 (.slice fa i fc) i (ints ((plainD x).acc.take i))) ∧ Hid (wr.heap[fb]? = some (.cells #[.int .i64 st, .slice fa i fc, .slice (some ⟨br, or, none⟩) ln cn] 25 (0, 0))) ∧ Hid (Below fb w7 wr))
      case atStart => exact ⟨0, none, 0, by omega, by omega, rfl, HO8, HF8, HB8⟩
      case round =>
        clear HO8 HF8 HB8 HW8
        obtain ⟨i, fa, fc, hi, hg, rfl, HO, HF, HB⟩ := hrel
        obtain ⟨wo, rfl⟩ : ∃ ww : World, ww = wr := ⟨_, rfl⟩
        have HBO : Hid (Below w7.heap.size w7 wo) := by show Below _ _ _; rw [HFB.out]; exact HB.out
        by_cases hlt : i < la
        · have hlt' : (i : Int) < (la : Int) := by omega
          have hi0 : (0 : Int) ≤ (i : Int) := by omega
          have hix : i < x.acc.length := by rw [HLA.out]; exact hlt
          obtain ⟨ba, oa, hae, hca⟩ := (HD7.out.below HBO.out).A.at hix
          have cA := hca i (by rw [ints_len]; exact hix)
          rw [ints_get] at cA
          have hip : i < (plainD x).acc.length := by rw [HPA.out]; exact hlt
          have htk : (plainD x).acc.take (i + 1) = (plainD x).acc.take i ++ [min x.acc[i] 0] := by
            rw [List.take_succ_eq_append_getElem hip]
            simp [plainD]
          obtain ⟨av, HAV⟩ := nameIt (x.acc[i]'hix)
          rw [HAV.out] at cA htk
          obtain ⟨mv, HMV⟩ := nameIt (min av 0)
          have hmin : min av 0 = mv := HMV.out
          rw [hmin] at htk
          have HTKN := Lib.hid htk
          obtain ⟨f0, f1, f2⟩ := bx_cells3 HF.out
          have hfl := (Array.getElem?_eq_some_iff.1 HF.out).1
          have HSZ : Hid (fb + 1 ≤ wo.heap.size) := hfl
          subst hae
          clear hca htk
          go_wp2_with (at_builtin; refine wp_app1at elInt rfl _ _ rfl HO.out rfl rfl (by simp) rfl rfl (by omega) (by unfold maxLen; omega) HSZ.out ?_)
          intro v' w9 ho9 hg9 hat9
          have hol := HO.out.lt
          have hol9 := ho9.lt
          have hf9 : w9.heap[fb]? = _ := (hg9.block fb hfl (fun e => by have := (hol fb e.symm).1; omega)).trans HF.out
          obtain ⟨g9, c9, rfl, -, -, -, hg9a, -⟩ := own_at ho9 hat9
          have HO9 : Hid ((w9.setCell ⟨fb, 1, none⟩ (.slice (some ⟨g9, 0, none⟩) (i + 1) c9)).ownsRow (fb + 1) 3 1 (.slice (some ⟨g9, 0, none⟩) (i + 1) c9) (i + 1) (ints ((plainD x).acc.take (i + 1)))) := by
            rw [HTKN.out, ints_append]
            exact own_blk ho9 fun g e => (grown_cell w9 ⟨fb, 1, none⟩ _).block g (hol9 g e).2 (fun e2 => by have e3 : g = fb := Option.some.inj e2; have := (hol9 g e).1; omega)
          have HF9 : Hid ((w9.setCell ⟨fb, 1, none⟩ (.slice (some ⟨g9, 0, none⟩) (i + 1) c9)).heap[fb]? = some (.cells #[.int .i64 st, .slice (some ⟨g9, 0, none⟩) (i + 1) c9, .slice (some ⟨br, or, none⟩) ln cn] 25 (0, 0))) := by
            show _ = _
            have := bx_set hf9 1 (.slice (some ⟨g9, 0, none⟩) (i + 1) c9)
            simpa using this
          have HB9 : Hid (Below fb w7 (w9.setCell ⟨fb, 1, none⟩ (.slice (some ⟨g9, 0, none⟩) (i + 1) c9))) := (HB.out.grown hg9 (by have h1 := HB.out.size; have h2 : w7.heap.size = fb := HFB.out; omega) (fun q e => by have := (hol q e).1; omega)).setCell (p := ⟨fb, 1, none⟩) (Nat.le_refl _) _
          obtain ⟨k0, k1, k2⟩ := bx_cells3 hf9
          obtain ⟨l0, l1, l2⟩ := bx_free3 hf9
          clear ho9 hg9 hat9 hol hol9 hf9 f0 f1 f2
          go_wp2_with fail
          go_roundg (la - (i + 1))
          case measure => omega
          case rel => exact ⟨i + 1, some ⟨g9, 0, none⟩, c9, by omega, by omega, by go_num, HO9, HF9, HB9⟩
        · obtain rfl : la = i := by omega
          have hlt' : ¬ (la : Int) < (la : Int) := by omega
          have hpr := Lr.plain_right HXR.out
          have hpe : dfaErr (plainD x) = 0 := err_of_rightL hpr
          have hsl := sl_of_own HO.out
          rw [List.take_of_length_le (by rw [HPA.out]; exact Nat.le_refl _)] at hsl
          have hpd : DfA (plainD x) fa (some ⟨br, or, none⟩) fc cn wo := ⟨by rw [HPA.out]; exact hsl, (HD7.out.below HBO.out).N⟩
          have HME := Lib.hid (minE (plainD x) hpr hpe (plain_flat x) fa (some ⟨br, or, none⟩) fc cn wo hpd)
          have e1 : (plainD x).start = st := HST.out
          have e2 : (plainD x).next.length = ln := HLN.out
          rw [e1, HPA.out] at HME
          have HE2 := Lib.hid e2
          have HME2 : Hid (Calls Try.prog 16 #[.agg #[.int .i64 st, .slice fa la fc, .slice (some ⟨br, or, none⟩) ln cn]] wo fun e w' => ∃ (P : Nat → Int) (aa an : Option Addr) (ca cn : Nat), Num (plainD x) P ∧ e = .returned (.tuple #[.agg #[.int .i64 0, .slice aa (canonD (plainD x) P (plainD x).next.length).acc.length ca, .slice an (canonD (plainD x) P (plainD x).next.length).next.length cn], .int .i64 0]) ∧
      Sl w' (.slice aa (canonD (plainD x) P (plainD x).next.length).acc.length ca) (ints (canonD (plainD x) P (plainD x).next.length).acc) ∧ Rd AnyB w' (.sl ((canonD (plainD x) P (plainD x).next.length).next.map D.ints)) [.slice an (canonD (plainD x) P (plainD x).next.length).next.length cn] ∧ Below wo.heap.size wo w') := by
            have h := HME.out
            rw [show (.slice (some ⟨br, or, none⟩) (plainD x).next.length cn : Value) = .slice (some ⟨br, or, none⟩) ln cn by rw [e2]] at h
            exact h
          obtain ⟨f0, f1, f2⟩ := bx_cells3 HF.out
          clear hpr hpe hsl hpd e1 e2 HME
          go_wp2_with fail
          refine HME2.out.mono ?_
          rintro e w9 ⟨P9, aa9, an9, ca9, cn9, hn9, rfl, hA9, hN9, hb9⟩
          have hyy : canonD (plainD x) P9 (plainD x).next.length = y := by
            rw [← HY.out]
            refine canon_one (Lr.plain_right HXR.out) HR6.out (plain_flat x) HF6.out (by rw [HW6.out]; rfl) hn9 HN6.out (fun u hu => ?_)
            rw [← plain_same x u hu]
            exact HS6.out u hu
          rw [hyy, HYA.out] at hA9
          rw [hyy, HYN.out] at hN9
          rw [hyy, HYA.out, HYN.out]
          obtain ⟨zb, HZB⟩ := nameIt w9.heap.size
          have hb90 : Below w9.heap.size w9 (w9.alloc (.cells #[.int .i64 0, .slice aa9 ya ca9, .slice an9 yn cn9] 25)) := (Below.refl _ _).alloc (Nat.le_refl _) _
          have hz0 : (w9.alloc (.cells #[.int .i64 0, .slice aa9 ya ca9, .slice an9 yn cn9] 25)).heap[zb]? = some (.cells #[.int .i64 0, .slice aa9 ya ca9, .slice an9 yn cn9] 25 (0, 0)) := bx_new _ _ _ HZB.out.symm
          obtain ⟨wz, HWZ⟩ := nameIt (w9.alloc (.cells #[.int .i64 0, .slice aa9 ya ca9, .slice an9 yn cn9] 25))
          rw [HWZ.out] at hb90 hz0
          have hb70 := HBO.out.trans ((hb9.trans (hb90.mono hb9.size)).mono HBO.out.size)
          have HEQA := Lib.hid (fun W (hb : Below wz.heap.size wz W) => equal (.slice aa6 ya ca6) (.slice aa9 ya ca9) y.acc y.acc W ((HYS7.out.keep hb70).keep hb) ((hA9.keep hb90).keep hb))
          simp only [beq_self_eq_true] at HEQA
          have HEQN : Hid (∀ W, Below wz.heap.size wz W → Calls Try.prog 8 #[.slice an6 yn cn6, .slice an9 yn cn9, .func (.func 9) #[] #[]] W fun e w' => e = .returned (.bool true) ∧ Below W.heap.size W w') := fun W hb => by
            have h1 := (HYN7.out.below hb70).below hb
            have h2 := (hN9.below hb90).below hb
            rw [← HYN.out] at h1 h2 ⊢
            exact equalTabs y.next an6 an9 cn6 cn9 W h1 h2
          have HBZ := Lib.hid (HB7.out.trans (hb70.mono HB7.out.size))
          have hxz := bx_keep HXB7.out hb70
          have HXZ := Lib.hid hxz
          have HZZ := Lib.hid hz0
          obtain ⟨k0, k1, k2⟩ := bx_cells3 hxz
          obtain ⟨l0, l1, l2⟩ := bx_cells3 hz0
          clear hn9 hA9 hN9 hb9 hyy hb90 hz0 hb70 hxz f0 f1 f2
          go_upto_region 27 with fail
          rw [HZB.out, HWZ.out]
          go_wp2_with fail
          with_reducible refine (HEQA.out wz (Below.refl _ _)).mono ?_
          rintro e wy ⟨rfl, hby⟩
          have HBY := Lib.hid hby
          have HEN := Lib.hid (HEQN.out wy hby)
          obtain ⟨m0, m1, m2⟩ := bx_cells3 (bx_keep HXZ.out hby)
          obtain ⟨n0, n1, n2⟩ := bx_cells3 (bx_keep HZZ.out hby)
          clear hby k0 k1 k2 l0 l1 l2
          go_wp2_with fail
          with_reducible refine HEN.out.mono ?_
          rintro e wx ⟨rfl, hbx⟩
          have HE := Lib.hid (HFIN.out wx (HBZ.out.trans ((HBY.out.trans (hbx.mono HBY.out.size)).mono HBZ.out.size)))
          clear hbx m0 m1 m2 n0 n1 n2
          go_wp2_with fail
          exact HE.out
  · have hdt : decide (dfaErr x = 0) = false := decide_eq_false herr
    rw [hdt]
    clear hdt herr
    have h1 := Int.tmod_lt_of_pos sy (show (0 : Int) < 40 by decide)
    have h2 := Int.tmod_lt_of_pos (-sy) (show (0 : Int) < 40 by decide)
    rw [Int.neg_tmod] at h2
    obtain ⟨kk, HKK⟩ := nameIt (sy.tmod 40)
    have hkk : sy.tmod 40 = kk := HKK.out
    rw [hkk] at h1 h2
    obtain ⟨kn, HKN⟩ := nameIt kk.toNat
    have hkn : kk.toNat = kn := HKN.out
    have hkn40 : kn ≤ 40 := by omega
    obtain ⟨ab, HAB0⟩ := nameIt w5.heap.size
    obtain ⟨w6, HW6⟩ := nameIt (((w5.alloc (.cells #[.int .i64 (-1)] 3)).alloc (.cells #[.slice none 0 0] 22)).alloc (.cells #[.int .i64 0, .slice (some ⟨ab, 0, none⟩) 1 1, .slice (some ⟨ab + 1, 0, none⟩) 1 1] 25))
    have hst6 : w6.heap[ab]? = some (.cells #[.int .i64 (-1)] 3 (0, 0)) ∧ w6.heap[ab + 1]? = some (.cells #[.slice none 0 0] 22 (0, 0)) ∧ w6.heap[ab + 1 + 1]? = some (.cells #[.int .i64 0, .slice (some ⟨ab, 0, none⟩) 1 1, .slice (some ⟨ab + 1, 0, none⟩) 1 1] 25 (0, 0)) ∧ Below ab w5 w6 ∧ ab + 1 + 1 + 1 ≤ w6.heap.size := by
      rw [← HW6.out]
      have hs : w5.heap.size = ab := HAB0.out
      obtain ⟨a1, H1⟩ := nameIt (w5.alloc (.cells #[.int .i64 (-1)] 3))
      rw [H1.out]
      have z1 : a1.heap.size = ab + 1 := by rw [← H1.out]; simp [hs]
      have b1 : Below ab w5 a1 := by rw [← H1.out, ← hs]; exact (Below.refl _ _).alloc (Nat.le_refl _) _
      have r1 : a1.heap[ab]? = some (.cells #[.int .i64 (-1)] 3 (0, 0)) := by rw [← H1.out]; exact bx_new _ _ _ hs.symm
      obtain ⟨a2, H2⟩ := nameIt (a1.alloc (.cells #[.slice none 0 0] 22))
      rw [H2.out]
      have z2 : a2.heap.size = ab + 1 + 1 := by rw [← H2.out]; simp [z1]
      have b2 : Below a1.heap.size a1 a2 := by rw [← H2.out]; exact (Below.refl _ _).alloc (Nat.le_refl _) _
      have r2 : a2.heap[ab + 1]? = some (.cells #[.slice none 0 0] 22 (0, 0)) := by rw [← H2.out]; exact bx_new _ _ _ z1.symm
      have b3 : Below a2.heap.size a2 (a2.alloc (.cells #[.int .i64 0, .slice (some ⟨ab, 0, none⟩) 1 1, .slice (some ⟨ab + 1, 0, none⟩) 1 1] 25)) := (Below.refl _ _).alloc (Nat.le_refl _) _
      exact ⟨bx_keep (bx_keep r1 b2) b3, bx_keep r2 b3, bx_new _ _ _ z2.symm, (b1.trans (b2.mono (by omega))).trans (b3.mono (by omega)), by simp [z2]⟩
    obtain ⟨q1, q2, q3, q4, q5⟩ := hst6
    have HA0 := Lib.hid q1
    have HT0 := Lib.hid q2
    have HN0 := Lib.hid q3
    have HBW0 := Lib.hid q4
    have HO0 : Hid (w6.ownsRow (ab + 1 + 1 + 1) 3 1 (.slice none 0 0) 0 (ints (List.replicate 0 (-1)))) := World.ownsRow_nil _ _ _ _
    clear q1 q2 q3 q4
    go_upto_region 8 with fail
    rw [HAB0.out, HW6.out]
    go_wp2_with fail
    go_loopg [49] kn (fun gg v49 wr => ∃ (i : Nat) (sa : Option Addr) (sc : Nat), i ≤ kn ∧ kn - i ≤ gg ∧ v49 = .int .i64 i ∧ Hid (wr.ownsRow (ab + 1 + 1 + 1) 3 1 (.slice sa i sc) i (ints (List.replicate i (-1)))) ∧ Hid (wr.heap[ab + 1]? = some (.cells #[.slice sa i sc] 22 (0, 0))) ∧ Hid (wr.heap[ab + 1 + 1]? = some (.cells #[.int .i64 0, .slice (some ⟨ab, 0, none⟩) 1 1, .slice (some ⟨ab + 1, 0, none⟩) 1 1] 25 (0, 0))) ∧ Hid (wr.heap[ab]? = some (.cells #[.int .i64 (-1)] 3 (0, 0))) ∧ Hid (Below ab w5 wr))
    case atStart => exact ⟨0, none, 0, by omega, by omega, rfl, HO0, HT0, HN0, HA0, HBW0⟩
    case round =>
      clear HA0 HT0 HN0 HBW0 HO0 HW6 q5
      obtain ⟨i, sa, sc, hi, hg, rfl, HOW, HTK, HNB, HAB, HBW⟩ := hrel
      obtain ⟨wo, rfl⟩ : ∃ ww : World, ww = wr := ⟨_, rfl⟩
      by_cases hlt : i < kn
      · have hlt' : (i : Int) < kk := by omega
        have hi0 : (0 : Int) ≤ (i : Int) := by omega
        have HSZ : Hid (ab + 1 + 1 + 1 ≤ wo.heap.size) := by have h1 := (Array.getElem?_eq_some_iff.1 HNB.out).1; show _ ≤ _; omega
        obtain ⟨n0, n1, n2⟩ := bx_cells3 HNB.out
        have t0 := bx_cells1 HTK.out
        have HSS : Hid (∀ W, Below wo.heap.size wo W → (fun (w' : World) => w'.cell? ⟨ab + 1 + 1, 0 + 2, none⟩ = some (.slice (some ⟨ab + 1, 0, none⟩) 1 1) ∧ w'.cell? ⟨ab + 1, 0, none⟩ = some (.slice sa i sc)) W) := fun W hb => ⟨(hb.cell (lt_of_cell n2)).trans n2, (hb.cell (lt_of_cell t0)).trans t0⟩
        clear h1 h2 hkk
        go_upto_region 10 with fail
        refine wp_region_U (S := (fun (w' : World) => w'.cell? ⟨ab + 1 + 1, 0 + 2, none⟩ = some (.slice (some ⟨ab + 1, 0, none⟩) 1 1) ∧ w'.cell? ⟨ab + 1, 0, none⟩ = some (.slice sa i sc))) 9 (by kernel_rfl) (fun inv => ?_)
        refine wpU_take (i := 0) (v := .pointer (some ⟨ab + 1 + 1, 0 + 2, none⟩)) rfl inv (by kernel_rfl) (by kernel_rfl) (by decide) (by decide) (by kernel_rfl) (by kernel_rfl) (by kernel_rfl) (fun _ _ _ h => h) (Or.inl ⟨by rfl, fun w' hw' => ?_⟩) (HSS.out _ (Below.refl _ _).drew) (fun inv => ?_)
        · obtain ⟨h0, h1⟩ := hw'
          go_simp
        try simp only [Act.put, List.setIfInBounds_toArray, List.set_cons_zero, List.set_cons_succ]
        refine wpU_take (i := 1) (v := .slice (some ⟨ab + 1, 0, none⟩) 1 1) rfl inv (by kernel_rfl) (by kernel_rfl) (by decide) (by decide) (by kernel_rfl) (by kernel_rfl) (by kernel_rfl) (fun _ _ _ h => h) (Or.inl ⟨by rfl, fun w' hw' => ?_⟩) (HSS.out _ (Below.refl _ _).drew) (fun inv => ?_)
        · obtain ⟨h0, h1⟩ := hw'
          go_simp
        try simp only [Act.put, List.setIfInBounds_toArray, List.set_cons_zero, List.set_cons_succ]
        refine wpU_take (i := 2) (v := .pointer (some ⟨ab + 1 + 1, 0 + 2, none⟩)) rfl inv (by kernel_rfl) (by kernel_rfl) (by decide) (by decide) (by kernel_rfl) (by kernel_rfl) (by kernel_rfl) (fun _ _ _ h => h) (Or.inl ⟨by rfl, fun w' hw' => ?_⟩) (HSS.out _ (Below.refl _ _).drew) (fun inv => ?_)
        · obtain ⟨h0, h1⟩ := hw'
          go_simp
        try simp only [Act.put, List.setIfInBounds_toArray, List.set_cons_zero, List.set_cons_succ]
        refine wpU_take (i := 3) (v := .slice (some ⟨ab + 1, 0, none⟩) 1 1) rfl inv (by kernel_rfl) (by kernel_rfl) (by decide) (by decide) (by kernel_rfl) (by kernel_rfl) (by kernel_rfl) (fun _ _ _ h => h) (Or.inl ⟨by rfl, fun w' hw' => ?_⟩) (HSS.out _ (Below.refl _ _).drew) (fun inv => ?_)
        · obtain ⟨h0, h1⟩ := hw'
          go_simp
        try simp only [Act.put, List.setIfInBounds_toArray, List.set_cons_zero, List.set_cons_succ]
        refine wpU_take (i := 4) (v := .pointer (some ⟨ab + 1, 0, none⟩)) rfl inv (by kernel_rfl) (by kernel_rfl) (by decide) (by decide) (by kernel_rfl) (by kernel_rfl) (by kernel_rfl) (fun _ _ _ h => h) (Or.inl ⟨by rfl, fun w' hw' => ?_⟩) (HSS.out _ (Below.refl _ _).drew) (fun inv => ?_)
        · obtain ⟨h0, h1⟩ := hw'
          go_simp
        try simp only [Act.put, List.setIfInBounds_toArray, List.set_cons_zero, List.set_cons_succ]
        refine wpU_take (i := 5) (v := .slice sa i sc) rfl inv (by kernel_rfl) (by kernel_rfl) (by decide) (by decide) (by kernel_rfl) (by kernel_rfl) (by kernel_rfl) (fun _ _ _ h => h) (Or.inl ⟨by rfl, fun w' hw' => ?_⟩) (HSS.out _ (Below.refl _ _).drew) (fun inv => ?_)
        · obtain ⟨h0, h1⟩ := hw'
          go_simp
        try simp only [Act.put, List.setIfInBounds_toArray, List.set_cons_zero, List.set_cons_succ]
        refine wpU_one (i := 6) (by kernel_rfl) rfl (fun K hK => ?_)
        replace inv := inv_setT (i := 6) inv (by kernel_rfl) (by decide)
        go_simp
        have hb2 : Below wo.heap.size wo (wo.alloc (.cells #[.int .i64 (-1)] 3)).drew := ((Below.refl _ _).alloc (Nat.le_refl _) _).drew
        have hlit : (wo.alloc (.cells #[.int .i64 (-1)] 3)).drew.heap[wo.heap.size]? = some (.cells #[.int .i64 (-1)] 3 (0, 0)) := bx_new _ _ _ rfl
        have HB2 := Lib.hid hb2
        have HLIT := Lib.hid hlit
        have HO2' := Lib.hid (own_keep HOW.out hb2)
        have HT2 := Lib.hid (bx_keep HTK.out hb2)
        have HN2' := Lib.hid (bx_keep HNB.out hb2)
        have HA2' := Lib.hid (bx_keep HAB.out hb2)
        obtain ⟨w8, HW8⟩ := nameIt (wo.alloc (.cells #[.int .i64 (-1)] 3)).drew
        rw [HW8.out] at HB2 HLIT HO2' HT2 HN2' HA2' ⊢
        have HZ8 : Hid (ab + 1 + 1 + 1 ≤ w8.heap.size) := Nat.le_trans HSZ.out HB2.out.size
        clear hb2 hlit
        refine hK.out _ _ (fun _ => HSS.out _ HB2.out) ?_
        clear hK K
        try simp only [Act.put, List.setIfInBounds_toArray, List.set_cons_zero, List.set_cons_succ]
        refine wpU_one (i := 7) (by kernel_rfl) rfl (fun K hK => ?_)
        replace inv := inv_setT (i := 7) inv (by kernel_rfl) (by decide)
        refine step_appB elInt (by rfl) _ _ (by rfl) HO2'.out (by rfl) (by rfl) HLIT.out (by rfl) (by rfl) (by omega) (by unfold maxLen; omega) HZ8.out ?_
        intro g9 c9 w9 ho9 hg9 hat9 hlt9
        have hol := HO2'.out.lt
        have ht9 : w9.heap[ab + 1]? = _ := (hg9.block (ab + 1) (Array.getElem?_eq_some_iff.1 HT2.out).1 (fun e => by have := (hol (ab + 1) e.symm).1; omega)).trans HT2.out
        have hn9 : w9.heap[ab + 1 + 1]? = _ := (hg9.block (ab + 1 + 1) (Array.getElem?_eq_some_iff.1 HN2'.out).1 (fun e => by have := (hol (ab + 1 + 1) e.symm).1; omega)).trans HN2'.out
        have ha9 : w9.heap[ab]? = _ := (hg9.block ab (Array.getElem?_eq_some_iff.1 HA2'.out).1 (fun e => by have := (hol ab e.symm).1; omega)).trans HA2'.out
        have HA9 := Lib.hid ha9
        clear ha9
        have HT9 := Lib.hid ht9
        have HN9 := Lib.hid hn9
        have HO9 : Hid (w9.ownsRow (ab + 1 + 1 + 1) 3 1 (.slice (some ⟨g9, 0, none⟩) (i + 1) c9) (i + 1) (ints (List.replicate (i + 1) (-1)))) := by
          rw [show List.replicate (i + 1) (-1 : Int) = List.replicate i (-1) ++ [-1] from List.replicate_succ', ints_append]; exact ho9
        have HB9 : Hid (Below ab w5 w9) := (HBW.out.trans (HB2.out.mono (by have h1 : ab + 1 + 1 + 1 ≤ wo.heap.size := HSZ.out; omega))).grown hg9 (by have h1 : ab + 1 + 1 + 1 ≤ wo.heap.size := HSZ.out; have h2 := HB2.out.size; have h3 := HBW.out.size; omega) (fun q e => by have := (hol q e).1; omega)
        obtain ⟨y0, y1, y2⟩ := bx_cells3 hn9
        have t9 := bx_cells1 ht9
        have tf9 := bx_free1 ht9
        have hg9n : g9 ≠ ab + 1 ∧ g9 ≠ ab + 1 + 1 := by have := (HO9.out.lt g9 rfl).1; omega
        clear ho9 hg9 hat9 hlt9 hol ht9 hn9
        refine hK.out _ _ (fun _ => ⟨y2, t9⟩) ?_
        clear hK K
        try simp only [Act.put, List.setIfInBounds_toArray, List.set_cons_zero, List.set_cons_succ]
        refine wpU_take (i := 8) (v := .pointer (some ⟨ab + 1, 0, none⟩)) rfl inv (by kernel_rfl) (by kernel_rfl) (by decide) (by decide) (by kernel_rfl) (by kernel_rfl) (by kernel_rfl) (fun _ _ _ h => h) (Or.inl ⟨by rfl, fun w' hw' => ?_⟩) ⟨y2, t9⟩ (fun inv => ?_)
        · obtain ⟨h0, h1⟩ := hw'
          go_simp
        try simp only [Act.put, List.setIfInBounds_toArray, List.set_cons_zero, List.set_cons_succ]
        refine wpU_one (i := 9) (by kernel_rfl) rfl (fun K hK => ?_)
        go_simp
        refine hK.out _ _ (fun h => absurd (show true = false from h) (by decide)) ?_
        clear hK K
        try simp only [Act.put, List.setIfInBounds_toArray, List.set_cons_zero, List.set_cons_succ]
        refine wpU_done (by kernel_rfl) ?_ _
        have HTN : Hid ((w9.setCell ⟨ab + 1, 0, none⟩ (.slice (some ⟨g9, 0, none⟩) (i + 1) c9)).heap[ab + 1]? = some (.cells #[.slice (some ⟨g9, 0, none⟩) (i + 1) c9] 22 (0, 0))) := by
          show _ = _
          have := bx_set HT9.out 0 (.slice (some ⟨g9, 0, none⟩) (i + 1) c9)
          simpa using this
        have HNN : Hid ((w9.setCell ⟨ab + 1, 0, none⟩ (.slice (some ⟨g9, 0, none⟩) (i + 1) c9)).heap[ab + 1 + 1]? = some (.cells #[.int .i64 0, .slice (some ⟨ab, 0, none⟩) 1 1, .slice (some ⟨ab + 1, 0, none⟩) 1 1] 25 (0, 0))) := bx_other HN9.out (by omega) _ _
        have HON : Hid ((w9.setCell ⟨ab + 1, 0, none⟩ (.slice (some ⟨g9, 0, none⟩) (i + 1) c9)).ownsRow (ab + 1 + 1 + 1) 3 1 (.slice (some ⟨g9, 0, none⟩) (i + 1) c9) (i + 1) (ints (List.replicate (i + 1) (-1)))) :=
          own_blk HO9.out fun g e => (grown_cell w9 ⟨ab + 1, 0, none⟩ _).block g (HO9.out.lt g e).2 (fun e2 => hg9n.1 ((Option.some.inj e).trans (Option.some.inj e2)))
        have HBN : Hid (Below ab w5 (w9.setCell ⟨ab + 1, 0, none⟩ (.slice (some ⟨g9, 0, none⟩) (i + 1) c9))) := HB9.out.setCell (p := ⟨ab + 1, 0, none⟩) (by show ab ≤ ab + 1; omega) _
        have HAN : Hid ((w9.setCell ⟨ab + 1, 0, none⟩ (.slice (some ⟨g9, 0, none⟩) (i + 1) c9)).heap[ab]? = some (.cells #[.int .i64 (-1)] 3 (0, 0))) := bx_other HA9.out (by omega) _ _
        clear y0 y1 y2 t9 tf9
        go_wp2_with fail
        go_roundg (kn - (i + 1))
        case measure => omega
        case rel => exact ⟨i + 1, some ⟨g9, 0, none⟩, c9, by omega, by omega, by go_num, HON, HTN, HNN, HAN, HBN⟩
      · obtain rfl : kn = i := by omega
        have hlt' : ¬ (kn : Int) < kk := by omega
        have hrow : Rd AnyB wo (D.ints (List.replicate kn (-1))) [.slice sa kn sc] := rd_of_own (ds := (List.replicate kn (-1)).map D.int) HOW.out ((rdAll_ints _ _).2 rfl) (by simp) (fun _ _ => trivial)
        have hdn : DfA (noneD kn) (some ⟨ab, 0, none⟩) (some ⟨ab + 1, 0, none⟩) 1 1 wo := ⟨sl_lit1 HAB.out, rd_lit1 HTK.out trivial hrow⟩
        have HBX := Lib.hid (HB15.out.trans (HBW.out.mono (by rw [← HAB0.out]; exact HB15.out.size)))
        by_cases hk : 1 ≤ kk ∧ kk ≤ 16
        · have hkc : kk = (kn : Int) := by omega
          have HLE := Lib.hid (learnE 11 12 #[] #[.pointer (some ⟨ab + 1 + 1, 0, none⟩)] (noneD kn) (none_right (by omega)) (by simp [noneD]) kn (none_width kn) (by omega) wo (fun _ _ => rfl) (fun _ _ => rfl) (fun W hW => askNone kn W) (cmp4 (noneD kn) (none_right (by omega)) (ab + 1 + 1) (some ⟨ab, 0, none⟩) (some ⟨ab + 1, 0, none⟩) 1 1 wo HNB.out hdn))
          rw [← hkc] at HLE
          have hd1 : decide (kk < 1) = false := by apply decide_eq_false; omega
          have hd2 : decide (16 < kk) = false := by apply decide_eq_false; omega
          have HWD : Hid ((noneD kn).width = kn) := none_width kn
          clear hrow hdn hk h1 h2 hkk hkn hkc
          go_wp2_with fail
          refine HLE.out.mono ?_
          rintro e w8 ⟨x8, P8, aa8, an8, ca8, cn8, hr8, hf8, hw8, hn8, hs8, rfl, hA8, hN8, hb8⟩
          have hc8 := none_canon hr8 hw8 hn8 hs8
          rw [hc8] at hA8 hN8 ⊢
          have e1 : (noneD kn).acc.length = 1 := rfl
          have e2 : (noneD kn).next.length = 1 := rfl
          rw [e1] at hA8
          rw [e1, e2]
          obtain ⟨xb8, HX8⟩ := nameIt w8.heap.size
          have hb89 : Below w8.heap.size w8 (w8.alloc (.cells #[.int .i64 0, .slice aa8 1 ca8, .slice an8 1 cn8] 25)) := (Below.refl _ _).alloc (Nat.le_refl _) _
          have hx9 : (w8.alloc (.cells #[.int .i64 0, .slice aa8 1 ca8, .slice an8 1 cn8] 25)).heap[xb8]? = some (.cells #[.int .i64 0, .slice aa8 1 ca8, .slice an8 1 cn8] 25 (0, 0)) := bx_new _ _ _ HX8.out.symm
          obtain ⟨w9, HW9⟩ := nameIt (w8.alloc (.cells #[.int .i64 0, .slice aa8 1 ca8, .slice an8 1 cn8] 25))
          rw [HW9.out] at hb89 hx9
          obtain ⟨ba, oa, hae, hca⟩ := (hA8.keep hb89).at (k := 0) (by omega)
          have ha0 := hca 0 (by rw [ints_len]; show 0 < 1; omega)
          rw [ints_get] at ha0
          have e3 : (noneD kn).acc[0] = -1 := rfl
          rw [e3, Nat.add_zero] at ha0
          subst hae
          obtain ⟨x0, x1, x2⟩ := bx_cells3 hx9
          have HE := Lib.hid (HFIN.out w9 (HBX.out.trans ((hb8.trans (hb89.mono hb8.size)).mono HBX.out.size)))
          have hacc : (-1 : Int) = -1 := rfl
          clear hr8 hf8 hw8 hn8 hs8 hA8 hN8 hb8 hc8 hb89 hx9 hca e1 e2 e3 hacc
          go_upto_region 13 with fail
          rw [HX8.out, HW9.out]
          go_wp2_with fail
          all_goals exact HE.out
        · have hk2 : kk < 1 ∨ 16 < kk := by omega
          have HLE := Lib.hid (ofArg kk hk2 (.func (.func 11) #[] #[]) (.func (.func 12) #[] #[.pointer (some ⟨ab + 1 + 1, 0, none⟩)]) wo)
          have hor : (kk < 1 ∧ decide (kk < 1) = true) ∨ (decide (kk < 1) = false ∧ decide (16 < kk) = true) := by
            by_cases h : kk < 1
            · exact .inl ⟨h, decide_eq_true h⟩
            · exact .inr ⟨decide_eq_false h, decide_eq_true (hk2.resolve_left h)⟩
          clear hrow hdn hk h1 h2 hkk hkn hk2
          go_wp2_with fail
          refine HLE.out.mono ?_
          rintro e w8 ⟨rfl, hb8⟩
          obtain ⟨xb8, HX8⟩ := nameIt w8.heap.size
          have hb89 : Below w8.heap.size w8 (w8.alloc (.cells #[.int .i64 0, .slice none 0 0, .slice none 0 0] 25)) := (Below.refl _ _).alloc (Nat.le_refl _) _
          have hx9 : (w8.alloc (.cells #[.int .i64 0, .slice none 0 0, .slice none 0 0] 25)).heap[xb8]? = some (.cells #[.int .i64 0, .slice none 0 0, .slice none 0 0] 25 (0, 0)) := bx_new _ _ _ HX8.out.symm
          obtain ⟨w9, HW9⟩ := nameIt (w8.alloc (.cells #[.int .i64 0, .slice none 0 0, .slice none 0 0] 25))
          rw [HW9.out] at hb89 hx9
          obtain ⟨x0, x1, x2⟩ := bx_cells3 hx9
          have HE := Lib.hid (HFIN.out w9 (HBX.out.trans ((hb8.trans (hb89.mono hb8.size)).mono HBX.out.size)))
          clear hb8 hb89 hx9
          go_upto_region 13 with fail
          rw [HX8.out, HW9.out]
          rcases hor with ⟨h, hd1⟩ | ⟨hd1, hd2⟩
          · clear h
            go_wp2_with fail
            all_goals exact HE.out
          · go_wp2_with fail
            all_goals exact HE.out
theorem lawLTV (x : Dfa) (sy : Int) (ua un : Value) (w : World) (h : Sl w ua (ints x.acc) ∧ Rd AnyB w (.sl (x.next.map D.ints)) [un]) :
    Calls Try.prog 3 #[.agg #[.int .i64 x.start, ua, un], .int .i64 sy] w fun e w' => e = .returned (.bool true) ∧ Below w.heap.size w w' := by
  obtain ⟨h1, h1'⟩ := h
  obtain ⟨a1, c1, rfl⟩ := h1.form
  obtain ⟨a2, c2, rfl, -, -⟩ := h1'.form
  rw [ints_len] at h1 ⊢
  rw [List.length_map] at h1' ⊢
  exact lawLT x sy a1 a2 c1 c2 w ⟨h1, h1'⟩
end Lr
end Go.Proofs.Ytclpmmbclgihbaa
namespace Go.Proofs.Ytclpmmbclgihbaa
open Go.RowKit Go.ChangeShapes Go.WideShapes Go.Deep Go.Joins

end Go.Proofs.Ytclpmmbclgihbaa
namespace Go.Proofs.Ytclpmmbclgihbaa
open Go.RowKit Go.ChangeShapes Go.WideShapes Go.Deep Go.Joins

end Go.Proofs.Ytclpmmbclgihbaa
namespace Go.Proofs.Ytclpmmbclgihbaa.RowLearnTells
open Go.ChangeShapes Go.WideShapes Go.ChangeAt Go.RowKit
theorem own : ownKnob Try.prog.godebug = none := by kernel_rfl
theorem laidOut : laidOutB Try.prog = true := by kernel_rfl

set_option maxRecDepth 100000 in
theorem contract (H : Type) (enc : TypeId × Value → H) (W : World) (base : Nat) (args : Array Value) (ds gs : List (DataW H)) (before : List MemPlace)
    (hval0 : ∀ (j : Nat) t v, Try.f3.params[j]? = some t → args[j]? = some v → Value.okWide Try.prog W .any base t v)
    (hW : DataW.Whole enc Try.prog Try.f3.params.toList Rows.learnTellsSpec.vars false W args.toList ds gs before)
    (hsz0 : (DataW.weightsEach Try.prog (Try.f3.params.toList ++ Rows.learnTellsSpec.plain.varTypes Try.prog) (ds ++ gs)).all (· ≤ reachBytes) = true) :
    Calls Try.prog 3 args W fun e W' => ∃ v, e = .returned v ∧ Rows.learnTellsSpec.post enc Try.prog Try.f3 false true false false W args v W' := by
  have hval : ∀ (j : Nat) t v, Try.f3.params[j]? = some t → args[j]? = some v → Value.okWide Try.prog W .any base t v := hval0
  have hW' := hW
  obtain ⟨p, q, hA0, hV, rfl, hfz, hnd⟩ := hW
  have hA : DataW.TrodAll enc Try.prog W 0 (fun _ => true) true Try.f3.params.toList args.toList ds p := hA0
  have hsz : (DataW.weightsEach Try.prog (Try.f3.params.toList ++ Rows.learnTellsSpec.plain.varTypes Try.prog) (ds ++ gs)).all (· ≤ reachBytes) = true := hsz0
  rw [Try.params3] at hA hval hsz
  obtain ⟨v0, vs0, d0, ds0, p0, q0, hargs, rfl, rfl, h0, r0'⟩ := trodAll_cons hA
  obtain ⟨v1, vs1, d1, ds1, p1, q1, rfl, rfl, rfl, h1, r1'⟩ := trodAll_cons r0'
  obtain ⟨rfl, rfl, rfl⟩ := trodAll_nil r1'
  obtain rfl : args = #[v0, v1] := by cases args; simp_all
  obtain ⟨rfl, rfl⟩ := trodVars_none hV
  have lt0 : ∀ x ∈ p0, x.block < W.heap.size := by obtain ⟨m, hm⟩ := h0; exact DataW.trod_lt m _ _ _ hm
  have tr0 := h0
  have lt1 : ∀ x ∈ p1, x.block < W.heap.size := by obtain ⟨m, hm⟩ := h1; exact DataW.trod_lt m _ _ _ hm
  have tr1 := h1
  have weightsAt : ∀ (j : Nat) {t : TypeId} {d : DataW H}, (Try.f3.params.toList ++ Rows.learnTellsSpec.plain.varTypes Try.prog)[j]? = some t → ([d0, d1] ++ [])[j]? = some d → ∀ y ∈ DataW.weights Try.prog t d, y ≤ reachBytes := fun j t d ht hd y hy => of_decide_eq_true (List.all_eq_true.1 hsz0 y (DataW.weights_mem_each ht hd y hy))
  obtain ⟨a0, rd0, sz0, k0, li0⟩ := open_arg Df.opens_dfa h0
  have lim0 := li0 (weightsAt 0 rfl rfl)
  obtain ⟨u0, n0, rfl, r0⟩ := Df.open_dfaV (hval 0 25 v0 rfl rfl) rd0
  obtain ⟨x1, rfl, rfl, rfl, wf1⟩ := open_int Try.underlying3 (hval 1 3 v1 rfl rfl) h1
  have k1 : i64 x1 := by simpa [Lit.wf, IntKind.min, IntKind.max, IntKind.signed, IntKind.bits, i64] using wf1
  clear hA0 hval0
  refine (Lr.lawLTV a0 x1 u0 n0 W r0).mono fun e W' ⟨he, bel⟩ => ?_
  subst he
  exact ⟨_, rfl, _, _, _, [], _, [], hW', trodAll_mk1 (shut_bool Try.underlying4 _), (trodAll_cons_mk (Below.trod laidOut (by kernel_rfl) (of_decide_eq_true (by kernel_rfl)) tr0 bel lt0) (trodAll_cons_mk (Below.trod laidOut (by kernel_rfl) (of_decide_eq_true (by kernel_rfl)) tr1 bel lt1) trodAll_mk0)), rfl, bel.frame _, fun h => by cases h⟩

set_option maxRecDepth 100000 in
theorem lifted (os : Os) (started : os.Started) (H : Type) (enc : TypeId × Value → H) :
    ReturnsInHanded {} Try.checked os 3 .any (Rows.learnTellsSpec.pre6 enc Try.prog Try.f3 Rows.learnTellsRow.domain false) (Rows.learnTellsSpec.post enc Try.prog Try.f3 false true false false) := by
  refine returnsInHanded_of_change_sized (C := Try.checked) own started (by kernel_rfl) Try.func3
    (ChangeSpec.witness6 (enc := enc) (C := Try.checked) false ⟨#[], #[.agg #[.int .i64 0, .slice none 0 0, .slice none 0 0], .int .i64 0], []⟩ 8 (by kernel_rfl) (by kernel_rfl) (by kernel_rfl) (by kernel_rfl)) ?_
  intro W base args ds gs before hval0 hW hcnd hsz0 _
  exact contract H enc W base args ds gs before hval0 hW hsz0

theorem over : Rows.learnTellsRow.holds Try.pinned (OpenSpec.ofChange Rows.learnTellsSpec) :=
  OpenClaim.holds_of_wide 3 Try.f3 rfl rfl rfl rfl rfl rfl rfl ⟨rfl, rfl, rfl, rfl, rfl⟩ rfl rfl rfl rfl rfl (by kernel_rfl) Try.func3 (by kernel_rfl)
    (of_decide_eq_true (by kernel_rfl)) (by unfold Func.isWrapper; first | (rw [if_pos (by decide +kernel)]; kernel_rfl) | (rw [if_neg (by decide +kernel)]; exact ⟨rfl, rfl⟩))
    (fun os started H enc _ => lifted os started H enc)
end Go.Proofs.Ytclpmmbclgihbaa.RowLearnTells
namespace Go.Proofs.Ytclpmmbclgihbaa
theorem learnTells_holds : Rows.LearnTellsSaid := RowLearnTells.over
#print axioms learnTells_holds
end Go.Proofs.Ytclpmmbclgihbaa
