/- parlref5.Guessed. Which trees are valid, in plain Lean: two ways to say it. The contract of tree.Size. The contracts of gram.Root and of the functions of tree.valid. The contracts of tree.valid, tree.Check and tree.Symbol. The contract of tree.valid. The contracts of tree.Symbol and of Label. slices.Equal of symbols. slices.EqualFunc of equal rules; the law's closures. -/
import Derived.Test.YthnkgmlhpefldaaDoorJGuessTellsRow8
import Derived.Test.YthnkgmlhpefldaaDoorJGuessTellsRow9
import Derived.Deep.DeepCutAuto
import Derived.Test.YthnkgmlhpefldaaDoorJGuessTellsRow1
import Derived.Test.YthnkgmlhpefldaaDoorJGuessTellsRow6
import Derived.Test.YthnkgmlhpefldaaDoorJGuessTellsRow3
import Derived.Deep.QuietTactic
import Derived.BigQuiet
import Derived.Laws.StructEq
import Derived.Laws.EntriesVeiled
namespace Go.Proofs.YthnkgmlhpefldaaDoor
open Go.RowKit
namespace Gs
open Lg

theorem nilRd {W : World} : Rd AnyB W (.sl (([] : List Rule).map Rule.d)) [.slice none 0 0] := ⟨none, 0, [], rfl, by simp, by simp [maxLen], fun _ => rfl, fun i hi => by simp at hi, rfl⟩
theorem nilRdS (S : Nat → Prop) (W : World) : Rd S W (.sl (([] : List Rule).map Rule.d)) [.slice none 0 0] := ⟨none, 0, [], rfl, by simp, by simp [maxLen], fun _ => rfl, fun i hi => by simp at hi, rfl⟩
def GdP (t n : Nat) (yes no : List (List Int)) (w : World) (e : Ending) (w' : World) : Prop :=
  ∃ y0 y1 y2 a k c b, e = .returned (.tuple #[.agg #[.int .i64 y0, .int .i64 y1, .int .i64 y2, .slice a k c], .bool b]) ∧
    Hid ((b = true ∧ ∃ r, gF (fitG (t : Int) (n : Int) yes no) (LR t n) 4 = some r ∧ r.length = k ∧ Rd AnyB w' (.sl (r.map Rule.d)) [.slice a k c]) ∨ (b = false ∧ gF (fitG (t : Int) (n : Int) yes no) (LR t n) 4 = none)) ∧ Below w.heap.size w w'
section
variable {t n : Nat} {yes no : List (List Int)}
set_option maxHeartbeats 16000000 in
set_option maxRecDepth 100000 in
theorem guessedE (ht : 1 ≤ t) (ht2 : t ≤ 2) (hn : 1 ≤ n) (hn2 : n ≤ 2) (hyo : wordOk (t : Int) yes) (hno : wordOk (t : Int) no) (lk lo lc : Nat) (ya oa : Option Addr) (yc oc : Nat) (w : World) (hl : Rd AnyB w (.sl ((LR t n).map Rule.d)) [.slice (some ⟨lk, lo, none⟩) (LR t n).length lc]) (hy : Rd AnyB w (.sl (yes.map D.ints)) [.slice ya yes.length yc]) (ho : Rd AnyB w (.sl (no.map D.ints)) [.slice oa no.length oc]) :
    Calls Tryd.prog 10 #[.int .i64 (t : Int), .int .i64 (n : Int), .slice (some ⟨lk, lo, none⟩) (LR t n).length lc, .slice ya yes.length yc, .slice oa no.length oc] w (GdP t n yes no w) := by
  obtain ⟨PST, HP⟩ := nameIt (GdP t n yes no w)
  rw [HP.out]
  obtain ⟨w1, HW1⟩ := nameIt (((((w.alloc (.cells #[.int .i64 (t : Int)] 3)).alloc (.cells #[.int .i64 (n : Int)] 3)).alloc (.cells #[.slice ya yes.length yc] 22)).alloc (.cells #[.slice oa no.length oc] 22)).alloc (.cells #[.int .i64 0, .int .i64 0, .int .i64 0, .slice none 0 0] 25))
  have hb1 : Below w.heap.size w w1 := by rw [← HW1.out]; exact (((((Below.refl _ _).alloc (Nat.le_refl _) _).alloc (by simp) _).alloc (by simp; omega) _).alloc (by simp; omega) _).alloc (by simp; omega) _
  have bal : ∀ (W : World) (o : Obj), Below W.heap.size W (W.alloc o) := fun W o => (Below.refl _ _).alloc (Nat.le_refl _) _
  have XT : w1.heap[w.heap.size]? = some (.cells #[.int .i64 (t : Int)] 3 (0, 0)) := by rw [← HW1.out]; exact bx_keep (bx_keep (bx_keep (bx_keep (bx_new _ _ _ rfl) (bal _ _)) (bal _ _)) (bal _ _)) (bal _ _)
  have XN : w1.heap[w.heap.size + 1]? = some (.cells #[.int .i64 (n : Int)] 3 (0, 0)) := by rw [← HW1.out]; exact bx_keep (bx_keep (bx_keep (bx_new _ _ _ (by simp)) (bal _ _)) (bal _ _)) (bal _ _)
  have XY : w1.heap[w.heap.size + 1 + 1]? = some (.cells #[.slice ya yes.length yc] 22 (0, 0)) := by rw [← HW1.out]; exact bx_keep (bx_keep (bx_new _ _ _ (by simp)) (bal _ _)) (bal _ _)
  have XO : w1.heap[w.heap.size + 1 + 1 + 1]? = some (.cells #[.slice oa no.length oc] 22 (0, 0)) := by rw [← HW1.out]; exact bx_keep (bx_new _ _ _ (by simp)) (bal _ _)
  have XR : w1.heap[w.heap.size + 1 + 1 + 1 + 1]? = some (.cells #[.int .i64 0, .int .i64 0, .int .i64 0, .slice none 0 0] 25 (0, 0)) := by rw [← HW1.out]; exact bx_new _ _ _ (by simp)
  have hbig : w.heap.size ≤ w.heap.size + 1 + 1 + 1 + 1 := by omega
  have hlen : (LR t n).length ≤ 42 := LR_len ht2 hn2
  have hls := hl.bounds.2
  unfold maxLen at hls
  have HRL : Hid (∀ W, Below w1.heap.size w1 W → Rd (fun k => k ≠ w.heap.size + 1 + 1 + 1 + 1) W (.sl ((LR t n).map Rule.d)) [.slice (some ⟨lk, lo, none⟩) (LR t n).length lc]) := fun W h => (hl.mono fun k _ hk => by omega).below (hb1.trans (h.mono hb1.size))
  have hfenv : ∀ W, Below w1.heap.size w1 W → FitEnv n yes no (w.heap.size + 1) (w.heap.size + 1 + 1) (w.heap.size + 1 + 1 + 1) ya yc oa oc W := fun W h => ⟨bx_cells1 (bx_keep XN h), bx_cells1 (bx_keep XY h), bx_cells1 (bx_keep XO h), (hy.below hb1).below h, (ho.below hb1).below h⟩
  have HFIT : Hid (∀ (p : List Rule) (k : Nat) pa pc W, p.length = k → p.Sublist (LR t n) → Below w1.heap.size w1 W → Rd AnyB W (.sl (p.map Rule.d)) [.slice pa k pc] → Calls Tryd.prog 24 #[.slice pa k pc, .pointer (some ⟨w.heap.size + 1, 0, none⟩), .pointer (some ⟨w.heap.size + 1 + 1, 0, none⟩), .pointer (some ⟨w.heap.size + 1 + 1 + 1, 0, none⟩)] W fun e w' => e = .returned (.bool (fitG (t : Int) (n : Int) yes no p)) ∧ Below W.heap.size W w') :=
    fun p k pa pc W hk h1 h2 h3 => by subst hk; exact fitsE ht ht2 hn hn2 hyo hno p h1 pa pc W (hfenv W h2) h3
  have HMK : Hid (∀ (p : List Rule) (k : Nat) pa pc W, p.length = k → k ≤ 3 → Below w1.heap.size w1 W → Rd (fun k => k ≠ w.heap.size + 1 + 1 + 1 + 1) W (.sl (p.map Rule.d)) [.slice pa k pc] → Calls Tryd.prog 27 #[.slice pa k pc, .pointer (some ⟨w.heap.size, 0, none⟩), .pointer (some ⟨w.heap.size + 1, 0, none⟩)] W fun e w' => ∃ a c, e = .returned (.tuple #[.agg #[.int .i64 (t : Int), .int .i64 (n : Int), .int .i64 0, .slice a k c], .bool true]) ∧ Rd (fun k => k ≠ w.heap.size + 1 + 1 + 1 + 1) w' (.sl (p.map Rule.d)) [.slice a k c] ∧ Below W.heap.size W w') := fun p k pa pc W hk h1 h2 h3 => by
    subst hk
    have hz := bx_lt (bx_keep XR h2)
    exact (make1E (t : Int) (n : Int) w.heap.size (w.heap.size + 1) p (by omega) (fun k => k ≠ w.heap.size + 1 + 1 + 1 + 1) pa pc W (bx_cells1 (bx_keep XT h2)) (bx_cells1 (bx_keep XN h2)) h3).mono fun e w' ⟨a, c, k1, k2, k3⟩ => ⟨a, c, k1, k2.mono fun k hk _ => by rcases hk with h | h; exact h; omega, k3⟩
  have HF1 : Hid (∀ (r : List Rule) (k : Nat) a c w' x0 x1 x2 x3, r.length = k → gF (fitG (t : Int) (n : Int) yes no) (LR t n) 4 = some r → Rd (fun k => k ≠ w.heap.size + 1 + 1 + 1 + 1) w' (.sl (r.map Rule.d)) [.slice a k c] → Below w1.heap.size w1 w' → PST (.returned (.tuple #[.agg #[.int .i64 (t : Int), .int .i64 (n : Int), .int .i64 0, .slice a k c], .bool true])) ((((w'.setCell ⟨w.heap.size + 1 + 1 + 1 + 1, 0, none⟩ x0).setCell ⟨w.heap.size + 1 + 1 + 1 + 1, 1, none⟩ x1).setCell ⟨w.heap.size + 1 + 1 + 1 + 1, 2, none⟩ x2).setCell ⟨w.heap.size + 1 + 1 + 1 + 1, 3, none⟩ x3)) := by
    intro r k a c w' x0 x1 x2 x3 hk h1 h2 h3
    rw [← HP.out]
    exact ⟨_, _, _, a, _, c, true, rfl, .inl ⟨rfl, r, h1, hk, (Rd.box4 h2 (fun h => h rfl) x0 x1 x2 x3).any⟩, below_box4 (hb1.trans (h3.mono hb1.size)) hbig _ _ _ _⟩
  have HF0 : Hid (∀ w' x0 x1 x2 x3, gF (fitG (t : Int) (n : Int) yes no) (LR t n) 4 = none → Below w1.heap.size w1 w' → PST (.returned (.tuple #[.agg #[.int .i64 0, .int .i64 0, .int .i64 0, .slice none 0 0], .bool false])) ((((w'.setCell ⟨w.heap.size + 1 + 1 + 1 + 1, 0, none⟩ x0).setCell ⟨w.heap.size + 1 + 1 + 1 + 1, 1, none⟩ x1).setCell ⟨w.heap.size + 1 + 1 + 1 + 1, 2, none⟩ x2).setCell ⟨w.heap.size + 1 + 1 + 1 + 1, 3, none⟩ x3)) := by
    intro w' x0 x1 x2 x3 h1 h3
    rw [← HP.out]
    exact ⟨0, 0, 0, none, 0, 0, false, rfl, .inr ⟨rfl, h1⟩, below_box4 (hb1.trans (h3.mono hb1.size)) hbig _ _ _ _⟩
  have HXR := Lib.hid XR
  have hnot : w1.heap.size = w.heap.size + 1 + 1 + 1 + 1 + 1 := by rw [← HW1.out]; simp
  obtain ⟨fit, HFT⟩ := nameIt (fitG (t : Int) (n : Int) yes no)
  simp only [HFT.out] at HFIT HF1 HF0
  obtain ⟨L, HL⟩ := nameIt (LR t n)
  simp only [HL.out] at HFIT HF1 HF0 HRL
  rw [HL.out] at hlen hls
  rw [HL.out]
  obtain ⟨ll, HLL⟩ := nameIt L.length
  simp only [HLL.out] at HRL
  rw [HLL.out] at hlen hls
  rw [HLL.out]
  obtain ⟨yl, HYL⟩ := nameIt yes.length
  obtain ⟨nl, HNL⟩ := nameIt no.length
  rw [HYL.out, HNL.out] at HW1
  rw [HYL.out, HNL.out]
  obtain ⟨tb, HTB⟩ := nameIt w.heap.size
  obtain ⟨nb, HNB⟩ := nameIt (tb + 1)
  obtain ⟨yb, HYB⟩ := nameIt (nb + 1)
  obtain ⟨ob, HOB⟩ := nameIt (yb + 1)
  obtain ⟨rb, HRB⟩ := nameIt (ob + 1)
  simp only [HTB.out, HNB.out, HYB.out, HOB.out, HRB.out] at HFIT HMK HF1 HF0 HRL HXR
  have hrb1 : rb < w1.heap.size := bx_lt HXR.out
  have HFA : Hid (∀ (p : List Rule) (k : Nat) cs W, p.length = k → p.Sublist L → Below w1.heap.size w1 W → Rd (fun k => k ≠ rb) (W.alloc (.cells cs 32)) (.sl (p.map Rule.d)) [.slice (some ⟨W.heap.size, 0, none⟩) k k] → Calls Tryd.prog 24 #[.slice (some ⟨W.heap.size, 0, none⟩) k k, .pointer (some ⟨nb, 0, none⟩), .pointer (some ⟨yb, 0, none⟩), .pointer (some ⟨ob, 0, none⟩)] (W.alloc (.cells cs 32)) fun e w' => e = .returned (.bool (fit p)) ∧ Below W.heap.size W w') := by
    intro p k cs W hk h1 h2 h3
    have hba : Below W.heap.size W (W.alloc (.cells cs 32)) := (Below.refl _ _).alloc (Nat.le_refl _) _
    exact (HFIT.out p k _ _ _ hk h1 (h2.trans (hba.mono h2.size)) h3.any).mono fun e w' ⟨k1, k2⟩ => ⟨k1, hba.trans (k2.mono hba.size)⟩
  have HMA : Hid (∀ (p : List Rule) (k : Nat) cs W, p.length = k → k ≤ 3 → Below w1.heap.size w1 W → Rd (fun k => k ≠ rb) (W.alloc (.cells cs 32)) (.sl (p.map Rule.d)) [.slice (some ⟨W.heap.size, 0, none⟩) k k] → Calls Tryd.prog 27 #[.slice (some ⟨W.heap.size, 0, none⟩) k k, .pointer (some ⟨tb, 0, none⟩), .pointer (some ⟨nb, 0, none⟩)] (W.alloc (.cells cs 32)) fun e w' => ∃ a c, e = .returned (.tuple #[.agg #[.int .i64 (t : Int), .int .i64 (n : Int), .int .i64 0, .slice a k c], .bool true]) ∧ Rd (fun k => k ≠ rb) w' (.sl (p.map Rule.d)) [.slice a k c] ∧ Below W.heap.size W w') := by
    intro p k cs W hk h1 h2 h3
    have hba : Below W.heap.size W (W.alloc (.cells cs 32)) := (Below.refl _ _).alloc (Nat.le_refl _) _
    exact (HMK.out p k _ _ _ hk h1 (h2.trans (hba.mono h2.size)) h3).mono fun e w' ⟨a, c, k1, k2, k3⟩ => ⟨a, c, k1, k2, hba.trans (k3.mono hba.size)⟩
  have eg1 : ∀ args w, (callFunc 24 args).run Tryd.prog w = .ok (.enter 24 args) w := fun _ _ => by kernel_rfl
  have eg2 : ∀ args w, (callFunc 27 args).run Tryd.prog w = .ok (.enter 27 args) w := fun _ _ => by kernel_rfl
  clear HP XT XN XY XO XR hfenv hy ho hl hyo hno hbig bal hb1 hnot ht ht2 hn hn2 HFT
  go_enter Tryd.func10, Tryd.ntmps10
  go_upto_region 1 with fail
  rw [HW1.out]
  simp only [HTB.out, HNB.out, HYB.out, HOB.out, HRB.out]
  clear HW1
  have HA1 := Lib.hid (HFIT.out [] 0 none 0 w1 rfl (List.nil_sublist _) (Below.refl _ _) nilRd)
  go_wp2_with fail
  with_reducible refine HA1.out.mono ?_
  rintro e w2 ⟨rfl, hb2⟩
  have HB2 := Lib.hid hb2
  clear hb2 HA1
  obtain ⟨b0, HB0⟩ := nameIt (fit [])
  cases b0 with
  | true =>
    have HM := Lib.hid (HMK.out [] 0 none 0 w2 rfl (by decide) HB2.out (nilRdS _ _))
    rw [HB0.out]
    go_wp2_with fail
    with_reducible refine HM.out.mono ?_
    rintro e w3 ⟨a3, c3, rfl, hr3, hb3⟩
    have HB3 : Hid (Below w1.heap.size w1 w3) := HB2.out.trans (hb3.mono HB2.out.size)
    have hz := HB2.out.size
    have HE := Lib.hid (fun x0 x1 x2 x3 => HF1.out [] 0 a3 c3 w3 x0 x1 x2 x3 rfl (gF_up (n := 1) (by rw [gF, gF, fF, if_pos HB0.out]; rfl) (by decide)) (hr3) HB3.out)
    obtain ⟨z0, z1, z2, z3⟩ := bx_cells4 (bx_keep HXR.out HB3.out)
    obtain ⟨f0, f1, f2, f3⟩ := bx_free4 (bx_keep HXR.out HB3.out)
    clear hr3 hb3 HM
    go_wp2_with fail
    refine bodyPost_ret (v := .tuple #[.agg #[.int .i64 (t : Int), .int .i64 (n : Int), .int .i64 0, .slice a3 0 c3], .bool true]) (by simp [results, Tryd.results10, go_sem, z0, z1, z2, z3]) rfl ?_
    exact HE.out _ _ _ _
  | false =>
    have HG1 : Hid (gF fit L 1 = none) := by show _ = _; rw [gF, gF, fF, if_neg (by rw [HB0.out]; decide)]; rfl
    rw [HB0.out]
    go_wp2_with fail
    have HI0 : Hid (fF fit 1 L [] = fF fit 1 (L.drop 0) []) := rfl
    go_loopg [15, 38] ll (fun gg v15 v38 wr => ∃ i : Nat, i ≤ ll ∧ ll - i ≤ gg ∧ v38 = .int .i64 (i : Int) ∧ Hid (fF fit 1 L [] = fF fit 1 (L.drop i) []) ∧ Hid (Below w1.heap.size w1 wr))
    case atStart => exact ⟨0, by omega, by omega, rfl, HI0, HB2⟩
    case round =>
      clear HI0 HB2
      obtain ⟨i, hi, hgg, rfl, HST, HB⟩ := hrel
      obtain ⟨wr, rfl⟩ : ∃ ww : World, ww = wr := ⟨_, rfl⟩
      by_cases hik : i < ll
      · have hik' : (i : Int) < (ll : Int) := by omega
        have hi0 : (0 : Int) ≤ (i : Int) := by omega
        have hiL : i < L.length := by rw [HLL.out]; exact hik
        have hat := fF_at (fit := fit) (n := 0) (p := []) hiL
        have hsub := sub_next (p := []) hiL (List.nil_sublist _)
        obtain ⟨ba, oa, va, haea, -, hlta, sa0, sa1, hrra⟩ := (HRL.out wr HB.out).rule_at hiL
        cases haea
        obtain ⟨ra_, ca_, rfl, -, -⟩ := hrra.form
        obtain ⟨kida, HKa⟩ := nameIt (L[i]'hiL)
        rw [HKa.out] at sa0 sa1 hrra
        obtain ⟨lfa, RLa⟩ := kida
        dsimp only at sa0 sa1 hrra
        rw [List.length_map] at sa1 hrra
        have HRa : Hid (∀ W', Below wr.heap.size wr W' → Rd (fun k => k ≠ rb) W' (.sl (RLa.map Sym.d)) [.slice ra_ RLa.length ca_]) := fun W' h => hrra.below h
        obtain ⟨na_, HNa_⟩ := nameIt RLa.length
        rw [HNa_.out] at sa1
        simp only [HNa_.out] at HRa
        clear hrra hlta
        rw [HKa.out, List.nil_append] at hat hsub
        have HAT := Lib.hid hat
        have HSUB : Hid ([(⟨lfa, RLa⟩ : Rule)].Sublist L) := hsub.trans (List.take_sublist _ _)
        clear hat hsub HKa

        obtain ⟨wa, Hwa⟩ := nameIt (wr.alloc (.cells #[.int .i64 lfa, .slice ra_ na_ ca_] 32))
        have hbwa : Below wr.heap.size wr wa := by rw [← Hwa.out]; exact (Below.refl _ _).alloc (Nat.le_refl _) _
        have HXa : Hid (∀ W', Below wa.heap.size wa W' → W'.heap[wr.heap.size]? = some (.cells #[.int .i64 lfa, .slice ra_ na_ ca_] 32 (0, 0))) := fun W' h => bx_keep (by rw [← Hwa.out]; exact bx_new _ _ _ rfl) h
        have HBwa : Hid (Below w1.heap.size w1 wa) := HB.out.trans (hbwa.mono HB.out.size)
        obtain ⟨qa, HNqa⟩ := nameIt wr.heap.size
        rw [HNqa.out] at HXa

        have hsz := HBwa.out.size
        have hcA : ∀ W', Below wa.heap.size wa W' → Rd (fun k => k ≠ rb) (W'.alloc (.cells #[.int .i64 lfa, .slice ra_ na_ ca_] 32)) (.sl ([(⟨lfa, RLa⟩ : Rule)].map Rule.d)) [.slice (some ⟨W'.heap.size, 0, none⟩) 1 1] := fun W' h => by
          have hX := bx_new W' (.cells #[.int .i64 lfa, .slice ra_ na_ ca_] 32) W'.heap.size rfl
          have hz := h.size
          have hz1 := hbwa.size
          have hqa : Rd (fun k => k ≠ rb) (W'.alloc (.cells #[.int .i64 lfa, .slice ra_ na_ ca_] 32)) (.sl (RLa.map Sym.d)) [.slice ra_ na_ ca_] := HRa.out _ (hbwa.trans ((h.trans ((Below.refl _ _ : Below W'.heap.size W' W').alloc (Nat.le_refl _) _ |>.mono h.size)).mono hbwa.size))
          have hz2 := bx_lt (bx_keep HXR.out HBwa.out)
          exact rd_of_own (own_of_block hX (n := 1) (size := 2) rfl (by simp [maxLen])) (RdAll.one (rd_rule (r := ⟨lfa, RLa⟩) hqa)) rfl (fun k e => by simp [Value.ownBlock] at e; omega)
        have HC1 := Lib.hid (HFA.out [(⟨lfa, RLa⟩ : Rule)] 1 #[.int .i64 lfa, .slice ra_ na_ ca_] wa rfl HSUB.out HBwa.out (hcA wa (Below.refl _ _)))
        have HCM := Lib.hid (fun W' (h : Below wa.heap.size wa W') => HMA.out [(⟨lfa, RLa⟩ : Rule)] 1 #[.int .i64 lfa, .slice ra_ na_ ca_] W' rfl (by decide) (HBwa.out.trans (h.mono HBwa.out.size)) (hcA W' h))
        obtain ⟨xa0, xa1⟩ := bx_cells2 (HXa.out wa (Below.refl _ _))
        clear hbwa hcA hsz
        go_upto_region 8 with fail
        rw [Hwa.out, HNqa.out]
        clear Hwa sa0 sa1
        go_wp2_with fail
        with_reducible refine HC1.out.mono ?_
        rintro e w2 ⟨rfl, hb2⟩
        have HB2 := Lib.hid hb2
        have HCM2 := Lib.hid (HCM.out w2 hb2)
        clear hb2 HC1 xa0 xa1 HCM
        obtain ⟨fb, HFB⟩ := nameIt (fit [(⟨lfa, RLa⟩ : Rule)])
        rw [HFB.out]
        cases fb with
        | true =>
          obtain ⟨xa0, xa1⟩ := bx_cells2 (HXa.out w2 HB2.out)
          go_wp2_with fail
          with_reducible refine HCM2.out.mono ?_
          rintro e w3 ⟨a3, c3, rfl, hr3, hb3⟩
          have HB3 : Hid (Below w1.heap.size w1 w3) := (HBwa.out.trans (HB2.out.mono HBwa.out.size)).trans (hb3.mono (HBwa.out.trans (HB2.out.mono HBwa.out.size)).size)
          have HE := Lib.hid (fun x0 x1 x2 x3 => HF1.out [(⟨lfa, RLa⟩ : Rule)] 1 a3 c3 w3 x0 x1 x2 x3 rfl (gF_up (n := 2) (by rw [gF, HG1.out, HST.out, HAT.out, fF, if_pos HFB.out]; rfl) (by decide)) (hr3) HB3.out)
          obtain ⟨z0, z1, z2, z3⟩ := bx_cells4 (bx_keep HXR.out HB3.out)
          obtain ⟨f0, f1, f2, f3⟩ := bx_free4 (bx_keep HXR.out HB3.out)
          clear hr3 hb3 HCM2 xa0 xa1
          go_wp2_with fail
          refine bodyPost_ret (v := .tuple #[.agg #[.int .i64 (t : Int), .int .i64 (n : Int), .int .i64 0, .slice a3 1 c3], .bool true]) (by simp [results, Tryd.results10, go_sem, z0, z1, z2, z3]) rfl ?_
          exact HE.out _ _ _ _
        | false =>
          have HSTN : Hid (fF fit 1 L [] = fF fit 1 (L.drop (i + 1)) []) := by show _ = _; rw [HST.out, HAT.out, fF, if_neg (by rw [HFB.out]; decide)]; rfl
          have HBN : Hid (Below w1.heap.size w1 w2) := HBwa.out.trans (HB2.out.mono HBwa.out.size)
          go_wp2_with fail
          go_roundg (ll - (i + 1))
          case measure => omega
          case rel => exact ⟨i + 1, by omega, by omega, by go_num, HSTN, HBN⟩
      · have hik' : ¬ (i : Int) < (ll : Int) := by omega
        have HG2 : Hid (gF fit L 2 = none) := by show _ = _; rw [gF, HG1.out, HST.out, fF_end (by rw [HLL.out]; omega)]; rfl
        have HB1 := Lib.hid HB.out
        have HI0 : Hid (fF fit 2 L [] = fF fit 2 (L.drop 0) []) := rfl
        clear HG1 HST HB hik hi hgg
        go_wp2_with fail

        go_loopg [16, 17, 19, 20, 55] ll (fun gg v16 v17 v19 v20 v55 wr => ∃ i : Nat, i ≤ ll ∧ ll - i ≤ gg ∧ v55 = .int .i64 (i : Int) ∧ Hid (fF fit 2 L [] = fF fit 2 (L.drop i) []) ∧ Hid (Below w1.heap.size w1 wr))
        case atStart => exact ⟨0, by omega, by omega, rfl, HI0, HB1⟩
        case round =>
          clear HI0 HB1
          obtain ⟨i, hi, hgg, rfl, HST, HB⟩ := hrel
          obtain ⟨wr0, rfl⟩ : ∃ ww : World, ww = wr := ⟨_, rfl⟩
          by_cases hik : i < ll
          · have hik' : (i : Int) < (ll : Int) := by omega
            have hi0 : (0 : Int) ≤ (i : Int) := by omega
            have hiL : i < L.length := by rw [HLL.out]; exact hik
            have hat := fF_at (fit := fit) (n := 1) (p := []) hiL
            have hsub := sub_next (p := []) hiL (List.nil_sublist _)
            obtain ⟨ba, oa, va, haea, -, hlta, sa0, sa1, hrra⟩ := (HRL.out wr0 HB.out).rule_at hiL
            cases haea
            obtain ⟨ra_, ca_, rfl, -, -⟩ := hrra.form
            obtain ⟨kida, HKa⟩ := nameIt (L[i]'hiL)
            rw [HKa.out] at sa0 sa1 hrra
            obtain ⟨lfa, RLa⟩ := kida
            dsimp only at sa0 sa1 hrra
            rw [List.length_map] at sa1 hrra
            have HRa : Hid (∀ W', Below wr0.heap.size wr0 W' → Rd (fun k => k ≠ rb) W' (.sl (RLa.map Sym.d)) [.slice ra_ RLa.length ca_]) := fun W' h => hrra.below h
            obtain ⟨na_, HNa_⟩ := nameIt RLa.length
            rw [HNa_.out] at sa1
            simp only [HNa_.out] at HRa
            clear hrra hlta
            obtain ⟨i1, HI1⟩ := nameIt (i + 1)
            have hi1 : i + 1 = i1 := HI1.out
            rw [HKa.out, List.nil_append, hi1] at hat hsub
            have HATA : Hid (fF fit 2 (L.drop i) [] = (fF fit 1 (L.drop i1) [(⟨lfa, RLa⟩ : Rule)]).or (fF fit 2 (L.drop i1) [])) := hat
            have HSUBaT : Hid ([(⟨lfa, RLa⟩ : Rule)].Sublist (L.take i1)) := hsub
            have hiw : IntKind.i64.wrap ((i : Int) + 1) = (i1 : Int) := by rw [IntWalk.i64_in _ (by omega)]; omega
            have hi1l : i1 ≤ ll := by omega

            obtain ⟨o1, HOo1⟩ := nameIt (if lc = i1 then lo else lo + i1 * 2)
            obtain ⟨n1, HNn1⟩ := nameIt (ll - i1)
            obtain ⟨c1, HCc1⟩ := nameIt (lc - i1)
            have hbn1 : n1 ≤ 42 := by rw [← HNn1.out]; omega
            have hslL1 : ∀ W, (Instr.slice 23 (.slice (some ⟨lk, lo, none⟩) ll lc) (some (.int .i64 (i1 : Int))) none none).run Tryd.prog W = .ok (.slice (some ⟨lk, o1, none⟩) n1 c1) W := fun W => by
              have hs := run_slice_l (P := Tryd.prog) W 23 (some ⟨lk, lo, none⟩) ll lc (by kernel_rfl) .i64 i1 (by omega) (by omega)
              rw [hs, ← HOo1.out, ← HNn1.out, ← HCc1.out]
              by_cases hct : lc = i1
              · subst hct; simp [go_sem]
              · simp [go_sem, hct]
            have HRL1 : Hid (∀ W, Below w1.heap.size w1 W → Rd (fun k => k ≠ rb) W (.sl ((L.drop i1).map Rule.d)) [.slice (some ⟨lk, o1, none⟩) n1 c1]) := fun W h => by
              rw [← HOo1.out, ← HNn1.out, ← HCc1.out]
              exact Rd.dropR (HRL.out W h) (by omega)
            obtain ⟨L1, HDL1⟩ := nameIt (L.drop i1)
            simp only [HDL1.out] at HRL1
            have HLL1 : Hid (L1.length = n1) := by show _ = _; rw [← HDL1.out, List.length_drop, HLL.out]; exact HNn1.out
            rw [HDL1.out] at HATA
            clear hat hsub HKa
            obtain ⟨wa, Hwa⟩ := nameIt (wr0.alloc (.cells #[.int .i64 lfa, .slice ra_ na_ ca_] 32))
            have hbwa : Below wr0.heap.size wr0 wa := by rw [← Hwa.out]; exact (Below.refl _ _).alloc (Nat.le_refl _) _
            have HXa : Hid (∀ W', Below wa.heap.size wa W' → W'.heap[wr0.heap.size]? = some (.cells #[.int .i64 lfa, .slice ra_ na_ ca_] 32 (0, 0))) := fun W' h => bx_keep (by rw [← Hwa.out]; exact bx_new _ _ _ rfl) h
            have HBwa : Hid (Below w1.heap.size w1 wa) := HB.out.trans (hbwa.mono HB.out.size)
            obtain ⟨qa, HNqa⟩ := nameIt wr0.heap.size
            rw [HNqa.out] at HXa
            have HQa : Hid (∀ W', Below wa.heap.size wa W' → Rd (fun k => k ≠ rb) W' (.sl (RLa.map Sym.d)) [.slice ra_ na_ ca_]) := fun W' h => HRa.out W' (hbwa.trans (h.mono hbwa.size))
            clear hbwa
            go_upto_region 14 with fail
            rw [Hwa.out, HNqa.out]
            clear Hwa sa0 sa1
            have HI1N := Lib.hid hi1
            clear hi1
            go_wp2_with fail
            clear hslL1
            have HXaW := HXa
            go_loopg [19, 20, 65] n1 (fun gg v19 v20 v65 wr2 => ∃ j : Nat, j ≤ n1 ∧ n1 - j ≤ gg ∧ v65 = .int .i64 (j : Int) ∧ Hid (fF fit 1 L1 [(⟨lfa, RLa⟩ : Rule)] = fF fit 1 (L1.drop j) [(⟨lfa, RLa⟩ : Rule)]) ∧ Hid (Below wa.heap.size wa wr2))
            case atStart => exact ⟨0, by omega, by omega, rfl, Lib.hid rfl, Below.refl _ _⟩
            case round =>
              obtain ⟨j, hj, hgj, rfl, HSj, HBk⟩ := hrel
              obtain ⟨wr2, rfl⟩ : ∃ ww : World, ww = wr := ⟨_, rfl⟩
              have HBk1 : Hid (Below w1.heap.size w1 wr2) := HBwa.out.trans (HBk.out.mono HBwa.out.size)
              by_cases hltj : j < n1
              · have hltj' : (j : Int) < (n1 : Int) := by omega
                have h0j : (0 : Int) ≤ (j : Int) := by omega
                have hLj : j < L1.length := by rw [HLL1.out]; exact hltj
                have hat := fF_at (fit := fit) (n := 0) (p := [(⟨lfa, RLa⟩ : Rule)]) hLj
                have hgl : L1[j]'hLj = L[i1 + j]'(by have h1 := HLL1.out; have h2 := HNn1.out; rw [HLL.out]; omega) := by
                  simp only [← HDL1.out, List.getElem_drop]
                obtain ⟨bb, ob, vb, haeb, -, hltb, sb0, sb1, hrrb⟩ := (HRL1.out wr2 HBk1.out).rule_at hLj
                cases haeb
                obtain ⟨rb_, cb_, rfl, -, -⟩ := hrrb.form
                obtain ⟨kidb, HKb⟩ := nameIt (L1[j]'hLj)
                rw [HKb.out] at sb0 sb1 hrrb
                obtain ⟨lfb, RLb⟩ := kidb
                dsimp only at sb0 sb1 hrrb
                rw [List.length_map] at sb1 hrrb
                have HRb : Hid (∀ W', Below wr2.heap.size wr2 W' → Rd (fun k => k ≠ rb) W' (.sl (RLb.map Sym.d)) [.slice rb_ RLb.length cb_]) := fun W' h => hrrb.below h
                obtain ⟨nb_, HNb_⟩ := nameIt RLb.length
                rw [HNb_.out] at sb1
                simp only [HNb_.out] at HRb
                clear hrrb hltb
                rw [HKb.out] at hat hgl
                have HATb : Hid (fF fit 1 (L1.drop j) [(⟨lfa, RLa⟩ : Rule)] = (if fit [(⟨lfa, RLa⟩ : Rule), (⟨lfb, RLb⟩ : Rule)] then some [(⟨lfa, RLa⟩ : Rule), (⟨lfb, RLb⟩ : Rule)] else none).or (fF fit 1 (L1.drop (j + 1)) [(⟨lfa, RLa⟩ : Rule)])) := by show _ = _; rw [hat, fF]; rfl
                have HSUBb : Hid ([(⟨lfa, RLa⟩ : Rule), (⟨lfb, RLb⟩ : Rule)].Sublist L) := by
                  have h1 := HSUBaT.out
                  have h2 : i1 + j < L.length := by have h1 := HLL1.out; have h2 := HNn1.out; rw [HLL.out]; omega
                  have h3 := sub_next (p := [(⟨lfa, RLa⟩ : Rule)]) h2 (sub_more (by omega) h1)
                  rw [← hgl] at h3
                  exact h3.trans (List.take_sublist _ _)
                clear hat hgl HKb
                obtain ⟨wb, Hwb⟩ := nameIt (wr2.alloc (.cells #[.int .i64 lfb, .slice rb_ nb_ cb_] 32))
                have hbwb : Below wr2.heap.size wr2 wb := by rw [← Hwb.out]; exact (Below.refl _ _).alloc (Nat.le_refl _) _
                have HXb : Hid (∀ W', Below wb.heap.size wb W' → W'.heap[wr2.heap.size]? = some (.cells #[.int .i64 lfb, .slice rb_ nb_ cb_] 32 (0, 0))) := fun W' h => bx_keep (by rw [← Hwb.out]; exact bx_new _ _ _ rfl) h
                have HBwb : Hid (Below w1.heap.size w1 wb) := HBk1.out.trans (hbwb.mono HBk1.out.size)
                obtain ⟨qb, HNqb⟩ := nameIt wr2.heap.size
                rw [HNqb.out] at HXb
                obtain ⟨wd, Hwd⟩ := nameIt (wb.alloc (.cells #[.int .i64 lfa, .slice ra_ na_ ca_, .int .i64 lfb, .slice rb_ nb_ cb_] 32))
                have hbwd : Below wb.heap.size wb wd := by rw [← Hwd.out]; exact (Below.refl _ _).alloc (Nat.le_refl _) _
                have hX : wd.heap[wb.heap.size]? = some (.cells #[.int .i64 lfa, .slice ra_ na_ ca_, .int .i64 lfb, .slice rb_ nb_ cb_] 32 (0, 0)) := by rw [← Hwd.out]; exact bx_new _ _ _ rfl
                have hqa : Rd (fun k => k ≠ rb) wd (.sl (RLa.map Sym.d)) [.slice ra_ na_ ca_] := HQa.out wd (HBk.out.trans ((hbwb.trans (hbwd.mono hbwb.size)).mono HBk.out.size))
                have hqb : Rd (fun k => k ≠ rb) wd (.sl (RLb.map Sym.d)) [.slice rb_ nb_ cb_] := HRb.out _ (hbwb.trans (hbwd.mono hbwb.size))
                have HBwd : Hid (Below w1.heap.size w1 wd) := HBwb.out.trans (hbwd.mono HBwb.out.size)
                have hzr := bx_lt (bx_keep HXR.out HBwb.out)
                have HROW : Hid (Rd (fun k => k ≠ rb) wd (.sl ([(⟨lfa, RLa⟩ : Rule), (⟨lfb, RLb⟩ : Rule)].map Rule.d)) [.slice (some ⟨wb.heap.size, 0, none⟩) 2 2]) := rd_of_own (own_of_block hX (n := 2) (size := 2) rfl (by simp [maxLen])) (⟨[.int .i64 lfa, .slice ra_ na_ ca_], _, rfl, rd_rule (r := ⟨lfa, RLa⟩) hqa, RdAll.one (rd_rule (r := ⟨lfb, RLb⟩) hqb)⟩) rfl (fun k e => by simp [Value.ownBlock] at e; omega)
                have HC1 := Lib.hid (HFIT.out [(⟨lfa, RLa⟩ : Rule), (⟨lfb, RLb⟩ : Rule)] 2 _ _ wd rfl HSUBb.out HBwd.out HROW.out.any)
                have HCM := Lib.hid (fun W' (h : Below wd.heap.size wd W') => HMK.out [(⟨lfa, RLa⟩ : Rule), (⟨lfb, RLb⟩ : Rule)] 2 _ _ W' rfl (by decide) (HBwd.out.trans (h.mono HBwd.out.size)) (HROW.out.below h))
                obtain ⟨qd, HNqd⟩ := nameIt wb.heap.size
                rw [HNqd.out] at HC1
                simp only [HNqd.out] at HCM
                have hbpb : Below wa.heap.size wa wb := HBk.out.trans (hbwb.mono HBk.out.size)
                have HBPD : Hid (Below wa.heap.size wa wd) := hbpb.trans (hbwd.mono hbpb.size)
                obtain ⟨xx0, xx1⟩ := bx_cells2 (HXb.out wb (Below.refl _ _))
                obtain ⟨xa0, xa1⟩ := bx_cells2 (HXaW.out wb hbpb)
                clear hX hqa hqb hzr hbwb hbwd hbpb HROW
                go_upto_region 17 with fail
                rw [Hwb.out, HNqb.out]
                clear sb0 sb1 Hwb
                go_upto_region 18 with fail
                rw [Hwd.out, HNqd.out]
                clear Hwd xx0 xx1 xa0 xa1
                go_wp2_with fail
                with_reducible refine HC1.out.mono ?_
                rintro e w2 ⟨rfl, hb2⟩
                have HB2 : Hid (Below w1.heap.size w1 w2) := HBwd.out.trans (hb2.mono HBwd.out.size)
                have HCM2 := Lib.hid (HCM.out w2 hb2)
                have HBk2 : Hid (Below wa.heap.size wa w2) := HBPD.out.trans (hb2.mono HBPD.out.size)
                clear hb2 HC1 HCM
                obtain ⟨fb, HFB⟩ := nameIt (fit [(⟨lfa, RLa⟩ : Rule), (⟨lfb, RLb⟩ : Rule)])
                rw [HFB.out]
                cases fb with
                | true =>
                  go_wp2_with fail
                  with_reducible refine HCM2.out.mono ?_
                  rintro e w3 ⟨a3, c3, rfl, hr3, hb3⟩
                  have HB3 : Hid (Below w1.heap.size w1 w3) := HB2.out.trans (hb3.mono HB2.out.size)
                  have HE := Lib.hid (fun x0 x1 x2 x3 => HF1.out [(⟨lfa, RLa⟩ : Rule), (⟨lfb, RLb⟩ : Rule)] 2 a3 c3 w3 x0 x1 x2 x3 rfl (gF_up (n := 3) (by rw [gF, HG2.out, HST.out, HATA.out, HSj.out, HATb.out, if_pos HFB.out]; rfl) (by decide)) (hr3) HB3.out)
                  obtain ⟨z0, z1, z2, z3⟩ := bx_cells4 (bx_keep HXR.out HB3.out)
                  obtain ⟨f0, f1, f2, f3⟩ := bx_free4 (bx_keep HXR.out HB3.out)
                  clear hr3 hb3 HCM2
                  go_wp2_with fail
                  refine bodyPost_ret (v := .tuple #[.agg #[.int .i64 (t : Int), .int .i64 (n : Int), .int .i64 0, .slice a3 2 c3], .bool true]) (by simp [results, Tryd.results10, go_sem, z0, z1, z2, z3]) rfl ?_
                  exact HE.out _ _ _ _
                | false =>
                  have HSTN : Hid (fF fit 1 L1 [(⟨lfa, RLa⟩ : Rule)] = fF fit 1 (L1.drop (j + 1)) [(⟨lfa, RLa⟩ : Rule)]) := by show _ = _; rw [HSj.out, HATb.out, if_neg (by rw [HFB.out]; decide)]; rfl
                  go_wp2_with fail
                  go_roundg (n1 - (j + 1))
                  case measure => omega
                  case rel => exact ⟨j + 1, by omega, by omega, by go_num, HSTN, HBk2⟩
              · have hltj' : ¬ (j : Int) < (n1 : Int) := by omega
                have HSTN : Hid (fF fit 2 L [] = fF fit 2 (L.drop i1) []) := by show _ = _; rw [HST.out, HATA.out, HSj.out, fF_end (by rw [HLL1.out]; omega), HDL1.out]; rfl
                have hi1 := HI1N.out
                go_wp2_with fail
                go_roundg (ll - i1)
                case measure => omega
                case rel => exact ⟨i1, by omega, by omega, by first | rfl | go_num, HSTN, HBk1⟩
          · have hik' : ¬ (i : Int) < (ll : Int) := by omega
            have HG3 : Hid (gF fit L 3 = none) := by show _ = _; rw [gF, HG2.out, HST.out, fF_end (by rw [HLL.out]; omega)]; rfl
            have HB1 := Lib.hid HB.out
            have HI0 : Hid (fF fit 3 L [] = fF fit 3 (L.drop 0) []) := rfl
            clear HG2 HST HB hik hi hgg
            go_wp2_with fail
            go_loopg [21, 22, 23, 24, 26, 27, 84] ll (fun gg v21 v22 v23 v24 v26 v27 v84 wr => ∃ i : Nat, i ≤ ll ∧ ll - i ≤ gg ∧ v84 = .int .i64 (i : Int) ∧ Hid (fF fit 3 L [] = fF fit 3 (L.drop i) []) ∧ Hid (Below w1.heap.size w1 wr))
            case atStart => exact ⟨0, by omega, by omega, rfl, HI0, HB1⟩
            case round =>
              clear HI0 HB1
              obtain ⟨i, hi, hgg, rfl, HST, HB⟩ := hrel
              obtain ⟨wr0, rfl⟩ : ∃ ww : World, ww = wr := ⟨_, rfl⟩
              by_cases hik : i < ll
              · have hik' : (i : Int) < (ll : Int) := by omega
                have hi0 : (0 : Int) ≤ (i : Int) := by omega
                have hiL : i < L.length := by rw [HLL.out]; exact hik
                have hat := fF_at (fit := fit) (n := 2) (p := []) hiL
                have hsub := sub_next (p := []) hiL (List.nil_sublist _)
                obtain ⟨ba, oa, va, haea, -, hlta, sa0, sa1, hrra⟩ := (HRL.out wr0 HB.out).rule_at hiL
                cases haea
                obtain ⟨ra_, ca_, rfl, -, -⟩ := hrra.form
                obtain ⟨kida, HKa⟩ := nameIt (L[i]'hiL)
                rw [HKa.out] at sa0 sa1 hrra
                obtain ⟨lfa, RLa⟩ := kida
                dsimp only at sa0 sa1 hrra
                rw [List.length_map] at sa1 hrra
                have HRa : Hid (∀ W', Below wr0.heap.size wr0 W' → Rd (fun k => k ≠ rb) W' (.sl (RLa.map Sym.d)) [.slice ra_ RLa.length ca_]) := fun W' h => hrra.below h
                obtain ⟨na_, HNa_⟩ := nameIt RLa.length
                rw [HNa_.out] at sa1
                simp only [HNa_.out] at HRa
                clear hrra hlta
                obtain ⟨i1, HI1⟩ := nameIt (i + 1)
                have hi1 : i + 1 = i1 := HI1.out
                rw [HKa.out, List.nil_append, hi1] at hat hsub
                have HATA : Hid (fF fit 3 (L.drop i) [] = (fF fit 2 (L.drop i1) [(⟨lfa, RLa⟩ : Rule)]).or (fF fit 3 (L.drop i1) [])) := hat
                have HSUBaT : Hid ([(⟨lfa, RLa⟩ : Rule)].Sublist (L.take i1)) := hsub
                have hiw : IntKind.i64.wrap ((i : Int) + 1) = (i1 : Int) := by rw [IntWalk.i64_in _ (by omega)]; omega
                have hi1l : i1 ≤ ll := by omega

                obtain ⟨o1, HOo1⟩ := nameIt (if lc = i1 then lo else lo + i1 * 2)
                obtain ⟨n1, HNn1⟩ := nameIt (ll - i1)
                obtain ⟨c1, HCc1⟩ := nameIt (lc - i1)
                have hbn1 : n1 ≤ 42 := by rw [← HNn1.out]; omega
                have hslL1 : ∀ W, (Instr.slice 23 (.slice (some ⟨lk, lo, none⟩) ll lc) (some (.int .i64 (i1 : Int))) none none).run Tryd.prog W = .ok (.slice (some ⟨lk, o1, none⟩) n1 c1) W := fun W => by
                  have hs := run_slice_l (P := Tryd.prog) W 23 (some ⟨lk, lo, none⟩) ll lc (by kernel_rfl) .i64 i1 (by omega) (by omega)
                  rw [hs, ← HOo1.out, ← HNn1.out, ← HCc1.out]
                  by_cases hct : lc = i1
                  · subst hct; simp [go_sem]
                  · simp [go_sem, hct]
                have HRL1 : Hid (∀ W, Below w1.heap.size w1 W → Rd (fun k => k ≠ rb) W (.sl ((L.drop i1).map Rule.d)) [.slice (some ⟨lk, o1, none⟩) n1 c1]) := fun W h => by
                  rw [← HOo1.out, ← HNn1.out, ← HCc1.out]
                  exact Rd.dropR (HRL.out W h) (by omega)
                obtain ⟨L1, HDL1⟩ := nameIt (L.drop i1)
                simp only [HDL1.out] at HRL1
                have HLL1 : Hid (L1.length = n1) := by show _ = _; rw [← HDL1.out, List.length_drop, HLL.out]; exact HNn1.out
                rw [HDL1.out] at HATA
                clear hat hsub HKa
                obtain ⟨wa, Hwa⟩ := nameIt (wr0.alloc (.cells #[.int .i64 lfa, .slice ra_ na_ ca_] 32))
                have hbwa : Below wr0.heap.size wr0 wa := by rw [← Hwa.out]; exact (Below.refl _ _).alloc (Nat.le_refl _) _
                have HXa : Hid (∀ W', Below wa.heap.size wa W' → W'.heap[wr0.heap.size]? = some (.cells #[.int .i64 lfa, .slice ra_ na_ ca_] 32 (0, 0))) := fun W' h => bx_keep (by rw [← Hwa.out]; exact bx_new _ _ _ rfl) h
                have HBwa : Hid (Below w1.heap.size w1 wa) := HB.out.trans (hbwa.mono HB.out.size)
                obtain ⟨qa, HNqa⟩ := nameIt wr0.heap.size
                rw [HNqa.out] at HXa
                have HQa : Hid (∀ W', Below wa.heap.size wa W' → Rd (fun k => k ≠ rb) W' (.sl (RLa.map Sym.d)) [.slice ra_ na_ ca_]) := fun W' h => HRa.out W' (hbwa.trans (h.mono hbwa.size))
                clear hbwa
                go_upto_region 25 with fail
                rw [Hwa.out, HNqa.out]
                clear Hwa sa0 sa1
                have HI1N := Lib.hid hi1
                clear hi1
                go_wp2_with fail
                clear hslL1
                go_loopg [23, 24, 26, 27, 94] n1 (fun gg v23 v24 v26 v27 v94 wr1 => ∃ j : Nat, j ≤ n1 ∧ n1 - j ≤ gg ∧ v94 = .int .i64 (j : Int) ∧ Hid (fF fit 2 L1 [(⟨lfa, RLa⟩ : Rule)] = fF fit 2 (L1.drop j) [(⟨lfa, RLa⟩ : Rule)]) ∧ Hid (Below wa.heap.size wa wr1))
                case atStart => exact ⟨0, by omega, by omega, rfl, Lib.hid rfl, Below.refl _ _⟩
                case round =>
                  obtain ⟨j, hj, hgj, rfl, HSj, HBj⟩ := hrel
                  obtain ⟨wr1, rfl⟩ : ∃ ww : World, ww = wr := ⟨_, rfl⟩
                  have HBj1 : Hid (Below w1.heap.size w1 wr1) := HBwa.out.trans (HBj.out.mono HBwa.out.size)
                  by_cases hltj : j < n1
                  · have hltj' : (j : Int) < (n1 : Int) := by omega
                    have h0j : (0 : Int) ≤ (j : Int) := by omega
                    have hLj : j < L1.length := by rw [HLL1.out]; exact hltj
                    have hat := fF_at (fit := fit) (n := 1) (p := [(⟨lfa, RLa⟩ : Rule)]) hLj
                    have hgl : L1[j]'hLj = L[i1 + j]'(by have h1 := HLL1.out; have h2 := HNn1.out; rw [HLL.out]; omega) := by
                      simp only [← HDL1.out, List.getElem_drop]
                    obtain ⟨bb, ob, vb, haeb, -, hltb, sb0, sb1, hrrb⟩ := (HRL1.out wr1 HBj1.out).rule_at hLj
                    cases haeb
                    obtain ⟨rb_, cb_, rfl, -, -⟩ := hrrb.form
                    obtain ⟨kidb, HKb⟩ := nameIt (L1[j]'hLj)
                    rw [HKb.out] at sb0 sb1 hrrb
                    obtain ⟨lfb, RLb⟩ := kidb
                    dsimp only at sb0 sb1 hrrb
                    rw [List.length_map] at sb1 hrrb
                    have HRb : Hid (∀ W', Below wr1.heap.size wr1 W' → Rd (fun k => k ≠ rb) W' (.sl (RLb.map Sym.d)) [.slice rb_ RLb.length cb_]) := fun W' h => hrrb.below h
                    obtain ⟨nb_, HNb_⟩ := nameIt RLb.length
                    rw [HNb_.out] at sb1
                    simp only [HNb_.out] at HRb
                    clear hrrb hltb
                    rw [HKb.out] at hat hgl
                    obtain ⟨i2, HI2⟩ := nameIt (i1 + j + 1)
                    have hi2 : i1 + j + 1 = i2 := HI2.out
                    have hn1 := HNn1.out
                    have HSUBbT : Hid ([(⟨lfa, RLa⟩ : Rule), (⟨lfb, RLb⟩ : Rule)].Sublist (L.take i2)) := by
                      have h1 := HSUBaT.out
                      have h2 : i1 + j < L.length := by rw [HLL.out]; omega
                      have h3 := sub_next (p := [(⟨lfa, RLa⟩ : Rule)]) h2 (sub_more (by omega) h1)
                      rw [← hgl, hi2] at h3
                      exact h3
                    have hdd : L1.drop (j + 1) = L.drop i2 := by rw [← HDL1.out, List.drop_drop]; congr 1 <;> omega
                    rw [hdd] at hat
                    have HATB : Hid (fF fit 2 (L1.drop j) [(⟨lfa, RLa⟩ : Rule)] = (fF fit 1 (L.drop i2) [(⟨lfa, RLa⟩ : Rule), (⟨lfb, RLb⟩ : Rule)]).or (fF fit 2 (L.drop i2) [(⟨lfa, RLa⟩ : Rule)])) := hat
                    have HDD := Lib.hid hdd
                    obtain ⟨ij, HIJ⟩ := nameIt (i + j)
                    have hijw : IntKind.i64.wrap ((i : Int) + (j : Int)) = (ij : Int) := by rw [IntWalk.i64_in _ (by omega)]; have := HIJ.out; omega
                    have hij2 : IntKind.i64.wrap ((ij : Int) + 2) = (i2 : Int) := by rw [IntWalk.i64_in _ (by have := HIJ.out; omega)]; have := HIJ.out; have := HI1N.out; omega
                    have hi2l : i2 ≤ ll := by omega

                    obtain ⟨o2, HOo2⟩ := nameIt (if lc = i2 then lo else lo + i2 * 2)
                    obtain ⟨n2, HNn2⟩ := nameIt (ll - i2)
                    obtain ⟨c2, HCc2⟩ := nameIt (lc - i2)
                    have hbn2 : n2 ≤ 42 := by rw [← HNn2.out]; omega
                    have hslL2 : ∀ W, (Instr.slice 23 (.slice (some ⟨lk, lo, none⟩) ll lc) (some (.int .i64 (i2 : Int))) none none).run Tryd.prog W = .ok (.slice (some ⟨lk, o2, none⟩) n2 c2) W := fun W => by
                      have hs := run_slice_l (P := Tryd.prog) W 23 (some ⟨lk, lo, none⟩) ll lc (by kernel_rfl) .i64 i2 (by omega) (by omega)
                      rw [hs, ← HOo2.out, ← HNn2.out, ← HCc2.out]
                      by_cases hct : lc = i2
                      · subst hct; simp [go_sem]
                      · simp [go_sem, hct]
                    have HRL2 : Hid (∀ W, Below w1.heap.size w1 W → Rd (fun k => k ≠ rb) W (.sl ((L.drop i2).map Rule.d)) [.slice (some ⟨lk, o2, none⟩) n2 c2]) := fun W h => by
                      rw [← HOo2.out, ← HNn2.out, ← HCc2.out]
                      exact Rd.dropR (HRL.out W h) (by omega)
                    obtain ⟨L2, HDL2⟩ := nameIt (L.drop i2)
                    simp only [HDL2.out] at HRL2
                    have HLL2 : Hid (L2.length = n2) := by show _ = _; rw [← HDL2.out, List.length_drop, HLL.out]; exact HNn2.out
                    rw [HDL2.out] at HATB
                    clear hat hgl HKb hdd
                    obtain ⟨wm, Hwm⟩ := nameIt (wr1.alloc (.cells #[.int .i64 lfb, .slice rb_ nb_ cb_] 32))
                    have hbwm : Below wr1.heap.size wr1 wm := by rw [← Hwm.out]; exact (Below.refl _ _).alloc (Nat.le_refl _) _
                    have HXb : Hid (∀ W', Below wm.heap.size wm W' → W'.heap[wr1.heap.size]? = some (.cells #[.int .i64 lfb, .slice rb_ nb_ cb_] 32 (0, 0))) := fun W' h => bx_keep (by rw [← Hwm.out]; exact bx_new _ _ _ rfl) h
                    have HBwm : Hid (Below w1.heap.size w1 wm) := HBj1.out.trans (hbwm.mono HBj1.out.size)
                    obtain ⟨qm, HNqm⟩ := nameIt wr1.heap.size
                    rw [HNqm.out] at HXb
                    have hbam : Below wa.heap.size wa wm := HBj.out.trans (hbwm.mono HBj.out.size)
                    have HXaW : Hid (∀ W', Below wm.heap.size wm W' → W'.heap[qa]? = some (.cells #[.int .i64 lfa, .slice ra_ na_ ca_] 32 (0, 0))) := fun W' h => HXa.out W' (hbam.trans (h.mono hbam.size))
                    have HXbW := HXb
                    have HQaM : Hid (∀ W', Below wm.heap.size wm W' → Rd (fun k => k ≠ rb) W' (.sl (RLa.map Sym.d)) [.slice ra_ na_ ca_]) := fun W' h => HQa.out W' (hbam.trans (h.mono hbam.size))
                    have HQb : Hid (∀ W', Below wm.heap.size wm W' → Rd (fun k => k ≠ rb) W' (.sl (RLb.map Sym.d)) [.slice rb_ nb_ cb_]) := fun W' h => HRb.out W' (hbwm.trans (h.mono hbwm.size))
                    have HBAM := Lib.hid hbam
                    clear hbwm hbam
                    go_upto_region 28 with fail
                    rw [Hwm.out, HNqm.out]
                    clear Hwm sb0 sb1
                    have HI2N := Lib.hid hi2
                    clear hi2 hn1
                    go_wp2_with fail
                    clear hslL2 hijw hij2
                    go_loopg [26, 27, 106] n2 (fun gg v26 v27 v106 wr2 => ∃ k : Nat, k ≤ n2 ∧ n2 - k ≤ gg ∧ v106 = .int .i64 (k : Int) ∧ Hid (fF fit 1 L2 [(⟨lfa, RLa⟩ : Rule), (⟨lfb, RLb⟩ : Rule)] = fF fit 1 (L2.drop k) [(⟨lfa, RLa⟩ : Rule), (⟨lfb, RLb⟩ : Rule)]) ∧ Hid (Below wm.heap.size wm wr2))
                    case atStart => exact ⟨0, by omega, by omega, rfl, Lib.hid rfl, Below.refl _ _⟩
                    case round =>
                      obtain ⟨k, hk, hgk, rfl, HSk, HBk⟩ := hrel
                      obtain ⟨wr2, rfl⟩ : ∃ ww : World, ww = wr := ⟨_, rfl⟩
                      have HBk1 : Hid (Below w1.heap.size w1 wr2) := HBwm.out.trans (HBk.out.mono HBwm.out.size)
                      by_cases hltk : k < n2
                      · have hltk' : (k : Int) < (n2 : Int) := by omega
                        have h0k : (0 : Int) ≤ (k : Int) := by omega
                        have hLk : k < L2.length := by rw [HLL2.out]; exact hltk
                        have hat := fF_at (fit := fit) (n := 0) (p := [(⟨lfa, RLa⟩ : Rule), (⟨lfb, RLb⟩ : Rule)]) hLk
                        have hgl : L2[k]'hLk = L[i2 + k]'(by have h1 := HLL2.out; have h2 := HNn2.out; rw [HLL.out]; omega) := by
                          simp only [← HDL2.out, List.getElem_drop]
                        obtain ⟨bc, oc, vc, haec, -, hltc, sc0, sc1, hrrc⟩ := (HRL2.out wr2 HBk1.out).rule_at hLk
                        cases haec
                        obtain ⟨rc_, cc_, rfl, -, -⟩ := hrrc.form
                        obtain ⟨kidc, HKc⟩ := nameIt (L2[k]'hLk)
                        rw [HKc.out] at sc0 sc1 hrrc
                        obtain ⟨lfc, RLc⟩ := kidc
                        dsimp only at sc0 sc1 hrrc
                        rw [List.length_map] at sc1 hrrc
                        have HRc : Hid (∀ W', Below wr2.heap.size wr2 W' → Rd (fun k => k ≠ rb) W' (.sl (RLc.map Sym.d)) [.slice rc_ RLc.length cc_]) := fun W' h => hrrc.below h
                        obtain ⟨nc_, HNc_⟩ := nameIt RLc.length
                        rw [HNc_.out] at sc1
                        simp only [HNc_.out] at HRc
                        clear hrrc hltc
                        rw [HKc.out] at hat hgl
                        have HATc : Hid (fF fit 1 (L2.drop k) [(⟨lfa, RLa⟩ : Rule), (⟨lfb, RLb⟩ : Rule)] = (if fit [(⟨lfa, RLa⟩ : Rule), (⟨lfb, RLb⟩ : Rule), (⟨lfc, RLc⟩ : Rule)] then some [(⟨lfa, RLa⟩ : Rule), (⟨lfb, RLb⟩ : Rule), (⟨lfc, RLc⟩ : Rule)] else none).or (fF fit 1 (L2.drop (k + 1)) [(⟨lfa, RLa⟩ : Rule), (⟨lfb, RLb⟩ : Rule)])) := by show _ = _; rw [hat, fF]; rfl
                        have HSUBc : Hid ([(⟨lfa, RLa⟩ : Rule), (⟨lfb, RLb⟩ : Rule), (⟨lfc, RLc⟩ : Rule)].Sublist L) := by
                          have h1 := HSUBbT.out
                          have h2 : i2 + k < L.length := by have h1 := HLL2.out; have h2 := HNn2.out; rw [HLL.out]; omega
                          have h3 := sub_next (p := [(⟨lfa, RLa⟩ : Rule), (⟨lfb, RLb⟩ : Rule)]) h2 (sub_more (by omega) h1)
                          rw [← hgl] at h3
                          exact h3.trans (List.take_sublist _ _)
                        clear hat hgl HKc
                        obtain ⟨wb, Hwb⟩ := nameIt (wr2.alloc (.cells #[.int .i64 lfc, .slice rc_ nc_ cc_] 32))
                        have hbwb : Below wr2.heap.size wr2 wb := by rw [← Hwb.out]; exact (Below.refl _ _).alloc (Nat.le_refl _) _
                        have HXc : Hid (∀ W', Below wb.heap.size wb W' → W'.heap[wr2.heap.size]? = some (.cells #[.int .i64 lfc, .slice rc_ nc_ cc_] 32 (0, 0))) := fun W' h => bx_keep (by rw [← Hwb.out]; exact bx_new _ _ _ rfl) h
                        have HBwb : Hid (Below w1.heap.size w1 wb) := HBk1.out.trans (hbwb.mono HBk1.out.size)
                        obtain ⟨qb, HNqb⟩ := nameIt wr2.heap.size
                        rw [HNqb.out] at HXc
                        obtain ⟨wd, Hwd⟩ := nameIt (wb.alloc (.cells #[.int .i64 lfa, .slice ra_ na_ ca_, .int .i64 lfb, .slice rb_ nb_ cb_, .int .i64 lfc, .slice rc_ nc_ cc_] 32))
                        have hbwd : Below wb.heap.size wb wd := by rw [← Hwd.out]; exact (Below.refl _ _).alloc (Nat.le_refl _) _
                        have hX : wd.heap[wb.heap.size]? = some (.cells #[.int .i64 lfa, .slice ra_ na_ ca_, .int .i64 lfb, .slice rb_ nb_ cb_, .int .i64 lfc, .slice rc_ nc_ cc_] 32 (0, 0)) := by rw [← Hwd.out]; exact bx_new _ _ _ rfl
                        have hqa : Rd (fun k => k ≠ rb) wd (.sl (RLa.map Sym.d)) [.slice ra_ na_ ca_] := HQaM.out wd (HBk.out.trans ((hbwb.trans (hbwd.mono hbwb.size)).mono HBk.out.size))
                        have hqb : Rd (fun k => k ≠ rb) wd (.sl (RLb.map Sym.d)) [.slice rb_ nb_ cb_] := HQb.out wd (HBk.out.trans ((hbwb.trans (hbwd.mono hbwb.size)).mono HBk.out.size))
                        have hqc : Rd (fun k => k ≠ rb) wd (.sl (RLc.map Sym.d)) [.slice rc_ nc_ cc_] := HRc.out _ (hbwb.trans (hbwd.mono hbwb.size))
                        have HBwd : Hid (Below w1.heap.size w1 wd) := HBwb.out.trans (hbwd.mono HBwb.out.size)
                        have hzr := bx_lt (bx_keep HXR.out HBwb.out)
                        have HROW : Hid (Rd (fun k => k ≠ rb) wd (.sl ([(⟨lfa, RLa⟩ : Rule), (⟨lfb, RLb⟩ : Rule), (⟨lfc, RLc⟩ : Rule)].map Rule.d)) [.slice (some ⟨wb.heap.size, 0, none⟩) 3 3]) := rd_of_own (own_of_block hX (n := 3) (size := 2) rfl (by simp [maxLen])) (⟨[.int .i64 lfa, .slice ra_ na_ ca_], _, rfl, rd_rule (r := ⟨lfa, RLa⟩) hqa, ⟨[.int .i64 lfb, .slice rb_ nb_ cb_], _, rfl, rd_rule (r := ⟨lfb, RLb⟩) hqb, RdAll.one (rd_rule (r := ⟨lfc, RLc⟩) hqc)⟩⟩) rfl (fun k e => by simp [Value.ownBlock] at e; omega)
                        have HC1 := Lib.hid (HFIT.out [(⟨lfa, RLa⟩ : Rule), (⟨lfb, RLb⟩ : Rule), (⟨lfc, RLc⟩ : Rule)] 3 _ _ wd rfl HSUBc.out HBwd.out HROW.out.any)
                        have HCM := Lib.hid (fun W' (h : Below wd.heap.size wd W') => HMK.out [(⟨lfa, RLa⟩ : Rule), (⟨lfb, RLb⟩ : Rule), (⟨lfc, RLc⟩ : Rule)] 3 _ _ W' rfl (by decide) (HBwd.out.trans (h.mono HBwd.out.size)) (HROW.out.below h))
                        obtain ⟨qd, HNqd⟩ := nameIt wb.heap.size
                        rw [HNqd.out] at HC1
                        simp only [HNqd.out] at HCM
                        have hbpb : Below wm.heap.size wm wb := HBk.out.trans (hbwb.mono HBk.out.size)
                        have HBPD : Hid (Below wm.heap.size wm wd) := hbpb.trans (hbwd.mono hbpb.size)
                        obtain ⟨xx0, xx1⟩ := bx_cells2 (HXc.out wb (Below.refl _ _))
                        obtain ⟨xa0, xa1⟩ := bx_cells2 (HXaW.out wb hbpb)
                        obtain ⟨xb0, xb1⟩ := bx_cells2 (HXbW.out wb hbpb)
                        clear hX hqa hqb hqc hzr hbwb hbwd hbpb HROW
                        go_upto_region 31 with fail
                        rw [Hwb.out, HNqb.out]
                        clear sc0 sc1 Hwb
                        go_upto_region 32 with fail
                        rw [Hwd.out, HNqd.out]
                        clear Hwd xx0 xx1 xa0 xa1 xb0 xb1
                        go_wp2_with fail
                        with_reducible refine HC1.out.mono ?_
                        rintro e w2 ⟨rfl, hb2⟩
                        have HB2 : Hid (Below w1.heap.size w1 w2) := HBwd.out.trans (hb2.mono HBwd.out.size)
                        have HCM2 := Lib.hid (HCM.out w2 hb2)
                        have HBk2 : Hid (Below wm.heap.size wm w2) := HBPD.out.trans (hb2.mono HBPD.out.size)
                        clear hb2 HC1 HCM
                        obtain ⟨fb, HFB⟩ := nameIt (fit [(⟨lfa, RLa⟩ : Rule), (⟨lfb, RLb⟩ : Rule), (⟨lfc, RLc⟩ : Rule)])
                        rw [HFB.out]
                        cases fb with
                        | true =>
                          go_wp2_with fail
                          with_reducible refine HCM2.out.mono ?_
                          rintro e w3 ⟨a3, c3, rfl, hr3, hb3⟩
                          have HB3 : Hid (Below w1.heap.size w1 w3) := HB2.out.trans (hb3.mono HB2.out.size)
                          have HE := Lib.hid (fun x0 x1 x2 x3 => HF1.out [(⟨lfa, RLa⟩ : Rule), (⟨lfb, RLb⟩ : Rule), (⟨lfc, RLc⟩ : Rule)] 3 a3 c3 w3 x0 x1 x2 x3 rfl (by rw [gF, HG3.out, HST.out, HATA.out, HSj.out, HATB.out, HSk.out, HATc.out, if_pos HFB.out]; rfl) (hr3) HB3.out)
                          obtain ⟨z0, z1, z2, z3⟩ := bx_cells4 (bx_keep HXR.out HB3.out)
                          obtain ⟨f0, f1, f2, f3⟩ := bx_free4 (bx_keep HXR.out HB3.out)
                          clear hr3 hb3 HCM2
                          go_wp2_with fail
                          refine bodyPost_ret (v := .tuple #[.agg #[.int .i64 (t : Int), .int .i64 (n : Int), .int .i64 0, .slice a3 3 c3], .bool true]) (by simp [results, Tryd.results10, go_sem, z0, z1, z2, z3]) rfl ?_
                          exact HE.out _ _ _ _
                        | false =>
                          have HSTN : Hid (fF fit 1 L2 [(⟨lfa, RLa⟩ : Rule), (⟨lfb, RLb⟩ : Rule)] = fF fit 1 (L2.drop (k + 1)) [(⟨lfa, RLa⟩ : Rule), (⟨lfb, RLb⟩ : Rule)]) := by show _ = _; rw [HSk.out, HATc.out, if_neg (by rw [HFB.out]; decide)]; rfl
                          go_wp2_with fail
                          go_roundg (n2 - (k + 1))
                          case measure => omega
                          case rel => exact ⟨k + 1, by omega, by omega, by go_num, HSTN, HBk2⟩
                      · have hltk' : ¬ (k : Int) < (n2 : Int) := by omega
                        have HSTN : Hid (fF fit 2 L1 [(⟨lfa, RLa⟩ : Rule)] = fF fit 2 (L1.drop (j + 1)) [(⟨lfa, RLa⟩ : Rule)]) := by show _ = _; rw [HSj.out, HATB.out, HSk.out, fF_end (by rw [HLL2.out]; omega), HDD.out, HDL2.out]; rfl
                        have HBAN : Hid (Below wa.heap.size wa wr2) := HBAM.out.trans (HBk.out.mono HBAM.out.size)
                        go_wp2_with fail
                        go_roundg (n1 - (j + 1))
                        case measure => omega
                        case rel => exact ⟨j + 1, by omega, by omega, by go_num, HSTN, HBAN⟩
                  · have hltj' : ¬ (j : Int) < (n1 : Int) := by omega
                    have HSTN : Hid (fF fit 3 L [] = fF fit 3 (L.drop i1) []) := by show _ = _; rw [HST.out, HATA.out, HSj.out, fF_end (by rw [HLL1.out]; omega), HDL1.out]; rfl
                    have hi1 := HI1N.out
                    go_wp2_with fail
                    go_roundg (ll - i1)
                    case measure => omega
                    case rel => exact ⟨i1, by omega, by omega, by first | rfl | go_num, HSTN, HBj1⟩
              · have hik' : ¬ (i : Int) < (ll : Int) := by omega
                have HG4 : Hid (gF fit L 4 = none) := by show _ = _; rw [gF, HG3.out, HST.out, fF_end (by rw [HLL.out]; omega)]; rfl
                have HE := Lib.hid (fun x0 x1 x2 x3 => HF0.out wr0 x0 x1 x2 x3 HG4.out HB.out)
                obtain ⟨z0, z1, z2, z3⟩ := bx_cells4 (bx_keep HXR.out HB.out)
                obtain ⟨f0, f1, f2, f3⟩ := bx_free4 (bx_keep HXR.out HB.out)
                go_wp2_with fail
                refine bodyPost_ret (v := .tuple #[.agg #[.int .i64 0, .int .i64 0, .int .i64 0, .slice none 0 0], .bool false]) (by simp [results, Tryd.results10, go_sem, z0, z1, z2, z3]) rfl ?_
                exact HE.out _ _ _ _
end
end Gs
end Go.Proofs.YthnkgmlhpefldaaDoor
namespace Go.Proofs.YthnkgmlhpefldaaDoor

mutual
theorem kid_node : ∀ (t x k : Tree), x ∈ nodes t → x.rule ≠ -1 → k ∈ x.kids → k ∈ nodes t
  | .node r tm ks, x, k, hx, hr, hk => by
    rw [nodes] at hx ⊢
    rcases List.mem_cons.1 hx with rfl | hx
    · simp only [Tree.rule, Tree.kids] at hr hk
      rw [if_neg hr]
      exact List.mem_cons_of_mem _ (kid_mem ks k hk)
    · by_cases h : r = -1
      · rw [if_pos h] at hx; simp at hx
      · rw [if_neg h] at hx ⊢
        exact List.mem_cons_of_mem _ (kid_nodeL ks x k hx hr hk)
theorem kid_nodeL : ∀ (ks : List Tree) (x k : Tree), x ∈ nodesL ks → x.rule ≠ -1 → k ∈ x.kids → k ∈ nodesL ks
  | [], x, k, hx, _, _ => by simp [nodesL] at hx
  | y :: ks, x, k, hx, hr, hk => by
    rw [nodesL] at hx ⊢
    rcases List.mem_append.1 hx with h | h
    · exact List.mem_append_left _ (kid_node y x k h hr hk)
    · exact List.mem_append_right _ (kid_nodeL ks x k h hr hk)
theorem kid_mem : ∀ (ks : List Tree) (k : Tree), k ∈ ks → k ∈ nodesL ks
  | [], k, h => by simp at h
  | y :: ks, k, h => by
    rw [nodesL]
    rcases List.mem_cons.1 h with rfl | h
    · refine List.mem_append_left _ ?_
      rw [nodes_eq]; exact List.mem_cons_self
    · exact List.mem_append_right _ (kid_mem ks k h)
end

end Go.Proofs.YthnkgmlhpefldaaDoor
namespace Go.Proofs.YthnkgmlhpefldaaDoor
open Go.RowKit

end Go.Proofs.YthnkgmlhpefldaaDoor
namespace Go.Proofs.YthnkgmlhpefldaaDoor
open Go.RowKit

end Go.Proofs.YthnkgmlhpefldaaDoor
namespace Go.Proofs.YthnkgmlhpefldaaDoor
open Go.RowKit

end Go.Proofs.YthnkgmlhpefldaaDoor
namespace Go.Proofs.YthnkgmlhpefldaaDoor
open Go.RowKit

end Go.Proofs.YthnkgmlhpefldaaDoor
namespace Go.Proofs.YthnkgmlhpefldaaDoor
open Go.RowKit

end Go.Proofs.YthnkgmlhpefldaaDoor
namespace Go.Proofs.YthnkgmlhpefldaaDoor
open Go.RowKit

theorem symNe (a c : Bool) (b d : Int) (w : World) : (binOp .neq 44 (.agg #[.bool a, .int .i64 b]) (.agg #[.bool c, .int .i64 d])).run Tryd.prog w = .ok (.bool (!(a == c && b == d))) w := by
  have h1 : Tryd.prog.underlying 44 = some (.struct (Tryd.prog.fieldsOf 44)) := by kernel_rfl
  have h2 : Tryd.prog.stoodInHeld 44 = false := by kernel_rfl
  have h3 := Tryd.underlying44
  have h4 := Tryd.underlying4
  have h5 := Tryd.underlying3
  rw [run_neq_struct, run_equalIn_agg (d := 9999) _ _ _ _ h1 h2]
  simp only [Program.fieldsOf, h3]
  cases hac : (a == c) <;> by_cases hbd : b = d <;> simp [Op.eqFields, go_sem, h4, h5, hac, hbd]
theorem sym_beq (x y : Sym) : (x.term == y.term && x.n == y.n) = decide (x = y) := by
  rw [Bool.eq_iff_iff]; cases x; cases y; simp

set_option maxHeartbeats 1000000 in
set_option maxRecDepth 100000 in
theorem equalSyms (a a' : Option Addr) (c c' : Nat) (l m : List Sym) (w : World) (hl : Rd AnyB w (.sl (l.map Sym.d)) [.slice a l.length c]) (hm : Rd AnyB w (.sl (m.map Sym.d)) [.slice a' m.length c']) :
    Calls Tryd.prog 13 #[.slice a l.length c, .slice a' m.length c'] w fun e w' => e = .returned (.bool (decide (l = m))) ∧ Below w.heap.size w w' := by
  have HL := Lib.hid hl
  have HM := Lib.hid hm
  have hc := hl.bounds.2
  have hc' := hm.bounds.2
  unfold maxLen at hc hc'
  obtain ⟨hc1, hc2⟩ := hc
  obtain ⟨hc3, hc4⟩ := hc'
  clear hl hm
  by_cases hlen : l.length = m.length
  · have hlb : ((l.length : Int) != (m.length : Int)) = false := by simp [hlen]
    have hle : l.length ≤ m.length := by omega
    have HLEN := Lib.hid hlen
    clear hlen
    have heg : Tryd.prog.eqGuardType Tryd.prog.depth 44 = false := by kernel_rfl
    go_enter Tryd.func13, Tryd.ntmps13
    go_wp2_with fail
    go_loopg [13] l.length (fun gg v13 wr => ∃ i : Nat, i ≤ l.length ∧ l.length - i ≤ gg ∧ v13 = .int .i64 i ∧ Hid (Below w.heap.size w wr) ∧ Hid (∀ j (h1 : j < l.length) (h2 : j < m.length), j < i → l[j] = m[j]))
    case atStart => exact ⟨0, by omega, by omega, rfl, Below.refl _ _, fun j _ _ hj => by omega⟩
    case round =>
      obtain ⟨i, hi, hg, rfl, HB, HN⟩ := hrel
      by_cases hlt : i < l.length
      · have hlt' : (i : Int) < (l.length : Int) := by omega
        have hlt2 : i < m.length := by omega
        have hlt2' : (i : Int) < (m.length : Int) := by omega
        have hi0 : (0 : Int) ≤ (i : Int) := by omega
        obtain ⟨b, off, hae, -, hbl, c0, c1⟩ := (HL.out.below HB.out).sym_at hlt
        obtain ⟨b', off', hae', -, hbl', d0, d1⟩ := (HM.out.below HB.out).sym_at hlt2
        obtain ⟨x, HX⟩ := nameIt (l[i]'hlt)
        obtain ⟨y, HY⟩ := nameIt (m[i]'hlt2)
        rw [HX.out] at c0 c1
        rw [HY.out] at d0 d1
        have hne := symNe x.term y.term x.n y.n
        rw [sym_beq] at hne
        obtain ⟨q, HQ⟩ := nameIt (decide (x = y))
        obtain ⟨x0, HX0⟩ := nameIt x.term
        obtain ⟨x1, HX1⟩ := nameIt x.n
        obtain ⟨y0, HY0⟩ := nameIt y.term
        obtain ⟨y1, HY1⟩ := nameIt y.n
        rw [HQ.out, HX0.out, HX1.out, HY0.out, HY1.out] at hne
        rw [HX0.out] at c0
        rw [HX1.out] at c1
        rw [HY0.out] at d0
        rw [HY1.out] at d1
        subst hae hae'
        have HBD := Lib.hid (HB.out.trans ((below_drewN wr 9).mono HB.out.size))
        go_wp2_with fail
        go_quiet (fail)
        cases q with
        | false =>
          have HE : Hid (decide (l = m) = false) := by
            show _ = _
            rw [decide_eq_false_iff_not]
            intro h
            subst h
            have h2 := HX.out.symm.trans HY.out
            subst h2
            have := HQ.out
            simp at this
          go_wp2_with fail
          go_ret
          exact ⟨by rw [HE.out]; rfl, HB.out.trans ((below_drewN _ _).mono HB.out.size)⟩
        | true =>
          have HN2 : Hid (∀ j (h1 : j < l.length) (h2 : j < m.length), j < i + 1 → l[j] = m[j]) := by
            intro j h1 h2 hj
            by_cases e : j = i
            · subst e; rw [HX.out, HY.out]; simpa using HQ.out
            · exact HN.out j h1 h2 (by omega)
          go_wp2_with fail
          go_roundg (l.length - (i + 1))
          case measure => omega
          case rel => exact ⟨i + 1, by omega, by omega, by go_num, HB.out.trans ((below_drewN _ _).mono HB.out.size), HN2⟩
      · have hlt' : ¬ (i : Int) < (l.length : Int) := by omega
        have HE : Hid (decide (l = m) = true) := by
          show _ = _
          rw [decide_eq_true_iff]
          exact List.ext_getElem HLEN.out fun j h1 h2 => HN.out j h1 h2 (by omega)
        go_wp2_with fail
        go_ret
        exact ⟨by rw [HE.out]; rfl, HB.out⟩
  · have hlb : ((l.length : Int) != (m.length : Int)) = true := by simp; omega
    have HE : Hid (decide (l = m) = false) := by show _ = _; rw [decide_eq_false_iff_not]; intro h; exact hlen (by rw [h])
    clear hlen
    go_enter Tryd.func13, Tryd.ntmps13
    go_wp2_with fail
    go_ret
    exact ⟨by rw [HE.out]; rfl, Below.refl _ _⟩
end Go.Proofs.YthnkgmlhpefldaaDoor
namespace Go.Proofs.YthnkgmlhpefldaaDoor
open Go.RowKit
namespace Gs
open Lg

theorem eqLawE (v x : List Int) (a : Option Addr) (n c : Nat) (a' : Option Addr) (n' c' : Nat) (b : Nat) (w : World) (hb : w.cell? ⟨b, 0, none⟩ = some (.slice a' n' c')) (hv : Sl w (.slice a n c) (ints v)) (hx : Sl w (.slice a' n' c') (ints x)) :
    Calls Tryd.prog 7 #[.slice a n c, .pointer (some ⟨b, 0, none⟩)] w fun e w' => e = .returned (.bool (v == x)) ∧ Below w.heap.size w w' := by
  have HE := Lib.hid (equal (.slice a n c) (.slice a' n' c') v x w hv hx)
  clear hv hx
  go_enter Tryd.func7, Tryd.ntmps7
  go_wp2_with fail
  refine HE.out.mono ?_
  rintro e w1 ⟨rfl, hb1⟩
  have HB := Lib.hid hb1
  clear hb1
  go_wp2_with fail
  go_ret
  exact ⟨rfl, HB.out⟩
theorem eqRuleE (lf : Int) (RL : List Sym) (n : Nat) (hn : RL.length = n) (a a' : Option Addr) (c c' : Nat) (w : World) (h1 : Rd AnyB w (.sl (RL.map Sym.d)) [.slice a n c]) (h2 : Rd AnyB w (.sl (RL.map Sym.d)) [.slice a' n c']) :
    Calls Tryd.prog 12 #[.agg #[.int .i64 lf, .slice a n c], .agg #[.int .i64 lf, .slice a' n c']] w fun e w' => e = .returned (.bool true) ∧ Below w.heap.size w w' := by
  obtain ⟨w1, HW1⟩ := nameIt ((w.alloc (.cells #[.int .i64 lf, .slice a n c] 32)).alloc (.cells #[.int .i64 lf, .slice a' n c'] 32))
  have hb1 : Below w.heap.size w w1 := by rw [← HW1.out]; exact ((Below.refl _ _).alloc (Nat.le_refl _) _).alloc (by simp) _
  have X0 : w1.heap[w.heap.size]? = some (.cells #[.int .i64 lf, .slice a n c] 32 (0, 0)) := by rw [← HW1.out]; exact bx_keep (bx_new _ _ _ rfl) ((Below.refl _ _).alloc (Nat.le_refl _) _)
  have X1 : w1.heap[w.heap.size + 1]? = some (.cells #[.int .i64 lf, .slice a' n c'] 32 (0, 0)) := by rw [← HW1.out]; exact bx_new _ _ _ (by simp)
  subst hn
  have heq := equalSyms a a' c c' RL RL w1 (h1.below hb1) (h2.below hb1)
  simp only [decide_true] at heq
  have HE := Lib.hid heq
  have HB1 := Lib.hid hb1
  obtain ⟨x0, x1⟩ := bx_cells2 X0
  obtain ⟨y0, y1⟩ := bx_cells2 X1
  obtain ⟨rn, HRN⟩ := nameIt RL.length
  rw [HRN.out] at HE HW1 x1 y1
  rw [HRN.out]
  have hll : (lf == lf) = true := by simp
  clear h1 h2 heq hb1 X0 X1
  go_enter Tryd.func12, Tryd.ntmps12
  go_upto_region 1 with fail
  rw [HW1.out]
  go_wp2_with fail
  refine HE.out.mono ?_
  rintro e w2 ⟨rfl, hb2⟩
  have HB2 : Hid (Below w.heap.size w w2) := HB1.out.trans (hb2.mono HB1.out.size)
  clear hb2
  go_wp2_with fail
  go_ret
  exact ⟨rfl, HB2.out⟩
set_option maxHeartbeats 4000000 in
set_option maxRecDepth 100000 in
theorem eqRulesE (L : List Rule) (n : Nat) (hn : L.length = n) (a a' : Option Addr) (c c' : Nat) (w : World) (h : Rd AnyB w (.sl (L.map Rule.d)) [.slice a n c]) (h' : Rd AnyB w (.sl (L.map Rule.d)) [.slice a' n c']) :
    Calls Tryd.prog 11 #[.slice a n c, .slice a' n c', .func (.func 12) #[] #[]] w fun e w' => e = .returned (.bool true) ∧ Below w.heap.size w w' := by
  have hc := h.bounds.2
  unfold maxLen at hc
  obtain ⟨hc1, hc2⟩ := hc
  have H1 := Lib.hid h
  have H2 := Lib.hid h'
  have HN := Lib.hid hn
  have eg : ∀ args w, (callFunc 12 args).run Tryd.prog w = .ok (.enter 12 args) w := fun _ _ => by kernel_rfl
  have hnn : ((n : Int) != (n : Int)) = false := by simp
  clear h h' hn
  go_enter Tryd.func11, Tryd.ntmps11
  go_wp2_with fail
  go_loopg [7, 8, 9, 17] n (fun gg v7 v8 v9 v17 wr => ∃ i : Nat, i ≤ n ∧ n - i ≤ gg ∧ v17 = .int .i64 i ∧ Hid (Below w.heap.size w wr))
  case atStart => exact ⟨0, by omega, by omega, rfl, Below.refl _ _⟩
  case round =>
    obtain ⟨i, hi, hg, rfl, HB⟩ := hrel
    obtain ⟨w1, rfl⟩ : ∃ ww : World, ww = wr := ⟨_, rfl⟩
    by_cases hlt : i < n
    · have hlt' : (i : Int) < (n : Int) := by omega
      have hi0 : (0 : Int) ≤ (i : Int) := by omega
      have hix : i < L.length := by rw [HN.out]; exact hlt
      obtain ⟨b, off, v, hae, -, -, s0, s1, hsl⟩ := (H1.out.below HB.out).rule_at hix
      obtain ⟨b', off', v', hae', -, -, t0, t1, hsl'⟩ := (H2.out.below HB.out).rule_at hix
      obtain ⟨a0, k0, rfl, -, -⟩ := hsl.form
      obtain ⟨a1, k1, rfl, -, -⟩ := hsl'.form
      obtain ⟨kid, HK⟩ := nameIt (L[i]'hix)
      rw [HK.out] at s0 s1 t0 t1 hsl hsl'
      obtain ⟨lf, RL⟩ := kid
      dsimp only at s0 s1 t0 t1 hsl hsl'
      rw [List.length_map] at s1 t1 hsl hsl'
      obtain ⟨rn, HRN⟩ := nameIt RL.length
      rw [HRN.out] at s1 t1 hsl hsl'
      obtain ⟨w2, HW2⟩ := nameIt (w1.alloc (.cells #[.int .i64 lf, .slice a0 rn k0] 32))
      have hb2 : Below w1.heap.size w1 w2 := by rw [← HW2.out]; exact (Below.refl _ _).alloc (Nat.le_refl _) _
      have hs2 : w2.heap.size = w1.heap.size + 1 := by rw [← HW2.out]; simp
      obtain ⟨w3, HW3⟩ := nameIt (w2.alloc (.cells #[.int .i64 lf, .slice a1 rn k1] 32))
      have hb3 : Below w2.heap.size w2 w3 := by rw [← HW3.out]; exact (Below.refl _ _).alloc (Nat.le_refl _) _
      have X2 : w3.heap[w1.heap.size]? = some (.cells #[.int .i64 lf, .slice a0 rn k0] 32 (0, 0)) := bx_keep (by rw [← HW2.out]; exact bx_new _ _ _ rfl) hb3
      have X3 : w3.heap[w2.heap.size]? = some (.cells #[.int .i64 lf, .slice a1 rn k1] 32 (0, 0)) := by rw [← HW3.out]; exact bx_new _ _ _ rfl
      have hb13 := hb2.trans (hb3.mono hb2.size)
      have HEQ := Lib.hid (eqRuleE lf RL rn HRN.out a0 a1 k0 k1 w3 (hsl.below hb13) (hsl'.below hb13))
      have HB3 : Hid (Below w.heap.size w w3) := HB.out.trans (hb13.mono HB.out.size)
      have t0' := (hb2.cell (lt_of_cell t0)).trans t0
      have t1' := (hb2.cell (lt_of_cell t1)).trans t1
      obtain ⟨x0, x1⟩ := bx_cells2 X2
      obtain ⟨y0, y1⟩ := bx_cells2 X3
      obtain ⟨q1, HQ1⟩ := nameIt w1.heap.size
      obtain ⟨q2, HQ2⟩ := nameIt w2.heap.size
      rw [HQ1.out] at x0 x1
      rw [HQ2.out] at y0 y1
      subst hae hae'
      clear hsl hsl' hb2 hb3 hb13 X2 X3 hs2 HK hix t0 t1
      go_upto_region 6 with fail
      rw [HW2.out, HQ1.out]
      clear s0 s1
      go_upto_region 7 with fail
      rw [HW3.out, HQ2.out]
      clear t0' t1'
      go_wp2_with fail
      refine HEQ.out.mono ?_
      rintro e w4 ⟨rfl, hb4⟩
      have HB4 := Lib.hid (HB3.out.trans (hb4.mono HB3.out.size))
      clear hb4 x0 x1 y0 y1
      go_wp2_with fail
      go_roundg (n - (i + 1))
      case measure => omega
      case rel => exact ⟨i + 1, by omega, by omega, by go_num, HB4⟩
    · have hlt' : ¬ (i : Int) < (n : Int) := by omega
      go_wp2_with fail
      go_ret
      exact ⟨rfl, HB.out⟩
/-- the first line of the law -/
theorem lang_none {t n : Int} {u : List Int} : langB ⟨t, n, 0, []⟩ u = false := by
  rw [Bool.eq_false_iff, Ne, langB_iff]
  rintro ⟨h, hs⟩
  cases h with
  | zero => exact hs
  | succ h => obtain ⟨r, h1, _⟩ := hs; simp at h1
theorem lang_eps : langB ⟨1, 1, 0, [⟨0, []⟩]⟩ [0] = false := by
  rw [Bool.eq_false_iff, Ne, langB_iff]
  rintro ⟨h, hs⟩
  cases h with
  | zero => exact hs
  | succ h =>
    obtain ⟨r, h1, h2, h3⟩ := hs
    simp at h1
    subst h1
    simp [LL] at h3
theorem lang_t0 : langB ⟨1, 1, 0, [⟨0, [⟨true, 0⟩]⟩]⟩ [0] = true := by
  rw [langB_iff]
  exact ⟨1, ⟨0, [⟨true, 0⟩]⟩, by simp, rfl, [0], [], rfl, by simp [LS], rfl⟩
theorem lang_t1 : langB ⟨1, 1, 0, [⟨0, [⟨true, 0⟩]⟩]⟩ [] = false := by
  rw [Bool.eq_false_iff, Ne, langB_iff]
  rintro ⟨h, hs⟩
  cases h with
  | zero => exact hs
  | succ h =>
    obtain ⟨r, h1, h2, h3⟩ := hs
    simp at h1
    subst h1
    obtain ⟨a, b, e, e1, e2⟩ := h3
    simp [LS] at e1
    subst e1
    simp at e
theorem first_gF : gF (fitG 1 1 [[0]] [[]]) (LR 1 1) 4 = some [⟨0, [⟨true, 0⟩]⟩] := by
  have e : LR 1 1 = ⟨0, []⟩ :: ⟨0, [⟨true, 0⟩]⟩ :: (LR 1 1).drop 2 := by decide
  have f0 : fitG 1 1 [[0]] [[]] [] = false := by unfold fitG agr; simp [lang_none]
  have f1 : fitG 1 1 [[0]] [[]] [⟨0, []⟩] = false := by unfold fitG agr; simp [lang_eps]
  have f2 : fitG 1 1 [[0]] [[]] [⟨0, [⟨true, 0⟩]⟩] = true := by unfold fitG agr; simp [lang_t0, lang_t1]
  refine gF_up (n := 2) ?_ (by decide)
  rw [gF, gF, gF, fF, if_neg (by rw [f0]; decide), e, fF, fF]
  rw [List.nil_append, if_neg (by rw [f1]; decide), fF, fF, List.nil_append, if_pos f2]
  rfl
theorem first_err : gErr 1 1 [[0]] [[]] = 0 := by decide
end Gs
end Go.Proofs.YthnkgmlhpefldaaDoor
