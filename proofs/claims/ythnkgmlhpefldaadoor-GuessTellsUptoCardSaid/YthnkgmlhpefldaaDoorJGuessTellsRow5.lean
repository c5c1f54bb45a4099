/- guess.Of$1. -/
import Derived.Test.YthnkgmlhpefldaaDoorJGuessTellsRow1
import Derived.Test.YthnkgmlhpefldaaDoorJGuessTellsRow3
import Derived.Test.YthnkgmlhpefldaaDoorJGuessTellsRow4
import Derived.BigQuiet
import Derived.Laws.EntriesVeiled
namespace Go.Proofs.YthnkgmlhpefldaaDoor
open Go.RowKit
namespace Gs
open Lg

/-- what a search gives -/
def OfR (fit : List Rule → Bool) (n : Nat) (l p : List Rule) (T N : Int) (X : Nat → Prop) (y0 y1 y2 : Int) (a : Option Addr) (k c : Nat) (b : Bool) (w : World) : Prop :=
  (b = true ∧ ∃ r, fF fit n l p = some r ∧ y0 = T ∧ y1 = N ∧ y2 = 0 ∧ r.length = k ∧ Rd (fun k => ¬ X k) w (.sl (r.map Rule.d)) [.slice a k c]) ∨ (b = false ∧ fF fit n l p = none)
section
variable {fit : List Rule → Bool} {n : Nat} {l p : List Rule} {T N : Int} {X X' : Nat → Prop} {y0 y1 y2 : Int} {a : Option Addr} {k c : Nat} {b : Bool} {w w' : World}
theorem OfR.mono (h : OfR fit n l p T N X y0 y1 y2 a k c b w) (hx : ∀ k, X' k → X k ∨ w.heap.size ≤ k) : OfR fit n l p T N X' y0 y1 y2 a k c b w := by
  rcases h with ⟨h1, r, h2, h3, h4, h5, h6, h7⟩ | h
  · exact .inl ⟨h1, r, h2, h3, h4, h5, h6, h7.mono fun j hj hlt h => by rcases hx j h with e | e; exact hj e; omega⟩
  · exact .inr h
theorem OfR.keep (h : OfR fit n l p T N X y0 y1 y2 a k c b w) (hb : Below w.heap.size w w') : OfR fit n l p T N X y0 y1 y2 a k c b w' := by
  rcases h with ⟨h1, r, h2, h3, h4, h5, h6, h7⟩ | h
  · exact .inl ⟨h1, r, h2, h3, h4, h5, h6, h7.below hb⟩
  · exact .inr h
theorem OfR.box4 (h : OfR fit n l p T N X y0 y1 y2 a k c b w) {q : Nat} (hq : X q) (x y z u : Value) : OfR fit n l p T N X y0 y1 y2 a k c b ((((w.setCell ⟨q, 0, none⟩ x).setCell ⟨q, 1, none⟩ y).setCell ⟨q, 2, none⟩ z).setCell ⟨q, 3, none⟩ u) := by
  rcases h with ⟨h1, r, h2, h3, h4, h5, h6, h7⟩ | h
  · exact .inl ⟨h1, r, h2, h3, h4, h5, h6, Rd.box4 h7 (fun h => h hq) x y z u⟩
  · exact .inr h
end
theorem set4 {w : World} {b : Nat} {y0 y1 y2 y3 : Value} {T : TypeId} (h : w.heap[b]? = some (.cells #[y0, y1, y2, y3] T (0, 0))) (x0 x1 x2 x3 : Value) :
    ((((w.setCell ⟨b, 0, none⟩ x0).setCell ⟨b, 1, none⟩ x1).setCell ⟨b, 2, none⟩ x2).setCell ⟨b, 3, none⟩ x3).heap[b]? = some (.cells #[x0, x1, x2, x3] T (0, 0)) := by
  simp [World.setCell, Array.getElem?_modify, h]
def OfP (fit : List Rule → Bool) (n : Nat) (l p : List Rule) (T N : Int) (X : Nat → Prop) (w : World) (e : Ending) (w' : World) : Prop :=
  ∃ y0 y1 y2 a k c b, e = .returned (.tuple #[.agg #[.int .i64 y0, .int .i64 y1, .int .i64 y2, .slice a k c], .bool b]) ∧ OfR fit n l p T N X y0 y1 y2 a k c b w' ∧ Below w.heap.size w w'
structure OfEnv (T N : Int) (yes no : List (List Int)) (L : List Rule) (tb nb yb ob lb fb : Nat) (ya : Option Addr) (yc : Nat) (oa : Option Addr) (oc lk lo lc : Nat) (w0 : World) : Prop where
  t : w0.cell? ⟨tb, 0, none⟩ = some (.int .i64 T)
  n : w0.cell? ⟨nb, 0, none⟩ = some (.int .i64 N)
  y : w0.cell? ⟨yb, 0, none⟩ = some (.slice ya yes.length yc)
  o : w0.cell? ⟨ob, 0, none⟩ = some (.slice oa no.length oc)
  l : w0.cell? ⟨lb, 0, none⟩ = some (.slice (some ⟨lk, lo, none⟩) L.length lc)
  f : w0.cell? ⟨fb, 0, none⟩ = some (.func (.func 15) #[] #[.pointer (some ⟨tb, 0, none⟩), .pointer (some ⟨nb, 0, none⟩), .pointer (some ⟨yb, 0, none⟩), .pointer (some ⟨ob, 0, none⟩), .pointer (some ⟨lb, 0, none⟩), .pointer (some ⟨fb, 0, none⟩)])
  ry : Rd AnyB w0 (.sl (yes.map D.ints)) [.slice ya yes.length yc]
  ro : Rd AnyB w0 (.sl (no.map D.ints)) [.slice oa no.length oc]
  rl : Rd AnyB w0 (.sl (L.map Rule.d)) [.slice (some ⟨lk, lo, none⟩) L.length lc]
  tab : TabG w0
noncomputable def fitG (T N : Int) (yes no : List (List Int)) (p : List Rule) : Bool := agr ⟨T, N, 0, p⟩ yes no
section
variable {T N : Int} {yes no : List (List Int)} {L : List Rule} {tb nb yb ob lb fb : Nat} {ya : Option Addr} {yc : Nat} {oa : Option Addr} {oc lk lo lc : Nat} {w0 : World}
def OfC (T N : Int) (yes no : List (List Int)) (L : List Rule) (tb nb yb ob lb fb : Nat) (w0 : World) (n : Nat) : Prop :=
  ∀ (i : Nat) (p : List Rule) (pa : Option Addr) (pc : Nat) (X : Nat → Prop) (W : World), i ≤ L.length → p.length + n ≤ 3 → p.Sublist (L.take i) → Below w0.heap.size w0 W → (∀ k, X k → w0.heap.size ≤ k ∧ k < W.heap.size) → Rd (fun k => ¬ X k) W (.sl (p.map Rule.d)) [.slice pa p.length pc] →
    Calls Tryd.prog 15 #[.int .i64 (i : Int), .int .i64 (n : Int), .slice pa p.length pc, .pointer (some ⟨tb, 0, none⟩), .pointer (some ⟨nb, 0, none⟩), .pointer (some ⟨yb, 0, none⟩), .pointer (some ⟨ob, 0, none⟩), .pointer (some ⟨lb, 0, none⟩), .pointer (some ⟨fb, 0, none⟩)] W (OfP (fitG T N yes no) n (L.drop i) p T N X W)
set_option maxHeartbeats 4000000 in
set_option maxRecDepth 100000 in
theorem of_zero (henv : OfEnv T N yes no L tb nb yb ob lb fb ya yc oa oc lk lo lc w0) (hyo : wordOk T yes) (hno : wordOk T no) (hchk : ∀ p : List Rule, p.Sublist L → p.length ≤ 3 → checkG ⟨T, N, 0, p⟩ = 0) : OfC T N yes no L tb nb yb ob lb fb w0 0 := by
  intro i p pa pc X W hi hp3 hsub hb hX hrd
  have hck := hchk p (hsub.trans (List.take_sublist _ _)) (by omega)
  obtain ⟨PST, HP⟩ := nameIt (OfP (fitG T N yes no) 0 (L.drop i) p T N X W)
  rw [HP.out]
  obtain ⟨wa, HWA⟩ := nameIt (W.alloc (.cells #[.int .i64 0, .int .i64 0, .int .i64 0, .slice none 0 0] 25))
  have hba : Below W.heap.size W wa := by rw [← HWA.out]; exact (Below.refl _ _).alloc (Nat.le_refl _) _
  have hsa : wa.heap.size = W.heap.size + 1 := by rw [← HWA.out]; simp
  obtain ⟨w1, HW1⟩ := nameIt (wa.alloc (.cells #[.int .i64 T, .int .i64 N, .int .i64 0, .slice pa p.length pc] 25))
  have hb2 : Below wa.heap.size wa w1 := by rw [← HW1.out]; exact (Below.refl _ _).alloc (Nat.le_refl _) _
  have hb1 : Below W.heap.size W w1 := hba.trans (hb2.mono hba.size)
  have XA : wa.heap[W.heap.size]? = some (.cells #[.int .i64 0, .int .i64 0, .int .i64 0, .slice none 0 0] 25 (0, 0)) := by rw [← HWA.out]; exact bx_new _ _ _ rfl
  have X0 : w1.heap[W.heap.size]? = some (.cells #[.int .i64 0, .int .i64 0, .int .i64 0, .slice none 0 0] 25 (0, 0)) := bx_keep XA hb2
  have X1 : w1.heap[W.heap.size + 1]? = some (.cells #[.int .i64 T, .int .i64 N, .int .i64 0, .slice pa p.length pc] 25 (0, 0)) := by rw [← HW1.out]; exact bx_new _ _ _ hsa.symm
  have hbw := hb.trans (hb1.mono hb.size)
  have HAG := Lib.hid (fun W' (h : Below w1.heap.size w1 W') => agrE ⟨T, N, 0, p⟩ hck pa pc yes no hyo hno ya oa yc oc W' ((hrd.any.below hb1).below h) (henv.ry.below (hbw.trans (h.mono hbw.size))) (henv.ro.below (hbw.trans (h.mono hbw.size))) (henv.tab.keep (hbw.trans (h.mono hbw.size))))
  have HFIN : Hid (∀ w' x0 x1 x2 x3, Below w1.heap.size w1 w' → PST (.returned (.tuple #[.agg #[.int .i64 T, .int .i64 N, .int .i64 0, .slice pa p.length pc], .bool (fitG T N yes no p)])) ((((w'.setCell ⟨W.heap.size, 0, none⟩ x0).setCell ⟨W.heap.size, 1, none⟩ x1).setCell ⟨W.heap.size, 2, none⟩ x2).setCell ⟨W.heap.size, 3, none⟩ x3)) := by
    intro w' x0 x1 x2 x3 h
    rw [← HP.out]
    have hbb := hb1.trans (h.mono hb1.size)
    refine ⟨T, N, 0, pa, _, pc, _, rfl, ?_, below_box4 hbb (Nat.le_refl _) _ _ _ _⟩
    cases hf : fitG T N yes no p with
    | true => exact .inl ⟨rfl, p, by unfold fF; rw [if_pos hf], rfl, rfl, rfl, rfl, (Rd.box4 ((hrd.mono (S' := fun k => ¬ X k ∧ k < W.heap.size) fun k hk hlt => ⟨hk, hlt⟩).below hbb) (fun h => Nat.lt_irrefl _ h.2) _ _ _ _).mono fun k hk _ => hk.1⟩
    | false => exact .inr ⟨rfl, by unfold fF; rw [if_neg (by rw [hf]; decide)]⟩
  have HAR : Hid (agr ⟨T, N, 0, p⟩ yes no = fitG T N yes no p) := rfl
  obtain ⟨fl, HFL⟩ := nameIt (fitG T N yes no p)
  rw [HFL.out] at HFIN HAR
  simp only [HAR.out] at HAG
  have t0 := ((hb.trans (hba.mono hb.size)).cell (lt_of_cell henv.t)).trans henv.t
  have t1 := ((hb.trans (hba.mono hb.size)).cell (lt_of_cell henv.n)).trans henv.n
  have hY : ∀ W', Below w1.heap.size w1 W' → W'.cell? ⟨yb, 0, none⟩ = some (.slice ya yes.length yc) ∧ W'.cell? ⟨ob, 0, none⟩ = some (.slice oa no.length oc) := fun W' h => ⟨((hbw.trans (h.mono hbw.size)).cell (lt_of_cell henv.y)).trans henv.y, ((hbw.trans (h.mono hbw.size)).cell (lt_of_cell henv.o)).trans henv.o⟩
  have k0 := aft_cell (hY w1 (Below.refl _ _)).1
  have k1 := aft_cell (hY w1 (Below.refl _ _)).2
  obtain ⟨g0, g1, g2, g3⟩ := bx_cells4 X1
  have k2 := aft_cell g0
  have k3 := aft_cell g1
  have k4 := aft_cell g2
  have k5 := aft_cell g3
  have HX0 := Lib.hid X0
  obtain ⟨rb, HRB⟩ := nameIt W.heap.size
  obtain ⟨yl, HYL⟩ := nameIt yes.length
  obtain ⟨nl, HNL⟩ := nameIt no.length
  obtain ⟨pl, HPL⟩ := nameIt p.length
  simp only [HYL.out, HNL.out, HPL.out] at HAG
  rw [HYL.out] at k0
  rw [HNL.out] at k1
  rw [HPL.out] at HW1 HFIN k5
  rw [HRB.out] at HX0 HFIN
  have HSA : Hid (wa.heap.size = rb + 1) := by show _ = _; rw [hsa, HRB.out]
  have HR1 : Hid (W.heap.size + 1 = rb + 1) := by show _ = _; rw [HRB.out]
  rw [HR1.out] at k2 k3 k4 k5
  rw [HPL.out]
  clear X0 X1 XA hba hb2 hsa hY g0 g1 g2 g3 hrd hX hsub hck hb1 hbw hb henv
  go_enter Tryd.func15, Tryd.ntmps15
  go_upto_region 1 with fail
  rw [HWA.out, HRB.out]
  go_upto_region 3 with fail
  rw [HW1.out, HSA.out]
  refine wp_region_after_tail 5 (by kernel_rfl) (by kernel_rfl) ?_
  simp only [List.take_succ_cons, List.take_zero, List.drop_succ_cons, List.drop_zero]
  repeat (go_big_quiet_step (with_reducible exact Calls.after (HAG.out _ (Aft.bel _))))
  refine wpQuiet_nil ?_
  rintro w7 ⟨⟨_, hb7⟩, rfl⟩
  have HB7 := Lib.hid hb7
  obtain ⟨z0, z1, z2, z3⟩ := bx_cells4 (bx_keep HX0.out hb7)
  obtain ⟨f0, f1, f2, f3⟩ := bx_free4 (bx_keep HX0.out hb7)
  clear hb7 k0 k1 k2 k3 k4 k5 HW1 HWA t0 t1
  go_wp2_with fail
  refine bodyPost_ret (v := .tuple #[.agg #[.int .i64 T, .int .i64 N, .int .i64 0, .slice pa pl pc], .bool fl]) (by simp [results, Tryd.results15, go_sem, z0, z1, z2, z3]) rfl ?_
  exact HFIN.out _ _ _ _ _ HB7.out
set_option maxHeartbeats 16000000 in
set_option maxRecDepth 100000 in
theorem of_succ (henv : OfEnv T N yes no L tb nb yb ob lb fb ya yc oa oc lk lo lc w0) (hL : L.length ≤ 100) (hLr : ∀ r ∈ L, r.right.length ≤ 4) (m : Nat) (ih : OfC T N yes no L tb nb yb ob lb fb w0 m) : OfC T N yes no L tb nb yb ob lb fb w0 (m + 1) := by
  intro i0 p pa pc X W hi0 hp3 hsub hb hX hrd
  obtain ⟨fit, HFT⟩ := nameIt (fitG T N yes no)
  unfold OfC at ih
  rw [HFT.out] at ih ⊢
  obtain ⟨PST, HP⟩ := nameIt (OfP fit (m + 1) (L.drop i0) p T N X W)
  rw [HP.out]
  obtain ⟨w1, HW1⟩ := nameIt (W.alloc (.cells #[.int .i64 0, .int .i64 0, .int .i64 0, .slice none 0 0] 25))
  have hb1 : Below W.heap.size W w1 := by rw [← HW1.out]; exact (Below.refl _ _).alloc (Nat.le_refl _) _
  have X0 : Hid (w1.heap[W.heap.size]? = some (.cells #[.int .i64 0, .int .i64 0, .int .i64 0, .slice none 0 0] 25 (0, 0))) := by rw [← HW1.out]; exact bx_new _ _ _ rfl
  have hs1 : w1.heap.size = W.heap.size + 1 := by rw [← HW1.out]; simp
  have HBW := Lib.hid hb
  have HX := Lib.hid hX
  have HB1 := Lib.hid hb1
  have hbw := hb.trans (hb1.mono hb.size)
  have HEC : Hid (∀ W', Below w1.heap.size w1 W' → W'.cell? ⟨lb, 0, none⟩ = some (.slice (some ⟨lk, lo, none⟩) L.length lc) ∧ W'.cell? ⟨fb, 0, none⟩ = some (.func (.func 15) #[] #[.pointer (some ⟨tb, 0, none⟩), .pointer (some ⟨nb, 0, none⟩), .pointer (some ⟨yb, 0, none⟩), .pointer (some ⟨ob, 0, none⟩), .pointer (some ⟨lb, 0, none⟩), .pointer (some ⟨fb, 0, none⟩)])) := fun W' h => ⟨((hbw.trans (h.mono hbw.size)).cell (lt_of_cell henv.l)).trans henv.l, ((hbw.trans (h.mono hbw.size)).cell (lt_of_cell henv.f)).trans henv.f⟩
  have HRL : Hid (∀ W', Below w1.heap.size w1 W' → Rd (fun k => k < w0.heap.size) W' (.sl (L.map Rule.d)) [.slice (some ⟨lk, lo, none⟩) L.length lc]) := fun W' h => (henv.rl.mono fun k _ hlt => hlt).below (hbw.trans (h.mono hbw.size))
  have HPR : Hid (∀ W', Below w1.heap.size w1 W' → Rd (fun k => ¬ X k ∧ k < W.heap.size) W' (.sl (p.map Rule.d)) [.slice pa p.length pc]) := fun W' h => (hrd.mono fun k hk hlt => ⟨hk, hlt⟩).below (hb1.trans (h.mono hb1.size))
  have hbl := henv.rl.bounds.2
  unfold maxLen at hbl
  have HFT1 : Hid (∀ w' (y0 y1 y2 : Int) a k c x0 x1 x2 x3, OfR fit (m + 1) (L.drop i0) p T N (fun k => X k ∨ k = W.heap.size) y0 y1 y2 a k c true w' → Below w1.heap.size w1 w' → PST (.returned (.tuple #[.agg #[.int .i64 y0, .int .i64 y1, .int .i64 y2, .slice a k c], .bool true])) ((((w'.setCell ⟨W.heap.size, 0, none⟩ x0).setCell ⟨W.heap.size, 1, none⟩ x1).setCell ⟨W.heap.size, 2, none⟩ x2).setCell ⟨W.heap.size, 3, none⟩ x3)) := by
    intro w' y0 y1 y2 a k c x0 x1 x2 x3 h1 h2
    rw [← HP.out]
    exact ⟨y0, y1, y2, a, k, c, true, rfl, (h1.box4 (.inr rfl) x0 x1 x2 x3).mono fun k h => .inl (.inl h), below_box4 (hb1.trans (h2.mono hb1.size)) (Nat.le_refl _) _ _ _ _⟩
  have HFF1 : Hid (∀ w' x0 x1 x2 x3, fF fit (m + 1) (L.drop i0) p = none → Below w1.heap.size w1 w' → PST (.returned (.tuple #[.agg #[.int .i64 0, .int .i64 0, .int .i64 0, .slice none 0 0], .bool false])) ((((w'.setCell ⟨W.heap.size, 0, none⟩ x0).setCell ⟨W.heap.size, 1, none⟩ x1).setCell ⟨W.heap.size, 2, none⟩ x2).setCell ⟨W.heap.size, 3, none⟩ x3)) := by
    intro w' x0 x1 x2 x3 h1 h2
    rw [← HP.out]
    exact ⟨0, 0, 0, none, 0, 0, false, rfl, .inr ⟨rfl, h1⟩, below_box4 (hb1.trans (h2.mono hb1.size)) (Nat.le_refl _) _ _ _ _⟩
  have HLR := Lib.hid hLr
  have HSUB := Lib.hid hsub
  have HIH0 := Lib.hid ih
  have hw0 : w0.heap.size ≤ W.heap.size := hb.size
  have eg15 : ∀ args w, (callFunc 15 args).run Tryd.prog w = .ok (.enter 15 args) w := fun _ _ => by kernel_rfl
  obtain ⟨ll, HLL⟩ := nameIt L.length
  obtain ⟨pl, HPL⟩ := nameIt p.length
  obtain ⟨rb, HRB⟩ := nameIt W.heap.size
  obtain ⟨p1, HP1⟩ := nameIt (pl + 1)
  obtain ⟨mm, HMM⟩ := nameIt (m + 1)
  simp only [HLL.out] at HEC HRL
  rw [HLL.out] at hL hbl hi0
  simp only [HPL.out, HRB.out] at HPR
  rw [HPL.out] at hp3
  rw [HRB.out] at X0 hw0 hs1 HX
  simp only [HRB.out] at HFT1 HFF1
  simp only [HMM.out] at HFT1 HFF1
  have hpl3 : pl + m ≤ 2 := by omega
  have hmw : IntKind.i64.wrap ((mm : Int) - 1) = (m : Int) := by have := HMM.out; rw [IntWalk.i64_in _ (by omega)]; omega
  have hmm0 : ((mm : Int) == 0) = false := by have := HMM.out; simp; omega
  have hst0 : Hid (fF fit mm (L.drop i0) p = fF fit mm (L.drop i0) p) := rfl
  have hp1 : p1 = pl + 1 := HP1.out.symm
  have HP1L : Hid (∀ r : Rule, (p ++ [r]).length = p1) := fun r => by rw [List.length_append, HPL.out]; exact HP1.out
  have hrbl := bx_lt X0.out
  have HHS1 := Lib.hid hs1
  rw [HPL.out, HMM.out]
  clear hp1 hp3 hsub hX hrd hb hb1 hbw hLr ih hs1 HFT
  go_enter Tryd.func15, Tryd.ntmps15
  go_upto_region 1 with fail
  rw [HW1.out, HRB.out]
  clear HW1
  go_wp2_with fail
  go_loopg [15, 16, 17] ll (fun gg v15 v16 v17 wr => ∃ i : Nat, i0 ≤ i ∧ i ≤ ll ∧ ll - i ≤ gg ∧ v15 = .int .i64 (i : Int) ∧ Hid (fF fit mm (L.drop i0) p = fF fit mm (L.drop i) p) ∧ Hid (Below w1.heap.size w1 wr))
  case atStart => exact ⟨i0, by omega, by omega, by omega, rfl, Lib.hid rfl, Below.refl _ _⟩
  case round =>
    clear hst0
    obtain ⟨i, hii, hil, hgg, rfl, HST, HBR⟩ := hrel
    obtain ⟨wr, rfl⟩ : ∃ ww : World, ww = wr := ⟨_, rfl⟩
    obtain ⟨x0, x1⟩ := HEC.out wr HBR.out
    by_cases hik : i < ll
    · have hik' : (i : Int) < (ll : Int) := by omega
      have hi0' : (0 : Int) ≤ (i : Int) := by omega
      have hiL : i < L.length := by rw [HLL.out]; exact hik
      have hat := fF_at (fit := fit) (n := m) (p := p) hiL
      have hsn := sub_next hiL (sub_more hii HSUB.out)
      obtain ⟨bk, ro, v, hae, -, hbk, s0, s1, hrr⟩ := (HRL.out wr HBR.out).rule_at hiL
      cases hae
      obtain ⟨ra, rc, rfl, hv1, hv2⟩ := hrr.form
      have hrl := HLR.out _ (List.getElem_mem hiL)
      obtain ⟨kid, HKI⟩ := nameIt (L[i]'hiL)
      rw [HKI.out] at s0 s1 hrr hrl hat hsn
      obtain ⟨lf, RL⟩ := kid
      dsimp only at s0 s1 hrr hrl
      rw [List.length_map] at s1 hrr
      obtain ⟨i1, HI1⟩ := nameIt (i + 1)
      have hiw : IntKind.i64.wrap ((i : Int) + 1) = (i1 : Int) := by rw [IntWalk.i64_in _ (by omega)]; have := HI1.out; omega
      rw [HI1.out] at hat hsn
      rw [HMM.out] at hat
      have HIH : Hid (∀ (XX : Nat → Prop) a c W', (∀ k, XX k → w0.heap.size ≤ k ∧ k < W'.heap.size) → Below wr.heap.size wr W' → Rd (fun k => ¬ XX k) W' (.sl ((p ++ [(⟨lf, RL⟩ : Rule)]).map Rule.d)) [.slice a p1 c] →
          Calls Tryd.prog 15 #[.int .i64 (i1 : Int), .int .i64 (m : Int), .slice a p1 c, .pointer (some ⟨tb, 0, none⟩), .pointer (some ⟨nb, 0, none⟩), .pointer (some ⟨yb, 0, none⟩), .pointer (some ⟨ob, 0, none⟩), .pointer (some ⟨lb, 0, none⟩), .pointer (some ⟨fb, 0, none⟩)] W' (OfP fit m (L.drop i1) (p ++ [(⟨lf, RL⟩ : Rule)]) T N XX W')) := by
        intro XX a c W' h1 h2 h3
        have hbb := HBR.out.trans (h2.mono HBR.out.size)
        have hbb2 := HB1.out.trans (hbb.mono HB1.out.size)
        have h4 := HIH0.out i1 (p ++ [(⟨lf, RL⟩ : Rule)]) a c XX W' (by have := HI1.out; omega) (by rw [HP1L.out]; have := HP1.out; omega) hsn (HBW.out.trans (hbb2.mono HBW.out.size)) h1 (by rw [HP1L.out]; exact h3)
        rw [HP1L.out] at h4
        exact h4
      have HCL : Hid (∀ W', Below wr.heap.size wr W' → Calls Tryd.prog 17 #[.slice pa pl pc] W' (RulesPost (fun k => ¬ X k ∧ k < rb) p W')) := fun W' h => by
        have h2 := cloneRules (fun k => ¬ X k ∧ k < rb) p pa pc W' (by rw [HPL.out]; exact HPR.out W' (HBR.out.trans (h.mono HBR.out.size))) (by rw [HPL.out]; omega)
        rw [HPL.out] at h2
        exact h2
      have HRR : Hid (∀ W', Below wr.heap.size wr W' → Rd (fun k => k < w0.heap.size) W' (.sl (RL.map Sym.d)) [.slice ra RL.length rc]) := fun W' h => hrr.below h
      have HAT := Lib.hid hat
      obtain ⟨rn, HRN⟩ := nameIt RL.length
      rw [HRN.out] at s1
      simp only [HRN.out] at HRR
      have HSN : Hid (∀ W', Below wr.heap.size wr W' → (fun w' => w'.cell? ⟨fb, 0, none⟩ = some (.func (.func 15) #[] #[.pointer (some ⟨tb, 0, none⟩), .pointer (some ⟨nb, 0, none⟩), .pointer (some ⟨yb, 0, none⟩), .pointer (some ⟨ob, 0, none⟩), .pointer (some ⟨lb, 0, none⟩), .pointer (some ⟨fb, 0, none⟩)]) ∧ w'.cell? ⟨lb, 0, none⟩ = some (.slice (some ⟨lk, lo, none⟩) ll lc) ∧ w'.cell? ⟨lk, lo + i * 2, none⟩ = some (.int .i64 lf) ∧ w'.cell? ⟨lk, lo + i * 2 + 1, none⟩ = some (.slice ra rn rc)) W') := fun W' h => ⟨(HEC.out W' (HBR.out.trans (h.mono HBR.out.size))).2, (HEC.out W' (HBR.out.trans (h.mono HBR.out.size))).1, (h.cell (lt_of_cell s0)).trans s0, (h.cell (lt_of_cell s1)).trans s1⟩
      have hrbw : rb < wr.heap.size := by have := HBR.out.size; have := HHS1.out; omega
      clear hv1 hv2 hrr hat hsn hrl HKI s0 s1 x1 hbk
      go_upto_region 7 with fail
      go_cut [16, 17] (fun v16 v17 wx => ∃ (q : Nat) (y0 y1 y2 : Int) (ya : Option Addr) (yn yc : Nat) (fl : Bool), v16 = .pointer (some ⟨q, 0, none⟩) ∧ v17 = .bool fl ∧ Hid (OfR fit m (L.drop i1) (p ++ [(⟨lf, RL⟩ : Rule)]) T N (fun k => X k ∨ k = rb ∨ k = q) y0 y1 y2 ya yn yc fl wx) ∧ Hid (wx.heap[q]? = some (.cells #[.int .i64 y0, .int .i64 y1, .int .i64 y2, .slice ya yn yc] 25 (0, 0))) ∧ Hid (Below wr.heap.size wr wx) ∧ Hid (wr.heap.size ≤ q))
      case first =>
        clear x0
        have HBD : Hid (Below wr.heap.size wr wr.drew) := (Below.refl _ _).drew
        obtain ⟨wd, HWD⟩ := nameIt wr.drew
        rw [HWD.out] at HBD
        have HS : Hid (∀ W', Below wr.heap.size wr W' → (fun w' => w'.cell? ⟨fb, 0, none⟩ = some (.func (.func 15) #[] #[.pointer (some ⟨tb, 0, none⟩), .pointer (some ⟨nb, 0, none⟩), .pointer (some ⟨yb, 0, none⟩), .pointer (some ⟨ob, 0, none⟩), .pointer (some ⟨lb, 0, none⟩), .pointer (some ⟨fb, 0, none⟩)]) ∧ w'.cell? ⟨lb, 0, none⟩ = some (.slice (some ⟨lk, lo, none⟩) ll lc) ∧ w'.cell? ⟨lk, lo + i * 2, none⟩ = some (.int .i64 lf) ∧ w'.cell? ⟨lk, lo + i * 2 + 1, none⟩ = some (.slice ra rn rc)) W') := HSN.out
        refine wp_region_U (S := (fun w' => w'.cell? ⟨fb, 0, none⟩ = some (.func (.func 15) #[] #[.pointer (some ⟨tb, 0, none⟩), .pointer (some ⟨nb, 0, none⟩), .pointer (some ⟨yb, 0, none⟩), .pointer (some ⟨ob, 0, none⟩), .pointer (some ⟨lb, 0, none⟩), .pointer (some ⟨fb, 0, none⟩)]) ∧ w'.cell? ⟨lb, 0, none⟩ = some (.slice (some ⟨lk, lo, none⟩) ll lc) ∧ w'.cell? ⟨lk, lo + i * 2, none⟩ = some (.int .i64 lf) ∧ w'.cell? ⟨lk, lo + i * 2 + 1, none⟩ = some (.slice ra rn rc))) 19 (by kernel_rfl) (fun inv => ?_)
        rw [HWD.out]
        clear HWD
        refine wpU_take (i := 0) (v := .func (.func 15) #[] #[.pointer (some ⟨tb, 0, none⟩), .pointer (some ⟨nb, 0, none⟩), .pointer (some ⟨yb, 0, none⟩), .pointer (some ⟨ob, 0, none⟩), .pointer (some ⟨lb, 0, none⟩), .pointer (some ⟨fb, 0, none⟩)]) rfl inv (by kernel_rfl) (by kernel_rfl) (by decide) (by decide) (by kernel_rfl) (by kernel_rfl) (by kernel_rfl) (fun _ _ _ h => h) (Or.inl ⟨by rfl, fun w' hw' => ?_⟩) (HS.out _ HBD.out) (fun inv => ?_)
        · obtain ⟨h0, h1, h2, h3⟩ := hw'
          go_simp
        try simp only [Act.put, List.setIfInBounds_toArray, List.set_cons_zero, List.set_cons_succ]
        refine wpU_take (i := 1) (v := .int .i64 (i : Int)) rfl inv (by kernel_rfl) (by kernel_rfl) (by decide) (by decide) (by kernel_rfl) (by kernel_rfl) (by kernel_rfl) (fun _ _ _ h => h) (Or.inl ⟨by rfl, fun w' hw' => ?_⟩) (HS.out _ HBD.out) (fun inv => ?_)
        · obtain ⟨h0, h1, h2, h3⟩ := hw'
          go_simp
        try simp only [Act.put, List.setIfInBounds_toArray, List.set_cons_zero, List.set_cons_succ]
        refine wpU_take (i := 2) (v := .int .i64 (i1 : Int)) rfl inv (by kernel_rfl) (by kernel_rfl) (by decide) (by decide) (by kernel_rfl) (by kernel_rfl) (by kernel_rfl) (fun _ _ _ h => h) (Or.inl ⟨by rfl, fun w' hw' => ?_⟩) (HS.out _ HBD.out) (fun inv => ?_)
        · obtain ⟨h0, h1, h2, h3⟩ := hw'
          go_simp
        try simp only [Act.put, List.setIfInBounds_toArray, List.set_cons_zero, List.set_cons_succ]
        refine wpU_take (i := 3) (v := .int .i64 (mm : Int)) rfl inv (by kernel_rfl) (by kernel_rfl) (by decide) (by decide) (by kernel_rfl) (by kernel_rfl) (by kernel_rfl) (fun _ _ _ h => h) (Or.inl ⟨by rfl, fun w' hw' => ?_⟩) (HS.out _ HBD.out) (fun inv => ?_)
        · obtain ⟨h0, h1, h2, h3⟩ := hw'
          go_simp
        try simp only [Act.put, List.setIfInBounds_toArray, List.set_cons_zero, List.set_cons_succ]
        refine wpU_take (i := 4) (v := .int .i64 (m : Int)) rfl inv (by kernel_rfl) (by kernel_rfl) (by decide) (by decide) (by kernel_rfl) (by kernel_rfl) (by kernel_rfl) (fun _ _ _ h => h) (Or.inl ⟨by rfl, fun w' hw' => ?_⟩) (HS.out _ HBD.out) (fun inv => ?_)
        · obtain ⟨h0, h1, h2, h3⟩ := hw'
          go_simp
        try simp only [Act.put, List.setIfInBounds_toArray, List.set_cons_zero, List.set_cons_succ]
        refine wpU_take (i := 5) (v := .slice pa pl pc) rfl inv (by kernel_rfl) (by kernel_rfl) (by decide) (by decide) (by kernel_rfl) (by kernel_rfl) (by kernel_rfl) (fun _ _ _ h => h) (Or.inl ⟨by rfl, fun w' hw' => ?_⟩) (HS.out _ HBD.out) (fun inv => ?_)
        · obtain ⟨h0, h1, h2, h3⟩ := hw'
          go_simp
        try simp only [Act.put, List.setIfInBounds_toArray, List.set_cons_zero, List.set_cons_succ]
        refine wpU_take (i := 7) (v := .slice (some ⟨lk, lo, none⟩) ll lc) rfl inv (by kernel_rfl) (by kernel_rfl) (by decide) (by decide) (by kernel_rfl) (by kernel_rfl) (by kernel_rfl) (fun _ _ _ h => h) (Or.inl ⟨by rfl, fun w' hw' => ?_⟩) (HS.out _ HBD.out) (fun inv => ?_)
        · obtain ⟨h0, h1, h2, h3⟩ := hw'
          go_simp
        try simp only [Act.put, List.setIfInBounds_toArray, List.set_cons_zero, List.set_cons_succ]
        refine wpU_take (i := 8) (v := .int .i64 (i : Int)) rfl inv (by kernel_rfl) (by kernel_rfl) (by decide) (by decide) (by kernel_rfl) (by kernel_rfl) (by kernel_rfl) (fun _ _ _ h => h) (Or.inl ⟨by rfl, fun w' hw' => ?_⟩) (HS.out _ HBD.out) (fun inv => ?_)
        · obtain ⟨h0, h1, h2, h3⟩ := hw'
          go_simp
        try simp only [Act.put, List.setIfInBounds_toArray, List.set_cons_zero, List.set_cons_succ]
        refine wpU_take (i := 9) (v := .pointer (some ⟨lk, lo + i * 2, none⟩)) rfl inv (by kernel_rfl) (by kernel_rfl) (by decide) (by decide) (by kernel_rfl) (by kernel_rfl) (by kernel_rfl) (fun _ _ _ h => h) (Or.inl ⟨by rfl, fun w' hw' => ?_⟩) (HS.out _ HBD.out) (fun inv => ?_)
        · obtain ⟨h0, h1, h2, h3⟩ := hw'
          go_simp
        try simp only [Act.put, List.setIfInBounds_toArray, List.set_cons_zero, List.set_cons_succ]
        refine wpU_take (i := 10) (v := .agg #[.int .i64 lf, .slice ra rn rc]) rfl inv (by kernel_rfl) (by kernel_rfl) (by decide) (by decide) (by kernel_rfl) (by kernel_rfl) (by kernel_rfl) (fun _ _ _ h => h) (Or.inl ⟨by rfl, fun w' hw' => ?_⟩) (HS.out _ HBD.out) (fun inv => ?_)
        · obtain ⟨h0, h1, h2, h3⟩ := hw'
          go_simp
        try simp only [Act.put, List.setIfInBounds_toArray, List.set_cons_zero, List.set_cons_succ]
        refine wpU_3 (i := 6) (j := 11) (k := 17) (by kernel_rfl) rfl rfl rfl (fun K hK => ?_) (fun K hK => ?_) (fun K hK => ?_) 
        · replace inv := inv_setc (i := 6) inv (by kernel_rfl) (by decide)
          go_simp
          with_reducible refine (HCL.out wd HBD.out).mono ?_
          rintro e wk1 ⟨ac, cc, rfl, hrow, hbk⟩
          rw [HPL.out] at hrow
          rw [HPL.out]
          have HBK1 : Hid (Below wr.heap.size wr wk1) := HBD.out.trans (hbk.mono HBD.out.size)
          have HROW : Hid (RowD (fun k => ¬ X k ∧ k < rb) wr.heap.size 32 2 (p.map Rule.d) (.slice ac pl cc) wk1) := hrow.lower HBD.out.size
          clear hrow hbk
          refine hK.out _ _ (fun _ => HS.out _ HBK1.out) ?_
          clear hK K
          try simp only [Act.put, List.setIfInBounds_toArray, List.set_cons_zero, List.set_cons_succ]
          refine wpU_two (i := 11) (j := 17) (by kernel_rfl) rfl rfl (fun K hK => ?_) (fun K hK => ?_) 
          · replace inv := inv_setc (i := 11) inv (by kernel_rfl) (by decide)
            go_simp
            have hbk : Below wk1.heap.size wk1 (wk1.alloc (.cells #[.int .i64 lf, .slice ra rn rc] 32)) := (Below.refl _ _).alloc (Nat.le_refl _) _
            have F11 : Hid ((wk1.alloc (.cells #[.int .i64 lf, .slice ra rn rc] 32)).heap[wk1.heap.size]? = some (.cells #[.int .i64 lf, .slice ra rn rc] 32 (0, 0))) := bx_new _ _ _ rfl
            obtain ⟨wk2, HWK2⟩ := nameIt (wk1.alloc (.cells #[.int .i64 lf, .slice ra rn rc] 32))
            rw [HWK2.out] at hbk F11
            rw [HWK2.out]
            have HBK2 : Hid (Below wr.heap.size wr wk2) := HBK1.out.trans (hbk.mono HBK1.out.size)
            replace HROW := Lib.hid (HROW.out.keep hbk)
            obtain ⟨q11, HQN2⟩ := nameIt wk1.heap.size
            rw [HQN2.out] at F11
            rw [HQN2.out]
            clear hbk HWK2
            refine hK.out _ _ (fun _ => HS.out _ HBK2.out) ?_
            clear hK K
            try simp only [Act.put, List.setIfInBounds_toArray, List.set_cons_zero, List.set_cons_succ]
            refine wpU_two (i := 12) (j := 17) (by kernel_rfl) rfl rfl (fun K hK => ?_) (fun K hK => ?_) 
            · replace inv := inv_setc (i := 12) inv (by kernel_rfl) (by decide)
              obtain ⟨⟨xs, ho, hd⟩, hle⟩ := HROW.out
              rw [List.length_map, HPL.out] at ho
              refine step_appB elRule (by rfl) _ _ (by rfl) ho (by rfl) (by rfl) F11.out (by rfl) (by rfl) (by omega) (by unfold maxLen; omega) hle ?_
              intro g4 c4 wk3 ho4 hg4 hat4 hlt4
              have HBK3 : Hid (Below wr.heap.size wr wk3) := HBK2.out.grown hg4 HBK2.out.size (fun k e => (ho.lt k e).1)
              have HROW2 : Hid (RowD (fun k => ¬ X k ∧ k < rb) wr.heap.size 32 2 (p.map Rule.d ++ [Rule.d ⟨lf, RL⟩]) (.slice (some ⟨g4, 0, none⟩) (pl + 1) c4) wk3) := RowD.step ho hd (by rw [List.length_map]; exact HPL.out.symm) (T := fun k => k < w0.heap.size) (RdAll.one (rd_rule (r := ⟨lf, RL⟩) (HRR.out _ HBK2.out))) (fun k hk _ => ⟨⟨fun h => by have := (HX.out k h).1; omega, by omega⟩, fun e => by have := (ho.lt k e).1; omega⟩) hle ho4 hg4 (by rcases hat4 with e | e; exact .inl (by rw [e]; rfl); exact .inr ⟨g4, rfl, by omega⟩)
              clear ho hd hle ho4 hg4 hat4 hlt4 HROW F11
              refine hK.out _ _ (fun _ => HS.out _ HBK3.out) ?_
              clear hK K
              try simp only [Act.put, List.setIfInBounds_toArray, List.set_cons_zero, List.set_cons_succ]
              refine wpU_two (i := 13) (j := 17) (by kernel_rfl) rfl rfl (fun K hK => ?_) (fun K hK => ?_) 
              · replace inv := inv_setc (i := 13) inv (by kernel_rfl) (by decide)
                go_simp
                have hxx : ∀ k, (fun k => X k ∨ k = rb) k → w0.heap.size ≤ k ∧ k < wk3.heap.size := fun k h => by have hz := HBK3.out.size; rcases h with h | h; (have := HX.out k h; omega); omega
                have HRD2 : Hid (Rd (fun k => ¬ (fun k => X k ∨ k = rb) k) wk3 (.sl ((p ++ [(⟨lf, RL⟩ : Rule)]).map Rule.d)) [.slice (some ⟨g4, 0, none⟩) p1 c4]) := by
                  obtain ⟨⟨xs, ho, hd⟩, hle⟩ := HROW2.out
                  rw [List.map_append, ← HP1.out]
                  refine rd_of_own ho (hd.mono fun k hk _ h => ?_) rfl (fun k e h => ?_)
                  · rcases h with h | h; exact hk.1.1 h; (have := hk.1.2; omega)
                  · have hl := (ho.lt k e).1; rcases h with h | h; (have := HX.out k h; omega); omega
                rw [HP1.out]
                with_reducible refine (HIH.out (fun k => X k ∨ k = rb) _ _ wk3 hxx HBK3.out HRD2.out).mono ?_
                rintro e wk4 ⟨y0, y1, y2, ya, yn, yc, fl, rfl, hor, hbk⟩
                have HBK4 : Hid (Below wr.heap.size wr wk4) := HBK3.out.trans (hbk.mono HBK3.out.size)
                have HOR := Lib.hid hor
                clear hxx
                clear hor hbk HROW2 HRD2
                refine hK.out _ _ (fun _ => HS.out _ HBK4.out) ?_
                clear hK K
                try simp only [Act.put, List.setIfInBounds_toArray, List.set_cons_zero, List.set_cons_succ]
                refine wpU_take (i := 14) (v := .tuple #[.agg #[.int .i64 y0, .int .i64 y1, .int .i64 y2, .slice ya yn yc], .bool fl]) rfl inv (by kernel_rfl) (by kernel_rfl) (by decide) (by decide) (by kernel_rfl) (by kernel_rfl) (by kernel_rfl) (fun _ _ _ h => h) (Or.inl ⟨by rfl, fun w' hw' => ?_⟩) (HS.out _ HBK4.out) (fun inv => ?_)
                · obtain ⟨h0, h1, h2, h3⟩ := hw'
                  go_simp
                try simp only [Act.put, List.setIfInBounds_toArray, List.set_cons_zero, List.set_cons_succ]
                refine wpU_take (i := 15) (v := .agg #[.int .i64 y0, .int .i64 y1, .int .i64 y2, .slice ya yn yc]) rfl inv (by kernel_rfl) (by kernel_rfl) (by decide) (by decide) (by kernel_rfl) (by kernel_rfl) (by kernel_rfl) (fun _ _ _ h => h) (Or.inl ⟨by rfl, fun w' hw' => ?_⟩) (HS.out _ HBK4.out) (fun inv => ?_)
                · obtain ⟨h0, h1, h2, h3⟩ := hw'
                  go_simp
                try simp only [Act.put, List.setIfInBounds_toArray, List.set_cons_zero, List.set_cons_succ]
                refine wpU_take (i := 16) (v := .bool fl) rfl inv (by kernel_rfl) (by kernel_rfl) (by decide) (by decide) (by kernel_rfl) (by kernel_rfl) (by kernel_rfl) (fun _ _ _ h => h) (Or.inl ⟨by rfl, fun w' hw' => ?_⟩) (HS.out _ HBK4.out) (fun inv => ?_)
                · obtain ⟨h0, h1, h2, h3⟩ := hw'
                  go_simp
                try simp only [Act.put, List.setIfInBounds_toArray, List.set_cons_zero, List.set_cons_succ]
                refine wpU_one (i := 17) (by kernel_rfl) rfl (fun K hK => ?_)
                replace inv := inv_setc (i := 17) inv (by kernel_rfl) (by decide)
                go_simp
                have hbk : Below wk4.heap.size wk4 (wk4.alloc (.cells #[.int .i64 0, .int .i64 0, .int .i64 0, .slice none 0 0] 25)) := (Below.refl _ _).alloc (Nat.le_refl _) _
                have F17 : Hid ((wk4.alloc (.cells #[.int .i64 0, .int .i64 0, .int .i64 0, .slice none 0 0] 25)).heap[wk4.heap.size]? = some (.cells #[.int .i64 0, .int .i64 0, .int .i64 0, .slice none 0 0] 25 (0, 0))) := bx_new _ _ _ rfl
                obtain ⟨wk5, HWK5⟩ := nameIt (wk4.alloc (.cells #[.int .i64 0, .int .i64 0, .int .i64 0, .slice none 0 0] 25))
                rw [HWK5.out] at hbk F17
                rw [HWK5.out]
                have HBK5 : Hid (Below wr.heap.size wr wk5) := HBK4.out.trans (hbk.mono HBK4.out.size)
                replace HOR : Hid (OfR fit m (L.drop i1) (p ++ [(⟨lf, RL⟩ : Rule)]) T N (fun k => X k ∨ k = rb ∨ k = wk4.heap.size) y0 y1 y2 ya yn yc fl wk5) := (HOR.out.mono (X' := fun k => X k ∨ k = rb ∨ k = wk4.heap.size) (fun k hk => by rcases hk with h | h | h; exact .inl (.inl h); exact .inl (.inr h); exact .inr (Nat.le_of_eq h.symm))).keep hbk
                have HQ17 : Hid (wr.heap.size ≤ wk4.heap.size) := HBK4.out.size
                obtain ⟨q17, HQN5⟩ := nameIt wk4.heap.size
                rw [HQN5.out] at F17 HQ17 HOR
                rw [HQN5.out]
                clear hbk HWK5
                refine hK.out _ _ (fun _ => HS.out _ HBK5.out) ?_
                clear hK K
                try simp only [Act.put, List.setIfInBounds_toArray, List.set_cons_zero, List.set_cons_succ]
                have hq17 := bx_cells4 F17.out
                obtain ⟨z0, z1, z2, z3⟩ := bx_cells4 F17.out
                obtain ⟨f0, f1, f2, f3⟩ := bx_free4 F17.out
                clear hq17
                refine wpU_one (i := 18) (by kernel_rfl) rfl (fun K hK => ?_)
                replace inv := inv_setc (i := 18) inv (by kernel_rfl) (by decide)
                go_simp
                obtain ⟨wz, HWZ⟩ := nameIt ((((wk5.setCell ⟨q17, 0, none⟩ (.int .i64 y0)).setCell ⟨q17, 1, none⟩ (.int .i64 y1)).setCell ⟨q17, 2, none⟩ (.int .i64 y2)).setCell ⟨q17, 3, none⟩ (.slice ya yn yc))
                have HBZ : Hid (Below wr.heap.size wr wz) := by rw [← HWZ.out]; exact below_box4 HBK5.out HQ17.out _ _ _ _
                have HXZ : Hid (wz.heap[q17]? = some (.cells #[.int .i64 y0, .int .i64 y1, .int .i64 y2, .slice ya yn yc] 25 (0, 0))) := by rw [← HWZ.out]; exact set4 F17.out _ _ _ _
                have HOZ : Hid (OfR fit m (L.drop i1) (p ++ [(⟨lf, RL⟩ : Rule)]) T N (fun k => X k ∨ k = rb ∨ k = q17) y0 y1 y2 ya yn yc fl wz) := by rw [← HWZ.out]; exact HOR.out.box4 (.inr (.inr rfl)) _ _ _ _
                rw [HWZ.out]
                clear z0 z1 z2 z3 f0 f1 f2 f3
                refine hK.out _ _ (fun _ => HS.out _ HBZ.out) ?_
                clear hK K
                try simp only [Act.put, List.setIfInBounds_toArray, List.set_cons_zero, List.set_cons_succ]
                refine wpU_one (i := 19) (by kernel_rfl) rfl (fun K hK => ?_)
                go_simp
                refine hK.out _ _ (fun h => absurd (show true = false from h) (by decide)) ?_
                clear hK K
                try simp only [Act.put, List.setIfInBounds_toArray, List.set_cons_zero, List.set_cons_succ]
                refine wpU_done (by kernel_rfl) ?_ _
                go_wp2_with fail
                go_meet
                exact ⟨q17, y0, y1, y2, ya, yn, yc, fl, rfl, rfl, HOZ, HXZ, HBZ, HQ17⟩
              · replace inv := inv_setc (i := 17) inv (by kernel_rfl) (by decide)
                go_simp
                have hbk : Below wk3.heap.size wk3 (wk3.alloc (.cells #[.int .i64 0, .int .i64 0, .int .i64 0, .slice none 0 0] 25)) := (Below.refl _ _).alloc (Nat.le_refl _) _
                have F17 : Hid ((wk3.alloc (.cells #[.int .i64 0, .int .i64 0, .int .i64 0, .slice none 0 0] 25)).heap[wk3.heap.size]? = some (.cells #[.int .i64 0, .int .i64 0, .int .i64 0, .slice none 0 0] 25 (0, 0))) := bx_new _ _ _ rfl
                obtain ⟨wk4, HWK4⟩ := nameIt (wk3.alloc (.cells #[.int .i64 0, .int .i64 0, .int .i64 0, .slice none 0 0] 25))
                rw [HWK4.out] at hbk F17
                rw [HWK4.out]
                have HBK4 : Hid (Below wr.heap.size wr wk4) := HBK3.out.trans (hbk.mono HBK3.out.size)
                have HNG : Hid (g4 ≠ wk3.heap.size) := fun e => by have h1 := (HROW2.out.form.choose_spec.choose_spec.2.2.2 g4 rfl).2; omega
                replace HROW2 := Lib.hid (HROW2.out.keep hbk)
                have HQ17 : Hid (wr.heap.size ≤ wk3.heap.size) := HBK3.out.size
                obtain ⟨q17, HQN4⟩ := nameIt wk3.heap.size
                rw [HQN4.out] at F17 HQ17 HNG
                rw [HQN4.out]
                clear hbk HWK4
                refine hK.out _ _ (fun _ => HS.out _ HBK4.out) ?_
                clear hK K
                try simp only [Act.put, List.setIfInBounds_toArray, List.set_cons_zero, List.set_cons_succ]
                refine wpU_one (i := 13) (by kernel_rfl) rfl (fun K hK => ?_)
                replace inv := inv_setc (i := 13) inv (by kernel_rfl) (by decide)
                go_simp
                have hxx : ∀ k, (fun k => X k ∨ k = rb ∨ k = q17) k → w0.heap.size ≤ k ∧ k < wk4.heap.size := fun k h => by have hz := HBK4.out.size; have hz2 := bx_lt F17.out; have hz3 := HQ17.out; rcases h with h | h | h; (have := HX.out k h; omega); omega; omega
                have HRD2 : Hid (Rd (fun k => ¬ (fun k => X k ∨ k = rb ∨ k = q17) k) wk4 (.sl ((p ++ [(⟨lf, RL⟩ : Rule)]).map Rule.d)) [.slice (some ⟨g4, 0, none⟩) p1 c4]) := by
                  obtain ⟨⟨xs, ho, hd⟩, hle⟩ := HROW2.out
                  rw [List.map_append, ← HP1.out]
                  refine rd_of_own ho (hd.mono fun k hk _ h => ?_) rfl (fun k e h => ?_)
                  · rcases h with h | h | h; exact hk.1.1 h; (have := hk.1.2; omega); (have h1 := hk.1.2; have h2 := HQ17.out; omega)
                  · have hl := (ho.lt k e).1; rcases h with h | h | h; (have := HX.out k h; omega); omega; (simp [Value.ownBlock] at e; exact HNG.out (e.trans h))
                rw [HP1.out]
                with_reducible refine (HIH.out (fun k => X k ∨ k = rb ∨ k = q17) _ _ wk4 hxx HBK4.out HRD2.out).mono ?_
                rintro e wk5 ⟨y0, y1, y2, ya, yn, yc, fl, rfl, hor, hbk⟩
                have HBK5 : Hid (Below wr.heap.size wr wk5) := HBK4.out.trans (hbk.mono HBK4.out.size)
                have HOR := Lib.hid hor
                clear hxx
                replace F17 := Lib.hid (bx_keep F17.out hbk)
                clear hor hbk HROW2 HRD2 HNG
                refine hK.out _ _ (fun _ => HS.out _ HBK5.out) ?_
                clear hK K
                try simp only [Act.put, List.setIfInBounds_toArray, List.set_cons_zero, List.set_cons_succ]
                refine wpU_take (i := 14) (v := .tuple #[.agg #[.int .i64 y0, .int .i64 y1, .int .i64 y2, .slice ya yn yc], .bool fl]) rfl inv (by kernel_rfl) (by kernel_rfl) (by decide) (by decide) (by kernel_rfl) (by kernel_rfl) (by kernel_rfl) (fun _ _ _ h => h) (Or.inl ⟨by rfl, fun w' hw' => ?_⟩) (HS.out _ HBK5.out) (fun inv => ?_)
                · obtain ⟨h0, h1, h2, h3⟩ := hw'
                  go_simp
                try simp only [Act.put, List.setIfInBounds_toArray, List.set_cons_zero, List.set_cons_succ]
                refine wpU_take (i := 15) (v := .agg #[.int .i64 y0, .int .i64 y1, .int .i64 y2, .slice ya yn yc]) rfl inv (by kernel_rfl) (by kernel_rfl) (by decide) (by decide) (by kernel_rfl) (by kernel_rfl) (by kernel_rfl) (fun _ _ _ h => h) (Or.inl ⟨by rfl, fun w' hw' => ?_⟩) (HS.out _ HBK5.out) (fun inv => ?_)
                · obtain ⟨h0, h1, h2, h3⟩ := hw'
                  go_simp
                try simp only [Act.put, List.setIfInBounds_toArray, List.set_cons_zero, List.set_cons_succ]
                refine wpU_take (i := 16) (v := .bool fl) rfl inv (by kernel_rfl) (by kernel_rfl) (by decide) (by decide) (by kernel_rfl) (by kernel_rfl) (by kernel_rfl) (fun _ _ _ h => h) (Or.inl ⟨by rfl, fun w' hw' => ?_⟩) (HS.out _ HBK5.out) (fun inv => ?_)
                · obtain ⟨h0, h1, h2, h3⟩ := hw'
                  go_simp
                try simp only [Act.put, List.setIfInBounds_toArray, List.set_cons_zero, List.set_cons_succ]
                have hq17 := bx_cells4 F17.out
                obtain ⟨z0, z1, z2, z3⟩ := bx_cells4 F17.out
                obtain ⟨f0, f1, f2, f3⟩ := bx_free4 F17.out
                clear hq17
                refine wpU_one (i := 18) (by kernel_rfl) rfl (fun K hK => ?_)
                replace inv := inv_setc (i := 18) inv (by kernel_rfl) (by decide)
                go_simp
                obtain ⟨wz, HWZ⟩ := nameIt ((((wk5.setCell ⟨q17, 0, none⟩ (.int .i64 y0)).setCell ⟨q17, 1, none⟩ (.int .i64 y1)).setCell ⟨q17, 2, none⟩ (.int .i64 y2)).setCell ⟨q17, 3, none⟩ (.slice ya yn yc))
                have HBZ : Hid (Below wr.heap.size wr wz) := by rw [← HWZ.out]; exact below_box4 HBK5.out HQ17.out _ _ _ _
                have HXZ : Hid (wz.heap[q17]? = some (.cells #[.int .i64 y0, .int .i64 y1, .int .i64 y2, .slice ya yn yc] 25 (0, 0))) := by rw [← HWZ.out]; exact set4 F17.out _ _ _ _
                have HOZ : Hid (OfR fit m (L.drop i1) (p ++ [(⟨lf, RL⟩ : Rule)]) T N (fun k => X k ∨ k = rb ∨ k = q17) y0 y1 y2 ya yn yc fl wz) := by rw [← HWZ.out]; exact HOR.out.box4 (.inr (.inr rfl)) _ _ _ _
                rw [HWZ.out]
                clear z0 z1 z2 z3 f0 f1 f2 f3
                refine hK.out _ _ (fun _ => HS.out _ HBZ.out) ?_
                clear hK K
                try simp only [Act.put, List.setIfInBounds_toArray, List.set_cons_zero, List.set_cons_succ]
                refine wpU_one (i := 19) (by kernel_rfl) rfl (fun K hK => ?_)
                go_simp
                refine hK.out _ _ (fun h => absurd (show true = false from h) (by decide)) ?_
                clear hK K
                try simp only [Act.put, List.setIfInBounds_toArray, List.set_cons_zero, List.set_cons_succ]
                refine wpU_done (by kernel_rfl) ?_ _
                go_wp2_with fail
                go_meet
                exact ⟨q17, y0, y1, y2, ya, yn, yc, fl, rfl, rfl, HOZ, HXZ, HBZ, HQ17⟩
            · replace inv := inv_setc (i := 17) inv (by kernel_rfl) (by decide)
              go_simp
              have hbk : Below wk2.heap.size wk2 (wk2.alloc (.cells #[.int .i64 0, .int .i64 0, .int .i64 0, .slice none 0 0] 25)) := (Below.refl _ _).alloc (Nat.le_refl _) _
              have F17 : Hid ((wk2.alloc (.cells #[.int .i64 0, .int .i64 0, .int .i64 0, .slice none 0 0] 25)).heap[wk2.heap.size]? = some (.cells #[.int .i64 0, .int .i64 0, .int .i64 0, .slice none 0 0] 25 (0, 0))) := bx_new _ _ _ rfl
              obtain ⟨wk3, HWK3⟩ := nameIt (wk2.alloc (.cells #[.int .i64 0, .int .i64 0, .int .i64 0, .slice none 0 0] 25))
              rw [HWK3.out] at hbk F17
              rw [HWK3.out]
              have HBK3 : Hid (Below wr.heap.size wr wk3) := HBK2.out.trans (hbk.mono HBK2.out.size)
              have HNE : Hid (∀ k, (Value.slice ac pl cc).ownBlock = some k → k ≠ wk2.heap.size) := fun k e => by have h1 := (HROW.out.form.choose_spec.choose_spec.2.2.2 k e).2; omega
              replace HROW := Lib.hid (HROW.out.keep hbk)
              replace F11 := Lib.hid (bx_keep F11.out hbk)
              have HQ17 : Hid (wr.heap.size ≤ wk2.heap.size) := HBK2.out.size
              obtain ⟨q17, HQN3⟩ := nameIt wk2.heap.size
              rw [HQN3.out] at F17 HQ17 HNE
              rw [HQN3.out]
              clear hbk HWK3
              refine hK.out _ _ (fun _ => HS.out _ HBK3.out) ?_
              clear hK K
              try simp only [Act.put, List.setIfInBounds_toArray, List.set_cons_zero, List.set_cons_succ]
              refine wpU_one (i := 12) (by kernel_rfl) rfl (fun K hK => ?_)
              replace inv := inv_setc (i := 12) inv (by kernel_rfl) (by decide)
              obtain ⟨⟨xs, ho, hd⟩, hle⟩ := HROW.out
              rw [List.length_map, HPL.out] at ho
              refine step_appB elRule (by rfl) _ _ (by rfl) ho (by rfl) (by rfl) F11.out (by rfl) (by rfl) (by omega) (by unfold maxLen; omega) hle ?_
              intro g4 c4 wk4 ho4 hg4 hat4 hlt4
              have HBK4 : Hid (Below wr.heap.size wr wk4) := HBK3.out.grown hg4 HBK3.out.size (fun k e => (ho.lt k e).1)
              have HROW2 : Hid (RowD (fun k => ¬ X k ∧ k < rb) wr.heap.size 32 2 (p.map Rule.d ++ [Rule.d ⟨lf, RL⟩]) (.slice (some ⟨g4, 0, none⟩) (pl + 1) c4) wk4) := RowD.step ho hd (by rw [List.length_map]; exact HPL.out.symm) (T := fun k => k < w0.heap.size) (RdAll.one (rd_rule (r := ⟨lf, RL⟩) (HRR.out _ HBK3.out))) (fun k hk _ => ⟨⟨fun h => by have := (HX.out k h).1; omega, by omega⟩, fun e => by have := (ho.lt k e).1; omega⟩) hle ho4 hg4 (by rcases hat4 with e | e; exact .inl (by rw [e]; rfl); exact .inr ⟨g4, rfl, by omega⟩)
              have HNG : Hid (g4 ≠ q17) := fun e => by rcases hat4 with h | h; exact HNE.out g4 h e; have := bx_lt F17.out; omega
              replace F17 := Lib.hid ((hg4.block q17 (bx_lt F17.out) (fun e => (HNE.out q17 e.symm) rfl)).trans F17.out)
              clear HNE
              clear ho hd hle ho4 hg4 hat4 hlt4 HROW F11
              refine hK.out _ _ (fun _ => HS.out _ HBK4.out) ?_
              clear hK K
              try simp only [Act.put, List.setIfInBounds_toArray, List.set_cons_zero, List.set_cons_succ]
              refine wpU_one (i := 13) (by kernel_rfl) rfl (fun K hK => ?_)
              replace inv := inv_setc (i := 13) inv (by kernel_rfl) (by decide)
              go_simp
              have hxx : ∀ k, (fun k => X k ∨ k = rb ∨ k = q17) k → w0.heap.size ≤ k ∧ k < wk4.heap.size := fun k h => by have hz := HBK4.out.size; have hz2 := bx_lt F17.out; have hz3 := HQ17.out; rcases h with h | h | h; (have := HX.out k h; omega); omega; omega
              have HRD2 : Hid (Rd (fun k => ¬ (fun k => X k ∨ k = rb ∨ k = q17) k) wk4 (.sl ((p ++ [(⟨lf, RL⟩ : Rule)]).map Rule.d)) [.slice (some ⟨g4, 0, none⟩) p1 c4]) := by
                obtain ⟨⟨xs, ho, hd⟩, hle⟩ := HROW2.out
                rw [List.map_append, ← HP1.out]
                refine rd_of_own ho (hd.mono fun k hk _ h => ?_) rfl (fun k e h => ?_)
                · rcases h with h | h | h; exact hk.1.1 h; (have := hk.1.2; omega); (have h1 := hk.1.2; have h2 := HQ17.out; omega)
                · have hl := (ho.lt k e).1; rcases h with h | h | h; (have := HX.out k h; omega); omega; (simp [Value.ownBlock] at e; exact HNG.out (e.trans h))
              rw [HP1.out]
              with_reducible refine (HIH.out (fun k => X k ∨ k = rb ∨ k = q17) _ _ wk4 hxx HBK4.out HRD2.out).mono ?_
              rintro e wk5 ⟨y0, y1, y2, ya, yn, yc, fl, rfl, hor, hbk⟩
              have HBK5 : Hid (Below wr.heap.size wr wk5) := HBK4.out.trans (hbk.mono HBK4.out.size)
              have HOR := Lib.hid hor
              clear hxx
              replace F17 := Lib.hid (bx_keep F17.out hbk)
              clear hor hbk HROW2 HRD2 HNG
              refine hK.out _ _ (fun _ => HS.out _ HBK5.out) ?_
              clear hK K
              try simp only [Act.put, List.setIfInBounds_toArray, List.set_cons_zero, List.set_cons_succ]
              refine wpU_take (i := 14) (v := .tuple #[.agg #[.int .i64 y0, .int .i64 y1, .int .i64 y2, .slice ya yn yc], .bool fl]) rfl inv (by kernel_rfl) (by kernel_rfl) (by decide) (by decide) (by kernel_rfl) (by kernel_rfl) (by kernel_rfl) (fun _ _ _ h => h) (Or.inl ⟨by rfl, fun w' hw' => ?_⟩) (HS.out _ HBK5.out) (fun inv => ?_)
              · obtain ⟨h0, h1, h2, h3⟩ := hw'
                go_simp
              try simp only [Act.put, List.setIfInBounds_toArray, List.set_cons_zero, List.set_cons_succ]
              refine wpU_take (i := 15) (v := .agg #[.int .i64 y0, .int .i64 y1, .int .i64 y2, .slice ya yn yc]) rfl inv (by kernel_rfl) (by kernel_rfl) (by decide) (by decide) (by kernel_rfl) (by kernel_rfl) (by kernel_rfl) (fun _ _ _ h => h) (Or.inl ⟨by rfl, fun w' hw' => ?_⟩) (HS.out _ HBK5.out) (fun inv => ?_)
              · obtain ⟨h0, h1, h2, h3⟩ := hw'
                go_simp
              try simp only [Act.put, List.setIfInBounds_toArray, List.set_cons_zero, List.set_cons_succ]
              refine wpU_take (i := 16) (v := .bool fl) rfl inv (by kernel_rfl) (by kernel_rfl) (by decide) (by decide) (by kernel_rfl) (by kernel_rfl) (by kernel_rfl) (fun _ _ _ h => h) (Or.inl ⟨by rfl, fun w' hw' => ?_⟩) (HS.out _ HBK5.out) (fun inv => ?_)
              · obtain ⟨h0, h1, h2, h3⟩ := hw'
                go_simp
              try simp only [Act.put, List.setIfInBounds_toArray, List.set_cons_zero, List.set_cons_succ]
              have hq17 := bx_cells4 F17.out
              obtain ⟨z0, z1, z2, z3⟩ := bx_cells4 F17.out
              obtain ⟨f0, f1, f2, f3⟩ := bx_free4 F17.out
              clear hq17
              refine wpU_one (i := 18) (by kernel_rfl) rfl (fun K hK => ?_)
              replace inv := inv_setc (i := 18) inv (by kernel_rfl) (by decide)
              go_simp
              obtain ⟨wz, HWZ⟩ := nameIt ((((wk5.setCell ⟨q17, 0, none⟩ (.int .i64 y0)).setCell ⟨q17, 1, none⟩ (.int .i64 y1)).setCell ⟨q17, 2, none⟩ (.int .i64 y2)).setCell ⟨q17, 3, none⟩ (.slice ya yn yc))
              have HBZ : Hid (Below wr.heap.size wr wz) := by rw [← HWZ.out]; exact below_box4 HBK5.out HQ17.out _ _ _ _
              have HXZ : Hid (wz.heap[q17]? = some (.cells #[.int .i64 y0, .int .i64 y1, .int .i64 y2, .slice ya yn yc] 25 (0, 0))) := by rw [← HWZ.out]; exact set4 F17.out _ _ _ _
              have HOZ : Hid (OfR fit m (L.drop i1) (p ++ [(⟨lf, RL⟩ : Rule)]) T N (fun k => X k ∨ k = rb ∨ k = q17) y0 y1 y2 ya yn yc fl wz) := by rw [← HWZ.out]; exact HOR.out.box4 (.inr (.inr rfl)) _ _ _ _
              rw [HWZ.out]
              clear z0 z1 z2 z3 f0 f1 f2 f3
              refine hK.out _ _ (fun _ => HS.out _ HBZ.out) ?_
              clear hK K
              try simp only [Act.put, List.setIfInBounds_toArray, List.set_cons_zero, List.set_cons_succ]
              refine wpU_one (i := 19) (by kernel_rfl) rfl (fun K hK => ?_)
              go_simp
              refine hK.out _ _ (fun h => absurd (show true = false from h) (by decide)) ?_
              clear hK K
              try simp only [Act.put, List.setIfInBounds_toArray, List.set_cons_zero, List.set_cons_succ]
              refine wpU_done (by kernel_rfl) ?_ _
              go_wp2_with fail
              go_meet
              exact ⟨q17, y0, y1, y2, ya, yn, yc, fl, rfl, rfl, HOZ, HXZ, HBZ, HQ17⟩
          · replace inv := inv_setc (i := 17) inv (by kernel_rfl) (by decide)
            go_simp
            have hbk : Below wk1.heap.size wk1 (wk1.alloc (.cells #[.int .i64 0, .int .i64 0, .int .i64 0, .slice none 0 0] 25)) := (Below.refl _ _).alloc (Nat.le_refl _) _
            have F17 : Hid ((wk1.alloc (.cells #[.int .i64 0, .int .i64 0, .int .i64 0, .slice none 0 0] 25)).heap[wk1.heap.size]? = some (.cells #[.int .i64 0, .int .i64 0, .int .i64 0, .slice none 0 0] 25 (0, 0))) := bx_new _ _ _ rfl
            obtain ⟨wk2, HWK2⟩ := nameIt (wk1.alloc (.cells #[.int .i64 0, .int .i64 0, .int .i64 0, .slice none 0 0] 25))
            rw [HWK2.out] at hbk F17
            rw [HWK2.out]
            have HBK2 : Hid (Below wr.heap.size wr wk2) := HBK1.out.trans (hbk.mono HBK1.out.size)
            have HNE : Hid (∀ k, (Value.slice ac pl cc).ownBlock = some k → k ≠ wk1.heap.size) := fun k e => by have h1 := (HROW.out.form.choose_spec.choose_spec.2.2.2 k e).2; omega
            replace HROW := Lib.hid (HROW.out.keep hbk)
            have HQ17 : Hid (wr.heap.size ≤ wk1.heap.size) := HBK1.out.size
            obtain ⟨q17, HQN2⟩ := nameIt wk1.heap.size
            rw [HQN2.out] at F17 HQ17 HNE
            rw [HQN2.out]
            clear hbk HWK2
            refine hK.out _ _ (fun _ => HS.out _ HBK2.out) ?_
            clear hK K
            try simp only [Act.put, List.setIfInBounds_toArray, List.set_cons_zero, List.set_cons_succ]
            refine wpU_one (i := 11) (by kernel_rfl) rfl (fun K hK => ?_)
            replace inv := inv_setc (i := 11) inv (by kernel_rfl) (by decide)
            go_simp
            have hbk : Below wk2.heap.size wk2 (wk2.alloc (.cells #[.int .i64 lf, .slice ra rn rc] 32)) := (Below.refl _ _).alloc (Nat.le_refl _) _
            have F11 : Hid ((wk2.alloc (.cells #[.int .i64 lf, .slice ra rn rc] 32)).heap[wk2.heap.size]? = some (.cells #[.int .i64 lf, .slice ra rn rc] 32 (0, 0))) := bx_new _ _ _ rfl
            obtain ⟨wk3, HWK3⟩ := nameIt (wk2.alloc (.cells #[.int .i64 lf, .slice ra rn rc] 32))
            rw [HWK3.out] at hbk F11
            rw [HWK3.out]
            have HBK3 : Hid (Below wr.heap.size wr wk3) := HBK2.out.trans (hbk.mono HBK2.out.size)
            replace HROW := Lib.hid (HROW.out.keep hbk)
            replace F17 := Lib.hid (bx_keep F17.out hbk)
            obtain ⟨q11, HQN3⟩ := nameIt wk2.heap.size
            rw [HQN3.out] at F11
            rw [HQN3.out]
            clear hbk HWK3
            refine hK.out _ _ (fun _ => HS.out _ HBK3.out) ?_
            clear hK K
            try simp only [Act.put, List.setIfInBounds_toArray, List.set_cons_zero, List.set_cons_succ]
            refine wpU_one (i := 12) (by kernel_rfl) rfl (fun K hK => ?_)
            replace inv := inv_setc (i := 12) inv (by kernel_rfl) (by decide)
            obtain ⟨⟨xs, ho, hd⟩, hle⟩ := HROW.out
            rw [List.length_map, HPL.out] at ho
            refine step_appB elRule (by rfl) _ _ (by rfl) ho (by rfl) (by rfl) F11.out (by rfl) (by rfl) (by omega) (by unfold maxLen; omega) hle ?_
            intro g4 c4 wk4 ho4 hg4 hat4 hlt4
            have HBK4 : Hid (Below wr.heap.size wr wk4) := HBK3.out.grown hg4 HBK3.out.size (fun k e => (ho.lt k e).1)
            have HROW2 : Hid (RowD (fun k => ¬ X k ∧ k < rb) wr.heap.size 32 2 (p.map Rule.d ++ [Rule.d ⟨lf, RL⟩]) (.slice (some ⟨g4, 0, none⟩) (pl + 1) c4) wk4) := RowD.step ho hd (by rw [List.length_map]; exact HPL.out.symm) (T := fun k => k < w0.heap.size) (RdAll.one (rd_rule (r := ⟨lf, RL⟩) (HRR.out _ HBK3.out))) (fun k hk _ => ⟨⟨fun h => by have := (HX.out k h).1; omega, by omega⟩, fun e => by have := (ho.lt k e).1; omega⟩) hle ho4 hg4 (by rcases hat4 with e | e; exact .inl (by rw [e]; rfl); exact .inr ⟨g4, rfl, by omega⟩)
            have HNG : Hid (g4 ≠ q17) := fun e => by rcases hat4 with h | h; exact HNE.out g4 h e; have := bx_lt F17.out; omega
            replace F17 := Lib.hid ((hg4.block q17 (bx_lt F17.out) (fun e => (HNE.out q17 e.symm) rfl)).trans F17.out)
            clear HNE
            clear ho hd hle ho4 hg4 hat4 hlt4 HROW F11
            refine hK.out _ _ (fun _ => HS.out _ HBK4.out) ?_
            clear hK K
            try simp only [Act.put, List.setIfInBounds_toArray, List.set_cons_zero, List.set_cons_succ]
            refine wpU_one (i := 13) (by kernel_rfl) rfl (fun K hK => ?_)
            replace inv := inv_setc (i := 13) inv (by kernel_rfl) (by decide)
            go_simp
            have hxx : ∀ k, (fun k => X k ∨ k = rb ∨ k = q17) k → w0.heap.size ≤ k ∧ k < wk4.heap.size := fun k h => by have hz := HBK4.out.size; have hz2 := bx_lt F17.out; have hz3 := HQ17.out; rcases h with h | h | h; (have := HX.out k h; omega); omega; omega
            have HRD2 : Hid (Rd (fun k => ¬ (fun k => X k ∨ k = rb ∨ k = q17) k) wk4 (.sl ((p ++ [(⟨lf, RL⟩ : Rule)]).map Rule.d)) [.slice (some ⟨g4, 0, none⟩) p1 c4]) := by
              obtain ⟨⟨xs, ho, hd⟩, hle⟩ := HROW2.out
              rw [List.map_append, ← HP1.out]
              refine rd_of_own ho (hd.mono fun k hk _ h => ?_) rfl (fun k e h => ?_)
              · rcases h with h | h | h; exact hk.1.1 h; (have := hk.1.2; omega); (have h1 := hk.1.2; have h2 := HQ17.out; omega)
              · have hl := (ho.lt k e).1; rcases h with h | h | h; (have := HX.out k h; omega); omega; (simp [Value.ownBlock] at e; exact HNG.out (e.trans h))
            rw [HP1.out]
            with_reducible refine (HIH.out (fun k => X k ∨ k = rb ∨ k = q17) _ _ wk4 hxx HBK4.out HRD2.out).mono ?_
            rintro e wk5 ⟨y0, y1, y2, ya, yn, yc, fl, rfl, hor, hbk⟩
            have HBK5 : Hid (Below wr.heap.size wr wk5) := HBK4.out.trans (hbk.mono HBK4.out.size)
            have HOR := Lib.hid hor
            clear hxx
            replace F17 := Lib.hid (bx_keep F17.out hbk)
            clear hor hbk HROW2 HRD2 HNG
            refine hK.out _ _ (fun _ => HS.out _ HBK5.out) ?_
            clear hK K
            try simp only [Act.put, List.setIfInBounds_toArray, List.set_cons_zero, List.set_cons_succ]
            refine wpU_take (i := 14) (v := .tuple #[.agg #[.int .i64 y0, .int .i64 y1, .int .i64 y2, .slice ya yn yc], .bool fl]) rfl inv (by kernel_rfl) (by kernel_rfl) (by decide) (by decide) (by kernel_rfl) (by kernel_rfl) (by kernel_rfl) (fun _ _ _ h => h) (Or.inl ⟨by rfl, fun w' hw' => ?_⟩) (HS.out _ HBK5.out) (fun inv => ?_)
            · obtain ⟨h0, h1, h2, h3⟩ := hw'
              go_simp
            try simp only [Act.put, List.setIfInBounds_toArray, List.set_cons_zero, List.set_cons_succ]
            refine wpU_take (i := 15) (v := .agg #[.int .i64 y0, .int .i64 y1, .int .i64 y2, .slice ya yn yc]) rfl inv (by kernel_rfl) (by kernel_rfl) (by decide) (by decide) (by kernel_rfl) (by kernel_rfl) (by kernel_rfl) (fun _ _ _ h => h) (Or.inl ⟨by rfl, fun w' hw' => ?_⟩) (HS.out _ HBK5.out) (fun inv => ?_)
            · obtain ⟨h0, h1, h2, h3⟩ := hw'
              go_simp
            try simp only [Act.put, List.setIfInBounds_toArray, List.set_cons_zero, List.set_cons_succ]
            refine wpU_take (i := 16) (v := .bool fl) rfl inv (by kernel_rfl) (by kernel_rfl) (by decide) (by decide) (by kernel_rfl) (by kernel_rfl) (by kernel_rfl) (fun _ _ _ h => h) (Or.inl ⟨by rfl, fun w' hw' => ?_⟩) (HS.out _ HBK5.out) (fun inv => ?_)
            · obtain ⟨h0, h1, h2, h3⟩ := hw'
              go_simp
            try simp only [Act.put, List.setIfInBounds_toArray, List.set_cons_zero, List.set_cons_succ]
            have hq17 := bx_cells4 F17.out
            obtain ⟨z0, z1, z2, z3⟩ := bx_cells4 F17.out
            obtain ⟨f0, f1, f2, f3⟩ := bx_free4 F17.out
            clear hq17
            refine wpU_one (i := 18) (by kernel_rfl) rfl (fun K hK => ?_)
            replace inv := inv_setc (i := 18) inv (by kernel_rfl) (by decide)
            go_simp
            obtain ⟨wz, HWZ⟩ := nameIt ((((wk5.setCell ⟨q17, 0, none⟩ (.int .i64 y0)).setCell ⟨q17, 1, none⟩ (.int .i64 y1)).setCell ⟨q17, 2, none⟩ (.int .i64 y2)).setCell ⟨q17, 3, none⟩ (.slice ya yn yc))
            have HBZ : Hid (Below wr.heap.size wr wz) := by rw [← HWZ.out]; exact below_box4 HBK5.out HQ17.out _ _ _ _
            have HXZ : Hid (wz.heap[q17]? = some (.cells #[.int .i64 y0, .int .i64 y1, .int .i64 y2, .slice ya yn yc] 25 (0, 0))) := by rw [← HWZ.out]; exact set4 F17.out _ _ _ _
            have HOZ : Hid (OfR fit m (L.drop i1) (p ++ [(⟨lf, RL⟩ : Rule)]) T N (fun k => X k ∨ k = rb ∨ k = q17) y0 y1 y2 ya yn yc fl wz) := by rw [← HWZ.out]; exact HOR.out.box4 (.inr (.inr rfl)) _ _ _ _
            rw [HWZ.out]
            clear z0 z1 z2 z3 f0 f1 f2 f3
            refine hK.out _ _ (fun _ => HS.out _ HBZ.out) ?_
            clear hK K
            try simp only [Act.put, List.setIfInBounds_toArray, List.set_cons_zero, List.set_cons_succ]
            refine wpU_one (i := 19) (by kernel_rfl) rfl (fun K hK => ?_)
            go_simp
            refine hK.out _ _ (fun h => absurd (show true = false from h) (by decide)) ?_
            clear hK K
            try simp only [Act.put, List.setIfInBounds_toArray, List.set_cons_zero, List.set_cons_succ]
            refine wpU_done (by kernel_rfl) ?_ _
            go_wp2_with fail
            go_meet
            exact ⟨q17, y0, y1, y2, ya, yn, yc, fl, rfl, rfl, HOZ, HXZ, HBZ, HQ17⟩
        · replace inv := inv_setc (i := 11) inv (by kernel_rfl) (by decide)
          go_simp
          have hbk : Below wd.heap.size wd (wd.alloc (.cells #[.int .i64 lf, .slice ra rn rc] 32)) := (Below.refl _ _).alloc (Nat.le_refl _) _
          have F11 : Hid ((wd.alloc (.cells #[.int .i64 lf, .slice ra rn rc] 32)).heap[wd.heap.size]? = some (.cells #[.int .i64 lf, .slice ra rn rc] 32 (0, 0))) := bx_new _ _ _ rfl
          obtain ⟨wk1, HWK1⟩ := nameIt (wd.alloc (.cells #[.int .i64 lf, .slice ra rn rc] 32))
          rw [HWK1.out] at hbk F11
          rw [HWK1.out]
          have HBK1 : Hid (Below wr.heap.size wr wk1) := HBD.out.trans (hbk.mono HBD.out.size)
          obtain ⟨q11, HQN1⟩ := nameIt wd.heap.size
          rw [HQN1.out] at F11
          rw [HQN1.out]
          clear hbk HWK1
          refine hK.out _ _ (fun _ => HS.out _ HBK1.out) ?_
          clear hK K
          try simp only [Act.put, List.setIfInBounds_toArray, List.set_cons_zero, List.set_cons_succ]
          refine wpU_two (i := 6) (j := 17) (by kernel_rfl) rfl rfl (fun K hK => ?_) (fun K hK => ?_) 
          · replace inv := inv_setc (i := 6) inv (by kernel_rfl) (by decide)
            go_simp
            with_reducible refine (HCL.out wk1 HBK1.out).mono ?_
            rintro e wk2 ⟨ac, cc, rfl, hrow, hbk⟩
            rw [HPL.out] at hrow
            rw [HPL.out]
            have HBK2 : Hid (Below wr.heap.size wr wk2) := HBK1.out.trans (hbk.mono HBK1.out.size)
            have HROW : Hid (RowD (fun k => ¬ X k ∧ k < rb) wr.heap.size 32 2 (p.map Rule.d) (.slice ac pl cc) wk2) := hrow.lower HBK1.out.size
            replace F11 := Lib.hid (bx_keep F11.out hbk)
            clear hrow hbk
            refine hK.out _ _ (fun _ => HS.out _ HBK2.out) ?_
            clear hK K
            try simp only [Act.put, List.setIfInBounds_toArray, List.set_cons_zero, List.set_cons_succ]
            refine wpU_two (i := 12) (j := 17) (by kernel_rfl) rfl rfl (fun K hK => ?_) (fun K hK => ?_) 
            · replace inv := inv_setc (i := 12) inv (by kernel_rfl) (by decide)
              obtain ⟨⟨xs, ho, hd⟩, hle⟩ := HROW.out
              rw [List.length_map, HPL.out] at ho
              refine step_appB elRule (by rfl) _ _ (by rfl) ho (by rfl) (by rfl) F11.out (by rfl) (by rfl) (by omega) (by unfold maxLen; omega) hle ?_
              intro g4 c4 wk3 ho4 hg4 hat4 hlt4
              have HBK3 : Hid (Below wr.heap.size wr wk3) := HBK2.out.grown hg4 HBK2.out.size (fun k e => (ho.lt k e).1)
              have HROW2 : Hid (RowD (fun k => ¬ X k ∧ k < rb) wr.heap.size 32 2 (p.map Rule.d ++ [Rule.d ⟨lf, RL⟩]) (.slice (some ⟨g4, 0, none⟩) (pl + 1) c4) wk3) := RowD.step ho hd (by rw [List.length_map]; exact HPL.out.symm) (T := fun k => k < w0.heap.size) (RdAll.one (rd_rule (r := ⟨lf, RL⟩) (HRR.out _ HBK2.out))) (fun k hk _ => ⟨⟨fun h => by have := (HX.out k h).1; omega, by omega⟩, fun e => by have := (ho.lt k e).1; omega⟩) hle ho4 hg4 (by rcases hat4 with e | e; exact .inl (by rw [e]; rfl); exact .inr ⟨g4, rfl, by omega⟩)
              clear ho hd hle ho4 hg4 hat4 hlt4 HROW F11
              refine hK.out _ _ (fun _ => HS.out _ HBK3.out) ?_
              clear hK K
              try simp only [Act.put, List.setIfInBounds_toArray, List.set_cons_zero, List.set_cons_succ]
              refine wpU_two (i := 13) (j := 17) (by kernel_rfl) rfl rfl (fun K hK => ?_) (fun K hK => ?_) 
              · replace inv := inv_setc (i := 13) inv (by kernel_rfl) (by decide)
                go_simp
                have hxx : ∀ k, (fun k => X k ∨ k = rb) k → w0.heap.size ≤ k ∧ k < wk3.heap.size := fun k h => by have hz := HBK3.out.size; rcases h with h | h; (have := HX.out k h; omega); omega
                have HRD2 : Hid (Rd (fun k => ¬ (fun k => X k ∨ k = rb) k) wk3 (.sl ((p ++ [(⟨lf, RL⟩ : Rule)]).map Rule.d)) [.slice (some ⟨g4, 0, none⟩) p1 c4]) := by
                  obtain ⟨⟨xs, ho, hd⟩, hle⟩ := HROW2.out
                  rw [List.map_append, ← HP1.out]
                  refine rd_of_own ho (hd.mono fun k hk _ h => ?_) rfl (fun k e h => ?_)
                  · rcases h with h | h; exact hk.1.1 h; (have := hk.1.2; omega)
                  · have hl := (ho.lt k e).1; rcases h with h | h; (have := HX.out k h; omega); omega
                rw [HP1.out]
                with_reducible refine (HIH.out (fun k => X k ∨ k = rb) _ _ wk3 hxx HBK3.out HRD2.out).mono ?_
                rintro e wk4 ⟨y0, y1, y2, ya, yn, yc, fl, rfl, hor, hbk⟩
                have HBK4 : Hid (Below wr.heap.size wr wk4) := HBK3.out.trans (hbk.mono HBK3.out.size)
                have HOR := Lib.hid hor
                clear hxx
                clear hor hbk HROW2 HRD2
                refine hK.out _ _ (fun _ => HS.out _ HBK4.out) ?_
                clear hK K
                try simp only [Act.put, List.setIfInBounds_toArray, List.set_cons_zero, List.set_cons_succ]
                refine wpU_take (i := 14) (v := .tuple #[.agg #[.int .i64 y0, .int .i64 y1, .int .i64 y2, .slice ya yn yc], .bool fl]) rfl inv (by kernel_rfl) (by kernel_rfl) (by decide) (by decide) (by kernel_rfl) (by kernel_rfl) (by kernel_rfl) (fun _ _ _ h => h) (Or.inl ⟨by rfl, fun w' hw' => ?_⟩) (HS.out _ HBK4.out) (fun inv => ?_)
                · obtain ⟨h0, h1, h2, h3⟩ := hw'
                  go_simp
                try simp only [Act.put, List.setIfInBounds_toArray, List.set_cons_zero, List.set_cons_succ]
                refine wpU_take (i := 15) (v := .agg #[.int .i64 y0, .int .i64 y1, .int .i64 y2, .slice ya yn yc]) rfl inv (by kernel_rfl) (by kernel_rfl) (by decide) (by decide) (by kernel_rfl) (by kernel_rfl) (by kernel_rfl) (fun _ _ _ h => h) (Or.inl ⟨by rfl, fun w' hw' => ?_⟩) (HS.out _ HBK4.out) (fun inv => ?_)
                · obtain ⟨h0, h1, h2, h3⟩ := hw'
                  go_simp
                try simp only [Act.put, List.setIfInBounds_toArray, List.set_cons_zero, List.set_cons_succ]
                refine wpU_take (i := 16) (v := .bool fl) rfl inv (by kernel_rfl) (by kernel_rfl) (by decide) (by decide) (by kernel_rfl) (by kernel_rfl) (by kernel_rfl) (fun _ _ _ h => h) (Or.inl ⟨by rfl, fun w' hw' => ?_⟩) (HS.out _ HBK4.out) (fun inv => ?_)
                · obtain ⟨h0, h1, h2, h3⟩ := hw'
                  go_simp
                try simp only [Act.put, List.setIfInBounds_toArray, List.set_cons_zero, List.set_cons_succ]
                refine wpU_one (i := 17) (by kernel_rfl) rfl (fun K hK => ?_)
                replace inv := inv_setc (i := 17) inv (by kernel_rfl) (by decide)
                go_simp
                have hbk : Below wk4.heap.size wk4 (wk4.alloc (.cells #[.int .i64 0, .int .i64 0, .int .i64 0, .slice none 0 0] 25)) := (Below.refl _ _).alloc (Nat.le_refl _) _
                have F17 : Hid ((wk4.alloc (.cells #[.int .i64 0, .int .i64 0, .int .i64 0, .slice none 0 0] 25)).heap[wk4.heap.size]? = some (.cells #[.int .i64 0, .int .i64 0, .int .i64 0, .slice none 0 0] 25 (0, 0))) := bx_new _ _ _ rfl
                obtain ⟨wk5, HWK5⟩ := nameIt (wk4.alloc (.cells #[.int .i64 0, .int .i64 0, .int .i64 0, .slice none 0 0] 25))
                rw [HWK5.out] at hbk F17
                rw [HWK5.out]
                have HBK5 : Hid (Below wr.heap.size wr wk5) := HBK4.out.trans (hbk.mono HBK4.out.size)
                replace HOR : Hid (OfR fit m (L.drop i1) (p ++ [(⟨lf, RL⟩ : Rule)]) T N (fun k => X k ∨ k = rb ∨ k = wk4.heap.size) y0 y1 y2 ya yn yc fl wk5) := (HOR.out.mono (X' := fun k => X k ∨ k = rb ∨ k = wk4.heap.size) (fun k hk => by rcases hk with h | h | h; exact .inl (.inl h); exact .inl (.inr h); exact .inr (Nat.le_of_eq h.symm))).keep hbk
                have HQ17 : Hid (wr.heap.size ≤ wk4.heap.size) := HBK4.out.size
                obtain ⟨q17, HQN5⟩ := nameIt wk4.heap.size
                rw [HQN5.out] at F17 HQ17 HOR
                rw [HQN5.out]
                clear hbk HWK5
                refine hK.out _ _ (fun _ => HS.out _ HBK5.out) ?_
                clear hK K
                try simp only [Act.put, List.setIfInBounds_toArray, List.set_cons_zero, List.set_cons_succ]
                have hq17 := bx_cells4 F17.out
                obtain ⟨z0, z1, z2, z3⟩ := bx_cells4 F17.out
                obtain ⟨f0, f1, f2, f3⟩ := bx_free4 F17.out
                clear hq17
                refine wpU_one (i := 18) (by kernel_rfl) rfl (fun K hK => ?_)
                replace inv := inv_setc (i := 18) inv (by kernel_rfl) (by decide)
                go_simp
                obtain ⟨wz, HWZ⟩ := nameIt ((((wk5.setCell ⟨q17, 0, none⟩ (.int .i64 y0)).setCell ⟨q17, 1, none⟩ (.int .i64 y1)).setCell ⟨q17, 2, none⟩ (.int .i64 y2)).setCell ⟨q17, 3, none⟩ (.slice ya yn yc))
                have HBZ : Hid (Below wr.heap.size wr wz) := by rw [← HWZ.out]; exact below_box4 HBK5.out HQ17.out _ _ _ _
                have HXZ : Hid (wz.heap[q17]? = some (.cells #[.int .i64 y0, .int .i64 y1, .int .i64 y2, .slice ya yn yc] 25 (0, 0))) := by rw [← HWZ.out]; exact set4 F17.out _ _ _ _
                have HOZ : Hid (OfR fit m (L.drop i1) (p ++ [(⟨lf, RL⟩ : Rule)]) T N (fun k => X k ∨ k = rb ∨ k = q17) y0 y1 y2 ya yn yc fl wz) := by rw [← HWZ.out]; exact HOR.out.box4 (.inr (.inr rfl)) _ _ _ _
                rw [HWZ.out]
                clear z0 z1 z2 z3 f0 f1 f2 f3
                refine hK.out _ _ (fun _ => HS.out _ HBZ.out) ?_
                clear hK K
                try simp only [Act.put, List.setIfInBounds_toArray, List.set_cons_zero, List.set_cons_succ]
                refine wpU_one (i := 19) (by kernel_rfl) rfl (fun K hK => ?_)
                go_simp
                refine hK.out _ _ (fun h => absurd (show true = false from h) (by decide)) ?_
                clear hK K
                try simp only [Act.put, List.setIfInBounds_toArray, List.set_cons_zero, List.set_cons_succ]
                refine wpU_done (by kernel_rfl) ?_ _
                go_wp2_with fail
                go_meet
                exact ⟨q17, y0, y1, y2, ya, yn, yc, fl, rfl, rfl, HOZ, HXZ, HBZ, HQ17⟩
              · replace inv := inv_setc (i := 17) inv (by kernel_rfl) (by decide)
                go_simp
                have hbk : Below wk3.heap.size wk3 (wk3.alloc (.cells #[.int .i64 0, .int .i64 0, .int .i64 0, .slice none 0 0] 25)) := (Below.refl _ _).alloc (Nat.le_refl _) _
                have F17 : Hid ((wk3.alloc (.cells #[.int .i64 0, .int .i64 0, .int .i64 0, .slice none 0 0] 25)).heap[wk3.heap.size]? = some (.cells #[.int .i64 0, .int .i64 0, .int .i64 0, .slice none 0 0] 25 (0, 0))) := bx_new _ _ _ rfl
                obtain ⟨wk4, HWK4⟩ := nameIt (wk3.alloc (.cells #[.int .i64 0, .int .i64 0, .int .i64 0, .slice none 0 0] 25))
                rw [HWK4.out] at hbk F17
                rw [HWK4.out]
                have HBK4 : Hid (Below wr.heap.size wr wk4) := HBK3.out.trans (hbk.mono HBK3.out.size)
                have HNG : Hid (g4 ≠ wk3.heap.size) := fun e => by have h1 := (HROW2.out.form.choose_spec.choose_spec.2.2.2 g4 rfl).2; omega
                replace HROW2 := Lib.hid (HROW2.out.keep hbk)
                have HQ17 : Hid (wr.heap.size ≤ wk3.heap.size) := HBK3.out.size
                obtain ⟨q17, HQN4⟩ := nameIt wk3.heap.size
                rw [HQN4.out] at F17 HQ17 HNG
                rw [HQN4.out]
                clear hbk HWK4
                refine hK.out _ _ (fun _ => HS.out _ HBK4.out) ?_
                clear hK K
                try simp only [Act.put, List.setIfInBounds_toArray, List.set_cons_zero, List.set_cons_succ]
                refine wpU_one (i := 13) (by kernel_rfl) rfl (fun K hK => ?_)
                replace inv := inv_setc (i := 13) inv (by kernel_rfl) (by decide)
                go_simp
                have hxx : ∀ k, (fun k => X k ∨ k = rb ∨ k = q17) k → w0.heap.size ≤ k ∧ k < wk4.heap.size := fun k h => by have hz := HBK4.out.size; have hz2 := bx_lt F17.out; have hz3 := HQ17.out; rcases h with h | h | h; (have := HX.out k h; omega); omega; omega
                have HRD2 : Hid (Rd (fun k => ¬ (fun k => X k ∨ k = rb ∨ k = q17) k) wk4 (.sl ((p ++ [(⟨lf, RL⟩ : Rule)]).map Rule.d)) [.slice (some ⟨g4, 0, none⟩) p1 c4]) := by
                  obtain ⟨⟨xs, ho, hd⟩, hle⟩ := HROW2.out
                  rw [List.map_append, ← HP1.out]
                  refine rd_of_own ho (hd.mono fun k hk _ h => ?_) rfl (fun k e h => ?_)
                  · rcases h with h | h | h; exact hk.1.1 h; (have := hk.1.2; omega); (have h1 := hk.1.2; have h2 := HQ17.out; omega)
                  · have hl := (ho.lt k e).1; rcases h with h | h | h; (have := HX.out k h; omega); omega; (simp [Value.ownBlock] at e; exact HNG.out (e.trans h))
                rw [HP1.out]
                with_reducible refine (HIH.out (fun k => X k ∨ k = rb ∨ k = q17) _ _ wk4 hxx HBK4.out HRD2.out).mono ?_
                rintro e wk5 ⟨y0, y1, y2, ya, yn, yc, fl, rfl, hor, hbk⟩
                have HBK5 : Hid (Below wr.heap.size wr wk5) := HBK4.out.trans (hbk.mono HBK4.out.size)
                have HOR := Lib.hid hor
                clear hxx
                replace F17 := Lib.hid (bx_keep F17.out hbk)
                clear hor hbk HROW2 HRD2 HNG
                refine hK.out _ _ (fun _ => HS.out _ HBK5.out) ?_
                clear hK K
                try simp only [Act.put, List.setIfInBounds_toArray, List.set_cons_zero, List.set_cons_succ]
                refine wpU_take (i := 14) (v := .tuple #[.agg #[.int .i64 y0, .int .i64 y1, .int .i64 y2, .slice ya yn yc], .bool fl]) rfl inv (by kernel_rfl) (by kernel_rfl) (by decide) (by decide) (by kernel_rfl) (by kernel_rfl) (by kernel_rfl) (fun _ _ _ h => h) (Or.inl ⟨by rfl, fun w' hw' => ?_⟩) (HS.out _ HBK5.out) (fun inv => ?_)
                · obtain ⟨h0, h1, h2, h3⟩ := hw'
                  go_simp
                try simp only [Act.put, List.setIfInBounds_toArray, List.set_cons_zero, List.set_cons_succ]
                refine wpU_take (i := 15) (v := .agg #[.int .i64 y0, .int .i64 y1, .int .i64 y2, .slice ya yn yc]) rfl inv (by kernel_rfl) (by kernel_rfl) (by decide) (by decide) (by kernel_rfl) (by kernel_rfl) (by kernel_rfl) (fun _ _ _ h => h) (Or.inl ⟨by rfl, fun w' hw' => ?_⟩) (HS.out _ HBK5.out) (fun inv => ?_)
                · obtain ⟨h0, h1, h2, h3⟩ := hw'
                  go_simp
                try simp only [Act.put, List.setIfInBounds_toArray, List.set_cons_zero, List.set_cons_succ]
                refine wpU_take (i := 16) (v := .bool fl) rfl inv (by kernel_rfl) (by kernel_rfl) (by decide) (by decide) (by kernel_rfl) (by kernel_rfl) (by kernel_rfl) (fun _ _ _ h => h) (Or.inl ⟨by rfl, fun w' hw' => ?_⟩) (HS.out _ HBK5.out) (fun inv => ?_)
                · obtain ⟨h0, h1, h2, h3⟩ := hw'
                  go_simp
                try simp only [Act.put, List.setIfInBounds_toArray, List.set_cons_zero, List.set_cons_succ]
                have hq17 := bx_cells4 F17.out
                obtain ⟨z0, z1, z2, z3⟩ := bx_cells4 F17.out
                obtain ⟨f0, f1, f2, f3⟩ := bx_free4 F17.out
                clear hq17
                refine wpU_one (i := 18) (by kernel_rfl) rfl (fun K hK => ?_)
                replace inv := inv_setc (i := 18) inv (by kernel_rfl) (by decide)
                go_simp
                obtain ⟨wz, HWZ⟩ := nameIt ((((wk5.setCell ⟨q17, 0, none⟩ (.int .i64 y0)).setCell ⟨q17, 1, none⟩ (.int .i64 y1)).setCell ⟨q17, 2, none⟩ (.int .i64 y2)).setCell ⟨q17, 3, none⟩ (.slice ya yn yc))
                have HBZ : Hid (Below wr.heap.size wr wz) := by rw [← HWZ.out]; exact below_box4 HBK5.out HQ17.out _ _ _ _
                have HXZ : Hid (wz.heap[q17]? = some (.cells #[.int .i64 y0, .int .i64 y1, .int .i64 y2, .slice ya yn yc] 25 (0, 0))) := by rw [← HWZ.out]; exact set4 F17.out _ _ _ _
                have HOZ : Hid (OfR fit m (L.drop i1) (p ++ [(⟨lf, RL⟩ : Rule)]) T N (fun k => X k ∨ k = rb ∨ k = q17) y0 y1 y2 ya yn yc fl wz) := by rw [← HWZ.out]; exact HOR.out.box4 (.inr (.inr rfl)) _ _ _ _
                rw [HWZ.out]
                clear z0 z1 z2 z3 f0 f1 f2 f3
                refine hK.out _ _ (fun _ => HS.out _ HBZ.out) ?_
                clear hK K
                try simp only [Act.put, List.setIfInBounds_toArray, List.set_cons_zero, List.set_cons_succ]
                refine wpU_one (i := 19) (by kernel_rfl) rfl (fun K hK => ?_)
                go_simp
                refine hK.out _ _ (fun h => absurd (show true = false from h) (by decide)) ?_
                clear hK K
                try simp only [Act.put, List.setIfInBounds_toArray, List.set_cons_zero, List.set_cons_succ]
                refine wpU_done (by kernel_rfl) ?_ _
                go_wp2_with fail
                go_meet
                exact ⟨q17, y0, y1, y2, ya, yn, yc, fl, rfl, rfl, HOZ, HXZ, HBZ, HQ17⟩
            · replace inv := inv_setc (i := 17) inv (by kernel_rfl) (by decide)
              go_simp
              have hbk : Below wk2.heap.size wk2 (wk2.alloc (.cells #[.int .i64 0, .int .i64 0, .int .i64 0, .slice none 0 0] 25)) := (Below.refl _ _).alloc (Nat.le_refl _) _
              have F17 : Hid ((wk2.alloc (.cells #[.int .i64 0, .int .i64 0, .int .i64 0, .slice none 0 0] 25)).heap[wk2.heap.size]? = some (.cells #[.int .i64 0, .int .i64 0, .int .i64 0, .slice none 0 0] 25 (0, 0))) := bx_new _ _ _ rfl
              obtain ⟨wk3, HWK3⟩ := nameIt (wk2.alloc (.cells #[.int .i64 0, .int .i64 0, .int .i64 0, .slice none 0 0] 25))
              rw [HWK3.out] at hbk F17
              rw [HWK3.out]
              have HBK3 : Hid (Below wr.heap.size wr wk3) := HBK2.out.trans (hbk.mono HBK2.out.size)
              have HNE : Hid (∀ k, (Value.slice ac pl cc).ownBlock = some k → k ≠ wk2.heap.size) := fun k e => by have h1 := (HROW.out.form.choose_spec.choose_spec.2.2.2 k e).2; omega
              replace HROW := Lib.hid (HROW.out.keep hbk)
              replace F11 := Lib.hid (bx_keep F11.out hbk)
              have HQ17 : Hid (wr.heap.size ≤ wk2.heap.size) := HBK2.out.size
              obtain ⟨q17, HQN3⟩ := nameIt wk2.heap.size
              rw [HQN3.out] at F17 HQ17 HNE
              rw [HQN3.out]
              clear hbk HWK3
              refine hK.out _ _ (fun _ => HS.out _ HBK3.out) ?_
              clear hK K
              try simp only [Act.put, List.setIfInBounds_toArray, List.set_cons_zero, List.set_cons_succ]
              refine wpU_one (i := 12) (by kernel_rfl) rfl (fun K hK => ?_)
              replace inv := inv_setc (i := 12) inv (by kernel_rfl) (by decide)
              obtain ⟨⟨xs, ho, hd⟩, hle⟩ := HROW.out
              rw [List.length_map, HPL.out] at ho
              refine step_appB elRule (by rfl) _ _ (by rfl) ho (by rfl) (by rfl) F11.out (by rfl) (by rfl) (by omega) (by unfold maxLen; omega) hle ?_
              intro g4 c4 wk4 ho4 hg4 hat4 hlt4
              have HBK4 : Hid (Below wr.heap.size wr wk4) := HBK3.out.grown hg4 HBK3.out.size (fun k e => (ho.lt k e).1)
              have HROW2 : Hid (RowD (fun k => ¬ X k ∧ k < rb) wr.heap.size 32 2 (p.map Rule.d ++ [Rule.d ⟨lf, RL⟩]) (.slice (some ⟨g4, 0, none⟩) (pl + 1) c4) wk4) := RowD.step ho hd (by rw [List.length_map]; exact HPL.out.symm) (T := fun k => k < w0.heap.size) (RdAll.one (rd_rule (r := ⟨lf, RL⟩) (HRR.out _ HBK3.out))) (fun k hk _ => ⟨⟨fun h => by have := (HX.out k h).1; omega, by omega⟩, fun e => by have := (ho.lt k e).1; omega⟩) hle ho4 hg4 (by rcases hat4 with e | e; exact .inl (by rw [e]; rfl); exact .inr ⟨g4, rfl, by omega⟩)
              have HNG : Hid (g4 ≠ q17) := fun e => by rcases hat4 with h | h; exact HNE.out g4 h e; have := bx_lt F17.out; omega
              replace F17 := Lib.hid ((hg4.block q17 (bx_lt F17.out) (fun e => (HNE.out q17 e.symm) rfl)).trans F17.out)
              clear HNE
              clear ho hd hle ho4 hg4 hat4 hlt4 HROW F11
              refine hK.out _ _ (fun _ => HS.out _ HBK4.out) ?_
              clear hK K
              try simp only [Act.put, List.setIfInBounds_toArray, List.set_cons_zero, List.set_cons_succ]
              refine wpU_one (i := 13) (by kernel_rfl) rfl (fun K hK => ?_)
              replace inv := inv_setc (i := 13) inv (by kernel_rfl) (by decide)
              go_simp
              have hxx : ∀ k, (fun k => X k ∨ k = rb ∨ k = q17) k → w0.heap.size ≤ k ∧ k < wk4.heap.size := fun k h => by have hz := HBK4.out.size; have hz2 := bx_lt F17.out; have hz3 := HQ17.out; rcases h with h | h | h; (have := HX.out k h; omega); omega; omega
              have HRD2 : Hid (Rd (fun k => ¬ (fun k => X k ∨ k = rb ∨ k = q17) k) wk4 (.sl ((p ++ [(⟨lf, RL⟩ : Rule)]).map Rule.d)) [.slice (some ⟨g4, 0, none⟩) p1 c4]) := by
                obtain ⟨⟨xs, ho, hd⟩, hle⟩ := HROW2.out
                rw [List.map_append, ← HP1.out]
                refine rd_of_own ho (hd.mono fun k hk _ h => ?_) rfl (fun k e h => ?_)
                · rcases h with h | h | h; exact hk.1.1 h; (have := hk.1.2; omega); (have h1 := hk.1.2; have h2 := HQ17.out; omega)
                · have hl := (ho.lt k e).1; rcases h with h | h | h; (have := HX.out k h; omega); omega; (simp [Value.ownBlock] at e; exact HNG.out (e.trans h))
              rw [HP1.out]
              with_reducible refine (HIH.out (fun k => X k ∨ k = rb ∨ k = q17) _ _ wk4 hxx HBK4.out HRD2.out).mono ?_
              rintro e wk5 ⟨y0, y1, y2, ya, yn, yc, fl, rfl, hor, hbk⟩
              have HBK5 : Hid (Below wr.heap.size wr wk5) := HBK4.out.trans (hbk.mono HBK4.out.size)
              have HOR := Lib.hid hor
              clear hxx
              replace F17 := Lib.hid (bx_keep F17.out hbk)
              clear hor hbk HROW2 HRD2 HNG
              refine hK.out _ _ (fun _ => HS.out _ HBK5.out) ?_
              clear hK K
              try simp only [Act.put, List.setIfInBounds_toArray, List.set_cons_zero, List.set_cons_succ]
              refine wpU_take (i := 14) (v := .tuple #[.agg #[.int .i64 y0, .int .i64 y1, .int .i64 y2, .slice ya yn yc], .bool fl]) rfl inv (by kernel_rfl) (by kernel_rfl) (by decide) (by decide) (by kernel_rfl) (by kernel_rfl) (by kernel_rfl) (fun _ _ _ h => h) (Or.inl ⟨by rfl, fun w' hw' => ?_⟩) (HS.out _ HBK5.out) (fun inv => ?_)
              · obtain ⟨h0, h1, h2, h3⟩ := hw'
                go_simp
              try simp only [Act.put, List.setIfInBounds_toArray, List.set_cons_zero, List.set_cons_succ]
              refine wpU_take (i := 15) (v := .agg #[.int .i64 y0, .int .i64 y1, .int .i64 y2, .slice ya yn yc]) rfl inv (by kernel_rfl) (by kernel_rfl) (by decide) (by decide) (by kernel_rfl) (by kernel_rfl) (by kernel_rfl) (fun _ _ _ h => h) (Or.inl ⟨by rfl, fun w' hw' => ?_⟩) (HS.out _ HBK5.out) (fun inv => ?_)
              · obtain ⟨h0, h1, h2, h3⟩ := hw'
                go_simp
              try simp only [Act.put, List.setIfInBounds_toArray, List.set_cons_zero, List.set_cons_succ]
              refine wpU_take (i := 16) (v := .bool fl) rfl inv (by kernel_rfl) (by kernel_rfl) (by decide) (by decide) (by kernel_rfl) (by kernel_rfl) (by kernel_rfl) (fun _ _ _ h => h) (Or.inl ⟨by rfl, fun w' hw' => ?_⟩) (HS.out _ HBK5.out) (fun inv => ?_)
              · obtain ⟨h0, h1, h2, h3⟩ := hw'
                go_simp
              try simp only [Act.put, List.setIfInBounds_toArray, List.set_cons_zero, List.set_cons_succ]
              have hq17 := bx_cells4 F17.out
              obtain ⟨z0, z1, z2, z3⟩ := bx_cells4 F17.out
              obtain ⟨f0, f1, f2, f3⟩ := bx_free4 F17.out
              clear hq17
              refine wpU_one (i := 18) (by kernel_rfl) rfl (fun K hK => ?_)
              replace inv := inv_setc (i := 18) inv (by kernel_rfl) (by decide)
              go_simp
              obtain ⟨wz, HWZ⟩ := nameIt ((((wk5.setCell ⟨q17, 0, none⟩ (.int .i64 y0)).setCell ⟨q17, 1, none⟩ (.int .i64 y1)).setCell ⟨q17, 2, none⟩ (.int .i64 y2)).setCell ⟨q17, 3, none⟩ (.slice ya yn yc))
              have HBZ : Hid (Below wr.heap.size wr wz) := by rw [← HWZ.out]; exact below_box4 HBK5.out HQ17.out _ _ _ _
              have HXZ : Hid (wz.heap[q17]? = some (.cells #[.int .i64 y0, .int .i64 y1, .int .i64 y2, .slice ya yn yc] 25 (0, 0))) := by rw [← HWZ.out]; exact set4 F17.out _ _ _ _
              have HOZ : Hid (OfR fit m (L.drop i1) (p ++ [(⟨lf, RL⟩ : Rule)]) T N (fun k => X k ∨ k = rb ∨ k = q17) y0 y1 y2 ya yn yc fl wz) := by rw [← HWZ.out]; exact HOR.out.box4 (.inr (.inr rfl)) _ _ _ _
              rw [HWZ.out]
              clear z0 z1 z2 z3 f0 f1 f2 f3
              refine hK.out _ _ (fun _ => HS.out _ HBZ.out) ?_
              clear hK K
              try simp only [Act.put, List.setIfInBounds_toArray, List.set_cons_zero, List.set_cons_succ]
              refine wpU_one (i := 19) (by kernel_rfl) rfl (fun K hK => ?_)
              go_simp
              refine hK.out _ _ (fun h => absurd (show true = false from h) (by decide)) ?_
              clear hK K
              try simp only [Act.put, List.setIfInBounds_toArray, List.set_cons_zero, List.set_cons_succ]
              refine wpU_done (by kernel_rfl) ?_ _
              go_wp2_with fail
              go_meet
              exact ⟨q17, y0, y1, y2, ya, yn, yc, fl, rfl, rfl, HOZ, HXZ, HBZ, HQ17⟩
          · replace inv := inv_setc (i := 17) inv (by kernel_rfl) (by decide)
            go_simp
            have hbk : Below wk1.heap.size wk1 (wk1.alloc (.cells #[.int .i64 0, .int .i64 0, .int .i64 0, .slice none 0 0] 25)) := (Below.refl _ _).alloc (Nat.le_refl _) _
            have F17 : Hid ((wk1.alloc (.cells #[.int .i64 0, .int .i64 0, .int .i64 0, .slice none 0 0] 25)).heap[wk1.heap.size]? = some (.cells #[.int .i64 0, .int .i64 0, .int .i64 0, .slice none 0 0] 25 (0, 0))) := bx_new _ _ _ rfl
            obtain ⟨wk2, HWK2⟩ := nameIt (wk1.alloc (.cells #[.int .i64 0, .int .i64 0, .int .i64 0, .slice none 0 0] 25))
            rw [HWK2.out] at hbk F17
            rw [HWK2.out]
            have HBK2 : Hid (Below wr.heap.size wr wk2) := HBK1.out.trans (hbk.mono HBK1.out.size)
            replace F11 := Lib.hid (bx_keep F11.out hbk)
            have HQ17 : Hid (wr.heap.size ≤ wk1.heap.size) := HBK1.out.size
            obtain ⟨q17, HQN2⟩ := nameIt wk1.heap.size
            rw [HQN2.out] at F17 HQ17
            rw [HQN2.out]
            clear hbk HWK2
            refine hK.out _ _ (fun _ => HS.out _ HBK2.out) ?_
            clear hK K
            try simp only [Act.put, List.setIfInBounds_toArray, List.set_cons_zero, List.set_cons_succ]
            refine wpU_one (i := 6) (by kernel_rfl) rfl (fun K hK => ?_)
            replace inv := inv_setc (i := 6) inv (by kernel_rfl) (by decide)
            go_simp
            with_reducible refine (HCL.out wk2 HBK2.out).mono ?_
            rintro e wk3 ⟨ac, cc, rfl, hrow, hbk⟩
            rw [HPL.out] at hrow
            rw [HPL.out]
            have HBK3 : Hid (Below wr.heap.size wr wk3) := HBK2.out.trans (hbk.mono HBK2.out.size)
            have HROW : Hid (RowD (fun k => ¬ X k ∧ k < rb) wr.heap.size 32 2 (p.map Rule.d) (.slice ac pl cc) wk3) := hrow.lower HBK2.out.size
            replace F11 := Lib.hid (bx_keep F11.out hbk)
            have HNE : Hid (∀ k, (Value.slice ac pl cc).ownBlock = some k → k ≠ q17) := fun k e => by have h1 := (hrow.form.choose_spec.choose_spec.2.2.2 k e).1; have h2 := bx_lt F17.out; omega
            replace F17 := Lib.hid (bx_keep F17.out hbk)
            clear hrow hbk
            refine hK.out _ _ (fun _ => HS.out _ HBK3.out) ?_
            clear hK K
            try simp only [Act.put, List.setIfInBounds_toArray, List.set_cons_zero, List.set_cons_succ]
            refine wpU_one (i := 12) (by kernel_rfl) rfl (fun K hK => ?_)
            replace inv := inv_setc (i := 12) inv (by kernel_rfl) (by decide)
            obtain ⟨⟨xs, ho, hd⟩, hle⟩ := HROW.out
            rw [List.length_map, HPL.out] at ho
            refine step_appB elRule (by rfl) _ _ (by rfl) ho (by rfl) (by rfl) F11.out (by rfl) (by rfl) (by omega) (by unfold maxLen; omega) hle ?_
            intro g4 c4 wk4 ho4 hg4 hat4 hlt4
            have HBK4 : Hid (Below wr.heap.size wr wk4) := HBK3.out.grown hg4 HBK3.out.size (fun k e => (ho.lt k e).1)
            have HROW2 : Hid (RowD (fun k => ¬ X k ∧ k < rb) wr.heap.size 32 2 (p.map Rule.d ++ [Rule.d ⟨lf, RL⟩]) (.slice (some ⟨g4, 0, none⟩) (pl + 1) c4) wk4) := RowD.step ho hd (by rw [List.length_map]; exact HPL.out.symm) (T := fun k => k < w0.heap.size) (RdAll.one (rd_rule (r := ⟨lf, RL⟩) (HRR.out _ HBK3.out))) (fun k hk _ => ⟨⟨fun h => by have := (HX.out k h).1; omega, by omega⟩, fun e => by have := (ho.lt k e).1; omega⟩) hle ho4 hg4 (by rcases hat4 with e | e; exact .inl (by rw [e]; rfl); exact .inr ⟨g4, rfl, by omega⟩)
            have HNG : Hid (g4 ≠ q17) := fun e => by rcases hat4 with h | h; exact HNE.out g4 h e; have := bx_lt F17.out; omega
            replace F17 := Lib.hid ((hg4.block q17 (bx_lt F17.out) (fun e => (HNE.out q17 e.symm) rfl)).trans F17.out)
            clear HNE
            clear ho hd hle ho4 hg4 hat4 hlt4 HROW F11
            refine hK.out _ _ (fun _ => HS.out _ HBK4.out) ?_
            clear hK K
            try simp only [Act.put, List.setIfInBounds_toArray, List.set_cons_zero, List.set_cons_succ]
            refine wpU_one (i := 13) (by kernel_rfl) rfl (fun K hK => ?_)
            replace inv := inv_setc (i := 13) inv (by kernel_rfl) (by decide)
            go_simp
            have hxx : ∀ k, (fun k => X k ∨ k = rb ∨ k = q17) k → w0.heap.size ≤ k ∧ k < wk4.heap.size := fun k h => by have hz := HBK4.out.size; have hz2 := bx_lt F17.out; have hz3 := HQ17.out; rcases h with h | h | h; (have := HX.out k h; omega); omega; omega
            have HRD2 : Hid (Rd (fun k => ¬ (fun k => X k ∨ k = rb ∨ k = q17) k) wk4 (.sl ((p ++ [(⟨lf, RL⟩ : Rule)]).map Rule.d)) [.slice (some ⟨g4, 0, none⟩) p1 c4]) := by
              obtain ⟨⟨xs, ho, hd⟩, hle⟩ := HROW2.out
              rw [List.map_append, ← HP1.out]
              refine rd_of_own ho (hd.mono fun k hk _ h => ?_) rfl (fun k e h => ?_)
              · rcases h with h | h | h; exact hk.1.1 h; (have := hk.1.2; omega); (have h1 := hk.1.2; have h2 := HQ17.out; omega)
              · have hl := (ho.lt k e).1; rcases h with h | h | h; (have := HX.out k h; omega); omega; (simp [Value.ownBlock] at e; exact HNG.out (e.trans h))
            rw [HP1.out]
            with_reducible refine (HIH.out (fun k => X k ∨ k = rb ∨ k = q17) _ _ wk4 hxx HBK4.out HRD2.out).mono ?_
            rintro e wk5 ⟨y0, y1, y2, ya, yn, yc, fl, rfl, hor, hbk⟩
            have HBK5 : Hid (Below wr.heap.size wr wk5) := HBK4.out.trans (hbk.mono HBK4.out.size)
            have HOR := Lib.hid hor
            clear hxx
            replace F17 := Lib.hid (bx_keep F17.out hbk)
            clear hor hbk HROW2 HRD2 HNG
            refine hK.out _ _ (fun _ => HS.out _ HBK5.out) ?_
            clear hK K
            try simp only [Act.put, List.setIfInBounds_toArray, List.set_cons_zero, List.set_cons_succ]
            refine wpU_take (i := 14) (v := .tuple #[.agg #[.int .i64 y0, .int .i64 y1, .int .i64 y2, .slice ya yn yc], .bool fl]) rfl inv (by kernel_rfl) (by kernel_rfl) (by decide) (by decide) (by kernel_rfl) (by kernel_rfl) (by kernel_rfl) (fun _ _ _ h => h) (Or.inl ⟨by rfl, fun w' hw' => ?_⟩) (HS.out _ HBK5.out) (fun inv => ?_)
            · obtain ⟨h0, h1, h2, h3⟩ := hw'
              go_simp
            try simp only [Act.put, List.setIfInBounds_toArray, List.set_cons_zero, List.set_cons_succ]
            refine wpU_take (i := 15) (v := .agg #[.int .i64 y0, .int .i64 y1, .int .i64 y2, .slice ya yn yc]) rfl inv (by kernel_rfl) (by kernel_rfl) (by decide) (by decide) (by kernel_rfl) (by kernel_rfl) (by kernel_rfl) (fun _ _ _ h => h) (Or.inl ⟨by rfl, fun w' hw' => ?_⟩) (HS.out _ HBK5.out) (fun inv => ?_)
            · obtain ⟨h0, h1, h2, h3⟩ := hw'
              go_simp
            try simp only [Act.put, List.setIfInBounds_toArray, List.set_cons_zero, List.set_cons_succ]
            refine wpU_take (i := 16) (v := .bool fl) rfl inv (by kernel_rfl) (by kernel_rfl) (by decide) (by decide) (by kernel_rfl) (by kernel_rfl) (by kernel_rfl) (fun _ _ _ h => h) (Or.inl ⟨by rfl, fun w' hw' => ?_⟩) (HS.out _ HBK5.out) (fun inv => ?_)
            · obtain ⟨h0, h1, h2, h3⟩ := hw'
              go_simp
            try simp only [Act.put, List.setIfInBounds_toArray, List.set_cons_zero, List.set_cons_succ]
            have hq17 := bx_cells4 F17.out
            obtain ⟨z0, z1, z2, z3⟩ := bx_cells4 F17.out
            obtain ⟨f0, f1, f2, f3⟩ := bx_free4 F17.out
            clear hq17
            refine wpU_one (i := 18) (by kernel_rfl) rfl (fun K hK => ?_)
            replace inv := inv_setc (i := 18) inv (by kernel_rfl) (by decide)
            go_simp
            obtain ⟨wz, HWZ⟩ := nameIt ((((wk5.setCell ⟨q17, 0, none⟩ (.int .i64 y0)).setCell ⟨q17, 1, none⟩ (.int .i64 y1)).setCell ⟨q17, 2, none⟩ (.int .i64 y2)).setCell ⟨q17, 3, none⟩ (.slice ya yn yc))
            have HBZ : Hid (Below wr.heap.size wr wz) := by rw [← HWZ.out]; exact below_box4 HBK5.out HQ17.out _ _ _ _
            have HXZ : Hid (wz.heap[q17]? = some (.cells #[.int .i64 y0, .int .i64 y1, .int .i64 y2, .slice ya yn yc] 25 (0, 0))) := by rw [← HWZ.out]; exact set4 F17.out _ _ _ _
            have HOZ : Hid (OfR fit m (L.drop i1) (p ++ [(⟨lf, RL⟩ : Rule)]) T N (fun k => X k ∨ k = rb ∨ k = q17) y0 y1 y2 ya yn yc fl wz) := by rw [← HWZ.out]; exact HOR.out.box4 (.inr (.inr rfl)) _ _ _ _
            rw [HWZ.out]
            clear z0 z1 z2 z3 f0 f1 f2 f3
            refine hK.out _ _ (fun _ => HS.out _ HBZ.out) ?_
            clear hK K
            try simp only [Act.put, List.setIfInBounds_toArray, List.set_cons_zero, List.set_cons_succ]
            refine wpU_one (i := 19) (by kernel_rfl) rfl (fun K hK => ?_)
            go_simp
            refine hK.out _ _ (fun h => absurd (show true = false from h) (by decide)) ?_
            clear hK K
            try simp only [Act.put, List.setIfInBounds_toArray, List.set_cons_zero, List.set_cons_succ]
            refine wpU_done (by kernel_rfl) ?_ _
            go_wp2_with fail
            go_meet
            exact ⟨q17, y0, y1, y2, ya, yn, yc, fl, rfl, rfl, HOZ, HXZ, HBZ, HQ17⟩
        · replace inv := inv_setc (i := 17) inv (by kernel_rfl) (by decide)
          go_simp
          have hbk : Below wd.heap.size wd (wd.alloc (.cells #[.int .i64 0, .int .i64 0, .int .i64 0, .slice none 0 0] 25)) := (Below.refl _ _).alloc (Nat.le_refl _) _
          have F17 : Hid ((wd.alloc (.cells #[.int .i64 0, .int .i64 0, .int .i64 0, .slice none 0 0] 25)).heap[wd.heap.size]? = some (.cells #[.int .i64 0, .int .i64 0, .int .i64 0, .slice none 0 0] 25 (0, 0))) := bx_new _ _ _ rfl
          obtain ⟨wk1, HWK1⟩ := nameIt (wd.alloc (.cells #[.int .i64 0, .int .i64 0, .int .i64 0, .slice none 0 0] 25))
          rw [HWK1.out] at hbk F17
          rw [HWK1.out]
          have HBK1 : Hid (Below wr.heap.size wr wk1) := HBD.out.trans (hbk.mono HBD.out.size)
          have HQ17 : Hid (wr.heap.size ≤ wd.heap.size) := HBD.out.size
          obtain ⟨q17, HQN1⟩ := nameIt wd.heap.size
          rw [HQN1.out] at F17 HQ17
          rw [HQN1.out]
          clear hbk HWK1
          refine hK.out _ _ (fun _ => HS.out _ HBK1.out) ?_
          clear hK K
          try simp only [Act.put, List.setIfInBounds_toArray, List.set_cons_zero, List.set_cons_succ]
          refine wpU_two (i := 6) (j := 11) (by kernel_rfl) rfl rfl (fun K hK => ?_) (fun K hK => ?_) 
          · replace inv := inv_setc (i := 6) inv (by kernel_rfl) (by decide)
            go_simp
            with_reducible refine (HCL.out wk1 HBK1.out).mono ?_
            rintro e wk2 ⟨ac, cc, rfl, hrow, hbk⟩
            rw [HPL.out] at hrow
            rw [HPL.out]
            have HBK2 : Hid (Below wr.heap.size wr wk2) := HBK1.out.trans (hbk.mono HBK1.out.size)
            have HROW : Hid (RowD (fun k => ¬ X k ∧ k < rb) wr.heap.size 32 2 (p.map Rule.d) (.slice ac pl cc) wk2) := hrow.lower HBK1.out.size
            have HNE : Hid (∀ k, (Value.slice ac pl cc).ownBlock = some k → k ≠ q17) := fun k e => by have h1 := (hrow.form.choose_spec.choose_spec.2.2.2 k e).1; have h2 := bx_lt F17.out; omega
            replace F17 := Lib.hid (bx_keep F17.out hbk)
            clear hrow hbk
            refine hK.out _ _ (fun _ => HS.out _ HBK2.out) ?_
            clear hK K
            try simp only [Act.put, List.setIfInBounds_toArray, List.set_cons_zero, List.set_cons_succ]
            refine wpU_one (i := 11) (by kernel_rfl) rfl (fun K hK => ?_)
            replace inv := inv_setc (i := 11) inv (by kernel_rfl) (by decide)
            go_simp
            have hbk : Below wk2.heap.size wk2 (wk2.alloc (.cells #[.int .i64 lf, .slice ra rn rc] 32)) := (Below.refl _ _).alloc (Nat.le_refl _) _
            have F11 : Hid ((wk2.alloc (.cells #[.int .i64 lf, .slice ra rn rc] 32)).heap[wk2.heap.size]? = some (.cells #[.int .i64 lf, .slice ra rn rc] 32 (0, 0))) := bx_new _ _ _ rfl
            obtain ⟨wk3, HWK3⟩ := nameIt (wk2.alloc (.cells #[.int .i64 lf, .slice ra rn rc] 32))
            rw [HWK3.out] at hbk F11
            rw [HWK3.out]
            have HBK3 : Hid (Below wr.heap.size wr wk3) := HBK2.out.trans (hbk.mono HBK2.out.size)
            replace HROW := Lib.hid (HROW.out.keep hbk)
            replace F17 := Lib.hid (bx_keep F17.out hbk)
            obtain ⟨q11, HQN3⟩ := nameIt wk2.heap.size
            rw [HQN3.out] at F11
            rw [HQN3.out]
            clear hbk HWK3
            refine hK.out _ _ (fun _ => HS.out _ HBK3.out) ?_
            clear hK K
            try simp only [Act.put, List.setIfInBounds_toArray, List.set_cons_zero, List.set_cons_succ]
            refine wpU_one (i := 12) (by kernel_rfl) rfl (fun K hK => ?_)
            replace inv := inv_setc (i := 12) inv (by kernel_rfl) (by decide)
            obtain ⟨⟨xs, ho, hd⟩, hle⟩ := HROW.out
            rw [List.length_map, HPL.out] at ho
            refine step_appB elRule (by rfl) _ _ (by rfl) ho (by rfl) (by rfl) F11.out (by rfl) (by rfl) (by omega) (by unfold maxLen; omega) hle ?_
            intro g4 c4 wk4 ho4 hg4 hat4 hlt4
            have HBK4 : Hid (Below wr.heap.size wr wk4) := HBK3.out.grown hg4 HBK3.out.size (fun k e => (ho.lt k e).1)
            have HROW2 : Hid (RowD (fun k => ¬ X k ∧ k < rb) wr.heap.size 32 2 (p.map Rule.d ++ [Rule.d ⟨lf, RL⟩]) (.slice (some ⟨g4, 0, none⟩) (pl + 1) c4) wk4) := RowD.step ho hd (by rw [List.length_map]; exact HPL.out.symm) (T := fun k => k < w0.heap.size) (RdAll.one (rd_rule (r := ⟨lf, RL⟩) (HRR.out _ HBK3.out))) (fun k hk _ => ⟨⟨fun h => by have := (HX.out k h).1; omega, by omega⟩, fun e => by have := (ho.lt k e).1; omega⟩) hle ho4 hg4 (by rcases hat4 with e | e; exact .inl (by rw [e]; rfl); exact .inr ⟨g4, rfl, by omega⟩)
            have HNG : Hid (g4 ≠ q17) := fun e => by rcases hat4 with h | h; exact HNE.out g4 h e; have := bx_lt F17.out; omega
            replace F17 := Lib.hid ((hg4.block q17 (bx_lt F17.out) (fun e => (HNE.out q17 e.symm) rfl)).trans F17.out)
            clear HNE
            clear ho hd hle ho4 hg4 hat4 hlt4 HROW F11
            refine hK.out _ _ (fun _ => HS.out _ HBK4.out) ?_
            clear hK K
            try simp only [Act.put, List.setIfInBounds_toArray, List.set_cons_zero, List.set_cons_succ]
            refine wpU_one (i := 13) (by kernel_rfl) rfl (fun K hK => ?_)
            replace inv := inv_setc (i := 13) inv (by kernel_rfl) (by decide)
            go_simp
            have hxx : ∀ k, (fun k => X k ∨ k = rb ∨ k = q17) k → w0.heap.size ≤ k ∧ k < wk4.heap.size := fun k h => by have hz := HBK4.out.size; have hz2 := bx_lt F17.out; have hz3 := HQ17.out; rcases h with h | h | h; (have := HX.out k h; omega); omega; omega
            have HRD2 : Hid (Rd (fun k => ¬ (fun k => X k ∨ k = rb ∨ k = q17) k) wk4 (.sl ((p ++ [(⟨lf, RL⟩ : Rule)]).map Rule.d)) [.slice (some ⟨g4, 0, none⟩) p1 c4]) := by
              obtain ⟨⟨xs, ho, hd⟩, hle⟩ := HROW2.out
              rw [List.map_append, ← HP1.out]
              refine rd_of_own ho (hd.mono fun k hk _ h => ?_) rfl (fun k e h => ?_)
              · rcases h with h | h | h; exact hk.1.1 h; (have := hk.1.2; omega); (have h1 := hk.1.2; have h2 := HQ17.out; omega)
              · have hl := (ho.lt k e).1; rcases h with h | h | h; (have := HX.out k h; omega); omega; (simp [Value.ownBlock] at e; exact HNG.out (e.trans h))
            rw [HP1.out]
            with_reducible refine (HIH.out (fun k => X k ∨ k = rb ∨ k = q17) _ _ wk4 hxx HBK4.out HRD2.out).mono ?_
            rintro e wk5 ⟨y0, y1, y2, ya, yn, yc, fl, rfl, hor, hbk⟩
            have HBK5 : Hid (Below wr.heap.size wr wk5) := HBK4.out.trans (hbk.mono HBK4.out.size)
            have HOR := Lib.hid hor
            clear hxx
            replace F17 := Lib.hid (bx_keep F17.out hbk)
            clear hor hbk HROW2 HRD2 HNG
            refine hK.out _ _ (fun _ => HS.out _ HBK5.out) ?_
            clear hK K
            try simp only [Act.put, List.setIfInBounds_toArray, List.set_cons_zero, List.set_cons_succ]
            refine wpU_take (i := 14) (v := .tuple #[.agg #[.int .i64 y0, .int .i64 y1, .int .i64 y2, .slice ya yn yc], .bool fl]) rfl inv (by kernel_rfl) (by kernel_rfl) (by decide) (by decide) (by kernel_rfl) (by kernel_rfl) (by kernel_rfl) (fun _ _ _ h => h) (Or.inl ⟨by rfl, fun w' hw' => ?_⟩) (HS.out _ HBK5.out) (fun inv => ?_)
            · obtain ⟨h0, h1, h2, h3⟩ := hw'
              go_simp
            try simp only [Act.put, List.setIfInBounds_toArray, List.set_cons_zero, List.set_cons_succ]
            refine wpU_take (i := 15) (v := .agg #[.int .i64 y0, .int .i64 y1, .int .i64 y2, .slice ya yn yc]) rfl inv (by kernel_rfl) (by kernel_rfl) (by decide) (by decide) (by kernel_rfl) (by kernel_rfl) (by kernel_rfl) (fun _ _ _ h => h) (Or.inl ⟨by rfl, fun w' hw' => ?_⟩) (HS.out _ HBK5.out) (fun inv => ?_)
            · obtain ⟨h0, h1, h2, h3⟩ := hw'
              go_simp
            try simp only [Act.put, List.setIfInBounds_toArray, List.set_cons_zero, List.set_cons_succ]
            refine wpU_take (i := 16) (v := .bool fl) rfl inv (by kernel_rfl) (by kernel_rfl) (by decide) (by decide) (by kernel_rfl) (by kernel_rfl) (by kernel_rfl) (fun _ _ _ h => h) (Or.inl ⟨by rfl, fun w' hw' => ?_⟩) (HS.out _ HBK5.out) (fun inv => ?_)
            · obtain ⟨h0, h1, h2, h3⟩ := hw'
              go_simp
            try simp only [Act.put, List.setIfInBounds_toArray, List.set_cons_zero, List.set_cons_succ]
            have hq17 := bx_cells4 F17.out
            obtain ⟨z0, z1, z2, z3⟩ := bx_cells4 F17.out
            obtain ⟨f0, f1, f2, f3⟩ := bx_free4 F17.out
            clear hq17
            refine wpU_one (i := 18) (by kernel_rfl) rfl (fun K hK => ?_)
            replace inv := inv_setc (i := 18) inv (by kernel_rfl) (by decide)
            go_simp
            obtain ⟨wz, HWZ⟩ := nameIt ((((wk5.setCell ⟨q17, 0, none⟩ (.int .i64 y0)).setCell ⟨q17, 1, none⟩ (.int .i64 y1)).setCell ⟨q17, 2, none⟩ (.int .i64 y2)).setCell ⟨q17, 3, none⟩ (.slice ya yn yc))
            have HBZ : Hid (Below wr.heap.size wr wz) := by rw [← HWZ.out]; exact below_box4 HBK5.out HQ17.out _ _ _ _
            have HXZ : Hid (wz.heap[q17]? = some (.cells #[.int .i64 y0, .int .i64 y1, .int .i64 y2, .slice ya yn yc] 25 (0, 0))) := by rw [← HWZ.out]; exact set4 F17.out _ _ _ _
            have HOZ : Hid (OfR fit m (L.drop i1) (p ++ [(⟨lf, RL⟩ : Rule)]) T N (fun k => X k ∨ k = rb ∨ k = q17) y0 y1 y2 ya yn yc fl wz) := by rw [← HWZ.out]; exact HOR.out.box4 (.inr (.inr rfl)) _ _ _ _
            rw [HWZ.out]
            clear z0 z1 z2 z3 f0 f1 f2 f3
            refine hK.out _ _ (fun _ => HS.out _ HBZ.out) ?_
            clear hK K
            try simp only [Act.put, List.setIfInBounds_toArray, List.set_cons_zero, List.set_cons_succ]
            refine wpU_one (i := 19) (by kernel_rfl) rfl (fun K hK => ?_)
            go_simp
            refine hK.out _ _ (fun h => absurd (show true = false from h) (by decide)) ?_
            clear hK K
            try simp only [Act.put, List.setIfInBounds_toArray, List.set_cons_zero, List.set_cons_succ]
            refine wpU_done (by kernel_rfl) ?_ _
            go_wp2_with fail
            go_meet
            exact ⟨q17, y0, y1, y2, ya, yn, yc, fl, rfl, rfl, HOZ, HXZ, HBZ, HQ17⟩
          · replace inv := inv_setc (i := 11) inv (by kernel_rfl) (by decide)
            go_simp
            have hbk : Below wk1.heap.size wk1 (wk1.alloc (.cells #[.int .i64 lf, .slice ra rn rc] 32)) := (Below.refl _ _).alloc (Nat.le_refl _) _
            have F11 : Hid ((wk1.alloc (.cells #[.int .i64 lf, .slice ra rn rc] 32)).heap[wk1.heap.size]? = some (.cells #[.int .i64 lf, .slice ra rn rc] 32 (0, 0))) := bx_new _ _ _ rfl
            obtain ⟨wk2, HWK2⟩ := nameIt (wk1.alloc (.cells #[.int .i64 lf, .slice ra rn rc] 32))
            rw [HWK2.out] at hbk F11
            rw [HWK2.out]
            have HBK2 : Hid (Below wr.heap.size wr wk2) := HBK1.out.trans (hbk.mono HBK1.out.size)
            replace F17 := Lib.hid (bx_keep F17.out hbk)
            obtain ⟨q11, HQN2⟩ := nameIt wk1.heap.size
            rw [HQN2.out] at F11
            rw [HQN2.out]
            clear hbk HWK2
            refine hK.out _ _ (fun _ => HS.out _ HBK2.out) ?_
            clear hK K
            try simp only [Act.put, List.setIfInBounds_toArray, List.set_cons_zero, List.set_cons_succ]
            refine wpU_one (i := 6) (by kernel_rfl) rfl (fun K hK => ?_)
            replace inv := inv_setc (i := 6) inv (by kernel_rfl) (by decide)
            go_simp
            with_reducible refine (HCL.out wk2 HBK2.out).mono ?_
            rintro e wk3 ⟨ac, cc, rfl, hrow, hbk⟩
            rw [HPL.out] at hrow
            rw [HPL.out]
            have HBK3 : Hid (Below wr.heap.size wr wk3) := HBK2.out.trans (hbk.mono HBK2.out.size)
            have HROW : Hid (RowD (fun k => ¬ X k ∧ k < rb) wr.heap.size 32 2 (p.map Rule.d) (.slice ac pl cc) wk3) := hrow.lower HBK2.out.size
            replace F11 := Lib.hid (bx_keep F11.out hbk)
            have HNE : Hid (∀ k, (Value.slice ac pl cc).ownBlock = some k → k ≠ q17) := fun k e => by have h1 := (hrow.form.choose_spec.choose_spec.2.2.2 k e).1; have h2 := bx_lt F17.out; omega
            replace F17 := Lib.hid (bx_keep F17.out hbk)
            clear hrow hbk
            refine hK.out _ _ (fun _ => HS.out _ HBK3.out) ?_
            clear hK K
            try simp only [Act.put, List.setIfInBounds_toArray, List.set_cons_zero, List.set_cons_succ]
            refine wpU_one (i := 12) (by kernel_rfl) rfl (fun K hK => ?_)
            replace inv := inv_setc (i := 12) inv (by kernel_rfl) (by decide)
            obtain ⟨⟨xs, ho, hd⟩, hle⟩ := HROW.out
            rw [List.length_map, HPL.out] at ho
            refine step_appB elRule (by rfl) _ _ (by rfl) ho (by rfl) (by rfl) F11.out (by rfl) (by rfl) (by omega) (by unfold maxLen; omega) hle ?_
            intro g4 c4 wk4 ho4 hg4 hat4 hlt4
            have HBK4 : Hid (Below wr.heap.size wr wk4) := HBK3.out.grown hg4 HBK3.out.size (fun k e => (ho.lt k e).1)
            have HROW2 : Hid (RowD (fun k => ¬ X k ∧ k < rb) wr.heap.size 32 2 (p.map Rule.d ++ [Rule.d ⟨lf, RL⟩]) (.slice (some ⟨g4, 0, none⟩) (pl + 1) c4) wk4) := RowD.step ho hd (by rw [List.length_map]; exact HPL.out.symm) (T := fun k => k < w0.heap.size) (RdAll.one (rd_rule (r := ⟨lf, RL⟩) (HRR.out _ HBK3.out))) (fun k hk _ => ⟨⟨fun h => by have := (HX.out k h).1; omega, by omega⟩, fun e => by have := (ho.lt k e).1; omega⟩) hle ho4 hg4 (by rcases hat4 with e | e; exact .inl (by rw [e]; rfl); exact .inr ⟨g4, rfl, by omega⟩)
            have HNG : Hid (g4 ≠ q17) := fun e => by rcases hat4 with h | h; exact HNE.out g4 h e; have := bx_lt F17.out; omega
            replace F17 := Lib.hid ((hg4.block q17 (bx_lt F17.out) (fun e => (HNE.out q17 e.symm) rfl)).trans F17.out)
            clear HNE
            clear ho hd hle ho4 hg4 hat4 hlt4 HROW F11
            refine hK.out _ _ (fun _ => HS.out _ HBK4.out) ?_
            clear hK K
            try simp only [Act.put, List.setIfInBounds_toArray, List.set_cons_zero, List.set_cons_succ]
            refine wpU_one (i := 13) (by kernel_rfl) rfl (fun K hK => ?_)
            replace inv := inv_setc (i := 13) inv (by kernel_rfl) (by decide)
            go_simp
            have hxx : ∀ k, (fun k => X k ∨ k = rb ∨ k = q17) k → w0.heap.size ≤ k ∧ k < wk4.heap.size := fun k h => by have hz := HBK4.out.size; have hz2 := bx_lt F17.out; have hz3 := HQ17.out; rcases h with h | h | h; (have := HX.out k h; omega); omega; omega
            have HRD2 : Hid (Rd (fun k => ¬ (fun k => X k ∨ k = rb ∨ k = q17) k) wk4 (.sl ((p ++ [(⟨lf, RL⟩ : Rule)]).map Rule.d)) [.slice (some ⟨g4, 0, none⟩) p1 c4]) := by
              obtain ⟨⟨xs, ho, hd⟩, hle⟩ := HROW2.out
              rw [List.map_append, ← HP1.out]
              refine rd_of_own ho (hd.mono fun k hk _ h => ?_) rfl (fun k e h => ?_)
              · rcases h with h | h | h; exact hk.1.1 h; (have := hk.1.2; omega); (have h1 := hk.1.2; have h2 := HQ17.out; omega)
              · have hl := (ho.lt k e).1; rcases h with h | h | h; (have := HX.out k h; omega); omega; (simp [Value.ownBlock] at e; exact HNG.out (e.trans h))
            rw [HP1.out]
            with_reducible refine (HIH.out (fun k => X k ∨ k = rb ∨ k = q17) _ _ wk4 hxx HBK4.out HRD2.out).mono ?_
            rintro e wk5 ⟨y0, y1, y2, ya, yn, yc, fl, rfl, hor, hbk⟩
            have HBK5 : Hid (Below wr.heap.size wr wk5) := HBK4.out.trans (hbk.mono HBK4.out.size)
            have HOR := Lib.hid hor
            clear hxx
            replace F17 := Lib.hid (bx_keep F17.out hbk)
            clear hor hbk HROW2 HRD2 HNG
            refine hK.out _ _ (fun _ => HS.out _ HBK5.out) ?_
            clear hK K
            try simp only [Act.put, List.setIfInBounds_toArray, List.set_cons_zero, List.set_cons_succ]
            refine wpU_take (i := 14) (v := .tuple #[.agg #[.int .i64 y0, .int .i64 y1, .int .i64 y2, .slice ya yn yc], .bool fl]) rfl inv (by kernel_rfl) (by kernel_rfl) (by decide) (by decide) (by kernel_rfl) (by kernel_rfl) (by kernel_rfl) (fun _ _ _ h => h) (Or.inl ⟨by rfl, fun w' hw' => ?_⟩) (HS.out _ HBK5.out) (fun inv => ?_)
            · obtain ⟨h0, h1, h2, h3⟩ := hw'
              go_simp
            try simp only [Act.put, List.setIfInBounds_toArray, List.set_cons_zero, List.set_cons_succ]
            refine wpU_take (i := 15) (v := .agg #[.int .i64 y0, .int .i64 y1, .int .i64 y2, .slice ya yn yc]) rfl inv (by kernel_rfl) (by kernel_rfl) (by decide) (by decide) (by kernel_rfl) (by kernel_rfl) (by kernel_rfl) (fun _ _ _ h => h) (Or.inl ⟨by rfl, fun w' hw' => ?_⟩) (HS.out _ HBK5.out) (fun inv => ?_)
            · obtain ⟨h0, h1, h2, h3⟩ := hw'
              go_simp
            try simp only [Act.put, List.setIfInBounds_toArray, List.set_cons_zero, List.set_cons_succ]
            refine wpU_take (i := 16) (v := .bool fl) rfl inv (by kernel_rfl) (by kernel_rfl) (by decide) (by decide) (by kernel_rfl) (by kernel_rfl) (by kernel_rfl) (fun _ _ _ h => h) (Or.inl ⟨by rfl, fun w' hw' => ?_⟩) (HS.out _ HBK5.out) (fun inv => ?_)
            · obtain ⟨h0, h1, h2, h3⟩ := hw'
              go_simp
            try simp only [Act.put, List.setIfInBounds_toArray, List.set_cons_zero, List.set_cons_succ]
            have hq17 := bx_cells4 F17.out
            obtain ⟨z0, z1, z2, z3⟩ := bx_cells4 F17.out
            obtain ⟨f0, f1, f2, f3⟩ := bx_free4 F17.out
            clear hq17
            refine wpU_one (i := 18) (by kernel_rfl) rfl (fun K hK => ?_)
            replace inv := inv_setc (i := 18) inv (by kernel_rfl) (by decide)
            go_simp
            obtain ⟨wz, HWZ⟩ := nameIt ((((wk5.setCell ⟨q17, 0, none⟩ (.int .i64 y0)).setCell ⟨q17, 1, none⟩ (.int .i64 y1)).setCell ⟨q17, 2, none⟩ (.int .i64 y2)).setCell ⟨q17, 3, none⟩ (.slice ya yn yc))
            have HBZ : Hid (Below wr.heap.size wr wz) := by rw [← HWZ.out]; exact below_box4 HBK5.out HQ17.out _ _ _ _
            have HXZ : Hid (wz.heap[q17]? = some (.cells #[.int .i64 y0, .int .i64 y1, .int .i64 y2, .slice ya yn yc] 25 (0, 0))) := by rw [← HWZ.out]; exact set4 F17.out _ _ _ _
            have HOZ : Hid (OfR fit m (L.drop i1) (p ++ [(⟨lf, RL⟩ : Rule)]) T N (fun k => X k ∨ k = rb ∨ k = q17) y0 y1 y2 ya yn yc fl wz) := by rw [← HWZ.out]; exact HOR.out.box4 (.inr (.inr rfl)) _ _ _ _
            rw [HWZ.out]
            clear z0 z1 z2 z3 f0 f1 f2 f3
            refine hK.out _ _ (fun _ => HS.out _ HBZ.out) ?_
            clear hK K
            try simp only [Act.put, List.setIfInBounds_toArray, List.set_cons_zero, List.set_cons_succ]
            refine wpU_one (i := 19) (by kernel_rfl) rfl (fun K hK => ?_)
            go_simp
            refine hK.out _ _ (fun h => absurd (show true = false from h) (by decide)) ?_
            clear hK K
            try simp only [Act.put, List.setIfInBounds_toArray, List.set_cons_zero, List.set_cons_succ]
            refine wpU_done (by kernel_rfl) ?_ _
            go_wp2_with fail
            go_meet
            exact ⟨q17, y0, y1, y2, ya, yn, yc, fl, rfl, rfl, HOZ, HXZ, HBZ, HQ17⟩
      case rest =>
        obtain ⟨q, y0, y1, y2, ya, yn, yc, fl, rfl, rfl, HOR, HXQ, HBQ, HQ⟩ := hcut
        obtain ⟨w7, rfl⟩ : ∃ ww : World, ww = wc := ⟨_, rfl⟩
        have HB7 : Hid (Below w1.heap.size w1 w7) := HBR.out.trans (HBQ.out.mono HBR.out.size)
        clear x0
        cases fl with
        | true =>
          have HE := Lib.hid (fun x0 x1 x2 x3 => HFT1.out w7 y0 y1 y2 ya yn yc x0 x1 x2 x3 (by
            rcases HOR.out with ⟨_, r, h2, h3, h4, h5, h6, h7⟩ | ⟨h, _⟩
            · exact .inl ⟨rfl, r, by rw [HST.out, HAT.out, h2]; rfl, h3, h4, h5, h6, h7.mono fun k hk _ h => hk (by rcases h with h | h; exact .inl h; exact .inr (.inl h))⟩
            · cases h) HB7.out)
          obtain ⟨z0, z1, z2, z3⟩ := bx_cells4 HXQ.out
          obtain ⟨r0, r1, r2, r3⟩ := bx_cells4 (bx_keep X0.out HB7.out)
          obtain ⟨f0, f1, f2, f3⟩ := bx_free4 (bx_keep X0.out HB7.out)
          go_wp2_with fail
          refine bodyPost_ret (v := .tuple #[.agg #[.int .i64 y0, .int .i64 y1, .int .i64 y2, .slice ya yn yc], .bool true]) (by simp [results, Tryd.results15, go_sem, r0, r1, r2, r3]) rfl ?_
          exact HE.out _ _ _ _
        | false =>
          have HSTN : Hid (fF fit mm (L.drop i0) p = fF fit mm (L.drop i1) p) := by
            show _ = _
            rcases HOR.out with ⟨h, _⟩ | ⟨_, h⟩
            · cases h
            · rw [HST.out, HAT.out, h]; rfl
          have hi1 := HI1.out
          go_wp2_with fail
          go_roundg (ll - i1)
          case measure => omega
          case rel => exact ⟨i1, by omega, by omega, by omega, by first | rfl | go_num, HSTN, HB7⟩
    · have hik' : ¬ (i : Int) < (ll : Int) := by omega
      have HE := Lib.hid (fun x0 x1 x2 x3 => HFF1.out wr x0 x1 x2 x3 (by rw [HST.out, ← HMM.out, fF_end (by rw [HLL.out]; omega)]) HBR.out)
      obtain ⟨r0, r1, r2, r3⟩ := bx_cells4 (bx_keep X0.out HBR.out)
      obtain ⟨f0, f1, f2, f3⟩ := bx_free4 (bx_keep X0.out HBR.out)
      go_wp2_with fail
      refine bodyPost_ret (v := .tuple #[.agg #[.int .i64 0, .int .i64 0, .int .i64 0, .slice none 0 0], .bool false]) (by simp [results, Tryd.results15, go_sem, r0, r1, r2, r3]) rfl ?_
      exact HE.out _ _ _ _
end
end Gs
end Go.Proofs.YthnkgmlhpefldaaDoor
