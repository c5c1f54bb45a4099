/- The function values of parlref4.Begins. parlref4.Begins. repair.Prefix, parlref4.Longest. hole.follower.scan. hole.Check, and patternFault of the law. hole.Fill. patternFault of the law. Tables of corrections: each value comes from a derivation, and its size is bounded by its cost. Tables of corrections: costs are bounded; a nonterminal is found in all parts or in none. The plans of parlref4.solve and of repair.Best for corrections. The tables of parlref4.solve and of repair.Best are the same. The fixed call of RepairBest: the least correction of 0 0 1 is 0 1, at cost 1. The fixed call of HoleFills, in plain Lean: ? ? 1 ? is completed to 0 0 1 1. The table of repair.Best while it is made. repair.Best of valid arguments. repair.Best of arguments that it refuses. parlref4.Nearest. Nearest and Best of valid arguments answer with one and the same value. The grammar of the fixed call. The law HoleFills. -/
import Derived.Test.YtjpmebppdcclbaaJRepairPrefixRow7
import Derived.Test.YtjpmebppdcclbaaJRepairPrefixRow14
import Derived.Test.YtjpmebppdcclbaaJRepairPrefixRow11
import Derived.Test.YtjpmebppdcclbaaJRepairPrefixRow8
import Derived.Test.YtjpmebppdcclbaaJRepairPrefixRow6
import Derived.Test.YtjpmebppdcclbaaJRepairPrefixRow13
import Derived.Test.YtjpmebppdcclbaaJRepairPrefixRow4
import Derived.Test.YtjpmebppdcclbaaJRepairPrefixRow2
import Derived.Test.YtjpmebppdcclbaaJRepairPrefixRow5
import Derived.Deep.CutBlock
import Derived.Deep.CutRange
namespace Go.Proofs.Ytjpmebppdcclbaa
open Go.RowKit
namespace Ho
open Rp Hl
open Ht hiding D
theorem eg86 : ∀ args w, (callFunc 86 args).run Try.prog w = .ok (.enter 86 args) w := fun _ _ => by kernel_rfl
theorem eg88 : ∀ args w, (callFunc 88 args).run Try.prog w = .ok (.enter 88 args) w := fun _ _ => by kernel_rfl
set_option maxHeartbeats 1000000 in
theorem empB (n : Nat) (P : Nat → Prop) (W : World) : EmpFn 88 #[] emH n P W := by
  intro W' i j hij hj hb
  show Calls _ _ #[.int .i64 (i : Nat), .int .i64 (j : Nat)] _ _
  obtain ⟨b, HB⟩ : ∃ b : Bool, Hid (b = ((i : Int) == (j : Int))) := ⟨_, rfl⟩
  have hq : ((i : Int) == (j : Int)) = b := HB.out.symm
  have HE : Hid (VR (fun k => P k ∨ W'.heap.size ≤ k) (W'.alloc (.cells #[.bool b, .int .i64 0, .int .i64 0, .slice none 0 0] 36)) (.agg #[.bool b, .int .i64 0, .int .i64 0, .slice none 0 0]) (emH i j)) := by
    unfold emH
    by_cases e : i = j
    · have : b = true := by rw [HB.out, e]; simp
      rw [if_pos e, this]
      exact ⟨_, rfl, rd_nil _ _⟩
    · have : b = false := by rw [HB.out]; simp; omega
      rw [if_neg e, this]
      exact VR.none _ _
  clear hij hj hb HB
  go_enter Try.func88, Try.ntmps88
  go_wp2
  refine bodyPost_ret (v := .agg #[.bool b, .int .i64 0, .int .i64 0, .slice none 0 0]) (by simp [results, Try.results88, go_sem]) rfl ?_
  exact ⟨_, rfl, HE.out, (Below.refl _ _).alloc (Nat.le_refl _) _⟩
def flB (l : List Sym) (y : Sym) (i j : Nat) : Bool := decide (j = i + 1) && fitB y (l.getD i ⟨true, 0⟩)
theorem leafB_eq {hw : Sym → Bool} {N : Nat} {l : List Sym} {y : Sym} {i j : Nat} (hj : j ≤ l.length) : leafB hw N l y i j = if flB l y i j && (y.term || decide ((N : Int) ≤ y.n) || hw y) then some zero else none := by
  unfold leafB flB
  by_cases h : j = i + 1 ∧ i < l.length ∧ fitB y (l.getD i ⟨true, 0⟩) = true ∧ (y.term = true ∨ (N : Int) ≤ y.n ∨ hw y = true)
  · rw [if_pos h, if_pos (by
      obtain ⟨h1, _, h3, h4⟩ := h
      simp only [Bool.and_eq_true, Bool.or_eq_true, decide_eq_true_eq]
      exact ⟨⟨h1, h3⟩, by rcases h4 with h | h | h <;> simp [h]⟩)]
  · rw [if_neg h, if_neg (fun h2 => h (by
      simp only [Bool.and_eq_true, Bool.or_eq_true, decide_eq_true_eq] at h2
      obtain ⟨⟨h1, h3⟩, h4⟩ := h2
      exact ⟨h1, by omega, h3, by rcases h4 with (h | h) | h <;> simp [h]⟩))]
set_option maxHeartbeats 4000000 in
set_option maxRecDepth 100000 in
theorem leaf1E (l : List Sym) (hl : l.length ≤ 13) (bl : Nat) (la : Option Addr) (lk : Nat) (W' : World) (y : Sym) (i j : Nat) (hij : i ≤ j) (hj : j ≤ l.length)
    (hbl : W'.heap[bl]? = some (.cells #[.slice la l.length lk] 47 (0, 0))) (hrl : Rd AnyB W' (.sl (l.map Sym.d)) [.slice la l.length lk]) :
    Calls Try.prog 85 #[.agg #[.bool y.term, .int .i64 y.n], .int .i64 (i : Nat), .int .i64 (j : Nat), .pointer (some ⟨bl, 0, none⟩)] W' fun e w' => e = .returned (.agg #[.bool (flB l y i j), .int .i64 0, .int .i64 0, .slice none 0 0]) ∧ Below W'.heap.size W' w' := by
  obtain ⟨w0, HW⟩ := nameIt ((W'.alloc (.cells #[.bool y.term, .int .i64 y.n] 44)).alloc (.cells #[.bool false, .int .i64 0, .int .i64 0, .slice none 0 0] 36))
  have hw0 : Below W'.heap.size W' w0 := by
    rw [← HW.out]
    exact ((Below.refl _ _).alloc (Nat.le_refl _) _).alloc (by simp) _
  have HY0 : Hid (w0.heap[W'.heap.size]? = some (.cells #[.bool y.term, .int .i64 y.n] 44 (0, 0))) := by
    rw [← HW.out]; exact bx_keep (bx_new _ _ _ rfl) ((Below.refl _ _).alloc (Nat.le_refl _) _)
  have HZ0 : Hid (w0.heap[W'.heap.size + 1]? = some (.cells #[.bool false, .int .i64 0, .int .i64 0, .slice none 0 0] 36 (0, 0))) := by
    rw [← HW.out]; exact bx_new _ _ _ (by simp)
  have HSZ : Hid (w0.heap.size = W'.heap.size + 1 + 1) := by show _ = _; rw [← HW.out]; simp
  have HB0 := Lib.hid hw0
  have HBL := Lib.hid (bx_keep hbl hw0)
  have HRL := Lib.hid (hrl.below hw0)
  obtain ⟨fl, HFL⟩ := nameIt (flB l y i j)
  rw [HFL.out]
  obtain ⟨PST, HPS⟩ := nameIt (fun (e : Ending) (w' : World) => e = .returned (.agg #[.bool fl, .int .i64 0, .int .i64 0, .slice none 0 0]) ∧ Below W'.heap.size W' w')
  rw [HPS.out]
  obtain ⟨yt, HYT⟩ := nameIt y.term
  obtain ⟨yn, HYN⟩ := nameIt y.n
  rw [HYT.out, HYN.out] at HY0 HW
  rw [HYT.out, HYN.out]
  have ey : y = ⟨yt, yn⟩ := by obtain ⟨a, b⟩ := y; rw [← HYT.out, ← HYN.out]
  have HFE : Hid (fl = (decide (j = i + 1) && fitB ⟨yt, yn⟩ (l.getD i ⟨true, 0⟩))) := by show _ = _; rw [← HFL.out, ey]; rfl
  obtain ⟨ln, HLN⟩ := nameIt l.length
  rw [HLN.out] at hj hl HBL HRL
  obtain ⟨i1, HI1⟩ := nameIt (i + 1)
  have hw1 : IntKind.i64.wrap ((i : Int) + 1) = (i1 : Int) := by have := HI1.out; rw [IntWalk.i64_in _ (by omega)]; omega
  have HEND : Hid (∀ w3, Below w0.heap.size w0 w3 → PST (.returned (.agg #[.bool fl, .int .i64 0, .int .i64 0, .slice none 0 0])) ((((w3.setCell ⟨W'.heap.size + 1, 0, none⟩ (.bool fl)).setCell ⟨W'.heap.size + 1, 0 + 1, none⟩ (.int .i64 0)).setCell ⟨W'.heap.size + 1, 0 + 2, none⟩ (.int .i64 0)).setCell ⟨W'.heap.size + 1, 0 + 3, none⟩ (.slice none 0 0))) := by
    intro w3 hb3
    have hg := grown_cell4 w3 (W'.heap.size + 1) (.bool fl) (.int .i64 0) (.int .i64 0) (.slice none 0 0)
    have hB : Below W'.heap.size W' w3 := HB0.out.trans (hb3.mono HB0.out.size)
    rw [← HPS.out]
    exact ⟨rfl, hB.grown hg hB.size (fun k e => by cases e; omega)⟩
  clear hw0 hbl hrl HPS ey
  by_cases he : j = i1
  · have hil : i < ln := by have := HI1.out; omega
    have hil' : (i : Int) < (ln : Int) := by omega
    have hilL : i < l.length := by rw [HLN.out]; exact hil
    obtain ⟨lb, lo, hla, -, -, q0, q1⟩ := (show Rd AnyB w0 (.sl (l.map Sym.d)) [.slice la ln lk] from HRL.out).sym_at hilL
    subst hla
    obtain ⟨⟨ct, cn⟩, HC⟩ := nameIt l[i]
    rw [HC.out] at q0 q1
    have hne : ((j : Int) == (i1 : Int)) = true := by simp; omega
    have hfl : fitB ⟨yt, yn⟩ ⟨ct, cn⟩ = fl := by
      have hg : l.getD i ⟨true, 0⟩ = ⟨ct, cn⟩ := by rw [List.getD_eq_getElem?_getD, List.getElem?_eq_getElem hilL]; exact HC.out
      rw [HFE.out, hg]
      simp [show j = i + 1 by rw [he]; exact HI1.out.symm]
    have HFT : Hid (∀ W2, Below w0.heap.size w0 W2 → Calls Try.prog 53 #[.agg #[.bool yt, .int .i64 yn], .agg #[.bool ct, .int .i64 cn]] W2 fun e w' => e = .returned (.bool fl) ∧ Below W2.heap.size W2 w') := by
      intro W2 _
      have := fitsE ⟨yt, yn⟩ ⟨ct, cn⟩ W2
      rw [hfl] at this
      exact this
    obtain ⟨y0, y1⟩ := bx_cells2 HY0.out
    have c0 := bx_cells1 HBL.out
    have i0 := aft_cell y0
    have i2 := aft_cell y1
    have i3 := aft_cell c0
    have i4 := aft_cell q0
    have i5 := aft_cell q1
    clear hfl HC y0 y1 c0 q0 q1
    go_enter Try.func85, Try.ntmps85
    go_upto_region 1 with fail
    rw [HW.out]
    clear HW
    refine wp_region_after_tail 13 (by kernel_rfl) (by kernel_rfl) ?_
    simp only [List.take_succ_cons, List.take_zero, List.drop_succ_cons, List.drop_zero]
    repeat (go_big_quiet_step (with_reducible exact Calls.after (HFT.out _ (Aft.bel _))))
    refine wpQuiet_nil ?_
    rintro w7 ⟨⟨_, hb7⟩, rfl⟩
    have HE := Lib.hid (HEND.out w7 hb7)
    obtain ⟨z0, z1, z2, z3⟩ := bx_cells4 (bx_keep HZ0.out hb7)
    obtain ⟨f0, f1, f2, f3⟩ := bx_free4 (bx_keep HZ0.out hb7)
    clear hb7 i0 i2 i3 i4 i5
    go_wp2_with fail
    exact bodyPost_ret (v := .agg #[.bool fl, .int .i64 0, .int .i64 0, .slice none 0 0]) (by simp [results, Try.results85, go_sem, z0, z1, z2, z3]) rfl HE.out
  · have hne : ((j : Int) == (i1 : Int)) = false := by simp; omega
    have hfl : fl = false := by
      rw [HFE.out]
      simp [show ¬ j = i + 1 from fun h => he (by rw [h]; exact HI1.out)]
    subst hfl
    go_enter Try.func85, Try.ntmps85
    go_upto_region 1 with fail
    rw [HW.out]
    clear HW
    have HFT : Hid (∀ W2, Below w0.heap.size w0 W2 → Calls Try.prog 53 #[.agg #[.bool yt, .int .i64 yn], .agg #[.bool true, .int .i64 0]] W2 fun e w' => e = .returned (.bool (fitB ⟨yt, yn⟩ ⟨true, 0⟩)) ∧ Below W2.heap.size W2 w') := fun W2 _ => fitsE ⟨yt, yn⟩ ⟨true, 0⟩ W2
    refine wp_region_after_tail 13 (by kernel_rfl) (by kernel_rfl) ?_
    simp only [List.take_succ_cons, List.take_zero, List.drop_succ_cons, List.drop_zero]
    repeat (go_big_quiet_step (with_reducible exact Calls.after (HFT.out _ (Aft.bel _))))
    refine wpQuiet_nil ?_
    rintro w7 ⟨⟨_, hb7⟩, rfl⟩
    have HE := Lib.hid (HEND.out w7 hb7)
    obtain ⟨z0, z1, z2, z3⟩ := bx_cells4 (bx_keep HZ0.out hb7)
    obtain ⟨f0, f1, f2, f3⟩ := bx_free4 (bx_keep HZ0.out hb7)
    clear hb7
    go_wp2_with fail
    exact bodyPost_ret (v := .agg #[.bool false, .int .i64 0, .int .i64 0, .slice none 0 0]) (by simp [results, Try.results85, go_sem, z0, z1, z2, z3]) rfl HE.out
theorem vr_zero (P : Nat → Prop) (W : World) (r : Bool) : VR P W (.agg #[.bool r, .int .i64 0, .int .i64 0, .slice none 0 0]) (if r then some zero else none) := by
  cases r with
  | true => exact ⟨_, rfl, rd_nil _ _⟩
  | false => exact VR.none _ _
set_option maxHeartbeats 8000000 in
set_option maxRecDepth 100000 in
theorem someE (fn : Nat) (fb : Array Value) (egf : ∀ args w, (callFunc fn args).run Try.prog w = .ok (.enter fn args) w) (sv : Sym → Option Val) (hw : Sym → Bool) (hhw : ∀ y, hw y = (sv y).isSome) (N tm : Nat) (l : List Sym) (hl : l.length ≤ 13) (P : Nat → Prop) (b1 bg bf bl : Nat) (gt gs : Int) (gv : Value) (la : Option Addr) (lk : Nat) (W : World)
    (hb1 : W.heap[b1]? = some (.cells #[.func (.func 85) #[] #[.pointer (some ⟨bl, 0, none⟩)]] 81 (0, 0))) (hbg : W.heap[bg]? = some (.cells #[.int .i64 gt, .int .i64 (N : Int), .int .i64 gs, gv] 24 (0, 0)))
    (hbf : W.heap[bf]? = some (.cells #[.func (.func fn) #[] fb] 41 (0, 0))) (hbl : W.heap[bl]? = some (.cells #[.slice la l.length lk] 47 (0, 0))) (hrl : Rd AnyB W (.sl (l.map Sym.d)) [.slice la l.length lk]) (hfr : FreeFn fn fb sv (Hl.okS N tm) P W) :
    LeafFn 86 #[.pointer (some ⟨b1, 0, none⟩), .pointer (some ⟨bg, 0, none⟩), .pointer (some ⟨bf, 0, none⟩)] (leafB hw N l) (Hl.okS (2 * N) tm) l.length P W := by
  intro W' y i j hy hij hj hb
  show Calls _ _ #[.agg #[.bool y.term, .int .i64 y.n], .int .i64 (i : Nat), .int .i64 (j : Nat), .pointer (some ⟨b1, 0, none⟩), .pointer (some ⟨bg, 0, none⟩), .pointer (some ⟨bf, 0, none⟩)] _ _
  rw [leafB_eq hj]
  obtain ⟨w0, HW⟩ := nameIt ((W'.alloc (.cells #[.bool y.term, .int .i64 y.n] 44)).alloc (.cells #[.bool false, .int .i64 0, .int .i64 0, .slice none 0 0] 36))
  have hw0 : Below W'.heap.size W' w0 := by
    rw [← HW.out]
    exact ((Below.refl _ _).alloc (Nat.le_refl _) _).alloc (by simp) _
  have HY0 : Hid (w0.heap[W'.heap.size]? = some (.cells #[.bool y.term, .int .i64 y.n] 44 (0, 0))) := by
    rw [← HW.out]; exact bx_keep (bx_new _ _ _ rfl) ((Below.refl _ _).alloc (Nat.le_refl _) _)
  have HZ0 : Hid (w0.heap[W'.heap.size + 1]? = some (.cells #[.bool false, .int .i64 0, .int .i64 0, .slice none 0 0] 36 (0, 0))) := by
    rw [← HW.out]; exact bx_new _ _ _ (by simp)
  have HSZ : Hid (w0.heap.size = W'.heap.size + 1 + 1) := by show _ = _; rw [← HW.out]; simp
  have HB0 := Lib.hid hw0
  have hb0 := hb.trans (hw0.mono hb.size)
  have H1 := Lib.hid (bx_keep hb1 hb0)
  have HG := Lib.hid (bx_keep hbg hb0)
  have HF := Lib.hid (bx_keep hbf hb0)
  have HLE := Lib.hid (leaf1E l hl bl la lk w0 y i j hij hj (bx_keep hbl hb0) (hrl.below hb0))
  have HFR : Hid (y.term = false → y.n < (N : Int) → ∀ W2, Below w0.heap.size w0 W2 → Calls Try.prog fn (#[.agg #[.bool y.term, .int .i64 y.n]] ++ fb) W2 fun e w' => ∃ x, e = .returned x ∧ VR (fun k => P k ∨ W2.heap.size ≤ k) w' x (sv y) ∧ Below W2.heap.size W2 w') := fun h1 h2 W2 h3 => hfr W2 y ⟨hy.1, hy.2.1, fun _ => h2⟩ (hb0.trans (h3.mono hb0.size))
  obtain ⟨fl, HFL⟩ := nameIt (flB l y i j)
  rw [HFL.out] at HLE
  rw [HFL.out]
  have HHW := Lib.hid (hhw y)
  obtain ⟨o, HO⟩ := nameIt (sv y)
  rw [HO.out] at HFR HHW
  obtain ⟨hy1, HHY⟩ := nameIt (hw y)
  rw [HHY.out] at HHW
  rw [HHY.out]
  obtain ⟨yt, HYT⟩ := nameIt y.term
  obtain ⟨yn, HYN⟩ := nameIt y.n
  rw [HYT.out, HYN.out] at HY0 HW HLE HFR
  rw [HYT.out, HYN.out]
  obtain ⟨rb, HRB⟩ := nameIt (fl && (yt || decide ((N : Int) ≤ yn) || hy1))
  rw [HRB.out]
  obtain ⟨PST, HPS⟩ := nameIt (fun (e : Ending) (w' : World) => ∃ x, e = .returned x ∧ VR (fun k => P k ∨ W'.heap.size ≤ k) w' x (if rb then some zero else none) ∧ Below W'.heap.size W' w')
  have HEND : Hid (∀ w3 r, rb = r → Below w0.heap.size w0 w3 → PST (.returned (.agg #[.bool r, .int .i64 0, .int .i64 0, .slice none 0 0])) ((((w3.setCell ⟨W'.heap.size + 1, 0, none⟩ (.bool r)).setCell ⟨W'.heap.size + 1, 0 + 1, none⟩ (.int .i64 0)).setCell ⟨W'.heap.size + 1, 0 + 2, none⟩ (.int .i64 0)).setCell ⟨W'.heap.size + 1, 0 + 3, none⟩ (.slice none 0 0))) := by
    intro w3 r hr hb3
    subst hr
    have hg := grown_cell4 w3 (W'.heap.size + 1) (.bool rb) (.int .i64 0) (.int .i64 0) (.slice none 0 0)
    have hB : Below W'.heap.size W' w3 := HB0.out.trans (hb3.mono HB0.out.size)
    rw [← HPS.out]
    exact ⟨_, rfl, vr_zero _ _ rb, hB.grown hg hB.size (fun k e => by cases e; omega)⟩
  rw [HPS.out]
  clear hw0 hb0 hb hb1 hbg hbf hbl hrl hfr HPS hy hhw hij hj
  obtain ⟨y0, y1⟩ := bx_cells2 HY0.out
  have c0 := bx_cells1 H1.out
  go_enter Try.func86, Try.ntmps86
  go_upto_region 1 with fail
  rw [HW.out]
  clear HW
  go_wp2_with fail
  refine HLE.out.mono ?_
  rintro e w1 ⟨rfl, hb1⟩
  obtain ⟨w2, HW2⟩ := nameIt (w1.alloc (.cells #[.bool fl, .int .i64 0, .int .i64 0, .slice none 0 0] 36))
  have hb2 : Below w1.heap.size w1 w2 := by rw [← HW2.out]; exact (Below.refl _ _).alloc (Nat.le_refl _) _
  have HX2 : Hid (w2.heap[w1.heap.size]? = some (.cells #[.bool fl, .int .i64 0, .int .i64 0, .slice none 0 0] 36 (0, 0))) := by rw [← HW2.out]; exact bx_new _ _ _ rfl
  have HB2 : Hid (Below w0.heap.size w0 w2) := hb1.trans (hb2.mono hb1.size)
  have HQ : Hid (w0.heap.size ≤ w1.heap.size) := hb1.size
  obtain ⟨q, HQN⟩ := nameIt w1.heap.size
  rw [HQN.out] at HX2 HQ
  clear y0 y1 c0 hb1 hb2
  go_upto_region 2 with fail
  rw [HW2.out, HQN.out]
  clear HW2
  obtain ⟨y0, y1⟩ := bx_cells2 (bx_keep HY0.out HB2.out)
  obtain ⟨g0, g1, g2, g3⟩ := bx_cells4 (bx_keep HG.out HB2.out)
  by_cases hcase : yt = false ∧ yn < (N : Int)
  · obtain ⟨rfl, hlt⟩ := hcase
    have hd : decide (yn < (N : Int)) = true := by simp; omega
    have HFR2 := Lib.hid (HFR.out rfl hlt)
    obtain ⟨x0, x1, x2, x3⟩ := bx_cells4 HX2.out
    have c0 := bx_cells1 (bx_keep HF.out HB2.out)
    cases fl with
    | false =>
      have hr : rb = false := by rw [← HRB.out]; rfl
      obtain ⟨f0, f1, f2, f3⟩ := bx_free4 HX2.out
      have hx3 : (w2.setCell ⟨q, 0, none⟩ (.bool false)).heap[q]? = some (.cells #[.bool false, .int .i64 0, .int .i64 0, .slice none 0 0] 36 (0, 0)) := by rw [bx_set HX2.out]; rfl
      have hb3 : Below w0.heap.size w0 (w2.setCell ⟨q, 0, none⟩ (.bool false)) := HB2.out.setCell (p := ⟨q, 0, none⟩) HQ.out _
      obtain ⟨w3, HW3⟩ := nameIt (w2.setCell ⟨q, 0, none⟩ (.bool false))
      rw [HW3.out] at hx3 hb3
      have HX3 := Lib.hid hx3
      have HB3 := Lib.hid hb3
      clear hx3 hb3
      go_upto_region 4 with fail
      rw [HW3.out]
      clear HW3 x0 x1 x2 x3 f0 f1 f2 f3
      have HE := Lib.hid (HEND.out w3 false hr HB3.out)
      obtain ⟨x0, x1, x2, x3⟩ := bx_cells4 HX3.out
      obtain ⟨z0, z1, z2, z3⟩ := bx_cells4 (bx_keep HZ0.out HB3.out)
      obtain ⟨f0, f1, f2, f3⟩ := bx_free4 (bx_keep HZ0.out HB3.out)
      clear hr
      go_wp2_with fail
      exact bodyPost_ret (v := .agg #[.bool false, .int .i64 0, .int .i64 0, .slice none 0 0]) (by simp [results, Try.results86, go_sem, z0, z1, z2, z3]) rfl HE.out
    | true =>
      have hr : rb = o.isSome := by
        rw [← HRB.out, HHW.out]
        have : decide ((N : Int) ≤ yn) = false := by simp; omega
        simp [this]
      go_wp2_with fail
      refine (HFR2.out w2 HB2.out).mono ?_
      rintro e w4 ⟨x, rfl, hv, hb4⟩
      obtain ⟨a1, m1, k1, rfl, hrd⟩ := vr_form hv
      have hX4 := bx_keep HX2.out hb4
      have HB4 : Hid (Below w0.heap.size w0 w4) := HB2.out.trans (hb4.mono HB2.out.size)
      have hfl := valField o.isSome (oC o) (oN o) (.slice a1 m1 k1) w4
      have hx3 : (w4.setCell ⟨q, 0, none⟩ (.bool o.isSome)).heap[q]? = some (.cells #[.bool o.isSome, .int .i64 0, .int .i64 0, .slice none 0 0] 36 (0, 0)) := by rw [bx_set hX4]; rfl
      have hb3 : Below w0.heap.size w0 (w4.setCell ⟨q, 0, none⟩ (.bool o.isSome)) := HB4.out.setCell (p := ⟨q, 0, none⟩) HQ.out _
      clear x0 x1 x2 x3
      obtain ⟨x0, x1, x2, x3⟩ := bx_cells4 hX4
      obtain ⟨f0, f1, f2, f3⟩ := bx_free4 hX4
      obtain ⟨w3, HW3⟩ := nameIt (w4.setCell ⟨q, 0, none⟩ (.bool o.isSome))
      rw [HW3.out] at hx3 hb3
      have HX3 := Lib.hid hx3
      have HB3 := Lib.hid hb3
      have HRR := Lib.hid hr
      clear hx3 hb3 hv hb4 hrd hX4 hr
      go_upto_region 4 with fail
      rw [HW3.out]
      clear HW3 x0 x1 x2 x3 f0 f1 f2 f3
      have HE := Lib.hid (HEND.out w3 o.isSome HRR.out HB3.out)
      obtain ⟨x0, x1, x2, x3⟩ := bx_cells4 HX3.out
      obtain ⟨z0, z1, z2, z3⟩ := bx_cells4 (bx_keep HZ0.out HB3.out)
      obtain ⟨f0, f1, f2, f3⟩ := bx_free4 (bx_keep HZ0.out HB3.out)
      go_wp2_with fail
      exact bodyPost_ret (v := .agg #[.bool o.isSome, .int .i64 0, .int .i64 0, .slice none 0 0]) (by simp [results, Try.results86, go_sem, z0, z1, z2, z3]) rfl HE.out
  · have hrb : rb = fl := by
      rw [← HRB.out]
      cases yt with
      | true => simp
      | false =>
        have : (N : Int) ≤ yn := by
          rcases Int.lt_or_le yn N with h | h
          · exact absurd ⟨rfl, h⟩ hcase
          · exact h
        simp [this]
    have HE := Lib.hid (HEND.out w2 fl hrb HB2.out)
    obtain ⟨x0, x1, x2, x3⟩ := bx_cells4 HX2.out
    obtain ⟨z0, z1, z2, z3⟩ := bx_cells4 (bx_keep HZ0.out HB2.out)
    obtain ⟨f0, f1, f2, f3⟩ := bx_free4 (bx_keep HZ0.out HB2.out)
    cases yt with
    | true =>
      clear hcase hrb
      go_wp2_with fail
      exact bodyPost_ret (v := .agg #[.bool fl, .int .i64 0, .int .i64 0, .slice none 0 0]) (by simp [results, Try.results86, go_sem, z0, z1, z2, z3]) rfl HE.out
    | false =>
      have hd : decide (yn < (N : Int)) = false := by
        simp
        rcases Int.lt_or_le yn N with h | h
        · exact absurd ⟨rfl, h⟩ hcase
        · exact h
      clear hcase hrb
      go_wp2_with fail
      exact bodyPost_ret (v := .agg #[.bool fl, .int .i64 0, .int .i64 0, .slice none 0 0]) (by simp [results, Try.results86, go_sem, z0, z1, z2, z3]) rfl HE.out
end Ho
end Go.Proofs.Ytjpmebppdcclbaa
namespace Go.Proofs.Ytjpmebppdcclbaa
open Go.RowKit
namespace Ho
open Rp Hl
open Ht hiding D
def BegPost (K : List Rule) (N tm : Nat) (st : Int) (l : List Sym) (W : World) (e : Ending) (w' : World) : Prop :=
  ∃ S b, ShT K N tm S ∧ e = .returned (.bool b) ∧ (b = true ↔ hwOf K N tm ⟨false, st⟩ = true ∧ Dx (KO K N (hwOf K N tm)) (lfB (hwOf K N tm) N l) ⟨false, st + (N : Int)⟩ 0 l.length) ∧ Below W.heap.size W w'
set_option maxHeartbeats 16000000 in
set_option maxRecDepth 100000 in
theorem beginsE (K : List Rule) (N tm st : Nat) (hN : N ≤ 10) (htm : tm ≤ 100) (hsN : st < N) (hK : KG N K (Hl.okS N tm)) (hr4 : ∀ r ∈ K, r.right.length ≤ 4) (hkl : K.length ≤ 100) (l : List Sym) (hl : l.length ≤ 13) (gt : Int) (ga : Option Addr) (gc : Nat) (la : Option Addr) (lk : Nat) (W : World) (hgr : Rd AnyB W (.sl (K.map Rule.d)) [.slice ga K.length gc]) (hrl : Rd AnyB W (.sl (l.map Sym.d)) [.slice la l.length lk]) :
    Calls Try.prog 49 #[.agg #[.int .i64 gt, .int .i64 (N : Int), .int .i64 (st : Int), .slice ga K.length gc], .slice la l.length lk] W (BegPost K N tm (st : Int) l W) := by
  obtain ⟨w0, HW⟩ := nameIt ((W.alloc (.cells #[.int .i64 gt, .int .i64 (N : Int), .int .i64 (st : Int), .slice ga K.length gc] 24)).alloc (.cells #[.slice la l.length lk] 47))
  have hw0 : Below W.heap.size W w0 := by
    rw [← HW.out]
    exact ((Below.refl _ _).alloc (Nat.le_refl _) _).alloc (by simp) _
  have HG0 : Hid (w0.heap[W.heap.size]? = some (.cells #[.int .i64 gt, .int .i64 (N : Int), .int .i64 (st : Int), .slice ga K.length gc] 24 (0, 0))) := by
    rw [← HW.out]; exact bx_keep (bx_new _ _ _ rfl) ((Below.refl _ _).alloc (Nat.le_refl _) _)
  have HQ0 : Hid (w0.heap[W.heap.size + 1]? = some (.cells #[.slice la l.length lk] 47 (0, 0))) := by
    rw [← HW.out]; exact bx_new _ _ _ (by simp)
  have HB0 := Lib.hid hw0
  have hoks : ∀ s, Hl.okS N tm s → okN s.n := fun s hs => by
    obtain ⟨h1, h2, h3⟩ := hs
    cases ht : s.term with
    | true => have := h2 ht; exact ⟨h1, by omega⟩
    | false => have := h3 ht; exact ⟨h1, by omega⟩
  have hoks2 : ∀ s, Hl.okS (2 * N) tm s → okN s.n := fun s hs => by
    obtain ⟨h1, h2, h3⟩ := hs
    cases ht : s.term with
    | true => have := h2 ht; exact ⟨h1, by omega⟩
    | false => have := h3 ht; exact ⟨h1, by omega⟩
  have hgr0 := hgr.below hw0
  have hrl0 := hrl.below hw0
  have HSH : Hid (∀ W', Below w0.heap.size w0 W' → Calls Try.prog 15 #[.agg #[.int .i64 gt, .int .i64 (N : Int), .int .i64 (st : Int), .slice ga K.length gc]] W' fun e w' => ∃ T W1 b, e = .returned (.func (.func 48) #[] #[.pointer (some ⟨b, 0, none⟩)]) ∧ ShT K N tm T ∧ ShM W1 gt (N : Int) (st : Int) (.slice ga K.length gc) T b w' ∧ Below W'.heap.size W' W1 ∧ Below W'.heap.size W' w') :=
    fun W' hb => shortE K N tm hN htm hK hr4 gt (N : Int) (st : Int) ga gc W' (hgr0.below hb)
  have HOP : Hid (∀ W', Below w0.heap.size w0 W' → Calls Try.prog 87 #[.agg #[.int .i64 gt, .int .i64 (N : Int), .int .i64 (st : Int), .slice ga K.length gc]] W' (OpenPost K N tm gt (st : Int) W')) :=
    fun W' hb => openE K N tm st hN htm hsN hK hr4 hkl gt ga gc W' (hgr0.below hb)
  have HFRF : Hid (∀ S W1 b w1 w2, ShT K N tm S → ShM W1 gt (N : Int) (st : Int) (.slice ga K.length gc) S b w1 → Below w1.heap.size w1 w2 → FreeFn 48 #[.pointer (some ⟨b, 0, none⟩)] (svOf K N tm) (Hl.okS N tm) (fun k => W1.heap.size ≤ k ∧ k < w1.heap.size) w2) := by
    intro S W1 b w1 w2 hS hM hb12 W' y hy hb
    obtain ⟨hcg, hjs, hcl⟩ := hS
    have := freeE hM (Hl.okS N tm) hoks W' y hy (hb12.trans (hb.mono hb12.size))
    rw [show (fun y => ofT leafS S y 0 0) y = svOf K N tm y from sv_eqT hcg hcl y] at this
    exact this
  have hst0 : Hl.okS N tm ⟨false, (st : Int)⟩ := ⟨by show (0 : Int) ≤ (st : Int); omega, (fun e => by cases e), fun _ => by show (st : Int) < (N : Int); omega⟩
  -- solve and of, behind everything
  have HSO : Hid (∀ w6 fb fbk b1 bf P oa oc, Below w0.heap.size w0 w6 → FreeFn 48 fb (svOf K N tm) (Hl.okS N tm) P w6 → (∀ k, P k → k < w6.heap.size) → w6.heap[b1]? = some (.cells #[.func (.func 85) #[] #[.pointer (some ⟨W.heap.size + 1, 0, none⟩)]] 81 (0, 0)) → w6.heap[bf]? = some (.cells #[.func (.func 48) #[] fb] 41 (0, 0)) → fbk = #[.pointer (some ⟨b1, 0, none⟩), .pointer (some ⟨W.heap.size, 0, none⟩), .pointer (some ⟨bf, 0, none⟩)] → Rd AnyB w6 (.sl ((KO K N (hwOf K N tm)).map Rule.d)) [.slice oa (KO K N (hwOf K N tm)).length oc] → ∀ W', Below w6.heap.size w6 W' →
      Calls Try.prog 41 #[.agg #[.int .i64 gt, .int .i64 ((2 * N : Nat) : Int), .int .i64 ((st : Int) + (N : Int)), .slice oa (KO K N (hwOf K N tm)).length oc], .int .i64 (l.length : Nat), .func (.func 86) #[] fbk, .func (.func 88) #[] #[]] W' fun e w' =>
        ∃ o : Option Val, (o.isSome = true ↔ Dx (KO K N (hwOf K N tm)) (lfB (hwOf K N tm) N l) ⟨false, (st : Int) + (N : Int)⟩ 0 l.length) ∧ e = .returned (.pointer (some ⟨W'.heap.size + 2, 0, none⟩)) ∧ Below w6.heap.size w6 w' ∧ ∀ W2, Below w'.heap.size w' W2 → Calls Try.prog 42 #[.pointer (some ⟨W'.heap.size + 2, 0, none⟩), .agg #[.bool false, .int .i64 ((st : Int) + (N : Int))], .int .i64 0, .int .i64 (l.length : Nat)] W2 fun e w3 => ∃ x, e = .returned x ∧ VR AnyB w3 x o ∧ Below W2.heap.size W2 w3) := by
    intro w6 fb fbk b1 bf P oa oc hb6 hfr hP h1 hf hfbk hro W' hb'
    subst hfbk
    have hlf : LeafFn 86 #[.pointer (some ⟨b1, 0, none⟩), .pointer (some ⟨W.heap.size, 0, none⟩), .pointer (some ⟨bf, 0, none⟩)] (leafB (hwOf K N tm) N l) (Hl.okS (2 * N) tm) l.length P W' :=
      someE _ fb eg48 (svOf K N tm) (hwOf K N tm) (fun _ => rfl) N tm l hl P b1 W.heap.size bf (W.heap.size + 1) gt (st : Int) (.slice ga K.length gc) la lk W' (bx_keep h1 hb') (bx_keep (bx_keep HG0.out hb6) hb') (bx_keep hf hb') (bx_keep (bx_keep HQ0.out hb6) hb') ((hrl0.below hb6).below hb') (fun W2 y hy h2 => hfr W2 y hy (hb'.trans (h2.mono hb'.size)))
    have hP' : ∀ k, P k → k < W'.heap.size := fun k hk => Nat.lt_of_lt_of_le (hP k hk) hb'.size
    have hKO := ko_ok (hw := hwOf K N tm) hK
    refine (solveE _ _ (leafB (hwOf K N tm) N l) _ _ emH (Hl.okS (2 * N) tm) l.length _ P W' eg86 eg88 hlf (empB _ _ _) hP' (by omega) (by omega) (KO K N (hwOf K N tm)) gt ((2 * N : Nat) : Int) ((st : Int) + (N : Int)) (.slice oa (KO K N (hwOf K N tm)).length oc) (hro.below hb') (fun r hr => by
      obtain ⟨h1, h2, h3⟩ := hKO r hr
      exact ⟨⟨h1, by omega⟩, ko_len hr4 r hr, h3⟩) hoks2 _ _ (planB hKO)).mono ?_
    rintro e w' ⟨T, rfl, ⟨hct, -⟩, hcl2, hsm⟩
    refine ⟨ofT (leafB (hwOf K N tm) N l) T ⟨false, (st : Int) + (N : Int)⟩ 0 l.length, bv_iff hct hcl2 _ (Nat.zero_le _) (Nat.le_refl _), rfl, hb'.trans (hsm.bel.mono hb'.size), fun W2 hb2 => ?_⟩
    have hst : Hl.okS (2 * N) tm ⟨false, (st : Int) + (N : Int)⟩ := ⟨by show (0 : Int) ≤ (st : Int) + (N : Int); omega, (fun e => by cases e), fun _ => by show (st : Int) + (N : Int) < ((2 * N : Nat) : Int); omega⟩
    refine (hsm.ofFn eg86 hlf hP' (by omega) hoks2 W2 ⟨false, (st : Int) + (N : Int)⟩ 0 l.length hst (by omega) (Nat.le_refl _) hb2).mono ?_
    rintro e w3 ⟨x, h1, h2, h3⟩
    exact ⟨x, h1, h2.mono (fun k hk _ => trivial), h3⟩
  obtain ⟨PST, HP⟩ := nameIt (BegPost K N tm (st : Int) l W)
  have HFIN : Hid (∀ S b w', ShT K N tm S → (b = true ↔ hwOf K N tm ⟨false, (st : Int)⟩ = true ∧ Dx (KO K N (hwOf K N tm)) (lfB (hwOf K N tm) N l) ⟨false, (st : Int) + (N : Int)⟩ 0 l.length) → Below w0.heap.size w0 w' → PST (.returned (.bool b)) w') := by
    intro S b w' h1 h2 h3
    rw [← HP.out]
    exact ⟨S, b, h1, rfl, h2, HB0.out.trans (h3.mono HB0.out.size)⟩
  rw [HP.out]
  have HFO : Hid (∀ w fb P, FreeFn 48 fb (svOf K N tm) (Hl.okS N tm) P w → Calls Try.prog 48 (#[.agg #[.bool false, .int .i64 (st : Int)]] ++ fb) w fun e w' => ∃ x, e = .returned x ∧ VR (fun k => P k ∨ w.heap.size ≤ k) w' x (svOf K N tm ⟨false, (st : Int)⟩) ∧ Below w.heap.size w w') := fun w fb P h => h w ⟨false, (st : Int)⟩ hst0 (Below.refl _ _)
  have HHW : Hid (hwOf K N tm ⟨false, (st : Int)⟩ = (svOf K N tm ⟨false, (st : Int)⟩).isSome) := rfl
  obtain ⟨o0, HO0⟩ := nameIt (svOf K N tm ⟨false, (st : Int)⟩)
  rw [HO0.out] at HFO HHW
  obtain ⟨hw, HHWN⟩ := nameIt (hwOf K N tm)
  obtain ⟨s2, HS2⟩ := nameIt ((st : Int) + (N : Int))
  obtain ⟨n2, HN2⟩ := nameIt ((2 * N : Nat) : Int)
  obtain ⟨kn, HKN⟩ := nameIt K.length
  obtain ⟨ln, HLN⟩ := nameIt l.length
  have HOP2 : Hid (∀ W', Below w0.heap.size w0 W' → Calls Try.prog 87 #[.agg #[.int .i64 gt, .int .i64 (N : Int), .int .i64 (st : Int), .slice ga kn gc]] W' fun e w' => ∃ a c, e = .returned (.agg #[.int .i64 gt, .int .i64 n2, .int .i64 s2, .slice a (KO K N hw).length c]) ∧ Rd AnyB w' (.sl ((KO K N hw).map Rule.d)) [.slice a (KO K N hw).length c] ∧ Below W'.heap.size W' w') := by
    intro W' hb
    have := HOP.out W' hb
    rw [HKN.out] at this
    refine this.mono ?_
    rintro e w' ⟨S, a, c, -, h1, h2, h3⟩
    rw [HHWN.out, HS2.out, HN2.out] at h1
    rw [HHWN.out] at h2
    exact ⟨a, c, h1, h2, h3⟩
  rw [HHWN.out, HS2.out, HN2.out, HLN.out] at HSO
  rw [HHWN.out, HS2.out, HLN.out] at HFIN
  rw [HHWN.out] at HHW
  obtain ⟨on, HON⟩ := nameIt (KO K N hw).length
  simp only [HON.out] at HSO HOP2
  rw [HKN.out] at HW HG0 HSH HFRF
  rw [HLN.out] at HW HQ0
  rw [HKN.out, HLN.out]
  clear hw0 hgr0 hrl0 hgr hrl hoks hoks2 hK hr4 HP HOP hst0
  go_enter Try.func49, Try.ntmps49
  go_upto_region 1 with fail
  rw [HW.out]
  clear HW
  have HCG : Hid (∀ w', Below w0.heap.size w0 w' → w'.cell? ⟨W.heap.size, 0, none⟩ = some (.int .i64 gt) ∧ w'.cell? ⟨W.heap.size, 0 + 1, none⟩ = some (.int .i64 (N : Int)) ∧ w'.cell? ⟨W.heap.size, 0 + 2, none⟩ = some (.int .i64 (st : Int)) ∧ w'.cell? ⟨W.heap.size, 0 + 3, none⟩ = some (.slice ga kn gc)) := by
    intro w' hb'
    exact bx_cells4 (bx_keep HG0.out hb')
  obtain ⟨bb, HBBN⟩ := nameIt o0.isSome
  refine wp_region_U (S := (fun w' => w'.cell? ⟨W.heap.size, 0, none⟩ = some (.int .i64 gt) ∧ w'.cell? ⟨W.heap.size, 0 + 1, none⟩ = some (.int .i64 (N : Int)) ∧ w'.cell? ⟨W.heap.size, 0 + 2, none⟩ = some (.int .i64 (st : Int)) ∧ w'.cell? ⟨W.heap.size, 0 + 3, none⟩ = some (.slice ga kn gc))) 5 (by kernel_rfl) (fun inv => ?_)
  refine wpU_take (i := 0) (v := .agg #[.int .i64 gt, .int .i64 (N : Int), .int .i64 (st : Int), .slice ga kn gc]) rfl inv (by kernel_rfl) (by kernel_rfl) (by decide) (by decide) (by kernel_rfl) (by kernel_rfl) (by kernel_rfl) (fun _ _ _ h => h) (Or.inl ⟨by rfl, fun w' hw' => ?_⟩) (HCG.out _ (Below.refl _ _).drew) (fun inv => ?_)
  · obtain ⟨h0, h1, h2, h3⟩ := hw'
    go_simp
  try simp only [Act.put, List.setIfInBounds_toArray, List.set_cons_zero, List.set_cons_succ]
  refine wpU_take (i := 2) (v := .pointer (some ⟨W.heap.size, 0 + 2, none⟩)) rfl inv (by kernel_rfl) (by kernel_rfl) (by decide) (by decide) (by kernel_rfl) (by kernel_rfl) (by kernel_rfl) (fun _ _ _ h => h) (Or.inl ⟨by rfl, fun w' hw' => ?_⟩) (HCG.out _ (Below.refl _ _).drew) (fun inv => ?_)
  · obtain ⟨h0, h1, h2, h3⟩ := hw'
    go_simp
  try simp only [Act.put, List.setIfInBounds_toArray, List.set_cons_zero, List.set_cons_succ]
  refine wpU_take (i := 3) (v := .int .i64 (st : Int)) rfl inv (by kernel_rfl) (by kernel_rfl) (by decide) (by decide) (by kernel_rfl) (by kernel_rfl) (by kernel_rfl) (fun _ _ _ h => h) (Or.inl ⟨by rfl, fun w' hw' => ?_⟩) (HCG.out _ (Below.refl _ _).drew) (fun inv => ?_)
  · obtain ⟨h0, h1, h2, h3⟩ := hw'
    go_simp
  try simp only [Act.put, List.setIfInBounds_toArray, List.set_cons_zero, List.set_cons_succ]
  refine wpU_take (i := 4) (v := .agg #[.bool false, .int .i64 (st : Int)]) rfl inv (by kernel_rfl) (by kernel_rfl) (by decide) (by decide) (by kernel_rfl) (by kernel_rfl) (by kernel_rfl) (fun _ _ _ h => h) (Or.inl ⟨by rfl, fun w' hw' => ?_⟩) (HCG.out _ (Below.refl _ _).drew) (fun inv => ?_)
  · obtain ⟨h0, h1, h2, h3⟩ := hw'
    go_simp
  try simp only [Act.put, List.setIfInBounds_toArray, List.set_cons_zero, List.set_cons_succ]
  refine wpU_one (i := 1) (by kernel_rfl) rfl (fun K hK => ?_)
  replace inv := inv_setc (i := 1) inv (by kernel_rfl) (by decide)
  go_simp
  refine (HSH.out _ (Below.refl w0.heap.size w0).drew).mono ?_
  rintro e w1 ⟨S, W1, b, rfl, hS, hM, hb1, hb01⟩
  have HB1 : Hid (Below w0.heap.size w0 w1) := (Below.refl w0.heap.size w0).drew.trans (hb01.mono (by simp))
  have HSS := Lib.hid hS
  have HF1 := Lib.hid (HFO.out w1 _ _ (HFRF.out S W1 b w1 w1 hS hM (Below.refl _ _)))
  clear hS hM hb1 hb01
  refine hK.out _ _ (fun _ => HCG.out _ HB1.out) ?_
  clear hK K
  try simp only [Act.put, List.setIfInBounds_toArray, List.set_cons_zero, List.set_cons_succ]
  refine wpU_one (i := 5) (by kernel_rfl) rfl (fun K hK => ?_)
  go_simp
  refine HF1.out.mono ?_
  rintro e w2 ⟨x, rfl, hv, hb2⟩
  obtain ⟨a1, m1, k1, rfl, hrd⟩ := vr_form hv
  have HB2 : Hid (Below w0.heap.size w0 w2) := HB1.out.trans (hb2.mono HB1.out.size)
  have hfl := valField bb (oC o0) (oN o0) (.slice a1 m1 k1)
  rw [HBBN.out]
  clear hv hb2 hrd
  refine hK.out _ _ (fun h => absurd (show true = false from h) (by decide)) ?_
  clear hK K
  try simp only [Act.put, List.setIfInBounds_toArray, List.set_cons_zero, List.set_cons_succ]
  refine wpU_one (i := 6) (by kernel_rfl) rfl (fun K hK => ?_)
  go_simp
  refine hK.out _ _ (fun h => absurd (show true = false from h) (by decide)) ?_
  clear hK K
  try simp only [Act.put, List.setIfInBounds_toArray, List.set_cons_zero, List.set_cons_succ]
  refine wpU_one (i := 7) (by kernel_rfl) rfl (fun K hK => ?_)
  go_simp
  refine hK.out _ _ (fun h => absurd (show true = false from h) (by decide)) ?_
  clear hK K
  try simp only [Act.put, List.setIfInBounds_toArray, List.set_cons_zero, List.set_cons_succ]
  refine wpU_done (by kernel_rfl) ?_ _
  cases bb with
  | false =>
    have HE := Lib.hid (HFIN.out S false w2 HSS.out ⟨fun h => (by cases h), fun h => by have := h.1; rw [HHW.out, HBBN.out] at this; cases this⟩ HB2.out)
    clear HSO HFRF HOP2 HSH
    go_wp2_with fail
    exact HE.out
  | true =>
    have HHW1 : Hid (hw ⟨false, (st : Int)⟩ = true) := by show _ = _; rw [HHW.out, HBBN.out]
    obtain ⟨w3, HW3⟩ := nameIt (w2.alloc (.cells #[.func (.func 85) #[] #[.pointer (some ⟨W.heap.size + 1, 0, none⟩)]] 81))
    have hb3 : Below w2.heap.size w2 w3 := by rw [← HW3.out]; exact (Below.refl _ _).alloc (Nat.le_refl _) _
    have X3 : Hid (w3.heap[w2.heap.size]? = some (.cells #[.func (.func 85) #[] #[.pointer (some ⟨W.heap.size + 1, 0, none⟩)]] 81 (0, 0))) := by rw [← HW3.out]; exact bx_new _ _ _ rfl
    have HB3 : Hid (Below w0.heap.size w0 w3) := HB2.out.trans (hb3.mono HB2.out.size)
    obtain ⟨b1, HB1N⟩ := nameIt w2.heap.size
    rw [HB1N.out] at X3
    clear hb3
    go_upto_region 4 with fail
    rw [HW3.out, HB1N.out]
    clear HW3
    obtain ⟨x0, x1, x2, x3⟩ := HCG.out _ HB3.out
    go_wp2_with fail
    refine (HSH.out _ HB3.out).mono ?_
    rintro e w4 ⟨S4, W4, b4, rfl, hS4, hM4, hb4, hb34⟩
    obtain ⟨w5, HW5⟩ := nameIt (w4.alloc (.cells #[.func (.func 48) #[] #[.pointer (some ⟨b4, 0, none⟩)]] 41))
    have hb5 : Below w4.heap.size w4 w5 := by rw [← HW5.out]; exact (Below.refl _ _).alloc (Nat.le_refl _) _
    have X5 : Hid (w5.heap[w4.heap.size]? = some (.cells #[.func (.func 48) #[] #[.pointer (some ⟨b4, 0, none⟩)]] 41 (0, 0))) := by rw [← HW5.out]; exact bx_new _ _ _ rfl
    have HB35 : Hid (Below w3.heap.size w3 w5) := hb34.trans (hb5.mono hb34.size)
    have HB5 : Hid (Below w0.heap.size w0 w5) := HB3.out.trans (HB35.out.mono HB3.out.size)
    have HFR5 := Lib.hid (HFRF.out S4 W4 b4 w4 w5 hS4 hM4 hb5)
    have HPP : Hid (∀ k, (W4.heap.size ≤ k ∧ k < w4.heap.size) → k < w5.heap.size) := fun k hk => Nat.lt_of_lt_of_le hk.2 hb5.size
    obtain ⟨bf, HBFN⟩ := nameIt w4.heap.size
    rw [HBFN.out] at X5
    clear x0 x1 x2 x3 hS4 hM4 hb4 hb34 hb5 HSH HFRF
    go_upto_region 6 with fail
    rw [HW5.out, HBFN.out]
    clear HW5
    obtain ⟨x0, x1, x2, x3⟩ := HCG.out _ HB5.out
    go_wp2_with fail
    refine (HOP2.out _ HB5.out).mono ?_
    rintro e w6 ⟨oa, oc, rfl, hro, hb56⟩
    obtain ⟨w7, HW7⟩ := nameIt (w6.alloc (.cells #[.int .i64 gt, .int .i64 n2, .int .i64 s2, .slice oa on oc] 24))
    have hb7 : Below w6.heap.size w6 w7 := by rw [← HW7.out]; exact (Below.refl _ _).alloc (Nat.le_refl _) _
    have X7 : Hid (w7.heap[w6.heap.size]? = some (.cells #[.int .i64 gt, .int .i64 n2, .int .i64 s2, .slice oa on oc] 24 (0, 0))) := by rw [← HW7.out]; exact bx_new _ _ _ rfl
    have HB57 : Hid (Below w5.heap.size w5 w7) := hb56.trans (hb7.mono hb56.size)
    have HB7 : Hid (Below w0.heap.size w0 w7) := HB5.out.trans (HB57.out.mono HB5.out.size)
    have hso := HSO.out w7 #[.pointer (some ⟨b4, 0, none⟩)] #[.pointer (some ⟨b1, 0, none⟩), .pointer (some ⟨W.heap.size, 0, none⟩), .pointer (some ⟨bf, 0, none⟩)] b1 bf (fun k => W4.heap.size ≤ k ∧ k < w4.heap.size) oa oc HB7.out (fun W2 y hy h2 => HFR5.out W2 y hy (HB57.out.trans (h2.mono HB57.out.size))) (fun k hk => Nat.lt_of_lt_of_le (HPP.out k hk) HB57.out.size) (bx_keep (bx_keep X3.out HB35.out) HB57.out) (bx_keep X5.out HB57.out) rfl (hro.below hb7)
    have HSV := Lib.hid hso
    obtain ⟨ob, HOBN⟩ := nameIt w6.heap.size
    rw [HOBN.out] at X7
    clear x0 x1 x2 x3 hro hb56 hb7 hso HSO HOP2 HFR5 HPP
    go_upto_region 7 with fail
    rw [HW7.out, HOBN.out]
    clear HW7
    have HCS : Hid (∀ w', Below w7.heap.size w7 w' → w'.cell? ⟨ob, 0, none⟩ = some (.int .i64 gt) ∧ w'.cell? ⟨ob, 0 + 1, none⟩ = some (.int .i64 n2) ∧ w'.cell? ⟨ob, 0 + 2, none⟩ = some (.int .i64 s2) ∧ w'.cell? ⟨ob, 0 + 3, none⟩ = some (.slice oa on oc) ∧ w'.cell? ⟨W.heap.size + 1, 0, none⟩ = some (.slice la ln lk)) := by
      intro w' hb'
      obtain ⟨h1, h2, h3, h4⟩ := bx_cells4 (bx_keep X7.out hb')
      exact ⟨h1, h2, h3, h4, bx_cells1 (bx_keep (bx_keep HQ0.out HB7.out) hb')⟩
    refine wp_region_U (S := (fun w' => w'.cell? ⟨ob, 0, none⟩ = some (.int .i64 gt) ∧ w'.cell? ⟨ob, 0 + 1, none⟩ = some (.int .i64 n2) ∧ w'.cell? ⟨ob, 0 + 2, none⟩ = some (.int .i64 s2) ∧ w'.cell? ⟨ob, 0 + 3, none⟩ = some (.slice oa on oc) ∧ w'.cell? ⟨W.heap.size + 1, 0, none⟩ = some (.slice la ln lk))) 10 (by kernel_rfl) (fun inv => ?_)
    refine wpU_take (i := 0) (v := .agg #[.int .i64 gt, .int .i64 n2, .int .i64 s2, .slice oa on oc]) rfl inv (by kernel_rfl) (by kernel_rfl) (by decide) (by decide) (by kernel_rfl) (by kernel_rfl) (by kernel_rfl) (fun _ _ _ h => h) (Or.inl ⟨by rfl, fun w' hw' => ?_⟩) (HCS.out _ (Below.refl _ _).drew) (fun inv => ?_)
    · obtain ⟨h0, h1, h2, h3, h4⟩ := hw'
      go_simp
    try simp only [Act.put, List.setIfInBounds_toArray, List.set_cons_zero, List.set_cons_succ]
    refine wpU_take (i := 1) (v := .slice la ln lk) rfl inv (by kernel_rfl) (by kernel_rfl) (by decide) (by decide) (by kernel_rfl) (by kernel_rfl) (by kernel_rfl) (fun _ _ _ h => h) (Or.inl ⟨by rfl, fun w' hw' => ?_⟩) (HCS.out _ (Below.refl _ _).drew) (fun inv => ?_)
    · obtain ⟨h0, h1, h2, h3, h4⟩ := hw'
      go_simp
    try simp only [Act.put, List.setIfInBounds_toArray, List.set_cons_zero, List.set_cons_succ]
    refine wpU_take (i := 2) (v := .int .i64 (ln : Nat)) rfl inv (by kernel_rfl) (by kernel_rfl) (by decide) (by decide) (by kernel_rfl) (by kernel_rfl) (by kernel_rfl) (fun _ _ _ h => h) (Or.inl ⟨by rfl, fun w' hw' => ?_⟩) (HCS.out _ (Below.refl _ _).drew) (fun inv => ?_)
    · obtain ⟨h0, h1, h2, h3, h4⟩ := hw'
      go_simp
    try simp only [Act.put, List.setIfInBounds_toArray, List.set_cons_zero, List.set_cons_succ]
    refine wpU_take (i := 3) (v := .func (.func 86) #[] #[.pointer (some ⟨b1, 0, none⟩), .pointer (some ⟨W.heap.size, 0, none⟩), .pointer (some ⟨bf, 0, none⟩)]) rfl inv (by kernel_rfl) (by kernel_rfl) (by decide) (by decide) (by kernel_rfl) (by kernel_rfl) (by kernel_rfl) (fun _ _ _ h => h) (Or.inl ⟨by rfl, fun w' hw' => ?_⟩) (HCS.out _ (Below.refl _ _).drew) (fun inv => ?_)
    · obtain ⟨h0, h1, h2, h3, h4⟩ := hw'
      go_simp
    try simp only [Act.put, List.setIfInBounds_toArray, List.set_cons_zero, List.set_cons_succ]
    refine wpU_take (i := 5) (v := .pointer (some ⟨ob, 0 + 2, none⟩)) rfl inv (by kernel_rfl) (by kernel_rfl) (by decide) (by decide) (by kernel_rfl) (by kernel_rfl) (by kernel_rfl) (fun _ _ _ h => h) (Or.inl ⟨by rfl, fun w' hw' => ?_⟩) (HCS.out _ (Below.refl _ _).drew) (fun inv => ?_)
    · obtain ⟨h0, h1, h2, h3, h4⟩ := hw'
      go_simp
    try simp only [Act.put, List.setIfInBounds_toArray, List.set_cons_zero, List.set_cons_succ]
    refine wpU_take (i := 6) (v := .int .i64 s2) rfl inv (by kernel_rfl) (by kernel_rfl) (by decide) (by decide) (by kernel_rfl) (by kernel_rfl) (by kernel_rfl) (fun _ _ _ h => h) (Or.inl ⟨by rfl, fun w' hw' => ?_⟩) (HCS.out _ (Below.refl _ _).drew) (fun inv => ?_)
    · obtain ⟨h0, h1, h2, h3, h4⟩ := hw'
      go_simp
    try simp only [Act.put, List.setIfInBounds_toArray, List.set_cons_zero, List.set_cons_succ]
    refine wpU_take (i := 7) (v := .agg #[.bool false, .int .i64 s2]) rfl inv (by kernel_rfl) (by kernel_rfl) (by decide) (by decide) (by kernel_rfl) (by kernel_rfl) (by kernel_rfl) (fun _ _ _ h => h) (Or.inl ⟨by rfl, fun w' hw' => ?_⟩) (HCS.out _ (Below.refl _ _).drew) (fun inv => ?_)
    · obtain ⟨h0, h1, h2, h3, h4⟩ := hw'
      go_simp
    try simp only [Act.put, List.setIfInBounds_toArray, List.set_cons_zero, List.set_cons_succ]
    refine wpU_take (i := 8) (v := .slice la ln lk) rfl inv (by kernel_rfl) (by kernel_rfl) (by decide) (by decide) (by kernel_rfl) (by kernel_rfl) (by kernel_rfl) (fun _ _ _ h => h) (Or.inl ⟨by rfl, fun w' hw' => ?_⟩) (HCS.out _ (Below.refl _ _).drew) (fun inv => ?_)
    · obtain ⟨h0, h1, h2, h3, h4⟩ := hw'
      go_simp
    try simp only [Act.put, List.setIfInBounds_toArray, List.set_cons_zero, List.set_cons_succ]
    refine wpU_take (i := 9) (v := .int .i64 (ln : Nat)) rfl inv (by kernel_rfl) (by kernel_rfl) (by decide) (by decide) (by kernel_rfl) (by kernel_rfl) (by kernel_rfl) (fun _ _ _ h => h) (Or.inl ⟨by rfl, fun w' hw' => ?_⟩) (HCS.out _ (Below.refl _ _).drew) (fun inv => ?_)
    · obtain ⟨h0, h1, h2, h3, h4⟩ := hw'
      go_simp
    try simp only [Act.put, List.setIfInBounds_toArray, List.set_cons_zero, List.set_cons_succ]
    refine wpU_one (i := 4) (by kernel_rfl) rfl (fun K hK => ?_)
    replace inv := inv_setc (i := 4) inv (by kernel_rfl) (by decide)
    go_simp
    refine (HSV.out _ (Below.refl w7.heap.size w7).drew).mono ?_
    rintro e w8 ⟨ov2, hov, rfl, hb8, hof⟩
    have HOV := Lib.hid hov
    have HB8 : Hid (Below w7.heap.size w7 w8) := hb8
    have HOF := Lib.hid (hof w8 (Below.refl _ _))
    clear hb8 hof hov
    refine hK.out _ _ (fun _ => HCS.out _ HB8.out) ?_
    clear hK K
    try simp only [Act.put, List.setIfInBounds_toArray, List.set_cons_zero, List.set_cons_succ]
    refine wpU_one (i := 10) (by kernel_rfl) rfl (fun K hK => ?_)
    go_simp
    refine HOF.out.mono ?_
    rintro e w9 ⟨x, rfl, hv, hb9⟩
    obtain ⟨a2, m2, k2, rfl, hrd⟩ := vr_form hv
    have HB9 : Hid (Below w0.heap.size w0 w9) := HB7.out.trans ((HB8.out.trans (hb9.mono HB8.out.size)).mono HB7.out.size)
    have hfl2 := valField ov2.isSome (oC ov2) (oN ov2) (.slice a2 m2 k2)
    clear hv hb9 hrd
    refine hK.out _ _ (fun h => absurd (show true = false from h) (by decide)) ?_
    clear hK K
    try simp only [Act.put, List.setIfInBounds_toArray, List.set_cons_zero, List.set_cons_succ]
    refine wpU_one (i := 11) (by kernel_rfl) rfl (fun K hK => ?_)
    go_simp
    refine hK.out _ _ (fun h => absurd (show true = false from h) (by decide)) ?_
    clear hK K
    try simp only [Act.put, List.setIfInBounds_toArray, List.set_cons_zero, List.set_cons_succ]
    refine wpU_one (i := 12) (by kernel_rfl) rfl (fun K hK => ?_)
    go_simp
    refine hK.out _ _ (fun h => absurd (show true = false from h) (by decide)) ?_
    clear hK K
    try simp only [Act.put, List.setIfInBounds_toArray, List.set_cons_zero, List.set_cons_succ]
    refine wpU_done (by kernel_rfl) ?_ _
    have HE := Lib.hid (HFIN.out S ov2.isSome w9 HSS.out (by
      constructor
      · intro h; exact ⟨HHW1.out, HOV.out.1 h⟩
      · intro h; exact HOV.out.2 h.2) HB9.out)
    go_wp2_with fail
    exact HE.out
end Ho
end Go.Proofs.Ytjpmebppdcclbaa
namespace Go.Proofs.Ytjpmebppdcclbaa
open Go.RowKit
namespace Ea
open Rp Hl Al
open Ht hiding D
open Ho (bls endsL EN EndsPost endsE bls_len bls_get endsL_len)
set_option maxHeartbeats 4000000 in
set_option maxRecDepth 100000 in
theorem lenBad (g : Gram) (hck : checkG g ≠ 0) (ra : Option Addr) (rcap : Nat) (w : World) (hr : Rd AnyB w (.sl (g.rules.map Rule.d)) [.slice ra g.rules.length rcap]) :
    Calls Try.prog 79 #[.agg #[.int .i64 g.terms, .int .i64 g.nons, .int .i64 g.start, .slice ra g.rules.length rcap]] w fun e w' => e = .returned (.tuple #[.slice none 0 0, .int .i64 (checkG g)]) ∧ Below w.heap.size w w' := by
  obtain ⟨w0, HW0⟩ := nameIt (w.alloc (.cells #[.int .i64 g.terms, .int .i64 g.nons, .int .i64 g.start, .slice ra g.rules.length rcap] 24))
  have hb0 : Below w.heap.size w w0 := by rw [← HW0.out]; exact (Below.refl _ _).alloc (Nat.le_refl _) _
  have X0 : Hid (w0.heap[w.heap.size]? = some (.cells #[.int .i64 g.terms, .int .i64 g.nons, .int .i64 g.start, .slice ra g.rules.length rcap] 24 (0, 0))) := by rw [← HW0.out]; exact bx_new _ _ _ rfl
  have HCK := Lib.hid (checkE g ra rcap w0 (hr.below hb0))
  have HB0 := Lib.hid hb0
  obtain ⟨gt, HGT⟩ := nameIt g.terms
  obtain ⟨gn, HGN⟩ := nameIt g.nons
  obtain ⟨gs, HGS⟩ := nameIt g.start
  obtain ⟨rl, HRL⟩ := nameIt g.rules.length
  obtain ⟨z, HZ⟩ := nameIt (checkG g)
  rw [HZ.out] at hck HCK
  rw [HGT.out, HGN.out, HGS.out, HRL.out] at HW0 X0 HCK
  rw [HGT.out, HGN.out, HGS.out, HRL.out, HZ.out]
  have b1 : (z != 0) = true := by simpa using hck
  obtain ⟨x0, x1, x2, x3⟩ := bx_cells4 X0.out
  clear hb0 hr
  go_enter Try.func79, Try.ntmps79
  go_upto_region 1 with fail
  rw [HW0.out]
  go_wp2_with fail
  with_reducible refine HCK.out.mono ?_
  clear x0 x1 x2 x3
  rintro e w1 ⟨rfl, hb1⟩
  have HF : Hid (Below w.heap.size w w1) := HB0.out.trans (hb1.mono HB0.out.size)
  clear hb1
  go_wp2_with fail
  exact bodyPost_ret (results_tmp2 Try.results79 _ _ _) rfl ⟨rfl, HF.out⟩
set_option maxHeartbeats 4000000 in
set_option maxRecDepth 100000 in
theorem endsBad (g : Gram) (hck : checkG g ≠ 0) (ra : Option Addr) (rcap : Nat) (w : World) (hr : Rd AnyB w (.sl (g.rules.map Rule.d)) [.slice ra g.rules.length rcap]) :
    Calls Try.prog 43 #[.agg #[.int .i64 g.terms, .int .i64 g.nons, .int .i64 g.start, .slice ra g.rules.length rcap]] w fun e w' => e = .returned (.tuple #[.slice none 0 0, .int .i64 (checkG g)]) ∧ Below w.heap.size w w' := by
  obtain ⟨w0, HW0⟩ := nameIt (w.alloc (.cells #[.int .i64 g.terms, .int .i64 g.nons, .int .i64 g.start, .slice ra g.rules.length rcap] 24))
  have hb0 : Below w.heap.size w w0 := by rw [← HW0.out]; exact (Below.refl _ _).alloc (Nat.le_refl _) _
  have X0 : Hid (w0.heap[w.heap.size]? = some (.cells #[.int .i64 g.terms, .int .i64 g.nons, .int .i64 g.start, .slice ra g.rules.length rcap] 24 (0, 0))) := by rw [← HW0.out]; exact bx_new _ _ _ rfl
  have HCK := Lib.hid (lenBad g hck ra rcap w0 (hr.below hb0))
  have HB0 := Lib.hid hb0
  obtain ⟨gt, HGT⟩ := nameIt g.terms
  obtain ⟨gn, HGN⟩ := nameIt g.nons
  obtain ⟨gs, HGS⟩ := nameIt g.start
  obtain ⟨rl, HRL⟩ := nameIt g.rules.length
  obtain ⟨z, HZ⟩ := nameIt (checkG g)
  rw [HZ.out] at hck HCK
  rw [HGT.out, HGN.out, HGS.out, HRL.out] at HW0 X0 HCK
  rw [HGT.out, HGN.out, HGS.out, HRL.out, HZ.out]
  have b1 : (z != 0) = true := by simpa using hck
  obtain ⟨x0, x1, x2, x3⟩ := bx_cells4 X0.out
  clear hb0 hr
  go_enter Try.func43, Try.ntmps43
  go_upto_region 1 with fail
  rw [HW0.out]
  go_wp2_with fail
  with_reducible refine HCK.out.mono ?_
  clear x0 x1 x2 x3
  rintro e w1 ⟨rfl, hb1⟩
  have HF : Hid (Below w.heap.size w w1) := HB0.out.trans (hb1.mono HB0.out.size)
  clear hb1
  go_wp2_with fail
  exact bodyPost_ret (results_tmp2 Try.results43 _ _ _) rfl ⟨rfl, HF.out⟩
section
variable (g : Gram) (l : List Int) (ga : Option Addr) (gc : Nat) (la : Option Addr) (lk : Nat) (W : World) (hgr : Rd AnyB W (.sl (g.rules.map Rule.d)) [.slice ga g.rules.length gc]) (hrl : Sl W (.slice la l.length lk) (ints l))
set_option maxHeartbeats 4000000 in
set_option maxRecDepth 100000 in
include hgr in
theorem prefBad (hck : checkG g ≠ 0) :
    Calls Try.prog 14 #[.agg #[.int .i64 g.terms, .int .i64 g.nons, .int .i64 g.start, .slice ga g.rules.length gc], .slice la l.length lk] W fun e w' => e = .returned (.tuple #[.int .i64 0, .int .i64 (checkG g)]) ∧ Below W.heap.size W w' := by
  obtain ⟨w0, HW0⟩ := nameIt (W.alloc (.cells #[.int .i64 g.terms, .int .i64 g.nons, .int .i64 g.start, .slice ga g.rules.length gc] 24))
  have hb0 : Below W.heap.size W w0 := by rw [← HW0.out]; exact (Below.refl _ _).alloc (Nat.le_refl _) _
  have X0 : Hid (w0.heap[W.heap.size]? = some (.cells #[.int .i64 g.terms, .int .i64 g.nons, .int .i64 g.start, .slice ga g.rules.length gc] 24 (0, 0))) := by rw [← HW0.out]; exact bx_new _ _ _ rfl
  have HCK := Lib.hid (endsBad g hck ga gc w0 (hgr.below hb0))
  have HB0 := Lib.hid hb0
  obtain ⟨gt, HGT⟩ := nameIt g.terms
  obtain ⟨gn, HGN⟩ := nameIt g.nons
  obtain ⟨gs, HGS⟩ := nameIt g.start
  obtain ⟨rl, HRL⟩ := nameIt g.rules.length
  obtain ⟨z, HZ⟩ := nameIt (checkG g)
  rw [HZ.out] at hck HCK
  rw [HGT.out, HGN.out, HGS.out, HRL.out] at HW0 X0 HCK
  rw [HGT.out, HGN.out, HGS.out, HRL.out, HZ.out]
  have b1 : (z != 0) = true := by simpa using hck
  obtain ⟨x0, x1, x2, x3⟩ := bx_cells4 X0.out
  clear hb0 hgr
  go_enter Try.func14, Try.ntmps14
  go_upto_region 1 with fail
  rw [HW0.out]
  go_wp2_with fail
  with_reducible refine HCK.out.mono ?_
  clear x0 x1 x2 x3
  rintro e w1 ⟨rfl, hb1⟩
  have HF : Hid (Below W.heap.size W w1) := HB0.out.trans (hb1.mono HB0.out.size)
  clear hb1
  go_wp2_with fail
  exact bodyPost_ret (results_tmp2 Try.results14 _ _ _) rfl ⟨rfl, HF.out⟩
def PrefPost (K : List Rule) (N : Nat) (hw : Sym → Bool) (S : Int) (w : List Int) (ze : Int) (W : World) (e : Ending) (w' : World) : Prop :=
  Below W.heap.size W w' ∧ (ze ≠ 0 ∧ e = .returned (.tuple #[.int .i64 0, .int .i64 ze]) ∨ ze = 0 ∧ hw ⟨false, S⟩ = false ∧ e = .returned (.tuple #[.int .i64 0, .int .i64 5]) ∨ ze = 0 ∧ hw ⟨false, S⟩ = true ∧ ∃ r : Nat, PF K N hw S w r ∧ e = .returned (.tuple #[.int .i64 (r : Int), .int .i64 0]))
theorem word_ok {gt : Int} {w : List Int} (h : wordErr gt w 12 = 0) : w.length ≤ 12 ∧ ∀ t ∈ w, 0 ≤ t ∧ t < gt := by
  unfold wordErr at h
  by_cases h1 : 12 < w.length
  · rw [if_pos h1] at h; cases h
  · rw [if_neg h1] at h
    by_cases h2 : w.any (badW gt) = true
    · rw [if_pos h2] at h; cases h
    · refine ⟨by omega, fun t ht => ?_⟩
      have : badW gt t = false := by
        cases e : badW gt t with
        | false => rfl
        | true => exact absurd (List.any_eq_true.2 ⟨t, ht, e⟩) h2
      unfold badW at this
      simp at this
      omega
set_option maxHeartbeats 16000000 in
set_option maxRecDepth 100000 in
include hgr hrl in
theorem prefE {N tm st : Nat} (hN1 : N ≤ 10) (hgn : g.nons = (N : Int)) (htm : g.terms = (tm : Int)) (htm8 : tm ≤ 8) (hst : g.start = (st : Int)) (hsN : st < N) (hK : KG N g.rules (Hl.okS N tm)) (hr4 : ∀ r ∈ g.rules, r.right.length ≤ 4) (hkl : g.rules.length ≤ 32)
    (sv : Sym → Option Val) (hw : Sym → Bool) (hhw : ∀ y, hw y = (sv y).isSome) (hlen : ∀ W', Below W.heap.size W W' → LenC g (.slice ga g.rules.length gc) sv N W') :
    Calls Try.prog 14 #[.agg #[.int .i64 g.terms, .int .i64 g.nons, .int .i64 g.start, .slice ga g.rules.length gc], .slice la l.length lk] W (PrefPost g.rules N hw (st : Int) l (wordErr g.terms l 12) W) := by
  obtain ⟨w0, HW0⟩ := nameIt (W.alloc (.cells #[.int .i64 g.terms, .int .i64 g.nons, .int .i64 g.start, .slice ga g.rules.length gc] 24))
  have hb0 : Below W.heap.size W w0 := by rw [← HW0.out]; exact (Below.refl _ _).alloc (Nat.le_refl _) _
  have X0 : Hid (w0.heap[W.heap.size]? = some (.cells #[.int .i64 g.terms, .int .i64 g.nons, .int .i64 g.start, .slice ga g.rules.length gc] 24 (0, 0))) := by rw [← HW0.out]; exact bx_new _ _ _ rfl
  have HB0 := Lib.hid hb0
  have hgr0 := hgr.below hb0
  have hl0 := fun W' (hb : Below w0.heap.size w0 W') => hlen W' (hb0.trans (hb.mono hb0.size))
  have HEN : Hid (∀ W', Below w0.heap.size w0 W' → Calls Try.prog 43 #[.agg #[.int .i64 g.terms, .int .i64 g.nons, .int .i64 g.start, .slice ga g.rules.length gc]] W' (EndsPost hw N W')) :=
    fun W' hb => endsE g N hN1 sv hw hhw (.slice ga g.rules.length gc) W' (fun W2 h2 => hl0 W2 (hb.trans (h2.mono hb.size)))
  have HWD : Hid (∀ W', Below w0.heap.size w0 W' → Calls Try.prog 11 #[.agg #[.int .i64 g.terms, .int .i64 g.nons, .int .i64 g.start, .slice ga g.rules.length gc], .slice la l.length lk, .int .i64 12] W' fun e w' => e = .returned (.int .i64 (wordErr g.terms l 12)) ∧ Below W'.heap.size W' w') :=
    fun W' hb => wordE g (.slice ga g.rules.length gc) l l.length 12 rfl (by omega) la lk W' ((hrl.keep hb0).keep hb)
  have HFN : Hid (∀ W', Below w0.heap.size w0 W' → Calls Try.prog 44 #[.agg #[.int .i64 g.terms, .int .i64 g.nons, .int .i64 g.start, .slice ga g.rules.length gc]] W' (NewPost tm N (st : Int) (KW g.rules hw) (lfB hw N (tC l)) W')) :=
    fun W' hb => feedNewE g ga gc W' (hgr0.below hb) hN1 hgn htm htm8 hst hK hr4 hkl sv hw hhw (fun W2 h2 => hl0 W2 (hb.trans (h2.mono hb.size))) (lfB hw N (tC l))
  have HRL := Lib.hid (hrl.keep hb0)
  obtain ⟨PST, HP⟩ := nameIt (PrefPost g.rules N hw (st : Int) l (wordErr g.terms l 12) W)
  have HWOK : Hid (wordErr g.terms l 12 = 0 → l.length ≤ 12 ∧ ∀ t ∈ l, 0 ≤ t ∧ t < g.terms) := word_ok
  obtain ⟨ze, HZE⟩ := nameIt (wordErr g.terms l 12)
  rw [HZE.out] at HP HWD HWOK
  have HF1 : Hid (ze ≠ 0 → ∀ w', Below w0.heap.size w0 w' → PST (.returned (.tuple #[.int .i64 0, .int .i64 ze])) w') := by
    intro h w' hb
    rw [← HP.out]
    exact ⟨hb0.trans (hb.mono hb0.size), .inl ⟨h, rfl⟩⟩
  have HF2 : Hid (ze = 0 → hw ⟨false, (st : Int)⟩ = false → ∀ w', Below w0.heap.size w0 w' → PST (.returned (.tuple #[.int .i64 0, .int .i64 5])) w') := by
    intro h h2 w' hb
    rw [← HP.out]
    exact ⟨hb0.trans (hb.mono hb0.size), .inr (.inl ⟨h, h2, rfl⟩)⟩
  have HF3 : Hid (ze = 0 → hw ⟨false, (st : Int)⟩ = true → ∀ (r : Nat) w', PF g.rules N hw (st : Int) l r → Below w0.heap.size w0 w' → PST (.returned (.tuple #[.int .i64 (r : Int), .int .i64 0])) w') := by
    intro h h2 r w' h3 hb
    rw [← HP.out]
    exact ⟨hb0.trans (hb.mono hb0.size), .inr (.inr ⟨h, h2, r, h3, rfl⟩)⟩
  rw [HZE.out, HP.out]
  have HPF : Hid (∀ r : Nat, (r ≤ l.length ∧ (∀ i, i < r → okP g.rules N hw (st : Int) l i) ∧ (r < l.length → ¬ okP g.rules N hw (st : Int) l r)) → PF g.rules N hw (st : Int) l r) := fun r h => h
  have HOKP : Hid (∀ j (hj : j < l.length), okP g.rules N hw (st : Int) l j ↔ It (KW g.rules hw) (lfB hw N (tC l)) (st : Int) j l[j]) := by
    intro j hj
    unfold okP
    rw [show l.getD j 0 = l[j] by rw [List.getD_eq_getElem?_getD, List.getElem?_eq_getElem hj]; rfl]
  have HPU : Hid (∀ (B fd fb : Nat) (vg : Value) (ra : Option Addr) (rc m : Nat) (wd : List Int) (W' : World), FS B fd fb tm N (st : Int) vg ra rc (KW g.rules hw) (lfB hw N (tC l)) m wd W' → m < 12 → ∀ tn : Nat, tn < tm → ∀ hm : m < l.length, l[m] = (tn : Int) → Calls Try.prog 45 #[.pointer (some ⟨fd, 0, none⟩), .int .i64 (tn : Int)] W' (FPost B fd fb tm N (st : Int) vg ra rc (KW g.rules hw) (lfB hw N (tC l)) m wd (tn : Int) W')) :=
    fun B fd fb vg ra rc m wd W' h hm tn ht hml hlm => feedPutE W' h hm tn ht htm8 (Nat.le_trans (List.length_filter_le _ _) (by omega)) (fun r hr => hr4 r (kw_sub r hr)) (fun r hr => (hK r (kw_sub r hr)).2.2) (fun x s hn => by
      have := cell_w hml hn (N := N)
      rw [hlm] at this
      exact this)
  obtain ⟨n, HN⟩ := nameIt l.length
  rw [HN.out] at HWD HWOK HRL
  obtain ⟨kn, HKN⟩ := nameIt g.rules.length
  rw [htm] at HWOK
  rw [htm, hgn, hst, HKN.out] at HW0 X0 HEN HWD HFN
  rw [htm, hgn, hst, HKN.out, HN.out]
  have HG0 : Hid (∀ w', Below w0.heap.size w0 w' → w'.cell? ⟨W.heap.size, 0, none⟩ = some (.int .i64 (tm : Int)) ∧ w'.cell? ⟨W.heap.size, 0 + 1, none⟩ = some (.int .i64 (N : Int)) ∧ w'.cell? ⟨W.heap.size, 0 + 2, none⟩ = some (.int .i64 (st : Int)) ∧ w'.cell? ⟨W.heap.size, 0 + 3, none⟩ = some (.slice ga kn gc)) := by
    intro w' hb'
    exact bx_cells4 (bx_keep X0.out hb')
  obtain ⟨x0, x1, x2, x3⟩ := HG0.out w0 (Below.refl _ _)
  clear hb0 hgr hgr0 hlen hl0 hK hr4 hkl htm hst hgn HP hhw hrl
  go_enter Try.func14, Try.ntmps14
  go_upto_region 1 with fail
  rw [HW0.out]
  clear HW0
  go_wp2_with fail
  refine (HEN.out w0 (Below.refl _ _)).mono ?_
  clear x0 x1 x2 x3
  rintro e w1 ⟨ve, rfl, hoe, hb1⟩
  have HOE := Lib.hid hoe
  have HB1 : Hid (Below w0.heap.size w0 w1) := hb1
  obtain ⟨ae, ce, rfl, -, -⟩ := own_len hoe
  obtain ⟨x0, x1, x2, x3⟩ := HG0.out w1 HB1.out
  clear hoe hb1 HEN
  go_wp2_with fail
  refine (HWD.out w1 HB1.out).mono ?_
  clear x0 x1 x2 x3
  rintro e w2 ⟨rfl, hb2⟩
  have HB2 : Hid (Below w0.heap.size w0 w2) := HB1.out.trans (hb2.mono HB1.out.size)
  have hsle := sl_of_own (own_keep HOE.out hb2)
  clear hb2 HWD
  by_cases hz : ze = 0
  · subst hz
    obtain ⟨hl12, hlt⟩ := HWOK.out rfl
    obtain ⟨eg, eo, hae, hcell⟩ := hsle.at hsN
    have hc := hcell st (by simp [bls, endsL]; exact hsN)
    have hval : (bls (endsL hw N))[st]'(by simp [bls, endsL]; exact hsN) = .bool (hw ⟨false, (st : Int)⟩) := by simp [bls, endsL]
    rw [hval] at hc
    obtain ⟨hb, HHB⟩ := nameIt (hw ⟨false, (st : Int)⟩)
    rw [HHB.out] at hc HF2 HF3
    have hsN' : (st : Int) < (N : Int) := by omega
    obtain ⟨x0, x1, x2, x3⟩ := HG0.out w2 HB2.out
    have HLT := Lib.hid hlt
    subst hae
    clear hcell hval hsle hlt
    cases hb with
    | false =>
      have HE := Lib.hid (HF2.out rfl rfl w2 HB2.out)
      go_wp2_with fail
      first | exact HE.out | exact bodyPost_ret (results_tmp2 Try.results14 _ _ _) rfl HE.out
    | true =>
      have HF4 := Lib.hid (HF3.out rfl rfl)
      go_wp2_with fail
      refine (HFN.out w2 HB2.out).mono ?_
      clear x0 x1 x2 x3 hc
      rintro e w3 ⟨B, fd, fb, vg, ra, rc, rfl, hfs, hB, hb3⟩
      have HFS := Lib.hid hfs
      have HBB := Lib.hid hB
      have HB3 : Hid (Below w0.heap.size w0 w3) := HB2.out.trans (hb3.mono HB2.out.size)
      have HBW : Hid (w0.heap.size ≤ B) := by show _ ≤ _; have := HB2.out.size; omega
      clear hfs hB hb3 HFN HF1 HF2 HF3
      go_wp2_with fail
      go_loopg [11, 12, 40] n (fun gg v11 v12 v40 wr => ∃ j : Nat, j ≤ n ∧ n - j ≤ gg ∧ v40 = .int .i64 (j : Int) ∧ Hid (Below w0.heap.size w0 wr) ∧ Hid (FS B fd fb tm N (st : Int) vg ra rc (KW g.rules hw) (lfB hw N (tC l)) j (l.take j) wr) ∧ Hid (∀ i, i < j → okP g.rules N hw (st : Int) l i))
      case atStart => exact ⟨0, by omega, by omega, rfl, HB3, HFS, fun i hi => by omega⟩
      case round =>
        clear HFS HB3
        obtain ⟨j, hj, hgg, rfl, HBX, HFS, HOK⟩ := hrel
        by_cases hjn : j < n
        · have hjn' : (j : Int) < (n : Int) := by omega
          have hjL : j < l.length := by rw [HN.out]; exact hjn
          obtain ⟨lb, lo, hae, hlc⟩ := (HRL.out.keep HBX.out).at hjn
          have s0 := hlc j (by rw [ints_len]; exact hjL)
          rw [ints_get] at s0
          have ht := HLT.out _ (List.getElem_mem hjL)
          have htake : l.take (j + 1) = l.take j ++ [l[j]] := List.take_succ_eq_append_getElem hjL
          have hokp := HOKP.out j hjL
          have hpu := fun (tn : Nat) (h1 : tn < tm) => HPU.out B fd fb vg ra rc j (l.take j) wr HFS.out (by omega) tn h1 hjL
          obtain ⟨x, HX⟩ := nameIt (l[j]'hjL)
          rw [HX.out] at s0 ht htake hokp
          simp only [HX.out] at hpu
          obtain ⟨tn, rfl⟩ : ∃ tn : Nat, x = (tn : Int) := ⟨x.toNat, by omega⟩
          have HPC := Lib.hid (hpu tn (by omega) rfl)
          have HTK := Lib.hid htake
          have HOP := Lib.hid hokp
          subst hae
          clear hlc ht htake hokp hpu
          go_wp2_with fail
          refine HPC.out.mono ?_
          rintro e w5 ⟨hb5, ⟨hit, rfl, hfs5⟩ | ⟨hit, rfl⟩⟩
          · have HB5 : Hid (Below w0.heap.size w0 w5) := HBX.out.trans (hb5.mono HBW.out)
            have HFS5 := Lib.hid hfs5
            have HOK5 : Hid (∀ i, i < j + 1 → okP g.rules N hw (st : Int) l i) := by
              intro i hi
              by_cases e : i = j
              · rw [e]; exact HOP.out.2 hit
              · exact HOK.out i (by omega)
            rw [← HTK.out] at HFS5
            clear hb5 hit hfs5 s0
            go_wp2_with fail
            go_roundg (n - (j + 1))
            case measure => omega
            case rel => exact ⟨j + 1, by omega, by omega, by go_num, HB5, HFS5, HOK5⟩
          · have HB5 : Hid (Below w0.heap.size w0 w5) := HBX.out.trans (hb5.mono HBW.out)
            have HE := Lib.hid (HF4.out j w5 (HPF.out j ⟨by omega, HOK.out, fun _ h => hit (HOP.out.1 h)⟩) HB5.out)
            clear hb5 hit s0
            go_wp2_with fail
            first | exact HE.out | exact bodyPost_ret (results_tmp2 Try.results14 _ _ _) rfl HE.out
        · have hjn' : ¬ (j : Int) < (n : Int) := by omega
          obtain rfl : j = n := by omega
          have HE := Lib.hid (HF4.out j wr (HPF.out j ⟨by rw [HN.out]; exact Nat.le_refl _, HOK.out, fun h => by rw [HN.out] at h; omega⟩) HBX.out)
          go_wp2_with fail
          first | exact HE.out | exact bodyPost_ret (results_tmp2 Try.results14 _ _ _) rfl HE.out
  · have b1 : (ze != 0) = true := by simpa using hz
    have HE := Lib.hid (HF1.out hz w2 HB2.out)
    clear hz hsle
    go_wp2_with fail
    first | exact HE.out | exact bodyPost_ret (results_tmp2 Try.results14 _ _ _) rfl HE.out
end
end Ea
end Go.Proofs.Ytjpmebppdcclbaa
namespace Go.Proofs.Ytjpmebppdcclbaa
open Go.RowKit
namespace Ho
open Rp Hl
open Ht hiding D
end Ho
end Go.Proofs.Ytjpmebppdcclbaa
namespace Go.Proofs.Ytjpmebppdcclbaa
open Go.RowKit
namespace Hl
open Rp
end Hl
end Go.Proofs.Ytjpmebppdcclbaa
namespace Go.Proofs.Ytjpmebppdcclbaa
open Go.RowKit
namespace Hl
open Rp
section
variable (g : Gram) (l : List Sym) (ga : Option Addr) (gc : Nat) (la : Option Addr) (lk : Nat) (W : World) (hgr : Rd AnyB W (.sl (g.rules.map Rule.d)) [.slice ga g.rules.length gc]) (hrl : Rd AnyB W (.sl (l.map Sym.d)) [.slice la l.length lk])
include hgr hrl
end
end Hl
end Go.Proofs.Ytjpmebppdcclbaa
namespace Go.Proofs.Ytjpmebppdcclbaa
open Go.RowKit
namespace Hl
open Rp
end Hl
end Go.Proofs.Ytjpmebppdcclbaa
namespace Go.Proofs.Ytjpmebppdcclbaa
namespace Rp
section
variable (c : Co) (w : List Int) (n N tm : Nat) (K : List Rule)
def okS (s : Sym) : Prop := 0 ≤ s.n ∧ (s.term = true → s.n < (tm : Int)) ∧ (s.term = false → s.n < (N : Int))
def Good (v : Val) (i j : Nat) : Prop := Wf v ∧ v.n ≤ v.c + (j - i) ∧ ∀ t ∈ v.w, 0 ≤ t ∧ t < (tm : Int)
end
section
variable {c : Co} {w : List Int} {n N tm : Nat} {K : List Rule}
theorem good_thn {a b : Val} {i m j : Nat} (ha : Good tm a i m) (hb : Good tm b m j) (h1 : i ≤ m) (h2 : m ≤ j) : Good tm (thn a b) i j := by
  obtain ⟨a1, a2, a3⟩ := ha
  obtain ⟨b1, b2, b3⟩ := hb
  refine ⟨wf_thn a1 b1, ?_, ?_⟩
  · show a.n + b.n ≤ a.c + b.c + (j - i)
    omega
  · rw [thn_w]
    split
    · intro t ht
      rcases List.mem_append.1 ht with ht | ht
      · exact a3 t ht
      · exact b3 t ht
    · intro t ht; cases ht
theorem good_zero (i : Nat) : Good tm zero i i := ⟨wf_zero, Nat.zero_le _, fun t ht => by cases ht⟩
theorem row_ex {leaf : Sym → Nat → Nat → Option Val} {em : Nat → Nat → Option Val} : ∀ {l : List Sym} {i j : Nat} {v : Val}, Row (fun s i j v => ∃ h, Dr K leaf em h s i j v) l i j v → ∃ h, Row (Dr K leaf em h) l i j v
  | [], _, _, _, h => h.elim
  | [s], _, _, _, ⟨h, hd⟩ => ⟨h, hd⟩
  | s :: t :: l, i, j, v, ⟨m, a, b, h1, h2, ⟨ha, hda⟩, hb, e⟩ => by
    obtain ⟨k, hk⟩ := row_ex hb
    exact ⟨max ha k, m, a, b, h1, h2, dr_le (Nat.le_max_left _ _) hda, hk.mono (fun _ _ _ _ => dr_le (Nat.le_max_right _ _)), e⟩
theorem good_row0 {V : Sym → Nat → Nat → Option Val} : ∀ {l : List Sym} {i j : Nat} {v : Val}, (∀ s ∈ l, ∀ i j v, i ≤ j → j ≤ n → V s i j = some v → Good tm v i j) → Row0 (VP V n) l i j v → Good tm v i j
  | [], i, j, v, _, h => by obtain ⟨rfl, rfl⟩ := h; exact good_zero i
  | s :: l, i, j, v, hV, ⟨m, a, b, h1, h2, h3, h4, e⟩ => by
    subst e
    exact good_thn (hV s (by simp) i m a h3.1 h3.2.1 h3.2.2) (good_row0 (fun s hs => hV s (by simp [hs])) h4) h1 h2
theorem row_mem {P Q : Sym → Nat → Nat → Val → Prop} : ∀ {l : List Sym} {i j : Nat} {v : Val}, (∀ s ∈ l, ∀ i j v, P s i j v → Q s i j v) → Row P l i j v → Row Q l i j v
  | [], _, _, _, _, h => h.elim
  | [s], _, _, _, hPQ, h => hPQ s (by simp) _ _ _ h
  | s :: t :: l, _, _, _, hPQ, ⟨m, a, b, h1, h2, h3, h4, e⟩ => ⟨m, a, b, h1, h2, hPQ s (by simp) _ _ _ h3, row_mem (fun s hs => hPQ s (by simp [List.mem_cons] at hs ⊢; exact .inr hs)) h4, e⟩
end
end Rp
end Go.Proofs.Ytjpmebppdcclbaa
namespace Go.Proofs.Ytjpmebppdcclbaa
namespace Rp
def Mf : Nat → Nat
  | 0 => 1300
  | f + 1 => 4 * Mf f + 1300
section
variable (n N : Nat)
def AN (T : Tb) (a : Nat) : Prop := ∀ x y, x ≤ y → y ≤ n → T (a : Int) x y = none
def AS (T : Tb) (a m : Nat) : Prop := ∀ x y, x ≤ y → y ≤ n → ∃ v, T (a : Int) x y = some v ∧ v.c ≤ m
def FOk (F : List Nat) : Prop := F.Nodup ∧ ∀ a ∈ F, a < N
def GS (F : List Nat) (T : Tb) : Prop := FOk N F ∧ ∀ a, a < N → (a ∈ F → AS n T a (Mf F.length)) ∧ (a ∉ F → AN n T a)
def blk (F : List Nat) (r : Rule) : Prop := ∃ s ∈ r.right, s.term = false ∧ s.n.toNat ∉ F
structure NEW (F : List Nat) (r : Rule) (la : Nat) (vis : Nat → Nat → Prop) (T : Tb) : Prop where
  fok : FOk N F
  no : la ∉ F
  old : ∀ a, a < N → a ≠ la → (a ∈ F → AS n T a (Mf F.length)) ∧ (a ∉ F → AN n T a)
  rt : ∀ s ∈ r.right, s.term = false → s.n.toNat ∈ F
  yes : ∀ x y, x ≤ y → y ≤ n → vis x y → ∃ v, T (la : Int) x y = some v ∧ v.c ≤ Mf (F.length + 1)
  non : ∀ x y, x ≤ y → y ≤ n → ¬ vis x y → T (la : Int) x y = none
end
section
variable {c : Co} {w : List Int} {n N tm : Nat} {K : List Rule}
end
end Rp
end Go.Proofs.Ytjpmebppdcclbaa
namespace Go.Proofs.Ytjpmebppdcclbaa
namespace Rp
section
variable {c : Co} {w : List Int} {n N tm : Nat} {K : List Rule}
end
end Rp
end Go.Proofs.Ytjpmebppdcclbaa
namespace Go.Proofs.Ytjpmebppdcclbaa
namespace Rp
section
variable {c : Co} {w : List Int} {n N tm : Nat} {K : List Rule}
theorem row_bnd {V : Sym → Nat → Nat → Option Val} : ∀ {l : List Sym} {i j : Nat} {v : Val}, Row (VP V n) l i j v → i ≤ j ∧ j ≤ n
  | [], _, _, _, h => h.elim
  | [s], i, j, v, h => ⟨h.1, h.2.1⟩
  | s :: t :: l, i, j, v, ⟨m, a, b, h1, h2, h3, h4, _⟩ => ⟨by omega, (row_bnd h4).2⟩
theorem not_better {T : Tb} (hw : ∀ A x y, WfO (T A x y)) {A : Int} {i j : Nat} {b : Val} (hwb : Wf b) (hb : lessB (some b) (T A i j) = false) : ∃ u, T A i j = some u ∧ le u b := by
  cases e : T A i j with
  | none => rw [e] at hb; cases hb
  | some u =>
    refine ⟨u, rfl, le_of_not (fun hlt => ?_)⟩
    rw [e] at hb
    have := (less_some hwb (hw _ _ _ _ e)).2 hlt
    rw [this] at hb
    cases hb
end
end Rp
end Go.Proofs.Ytjpmebppdcclbaa
namespace Go.Proofs.Ytjpmebppdcclbaa
namespace Rp
def pK : List Rule := [⟨0, [⟨true, 0⟩, ⟨false, 0⟩, ⟨true, 1⟩]⟩, ⟨0, [⟨true, 0⟩, ⟨true, 1⟩]⟩]
end Rp
end Go.Proofs.Ytjpmebppdcclbaa
namespace Go.Proofs.Ytjpmebppdcclbaa
namespace Hl
open Rp
def pV0 (y : Sym) (i j : Nat) : Option Val := if y.term then leafS y i j else if y.n = 0 then some ⟨0, 2, [0, 1]⟩ else none
theorem pKG : KG 1 pK (okS 1 2) := by
  intro r hr
  simp only [pK, List.mem_cons, List.not_mem_nil, or_false] at hr
  rcases hr with rfl | rfl
  · refine ⟨by decide, by decide, fun s hs => ?_⟩
    simp only [List.mem_cons, List.not_mem_nil, or_false] at hs
    rcases hs with rfl | rfl | rfl <;> exact ⟨by decide, by decide, by decide⟩
  · refine ⟨by decide, by decide, fun s hs => ?_⟩
    simp only [List.mem_cons, List.not_mem_nil, or_false] at hs
    rcases hs with rfl | rfl <;> exact ⟨by decide, by decide, by decide⟩
theorem pV0_none {y : Sym} {i j : Nat} {v : Val} (e : pV0 y i j = some v) : (y.term = true ∧ v = ⟨0, 1, [y.n]⟩) ∨ (y = ⟨false, 0⟩ ∧ v = ⟨0, 2, [0, 1]⟩) := by
  unfold pV0 at e
  by_cases ht : y.term = true
  · rw [if_pos ht] at e
    unfold leafS at e
    rw [if_pos ht] at e
    cases e
    exact .inl ⟨ht, rfl⟩
  · rw [if_neg ht] at e
    split at e
    · rename_i h
      cases e
      refine .inr ⟨?_, rfl⟩
      obtain ⟨a, b⟩ := y
      simp at ht h
      rw [ht, h]
    · cases e
theorem pVO0 : VO leafS emS 0 pK (okS 1 2) (GS 2) pV0 := by
  refine ⟨fun s i j v e => ?_, fun s i j v hij hj e => ?_⟩
  · rcases pV0_none e with ⟨_, rfl⟩ | ⟨_, rfl⟩
    · exact .inl ⟨by simp [maxL], rfl⟩
    · exact .inl ⟨by simp [maxL], rfl⟩
  · obtain rfl : j = 0 := by omega
    obtain rfl : i = 0 := by omega
    rcases pV0_none e with ⟨ht, rfl⟩ | ⟨rfl, rfl⟩
    · refine ⟨⟨0, ?_⟩, fun hs => ⟨.inl ⟨by simp [maxL], rfl⟩, rfl, fun t h => ?_⟩⟩
      · show clL leafS 0 s 0 0 = _
        unfold clL leafS
        rw [if_pos ⟨Nat.le_refl _, Nat.le_refl _⟩, if_pos ht]
      · simp at h
        subst h
        exact ⟨hs.1, hs.2.1 ht⟩
    · refine ⟨⟨1, .inr ⟨rfl, ⟨0, [⟨true, 0⟩, ⟨true, 1⟩]⟩, by simp [pK], rfl, .inr ?_⟩⟩, fun _ => ⟨.inl ⟨by simp [maxL], rfl⟩, rfl, fun t h => ?_⟩⟩
      · exact ⟨0, ⟨0, 1, [0]⟩, ⟨0, 1, [1]⟩, Nat.le_refl _, Nat.le_refl _, rfl, rfl, rfl⟩
      · simp at h
        rcases h with rfl | rfl <;> decide
theorem pCl0 : Closed pK (clL leafS 0) (clE emS 0) (clV 0 pV0) := by
  refine cl_closed (gokS 1 2) pVO0.1 (fun y i j v _ _ e => ⟨v, ?_, le_refl _⟩) (fun r hr i j v hij hj e => ?_)
  · unfold pV0
    by_cases ht : y.term = true
    · rw [if_pos ht]; exact e
    · unfold leafS at e; rw [if_neg ht] at e; cases e
  · obtain rfl : j = 0 := by omega
    obtain rfl : i = 0 := by omega
    have hb : lessB (rvV emS pV0 r 0 0) (pV0 ⟨false, r.left⟩ 0 0) = false := by
      simp only [pK, List.mem_cons, List.not_mem_nil, or_false] at hr
      rcases hr with rfl | rfl <;> kernel_rfl
    rw [e] at hb
    exact not_better (pVO0.1 _ _ _) (rv_wf (gokS 1 2) pVO0.1 r (Nat.le_refl 0) (Nat.le_refl 0) v e) hb
end Hl
end Go.Proofs.Ytjpmebppdcclbaa
namespace Go.Proofs.Ytjpmebppdcclbaa
open Go.RowKit
namespace Rp
open Al
theorem CM.setb {cb : Nat} {gt gn gs : Int} {gr bv : Value} {c : Co} {w : List Int} {W : World} (h : CM cb gt gn gs gr bv c w W) (bv' : Value) : CM cb gt gn gs gr bv' c w (W.setCell ⟨cb, 0 + 8, none⟩ bv') := by
  obtain ⟨wa, wk, h1, h2⟩ := h.box
  refine ⟨wa, wk, ?_, rd_grown h2 (grown_cell W ⟨cb, 0 + 8, none⟩ bv') (fun k e h => by cases e; exact Nat.lt_irrefl _ h)⟩
  have := bx_set h1 (0 + 8) bv'
  simpa using this
structure BU (W : World) (gt : Int) (N st : Nat) (gr : Value) (cb : Nat) (c : Co) (w : List Int) (n1 a : Nat) (ra : Nat → Nat) (bv : Value) (wr : World) : Prop where
  bel : Below W.heap.size W wr
  gbox : wr.heap[W.heap.size]? = some (.cells #[.int .i64 gt, .int .i64 (N : Int), .int .i64 (st : Int), gr] 24 (0, 0))
  cm : CM cb gt N st gr bv c w wr
  own : wr.ownsRow (cb + 1) 66 1 bv a ((List.range a).map fun k => .slice (some ⟨ra k, 0, none⟩) n1 n1)
  mid : ∀ a', a' < a → ∀ i, i < n1 → wr.cell? ⟨ra a', i, none⟩ = some (.slice (some ⟨ra a' + 1 + i, 0, none⟩) n1 n1)
  row : ∀ a', a' < a → ∀ i, i < n1 → WRow (fun _ => False) (ra a' + 1 + i) n1 (fun _ => none) wr
  lb : ∀ a', a' < a → cb < ra a' ∧ ra a' + n1 < wr.heap.size
  sep : ∀ a' a'', a' < a'' → a'' < a → ra a' + n1 < ra a''
  ob : ∀ k, bv.ownBlock = some k → ∀ a', a' < a → k < ra a' ∨ ra a' + n1 < k
theorem BU.keep {W : World} {gt : Int} {N st : Nat} {gr : Value} {cb : Nat} {c : Co} {w : List Int} {n1 a : Nat} {ra : Nat → Nat} {bv : Value} {wr w' : World} (h : BU W gt N st gr cb c w n1 a ra bv wr) (hb : Below wr.heap.size wr w') : BU W gt N st gr cb c w n1 a ra bv w' :=
  ⟨h.bel.trans (hb.mono h.bel.size), bx_keep h.gbox hb, h.cm.keep hb, own_keep h.own hb, fun a' ha i hi => (hb.cell (p := ⟨ra a', i, none⟩) (lt_of_cell (h.mid a' ha i hi))).trans (h.mid a' ha i hi), fun a' ha i hi => (h.row a' ha i hi).keep hb, fun a' ha => ⟨(h.lb a' ha).1, Nat.lt_of_lt_of_le (h.lb a' ha).2 hb.size⟩, h.sep, h.ob⟩
structure RU (n1 R i : Nat) (wr : World) : Prop where
  sz : wr.heap.size = R + 1 + i
  rows : Vrow 67 R n1 (fun x => if x < i then .slice (some ⟨R + 1 + x, 0, none⟩) n1 n1 else .slice none 0 0) wr
  row : ∀ x, x < i → WRow (fun _ => False) (R + 1 + x) n1 (fun _ => none) wr
theorem RU.step {n1 R i : Nat} {wr : World} (h : RU n1 R i wr) (hi : i < n1) : RU n1 R (i + 1) ((wr.alloc (.cells (madeCells #[.int .i64 0, .int .i64 0, .slice none 0 0, .bool false] (n1 * 4)) 72)).setCell ⟨R, i, none⟩ (.slice (some ⟨R + 1 + i, 0, none⟩) n1 n1)) := by
  have hal : Below wr.heap.size wr (wr.alloc (.cells (madeCells #[.int .i64 0, .int .i64 0, .slice none 0 0, .bool false] (n1 * 4)) 72)) := (Below.refl _ _).alloc (Nat.le_refl _) _
  have hg := grown_cell (wr.alloc (.cells (madeCells #[.int .i64 0, .int .i64 0, .slice none 0 0, .bool false] (n1 * 4)) 72)) ⟨R, i, none⟩ (.slice (some ⟨R + 1 + i, 0, none⟩) n1 n1)
  refine ⟨?_, (h.rows.keep hal).set hi (fun k hk => ?_), fun x hx => ?_⟩
  · simp [World.setCell, h.sz]; omega
  · by_cases e : k = i
    · rw [if_pos e, e, if_pos (by omega)]
    · rw [if_neg e]
      by_cases h2 : k < i
      · rw [if_pos h2, if_pos (by omega)]
      · rw [if_neg h2, if_neg (by omega)]
  · by_cases e : x = i
    · subst e
      exact (wrow_new _ wr n1 h.sz.symm).grown hg (by simp; omega) (fun _ _ h => h)
    · exact ((h.row x (by omega)).keep hal).grown hg (by simp; omega) (fun _ _ h => h)
theorem BU.app {W : World} {gt : Int} {N st : Nat} {gr : Value} {cb : Nat} {c : Co} {w : List Int} {n1 a : Nat} {ra : Nat → Nat} {bv : Value} {w5 w7 wz : World} (h : BU W gt N st gr cb c w n1 a ra bv w5) (hb : Below w5.heap.size w5 w7) (hr : RU n1 w5.heap.size n1 w7) {v' : Value}
    (hoz : wz.ownsRow (cb + 1) 66 1 v' (a + 1) (((List.range a).map fun k => .slice (some ⟨ra k, 0, none⟩) n1 n1) ++ [.slice (some ⟨w5.heap.size, 0, none⟩) n1 n1])) (hgz : w7.grownBy wz bv.ownBlock) (hat : v'.ownBlock = bv.ownBlock ∨ ∃ k, v'.ownBlock = some k ∧ w7.heap.size ≤ k) (hWcb : W.heap.size < cb) :
    BU W gt N st gr cb c w n1 (a + 1) (fun k => if k = a then w5.heap.size else ra k) v' (wz.setCell ⟨cb, 0 + 8, none⟩ v') := by
  have h7 := h.keep hb
  have hg2 := grown_cell wz ⟨cb, 0 + 8, none⟩ v'
  have hcb5 : cb < w5.heap.size := h.cm.lt
  have hs7 := hr.sz
  have hsz := hgz.size
  have hk : ∀ k, bv.ownBlock = some k → cb < k ∧ k < w5.heap.size := fun k e => by have := h.own.lt k e; omega
  have hkn : ∀ b, w5.heap.size ≤ b → bv.ownBlock ≠ some b := fun b hb e => by have := hk b e; omega
  have hra : ∀ a', a' < a → (fun k => if k = a then w5.heap.size else ra k) a' = ra a' := fun a' ha => by simp; omega
  have hko : ∀ a', a' < a → ∀ i, i ≤ n1 → bv.ownBlock ≠ some (ra a' + i) := fun a' ha i hi e => by have := h.ob _ e a' ha; omega
  refine ⟨(h7.bel.grown hgz h7.bel.size (fun k e => by have := hk k e; omega)).grown hg2 ?_ (fun k e => by cases e; show W.heap.size ≤ cb; omega), ?_, ?_, ?_, ?_, ?_, ?_, ?_, ?_⟩
  · have := h7.bel.size; omega
  · have h1 := (hgz.block _ (Array.getElem?_eq_some_iff.1 h7.gbox).1 (fun e => by have := hk _ e.symm; omega)).trans h7.gbox
    exact (hg2.block _ (Array.getElem?_eq_some_iff.1 h1).1 (by simp; omega)).trans h1
  · exact (h7.cm.grown hgz (fun k e => (hk k e).1)).setb v'
  · have e : ((List.range (a + 1)).map fun k => Value.slice (some ⟨(fun k => if k = a then w5.heap.size else ra k) k, 0, none⟩) n1 n1) = ((List.range a).map fun k => .slice (some ⟨ra k, 0, none⟩) n1 n1) ++ [.slice (some ⟨w5.heap.size, 0, none⟩) n1 n1] := by
      rw [List.range_succ, List.map_append]
      congr 1
      · refine List.map_congr_left fun k hk => ?_
        have := List.mem_range.1 hk
        simp; omega
      · simp
    rw [e]
    exact hoz.kept hg2 (.inr (fun e3 => by have h4 : v'.ownBlock = some cb := e3; have := (hoz.lt cb h4).1; omega))
  · intro a' ha' i hi
    by_cases e : a' = a
    · subst e
      simp only [if_true]
      have h1 := (hr.rows.grown hgz (hkn _ (Nat.le_refl _))).cell hi
      rw [if_pos hi] at h1
      exact cell_grown h1 hg2 (by simp; omega)
    · have ha : a' < a := by omega
      rw [show (if a' = a then w5.heap.size else ra a') = ra a' from if_neg e]
      have h1 := cell_grown (h7.mid a' ha i hi) hgz (by have := hko a' ha 0 (by omega); simpa using this)
      exact cell_grown h1 hg2 (by have := (h.lb a' ha).1; simp; omega)
  · intro a' ha' i hi
    by_cases e : a' = a
    · subst e
      simp only [if_true]
      exact ((hr.row i hi).grown hgz (hkn _ (by omega)) (fun _ _ h => h)).grown hg2 (by simp; omega) (fun _ _ h => h)
    · have ha : a' < a := by omega
      rw [show (if a' = a then w5.heap.size else ra a') = ra a' from if_neg e]
      exact ((h7.row a' ha i hi).grown hgz (by have := hko a' ha (1 + i) (by omega); rw [show ra a' + (1 + i) = ra a' + 1 + i by omega] at this; exact this) (fun _ _ h => h)).grown hg2 (by have := (h.lb a' ha).1; simp; omega) (fun _ _ h => h)
  · intro a' ha'
    have hs2 := hg2.size
    by_cases e : a' = a
    · rw [show (if a' = a then w5.heap.size else ra a') = w5.heap.size from if_pos e]
      exact ⟨hcb5, by omega⟩
    · rw [show (if a' = a then w5.heap.size else ra a') = ra a' from if_neg e]
      have := h7.lb a' (by omega)
      exact ⟨this.1, by omega⟩
  · intro a' a'' h1 h2
    rw [show (if a' = a then w5.heap.size else ra a') = ra a' from if_neg (by omega)]
    by_cases e : a'' = a
    · rw [show (if a'' = a then w5.heap.size else ra a'') = w5.heap.size from if_pos e]
      exact (h.lb a' (by omega)).2
    · rw [show (if a'' = a then w5.heap.size else ra a'') = ra a'' from if_neg e]
      exact h.sep a' a'' h1 (by omega)
  · intro k e a' ha'
    rcases hat with h1 | ⟨k', h1, h2⟩
    · rw [h1] at e
      by_cases e2 : a' = a
      · rw [show (if a' = a then w5.heap.size else ra a') = w5.heap.size from if_pos e2]
        exact .inl (hk k e).2
      · rw [show (if a' = a then w5.heap.size else ra a') = ra a' from if_neg e2]
        exact h.ob k e a' (by omega)
    · rw [h1] at e
      cases e
      by_cases e2 : a' = a
      · rw [show (if a' = a then w5.heap.size else ra a') = w5.heap.size from if_pos e2]
        exact .inr (by omega)
      · rw [show (if a' = a then w5.heap.size else ra a') = ra a' from if_neg e2]
        have := (h7.lb a' (by omega)).2
        exact .inr (by omega)
end Rp
end Go.Proofs.Ytjpmebppdcclbaa
namespace Go.Proofs.Ytjpmebppdcclbaa
open Go.RowKit
namespace Rp
open Al
structure MT (W : World) (gt : Int) (N st : Nat) (gr : Value) (cb bk hi bb : Nat) (ra : Nat → Nat) (rb : Nat → Nat → Nat) (c : Co) (w : List Int) (T : Tb) (wr : World) : Prop where
  bel : Below W.heap.size W wr
  gbox : wr.heap[W.heap.size]? = some (.cells #[.int .i64 gt, .int .i64 (N : Int), .int .i64 (st : Int), gr] 24 (0, 0))
  cm : CM cb gt N st gr (.slice (some ⟨bb, 0, none⟩) N bk) c w wr
  bt : BT (fun k => hi ≤ k) 0 bb ra rb N w.length T wr
  lt : ∀ a i, a < N → i ≤ w.length → rb a i < hi ∧ cb < rb a i ∧ W.heap.size + 1 < rb a i
  le : hi ≤ wr.heap.size
theorem MT.keep {W : World} {gt : Int} {N st : Nat} {gr : Value} {cb bk hi bb : Nat} {ra : Nat → Nat} {rb : Nat → Nat → Nat} {c : Co} {w : List Int} {T : Tb} {wr w' : World} (h : MT W gt N st gr cb bk hi bb ra rb c w T wr) (hb : Below wr.heap.size wr w') : MT W gt N st gr cb bk hi bb ra rb c w T w' :=
  ⟨h.bel.trans (hb.mono h.bel.size), bx_keep h.gbox hb, h.cm.keep hb, h.bt.keep hb, h.lt, Nat.le_trans h.le hb.size⟩
theorem MT.set {W : World} {gt : Int} {N st : Nat} {gr : Value} {cb bk hi bb : Nat} {ra : Nat → Nat} {rb : Nat → Nat → Nat} {c : Co} {w : List Int} {T : Tb} {wr : World} (h : MT W gt N st gr cb bk hi bb ra rb c w T wr) {a i j : Nat} (ha : a < N) (hi' : i ≤ w.length) (hj : j ≤ w.length) {o : Option Val} {u : Value} (hu : Rd (fun k => hi ≤ k) wr (D.ints (oW o)) [u]) :
    MT W gt N st gr cb bk hi bb ra rb c w (upd T (a : Int) i j o) ((((wr.setCell ⟨rb a i, j * 4, none⟩ (.int .i64 (oC o))).setCell ⟨rb a i, j * 4 + 1, none⟩ (.int .i64 (oN o))).setCell ⟨rb a i, j * 4 + 2, none⟩ u).setCell ⟨rb a i, j * 4 + 3, none⟩ (.bool o.isSome)) := by
  have hg := grown_cellsAt wr (rb a i) (j * 4) (j * 4 + 1) (j * 4 + 2) (j * 4 + 3) (.int .i64 (oC o)) (.int .i64 (oN o)) u (.bool o.isSome)
  obtain ⟨h1, h2, h3⟩ := h.lt a i ha hi'
  refine ⟨h.bel.grown hg h.bel.size (fun k e => by cases e; omega), (hg.block _ (Array.getElem?_eq_some_iff.1 h.gbox).1 (by simp; omega)).trans h.gbox, h.cm.grown hg (fun k e => by cases e; exact h2), h.bt.set ha hi' hj hu, h.lt, Nat.le_trans h.le hg.size⟩
end Rp
end Go.Proofs.Ytjpmebppdcclbaa
namespace Go.Proofs.Ytjpmebppdcclbaa
open Go.RowKit
namespace Rp
open Al
end Rp
end Go.Proofs.Ytjpmebppdcclbaa
namespace Go.Proofs.Ytjpmebppdcclbaa
open Go.RowKit
namespace Rp
end Rp
end Go.Proofs.Ytjpmebppdcclbaa
namespace Go.Proofs.Ytjpmebppdcclbaa
open Go.RowKit
namespace Rp
open Al
section
variable {c : Co} {w : List Int} {n N tm : Nat} {K : List Rule}
end
end Rp
end Go.Proofs.Ytjpmebppdcclbaa
namespace Go.Proofs.Ytjpmebppdcclbaa
open Go.RowKit
namespace Rp
theorem rd_block {S : Nat → Prop} {w : World} {b : Nat} {cs : Array Value} {T : TypeId} {ds : List D} (hb : w.heap[b]? = some (.cells cs T (0, 0))) (hr : RdAll S w ds cs.toList) (hS : S b) (hl : ds.length ≤ maxLen) : Rd S w (.sl ds) [.slice (some ⟨b, 0, none⟩) ds.length ds.length] := by
  refine ⟨some ⟨b, 0, none⟩, ds.length, cs.toList, rfl, Nat.le_refl _, hl, (fun e => by cases e), fun i hi => ⟨⟨b, 0, none⟩, rfl, hS, ?_⟩, hr⟩
  rw [add_at]
  have hi' : i < cs.size := by simpa using hi
  simp [World.cell?, hb, hi']
theorem syms_lit {w : World} (l : List Sym) (cs : List Value) (h : cs = l.flatMap fun s => [.bool s.term, .int .i64 s.n]) : RdAll AnyB w (l.map Sym.d) cs := by
  subst h
  induction l with
  | nil => simp [RdAll]
  | cons s l ih => exact ⟨[.bool s.term, .int .i64 s.n], _, rfl, rd_sym s, ih⟩
theorem six (W : World) (A B C D E F : Obj) : (((((((W.alloc A).alloc B).alloc C).alloc D).alloc E).alloc F).heap[W.heap.size + 1 + 1 + 1]? = some D) ∧ (((((((W.alloc A).alloc B).alloc C).alloc D).alloc E).alloc F).heap[W.heap.size + 1 + 1 + 1 + 1]? = some E) ∧ (((((((W.alloc A).alloc B).alloc C).alloc D).alloc E).alloc F).heap[W.heap.size + 1 + 1 + 1 + 1 + 1]? = some F) ∧ Below W.heap.size W ((((((W.alloc A).alloc B).alloc C).alloc D).alloc E).alloc F) := by
  have al : ∀ (w : World) (o : Obj), Below w.heap.size w (w.alloc o) := fun w o => (Below.refl _ _).alloc (Nat.le_refl _) _
  have h3 := bx_new (((W.alloc A).alloc B).alloc C) D (W.heap.size + 1 + 1 + 1) (by simp)
  have h4 := bx_new ((((W.alloc A).alloc B).alloc C).alloc D) E (W.heap.size + 1 + 1 + 1 + 1) (by simp)
  have h5 := bx_new (((((W.alloc A).alloc B).alloc C).alloc D).alloc E) F (W.heap.size + 1 + 1 + 1 + 1 + 1) (by simp)
  exact ⟨bx_keep (bx_keep h3 (al _ _)) (al _ _), bx_keep h4 (al _ _), h5, ((((((Below.refl W.heap.size W).alloc (Nat.le_refl _) _).alloc (by simp) _).alloc (by simp; omega) _).alloc (by simp; omega) _).alloc (by simp; omega) _).alloc (by simp; omega) _⟩
set_option maxHeartbeats 1000000 in
theorem pairsE (W : World) : Calls Try.prog 8 #[] W fun e w' => ∃ a k, e = .returned (.agg #[.int .i64 2, .int .i64 1, .int .i64 0, .slice a 2 k]) ∧ Rd AnyB w' (.sl (pK.map Rule.d)) [.slice a 2 k] ∧ Below W.heap.size W w' := by
  go_enter Try.func8, Try.ntmps8
  go_wp2
  refine bodyPost_ret (v := .agg #[.int .i64 2, .int .i64 1, .int .i64 0, .slice (some ⟨W.heap.size + 1 + 1 + 1 + 1 + 1, 0, none⟩) 2 2]) (by simp [results, Try.results8, go_sem]) rfl ?_
  obtain ⟨h3, h4, h5, hb⟩ := six W (.cells #[.int .i64 2, .int .i64 1, .int .i64 0, .slice (some ⟨W.heap.size + 1 + 1 + 1 + 1 + 1, 0, none⟩) 2 2] 24) (.cells #[.bool true, .int .i64 0] 44) (.cells #[.bool true, .int .i64 1] 44) (.cells #[.bool true, .int .i64 0, .bool false, .int .i64 0, .bool true, .int .i64 1] 44) (.cells #[.bool true, .int .i64 0, .bool true, .int .i64 1] 44) (.cells #[.int .i64 0, .slice (some ⟨W.heap.size + 1 + 1 + 1, 0, none⟩) 3 3, .int .i64 0, .slice (some ⟨W.heap.size + 1 + 1 + 1 + 1, 0, none⟩) 2 2] 69)
  refine ⟨_, _, rfl, rd_block (ds := pK.map Rule.d) h5 ?_ trivial (by simp [pK, maxLen]), hb⟩
  refine ⟨[.int .i64 0, .slice (some ⟨W.heap.size + 1 + 1 + 1, 0, none⟩) 3 3], [.int .i64 0, .slice (some ⟨W.heap.size + 1 + 1 + 1 + 1, 0, none⟩) 2 2], rfl, rd_rule (r := ⟨0, [⟨true, 0⟩, ⟨false, 0⟩, ⟨true, 1⟩]⟩) ?_, RdAll.one (rd_rule (r := ⟨0, [⟨true, 0⟩, ⟨true, 1⟩]⟩) ?_)⟩
  · exact rd_block (ds := [⟨true, 0⟩, ⟨false, 0⟩, ⟨true, 1⟩].map Sym.d) h3 (syms_lit [⟨true, 0⟩, ⟨false, 0⟩, ⟨true, 1⟩] _ rfl) trivial (by simp [maxLen])
  · exact rd_block (ds := [⟨true, 0⟩, ⟨true, 1⟩].map Sym.d) h4 (syms_lit [⟨true, 0⟩, ⟨true, 1⟩] _ rfl) trivial (by simp [maxLen])
end Rp
end Go.Proofs.Ytjpmebppdcclbaa
namespace Go.Proofs.Ytjpmebppdcclbaa
open Go.RowKit
namespace Hl
open Rp Al
def hG : Gram := ⟨2, 1, 0, pK⟩
theorem hG_ok : checkG hG = 0 := by decide
theorem kg_of {g : Gram} (h : checkG g = 0) : ∃ N tm st : Nat, Cs.OkC g N ∧ g.nons = (N : Int) ∧ N ≤ 10 ∧ g.terms = (tm : Int) ∧ tm ≤ 8 ∧ g.start = (st : Int) ∧ st < N ∧ KG N g.rules (okS N tm) ∧ ∀ r ∈ g.rules, r.right.length ≤ 4 := by
  obtain ⟨N, hok⟩ := Cs.okC_of h
  obtain ⟨⟨h1, h2, h3, h4, h5, h6⟩, _, h7⟩ := checkG_zero h
  have hn := hok.nons
  refine ⟨N, g.terms.toNat, g.start.toNat, hok, hn, by omega, by omega, by omega, by omega, by omega, fun r hr => ?_, fun r hr => (h7 r hr).2.2.1⟩
  obtain ⟨q1, q2, q3, q4⟩ := h7 r hr
  refine ⟨q1, by omega, fun s hs => ?_⟩
  have := q4 s hs
  unfold hasS at this
  unfold okS
  cases ht : s.term with
  | true =>
    rw [ht] at this
    simp at this
    exact ⟨this.1, fun _ => by omega, fun e => by cases e⟩
  | false =>
    rw [ht] at this
    simp at this
    exact ⟨this.1, (fun e => by cases e), fun _ => by omega⟩
section
variable (g : Gram) (l : List Sym) (ga : Option Addr) (gc : Nat) (la : Option Addr) (lk : Nat) (W : World) (hgr : Rd AnyB W (.sl (g.rules.map Rule.d)) [.slice ga g.rules.length gc]) (hrl : Rd AnyB W (.sl (l.map Sym.d)) [.slice la l.length lk])
include hgr hrl
end
end Hl
end Go.Proofs.Ytjpmebppdcclbaa
