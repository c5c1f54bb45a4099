/- parlref4.Shortest, parlref4.fits, parlref4.Complete. slices.Clone of rules and of symbols. gram.Copy. The contracts of gram.Has, gram.Order, gram.Compare and of slices' functions of symbols and rules. -/
import Derived.Test.YtjpmebppdcclbaaJHoleTellsRow5
import Derived.Test.YtjpmebppdcclbaaJHoleTellsRow6
import Derived.Laws.EntriesVeiled
import Derived.Test.YtjpmebppdcclbaaJHoleTellsRow1
import Derived.Test.YtjpmebppdcclbaaJHoleTellsRow2
import Derived.Deep.DeepCutAuto
import Derived.Deep.LoopGhost
import Derived.BigQuiet
import Derived.Deep.RegionHeld3
namespace Go.Proofs.Ytjpmebppdcclbaa
open Go.RowKit
namespace Hl
open Rp
theorem eg46 : ∀ args w, (callFunc 46 args).run Try.prog w = .ok (.enter 46 args) w := fun _ _ => by kernel_rfl
theorem eg47 : ∀ args w, (callFunc 47 args).run Try.prog w = .ok (.enter 47 args) w := fun _ _ => by kernel_rfl
theorem eg48 : ∀ args w, (callFunc 48 args).run Try.prog w = .ok (.enter 48 args) w := fun _ _ => by kernel_rfl
theorem eg52 : ∀ args w, (callFunc 52 args).run Try.prog w = .ok (.enter 52 args) w := fun _ _ => by kernel_rfl
theorem eg54 : ∀ args w, (callFunc 54 args).run Try.prog w = .ok (.enter 54 args) w := fun _ _ => by kernel_rfl
def FreeFn (fn : Nat) (lb : Array Value) (sv : Sym → Option Val) (ok : Sym → Prop) (P : Nat → Prop) (w : World) : Prop :=
  ∀ W (y : Sym), ok y → Below w.heap.size w W → Calls Try.prog fn (#[.agg #[.bool y.term, .int .i64 y.n]] ++ lb) W fun e w' => ∃ x, e = .returned x ∧ VR (fun k => P k ∨ W.heap.size ≤ k) w' x (sv y) ∧ Below W.heap.size W w'
set_option maxHeartbeats 1000000 in
theorem empS (n : Nat) (P : Nat → Prop) (W : World) : EmpFn 47 #[] emS n P W := by
  intro W' i j hij hj hb
  show Calls _ _ #[.int .i64 (i : Nat), .int .i64 (j : Nat)] _ _
  clear hij hj hb
  go_enter Try.func47, Try.ntmps47
  go_wp2
  refine bodyPost_ret (v := .agg #[.bool true, .int .i64 0, .int .i64 0, .slice none 0 0]) (by simp [results, Try.results47, go_sem]) rfl ?_
  exact ⟨_, rfl, ⟨_, rfl, rd_nil _ _⟩, (Below.refl _ _).alloc (Nat.le_refl _) _⟩
set_option maxHeartbeats 1000000 in
theorem empH (n : Nat) (P : Nat → Prop) (W : World) : EmpFn 54 #[] emH n P W := by
  intro W' i j hij hj hb
  show Calls _ _ #[.int .i64 (i : Nat), .int .i64 (j : Nat)] _ _
  obtain ⟨b, HB⟩ : ∃ b : Bool, Hid (b = ((i : Int) == (j : Int))) := ⟨_, rfl⟩
  have hq : ((i : Int) == (j : Int)) = b := HB.out.symm
  have HE : Hid (VR (fun k => P k ∨ W'.heap.size ≤ k) (W'.alloc (.cells #[.bool b, .int .i64 0, .int .i64 0, .slice none 0 0] 36)) (.agg #[.bool b, .int .i64 0, .int .i64 0, .slice none 0 0]) (emH i j)) := by
    unfold emH
    by_cases e : i = j
    · have : b = true := by rw [HB.out, e]; simp
      rw [if_pos e, this]
      exact ⟨_, rfl, rd_nil _ _⟩
    · have : b = false := by rw [HB.out]; simp; omega
      rw [if_neg e, this]
      exact VR.none _ _
  clear hij hj hb HB
  go_enter Try.func54, Try.ntmps54
  go_wp2
  refine bodyPost_ret (v := .agg #[.bool b, .int .i64 0, .int .i64 0, .slice none 0 0]) (by simp [results, Try.results54, go_sem]) rfl ?_
  exact ⟨_, rfl, HE.out, (Below.refl _ _).alloc (Nat.le_refl _) _⟩
theorem rd_one (w : World) (x : Int) : Rd (fun k => w.heap.size ≤ k) (w.alloc (.cells #[.int .i64 x] 3)) (D.ints [x]) [.slice (some ⟨w.heap.size, 0, none⟩) 1 1] := by
  refine ⟨some ⟨w.heap.size, 0, none⟩, 1, [.int .i64 x], rfl, by simp, by simp [maxLen], (fun e => by cases e), fun i hi => ?_, ?_⟩
  · simp at hi
    subst hi
    refine ⟨⟨w.heap.size, 0, none⟩, rfl, Nat.le_refl _, ?_⟩
    rw [add_at]
    have hn := heap_alloc_new w (.cells #[.int .i64 x] 3)
    simp only [World.cell?, hn]
    rfl
  · simp [RdAll, Rd]
set_option maxHeartbeats 2000000 in
theorem leafSE (ok : Sym → Prop) (n : Nat) (P : Nat → Prop) (W : World) : LeafFn 46 #[] leafS ok n P W := by
  intro W' y i j _ hij hj hb
  show Calls _ _ #[.agg #[.bool y.term, .int .i64 y.n], .int .i64 (i : Nat), .int .i64 (j : Nat)] _ _
  obtain ⟨yt, yn⟩ := y
  unfold leafS
  simp only
  clear hij hj hb
  cases yt with
  | false =>
    simp only [Bool.false_eq_true, if_false]
    go_enter Try.func46, Try.ntmps46
    go_wp2
    refine bodyPost_ret (v := .agg #[.bool false, .int .i64 0, .int .i64 0, .slice none 0 0]) (by simp [results, Try.results46, go_sem]) rfl ?_
    exact ⟨_, rfl, VR.none _ _, ((Below.refl _ _).alloc (Nat.le_refl _) _).alloc (by simp) _⟩
  | true =>
    simp only [if_true]
    obtain ⟨w0, HW⟩ := nameIt ((W'.alloc (.cells #[.bool true, .int .i64 yn] 44)).alloc (.cells #[.bool false, .int .i64 0, .int .i64 0, .slice none 0 0] 36))
    have hw0 : Below W'.heap.size W' w0 := by
      rw [← HW.out]
      exact ((Below.refl _ _).alloc (Nat.le_refl _) _).alloc (by simp) _
    have hy0 : w0.heap[W'.heap.size]? = some (.cells #[.bool true, .int .i64 yn] 44 (0, 0)) := by
      rw [← HW.out]; exact bx_keep (bx_new _ _ _ rfl) ((Below.refl _ _).alloc (Nat.le_refl _) _)
    have hz0 : w0.heap[W'.heap.size + 1]? = some (.cells #[.bool false, .int .i64 0, .int .i64 0, .slice none 0 0] 36 (0, 0)) := by
      rw [← HW.out]; exact bx_new _ _ _ (by simp)
    have hal : Below w0.heap.size w0 (w0.alloc (.cells #[.int .i64 yn] 3)) := (Below.refl _ _).alloc (Nat.le_refl _) _
    obtain ⟨y0, y1⟩ := bx_cells2 hy0
    obtain ⟨z0, z1, z2, z3⟩ := bx_cells4 (bx_keep hz0 hal)
    obtain ⟨f0, f1, f2, f3⟩ := bx_free4 (bx_keep hz0 hal)
    have HSZ : Hid (w0.heap.size = W'.heap.size + 1 + 1) := by show _ = _; rw [← HW.out]; simp
    have HB0 := Lib.hid (hw0.trans (hal.mono hw0.size))
    clear hw0 hy0 hz0 hal
    go_enter Try.func46, Try.ntmps46
    go_upto_region 1 with fail
    rw [HW.out]
    clear HW
    go_wp2_with fail
    refine bodyPost_ret (v := .agg #[.bool true, .int .i64 0, .int .i64 1, .slice (some ⟨w0.heap.size, 0, none⟩) 1 1]) (by simp [results, Try.results46, go_sem, z0, z1, z2, z3]) rfl ?_
    have hg := grown_cell4 (w0.alloc (.cells #[.int .i64 yn] 3)) (W'.heap.size + 1) (.bool true) (.int .i64 0) (.int .i64 1) (.slice (some ⟨w0.heap.size, 0, none⟩) 1 1)
    have hsz := HSZ.out
    refine ⟨_, rfl, ⟨.slice (some ⟨w0.heap.size, 0, none⟩) 1 1, rfl, (rd_grown (rd_one w0 yn) hg (fun k e h => ?_)).mono (fun k h _ => ?_)⟩, HB0.out.grown hg HB0.out.size (fun k e => by cases e; omega)⟩
    · cases e
      have h2 : w0.heap.size ≤ W'.heap.size + 1 := h
      omega
    · have h2 : w0.heap.size ≤ k := h
      exact .inr (by show W'.heap.size ≤ k; omega)
structure ShM (W1 : World) (gt gn gs : Int) (gr : Value) (T : Tb) (b : Nat) (wr : World) : Prop where
  sm : SM (fun _ => False) W1 gt gn gs gr (.func (.func 46) #[] #[]) (.func (.func 47) #[] #[]) 0 T wr
  box : wr.heap[b]? = some (.cells #[.pointer (some ⟨W1.heap.size + 2, 0, none⟩)] 83 (0, 0))
set_option maxHeartbeats 4000000 in
set_option maxRecDepth 100000 in
theorem freeE {W1 : World} {gt gn gs : Int} {gr : Value} {T : Tb} {b : Nat} {wr : World} (h : ShM W1 gt gn gs gr T b wr) (ok : Sym → Prop) (hok : ∀ s, ok s → okN s.n) :
    FreeFn 48 #[.pointer (some ⟨b, 0, none⟩)] (fun y => ofT leafS T y 0 0) ok (fun k => W1.heap.size ≤ k ∧ k < wr.heap.size) wr := by
  intro W y hy hb
  show Calls _ _ #[.agg #[.bool y.term, .int .i64 y.n], .pointer (some ⟨b, 0, none⟩)] _ _
  obtain ⟨w0, HW⟩ := nameIt ((W.alloc (.cells #[.bool y.term, .int .i64 y.n] 44)).alloc (.cells #[.bool false, .int .i64 0, .int .i64 0, .slice none 0 0] 36))
  have hw0 : Below W.heap.size W w0 := by
    rw [← HW.out]
    exact ((Below.refl _ _).alloc (Nat.le_refl _) _).alloc (by simp) _
  have hy0 : w0.heap[W.heap.size]? = some (.cells #[.bool y.term, .int .i64 y.n] 44 (0, 0)) := by
    rw [← HW.out]; exact bx_keep (bx_new _ _ _ rfl) ((Below.refl _ _).alloc (Nat.le_refl _) _)
  have HZ0 : Hid (w0.heap[W.heap.size + 1]? = some (.cells #[.bool false, .int .i64 0, .int .i64 0, .slice none 0 0] 36 (0, 0))) := by
    rw [← HW.out]; exact bx_new _ _ _ (by simp)
  have HSZ : Hid (w0.heap.size = W.heap.size + 1 + 1) := by show _ = _; rw [← HW.out]; simp
  have hbx := bx_keep h.box (hb.trans (hw0.mono hb.size))
  have HB0 := Lib.hid hw0
  have hof := h.sm.ofFn eg46 (leafSE ok 0 (fun _ => False) W1) (fun _ h => h.elim) (by omega) hok w0 y 0 0 hy (Nat.le_refl _) (Nat.le_refl _) (hb.trans (hw0.mono hb.size))
  obtain ⟨o, HO⟩ := nameIt (ofT leafS T y 0 0)
  rw [HO.out] at hof
  have HOF := Lib.hid hof
  rw [show (fun y => ofT leafS T y 0 0) y = o from HO.out]
  obtain ⟨y0, y1⟩ := bx_cells2 hy0
  have c0 := bx_cells1 hbx
  have HBW := Lib.hid hb.size
  have HSS := Lib.hid h.sm.bel.size
  obtain ⟨yt, HYT⟩ := nameIt y.term
  obtain ⟨yn, HYN⟩ := nameIt y.n
  rw [HYT.out] at y0 HOF HW
  rw [HYN.out] at y1 HOF HW
  rw [HYT.out, HYN.out]
  clear hw0 hy0 hbx hof
  go_enter Try.func48, Try.ntmps48
  go_upto_region 1 with fail
  rw [HW.out]
  clear HW
  go_wp2_with fail
  refine HOF.out.mono ?_
  rintro e w1 ⟨x, rfl, hv, hb1⟩
  obtain ⟨a1, m1, k1, rfl, hrd⟩ := vr_form hv
  have HZ1 := Lib.hid (bx_keep HZ0.out hb1)
  have HB1 := Lib.hid (HB0.out.trans (hb1.mono HB0.out.size))
  have HRD := Lib.hid hrd
  obtain ⟨z0, z1, z2, z3⟩ := bx_cells4 HZ1.out
  obtain ⟨f0, f1, f2, f3⟩ := bx_free4 HZ1.out
  clear hv hb1 hrd y0 y1 c0
  go_wp2_with fail
  refine bodyPost_ret (v := .agg #[.bool o.isSome, .int .i64 (oC o), .int .i64 (oN o), .slice a1 m1 k1]) (by simp [results, Try.results48, go_sem, z0, z1, z2, z3]) rfl ?_
  have hg := grown_cell4 w1 (W.heap.size + 1) (.bool o.isSome) (.int .i64 (oC o)) (.int .i64 (oN o)) (.slice a1 m1 k1)
  have hsz := HSZ.out
  have hbw := HBW.out
  have hss := HSS.out
  refine ⟨_, rfl, ⟨.slice a1 m1 k1, rfl, (rd_grown HRD.out hg (fun k e h2 => ?_)).mono (fun k h2 _ => ?_)⟩, HB1.out.grown hg HB1.out.size (fun k e => by cases e; omega)⟩
  · cases e
    rcases h2 with h2 | h2
    · have := h2.2; omega
    · have h3 : w0.heap.size ≤ W.heap.size + 1 := h2; omega
  · rcases h2 with h2 | h2
    · rcases h2.1 with h3 | h3
      · exact h3.elim
      · exact .inl ⟨by omega, h2.2⟩
    · have h3 : w0.heap.size ≤ k := h2
      exact .inr (by show W.heap.size ≤ k; omega)
def ShT (K : List Rule) (N tm : Nat) (T : Tb) : Prop := CG leafS emS 0 N K (GS tm) T ∧ JS N T ∧ ClosedT K leafS emS 0 T
set_option maxHeartbeats 4000000 in
set_option maxRecDepth 100000 in
theorem shortE (K : List Rule) (N tm : Nat) (hN : N ≤ 10) (htm : tm ≤ 100) (hK : KG N K (okS N tm)) (hr4 : ∀ r ∈ K, r.right.length ≤ 4) (gt gn gs : Int) (ga : Option Addr) (gk : Nat) (W : World) (hgr : Rd AnyB W (.sl (K.map Rule.d)) [.slice ga K.length gk]) :
    Calls Try.prog 15 #[.agg #[.int .i64 gt, .int .i64 gn, .int .i64 gs, .slice ga K.length gk]] W fun e w' => ∃ T W1 b, e = .returned (.func (.func 48) #[] #[.pointer (some ⟨b, 0, none⟩)]) ∧ ShT K N tm T ∧ ShM W1 gt gn gs (.slice ga K.length gk) T b w' ∧ Below W.heap.size W W1 ∧ Below W.heap.size W w' := by
  obtain ⟨w0, HW⟩ := nameIt (W.alloc (.cells #[.int .i64 gt, .int .i64 gn, .int .i64 gs, .slice ga K.length gk] 24))
  have hw0 : Below W.heap.size W w0 := by rw [← HW.out]; exact (Below.refl _ _).alloc (Nat.le_refl _) _
  have hg0 : w0.heap[W.heap.size]? = some (.cells #[.int .i64 gt, .int .i64 gn, .int .i64 gs, .slice ga K.length gk] 24 (0, 0)) := by rw [← HW.out]; exact bx_new _ _ _ rfl
  have hoks : ∀ s, okS N tm s → okN s.n := fun s hs => by
    obtain ⟨h1, h2, h3⟩ := hs
    cases ht : s.term with
    | true => have := h2 ht; exact ⟨h1, by omega⟩
    | false => have := h3 ht; exact ⟨h1, by omega⟩
  have hso := solveE 46 #[] leafS 47 #[] emS (okS N tm) 0 1048576 (fun _ => False) w0 eg46 eg47 (leafSE _ _ _ _) (empS _ _ _) (fun _ h => h.elim) (by omega) (by omega) K gt gn gs (.slice ga K.length gk) (hgr.below hw0) (fun r hr => by
    obtain ⟨h1, h2, h3⟩ := hK r hr
    exact ⟨⟨h1, by omega⟩, hr4 r hr, h3⟩) hoks _ _ (planSh hN hK hr4)
  have HSO := Lib.hid hso
  have HB0 := Lib.hid hw0
  obtain ⟨kn, HKN⟩ := nameIt K.length
  rw [HKN.out] at hg0 HSO HW
  rw [HKN.out]
  obtain ⟨x0, x1, x2, x3⟩ := bx_cells4 hg0
  clear hw0 hg0 hso hgr
  go_enter Try.func15, Try.ntmps15
  go_upto_region 2 with fail
  rw [HW.out]
  clear HW
  go_wp2_with fail
  refine HSO.out.mono ?_
  rintro e w1 ⟨T, rfl, ⟨hcg, hjs⟩, hcl, hsm⟩
  have HST : Hid (ShT K N tm T) := ⟨hcg, hjs, hcl⟩
  have HSM := Lib.hid hsm
  clear hcg hjs hcl hsm x0 x1 x2 x3
  go_wp2_with fail
  go_ret
  have hal : Below w1.heap.size w1 (w1.alloc (.cells #[.pointer (some ⟨w0.heap.size + 2, 0, none⟩)] 83)) := (Below.refl _ _).alloc (Nat.le_refl _) _
  have hb := HSM.out.bel
  exact ⟨T, w0, w1.heap.size, rfl, HST.out, ⟨HSM.out.keep hal, bx_new _ _ _ rfl⟩, HB0.out, HB0.out.trans ((hb.trans (hal.mono hb.size)).mono HB0.out.size)⟩
set_option maxHeartbeats 2000000 in
theorem fitsE (y c : Sym) (W : World) : Calls Try.prog 53 #[.agg #[.bool y.term, .int .i64 y.n], .agg #[.bool c.term, .int .i64 c.n]] W fun e w' => e = .returned (.bool (fitB y c)) ∧ Below W.heap.size W w' := by
  obtain ⟨yt, yn⟩ := y
  obtain ⟨ct, cn⟩ := c
  rw [← isB_fit]
  unfold isB
  simp only
  have HB : Hid (Below W.heap.size W ((W.alloc (.cells #[.bool yt, .int .i64 yn] 44)).alloc (.cells #[.bool ct, .int .i64 cn] 44))) := ((Below.refl _ _).alloc (Nat.le_refl _) _).alloc (by simp) _
  have hse1 := symEq yt ct yn cn
  obtain ⟨e1, HE1⟩ := nameIt (yt == ct && yn == cn)
  obtain ⟨e2, HE2⟩ := nameIt (cn == -1)
  have hce : (cn == -1) = e2 := HE2.out
  rw [HE1.out] at hse1 ⊢
  rw [HE2.out]
  clear HE1 HE2
  cases e1 <;> cases yt <;> cases ct <;>
  · go_enter Try.func53, Try.ntmps53
    go_wp2
    go_ret
    exact ⟨by simp, HB.out⟩
set_option maxHeartbeats 4000000 in
set_option maxRecDepth 100000 in
theorem leafHE (fn : Nat) (fb : Array Value) (egf : ∀ args w, (callFunc fn args).run Try.prog w = .ok (.enter fn args) w) (sv : Sym → Option Val) (ok : Sym → Prop) (l : List Sym) (hl : l.length ≤ 12) (P : Nat → Prop) (bl bf : Nat) (la : Option Addr) (lk : Nat) (W : World)
    (hbl : W.heap[bl]? = some (.cells #[.slice la l.length lk] 47 (0, 0))) (hrl : Rd AnyB W (.sl (l.map Sym.d)) [.slice la l.length lk]) (hbf : W.heap[bf]? = some (.cells #[.func (.func fn) #[] fb] 41 (0, 0))) (hfr : FreeFn fn fb sv ok P W) (hP : ∀ k, P k → k < W.heap.size) :
    LeafFn 52 #[.pointer (some ⟨bl, 0, none⟩), .pointer (some ⟨bf, 0, none⟩)] (leafH sv l) ok l.length P W := by
  intro W' y i j hy hij hj hb
  show Calls _ _ #[.agg #[.bool y.term, .int .i64 y.n], .int .i64 (i : Nat), .int .i64 (j : Nat), .pointer (some ⟨bl, 0, none⟩), .pointer (some ⟨bf, 0, none⟩)] _ _
  obtain ⟨w0, HW⟩ := nameIt ((W'.alloc (.cells #[.bool y.term, .int .i64 y.n] 44)).alloc (.cells #[.bool false, .int .i64 0, .int .i64 0, .slice none 0 0] 36))
  have hw0 : Below W'.heap.size W' w0 := by
    rw [← HW.out]
    exact ((Below.refl _ _).alloc (Nat.le_refl _) _).alloc (by simp) _
  have HY0 : Hid (w0.heap[W'.heap.size]? = some (.cells #[.bool y.term, .int .i64 y.n] 44 (0, 0))) := by
    rw [← HW.out]; exact bx_keep (bx_new _ _ _ rfl) ((Below.refl _ _).alloc (Nat.le_refl _) _)
  have HZ0 : Hid (w0.heap[W'.heap.size + 1]? = some (.cells #[.bool false, .int .i64 0, .int .i64 0, .slice none 0 0] 36 (0, 0))) := by
    rw [← HW.out]; exact bx_new _ _ _ (by simp)
  have HSZ : Hid (w0.heap.size = W'.heap.size + 1 + 1) := by show _ = _; rw [← HW.out]; simp
  have HB0 := Lib.hid hw0
  have hb0 := hb.trans (hw0.mono hb.size)
  have HBL := Lib.hid (bx_keep hbl hb0)
  have HBF := Lib.hid (bx_keep hbf hb0)
  have HRL := Lib.hid (hrl.below hb0)
  have HFR : Hid (∀ W2, Below w0.heap.size w0 W2 → Calls Try.prog fn (#[.agg #[.bool y.term, .int .i64 y.n]] ++ fb) W2 fun e w' => ∃ x, e = .returned x ∧ VR (fun k => P k ∨ W2.heap.size ≤ k) w' x (sv y) ∧ Below W2.heap.size W2 w') := fun W2 h2 => hfr W2 y hy (hb0.trans (h2.mono hb0.size))
  have HPW : Hid (∀ k, P k → k < W'.heap.size) := fun k hk => Nat.lt_of_lt_of_le (hP k hk) hb.size
  obtain ⟨o, HO⟩ := nameIt (leafH sv l y i j)
  rw [HO.out]
  obtain ⟨PST, HPS⟩ := nameIt (fun (e : Ending) (w' : World) => ∃ x, e = .returned x ∧ VR (fun k => P k ∨ W'.heap.size ≤ k) w' x o ∧ Below W'.heap.size W' w')
  rw [HPS.out]
  obtain ⟨yt, HYT⟩ := nameIt y.term
  obtain ⟨yn, HYN⟩ := nameIt y.n
  rw [HYT.out, HYN.out] at HY0 HFR HW
  rw [HYT.out, HYN.out]
  obtain ⟨ln, HLN⟩ := nameIt l.length
  rw [HLN.out] at hj hl HBL HRL
  obtain ⟨i1, HI1⟩ := nameIt (i + 1)
  have hw1 : IntKind.i64.wrap ((i : Int) + 1) = (i1 : Int) := by have := HI1.out; rw [IntWalk.i64_in _ (by omega)]; omega
  have HEND : Hid (∀ w3 a1 m1 k1, Below w0.heap.size w0 w3 → Rd (fun k => (P k ∨ W'.heap.size ≤ k) ∧ k ≠ W'.heap.size + 1) w3 (D.ints (oW o)) [.slice a1 m1 k1] → PST (.returned (.agg #[.bool o.isSome, .int .i64 (oC o), .int .i64 (oN o), .slice a1 m1 k1])) ((((w3.setCell ⟨W'.heap.size + 1, 0, none⟩ (.bool o.isSome)).setCell ⟨W'.heap.size + 1, 0 + 1, none⟩ (.int .i64 (oC o))).setCell ⟨W'.heap.size + 1, 0 + 2, none⟩ (.int .i64 (oN o))).setCell ⟨W'.heap.size + 1, 0 + 3, none⟩ (.slice a1 m1 k1))) := by
    intro w3 a1 m1 k1 hb3 hv
    have hg := grown_cell4 w3 (W'.heap.size + 1) (.bool o.isSome) (.int .i64 (oC o)) (.int .i64 (oN o)) (.slice a1 m1 k1)
    have hB : Below W'.heap.size W' w3 := HB0.out.trans (hb3.mono HB0.out.size)
    rw [← HPS.out]
    refine ⟨_, rfl, ⟨_, rfl, (rd_grown hv hg ?_).mono (fun k h _ => h.1)⟩, hB.grown hg hB.size ?_⟩
    · intro k e h
      cases e
      exact h.2 rfl
    · intro k e
      cases e
      omega
  clear hw0 hb0 hb hbl hrl hbf hfr hP HPS
  by_cases he : j = i1
  · have hil : i < ln := by have := HI1.out; omega
    have hil' : (i : Int) < (ln : Int) := by omega
    have hilL : i < l.length := by rw [HLN.out]; exact hil
    obtain ⟨lb, lo, hla, -, -, q0, q1⟩ := (show Rd AnyB w0 (.sl (l.map Sym.d)) [.slice la ln lk] from HRL.out).sym_at hilL
    subst hla
    obtain ⟨⟨ct, cn⟩, HC⟩ := nameIt l[i]
    rw [HC.out] at q0 q1
    have hne : ((j : Int) != (i1 : Int)) = false := by simp; omega
    obtain ⟨fbq, HFB⟩ := nameIt (fitB ⟨yt, yn⟩ ⟨ct, cn⟩)
    have hlf : o = if fbq then sv y else none := by
      rw [← HO.out]
      unfold leafH
      have hg : l.getD i ⟨true, 0⟩ = ⟨ct, cn⟩ := by rw [List.getD_eq_getElem?_getD, List.getElem?_eq_getElem hilL]; exact HC.out
      have ey : y = ⟨yt, yn⟩ := by obtain ⟨a, b⟩ := y; rw [← HYT.out, ← HYN.out]
      rw [hg, show fitB y ⟨ct, cn⟩ = fbq by rw [ey]; exact HFB.out]
      by_cases h : fbq = true
      · rw [if_pos ⟨by rw [he]; exact HI1.out.symm, h, hilL⟩, if_pos h]
      · rw [if_neg (fun h' => h h'.2.1), if_neg h]
    have HLF := Lib.hid hlf
    have HFT : Hid (∀ W2, Below w0.heap.size w0 W2 → Calls Try.prog 53 #[.agg #[.bool yt, .int .i64 yn], .agg #[.bool ct, .int .i64 cn]] W2 fun e w' => e = .returned (.bool fbq) ∧ Below W2.heap.size W2 w') := by
      intro W2 _
      have := fitsE ⟨yt, yn⟩ ⟨ct, cn⟩ W2
      rw [HFB.out] at this
      exact this
    obtain ⟨y0, y1⟩ := bx_cells2 HY0.out
    have c0 := bx_cells1 HBL.out
    have i0 := aft_cell y0
    have i2 := aft_cell y1
    have i3 := aft_cell c0
    have i4 := aft_cell q0
    have i5 := aft_cell q1
    clear hlf HC y0 y1 c0 q0 q1
    go_enter Try.func52, Try.ntmps52
    go_upto_region 1 with fail
    rw [HW.out]
    clear HW
    refine wp_region_after (by kernel_rfl) (by kernel_rfl) ?_
    repeat (go_big_quiet_step (with_reducible exact Calls.after (HFT.out _ (Aft.bel _))))
    refine wpQuiet_nil ?_
    rintro w7 ⟨⟨_, hb7⟩, rfl⟩
    have HB7 := Lib.hid hb7
    clear i0 i2 i3 i4 i5
    cases fbq with
    | false =>
      have ho : o = none := by rw [HLF.out]; rfl
      subst ho
      obtain ⟨z0, z1, z2, z3⟩ := bx_cells4 (bx_keep HZ0.out hb7)
      obtain ⟨f0, f1, f2, f3⟩ := bx_free4 (bx_keep HZ0.out hb7)
      have HE := Lib.hid (HEND.out w7 none 0 0 hb7 (rd_nil _ _))
      clear hb7
      go_wp2_with fail
      exact bodyPost_ret (v := .agg #[.bool false, .int .i64 0, .int .i64 0, .slice none 0 0]) (by simp [results, Try.results52, go_sem, z0, z1, z2, z3]) rfl HE.out
    | true =>
      have ho : sv y = o := by rw [HLF.out]; rfl
      obtain ⟨y0, y1⟩ := bx_cells2 (bx_keep HY0.out hb7)
      have c1 := bx_cells1 (bx_keep HBF.out hb7)
      have hfr := HFR.out w7 hb7
      rw [ho] at hfr
      have HFR7 := Lib.hid hfr
      clear hb7 hfr ho
      go_wp2_with fail
      refine HFR7.out.mono ?_
      rintro e w8 ⟨x, rfl, hv, hb8⟩
      obtain ⟨a1, m1, k1, rfl, hrd⟩ := vr_form hv
      have HB8 := Lib.hid (HB7.out.trans (hb8.mono HB7.out.size))
      have HZ8 := Lib.hid (bx_keep HZ0.out HB8.out)
      have HE := Lib.hid (HEND.out w8 a1 m1 k1 HB8.out (hrd.mono (fun k hk _ => by
        have h1 := HSZ.out
        have h2 := HB7.out.size
        rcases hk with hk | hk
        · have := HPW.out k hk
          exact ⟨.inl hk, by omega⟩
        · have h3 : w7.heap.size ≤ k := hk
          exact ⟨.inr (by omega), by omega⟩)))
      obtain ⟨z0, z1, z2, z3⟩ := bx_cells4 HZ8.out
      obtain ⟨f0, f1, f2, f3⟩ := bx_free4 HZ8.out
      clear hv hb8 hrd y0 y1 c1
      go_wp2_with fail
      exact bodyPost_ret (v := .agg #[.bool o.isSome, .int .i64 (oC o), .int .i64 (oN o), .slice a1 m1 k1]) (by simp [results, Try.results52, go_sem, z0, z1, z2, z3]) rfl HE.out
  · have hne : ((j : Int) != (i1 : Int)) = true := by simp; omega
    have ho : o = none := by
      rw [← HO.out]
      unfold leafH
      rw [if_neg (fun h => he (by rw [h.1]; exact HI1.out))]
    subst ho
    clear HO
    go_enter Try.func52, Try.ntmps52
    go_upto_region 1 with fail
    rw [HW.out]
    clear HW
    have HFT : Hid (∀ W2, Below w0.heap.size w0 W2 → Calls Try.prog 53 #[.agg #[.bool yt, .int .i64 yn], .agg #[.bool true, .int .i64 0]] W2 fun e w' => e = .returned (.bool (fitB ⟨yt, yn⟩ ⟨true, 0⟩)) ∧ Below W2.heap.size W2 w') := fun W2 _ => fitsE ⟨yt, yn⟩ ⟨true, 0⟩ W2
    refine wp_region_after (by kernel_rfl) (by kernel_rfl) ?_
    repeat (go_big_quiet_step (with_reducible exact Calls.after (HFT.out _ (Aft.bel _))))
    refine wpQuiet_nil ?_
    rintro w7 ⟨⟨_, hb7⟩, rfl⟩
    obtain ⟨z0, z1, z2, z3⟩ := bx_cells4 (bx_keep HZ0.out hb7)
    obtain ⟨f0, f1, f2, f3⟩ := bx_free4 (bx_keep HZ0.out hb7)
    have HE := Lib.hid (HEND.out w7 none 0 0 hb7 (rd_nil _ _))
    clear hb7
    go_wp2_with fail
    exact bodyPost_ret (v := .agg #[.bool false, .int .i64 0, .int .i64 0, .slice none 0 0]) (by simp [results, Try.results52, go_sem, z0, z1, z2, z3]) rfl HE.out
set_option maxHeartbeats 8000000 in
set_option maxRecDepth 100000 in
theorem completeE (K : List Rule) (N tm st : Nat) (hN : N ≤ 10) (htm : tm ≤ 100) (hsN : st < N) (hK : KG N K (okS N tm)) (hr4 : ∀ r ∈ K, r.right.length ≤ 4) (l : List Sym) (hl : l.length ≤ 12) (gt gn : Int) (ga : Option Addr) (gk : Nat) (la : Option Addr) (lk : Nat) (W : World) (hgr : Rd AnyB W (.sl (K.map Rule.d)) [.slice ga K.length gk]) (hrl : Rd AnyB W (.sl (l.map Sym.d)) [.slice la l.length lk]) :
    Calls Try.prog 21 #[.agg #[.int .i64 gt, .int .i64 gn, .int .i64 (st : Int), .slice ga K.length gk], .slice la l.length lk] W fun e w' => ∃ S x, ShT K N tm S ∧ e = .returned x ∧ VR (fun k => W.heap.size ≤ k) w' x (cvOf (svOf K N tm) l K N tm ⟨false, (st : Int)⟩ 0 l.length) ∧ Below W.heap.size W w' := by
  obtain ⟨w0, HW⟩ := nameIt (((W.alloc (.cells #[.int .i64 gt, .int .i64 gn, .int .i64 (st : Int), .slice ga K.length gk] 24)).alloc (.cells #[.slice la l.length lk] 47)).alloc (.cells #[.bool false, .int .i64 0, .int .i64 0, .slice none 0 0] 36))
  have hw0 : Below W.heap.size W w0 := by
    rw [← HW.out]
    exact (((Below.refl _ _).alloc (Nat.le_refl _) _).alloc (by simp) _).alloc (by simp; omega) _
  have HSZ : Hid (w0.heap.size = W.heap.size + 1 + 1 + 1) := by show _ = _; rw [← HW.out]; simp
  have al : ∀ (w : World) (o : Obj), Below w.heap.size w (w.alloc o) := fun w o => (Below.refl _ _).alloc (Nat.le_refl _) _
  have HG0 : Hid (w0.heap[W.heap.size]? = some (.cells #[.int .i64 gt, .int .i64 gn, .int .i64 (st : Int), .slice ga K.length gk] 24 (0, 0))) := by
    rw [← HW.out]; exact bx_keep (bx_keep (bx_new _ _ _ rfl) (al _ _)) (al _ _)
  have HQ0 : Hid (w0.heap[W.heap.size + 1]? = some (.cells #[.slice la l.length lk] 47 (0, 0))) := by
    rw [← HW.out]; exact bx_keep (bx_new _ _ _ (by simp)) (al _ _)
  have HZ0 : Hid (w0.heap[W.heap.size + 1 + 1]? = some (.cells #[.bool false, .int .i64 0, .int .i64 0, .slice none 0 0] 36 (0, 0))) := by
    rw [← HW.out]; exact bx_new _ _ _ (by simp)
  have HB0 := Lib.hid hw0
  have hoks : ∀ s, okS N tm s → okN s.n := fun s hs => by
    obtain ⟨h1, h2, h3⟩ := hs
    cases ht : s.term with
    | true => have := h2 ht; exact ⟨h1, by omega⟩
    | false => have := h3 ht; exact ⟨h1, by omega⟩
  have HSH := Lib.hid (shortE K N tm hN htm hK hr4 gt gn (st : Int) ga gk w0 (hgr.below hw0))
  have hgr0 := hgr.below hw0
  have hrl0 := hrl.below hw0
  -- what the two calls of the last line answer, for any table of Shortest
  have HSO : Hid (∀ S w1 b5 fb, ShT K N tm S → Below w0.heap.size w0 w1 → FreeFn 48 fb (svOf K N tm) (okS N tm) (fun k => w0.heap.size ≤ k ∧ k < w1.heap.size) w1 → w1.heap[b5]? = some (.cells #[.func (.func 48) #[] fb] 41 (0, 0)) → ∀ W', Below w1.heap.size w1 W' →
      Calls Try.prog 41 #[.agg #[.int .i64 gt, .int .i64 gn, .int .i64 (st : Int), .slice ga K.length gk], .int .i64 (l.length : Nat), .func (.func 52) #[] #[.pointer (some ⟨W.heap.size + 1, 0, none⟩), .pointer (some ⟨b5, 0, none⟩)], .func (.func 54) #[] #[]] W' fun e w' =>
        e = .returned (.pointer (some ⟨W'.heap.size + 2, 0, none⟩)) ∧ Below w1.heap.size w1 w' ∧ ∀ W2, Below w'.heap.size w' W2 → Calls Try.prog 42 #[.pointer (some ⟨W'.heap.size + 2, 0, none⟩), .agg #[.bool false, .int .i64 (st : Int)], .int .i64 0, .int .i64 (l.length : Nat)] W2 fun e w3 => ∃ x, e = .returned x ∧ VR (fun k => w0.heap.size ≤ k) w3 x (cvOf (svOf K N tm) l K N tm ⟨false, (st : Int)⟩ 0 l.length) ∧ Below W2.heap.size W2 w3) := by
    intro S w1 b5 fb hS hb1 hfr hb5 W' hb'
    obtain ⟨hcg, hjs, hcl⟩ := hS
    have hsv := svOk hN hcg hjs hcl
    have hP : ∀ k, (w0.heap.size ≤ k ∧ k < w1.heap.size) → k < W'.heap.size := fun k hk => Nat.lt_of_lt_of_le hk.2 hb'.size
    have hM : S0 (svOf K N tm) l l.length ≤ 288230376151711744 := by
      have := S0_le (l := l) hsv l.length
      have h2 : l.length * (1048576 + 1) ≤ 12 * 1048577 := Nat.mul_le_mul hl (by omega)
      omega
    have hlf : LeafFn 52 #[.pointer (some ⟨W.heap.size + 1, 0, none⟩), .pointer (some ⟨b5, 0, none⟩)] (leafH (svOf K N tm) l) (okS N tm) l.length (fun k => w0.heap.size ≤ k ∧ k < w1.heap.size) W' :=
      leafHE _ fb eg48 (svOf K N tm) (okS N tm) l hl _ (W.heap.size + 1) b5 la lk W' (bx_keep (bx_keep HQ0.out hb1) hb') ((hrl0.below hb1).below hb') (bx_keep hb5 hb') (fun W2 y hy h2 => hfr W2 y hy (hb'.trans (h2.mono hb'.size))) hP
    refine (solveE _ _ (leafH (svOf K N tm) l) _ _ emH (okS N tm) l.length _ (fun k => w0.heap.size ≤ k ∧ k < w1.heap.size) W' eg52 eg54 hlf (empH _ _ _) hP (by omega) hM K gt gn (st : Int) (.slice ga K.length gk) ((hgr0.below hb1).below hb') (fun r hr => by
      obtain ⟨h1, h2, h3⟩ := hK r hr
      exact ⟨⟨h1, by omega⟩, hr4 r hr, h3⟩) hoks _ _ (planC (l := l) hsv hK)).mono ?_
    rintro e w' ⟨T, rfl, ⟨hct, -⟩, hcl2, hsm⟩
    refine ⟨rfl, hb'.trans (hsm.bel.mono hb'.size), fun W2 hb2 => ?_⟩
    have hst : okS N tm ⟨false, (st : Int)⟩ := ⟨by show (0 : Int) ≤ (st : Int); omega, (fun e => by cases e), fun _ => by show (st : Int) < (N : Int); omega⟩
    refine (hsm.ofFn eg52 hlf hP (by omega) hoks W2 ⟨false, (st : Int)⟩ 0 l.length hst (by omega) (Nat.le_refl _) hb2).mono ?_
    rintro e w3 ⟨x, h1, h2, h3⟩
    rw [cv_eqT hsv hct hcl2 ⟨false, (st : Int)⟩ (Nat.zero_le _) (Nat.le_refl _)] at h2
    refine ⟨x, h1, h2.mono (fun k hk _ => ?_), h3⟩
    have hs1 := hb1.size
    have hs2 := hb'.size
    have hs3 := hsm.bel.size
    have hs4 := hb2.size
    rcases hk with hk | hk
    · rcases hk.1 with h | h
      · exact h.1
      · show w0.heap.size ≤ k
        omega
    · have hk2 : W2.heap.size ≤ k := hk
      show w0.heap.size ≤ k
      omega
  have HFRF : Hid (∀ S W1 b w1 w2, ShT K N tm S → ShM W1 gt gn (st : Int) (.slice ga K.length gk) S b w1 → Below w0.heap.size w0 W1 → Below w1.heap.size w1 w2 → FreeFn 48 #[.pointer (some ⟨b, 0, none⟩)] (svOf K N tm) (okS N tm) (fun k => w0.heap.size ≤ k ∧ k < w2.heap.size) w2) := by
    intro S W1 b w1 w2 hS hM hb1 hb12 W' y hy hb
    obtain ⟨hcg, hjs, hcl⟩ := hS
    have := freeE hM (okS N tm) hoks W' y hy (hb12.trans (hb.mono hb12.size))
    rw [show (fun y => ofT leafS S y 0 0) y = svOf K N tm y from sv_eqT hcg hcl y] at this
    refine this.mono ?_
    rintro e w' ⟨x, h1, h2, h3⟩
    refine ⟨x, h1, h2.mono (fun k hk _ => ?_), h3⟩
    have hs1 := hb1.size
    have hs2 := hb12.size
    rcases hk with hk | hk
    · exact .inl ⟨by omega, by omega⟩
    · exact .inr hk
  obtain ⟨cvo, HCV⟩ := nameIt (cvOf (svOf K N tm) l K N tm ⟨false, (st : Int)⟩ 0 l.length)
  rw [HCV.out] at HSO
  rw [HCV.out]
  obtain ⟨wn, HWN⟩ := nameIt l.length
  obtain ⟨kn, HKN⟩ := nameIt K.length
  rw [HWN.out] at HSO HQ0 HW
  rw [HKN.out] at HSO HG0 HW HSH HFRF
  obtain ⟨PST, HP⟩ := nameIt (fun (e : Ending) (w' : World) => ∃ S x, ShT K N tm S ∧ e = .returned x ∧ VR (fun k => W.heap.size ≤ k) w' x cvo ∧ Below W.heap.size W w')
  rw [HP.out]
  rw [HWN.out, HKN.out]
  obtain ⟨x0, x1, x2, x3⟩ := bx_cells4 HG0.out
  clear hw0 hgr0 hrl0 hgr hrl hoks hK hr4 al
  go_enter Try.func21, Try.ntmps21
  go_upto_region 1 with fail
  rw [HW.out]
  clear HW
  go_wp2_with fail
  refine HSH.out.mono ?_
  rintro e w1 ⟨S, W1, b, rfl, hS, hM, hb1, hb01⟩
  obtain ⟨w2, HW2⟩ := nameIt (w1.alloc (.cells #[.func (.func 48) #[] #[.pointer (some ⟨b, 0, none⟩)]] 41))
  have hw2 : Below w1.heap.size w1 w2 := by rw [← HW2.out]; exact (Below.refl _ _).alloc (Nat.le_refl _) _
  have hbx2 : w2.heap[w1.heap.size]? = some (.cells #[.func (.func 48) #[] #[.pointer (some ⟨b, 0, none⟩)]] 41 (0, 0)) := by rw [← HW2.out]; exact bx_new _ _ _ rfl
  have HB02 : Hid (Below w0.heap.size w0 w2) := hb01.trans (hw2.mono hb01.size)
  have hso := HSO.out S w2 w1.heap.size _ hS HB02.out (HFRF.out S W1 b w1 w2 hS hM hb1 hw2) hbx2
  have HSS := Lib.hid hS
  have HBX2 := Lib.hid hbx2
  obtain ⟨b5, HB5⟩ := nameIt w1.heap.size
  rw [HB5.out] at hso HBX2
  have HSV := Lib.hid hso
  clear hS hM hb1 hb01 hw2 hbx2 hso x0 x1 x2 x3 HSO HFRF HSH
  go_upto_region 4 with fail
  rw [HW2.out, HB5.out]
  clear HW2 HB5
  have HCS : Hid (∀ w', Below w2.heap.size w2 w' → w'.cell? ⟨W.heap.size, 0, none⟩ = some (.int .i64 gt) ∧ w'.cell? ⟨W.heap.size, 0 + 1, none⟩ = some (.int .i64 gn) ∧ w'.cell? ⟨W.heap.size, 0 + 2, none⟩ = some (.int .i64 (st : Int)) ∧ w'.cell? ⟨W.heap.size, 0 + 3, none⟩ = some (.slice ga kn gk) ∧ w'.cell? ⟨W.heap.size + 1, 0, none⟩ = some (.slice la wn lk)) := by
    intro w' hb'
    have h0 := HB02.out.trans (hb'.mono HB02.out.size)
    obtain ⟨h1, h2, h3, h4⟩ := bx_cells4 (bx_keep HG0.out h0)
    exact ⟨h1, h2, h3, h4, bx_cells1 (bx_keep HQ0.out h0)⟩
  refine wp_region_U (S := (fun w' => w'.cell? ⟨W.heap.size, 0, none⟩ = some (.int .i64 gt) ∧ w'.cell? ⟨W.heap.size, 0 + 1, none⟩ = some (.int .i64 gn) ∧ w'.cell? ⟨W.heap.size, 0 + 2, none⟩ = some (.int .i64 (st : Int)) ∧ w'.cell? ⟨W.heap.size, 0 + 3, none⟩ = some (.slice ga kn gk) ∧ w'.cell? ⟨W.heap.size + 1, 0, none⟩ = some (.slice la wn lk))) 11 (by kernel_rfl) (fun inv => ?_)
  refine wpU_take (i := 0) (v := .agg #[.int .i64 gt, .int .i64 gn, .int .i64 (st : Int), .slice ga kn gk]) rfl inv (by kernel_rfl) (by kernel_rfl) (by decide) (by decide) (by kernel_rfl) (by kernel_rfl) (by kernel_rfl) (fun _ _ _ h => h) (Or.inl ⟨by rfl, fun w' hw' => ?_⟩) (HCS.out _ (Below.refl _ _).drew) (fun inv => ?_)
  · obtain ⟨h0, h1, h2, h3, h4⟩ := hw'
    go_simp
  try simp only [Act.put, List.setIfInBounds_toArray, List.set_cons_zero, List.set_cons_succ]
  refine wpU_take (i := 1) (v := .slice la wn lk) rfl inv (by kernel_rfl) (by kernel_rfl) (by decide) (by decide) (by kernel_rfl) (by kernel_rfl) (by kernel_rfl) (fun _ _ _ h => h) (Or.inl ⟨by rfl, fun w' hw' => ?_⟩) (HCS.out _ (Below.refl _ _).drew) (fun inv => ?_)
  · obtain ⟨h0, h1, h2, h3, h4⟩ := hw'
    go_simp
  try simp only [Act.put, List.setIfInBounds_toArray, List.set_cons_zero, List.set_cons_succ]
  refine wpU_take (i := 2) (v := .int .i64 (wn : Nat)) rfl inv (by kernel_rfl) (by kernel_rfl) (by decide) (by decide) (by kernel_rfl) (by kernel_rfl) (by kernel_rfl) (fun _ _ _ h => h) (Or.inl ⟨by rfl, fun w' hw' => ?_⟩) (HCS.out _ (Below.refl _ _).drew) (fun inv => ?_)
  · obtain ⟨h0, h1, h2, h3, h4⟩ := hw'
    go_simp
  try simp only [Act.put, List.setIfInBounds_toArray, List.set_cons_zero, List.set_cons_succ]
  refine wpU_take (i := 3) (v := .func (.func 52) #[] #[.pointer (some ⟨W.heap.size + 1, 0, none⟩), .pointer (some ⟨b5, 0, none⟩)]) rfl inv (by kernel_rfl) (by kernel_rfl) (by decide) (by decide) (by kernel_rfl) (by kernel_rfl) (by kernel_rfl) (fun _ _ _ h => h) (Or.inl ⟨by rfl, fun w' hw' => ?_⟩) (HCS.out _ (Below.refl _ _).drew) (fun inv => ?_)
  · obtain ⟨h0, h1, h2, h3, h4⟩ := hw'
    go_simp
  try simp only [Act.put, List.setIfInBounds_toArray, List.set_cons_zero, List.set_cons_succ]
  refine wpU_take (i := 4) (v := .func (.func 54) #[] #[]) rfl inv (by kernel_rfl) (by kernel_rfl) (by decide) (by decide) (by kernel_rfl) (by kernel_rfl) (by kernel_rfl) (fun _ _ _ h => h) (Or.inl ⟨by rfl, fun w' hw' => ?_⟩) (HCS.out _ (Below.refl _ _).drew) (fun inv => ?_)
  · obtain ⟨h0, h1, h2, h3, h4⟩ := hw'
    go_simp
  try simp only [Act.put, List.setIfInBounds_toArray, List.set_cons_zero, List.set_cons_succ]
  refine wpU_take (i := 6) (v := .pointer (some ⟨W.heap.size, 0 + 2, none⟩)) rfl inv (by kernel_rfl) (by kernel_rfl) (by decide) (by decide) (by kernel_rfl) (by kernel_rfl) (by kernel_rfl) (fun _ _ _ h => h) (Or.inl ⟨by rfl, fun w' hw' => ?_⟩) (HCS.out _ (Below.refl _ _).drew) (fun inv => ?_)
  · obtain ⟨h0, h1, h2, h3, h4⟩ := hw'
    go_simp
  try simp only [Act.put, List.setIfInBounds_toArray, List.set_cons_zero, List.set_cons_succ]
  refine wpU_take (i := 7) (v := .int .i64 (st : Int)) rfl inv (by kernel_rfl) (by kernel_rfl) (by decide) (by decide) (by kernel_rfl) (by kernel_rfl) (by kernel_rfl) (fun _ _ _ h => h) (Or.inl ⟨by rfl, fun w' hw' => ?_⟩) (HCS.out _ (Below.refl _ _).drew) (fun inv => ?_)
  · obtain ⟨h0, h1, h2, h3, h4⟩ := hw'
    go_simp
  try simp only [Act.put, List.setIfInBounds_toArray, List.set_cons_zero, List.set_cons_succ]
  refine wpU_take (i := 8) (v := .agg #[.bool false, .int .i64 (st : Int)]) rfl inv (by kernel_rfl) (by kernel_rfl) (by decide) (by decide) (by kernel_rfl) (by kernel_rfl) (by kernel_rfl) (fun _ _ _ h => h) (Or.inl ⟨by rfl, fun w' hw' => ?_⟩) (HCS.out _ (Below.refl _ _).drew) (fun inv => ?_)
  · obtain ⟨h0, h1, h2, h3, h4⟩ := hw'
    go_simp
  try simp only [Act.put, List.setIfInBounds_toArray, List.set_cons_zero, List.set_cons_succ]
  refine wpU_take (i := 9) (v := .slice la wn lk) rfl inv (by kernel_rfl) (by kernel_rfl) (by decide) (by decide) (by kernel_rfl) (by kernel_rfl) (by kernel_rfl) (fun _ _ _ h => h) (Or.inl ⟨by rfl, fun w' hw' => ?_⟩) (HCS.out _ (Below.refl _ _).drew) (fun inv => ?_)
  · obtain ⟨h0, h1, h2, h3, h4⟩ := hw'
    go_simp
  try simp only [Act.put, List.setIfInBounds_toArray, List.set_cons_zero, List.set_cons_succ]
  refine wpU_take (i := 10) (v := .int .i64 (wn : Nat)) rfl inv (by kernel_rfl) (by kernel_rfl) (by decide) (by decide) (by kernel_rfl) (by kernel_rfl) (by kernel_rfl) (fun _ _ _ h => h) (Or.inl ⟨by rfl, fun w' hw' => ?_⟩) (HCS.out _ (Below.refl _ _).drew) (fun inv => ?_)
  · obtain ⟨h0, h1, h2, h3, h4⟩ := hw'
    go_simp
  try simp only [Act.put, List.setIfInBounds_toArray, List.set_cons_zero, List.set_cons_succ]
  refine wpU_one (i := 5) (by kernel_rfl) rfl (fun K hK => ?_)
  replace inv := inv_setc (i := 5) inv (by kernel_rfl) (by decide)
  go_simp
  refine (HSV.out _ (Below.refl w2.heap.size w2).drew).mono ?_
  rintro e w3 ⟨rfl, hb3, hof⟩
  have HB3 : Hid (Below w2.heap.size w2 w3) := hb3
  have HOF := Lib.hid (hof w3 (Below.refl _ _))
  clear hb3 hof
  refine hK.out _ _ (fun _ => HCS.out _ HB3.out) ?_
  clear hK K
  try simp only [Act.put, List.setIfInBounds_toArray, List.set_cons_zero, List.set_cons_succ]
  refine wpU_one (i := 11) (by kernel_rfl) rfl (fun K hK => ?_)
  go_simp
  refine HOF.out.mono ?_
  rintro e w4 ⟨x, rfl, hv, hb4⟩
  obtain ⟨a1, m1, k1, rfl, hrd⟩ := vr_form hv
  have HB4 : Hid (Below w0.heap.size w0 w4) := HB02.out.trans ((HB3.out.trans (hb4.mono HB3.out.size)).mono HB02.out.size)
  have HRD := Lib.hid hrd
  have HZ3 := Lib.hid (bx_keep HZ0.out HB4.out)
  clear hv hb4 hrd
  refine hK.out _ _ (fun h => absurd (show true = false from h) (by decide)) ?_
  clear hK K
  try simp only [Act.put, List.setIfInBounds_toArray, List.set_cons_zero, List.set_cons_succ]
  refine wpU_one (i := 12) (by kernel_rfl) rfl (fun K hK => ?_)
  obtain ⟨f0, f1, f2, f3⟩ := bx_free4 HZ3.out
  obtain ⟨z0, z1, z2, z3⟩ := bx_cells4 HZ3.out
  go_simp
  refine hK.out _ _ (fun h => absurd (show true = false from h) (by decide)) ?_
  clear hK K
  try simp only [Act.put, List.setIfInBounds_toArray, List.set_cons_zero, List.set_cons_succ]
  refine wpU_done (by kernel_rfl) ?_ _
  obtain ⟨z0, z1, z2, z3⟩ := bx_cells4 HZ3.out
  have hg := grown_cell4 w4 (W.heap.size + 1 + 1) (.bool cvo.isSome) (.int .i64 (oC cvo)) (.int .i64 (oN cvo)) (.slice a1 m1 k1)
  have hb2 := HB0.out.trans (HB4.out.mono HB0.out.size)
  have hsz := HSZ.out
  have HE : Hid (PST (.returned (.agg #[.bool cvo.isSome, .int .i64 (oC cvo), .int .i64 (oN cvo), .slice a1 m1 k1])) ((((w4.setCell ⟨W.heap.size + 1 + 1, 0, none⟩ (.bool cvo.isSome)).setCell ⟨W.heap.size + 1 + 1, 0 + 1, none⟩ (.int .i64 (oC cvo))).setCell ⟨W.heap.size + 1 + 1, 0 + 2, none⟩ (.int .i64 (oN cvo))).setCell ⟨W.heap.size + 1 + 1, 0 + 3, none⟩ (.slice a1 m1 k1))) := by
    show PST _ _
    rw [← HP.out]
    refine ⟨S, _, HSS.out, rfl, ⟨.slice a1 m1 k1, rfl, ?_⟩, hb2.grown hg hb2.size ?_⟩
    · refine (rd_grown HRD.out hg ?_).mono (fun k hk _ => by
        have h2 : w0.heap.size ≤ k := hk
        show W.heap.size ≤ k
        omega)
      intro k e h
      cases e
      have h2 : w0.heap.size ≤ W.heap.size + 1 + 1 := h
      omega
    · intro k e
      cases e
      omega
  clear hg hb2 hsz
  go_wp2_with fail
  exact bodyPost_ret (v := .agg #[.bool cvo.isSome, .int .i64 (oC cvo), .int .i64 (oN cvo), .slice a1 m1 k1]) (by simp [results, Try.results21, go_sem, z0, z1, z2, z3]) rfl HE.out
end Hl
end Go.Proofs.Ytjpmebppdcclbaa
namespace Go.Proofs.Ytjpmebppdcclbaa
open Go.RowKit
namespace Gs
theorem _root_.Go.Proofs.Ytjpmebppdcclbaa.RowD.lower {S : Nat → Prop} {B B' : Nat} {e : TypeId} {size : Nat} {ds : List D} {v : Value} {wr : World} (h : RowD S B e size ds v wr) (hb : B' ≤ B) : RowD S B' e size ds v wr := by
  obtain ⟨⟨xs, h1, h2⟩, h3⟩ := h
  exact ⟨⟨xs, h1.mono hb, h2⟩, Nat.le_trans hb h3⟩
def SymsPost (l : List Sym) (w : World) (e : Ending) (w' : World) : Prop :=
  ∃ a c, e = .returned (.slice a l.length c) ∧ Rd (fun k => w.heap.size ≤ k) w' (.sl (l.map Sym.d)) [.slice a l.length c] ∧ Below w.heap.size w w'
theorem symsW {S S' : Nat → Prop} {w w' : World} {sy : List Sym} {xs : List Value} (h : RdAll S w (sy.map Sym.d) xs) : RdAll S' w' (sy.map Sym.d) xs := by
  induction sy generalizing xs with
  | nil => exact h
  | cons s sy ih =>
    obtain ⟨c1, c2, rfl, h1, h2⟩ := h
    obtain rfl := h1.sym
    exact ⟨_, _, rfl, rd_sym s, ih h2⟩
set_option maxHeartbeats 1000000 in
theorem cloneSyms (l : List Sym) (a : Option Addr) (c : Nat) (w : World) (h : Rd AnyB w (.sl (l.map Sym.d)) [.slice a l.length c]) (hb : l.length ≤ 1000) :
    Calls Try.prog 65 #[.slice a l.length c] w (SymsPost l w) := by
  have hnil := fun (w : World) (a : Option Addr) (n c : Nat) => Lib.run_eql_slice_nil (P := Try.prog) w 47 44 a n c 0 0 Try.underlying47
  cases a with
  | none =>
    have hl : l = [] := by
      cases l with
      | nil => rfl
      | cons x l => obtain ⟨b, off, e, _⟩ := h.sym_at (i := 0) (by simp); cases e
    subst hl
    go_enter Try.func65, Try.ntmps65
    go_wp2
    go_ret
    exact ⟨none, 0, rfl, ⟨none, 0, [], rfl, by simp, by simp [maxLen], fun _ => rfl, fun i hi => by simp at hi, rfl⟩, Below.refl _ _⟩
  | some x =>
    have hb1 : Below w.heap.size w (w.alloc (.cells #[] 44)) := (Below.refl _ _).alloc (Nat.le_refl _) _
    have HV := Lib.hid (h.below hb1)
    have HO : Hid ((w.alloc (.cells #[] 44)).ownsRow w.heap.size 44 2 (.slice (some ⟨w.heap.size, 0, none⟩) 0 0) 0 []) := World.ownsRow_made w #[] 0 (Nat.le_refl _) (by simp) rfl
    have HB1 := Lib.hid hb1
    have HML : Hid ((l.map Sym.d).length = l.length) := by show _ = _; simp
    clear h hb1
    go_enter Try.func65, Try.ntmps65
    go_wp2_with (at_builtin; refine wp_appD elSym rfl _ _ rfl HO.out rfl HV.out rfl (syms_cells l) (by rw [HML.out]; omega) (by rw [HML.out]; unfold maxLen; omega) (by simp) ?_)
    intro v' w' L hd ho hg hat
    have hb2 : Below w.heap.size w w' := HB1.out.trans (below_grown hg (by simp) (fun k hk => by simp [Value.ownBlock] at hk; omega))
    have hrow : Rd (fun k => w.heap.size ≤ k) w' (.sl (l.map Sym.d)) [v'] := rd_of_own ho (by simpa using symsW hd) (by simp) (fun k e => (ho.lt k e).1)
    obtain ⟨a', c', rfl, -, -⟩ := hrow.form
    rw [HML.out] at hrow
    rw [HML.out]
    have HR := Lib.hid hrow
    have HB2 := Lib.hid hb2
    clear hd ho hg hat hb2 hrow
    go_wp2
    go_ret
    exact ⟨a', c', rfl, HR.out, HB2.out⟩
end Gs
end Go.Proofs.Ytjpmebppdcclbaa
namespace Go.Proofs.Ytjpmebppdcclbaa
open Go.RowKit
namespace Ht
open Rp Gs
structure GRow (w : World) (gb : Nat) (gt gn gs : Int) (l : List Rule) (vr : Value) (wr : World) : Prop where
  out : wr.heap[gb]? = some (.cells #[.int .i64 gt, .int .i64 gn, .int .i64 gs, vr] 24 (0, 0))
  row : RowD (fun k => gb < k) (gb + 1) 69 2 (l.map Rule.d) vr wr
  bel : Below w.heap.size w wr
  le : w.heap.size ≤ gb
theorem below_box4 {B b : Nat} {w w' : World} (h : Below B w w') (hb : B ≤ b) (x y z u : Value) : Below B w ((((w'.setCell ⟨b, 0, none⟩ x).setCell ⟨b, 1, none⟩ y).setCell ⟨b, 2, none⟩ z).setCell ⟨b, 3, none⟩ u) :=
  (((h.setCell (p := ⟨b, 0, none⟩) hb x).setCell (p := ⟨b, 1, none⟩) hb y).setCell (p := ⟨b, 2, none⟩) hb z).setCell (p := ⟨b, 3, none⟩) hb u
theorem grown_box4 (b : Nat) (w : World) (x y z u : Value) : w.grownBy ((((w.setCell ⟨b, 0, none⟩ x).setCell ⟨b, 1, none⟩ y).setCell ⟨b, 2, none⟩ z).setCell ⟨b, 3, none⟩ u) (some b) := grown_trans (grown_trans (grown_trans (grown_cell _ _ _) (grown_cell _ _ _)) (grown_cell _ _ _)) (grown_cell _ _ _)
theorem Rd.box4 {S : Nat → Prop} {w : World} {d : Go.Proofs.Ytjpmebppdcclbaa.D} {cs : List Value} (h : Rd S w d cs) {b : Nat} (hb : ¬ S b) (x y z u : Value) : Rd S ((((w.setCell ⟨b, 0, none⟩ x).setCell ⟨b, 1, none⟩ y).setCell ⟨b, 2, none⟩ z).setCell ⟨b, 3, none⟩ u) d cs :=
  Rd.keep (fun k hk hlt => ⟨hk, (grown_box4 b w x y z u).block k hlt (fun e => by cases e; exact hb hk)⟩) d cs h
theorem bx_lt {w : World} {b : Nat} {o : Obj} (h : w.heap[b]? = some o) : b < w.heap.size := (Array.getElem?_eq_some_iff.1 h).1
theorem GRow.keep {w : World} {gb : Nat} {gt gn gs : Int} {l : List Rule} {vr : Value} {wr w' : World} (h : GRow w gb gt gn gs l vr wr) (hb : Below wr.heap.size wr w') : GRow w gb gt gn gs l vr w' :=
  ⟨bx_keep h.out hb, h.row.keep hb, h.bel.trans (hb.mono h.bel.size), h.le⟩
theorem GRow.step {w : World} {gb g cap m : Nat} {gt gn gs : Int} {l : List Rule} {r : Rule} {vr v : Value} {w3 w4 : World} {xs : List Value} (h : GRow w gb gt gn gs l vr w3) (hn : l.length = m) (ho : w3.ownsRow (gb + 1) 69 2 vr m xs) (hd : RdAll (fun k => gb < k ∧ vr.ownBlock ≠ some k) w3 (l.map Rule.d) xs)
    (hr : Rd (fun k => gb < k ∧ vr.ownBlock ≠ some k) w3 (.sl (r.right.map Sym.d)) [v])
    (ho3 : w4.ownsRow (gb + 1) 69 2 (.slice (some ⟨g, 0, none⟩) (m + 1) cap) (m + 1) (xs ++ [.int .i64 r.left, v])) (hg : w3.grownBy w4 vr.ownBlock) (hat : vr.ownBlock = some g ∨ w3.heap.size ≤ g) :
    w4.heap[gb]? = some (.cells #[.int .i64 gt, .int .i64 gn, .int .i64 gs, vr] 24 (0, 0)) ∧ GRow w gb gt gn gs (l ++ [r]) (.slice (some ⟨g, 0, none⟩) (m + 1) cap) (w4.setCell ⟨gb, 3, none⟩ (.slice (some ⟨g, 0, none⟩) (m + 1) cap)) := by
  have hlt := (Array.getElem?_eq_some_iff.1 h.out).1
  have hb3 : w4.heap[gb]? = some (.cells #[.int .i64 gt, .int .i64 gn, .int .i64 gs, vr] 24 (0, 0)) := by
    rw [hg.block gb hlt (fun e => by have := (ho.lt gb e.symm).1; omega)]; exact h.out
  have hne : gb ≠ g := by have h1 := (ho3.lt g rfl).1; omega
  refine ⟨hb3, ?_, ⟨⟨xs ++ [.int .i64 r.left, v], ?_, ?_⟩, ?_⟩, ?_, h.le⟩
  · rw [bx_set hb3]; rfl
  · rw [List.map_append, List.length_append, List.length_map, hn]
    exact ho3.kept (grown_cell w4 ⟨gb, 3, none⟩ _) (.inr (by simpa [Value.ownBlock] using fun e => hne e.symm))
  · have h1 := own_step (S := fun k => gb < k) (v' := .slice (some ⟨g, 0, none⟩) (m + 1) cap) hd (RdAll.one (rd_rule hr)) hg (by
      rcases hat with e | e
      · exact .inl e.symm
      · exact .inr ⟨g, rfl, e⟩)
    rw [List.map_append]
    refine RdAll.keep (fun k hk _ => ⟨hk, Below.heap_setCell _ _ _ _ ?_⟩) _ _ h1
    intro e
    simp at e
    subst e
    exact Nat.lt_irrefl _ hk.1
  · have := h.row.le; have := hg.size; simp [World.setCell]; omega
  · exact (h.bel.grown hg h.bel.size (fun k e => by have := (ho.lt k e).1; have := h.le; omega)).setCell h.le _
def CopyG (g : Gram) (w : World) (e : Ending) (w' : World) : Prop :=
  ∃ a c, e = .returned (.agg #[.int .i64 g.terms, .int .i64 g.nons, .int .i64 g.start, .slice a g.rules.length c]) ∧ RowD (fun k => w.heap.size ≤ k) w.heap.size 69 2 (g.rules.map Rule.d) (.slice a g.rules.length c) w' ∧ Below w.heap.size w w'
set_option maxHeartbeats 4000000 in
set_option maxRecDepth 100000 in
theorem copyG (g : Gram) (hg : ∀ r ∈ g.rules, r.right.length ≤ 4) (hgl : g.rules.length ≤ 100) (a : Option Addr) (c : Nat) (w : World) (hr : Rd AnyB w (.sl (g.rules.map Rule.d)) [.slice a g.rules.length c]) :
    Calls Try.prog 55 #[.agg #[.int .i64 g.terms, .int .i64 g.nons, .int .i64 g.start, .slice a g.rules.length c]] w (CopyG g w) := by
  obtain ⟨PST, HP⟩ := nameIt (CopyG g w)
  have HFIN : Hid (∀ a c w', RowD (fun k => w.heap.size ≤ k) w.heap.size 69 2 (g.rules.map Rule.d) (.slice a g.rules.length c) w' → Below w.heap.size w w' → PST (.returned (.agg #[.int .i64 g.terms, .int .i64 g.nons, .int .i64 g.start, .slice a g.rules.length c])) w') := by
    intro a c w' h1 h2; rw [← HP.out]; exact ⟨a, c, rfl, h1, h2⟩
  rw [HP.out]
  clear HP
  have HRD := Lib.hid hr
  have HRR := Lib.hid hg
  have hbd := hr.bounds.2
  unfold maxLen at hbd
  obtain ⟨hbd1, hbd2⟩ := hbd
  obtain ⟨gt, HGT⟩ := nameIt g.terms
  obtain ⟨gn, HGN⟩ := nameIt g.nons
  obtain ⟨gs, HGS⟩ := nameIt g.start
  obtain ⟨K, HK⟩ := nameIt g.rules
  rw [HGT.out, HGN.out, HGS.out, HK.out] at HFIN
  rw [HK.out] at HRD HRR hgl hbd1
  rw [HGT.out, HGN.out, HGS.out, HK.out]
  obtain ⟨kl, HKL⟩ := nameIt K.length
  rw [HKL.out] at HFIN HRD hgl hbd1
  rw [HKL.out]
  clear hr hg
  go_enter Try.func55, Try.ntmps55
  obtain ⟨wa, HWA⟩ := nameIt (((w.alloc (.cells #[.int .i64 gt, .int .i64 gn, .int .i64 gs, .slice a kl c] 24)).alloc (.cells #[.int .i64 0, .int .i64 0, .int .i64 0, .slice none 0 0] 24)).alloc (.cells #[.int .i64 gt, .int .i64 gn, .int .i64 gs, .slice none 0 0] 24))
  have hba : Below w.heap.size w wa := by rw [← HWA.out]; exact (((Below.refl _ _).alloc (Nat.le_refl _) _).alloc (by simp) _).alloc (by simp; omega) _
  have XR : Hid (wa.heap[w.heap.size + 1]? = some (.cells #[.int .i64 0, .int .i64 0, .int .i64 0, .slice none 0 0] 24 (0, 0))) := by rw [← HWA.out]; exact bx_keep (bx_new _ _ _ (by simp)) ((Below.refl _ _).alloc (Nat.le_refl _) _)
  have XG : wa.heap[w.heap.size + 1 + 1]? = some (.cells #[.int .i64 gt, .int .i64 gn, .int .i64 gs, .slice none 0 0] 24 (0, 0)) := by rw [← HWA.out]; exact bx_new _ _ _ (by simp)
  obtain ⟨gb, HGB⟩ := nameIt (w.heap.size + 1 + 1)
  rw [HGB.out] at XG
  have hgb : gb = w.heap.size + 2 := by rw [← HGB.out]
  have hgl2 := lt_of_cell (bx_cells4 XG).1
  have HG0 : Hid (GRow w gb gt gn gs (K.take 0) (.slice none 0 0) wa) := ⟨XG, RowD.nil _ _ _ _ _ hgl2, hba, by omega⟩
  have HGE := Lib.hid hgb
  have HR0 : Hid (wa.heap[gb - 1]? = some (.cells #[.int .i64 0, .int .i64 0, .int .i64 0, .slice none 0 0] 24 (0, 0))) := by
    have : gb - 1 = w.heap.size + 1 := by omega
    rw [this]; exact XR.out
  clear hba XG XR hgl2 hgb
  go_wp2_with fail
  rw [HWA.out, HGB.out]
  obtain ⟨rb, HRB⟩ := nameIt (w.heap.size + 1)
  have HRE : Hid (gb - 1 = rb) := by show _ = _; have h1 := HGE.out; have h2 := HRB.out; omega
  have hrg : rb < gb := by have h1 := HGE.out; have h2 := HRB.out; omega
  rw [HRB.out]
  rw [HRE.out] at HR0
  go_loopg [5, 11] kl (fun gg v5 v11 wr => ∃ (i : Nat) (vr : Value), i ≤ kl ∧ kl - i ≤ gg ∧ v11 = .int .i64 (i : Int) ∧ Hid (GRow w gb gt gn gs (K.take i) vr wr) ∧ Hid (wr.heap[rb]? = some (.cells #[.int .i64 0, .int .i64 0, .int .i64 0, .slice none 0 0] 24 (0, 0))))
  case atStart => exact ⟨0, .slice none 0 0, by omega, by omega, rfl, HG0, HR0⟩
  case round =>
    clear HG0 HR0 HWA
    obtain ⟨i, vr, hi, hgg, rfl, HG, HRES⟩ := hrel
    obtain ⟨w0, rfl⟩ : ∃ ww : World, ww = wr := ⟨_, rfl⟩
    obtain ⟨ar, cr, hvr, hcr1, hcr2, hvb⟩ := HG.out.row.form
    have HVLT0 := Lib.hid hvb
    by_cases hik : i < kl
    · have hik' : (i : Int) < (kl : Int) := by omega
      have hiK : i < K.length := by rw [HKL.out]; exact hik
      have hil : (K.take i).length = i := by simp; omega
      rw [List.length_map, hil] at hvr hcr1
      subst hvr
      unfold maxLen at hcr2
      obtain ⟨bk, ro, v, hae, -, hbk, s0, s1, hrr⟩ := (HRD.out.below HG.out.bel).rule_at hiK
      obtain ⟨av, cv, rfl, hv1, hv2⟩ := hrr.form
      have hrl := HRR.out _ (List.getElem_mem hiK)
      have hT1 : K.take (i + 1) = K.take i ++ [K[i]] := List.take_succ_eq_append_getElem hiK
      obtain ⟨kid, HKI⟩ := nameIt (K[i]'hiK)
      rw [HKI.out] at s0 s1 hrr hrl hT1
      obtain ⟨lf, RL⟩ := kid
      dsimp only at s0 s1 hrr hrl
      rw [List.length_map] at s1 hrr hv1
      obtain ⟨w1, HW1⟩ := nameIt (w0.alloc (.cells #[.int .i64 lf, .slice av RL.length cv] 69))
      have hb1 : Below w0.heap.size w0 w1 := by rw [← HW1.out]; exact (Below.refl _ _).alloc (Nat.le_refl _) _
      have HRX : Hid (w1.heap[w0.heap.size]? = some (.cells #[.int .i64 lf, .slice av RL.length cv] 69 (0, 0))) := by rw [← HW1.out]; exact bx_new _ _ _ rfl
      have HG1' := HG.out.keep hb1
      have HG1 : Hid (w1.heap[gb]? = some (.cells #[.int .i64 gt, .int .i64 gn, .int .i64 gs, .slice ar i cr] 24 (0, 0))) := HG1'.out
      have HG1R := Lib.hid HG1'
      have HCL := Lib.hid (fun W (hb : Below w1.heap.size w1 W) => cloneSyms RL av cv W ((hrr.below hb1).below hb) (by omega))
      have HIL := Lib.hid hil
      have HT1 := Lib.hid hT1
      obtain ⟨xs, ho, hd⟩ := HG1'.row.own
      rw [List.length_map, hil] at ho
      have HO := Lib.hid ho
      have HD := Lib.hid hd
      have HRES1 := Lib.hid (bx_keep HRES.out hb1)
      have hgs1 := (bx_lt HG1.out)
      have hrs1 := (bx_lt HRES1.out)
      have hgw1 : gb + 1 ≤ w1.heap.size := hgs1
      have HVLT : Hid (∀ k, (Value.slice ar i cr).ownBlock = some k → k < w1.heap.size) := fun k e => (ho.lt k e).2
      have HVGE : Hid (∀ k, (Value.slice ar i cr).ownBlock = some k → gb < k) := fun k e => (ho.lt k e).1
      obtain ⟨rn, HRN⟩ := nameIt RL.length
      rw [HRN.out] at HRX HW1 s1
      simp only [HRN.out] at HCL
      obtain ⟨rx, HRXN⟩ := nameIt w0.heap.size
      rw [HRXN.out] at HRX
      subst hae
      clear hv1 hv2 hb1 hrr HG1' ho hd hvb hil hT1 hrl HKI hiK
      go_upto_region 6 with fail
      rw [HW1.out, HRXN.out]
      clear HW1 s0 s1
      have HS : Hid (∀ W', Below w1.heap.size w1 W' → (fun w' => w'.cell? ⟨gb, 0 + 3, none⟩ = some (.slice ar i cr) ∧ w'.cell? ⟨rx, 0, none⟩ = some (.int .i64 lf) ∧ w'.cell? ⟨rx, 0 + 1, none⟩ = some (.slice av rn cv)) W') := fun W' hb => ⟨(bx_cells4 (bx_keep HG1.out hb)).2.2.2, (bx_cells2 (bx_keep HRX.out hb)).1, (bx_cells2 (bx_keep HRX.out hb)).2⟩
      refine wp_region_U (S := (fun w' => w'.cell? ⟨gb, 0 + 3, none⟩ = some (.slice ar i cr) ∧ w'.cell? ⟨rx, 0, none⟩ = some (.int .i64 lf) ∧ w'.cell? ⟨rx, 0 + 1, none⟩ = some (.slice av rn cv))) 9 (by kernel_rfl) (fun inv => ?_)
      refine wpU_take (i := 0) (v := .pointer (some ⟨gb, 0 + 3, none⟩)) rfl inv (by kernel_rfl) (by kernel_rfl) (by decide) (by decide) (by kernel_rfl) (by kernel_rfl) (by kernel_rfl) (fun _ _ _ h => h) (Or.inl ⟨by rfl, fun w' hw' => ?_⟩) (HS.out _ (Below.refl _ _).drew) (fun inv => ?_)
      · obtain ⟨h0, h1, h2⟩ := hw'
        go_simp
      try simp only [Act.put, List.setIfInBounds_toArray, List.set_cons_zero, List.set_cons_succ]
      refine wpU_take (i := 1) (v := .slice ar i cr) rfl inv (by kernel_rfl) (by kernel_rfl) (by decide) (by decide) (by kernel_rfl) (by kernel_rfl) (by kernel_rfl) (fun _ _ _ h => h) (Or.inl ⟨by rfl, fun w' hw' => ?_⟩) (HS.out _ (Below.refl _ _).drew) (fun inv => ?_)
      · obtain ⟨h0, h1, h2⟩ := hw'
        go_simp
      try simp only [Act.put, List.setIfInBounds_toArray, List.set_cons_zero, List.set_cons_succ]
      refine wpU_take (i := 2) (v := .pointer (some ⟨rx, 0, none⟩)) rfl inv (by kernel_rfl) (by kernel_rfl) (by decide) (by decide) (by kernel_rfl) (by kernel_rfl) (by kernel_rfl) (fun _ _ _ h => h) (Or.inl ⟨by rfl, fun w' hw' => ?_⟩) (HS.out _ (Below.refl _ _).drew) (fun inv => ?_)
      · obtain ⟨h0, h1, h2⟩ := hw'
        go_simp
      try simp only [Act.put, List.setIfInBounds_toArray, List.set_cons_zero, List.set_cons_succ]
      refine wpU_take (i := 3) (v := .int .i64 lf) rfl inv (by kernel_rfl) (by kernel_rfl) (by decide) (by decide) (by kernel_rfl) (by kernel_rfl) (by kernel_rfl) (fun _ _ _ h => h) (Or.inl ⟨by rfl, fun w' hw' => ?_⟩) (HS.out _ (Below.refl _ _).drew) (fun inv => ?_)
      · obtain ⟨h0, h1, h2⟩ := hw'
        go_simp
      try simp only [Act.put, List.setIfInBounds_toArray, List.set_cons_zero, List.set_cons_succ]
      refine wpU_take (i := 4) (v := .pointer (some ⟨rx, 0 + 1, none⟩)) rfl inv (by kernel_rfl) (by kernel_rfl) (by decide) (by decide) (by kernel_rfl) (by kernel_rfl) (by kernel_rfl) (fun _ _ _ h => h) (Or.inl ⟨by rfl, fun w' hw' => ?_⟩) (HS.out _ (Below.refl _ _).drew) (fun inv => ?_)
      · obtain ⟨h0, h1, h2⟩ := hw'
        go_simp
      try simp only [Act.put, List.setIfInBounds_toArray, List.set_cons_zero, List.set_cons_succ]
      refine wpU_take (i := 5) (v := .slice av rn cv) rfl inv (by kernel_rfl) (by kernel_rfl) (by decide) (by decide) (by kernel_rfl) (by kernel_rfl) (by kernel_rfl) (fun _ _ _ h => h) (Or.inl ⟨by rfl, fun w' hw' => ?_⟩) (HS.out _ (Below.refl _ _).drew) (fun inv => ?_)
      · obtain ⟨h0, h1, h2⟩ := hw'
        go_simp
      try simp only [Act.put, List.setIfInBounds_toArray, List.set_cons_zero, List.set_cons_succ]
      refine wpU_one (i := 6) (by kernel_rfl) rfl (fun K hK => ?_)
      replace inv := inv_setc (i := 6) inv (by kernel_rfl) (by decide)
      go_simp
      with_reducible refine (HCL.out _ (Below.refl _ _).drew).mono ?_
      rintro e w2 ⟨a2, c2, rfl, hr2, hb2⟩
      rw [HRN.out] at hr2
      rw [HRN.out]
      have HB2 : Hid (Below w1.heap.size w1 w2) := (Below.refl _ _).drew.trans (hb2.mono (by simp))
      have HR2 : Hid (Rd (fun k => w1.heap.size ≤ k) w2 (.sl (RL.map Sym.d)) [.slice a2 rn c2]) := hr2
      clear hr2 hb2
      refine hK.out _ _ (fun _ => HS.out _ HB2.out) ?_
      clear hK K
      try simp only [Act.put, List.setIfInBounds_toArray, List.set_cons_zero, List.set_cons_succ]
      refine wpU_one (i := 7) (by kernel_rfl) rfl (fun K hK => ?_)
      replace inv := inv_setc (i := 7) inv (by kernel_rfl) (by decide)
      go_simp
      refine hK.out _ _ (fun _ => HS.out _ HB2.out) ?_
      clear hK K
      try simp only [Act.put, List.setIfInBounds_toArray, List.set_cons_zero, List.set_cons_succ]
      obtain ⟨w3, HW3⟩ := nameIt (w2.alloc (.cells #[.int .i64 lf, .slice a2 rn c2] 69))
      have hb3 : Below w2.heap.size w2 w3 := by rw [← HW3.out]; exact (Below.refl _ _).alloc (Nat.le_refl _) _
      have X3 : Hid (w3.heap[w2.heap.size]? = some (.cells #[.int .i64 lf, .slice a2 rn c2] 69 (0, 0))) := by rw [← HW3.out]; exact bx_new _ _ _ rfl
      have HB3 : Hid (Below w1.heap.size w1 w3) := HB2.out.trans (hb3.mono HB2.out.size)
      have HR3 := Lib.hid (HR2.out.below hb3)
      obtain ⟨q2, HQ2⟩ := nameIt w2.heap.size
      rw [HQ2.out] at X3
      clear hb3
      refine wpU_one (i := 8) (by kernel_rfl) rfl (fun K hK => ?_)
      replace inv := inv_setc (i := 8) inv (by kernel_rfl) (by decide)
      go_simp
      rw [HW3.out, HQ2.out]
      refine hK.out _ _ (fun _ => HS.out _ HB3.out) ?_
      clear hK K
      try simp only [Act.put, List.setIfInBounds_toArray, List.set_cons_zero, List.set_cons_succ]
      have HO3 := Lib.hid (own_keep HO.out HB3.out)
      have HD3 := Lib.hid (HD.out.below HB3.out)
      have HG3 := Lib.hid (HG1R.out.keep HB3.out)
      refine wpU_one (i := 9) (by kernel_rfl) rfl (fun K hK => ?_)
      refine step_appB elRule (by rfl) _ _ (by rfl) HO3.out (by rfl) (by rfl) X3.out (by rfl) (by rfl) (by omega) (by unfold maxLen; omega) (by have := HB3.out.size; omega) ?_
      intro g4 c4 w4 ho4 hg4 hat4 hlt4
      obtain ⟨hbx, hst⟩ := GRow.step HG3.out HIL.out HO3.out HD3.out (r := ⟨lf, RL⟩) (HR3.out.mono (fun k hk _ => ⟨by omega, fun e => by have := HVLT.out k e; omega⟩)) ho4 hg4 (hat4.imp id fun e => Nat.le_of_eq e.symm)
      have HGB4 := Lib.hid hg4
      have HX4 := Lib.hid hbx
      have HST := Lib.hid hst
      clear ho4 hg4 hat4 hbx hst
      refine hK.out _ _ (fun h => absurd (show true = false from h) (by decide)) ?_
      clear hK K
      try simp only [Act.put, List.setIfInBounds_toArray, List.set_cons_zero, List.set_cons_succ]
      refine wpU_one (i := 10) (by kernel_rfl) rfl (fun K hK => ?_)
      go_simp
      refine hK.out _ _ (fun h => absurd (show true = false from h) (by decide)) ?_
      clear hK K
      try simp only [Act.put, List.setIfInBounds_toArray, List.set_cons_zero, List.set_cons_succ]
      obtain ⟨-, -, -, z3⟩ := bx_cells4 HX4.out
      obtain ⟨-, -, -, f3⟩ := bx_free4 HX4.out
      refine wpU_one (i := 11) (by kernel_rfl) rfl (fun K hK => ?_)
      go_simp
      refine hK.out _ _ (fun h => absurd (show true = false from h) (by decide)) ?_
      clear hK K
      try simp only [Act.put, List.setIfInBounds_toArray, List.set_cons_zero, List.set_cons_succ]
      refine wpU_done (by kernel_rfl) ?_ _
      have HRN4 : Hid ((w4.setCell ⟨gb, 3, none⟩ (.slice (some ⟨g4, 0, none⟩) (i + 1) c4)).heap[rb]? = some (.cells #[.int .i64 0, .int .i64 0, .int .i64 0, .slice none 0 0] 24 (0, 0))) :=
        bx_other ((HGB4.out.block rb (by have := HB3.out.size; omega) (fun e => by have := HVGE.out rb e.symm; omega)).trans (bx_keep HRES1.out HB3.out)) (by omega) _ _
      go_wp2_with fail
      go_roundg (kl - (i + 1))
      case measure => omega
      case rel =>
        refine ⟨i + 1, .slice (some ⟨g4, 0, none⟩) (i + 1) c4, by omega, by omega, by go_num, ?_, HRN4⟩
        rw [HT1.out]; exact HST.out
    · have hik' : ¬ (i : Int) < (kl : Int) := by omega
      have htk : K.take i = K := List.take_of_length_le (by rw [HKL.out]; omega)
      rw [htk] at HG
      rw [htk, List.length_map, HKL.out] at hvr
      subst hvr
      have HE := Lib.hid (fun x0 x1 x2 x3 => HFIN.out ar cr ((((w0.setCell ⟨rb, 0, none⟩ x0).setCell ⟨rb, 1, none⟩ x1).setCell ⟨rb, 2, none⟩ x2).setCell ⟨rb, 3, none⟩ x3) (by
        obtain ⟨xs, h3, h4⟩ := HG.out.row.own
        rw [List.length_map, HKL.out] at h3
        have hgr := grown_box4 rb w0 x0 x1 x2 x3
        refine RowD.lower (B := gb + 1) ⟨⟨xs, ?_, ?_⟩, ?_⟩ (by have := HRB.out; have := HGE.out; omega)
        · rw [List.length_map, HKL.out]
          exact h3.kept hgr (.inr (fun e => by have := (h3.lt rb e).1; omega))
        · exact RdAll.keep (fun k hk hlt => ⟨⟨by have := HRB.out; have := hk.1; omega, hk.2⟩, hgr.block k hlt (fun e => by cases e; have := hk.1; omega)⟩) _ _ h4
        · have := hgr.size; have := HG.out.row.le; omega) (below_box4 HG.out.bel (by have := HRB.out; omega) x0 x1 x2 x3))
      obtain ⟨x0, x1, x2, x3⟩ := bx_cells4 HG.out.out
      obtain ⟨z0, z1, z2, z3⟩ := bx_cells4 HRES.out
      obtain ⟨f0, f1, f2, f3⟩ := bx_free4 HRES.out
      clear htk hvb hcr1 hcr2
      go_wp2_with fail
      refine bodyPost_ret (v := .agg #[.int .i64 gt, .int .i64 gn, .int .i64 gs, .slice ar kl cr]) (by simp [results, Try.results55, go_sem, z0, z1, z2, z3]) rfl ?_
      exact HE.out _ _ _ _
end Ht
end Go.Proofs.Ytjpmebppdcclbaa
namespace Go.Proofs.Ytjpmebppdcclbaa
open Go.RowKit
def idxG {α : Type} (p : α → Bool) (l : List α) : Int := if l.any p then (l.findIdx p : Int) else -1
theorem idxG_hit {α : Type} {p : α → Bool} {l : List α} {i : Nat} (hi : i < l.length) (h : p l[i] = true) (hn : ∀ j (h : j < l.length), j < i → p l[j] = false) : idxG p l = i := by
  have h1 : l.any p = true := List.any_eq_true.2 ⟨l[i], List.getElem_mem hi, h⟩
  rw [idxG, if_pos h1]
  have : l.findIdx p = i := by
    rw [List.findIdx_eq hi]
    exact ⟨h, fun j hj => by simp [hn j (by omega) hj]⟩
  rw [this]
theorem idxG_none {α : Type} {p : α → Bool} {l : List α} (hn : ∀ j (h : j < l.length), p l[j] = false) : idxG p l = -1 := by
  have h1 : l.any p = false := by
    rw [List.any_eq_false]
    intro x hx
    obtain ⟨j, hj, rfl⟩ := List.getElem_of_mem hx
    simp [hn j hj]
  rw [idxG, if_neg (by simp [h1])]
theorem idxG_ge {α : Type} (p : α → Bool) (l : List α) : decide (0 ≤ idxG p l) = l.any p := by
  unfold idxG
  cases h : l.any p <;> simp [h]
def PredSym (g : Nat) (lb : Array Value) (l : List Sym) (p : Sym → Bool) (w : World) : Prop :=
  ∀ (W : World) (x : Sym), x ∈ l → Below w.heap.size w W → Calls Try.prog g (#[.agg #[.bool x.term, .int .i64 x.n]] ++ lb) W fun e w' => e = .returned (.bool (p x)) ∧ Below W.heap.size W w'
def PredRule (g : Nat) (lb : Array Value) (l : List Rule) (p : Rule → Bool) (w : World) : Prop :=
  ∀ (W : World) (x : Rule) (v : Value), x ∈ l → Below w.heap.size w W → Rd AnyB W (.sl (x.right.map Sym.d)) [v] → Calls Try.prog g (#[.agg #[.int .i64 x.left, v]] ++ lb) W fun e w' => e = .returned (.bool (p x)) ∧ Below W.heap.size W w'
set_option maxHeartbeats 1000000 in
theorem indexFuncSym (g : Nat) (lb : Array Value) (p : Sym → Bool) (a : Option Addr) (cap : Nat) (l : List Sym) (w : World) (eg : ∀ args w, (callFunc g args).run Try.prog w = .ok (.enter g args) w)
    (hf : PredSym g lb l p w) (hl : Rd AnyB w (.sl (l.map Sym.d)) [.slice a l.length cap]) :
    Calls Try.prog 73 #[.slice a l.length cap, .func (.func g) #[] lb] w fun e w' => e = .returned (.int .i64 (idxG p l)) ∧ Below w.heap.size w w' := by
  have HL := Lib.hid hl
  have HF := Lib.hid hf
  have hc := hl.bounds.2
  unfold maxLen at hc
  obtain ⟨hc1, hc2⟩ := hc
  clear hl hf
  go_enter Try.func73, Try.ntmps73
  go_wp2
  go_loopg [8] l.length (fun gg v8 wr => ∃ i : Nat, i ≤ l.length ∧ l.length - i ≤ gg ∧ v8 = .int .i64 i ∧ Hid (Below w.heap.size w wr) ∧ Hid (∀ j (h : j < l.length), j < i → p l[j] = false))
  case atStart => exact ⟨0, by omega, by omega, rfl, Below.refl _ _, fun j _ hj => by omega⟩
  case round =>
    obtain ⟨i, hi, hg, rfl, HB, HN⟩ := hrel
    by_cases hlt : i < l.length
    · have hlt' : (i : Int) < (l.length : Int) := by omega
      obtain ⟨b, off, hae, -, -, c0, c1⟩ := (HL.out.below HB.out).sym_at hlt
      obtain ⟨x, HX⟩ := nameIt (l[i]'hlt)
      rw [HX.out] at c0 c1
      have hcall := HF.out wr x (by rw [← HX.out]; exact List.getElem_mem hlt) HB.out
      obtain ⟨q0, HQ0⟩ := nameIt x.term
      obtain ⟨q1, HQ1⟩ := nameIt x.n
      rw [HQ0.out] at c0 hcall
      rw [HQ1.out] at c1 hcall
      have HC := Lib.hid hcall
      clear hcall
      subst hae
      go_wp2_with fail
      refine HC.out.mono ?_
      rintro e w6 ⟨rfl, hb6⟩
      have HB6 := Lib.hid (HB.out.trans (hb6.mono HB.out.size))
      clear hb6 c0 c1
      cases hp : p x with
      | true =>
        have HE : Hid (idxG p l = i) := idxG_hit hlt (by rw [HX.out]; exact hp) HN.out
        clear hp
        go_wp2
        go_ret
        exact ⟨by rw [HE.out]; rfl, HB6.out⟩
      | false =>
        have HN2 : Hid (∀ j (h : j < l.length), j < i + 1 → p l[j] = false) := by
          intro j h hj
          by_cases e : j = i
          · subst e; rw [HX.out]; exact hp
          · exact HN.out j h (by omega)
        clear hp
        go_wp2
        go_roundg (l.length - (i + 1))
        case measure => omega
        case rel => exact ⟨i + 1, by omega, by omega, by go_num, HB6, HN2⟩
    · have hlt' : ¬ (i : Int) < (l.length : Int) := by omega
      have HE : Hid (idxG p l = -1) := idxG_none fun j hj => HN.out j hj (by omega)
      go_wp2
      go_ret
      exact ⟨by rw [HE.out]; rfl, HB.out⟩
set_option maxHeartbeats 1000000 in
theorem containsFuncSym (g : Nat) (lb : Array Value) (p : Sym → Bool) (a : Option Addr) (cap : Nat) (l : List Sym) (w : World) (eg : ∀ args w, (callFunc g args).run Try.prog w = .ok (.enter g args) w)
    (hf : PredSym g lb l p w) (hl : Rd AnyB w (.sl (l.map Sym.d)) [.slice a l.length cap]) :
    Calls Try.prog 32 #[.slice a l.length cap, .func (.func g) #[] lb] w fun e w' => e = .returned (.bool (l.any p)) ∧ Below w.heap.size w w' := by
  have HL := Lib.hid hl
  have HF := Lib.hid hf
  have HG := Lib.hid eg
  clear hl hf eg
  go_enter Try.func32, Try.ntmps32
  go_wp2_with fail
  refine (indexFuncSym g lb p a cap l w HG.out HF.out HL.out).mono ?_
  rintro e w1 ⟨rfl, hb⟩
  have HB := Lib.hid hb
  clear hb
  go_wp2
  go_ret
  exact ⟨by rw [idxG_ge]; rfl, HB.out⟩
set_option maxHeartbeats 1000000 in
theorem indexFuncRule (g : Nat) (lb : Array Value) (p : Rule → Bool) (a : Option Addr) (cap : Nat) (l : List Rule) (w : World) (eg : ∀ args w, (callFunc g args).run Try.prog w = .ok (.enter g args) w)
    (hf : PredRule g lb l p w) (hl : Rd AnyB w (.sl (l.map Rule.d)) [.slice a l.length cap]) :
    Calls Try.prog 74 #[.slice a l.length cap, .func (.func g) #[] lb] w fun e w' => e = .returned (.int .i64 (idxG p l)) ∧ Below w.heap.size w w' := by
  have HL := Lib.hid hl
  have HF := Lib.hid hf
  have hc := hl.bounds.2
  unfold maxLen at hc
  obtain ⟨hc1, hc2⟩ := hc
  clear hl hf
  go_enter Try.func74, Try.ntmps74
  go_wp2
  go_loopg [8] l.length (fun gg v8 wr => ∃ i : Nat, i ≤ l.length ∧ l.length - i ≤ gg ∧ v8 = .int .i64 i ∧ Hid (Below w.heap.size w wr) ∧ Hid (∀ j (h : j < l.length), j < i → p l[j] = false))
  case atStart => exact ⟨0, by omega, by omega, rfl, Below.refl _ _, fun j _ hj => by omega⟩
  case round =>
    obtain ⟨i, hi, hg, rfl, HB, HN⟩ := hrel
    by_cases hlt : i < l.length
    · have hlt' : (i : Int) < (l.length : Int) := by omega
      obtain ⟨b, off, vr, hae, -, -, c0, c1, hkr⟩ := (HL.out.below HB.out).rule_at hlt
      obtain ⟨ar, cr, rfl, -, -⟩ := hkr.form
      rw [List.length_map] at c1 hkr
      obtain ⟨x, HX⟩ := nameIt (l[i]'hlt)
      rw [HX.out] at c0 c1 hkr
      have hcall := HF.out wr x _ (by rw [← HX.out]; exact List.getElem_mem hlt) HB.out hkr
      obtain ⟨q0, HQ0⟩ := nameIt x.left
      obtain ⟨q1, HQ1⟩ := nameIt x.right.length
      rw [HQ0.out] at c0 hcall
      rw [HQ1.out] at c1 hcall
      have HC := Lib.hid hcall
      clear hcall hkr
      subst hae
      go_wp2_with fail
      refine HC.out.mono ?_
      rintro e w6 ⟨rfl, hb6⟩
      have HB6 := Lib.hid (HB.out.trans (hb6.mono HB.out.size))
      clear hb6 c0 c1
      cases hp : p x with
      | true =>
        have HE : Hid (idxG p l = i) := idxG_hit hlt (by rw [HX.out]; exact hp) HN.out
        clear hp
        go_wp2
        go_ret
        exact ⟨by rw [HE.out]; rfl, HB6.out⟩
      | false =>
        have HN2 : Hid (∀ j (h : j < l.length), j < i + 1 → p l[j] = false) := by
          intro j h hj
          by_cases e : j = i
          · subst e; rw [HX.out]; exact hp
          · exact HN.out j h (by omega)
        clear hp
        go_wp2
        go_roundg (l.length - (i + 1))
        case measure => omega
        case rel => exact ⟨i + 1, by omega, by omega, by go_num, HB6, HN2⟩
    · have hlt' : ¬ (i : Int) < (l.length : Int) := by omega
      have HE : Hid (idxG p l = -1) := idxG_none fun j hj => HN.out j hj (by omega)
      go_wp2
      go_ret
      exact ⟨by rw [HE.out]; rfl, HB.out⟩
set_option maxHeartbeats 1000000 in
theorem containsFuncRule (g : Nat) (lb : Array Value) (p : Rule → Bool) (a : Option Addr) (cap : Nat) (l : List Rule) (w : World) (eg : ∀ args w, (callFunc g args).run Try.prog w = .ok (.enter g args) w)
    (hf : PredRule g lb l p w) (hl : Rd AnyB w (.sl (l.map Rule.d)) [.slice a l.length cap]) :
    Calls Try.prog 35 #[.slice a l.length cap, .func (.func g) #[] lb] w fun e w' => e = .returned (.bool (l.any p)) ∧ Below w.heap.size w w' := by
  have HL := Lib.hid hl
  have HF := Lib.hid hf
  have HG := Lib.hid eg
  clear hl hf eg
  go_enter Try.func35, Try.ntmps35
  go_wp2_with fail
  refine (indexFuncRule g lb p a cap l w HG.out HF.out HL.out).mono ?_
  rintro e w1 ⟨rfl, hb⟩
  have HB := Lib.hid hb
  clear hb
  go_wp2
  go_ret
  exact ⟨by rw [idxG_ge]; rfl, HB.out⟩
set_option maxHeartbeats 1000000 in
theorem orderS (x y : Sym) (w : World) : Calls Try.prog 76 #[.agg #[.bool x.term, .int .i64 x.n], .agg #[.bool y.term, .int .i64 y.n]] w fun e w' => e = .returned (.int .i64 (ordS x y)) ∧ Below w.heap.size w w' := by
  obtain ⟨x0, x1⟩ := x
  obtain ⟨y0, y1⟩ := y
  dsimp only
  cases x0 <;> cases y0
  · have HC := Lib.hid (fun W => compareInt x1 y1 W)
    have HO : Hid (ordS ⟨false, x1⟩ ⟨false, y1⟩ = cmp3 x1 y1) := by show _ = _; simp [ordS]
    go_enter Try.func76, Try.ntmps76
    go_wp2_with fail
    refine (HC.out _).mono ?_
    rintro e w' ⟨rfl, rfl⟩
    go_wp2_with fail
    go_ret
    exact ⟨by rw [HO.out]; rfl, ((Below.refl _ _).alloc (Nat.le_refl _) _).alloc (by simp) _⟩
  · have HO : Hid (ordS ⟨false, x1⟩ ⟨true, y1⟩ = 1) := by show _ = _; simp [ordS]
    go_enter Try.func76, Try.ntmps76
    go_wp2_with fail
    go_ret
    exact ⟨by rw [HO.out]; rfl, ((Below.refl _ _).alloc (Nat.le_refl _) _).alloc (by simp) _⟩
  · have HO : Hid (ordS ⟨true, x1⟩ ⟨false, y1⟩ = -1) := by show _ = _; simp [ordS]
    go_enter Try.func76, Try.ntmps76
    go_wp2_with fail
    go_ret
    exact ⟨by rw [HO.out]; rfl, ((Below.refl _ _).alloc (Nat.le_refl _) _).alloc (by simp) _⟩
  · have HC := Lib.hid (fun W => compareInt x1 y1 W)
    have HO : Hid (ordS ⟨true, x1⟩ ⟨true, y1⟩ = cmp3 x1 y1) := by show _ = _; simp [ordS]
    go_enter Try.func76, Try.ntmps76
    go_wp2_with fail
    refine (HC.out _).mono ?_
    rintro e w' ⟨rfl, rfl⟩
    go_wp2_with fail
    go_ret
    exact ⟨by rw [HO.out]; rfl, ((Below.refl _ _).alloc (Nat.le_refl _) _).alloc (by simp) _⟩
theorem cmpS_at {l m : List Sym} {i : Nat} (h : i < l.length) (h2 : i < m.length) : cmpS (l.drop i) (m.drop i) = if ordS l[i] m[i] = 0 then cmpS (l.drop (i + 1)) (m.drop (i + 1)) else ordS l[i] m[i] := by
  rw [List.drop_eq_getElem_cons h, List.drop_eq_getElem_cons h2, cmpS]
theorem cmpS_long {l m : List Sym} {i : Nat} (h : i < l.length) (h2 : m.length ≤ i) : cmpS (l.drop i) (m.drop i) = 1 := by
  rw [List.drop_eq_getElem_cons h, List.drop_of_length_le h2, cmpS]
theorem cmpS_short {l m : List Sym} {i : Nat} (h : l.length ≤ i) (h2 : i < m.length) : cmpS (l.drop i) (m.drop i) = -1 := by
  rw [List.drop_eq_getElem_cons h2, List.drop_of_length_le h, cmpS]
theorem cmpS_end {l m : List Sym} {i : Nat} (h : l.length ≤ i) (h2 : m.length ≤ i) : cmpS (l.drop i) (m.drop i) = 0 := by
  rw [List.drop_of_length_le h2, List.drop_of_length_le h, cmpS]
set_option maxHeartbeats 1000000 in
theorem compareSyms (a a' : Option Addr) (cap cap' : Nat) (l m : List Sym) (w : World) (hl : Rd AnyB w (.sl (l.map Sym.d)) [.slice a l.length cap]) (hm : Rd AnyB w (.sl (m.map Sym.d)) [.slice a' m.length cap']) :
    Calls Try.prog 75 #[.slice a l.length cap, .slice a' m.length cap', .func (.func 76) #[] #[]] w fun e w' => e = .returned (.int .i64 (cmpS l m)) ∧ Below w.heap.size w w' := by
  have HL := Lib.hid hl
  have HM := Lib.hid hm
  have hc := hl.bounds.2
  have hc' := hm.bounds.2
  unfold maxLen at hc hc'
  obtain ⟨hc1, hc2⟩ := hc
  obtain ⟨hc3, hc4⟩ := hc'
  clear hl hm
  go_enter Try.func75, Try.ntmps75
  go_wp2_with fail
  go_loopg [13] l.length (fun gg v13 wr => ∃ i : Nat, i ≤ l.length ∧ l.length - i ≤ gg ∧ v13 = .int .i64 i ∧ Hid (Below w.heap.size w wr) ∧ Hid (cmpS (l.drop i) (m.drop i) = cmpS l m))
  case atStart => exact ⟨0, by omega, by omega, rfl, Below.refl _ _, rfl⟩
  case round =>
    obtain ⟨i, hi, hg, rfl, HB, HE⟩ := hrel
    by_cases hlt : i < l.length
    · have hlt' : (i : Int) < (l.length : Int) := by omega
      obtain ⟨b, off, hae, -, -, c0, c1⟩ := (HL.out.below HB.out).sym_at hlt
      by_cases hlt2 : i < m.length
      · have hlt2' : (i : Int) < (m.length : Int) := by omega
        obtain ⟨b', off', hae', -, -, d0, d1⟩ := (HM.out.below HB.out).sym_at hlt2
        have h1 := HE.out
        rw [cmpS_at hlt hlt2] at h1
        obtain ⟨x, HX⟩ := nameIt (l[i]'hlt)
        obtain ⟨y, HY⟩ := nameIt (m[i]'hlt2)
        rw [HX.out] at c0 c1 h1
        rw [HY.out] at d0 d1 h1
        have hcall := fun W => orderS x y W
        obtain ⟨c, HC⟩ := nameIt (ordS x y)
        obtain ⟨q0, HQ0⟩ := nameIt x.term
        obtain ⟨q1, HQ1⟩ := nameIt x.n
        obtain ⟨p0, HP0⟩ := nameIt y.term
        obtain ⟨p1, HP1⟩ := nameIt y.n
        rw [HC.out] at h1 hcall
        rw [HQ0.out] at c0 hcall
        rw [HQ1.out] at c1 hcall
        rw [HP0.out] at d0 hcall
        rw [HP1.out] at d1 hcall
        have H1 := Lib.hid h1
        have HCA := Lib.hid hcall
        have hne := lt_of_cell d0
        subst hae hae'
        clear h1 hcall
        have hbb := ((Below.refl wr.heap.size wr).alloc (Nat.le_refl _) (.cells #[.bool q0, .int .i64 q1] 44)).alloc (by simp) (.cells #[.bool p0, .int .i64 p1] 44)
        have HBB := Lib.hid (HB.out.trans (hbb.mono HB.out.size))
        clear hbb
        go_wp2_with fail
        refine (HCA.out _).mono ?_
        rintro e w6 ⟨rfl, hb6⟩
        have HB6 := Lib.hid (HBB.out.trans (hb6.mono HBB.out.size))
        clear hb6 c0 c1 d0 d1
        by_cases h0 : c = 0
        · subst h0
          have h2 := H1.out
          rw [if_pos rfl] at h2
          have HE2 := Lib.hid h2
          clear h2
          go_wp2_with fail
          go_roundg (l.length - (i + 1))
          case measure => omega
          case rel => exact ⟨i + 1, by omega, by omega, by go_num, HB6, HE2⟩
        · have h2 := H1.out
          rw [if_neg h0] at h2
          have HE2 := Lib.hid h2
          have hcb : (c != 0) = true := by simpa using h0
          clear h2 h0
          go_wp2_with fail
          go_ret
          exact ⟨by rw [← HE2.out]; rfl, HB6.out⟩
      · have hlt2' : (m.length : Int) ≤ (i : Int) := by omega
        have HE2 : Hid (cmpS l m = 1) := by show _ = _; rw [← HE.out]; exact cmpS_long hlt (by omega)
        subst hae
        go_wp2_with fail
        go_ret
        exact ⟨by rw [HE2.out]; rfl, HB.out.alloc HB.out.size _⟩
    · have hlt' : ¬ (i : Int) < (l.length : Int) := by omega
      by_cases hlt2 : l.length < m.length
      · have HE2 : Hid (cmpS l m = -1) := by show _ = _; rw [← HE.out]; exact cmpS_short (by omega) (by omega)
        have hlt3 : (l.length : Int) < (m.length : Int) := by omega
        go_wp2_with fail
        go_ret
        exact ⟨by rw [HE2.out]; rfl, HB.out⟩
      · have HE2 : Hid (cmpS l m = 0) := by show _ = _; rw [← HE.out]; exact cmpS_end (by omega) (by omega)
        have hlt3 : ¬ (l.length : Int) < (m.length : Int) := by omega
        go_wp2_with fail
        go_ret
        exact ⟨by rw [HE2.out]; rfl, HB.out⟩
end Go.Proofs.Ytjpmebppdcclbaa
