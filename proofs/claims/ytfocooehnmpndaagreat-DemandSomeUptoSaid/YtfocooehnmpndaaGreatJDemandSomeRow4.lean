/- A region that draws its order, that only loads what was there and calls what makes new memory only: one walk in the order of the text. The contract of attr.defines. The contracts of slices.IndexFunc and ContainsFunc of expressions and equations. The contract of attr.valid. A row of one-cell values in memory, written in place. The contract of attr.attrs. Maps that are sets: only 'true' is stored. How arguments read: what came in, as plain data. Places of rules as keys of a map. attr.Check: what its rounds keep; the steps of its answer. A block that is known whole is a row. The contract of the reference's at. -/
import Derived.Test.YtfocooehnmpndaaGreatJDemandSomeRow1
import Derived.BigQuiet
import Derived.Test.YtfocooehnmpndaaGreatJDemandSomeRow3
import Derived.Deep.CutBlock
import Derived.Deep.DeepCutAuto
import Derived.Deep.OwnRows
import Derived.Maps.OwnSet
import Derived.Maps.Views
import Derived.Test.YtfocooehnmpndaaGreatRows
import Derived.ChangeArms
import Derived.ChangeSame
import Derived.SizedLaws
import Derived.Deep.Slices
import Derived.DeepKeys4
import Derived.Test.YtfocooehnmpndaaGreatJDemandSomeRow2
import Derived.Deep.RegionHeld3
namespace Go.Proofs.YtfocooehnmpndaaGreat
open Go.RowKit
structure Aft (w0 : World) where
  w : World
  bel : Below w0.heap.size w0 w
instance (w0 : World) : Nonempty (Aft w0) := ⟨⟨w0, Below.refl _ _⟩⟩
theorem aft_cell {w0 : World} {p : Addr} {v : Value} (h : w0.cell? p = some v) : ∀ x : Aft w0, x.w.cell? p = some v := fun x => (x.bel.cell (lt_of_cell h)).trans h
theorem wp_region_after {P : Program} {id : Nat} {Q : Exit → Act → World → Prop} {a : Act} {w0 : World} {l : List Oper} (hm : P.follows .mixedOrders = true) (hB : Region.lexB .any l.toArray = true)
    (h : wpQuiet P l.toArray (fun w' => ∃ x : Aft w0, w' = x.w) (fun a' => ∀ w', (∃ x : Aft w0, w' = x.w) → Q .normal a' w') l a) : (Code.region id l.toArray true).wp P Q a w0 :=
  wp_region_quiet (C := fun w' => ∃ x : Aft w0, w' = x.w) hm hB ⟨⟨_, (Below.refl _ w0).drew⟩, rfl⟩ (by simpa using h)
theorem Calls.after {P : Program} {f : FuncId} {args : Array Value} {w0 : World} {x : Aft w0} {v : Value} (h : Calls P f args x.w fun e w' => e = .returned v ∧ Below x.w.heap.size x.w w') :
    Calls P f args x.w fun e w'' => e = .returned v ∧ ∃ y : Aft w0, w'' = y.w :=
  h.mono fun _ w'' ⟨he, hb⟩ => ⟨he, ⟨w'', x.bel.trans (hb.mono x.bel.size)⟩, rfl⟩
end Go.Proofs.YtfocooehnmpndaaGreat
namespace Go.Proofs.YtfocooehnmpndaaGreat
open Go.RowKit
namespace At
theorem there_range {al : List Attr} {r : Rule} {x : Ref} (h : there al r x = true) : 0 ≤ x.attr ∧ x.attr < al.length ∧ 0 ≤ x.at' ∧ x.at' ≤ r.right.length := by
  unfold there at h
  simp only [Bool.and_eq_true, decide_eq_true_eq] at h
  exact h.1
theorem defs_no {al : List Attr} {r : Rule} {x : Ref} (h : there al r x = false) : defs al r x = false := by unfold defs; rw [h]; rfl
theorem defs_at {al : List Attr} {r : Rule} {x : Ref} {j : Nat} (h : there al r x = true) (hj : j < al.length) (hx : x.attr = (j : Int)) : defs al r x = (al[j].inh == decide (0 < x.at')) := by
  unfold defs inhAt
  rw [h, hx]
  simp [hj]
set_option maxHeartbeats 2000000 in
set_option maxRecDepth 100000 in
theorem definesE (al : List Attr) (r : Rule) (x : Ref) (aa ae ar : Option Addr) (ca ne ce cr : Nat) (w : World) (hA : Rd AnyB w (.sl (al.map Attr.d)) [.slice aa al.length ca]) (hR : Rd AnyB w (.sl (r.right.map Sym.d)) [.slice ar r.right.length cr]) :
    Calls Tryz.prog 95 #[.agg #[.slice aa al.length ca, .slice ae ne ce], .agg #[.int .i64 r.left, .slice ar r.right.length cr], .agg #[.int .i64 x.at', .int .i64 x.attr]] w (fun e w' => e = .returned (.bool (defs al r x)) ∧ Below w.heap.size w w') := by
  have ha1 := hA.bounds.2
  have hr1 := hR.bounds.2
  unfold maxLen at ha1 hr1
  obtain ⟨ha1, ha2⟩ := ha1
  obtain ⟨hr1, hr2⟩ := hr1
  obtain ⟨w0, HW0⟩ := nameIt (((w.alloc (.cells #[.slice aa al.length ca, .slice ae ne ce] 28)).alloc (.cells #[.int .i64 r.left, .slice ar r.right.length cr] 81)).alloc (.cells #[.int .i64 x.at', .int .i64 x.attr] 83))
  have HB0 : Hid (Below w.heap.size w w0) := by rw [← HW0.out]; exact (((Below.refl _ _).alloc (Nat.le_refl _) _).alloc (by simp) _).alloc (by simp; omega) _
  have X1 : Hid (w0.heap[w.heap.size]? = some (.cells #[.slice aa al.length ca, .slice ae ne ce] 28 (0, 0))) := by
    rw [← HW0.out]; exact bx_keep (bx_keep (bx_new _ _ _ rfl) ((Below.refl _ _).alloc (Nat.le_refl _) _)) ((Below.refl _ _).alloc (Nat.le_refl _) _)
  have X2 : Hid (w0.heap[w.heap.size + 1]? = some (.cells #[.int .i64 r.left, .slice ar r.right.length cr] 81 (0, 0))) := by
    rw [← HW0.out]; exact bx_keep (bx_new _ _ _ (by simp)) ((Below.refl _ _).alloc (Nat.le_refl _) _)
  have X3 : Hid (w0.heap[w.heap.size + 1 + 1]? = some (.cells #[.int .i64 x.at', .int .i64 x.attr] 83 (0, 0))) := by
    rw [← HW0.out]; exact bx_new _ _ _ (by simp)
  have HA := Lib.hid (hA.below HB0.out)
  have HTE := Lib.hid (fun W (hb : Below w0.heap.size w0 W) => thereE al r x aa ae ar ca ne ce cr W (HA.out.below hb) ((hR.below HB0.out).below hb))
  have HNO := Lib.hid (@defs_no al r x)
  have HRG := Lib.hid (@there_range al r x)
  have HAT := Lib.hid (fun (h : there al r x = true) (j : Nat) (hj : j < al.length) => @defs_at al r x j h hj)
  obtain ⟨lf, HLF⟩ := nameIt r.left
  obtain ⟨R, HRR⟩ := nameIt r.right
  obtain ⟨xa, HXA⟩ := nameIt x.at'
  obtain ⟨xi, HXI⟩ := nameIt x.attr
  obtain ⟨th, HTH⟩ := nameIt (there al r x)
  obtain ⟨df, HDF⟩ := nameIt (defs al r x)
  rw [HLF.out, HRR.out, HXA.out, HXI.out] at HW0
  rw [HLF.out, HRR.out] at X2
  rw [HXA.out, HXI.out] at X3
  rw [HTH.out, HDF.out] at HNO
  rw [HXI.out, HXA.out, HRR.out, HTH.out] at HRG
  rw [HXI.out, HXA.out, HTH.out, HDF.out] at HAT
  rw [HLF.out, HRR.out, HXA.out, HXI.out, HTH.out] at HTE
  rw [HLF.out, HRR.out, HXA.out, HXI.out, HDF.out]
  obtain ⟨x0, x1⟩ := bx_cells2 X1.out
  obtain ⟨y0, y1⟩ := bx_cells2 X2.out
  obtain ⟨z0, z1⟩ := bx_cells2 X3.out
  clear hA hR hr1
  go_enter Tryz.func95, Tryz.ntmps95
  go_upto_region 1 with fail
  rw [HW0.out]
  have k0 := aft_cell x0
  have k1 := aft_cell x1
  have k2 := aft_cell y0
  have k3 := aft_cell y1
  have k4 := aft_cell z0
  have k5 := aft_cell z1
  clear x0 x1 y0 y1 z0 z1
  cases th with
  | false =>
    obtain rfl : df = false := HNO.out rfl
    refine wp_region_after (by kernel_rfl) (by kernel_rfl) ?_
    repeat (go_big_quiet_step (exact Calls.after (HTE.out _ (Aft.bel _))))
    refine wpQuiet_nil ?_
    rintro _ ⟨⟨w7, hb7⟩, rfl⟩
    have HB7 := Lib.hid hb7
    clear hb7 k0 k1 k2 k3 k4 k5
    go_wp2_with fail
    go_ret
    exact ⟨rfl, HB0.out.trans (HB7.out.mono HB0.out.size)⟩
  | true =>
    obtain ⟨r1, r2, r3, r4⟩ := HRG.out rfl
    obtain ⟨j, hj⟩ : ∃ j : Nat, xi = (j : Int) := ⟨xi.toNat, by omega⟩
    subst hj
    have h2 : j < al.length := by omega
    obtain ⟨b, off, hae, -, hbl, c0, c1⟩ := Rd.attr_at HA.out h2
    have HE := Lib.hid (HAT.out rfl j h2 rfl)
    obtain ⟨inh, HINH⟩ := nameIt (al[j]'h2).inh
    rw [HINH.out] at c1 HE
    have hj0 : (0 : Int) ≤ (j : Int) := by omega
    have hj1 : (j : Int) < (al.length : Int) := by omega
    obtain ⟨pz, HPZ⟩ := nameIt (decide (0 < xa))
    have hpz : decide (0 < xa) = pz := HPZ.out
    subst hae
    have k6 := aft_cell c1
    clear r4 c0 c1
    refine wp_region_after (by kernel_rfl) (by kernel_rfl) ?_
    repeat (go_big_quiet_step (exact Calls.after (HTE.out _ (Aft.bel _))))
    refine wpQuiet_nil ?_
    rintro _ ⟨⟨w7, hb7⟩, rfl⟩
    have HB7 := Lib.hid hb7
    clear hb7 k0 k1 k2 k3 k4 k5 k6
    go_wp2_with fail
    go_ret
    refine ⟨?_, HB0.out.trans (HB7.out.mono HB0.out.size)⟩
    rw [HE.out, HPZ.out]
    rfl
end At
end Go.Proofs.YtfocooehnmpndaaGreat
namespace Go.Proofs.YtfocooehnmpndaaGreat
open Go.RowKit
namespace At
theorem Rd.eqn_at {S : Nat → Prop} {w : World} {l : List Eqn} {a : Option Addr} {n cap i : Nat} (h : Rd S w (.sl (l.map Eqn.d)) [.slice a n cap]) (hi : i < l.length) :
    ∃ b off v, a = some ⟨b, off, none⟩ ∧ S b ∧ b < w.heap.size ∧ w.cell? ⟨b, off + i * 8, none⟩ = some (.int .i64 l[i].rule) ∧ w.cell? ⟨b, off + i * 8 + 1, none⟩ = some (.int .i64 l[i].to'.at') ∧ w.cell? ⟨b, off + i * 8 + 2, none⟩ = some (.int .i64 l[i].to'.attr) ∧ w.cell? ⟨b, off + i * 8 + 3, none⟩ = some (.int .i64 l[i].is'.kind) ∧ w.cell? ⟨b, off + i * 8 + 4, none⟩ = some (.int .i64 l[i].is'.n) ∧ w.cell? ⟨b, off + i * 8 + 5, none⟩ = some (.int .i64 l[i].is'.ref.at') ∧ w.cell? ⟨b, off + i * 8 + 6, none⟩ = some (.int .i64 l[i].is'.ref.attr) ∧ w.cell? ⟨b, off + i * 8 + 7, none⟩ = some v ∧ Rd S w (.sl (l[i].is'.args.map Expr.d)) [v] := by
  obtain ⟨b, off, cs, ha, hS, hlt, hr, hl, hc⟩ := h.at (eqs_cells l) (by decide) (i := i) (by simpa using hi)
  simp at hr
  obtain ⟨c1, c2, rfl, h1, c3, c4, rfl, h2, h3⟩ := hr
  rw [RdAll.one_iff] at h3
  have h2' := Rd.ref h2
  obtain ⟨v, rfl, hk⟩ := Rd.expr h3
  simp [Rd] at h1
  subst h1 h2'
  exact ⟨b, off, v, ha, hS, hlt, by simpa using hc 0 (by simp), by simpa [Nat.add_assoc] using hc 1 (by simp), by simpa [Nat.add_assoc] using hc 2 (by simp), by simpa [Nat.add_assoc] using hc 3 (by simp), by simpa [Nat.add_assoc] using hc 4 (by simp), by simpa [Nat.add_assoc] using hc 5 (by simp), by simpa [Nat.add_assoc] using hc 6 (by simp), by simpa [Nat.add_assoc] using hc 7 (by simp), hk⟩
def PredExpr (g : Nat) (lb : Array Value) (l : List Expr) (p : Expr → Bool) (w : World) : Prop :=
  ∀ (W : World) (x : Expr) (v : Value), x ∈ l → Below w.heap.size w W → Rd AnyB W (.sl (x.args.map Expr.d)) [v] → Calls Tryz.prog g (#[.agg #[.int .i64 x.kind, .int .i64 x.n, .int .i64 x.ref.at', .int .i64 x.ref.attr, v]] ++ lb) W fun e w' => e = .returned (.bool (p x)) ∧ Below W.heap.size W w'
set_option maxHeartbeats 1000000 in
theorem indexFuncExpr (g : Nat) (lb : Array Value) (p : Expr → Bool) (a : Option Addr) (cap : Nat) (l : List Expr) (w : World) (eg : ∀ args w, (callFunc g args).run Tryz.prog w = .ok (.enter g args) w)
    (hf : PredExpr g lb l p w) (hl : Rd AnyB w (.sl (l.map Expr.d)) [.slice a l.length cap]) :
    Calls Tryz.prog 132 #[.slice a l.length cap, .func (.func g) #[] lb] w fun e w' => e = .returned (.int .i64 (idxG p l)) ∧ Below w.heap.size w w' := by
  have HL := Lib.hid hl
  have HF := Lib.hid hf
  have hc := hl.bounds.2
  unfold maxLen at hc
  obtain ⟨hc1, hc2⟩ := hc
  clear hl hf
  go_enter Tryz.func132, Tryz.ntmps132
  go_wp2
  go_loopg [8] l.length (fun gg v8 wr => ∃ i : Nat, i ≤ l.length ∧ l.length - i ≤ gg ∧ v8 = .int .i64 i ∧ Hid (Below w.heap.size w wr) ∧ Hid (∀ j (h : j < l.length), j < i → p l[j] = false))
  case atStart => exact ⟨0, by omega, by omega, rfl, Below.refl _ _, fun j _ hj => by omega⟩
  case round =>
    obtain ⟨i, hi, hg, rfl, HB, HN⟩ := hrel
    by_cases hlt : i < l.length
    · have hlt' : (i : Int) < (l.length : Int) := by omega
      obtain ⟨b, off, vr, hae, -, -, c0, c1, c2, c3, c4, hkr⟩ := Rd.arg (HL.out.below HB.out) hlt
      obtain ⟨ar, cr, rfl, -, -⟩ := hkr.form
      rw [List.length_map] at c4 hkr
      obtain ⟨x, HX⟩ := nameIt (l[i]'hlt)
      rw [HX.out] at c0 c1 c2 c3 c4 hkr
      have hcall := HF.out wr x _ (by rw [← HX.out]; exact List.getElem_mem hlt) HB.out hkr
      obtain ⟨q0, HQ0⟩ := nameIt x.kind
      rw [HQ0.out] at c0 hcall
      obtain ⟨q1, HQ1⟩ := nameIt x.n
      rw [HQ1.out] at c1 hcall
      obtain ⟨q2, HQ2⟩ := nameIt x.ref.at'
      rw [HQ2.out] at c2 hcall
      obtain ⟨q3, HQ3⟩ := nameIt x.ref.attr
      rw [HQ3.out] at c3 hcall
      obtain ⟨qn, HQN⟩ := nameIt x.args.length
      rw [HQN.out] at c4 hcall
      have HC := Lib.hid hcall
      clear hcall hkr
      subst hae
      go_wp2_with fail
      refine HC.out.mono ?_
      rintro e w6 ⟨rfl, hb6⟩
      have HB6 := Lib.hid (HB.out.trans (hb6.mono HB.out.size))
      clear hb6 c0 c1 c2 c3 c4
      cases hp : p x with
      | true =>
        have HE : Hid (idxG p l = i) := idxG_hit hlt (by rw [HX.out]; exact hp) HN.out
        clear hp
        go_wp2
        go_ret
        exact ⟨by rw [HE.out]; rfl, HB6.out⟩
      | false =>
        have HN2 : Hid (∀ j (h : j < l.length), j < i + 1 → p l[j] = false) := by
          intro j h hj
          by_cases e : j = i
          · subst e; rw [HX.out]; exact hp
          · exact HN.out j h (by omega)
        clear hp
        go_wp2
        go_roundg (l.length - (i + 1))
        case measure => omega
        case rel => exact ⟨i + 1, by omega, by omega, by go_num, HB6, HN2⟩
    · have hlt' : ¬ (i : Int) < (l.length : Int) := by omega
      have HE : Hid (idxG p l = -1) := idxG_none fun j hj => HN.out j hj (by omega)
      go_wp2
      go_ret
      exact ⟨by rw [HE.out]; rfl, HB.out⟩
set_option maxHeartbeats 1000000 in
theorem containsFuncExpr (g : Nat) (lb : Array Value) (p : Expr → Bool) (a : Option Addr) (cap : Nat) (l : List Expr) (w : World) (eg : ∀ args w, (callFunc g args).run Tryz.prog w = .ok (.enter g args) w)
    (hf : PredExpr g lb l p w) (hl : Rd AnyB w (.sl (l.map Expr.d)) [.slice a l.length cap]) :
    Calls Tryz.prog 118 #[.slice a l.length cap, .func (.func g) #[] lb] w fun e w' => e = .returned (.bool (l.any p)) ∧ Below w.heap.size w w' := by
  have HL := Lib.hid hl
  have HF := Lib.hid hf
  have HG := Lib.hid eg
  clear hl hf eg
  go_enter Tryz.func118, Tryz.ntmps118
  go_wp2_with fail
  refine (indexFuncExpr g lb p a cap l w HG.out HF.out HL.out).mono ?_
  rintro e w1 ⟨rfl, hb⟩
  have HB := Lib.hid hb
  clear hb
  go_wp2
  go_ret
  exact ⟨by rw [idxG_ge]; rfl, HB.out⟩
def PredEqn (g : Nat) (lb : Array Value) (l : List Eqn) (p : Eqn → Bool) (w : World) : Prop :=
  ∀ (W : World) (x : Eqn) (v : Value), x ∈ l → Below w.heap.size w W → Rd AnyB W (.sl (x.is'.args.map Expr.d)) [v] → Calls Tryz.prog g (#[.agg #[.int .i64 x.rule, .int .i64 x.to'.at', .int .i64 x.to'.attr, .int .i64 x.is'.kind, .int .i64 x.is'.n, .int .i64 x.is'.ref.at', .int .i64 x.is'.ref.attr, v]] ++ lb) W fun e w' => e = .returned (.bool (p x)) ∧ Below W.heap.size W w'
set_option maxHeartbeats 1000000 in
theorem indexFuncEqn (g : Nat) (lb : Array Value) (p : Eqn → Bool) (a : Option Addr) (cap : Nat) (l : List Eqn) (w : World) (eg : ∀ args w, (callFunc g args).run Tryz.prog w = .ok (.enter g args) w)
    (hf : PredEqn g lb l p w) (hl : Rd AnyB w (.sl (l.map Eqn.d)) [.slice a l.length cap]) :
    Calls Tryz.prog 106 #[.slice a l.length cap, .func (.func g) #[] lb] w fun e w' => e = .returned (.int .i64 (idxG p l)) ∧ Below w.heap.size w w' := by
  have HL := Lib.hid hl
  have HF := Lib.hid hf
  have hc := hl.bounds.2
  unfold maxLen at hc
  obtain ⟨hc1, hc2⟩ := hc
  clear hl hf
  go_enter Tryz.func106, Tryz.ntmps106
  go_wp2
  go_loopg [8] l.length (fun gg v8 wr => ∃ i : Nat, i ≤ l.length ∧ l.length - i ≤ gg ∧ v8 = .int .i64 i ∧ Hid (Below w.heap.size w wr) ∧ Hid (∀ j (h : j < l.length), j < i → p l[j] = false))
  case atStart => exact ⟨0, by omega, by omega, rfl, Below.refl _ _, fun j _ hj => by omega⟩
  case round =>
    obtain ⟨i, hi, hg, rfl, HB, HN⟩ := hrel
    by_cases hlt : i < l.length
    · have hlt' : (i : Int) < (l.length : Int) := by omega
      obtain ⟨b, off, vr, hae, -, -, c0, c1, c2, c3, c4, c5, c6, c7, hkr⟩ := Rd.eqn_at (HL.out.below HB.out) hlt
      obtain ⟨ar, cr, rfl, -, -⟩ := hkr.form
      rw [List.length_map] at c7 hkr
      obtain ⟨x, HX⟩ := nameIt (l[i]'hlt)
      rw [HX.out] at c0 c1 c2 c3 c4 c5 c6 c7 hkr
      have hcall := HF.out wr x _ (by rw [← HX.out]; exact List.getElem_mem hlt) HB.out hkr
      obtain ⟨q0, HQ0⟩ := nameIt x.rule
      rw [HQ0.out] at c0 hcall
      obtain ⟨q1, HQ1⟩ := nameIt x.to'.at'
      rw [HQ1.out] at c1 hcall
      obtain ⟨q2, HQ2⟩ := nameIt x.to'.attr
      rw [HQ2.out] at c2 hcall
      obtain ⟨q3, HQ3⟩ := nameIt x.is'.kind
      rw [HQ3.out] at c3 hcall
      obtain ⟨q4, HQ4⟩ := nameIt x.is'.n
      rw [HQ4.out] at c4 hcall
      obtain ⟨q5, HQ5⟩ := nameIt x.is'.ref.at'
      rw [HQ5.out] at c5 hcall
      obtain ⟨q6, HQ6⟩ := nameIt x.is'.ref.attr
      rw [HQ6.out] at c6 hcall
      obtain ⟨qn, HQN⟩ := nameIt x.is'.args.length
      rw [HQN.out] at c7 hcall
      have HC := Lib.hid hcall
      clear hcall hkr
      subst hae
      go_wp2_with fail
      refine HC.out.mono ?_
      rintro e w6 ⟨rfl, hb6⟩
      have HB6 := Lib.hid (HB.out.trans (hb6.mono HB.out.size))
      clear hb6 c0 c1 c2 c3 c4 c5 c6 c7
      cases hp : p x with
      | true =>
        have HE : Hid (idxG p l = i) := idxG_hit hlt (by rw [HX.out]; exact hp) HN.out
        clear hp
        go_wp2
        go_ret
        exact ⟨by rw [HE.out]; rfl, HB6.out⟩
      | false =>
        have HN2 : Hid (∀ j (h : j < l.length), j < i + 1 → p l[j] = false) := by
          intro j h hj
          by_cases e : j = i
          · subst e; rw [HX.out]; exact hp
          · exact HN.out j h (by omega)
        clear hp
        go_wp2
        go_roundg (l.length - (i + 1))
        case measure => omega
        case rel => exact ⟨i + 1, by omega, by omega, by go_num, HB6, HN2⟩
    · have hlt' : ¬ (i : Int) < (l.length : Int) := by omega
      have HE : Hid (idxG p l = -1) := idxG_none fun j hj => HN.out j hj (by omega)
      go_wp2
      go_ret
      exact ⟨by rw [HE.out]; rfl, HB.out⟩
set_option maxHeartbeats 1000000 in
theorem containsFuncEqn (g : Nat) (lb : Array Value) (p : Eqn → Bool) (a : Option Addr) (cap : Nat) (l : List Eqn) (w : World) (eg : ∀ args w, (callFunc g args).run Tryz.prog w = .ok (.enter g args) w)
    (hf : PredEqn g lb l p w) (hl : Rd AnyB w (.sl (l.map Eqn.d)) [.slice a l.length cap]) :
    Calls Tryz.prog 72 #[.slice a l.length cap, .func (.func g) #[] lb] w fun e w' => e = .returned (.bool (l.any p)) ∧ Below w.heap.size w w' := by
  have HL := Lib.hid hl
  have HF := Lib.hid hf
  have HG := Lib.hid eg
  clear hl hf eg
  go_enter Tryz.func72, Tryz.ntmps72
  go_wp2_with fail
  refine (indexFuncEqn g lb p a cap l w HG.out HF.out HL.out).mono ?_
  rintro e w1 ⟨rfl, hb⟩
  have HB := Lib.hid hb
  clear hb
  go_wp2
  go_ret
  exact ⟨by rw [idxG_ge]; rfl, HB.out⟩
end At
end Go.Proofs.YtfocooehnmpndaaGreat
namespace Go.Proofs.YtfocooehnmpndaaGreat
open Go.RowKit
namespace At
def okN (k n : Int) : Bool := if k = 0 then decide (0 ≤ n ∧ n < 1000003) else decide (n = 0)
theorem okNode_eq (al : List Attr) (r : Rule) (x : Expr) : okNode al r x = (okArgs x.kind x.args.length && okN x.kind x.n && (if x.kind = 1 then there al r x.ref else decide (x.ref = ⟨0, 0⟩))) := rfl
theorem all_not_any {α : Type} (p : α → Bool) (l : List α) : l.all p = !(l.any fun x => !p x) := by
  induction l with
  | nil => rfl
  | cons a l ih => simp only [List.all_cons, List.any_cons, ih]; cases p a <;> simp
theorem beq_cast (a b : Nat) : ((a : Int) == (b : Int)) = (a == b) := by
  by_cases h : a = b
  · subst h; simp
  · have h2 : ¬ (a : Int) = b := by omega
    rw [beq_eq_false_iff_ne.2 h2, beq_eq_false_iff_ne.2 h]
set_option maxHeartbeats 4000000 in
set_option maxRecDepth 100000 in
theorem validE (al : List Attr) (r : Rule) (aa ae ar : Option Addr) (ca ne ce cr : Nat) : ∀ (m : Nat) (x : Expr) (v : Value) (w : World), x.size ≤ m → Rd AnyB w (.sl (al.map Attr.d)) [.slice aa al.length ca] → Rd AnyB w (.sl (r.right.map Sym.d)) [.slice ar r.right.length cr] → Rd AnyB w (.sl (x.args.map Expr.d)) [v] →
    Calls Tryz.prog 96 #[.agg #[.slice aa al.length ca, .slice ae ne ce], .agg #[.int .i64 r.left, .slice ar r.right.length cr], .agg #[.int .i64 x.kind, .int .i64 x.n, .int .i64 x.ref.at', .int .i64 x.ref.attr, v]] w (fun e w' => e = .returned (.bool (valid al r x)) ∧ Below w.heap.size w w') := by
  intro m
  induction m with
  | zero => intro x v w hm; have := x.size_pos; omega
  | succ m ih =>
  intro x v w hm hA hR hv
  obtain ⟨a, cap, rfl, hc1, hc2⟩ := hv.form
  have hc3 := hc2
  unfold maxLen at hc3
  rw [List.length_map] at hc1 hv ⊢
  obtain ⟨w0, HW0⟩ := nameIt (((w.alloc (.cells #[.slice aa al.length ca, .slice ae ne ce] 28)).alloc (.cells #[.int .i64 r.left, .slice ar r.right.length cr] 81)).alloc (.cells #[.int .i64 x.kind, .int .i64 x.n, .int .i64 x.ref.at', .int .i64 x.ref.attr, .slice a x.args.length cap] 86))
  have HB0 : Hid (Below w.heap.size w w0) := by rw [← HW0.out]; exact (((Below.refl _ _).alloc (Nat.le_refl _) _).alloc (by simp) _).alloc (by simp; omega) _
  have X1 : Hid (w0.heap[w.heap.size]? = some (.cells #[.slice aa al.length ca, .slice ae ne ce] 28 (0, 0))) := by
    rw [← HW0.out]; exact bx_keep (bx_keep (bx_new _ _ _ rfl) ((Below.refl _ _).alloc (Nat.le_refl _) _)) ((Below.refl _ _).alloc (Nat.le_refl _) _)
  have X2 : Hid (w0.heap[w.heap.size + 1]? = some (.cells #[.int .i64 r.left, .slice ar r.right.length cr] 81 (0, 0))) := by
    rw [← HW0.out]; exact bx_keep (bx_new _ _ _ (by simp)) ((Below.refl _ _).alloc (Nat.le_refl _) _)
  have X3 : Hid (w0.heap[w.heap.size + 1 + 1]? = some (.cells #[.int .i64 x.kind, .int .i64 x.n, .int .i64 x.ref.at', .int .i64 x.ref.attr, .slice a x.args.length cap] 86 (0, 0))) := by
    rw [← HW0.out]; exact bx_new _ _ _ (by simp)
  have HTE := Lib.hid (fun W (hb : Below w0.heap.size w0 W) => thereE al r x.ref aa ae ar ca ne ce cr W ((hA.below HB0.out).below hb) ((hR.below HB0.out).below hb))
  have HPR : Hid (∀ W, Below w0.heap.size w0 W → PredExpr 119 #[.pointer (some ⟨w.heap.size, 0, none⟩), .pointer (some ⟨w.heap.size + 1, 0, none⟩)] x.args (fun y => !valid al r y) W) := by
    intro W hb W1 y vy hy hb1 hry
    have hym : y.size ≤ m := by
      obtain ⟨i, hi, rfl⟩ := List.getElem_of_mem hy
      have := sizeL_kid hi
      rw [Expr.size_eq] at hm
      omega
    have hbb := hb.trans (hb1.mono hb.size)
    obtain ⟨ay, cy, rfl, -, -⟩ := hry.form
    rw [List.length_map] at hry ⊢
    obtain ⟨w2, HW2⟩ := nameIt (W1.alloc (.cells #[.int .i64 y.kind, .int .i64 y.n, .int .i64 y.ref.at', .int .i64 y.ref.attr, .slice ay y.args.length cy] 86))
    have HB2 : Hid (Below W1.heap.size W1 w2) := by rw [← HW2.out]; exact (Below.refl _ _).alloc (Nat.le_refl _) _
    have Y : Hid (w2.heap[W1.heap.size]? = some (.cells #[.int .i64 y.kind, .int .i64 y.n, .int .i64 y.ref.at', .int .i64 y.ref.attr, .slice ay y.args.length cy] 86 (0, 0))) := by rw [← HW2.out]; exact bx_new _ _ _ rfl
    have Y1 := bx_keep (bx_keep X1.out hbb) HB2.out
    have Y2 := bx_keep (bx_keep X2.out hbb) HB2.out
    have hih := ih y _ w2 hym (((hA.below HB0.out).below hbb).below HB2.out) (((hR.below HB0.out).below hbb).below HB2.out) (hry.below HB2.out)
    have HIH := Lib.hid hih
    obtain ⟨y0, y1, y2, y3, y4⟩ := bx_cells5 Y.out
    obtain ⟨s0, s1⟩ := bx_cells2 Y1
    obtain ⟨r0, r1⟩ := bx_cells2 Y2
    obtain ⟨p0, HP0⟩ := nameIt y.kind
    obtain ⟨p1, HP1⟩ := nameIt y.n
    obtain ⟨p2, HP2⟩ := nameIt y.ref.at'
    obtain ⟨p3, HP3⟩ := nameIt y.ref.attr
    obtain ⟨pn, HPN⟩ := nameIt y.args.length
    obtain ⟨rl, HRL⟩ := nameIt r.left
    obtain ⟨rn, HRN⟩ := nameIt r.right.length
    obtain ⟨an, HAN⟩ := nameIt al.length
    obtain ⟨vv, HVV⟩ := nameIt (valid al r y)
    rw [HP0.out, HP1.out, HP2.out, HP3.out, HPN.out] at HW2 HIH
    rw [HRL.out, HRN.out, HAN.out, HVV.out] at HIH
    rw [HP0.out] at y0
    rw [HP1.out] at y1
    rw [HP2.out] at y2
    rw [HP3.out] at y3
    rw [HPN.out] at y4
    rw [HRL.out] at r0
    rw [HRN.out] at r1
    rw [HAN.out] at s0
    rw [HP0.out, HP1.out, HP2.out, HP3.out, HPN.out]
    show Calls Tryz.prog 119 #[.agg #[.int .i64 p0, .int .i64 p1, .int .i64 p2, .int .i64 p3, .slice ay pn cy], .pointer (some ⟨w.heap.size, 0, none⟩), .pointer (some ⟨w.heap.size + 1, 0, none⟩)] W1 (fun e w' => e = .returned (.bool (!valid al r y)) ∧ Below W1.heap.size W1 w')
    rw [HVV.out]
    clear hih hry hbb hb hb1 hA hR hv Y1 Y2 Y X1 X2 X3
    go_enter Tryz.func119, Tryz.ntmps119
    go_upto_region 1 with fail
    rw [HW2.out]
    go_wp2_with fail
    refine HIH.out.mono ?_
    rintro e w3 ⟨rfl, hb3⟩
    have HB3 := Lib.hid hb3
    clear hb3
    go_wp2_with fail
    go_ret
    exact ⟨rfl, HB2.out.trans (HB3.out.mono HB2.out.size)⟩
  have HCF := Lib.hid (fun W (hb : Below w0.heap.size w0 W) => containsFuncExpr 119 #[.pointer (some ⟨w.heap.size, 0, none⟩), .pointer (some ⟨w.heap.size + 1, 0, none⟩)] (fun y => !valid al r y) a cap x.args W (fun _ _ => by kernel_rfl) (HPR.out W hb) ((hv.below HB0.out).below hb))
  obtain ⟨lf, HLF⟩ := nameIt r.left
  obtain ⟨rn, HRN⟩ := nameIt r.right.length
  obtain ⟨an, HAN⟩ := nameIt al.length
  obtain ⟨p0, HP0⟩ := nameIt x.kind
  obtain ⟨p1, HP1⟩ := nameIt x.n
  obtain ⟨p2, HP2⟩ := nameIt x.ref.at'
  obtain ⟨p3, HP3⟩ := nameIt x.ref.attr
  obtain ⟨pn, HPN⟩ := nameIt x.args.length
  obtain ⟨b8, H8⟩ := nameIt (okArgs p0 pn)
  obtain ⟨b9, H9⟩ := nameIt (okN p0 p1)
  obtain ⟨th, HTH⟩ := nameIt (there al r x.ref)
  obtain ⟨al', HALL⟩ := nameIt (x.args.any fun y => !valid al r y)
  have HREF : Hid (decide (x.ref = ⟨0, 0⟩) = (p2 == 0 && p3 == 0)) := by
    show _ = _
    rw [← HP2.out, ← HP3.out]
    cases x.ref with
    | mk u v => rw [Bool.eq_iff_iff]; simp
  have HFIN : Hid (valid al r x = (b8 && b9 && (if p0 = 1 then th else (p2 == 0 && p3 == 0)) && !al')) := by
    show _ = _
    rw [valid_eq, okNode_eq, all_not_any, HALL.out, HTH.out, HP0.out, HP1.out, HPN.out, H8.out, H9.out, HREF.out]
  rw [HLF.out, HRN.out, HAN.out, HP0.out, HP1.out, HP2.out, HP3.out, HPN.out] at HW0
  rw [HAN.out] at X1
  rw [HLF.out, HRN.out] at X2
  rw [HP0.out, HP1.out, HP2.out, HP3.out, HPN.out] at X3
  rw [HLF.out, HRN.out, HAN.out, HP2.out, HP3.out, HTH.out] at HTE
  rw [HPN.out, HALL.out] at HCF
  rw [HLF.out, HRN.out, HAN.out, HP0.out, HP1.out, HP2.out, HP3.out, HPN.out]
  rw [HPN.out] at hc1
  obtain ⟨x0, x1⟩ := bx_cells2 X1.out
  obtain ⟨y0, y1⟩ := bx_cells2 X2.out
  obtain ⟨z0, z1, z2, z3, z4⟩ := bx_cells5 X3.out
  clear hA hR hv ih hm
  go_enter Tryz.func96, Tryz.ntmps96
  go_upto_region 1 with fail
  rw [HW0.out]
  go_upto_block 0 with fail
  go_cut [8] (fun t8 wx => t8 = .bool b8 ∧ wx = w0)
  case first =>
    have HB8 := Lib.hid H8.out
    by_cases e0 : p0 = 0
    · subst e0
      obtain rfl : ((pn : Int) == 0) = b8 := by rw [← H8.out]; exact beq_cast pn 0
      go_wp2_with fail
      go_meet
      exact ⟨rfl, rfl⟩
    by_cases e1 : p0 = 1
    · subst e1
      obtain rfl : ((pn : Int) == 0) = b8 := by rw [← H8.out]; exact beq_cast pn 0
      go_wp2_with fail
      go_meet
      exact ⟨rfl, rfl⟩
    by_cases e2 : p0 = 2
    · subst e2
      obtain rfl : true = b8 := by rw [← H8.out]; simp [okArgs]
      go_wp2_with fail
      go_meet
      exact ⟨rfl, rfl⟩
    by_cases e3 : p0 = 3
    · subst e3
      obtain rfl : true = b8 := by rw [← H8.out]; simp [okArgs]
      go_wp2_with fail
      go_meet
      exact ⟨rfl, rfl⟩
    by_cases e4 : p0 = 4
    · subst e4
      obtain rfl : decide ((1 : Int) ≤ (pn : Int)) = b8 := by rw [← H8.out]; exact decide_eq_decide.2 (by omega)
      go_wp2_with fail
      go_meet
      exact ⟨rfl, rfl⟩
    by_cases e5 : p0 = 5
    · subst e5
      obtain rfl : ((pn : Int) == 2) = b8 := by rw [← H8.out]; exact beq_cast pn 2
      go_wp2_with fail
      go_meet
      exact ⟨rfl, rfl⟩
    by_cases e6 : p0 = 6
    · subst e6
      obtain rfl : ((pn : Int) == 3) = b8 := by rw [← H8.out]; exact beq_cast pn 3
      go_wp2_with fail
      go_meet
      exact ⟨rfl, rfl⟩
    · obtain rfl : false = b8 := by rw [← H8.out]; unfold okArgs; rw [if_neg (by omega), if_neg (by omega), if_neg e4, if_neg e5, if_neg e6]
      have f0 : (p0 == 0) = false := by simpa using e0
      have f1 : (p0 == 1) = false := by simpa using e1
      have f2 : (p0 == 2) = false := by simpa using e2
      have f3 : (p0 == 3) = false := by simpa using e3
      have f4 : (p0 == 4) = false := by simpa using e4
      have f5 : (p0 == 5) = false := by simpa using e5
      have f6 : (p0 == 6) = false := by simpa using e6
      clear e0 e1 e2 e3 e4 e5 e6
      go_wp2_with fail
      go_meet
      exact ⟨rfl, rfl⟩
  case rest =>
    obtain ⟨rfl, rfl⟩ := hcut
    obtain ⟨w0, rfl⟩ : ∃ ww : World, ww = wc := ⟨_, rfl⟩
    obtain ⟨b89, HB89⟩ := nameIt (b8 && b9)
    rw [HB89.out] at HFIN
    go_upto_if 36 with fail
    go_cut [8] (fun t8 wx => t8 = .bool b89 ∧ wx = w0)
    case first =>
      by_cases e0 : p0 = 0
      · subst e0
        have h9 : decide (0 ≤ p1 ∧ p1 < 1000003) = b9 := H9.out
        cases b8 with
        | false =>
          obtain rfl : false = b89 := HB89.out
          go_wp2_with fail
          go_meet
          exact ⟨rfl, rfl⟩
        | true =>
          by_cases h1 : 0 ≤ p1
          · have h1' : decide (0 ≤ p1) = true := by simpa using h1
            obtain rfl : decide (p1 < 1000003) = b89 := by rw [← HB89.out, ← h9, Bool.true_and]; exact decide_eq_decide.2 (by omega)
            clear h1 h9
            go_wp2_with fail
            go_meet
            exact ⟨rfl, rfl⟩
          · have h1' : decide (0 ≤ p1) = false := by simpa using h1
            obtain rfl : false = b89 := by rw [← HB89.out, ← h9, Bool.true_and]; exact (decide_eq_false (by omega)).symm
            clear h1 h9
            go_wp2_with fail
            go_meet
            exact ⟨rfl, rfl⟩
      · have f0 : (p0 == 0) = false := by simpa using e0
        have h9 : decide (p1 = 0) = b9 := by have h := H9.out; unfold okN at h; rw [if_neg e0] at h; exact h
        cases b8 with
        | false =>
          obtain rfl : false = b89 := HB89.out
          clear e0 h9
          go_wp2_with fail
          go_meet
          exact ⟨rfl, rfl⟩
        | true =>
          obtain rfl : (p1 == 0) = b89 := by rw [← HB89.out, ← h9, Bool.true_and]; rfl
          clear e0 h9
          go_wp2_with fail
          go_meet
          exact ⟨rfl, rfl⟩
    case rest =>
      obtain ⟨rfl, rfl⟩ := hcut
      obtain ⟨w0, rfl⟩ : ∃ ww : World, ww = wc := ⟨_, rfl⟩
      obtain ⟨bb, HBB⟩ := nameIt (b89 && (if p0 = 1 then th else (p2 == 0 && p3 == 0)))
      rw [HBB.out] at HFIN
      go_upto_if 56 with fail
      go_cut [8] (fun t8 wx => t8 = .bool bb ∧ Hid (Below w0.heap.size w0 wx))
      case first =>
        by_cases e1 : p0 = 1
        · subst e1
          have hbb : (b89 && th) = bb := HBB.out
          cases b89 with
          | false =>
            obtain rfl : false = bb := hbb
            go_wp2_with fail
            go_meet
            exact ⟨rfl, Below.refl _ _⟩
          | true =>
            obtain rfl : th = bb := by simpa using hbb
            clear hbb
            go_wp2_with fail
            refine (HTE.out _ (Below.refl _ _)).mono ?_
            rintro e w7 ⟨rfl, hb7⟩
            have HB7 := Lib.hid hb7
            clear hb7
            go_wp2_with fail
            go_meet
            exact ⟨rfl, HB7⟩
        · have f1 : (p0 == 1) = false := by simpa using e1
          have hbb : (b89 && (p2 == 0 && p3 == 0)) = bb := by have h := HBB.out; rw [if_neg e1] at h; exact h
          cases b89 with
          | false =>
            obtain rfl : false = bb := hbb
            clear e1
            go_wp2_with fail
            go_meet
            exact ⟨rfl, Below.refl _ _⟩
          | true =>
            by_cases g2 : p2 = 0
            · subst g2
              by_cases g3 : p3 = 0
              · subst g3
                obtain rfl : true = bb := hbb
                clear e1
                go_wp2_with fail
                go_meet
                exact ⟨rfl, Below.refl _ _⟩
              · have g3' : (p3 == 0) = false := by simpa using g3
                obtain rfl : false = bb := by rw [← hbb, g3']; rfl
                clear e1 hbb
                go_wp2_with fail
                go_meet
                exact ⟨rfl, Below.refl _ _⟩
            · have g2' : (p2 == 0) = false := by simpa using g2
              obtain rfl : false = bb := by rw [← hbb, g2']; rfl
              clear e1 hbb
              go_wp2_with fail
              go_meet
              exact ⟨rfl, Below.refl _ _⟩
      case rest =>
        obtain ⟨rfl, HB7⟩ := hcut
        obtain ⟨w7, rfl⟩ : ∃ ww : World, ww = wc := ⟨_, rfl⟩
        have hb7 : Below w0.heap.size w0 w7 := HB7.out
        obtain ⟨k0, k1, k2, k3, k4⟩ := bx_cells5 (bx_keep X3.out hb7)
        clear x0 x1 y0 y1 z0 z1 z2 z3 z4 hb7
        cases bb with
        | false =>
          have HE : Hid (valid al r x = false) := by show _ = _; rw [HFIN.out]; rfl
          go_wp2_with fail
          go_ret
          exact ⟨by rw [HE.out]; rfl, HB0.out.trans (HB7.out.mono HB0.out.size)⟩
        | true =>
          have HE : Hid (valid al r x = !al') := by show _ = _; rw [HFIN.out]; rfl
          go_wp2_with fail
          refine (HCF.out _ HB7.out).mono ?_
          rintro e w8 ⟨rfl, hb8⟩
          have HB8 := Lib.hid hb8
          clear hb8
          go_wp2_with fail
          go_ret
          exact ⟨by rw [HE.out]; rfl, HB0.out.trans ((HB7.out.trans (HB8.out.mono HB7.out.size)).mono HB0.out.size)⟩
end At
end Go.Proofs.YtfocooehnmpndaaGreat
namespace Go.Proofs.YtfocooehnmpndaaGreat
open Go.RowKit
theorem made_atV (z : Value) (n j : Nat) (h : j < n) : (madeCells #[z] n)[j]? = some z := by
  simp [madeCells, h, Nat.mod_one]
def Vrow (e : TypeId) (g m : Nat) (A : Nat → Value) (wr : World) : Prop := ∃ cs, wr.heap[g]? = some (.cells cs e (0, 0)) ∧ cs.size = m ∧ ∀ k, k < m → cs[k]? = some (A k)
section
variable {e : TypeId} {g m : Nat} {A A' : Nat → Value} {wr w' : World}
theorem Vrow.lt (h : Vrow e g m A wr) : g < wr.heap.size := by obtain ⟨cs, h1, _⟩ := h; exact (Array.getElem?_eq_some_iff.1 h1).1
theorem Vrow.keep (h : Vrow e g m A wr) (hb : Below wr.heap.size wr w') : Vrow e g m A w' := by obtain ⟨cs, h1, h2⟩ := h; exact ⟨cs, bx_keep h1 hb, h2⟩
theorem Vrow.grown {row : Option Nat} (h : Vrow e g m A wr) (hg : wr.grownBy w' row) (hr : row ≠ some g) : Vrow e g m A w' := by obtain ⟨cs, h1, h2⟩ := h; exact ⟨cs, (hg.block g (Array.getElem?_eq_some_iff.1 h1).1 (fun e => hr e.symm)).trans h1, h2⟩
theorem Vrow.cell (h : Vrow e g m A wr) {k : Nat} (hk : k < m) : wr.cell? ⟨g, k, none⟩ = some (A k) := by obtain ⟨cs, h1, h2, h3⟩ := h; simp [World.cell?, h1, h3 k hk]
theorem Vrow.free (h : Vrow e g m A wr) (k : Nat) : wr.frozen? ⟨g, k, none⟩ = false := by obtain ⟨cs, h1, h2, h3⟩ := h; simp [World.frozen?, h1]
theorem Vrow.eq (h : Vrow e g m A wr) (he : ∀ k, k < m → A k = A' k) : Vrow e g m A' wr := by obtain ⟨cs, h1, h2, h3⟩ := h; exact ⟨cs, h1, h2, fun k hk => by rw [h3 k hk, he k hk]⟩
theorem Vrow.set (h : Vrow e g m A wr) {j : Nat} {x : Value} (hj : j < m) (he : ∀ k, k < m → A' k = if k = j then x else A k) : Vrow e g m A' (wr.setCell ⟨g, j, none⟩ x) := by
  obtain ⟨cs, h1, h2, h3⟩ := h
  refine ⟨cs.setIfInBounds j x, bx_set h1 _ _, by simpa using h2, fun k hk => ?_⟩
  rw [Array.getElem?_setIfInBounds, he k hk]
  by_cases e : j = k
  · subst e; rw [if_pos rfl, if_pos (by omega)]; simp
  · rw [if_neg e, h3 k hk, if_neg (fun h => e h.symm)]
theorem Vrow.other (h : Vrow e g m A wr) {b : Nat} (hne : g ≠ b) (j : Nat) (v : Value) : Vrow e g m A (wr.setCell ⟨b, j, none⟩ v) := by obtain ⟨cs, h1, h2⟩ := h; exact ⟨cs, bx_other h1 hne _ _, h2⟩
theorem vrow_new (w : World) (e : TypeId) (z : Value) (m : Nat) {g : Nat} (hg : g = w.heap.size) : Vrow e g m (fun _ => z) (w.alloc (.cells (madeCells #[z] m) e)) := by
  subst hg
  exact ⟨_, bx_new _ _ _ rfl, size_madeCells _ _, fun k hk => made_atV _ _ _ hk⟩
end
end Go.Proofs.YtfocooehnmpndaaGreat
namespace Go.Proofs.YtfocooehnmpndaaGreat
open Go.RowKit
namespace At
theorem cntA_step {al : List Attr} {i : Nat} (h : i < al.length) (n : Int) : cntA (al.take (i + 1)) n = if n = al[i].non then cntA (al.take i) n + 1 else cntA (al.take i) n := by
  unfold cntA
  rw [List.take_succ_eq_append_getElem h, List.filter_append, List.length_append]
  by_cases e : n = al[i].non
  · rw [if_pos e]; simp [e]
  · rw [if_neg e]; simp [show ¬ al[i].non = n from fun h => e h.symm]
theorem cntA_le (al : List Attr) (i : Nat) (n : Int) : cntA (al.take i) n ≤ i := by
  unfold cntA
  have h1 := List.length_filter_le (fun a : Attr => decide (a.non = n)) (al.take i)
  have h2 := List.length_take_le i al
  omega
structure AtI (w : World) (bc N : Nat) (G S : Array Value) (al : List Attr) (i : Nat) (wr : World) : Prop where
  row : Vrow 3 bc N (fun k => .int .i64 (cntA (al.take i) (k : Int) : Nat)) wr
  b1 : wr.heap[w.heap.size]? = some (.cells G 24 (0, 0))
  b2 : wr.heap[w.heap.size + 1]? = some (.cells S 28 (0, 0))
  bel : Below w.heap.size w wr
theorem AtI.keep {w : World} {bc N : Nat} {G S : Array Value} {al : List Attr} {i : Nat} {wr w' : World} (h : AtI w bc N G S al i wr) (hb : Below wr.heap.size wr w') : AtI w bc N G S al i w' := ⟨h.row.keep hb, bx_keep h.b1 hb, bx_keep h.b2 hb, h.bel.trans (hb.mono h.bel.size)⟩
theorem AtI.step {w : World} {bc N : Nat} {G S : Array Value} {al : List Attr} {i : Nat} {wr : World} (h : AtI w bc N G S al i wr) (hbc : bc = w.heap.size + 1 + 1) (hi : i < al.length) {k : Nat} (hk : k < N) (hn : al[i].non = (k : Int)) {z : Int} (hz : z = (cntA (al.take i) (k : Int) : Nat) + 1) :
    AtI w bc N G S al (i + 1) (wr.setCell ⟨bc, k, none⟩ (.int .i64 z)) := by
  subst hz
  refine ⟨h.row.set hk (fun j _ => ?_), bx_other h.b1 (by omega) _ _, bx_other h.b2 (by omega) _ _, h.bel.setCell (by show w.heap.size ≤ bc; omega) _⟩
  rw [cntA_step hi, hn]
  by_cases e : j = k
  · subst e; simp
  · rw [if_neg (by omega), if_neg e]
set_option maxHeartbeats 4000000 in
set_option maxRecDepth 100000 in
theorem attrsE (g : Gram) (al : List Attr) (hg : 1 ≤ g.nons ∧ g.nons ≤ 10) (ar aa ae : Option Addr) (nr cr ca ne ce : Nat) (w : World) (hA : Rd AnyB w (.sl (al.map Attr.d)) [.slice aa al.length ca]) :
    Calls Tryz.prog 93 #[.agg #[.int .i64 g.terms, .int .i64 g.nons, .int .i64 g.start, .slice ar nr cr], .agg #[.slice aa al.length ca, .slice ae ne ce]] w (fun e w' => e = .returned (.int .i64 (attrsErr g al)) ∧ Below w.heap.size w w') := by
  have ha1 := hA.bounds.2
  unfold maxLen at ha1
  obtain ⟨ha1, ha2⟩ := ha1
  obtain ⟨hg1, hg2⟩ := hg
  obtain ⟨N, hN⟩ : ∃ N : Nat, g.nons = (N : Int) := ⟨g.nons.toNat, by omega⟩
  have hN1 : 1 ≤ N := by omega
  have hN2 : N ≤ 10 := by omega
  obtain ⟨w0, HW0⟩ := nameIt ((w.alloc (.cells #[.int .i64 g.terms, .int .i64 g.nons, .int .i64 g.start, .slice ar nr cr] 24)).alloc (.cells #[.slice aa al.length ca, .slice ae ne ce] 28))
  have HB0 : Hid (Below w.heap.size w w0) := by rw [← HW0.out]; exact ((Below.refl _ _).alloc (Nat.le_refl _) _).alloc (by simp) _
  have hs0 : w0.heap.size = w.heap.size + 1 + 1 := by rw [← HW0.out]; simp
  obtain ⟨w1, HW1⟩ := nameIt (w0.alloc (.cells (madeCells #[.int .i64 0] N) 3))
  have hb1 : Below w0.heap.size w0 w1 := by rw [← HW1.out]; exact (Below.refl _ _).alloc (Nat.le_refl _) _
  have hx1 : w0.heap[w.heap.size]? = some (.cells #[.int .i64 g.terms, .int .i64 g.nons, .int .i64 g.start, .slice ar nr cr] 24 (0, 0)) := by
    rw [← HW0.out]; exact bx_keep (bx_new _ _ _ rfl) ((Below.refl _ _).alloc (Nat.le_refl _) _)
  have hx2 : w0.heap[w.heap.size + 1]? = some (.cells #[.slice aa al.length ca, .slice ae ne ce] 28 (0, 0)) := by
    rw [← HW0.out]; exact bx_new _ _ _ (by simp)
  obtain ⟨bc, HBC⟩ : ∃ bc : Nat, Hid (w.heap.size + 1 + 1 = bc) := ⟨_, rfl⟩
  have hbc := HBC.out
  have HI0 : Hid (AtI w bc N #[.int .i64 g.terms, .int .i64 g.nons, .int .i64 g.start, .slice ar nr cr] #[.slice aa al.length ca, .slice ae ne ce] al 0 w1) := by
    refine ⟨?_, bx_keep hx1 hb1, bx_keep hx2 hb1, HB0.out.trans (hb1.mono HB0.out.size)⟩
    rw [← HW1.out]
    exact (vrow_new w0 3 (.int .i64 0) N (by omega)).eq (fun k _ => by simp [cntA])
  have HA := Lib.hid hA
  have hmk : ∀ W : World, (Instr.makeSlice 40 (.int .i64 (N : Int)) (.int .i64 (N : Int))).run Tryz.prog W = .ok (.slice (some ⟨W.heap.size, 0, none⟩) N N) (W.alloc (.cells (madeCells #[.int .i64 0] N) 3)) := fun W => by
    have := run_make_row' (P := Tryz.prog) 40 3 (.int .i64 0) 8 Tryz.underlying40 (by kernel_rfl) rfl .i64 .i64 N (by omega) (by omega) W
    simpa using this
  have HER : Hid (attrsErr g al = attrsFrom g al 0 (al.drop 0)) := rfl
  obtain ⟨er, HERR⟩ := nameIt (attrsErr g al)
  have HAT := Lib.hid (fun (i : Nat) (h : i < al.length) => @attrsFrom_at g al i h)
  obtain ⟨st, HST⟩ := nameIt g.start
  have HBAD := Lib.hid (fun (i : Nat) (h : i < al.length) => show attrErr g al i al[i] = if al[i].non < 0 ∨ (N : Int) ≤ al[i].non then 1 else if al[i].inh ∧ al[i].non = st then 3 else if 3 < cntA (al.take (i + 1)) al[i].non then 2 else 0 by unfold attrErr; rw [hN, HST.out])
  rw [HERR.out] at HER
  rw [HERR.out]
  rw [HST.out, hN] at HW0 HI0 ⊢
  obtain ⟨tm, HTM⟩ := nameIt g.terms
  rw [HTM.out] at HW0 HI0 ⊢
  obtain ⟨n, HNN⟩ := nameIt al.length
  obtain ⟨x0, x1, x2, x3⟩ := bx_cells4 (hx1)
  obtain ⟨y0, y1⟩ := bx_cells2 (hx2)
  rw [hN] at x1
  rw [HST.out] at x2
  rw [HTM.out] at x0
  rw [HNN.out] at y0 HW0 HI0 ha1 HA ⊢
  have HNN' := HNN
  clear hA hx1 hx2 hb1 hbc
  go_enter Tryz.func93, Tryz.ntmps93
  go_upto_region 1 with fail
  rw [HW0.out]
  go_upto_region 2 with fail
  rw [HW1.out]
  rw [HBC.out]
  obtain ⟨k0, k1, k2, k3⟩ := bx_cells4 HI0.out.b1
  obtain ⟨l0, l1⟩ := bx_cells2 HI0.out.b2
  clear x0 x1 x2 x3 y0 y1 hmk
  go_wp2_with fail
  clear k0 k1 k2 k3 l0 l1
  go_loopg [14] n (fun gg v14 wr => ∃ i : Nat, i ≤ n ∧ n - i ≤ gg ∧ v14 = .int .i64 i ∧ Hid (er = attrsFrom g al i (al.drop i)) ∧ Hid (AtI w bc N #[.int .i64 tm, .int .i64 N, .int .i64 st, .slice ar nr cr] #[.slice aa n ca, .slice ae ne ce] al i wr))
  case atStart => exact ⟨0, by omega, by omega, rfl, HER, HI0⟩
  case round =>
    clear HI0 HER
    obtain ⟨i, hi, hg, rfl, HER, HI⟩ := hrel
    by_cases hlt : i < n
    · have hlt' : (i : Int) < (n : Int) := by omega
      have hlt2 : i < al.length := by rw [HNN.out]; exact hlt
      obtain ⟨b, off, hae, -, hbl, c0, c1⟩ := Rd.attr_at (HA.out.below HI.out.bel) hlt2
      have HBI := Lib.hid (HBAD.out i hlt2)
      have HATI := Lib.hid (HAT.out i hlt2)
      have HSTEP := Lib.hid (fun (W : World) (h : AtI w bc N #[.int .i64 tm, .int .i64 N, .int .i64 st, .slice ar nr cr] #[.slice aa n ca, .slice ae ne ce] al i W) (k : Nat) (hk : k < N) (hn : al[i].non = (k : Int)) (z : Int) (hz : z = (cntA (al.take i) (k : Int) : Nat) + 1) => h.step HBC.out.symm hlt2 hk hn hz)
      have HCS := Lib.hid (cntA_step hlt2 al[i].non)
      have HCL := Lib.hid (cntA_le al i al[i].non)
      rw [if_pos rfl] at HCS
      obtain ⟨ai, HAI⟩ := nameIt (al[i]'hlt2)
      rw [HAI.out] at c0 c1 HBI HATI HSTEP HCS HCL
      obtain ⟨non, HNON⟩ := nameIt ai.non
      obtain ⟨inh, HINH⟩ := nameIt ai.inh
      rw [HNON.out] at c0 HBI HSTEP HCS HCL
      rw [HINH.out] at c1 HBI
      obtain ⟨ct, HCT⟩ := nameIt (cntA (al.take i) non)
      rw [HCT.out] at HCS HCL
      rw [HCS.out] at HBI
      have hctl := HCL.out
      obtain ⟨w2, HW2⟩ := nameIt (wr.alloc (.cells #[.int .i64 non, .bool inh] 88))
      have hb2 : Below wr.heap.size wr w2 := by rw [← HW2.out]; exact (Below.refl _ _).alloc (Nat.le_refl _) _
      have X3 : Hid (w2.heap[wr.heap.size]? = some (.cells #[.int .i64 non, .bool inh] 88 (0, 0))) := by rw [← HW2.out]; exact bx_new _ _ _ rfl
      have HI2 := Lib.hid (HI.out.keep hb2)
      have hbcl := HI.out.row.lt
      obtain ⟨k0, k1, k2, k3⟩ := bx_cells4 HI2.out.b1
      obtain ⟨l0, l1⟩ := bx_cells2 HI2.out.b2
      obtain ⟨z0, z1⟩ := bx_cells2 X3.out
      have HRET : Hid (∀ z, z ≠ 0 → attrErr g al i ai = z → er = z) := by
        intro z hz h
        rw [HER.out, HATI.out, h, if_pos hz]
      have HNEXT : Hid (attrErr g al i ai = 0 → er = attrsFrom g al (i + 1) (al.drop (i + 1))) := by
        intro h
        rw [HER.out, HATI.out, h, if_neg (by simp)]
      subst hae
      clear hb2
      go_upto_region 5 with fail
      rw [HW2.out]
      clear c0 c1
      by_cases h1 : non < 0
      · have h1' : decide (non < 0) = true := by simpa using h1
        have HE : Hid (er = 1) := HRET.out 1 (by decide) (by rw [HBI.out, if_pos (.inl h1)])
        clear h1
        go_wp2_with fail
        go_ret
        exact ⟨by rw [HE.out]; rfl, HI2.out.bel⟩
      · have h1' : decide (non < 0) = false := by simpa using h1
        obtain ⟨k, hk⟩ : ∃ k : Nat, non = (k : Int) := ⟨non.toNat, by omega⟩
        subst hk
        by_cases h2 : N ≤ k
        · have h2' : decide ((N : Int) ≤ (k : Int)) = true := by simpa using h2
          have HE : Hid (er = 1) := HRET.out 1 (by decide) (by rw [HBI.out, if_pos (.inr (by omega))])
          clear h1
          go_wp2_with fail
          go_ret
          exact ⟨by rw [HE.out]; rfl, HI2.out.bel⟩
        · have h2' : decide ((N : Int) ≤ (k : Int)) = false := by simp; omega
          have hkN : k < N := by omega
          have hkN' : (k : Int) < (N : Int) := by omega
          have hk0 : (0 : Int) ≤ (k : Int) := by omega
          have HBJ : Hid (attrErr g al i ai = if inh ∧ (k : Int) = st then 3 else if 3 < ct + 1 then 2 else 0) := by
            show _ = _
            rw [HBI.out, if_neg (by omega)]
          by_cases h3 : inh = true ∧ (k : Int) = st
          · have HE : Hid (er = 3) := HRET.out 3 (by decide) (by rw [HBJ.out, if_pos h3])
            obtain ⟨h3, h4⟩ := h3
            subst h3 h4
            clear h1
            go_wp2_with fail
            go_ret
            exact ⟨by rw [HE.out]; rfl, HI2.out.bel⟩
          · have HBK : Hid (attrErr g al i ai = if 3 < ct + 1 then 2 else 0) := by
              show _ = _
              rw [HBJ.out, if_neg h3]
            have hgo : ∀ (Q : Prop), Q → Q := fun _ h => h
            have c2 := HI2.out.row.cell hkN
            have c3 := HI2.out.row.free k
            rw [HCT.out] at c2
            have HI3 := Lib.hid (HSTEP.out _ HI2.out k hkN rfl ((ct : Int) + 1) (by rw [HCT.out]))
            obtain ⟨w3, HW3⟩ := nameIt (w2.setCell ⟨bc, k, none⟩ (.int .i64 ((ct : Int) + 1)))
            rw [HW3.out] at HI3
            have X4 : Hid (w3.heap[wr.heap.size]? = some (.cells #[.int .i64 (k : Int), .bool inh] 88 (0, 0))) := by rw [← HW3.out]; exact bx_other X3.out (by have := HBC.out; omega) _ _
            have c4 : w3.cell? ⟨bc, k, none⟩ = some (.int .i64 ((ct : Int) + 1)) := by
              have h := HI3.out.row.cell hkN
              rw [h]
              have h5 := HCS.out
              rw [h5]
              rfl
            obtain ⟨m0, m1⟩ := bx_cells2 X4.out
            have HX4 := HBK
            cases inh with
            | false =>
              clear h3
              go_upto_region 10 with fail
              rw [HW3.out]
              clear z0 z1 k0 k1 k2 k3 l0 l1 c2 c3
              by_cases h5 : 3 < ct + 1
              · have h5' : (3 : Int) < (ct : Int) + 1 := by omega
                have HE : Hid (er = 2) := HRET.out 2 (by decide) (by rw [HBK.out, if_pos h5])
                go_wp2_with fail
                go_ret
                exact ⟨by rw [HE.out]; rfl, HI3.out.bel⟩
              · have h5' : ¬ (3 : Int) < (ct : Int) + 1 := by omega
                have HE := Lib.hid (HNEXT.out (by rw [HBK.out, if_neg h5]))
                go_wp2_with fail
                go_roundg (n - (i + 1))
                case measure => omega
                case rel => exact ⟨i + 1, by omega, by omega, by go_num, HE, HI3⟩
            | true =>
              have h3' : ((k : Int) == st) = false := by simpa using h3
              clear h3
              go_upto_region 10 with fail
              rw [HW3.out]
              clear z0 z1 k0 k1 k2 k3 l0 l1 c2 c3
              by_cases h5 : 3 < ct + 1
              · have h5' : (3 : Int) < (ct : Int) + 1 := by omega
                have HE : Hid (er = 2) := HRET.out 2 (by decide) (by rw [HBK.out, if_pos h5])
                go_wp2_with fail
                go_ret
                exact ⟨by rw [HE.out]; rfl, HI3.out.bel⟩
              · have h5' : ¬ (3 : Int) < (ct : Int) + 1 := by omega
                have HE := Lib.hid (HNEXT.out (by rw [HBK.out, if_neg h5]))
                go_wp2_with fail
                go_roundg (n - (i + 1))
                case measure => omega
                case rel => exact ⟨i + 1, by omega, by omega, by go_num, HE, HI3⟩
    · have hlt' : ¬ (i : Int) < (n : Int) := by omega
      have HE : Hid (er = 0) := by
        show _ = _
        rw [HER.out, List.drop_of_length_le (by rw [HNN.out]; omega)]
        rfl
      go_wp2_with fail
      go_ret
      exact ⟨by rw [HE.out]; rfl, HI.out.bel⟩
end At
end Go.Proofs.YtfocooehnmpndaaGreat
namespace Go.Proofs.YtfocooehnmpndaaGreat
open Go.RowKit
def SetM (P : Program) (k e : TypeId) (b c : Nat) (S : Lit → Bool) (w : World) : Prop :=
  ∃ D : DataW Unit, w.ownsMap P k (plainElem P e) b c D ∧ ∀ (key : Value) (l : Lit), keyOf P k key = some l → D.atKey l (.lit (.bool false)) = .lit (.bool (S l))
section
variable {P : Program} {k e t : TypeId} {b c : Nat} {S : Lit → Bool} {w w' : World}
theorem SetM.kept {row : Option Nat} (h : SetM P k e b c S w) (hg : w.grownBy w' row) (hne : some b ≠ row) : SetM P k e b c S w' := by
  obtain ⟨D, h1, h2⟩ := h
  exact ⟨D, h1.kept hg hne, h2⟩
theorem SetM.keep (h : SetM P k e b c S w) (hb : Below w.heap.size w w') : SetM P k e b c S w' := h.kept (grown_below hb none) (by simp)
theorem SetM.lt (h : SetM P k e b c S w) : b < w.heap.size := by obtain ⟨D, h1, h2⟩ := h; exact h1.lt
theorem SetM.start (P : Program) (k e : TypeId) (w : World) {b : Nat} (hb : b = w.heap.size) {S : Lit → Bool} (hS : ∀ l, S l = false) : SetM P k e b 0 S (w.alloc (.map #[] 0)) := by
  subst hb
  exact ⟨.map [], World.ownsMap_made w _ _ _, fun _ l _ => by simp [DataW.atKey, hS l]⟩
theorem plainElem_bool_inv (he : P.underlying e = some .bool) {v : Value} {z : DataW Unit × List MemPlace} (h : plainElem P e v = some z) : ∃ x, v = .bool x ∧ z = (.lit (.bool x), []) := by
  unfold plainElem at h
  rw [he] at h
  split at h
  · rename_i x _
    cases h
    exact ⟨_, rfl, rfl⟩
  · rename_i h1; cases h1
  · rename_i h1; cases h1
  · cases h
theorem SetM.look (h : SetM P k e b c S w) (hK : Maps.Keyed P k) (ht : P.underlying t = some (.map k e)) (he : P.underlying e = some .bool) (hz : (zeroValue e).run P w = .ok (.bool false) w) {key : Value} {l : Lit} (hkey : keyOf P k key = some l) :
    (Instr.lookup t (.map (some b)) key false).run P w = .ok (.bool (S l)) w := by
  obtain ⟨D, h1, h2⟩ := h
  obtain ⟨v, ps, hrun, hv⟩ := h1.lookup hK ht hz (plainElem_bool he false) hkey
  rw [h2 key l hkey] at hv
  obtain ⟨x, rfl, hx⟩ := plainElem_bool_inv he hv
  simp at hx
  rw [hrun, ← hx.1]
theorem SetM.add (h : SetM P k e b c S w) (hK : Maps.Keyed P k) (ht : P.underlying t = some (.map k e)) (he : P.underlying e = some .bool) (hc : c < maxLen) {key : Value} {l : Lit} (hkey : keyOf P k key = some l) {S' : Lit → Bool} (hS : S' l = true) (hO : ∀ l', l' ≠ l → S' l' = S l') :
    ∃ w', (Instr.mapUpdate t (.map (some b)) key (.bool true)).run P w = .ok () w' ∧ SetM P k e b (c + 1) S' w' ∧ w.grownBy w' (some b) := by
  obtain ⟨D, h1, h2⟩ := h
  obtain ⟨w', hrun, ho, ht'⟩ := h1.store hK ht hc hkey (plainElem_bool he true)
  refine ⟨w', hrun, ⟨_, ho, fun key' l' hk' => ?_⟩, ht'.grown⟩
  by_cases el : l' = l
  · subst el
    rw [Go.Maps.atKey_put_same h1.isMap (hK.key hkey), hS]
  · rw [Go.Maps.atKey_put_other el, h2 key' l' hk', hO l' el]
end
end Go.Proofs.YtfocooehnmpndaaGreat
namespace Go.Proofs.YtfocooehnmpndaaGreat
open Go.RowKit Go.ChangeShapes Go.WideShapes Go.Deep
def OpensF {α : Type} (P : Program) (t : TypeId) (e : α → D) (sz : α → Nat) (ok lim : α → Prop) (N : Nat) : Prop :=
  ∀ (H : Type) (enc : TypeId × Value → H) (w : World) (n : Nat) (cs : List Value) (x : DataW H × List MemPlace), n ≤ N → DataW.trod enc P w 0 (fun _ => true) true n t cs = some x →
    ∃ a : α, Rd AnyB w (e a) cs ∧ sz a ≤ Rows.uptoBulk x.1 ∧ ok a ∧ ((∀ y ∈ DataW.weights P t x.1, y ≤ reachBytes) → lim a)
def Opens {α : Type} (P : Program) (t : TypeId) (e : α → D) (sz : α → Nat) (ok lim : α → Prop) : Prop := ∀ N, OpensF P t e sz ok lim N
def i64 (n : Int) : Prop := -9223372036854775808 ≤ n ∧ n ≤ 9223372036854775807
def one {α : Type} (_ : α) : Nat := 1
def any {α : Type} (_ : α) : Prop := True
theorem opens_int {P : Program} {t : TypeId} (ht : P.underlying t = some (.int .i64)) : Opens P t D.int one i64 any := by
  intro N H enc w n cs x _ h
  obtain ⟨z, h1, h2, h3⟩ := DataW.trod_int ht h
  subst h1 h2
  refine ⟨z, rfl, by simp [Rows.uptoBulk, one], ?_, fun _ => trivial⟩
  simpa [Lit.wf, IntKind.min, IntKind.max, IntKind.signed, IntKind.bits, i64] using h3
theorem opens_bool {P : Program} {t : TypeId} (ht : P.underlying t = some .bool) : Opens P t D.bool one any any := by
  intro N H enc w n cs x _ h
  obtain ⟨z, h1, h2⟩ := DataW.trod_bool ht h
  subst h1 h2
  exact ⟨z, rfl, by simp [Rows.uptoBulk, one], trivial, fun _ => trivial⟩
theorem bulkAll_append {H : Type} (l r : List (DataW H)) : Rows.uptoBulkAll (l ++ r) = Rows.uptoBulkAll l + Rows.uptoBulkAll r := by
  induction l with
  | nil => simp [Rows.uptoBulkAll]
  | cons x l ih => simp only [List.cons_append, Rows.uptoBulkAll, ih]; omega
theorem weightsAll_append {H : Type} (P : Program) (e : TypeId) (l r : List (DataW H)) : DataW.weightsAll P e (l ++ r) = DataW.weightsAll P e l ++ DataW.weightsAll P e r := by
  induction l with
  | nil => simp [DataW.weightsAll]
  | cons x l ih => simp [DataW.weightsAll, ih]
def slD {α : Type} (e : α → D) (l : List α) : D := .sl (l.map e)
def slSz {α : Type} (sz : α → Nat) (l : List α) : Nat := (l.map sz).sum + 1
def slOk {α : Type} (ok : α → Prop) (l : List α) : Prop := ∀ a ∈ l, ok a
def slLim {α : Type} (b : Nat) (lim : α → Prop) (l : List α) : Prop := l.length * b ≤ reachBytes ∧ ∀ a ∈ l, lim a
theorem opens_slice {α : Type} {P : Program} {t el : TypeId} {e : α → D} {sz : α → Nat} {ok lim : α → Prop} {N b : Nat} (ht : P.underlying t = some (.slice el)) (hby : P.bytesOf el = b) (ho : OpensF P el e sz ok lim N) :
    OpensF P t (slD e) (slSz sz) (slOk ok) (slLim b lim) N := by
  intro H enc w n cs x hn h
  rcases DataW.trod_slice ht h with ⟨rfl, rfl⟩ | ⟨a, len, cap, elems, rest, n', hf, rfl, rfl, hb, hl, hm, hlen, hel, _, _⟩
  · exact ⟨[], ⟨none, 0, [], rfl, by simp, by simp [maxLen], fun _ => rfl, fun i hi => by simp at hi, rfl⟩, by simp [Rows.uptoBulk, slSz], by simp [slOk], fun _ => ⟨by simp, by simp⟩⟩
  · have key : ∀ k, k ≤ len → ∃ (l : List α) (L : List Value), l.length = k ∧ RdAll AnyB w (l.map e) L ∧ L.length = k * P.cellsOf el ∧ (∀ j (hj : j < L.length), w.cell? (a.add j) = some L[j]) ∧
        (l.map sz).sum ≤ Rows.uptoBulkAll ((elems.take k).map (·.1)) ∧ slOk ok l ∧ ((∀ y ∈ DataW.weightsAll P el ((elems.take k).map (·.1)), y ≤ reachBytes) → ∀ a ∈ l, lim a) := by
      intro k
      induction k with
      | zero => intro _; exact ⟨[], [], rfl, by simp [RdAll], by simp, fun j hj => by simp at hj, by simp, by simp [slOk], fun _ => by simp⟩
      | succ k ih =>
        intro hk
        obtain ⟨l, L, h1, h2, h3, h4, h5, h6, h7⟩ := ih (by omega)
        have hk' : k < elems.length := by omega
        have he := hel k (by omega)
        rw [List.getElem?_eq_getElem hk'] at he
        obtain ⟨cs', hc1, hc2⟩ := Option.bind_eq_some_iff.1 he
        obtain ⟨a', r1, r2, r3, r4⟩ := ho H enc w n' cs' elems[k] (by omega) hc2
        obtain ⟨_, hcl, hcc⟩ := World.cells?_some hc1
        refine ⟨l ++ [a'], L ++ cs', by simp [h1], by rw [List.map_append]; exact RdAll.append h2 (RdAll.one r1), by simp [h3, hcl, Nat.add_mul], ?_, ?_, ?_, ?_⟩
        · intro j hj
          by_cases hjl : j < L.length
          · rw [List.getElem_append_left hjl]; exact h4 j hjl
          · simp at hj
            rw [List.getElem_append_right (by omega)]
            have := hcc (j - L.length) (by omega)
            rw [Deep.add_add, ← h3, show L.length + (j - L.length) = j by omega] at this
            rw [this, List.getElem?_eq_getElem (by omega)]
        · rw [List.take_succ_eq_append_getElem hk', List.map_append, List.map_append, bulkAll_append]
          simp [Rows.uptoBulkAll]
          simp at h5
          omega
        · intro y hy
          rcases List.mem_append.1 hy with h | h
          · exact h6 y h
          · simp at h; subst h; exact r3
        · intro hw y hy
          rw [List.take_succ_eq_append_getElem hk', List.map_append, weightsAll_append] at hw
          rcases List.mem_append.1 hy with h | h
          · exact h7 (fun z hz => hw z (List.mem_append_left _ hz)) y h
          · simp at h; subst h
            exact r4 (fun z hz => hw z (List.mem_append_right _ (by simpa [DataW.weightsAll] using hz)))
    obtain ⟨l, L, h1, h2, h3, h4, h5, h6, h7⟩ := key len (Nat.le_refl _)
    rw [List.take_of_length_le (by omega)] at h5 h7
    refine ⟨l, ⟨some a, cap, L, by simp [h1], by simpa [h1] using hl, hm, (fun h => by cases h), fun i hi => ⟨a, rfl, trivial, h4 i hi⟩, h2⟩, ?_, h6, ?_⟩
    · simp only [Rows.uptoBulk, slSz]; omega
    · intro hw
      simp only [DataW.weights, ht] at hw
      refine ⟨?_, h7 fun y hy => hw y (by simp [hy])⟩
      have := hw ((elems.map (·.1)).length + (rest.map (·.1)).length |>.mul (P.bytesOf el)) (by left)
      rw [h1, ← hlen, ← hby]
      have h8 : elems.length * P.bytesOf el ≤ ((elems.map (·.1)).length + (rest.map (·.1)).length) * P.bytesOf el := Nat.mul_le_mul_right _ (by simp)
      exact Nat.le_trans h8 this
theorem split2 {cs : List Value} {c0 c1 : Nat} (h : cs.length = c0 + c1) : cs = (cs.drop 0).take c0 ++ (cs.drop c0).take c1 := by
  rw [List.drop_zero, List.take_of_length_le (l := cs.drop c0) (by simp; omega), List.take_append_drop]
theorem split3 {cs : List Value} {c0 c1 c2 : Nat} (h : cs.length = c0 + c1 + c2) : cs = (cs.drop 0).take c0 ++ ((cs.drop c0).take c1 ++ (cs.drop (c0 + c1)).take c2) := by
  rw [← List.drop_drop, ← split2' (cs := cs.drop c0) (by simp; omega)]
  simp
where
  split2' {cs : List Value} {c1 c2 : Nat} (h : cs.length = c1 + c2) : cs = cs.take c1 ++ (cs.drop c1).take c2 := by
    have := split2 h
    simpa using this
theorem split4 {cs : List Value} {c0 c1 c2 c3 : Nat} (h : cs.length = c0 + c1 + c2 + c3) : cs = (cs.drop 0).take c0 ++ ((cs.drop c0).take c1 ++ ((cs.drop (c0 + c1)).take c2 ++ (cs.drop (c0 + c1 + c2)).take c3)) := by
  have h3 := split3 (cs := cs.drop c0) (c0 := c1) (c1 := c2) (c2 := c3) (by simp; omega)
  simp only [List.drop_drop, List.drop_zero] at h3 ⊢
  rw [← Nat.add_assoc, Nat.add_zero] at h3
  rw [← h3, List.take_append_drop]
theorem opens_struct2 {α β δ : Type} {P : Program} {t : TypeId} {f0 f1 : Field} {e0 : α → D} {e1 : β → D} {s0 : α → Nat} {s1 : β → Nat} {k0 l0 : α → Prop} {k1 l1 : β → Prop} {N c0 c1 : Nat} (mk : α → β → δ) {e : δ → D} {sz : δ → Nat} {ok lim : δ → Prop}
    (ht : P.underlying t = some (.struct #[f0, f1])) (ho : f0.offset = 0 ∧ f1.offset = c0 ∧ P.cellsOf f0.type = c0 ∧ P.cellsOf f1.type = c1 ∧ P.cellsOf t = c0 + c1)
    (h0 : OpensF P f0.type e0 s0 k0 l0 N) (h1 : OpensF P f1.type e1 s1 k1 l1 N)
    (he : ∀ a b, e (mk a b) = .agg [e0 a, e1 b]) (hs : ∀ a b, sz (mk a b) ≤ s0 a + s1 b + 1) (hk : ∀ a b, k0 a → k1 b → ok (mk a b)) (hl : ∀ a b, l0 a → l1 b → lim (mk a b)) : OpensF P t e sz ok lim (N + 1) := by
  intro H enc w n cs x hn h
  obtain ⟨xs, n', hf, rfl, hcl, hlen, hfs⟩ := DataW.trod_struct ht h
  obtain ⟨o0, o1, p0, p1, p2⟩ := ho
  match xs, hlen with
  | [y0, y1], _ =>
    have g0 : DataW.trod enc P w 0 (fun _ => true) true n' f0.type ((cs.drop f0.offset).take (P.cellsOf f0.type)) = some y0 := by simpa using hfs 0 f0 rfl
    have g1 : DataW.trod enc P w 0 (fun _ => true) true n' f1.type ((cs.drop f1.offset).take (P.cellsOf f1.type)) = some y1 := by simpa using hfs 1 f1 rfl
    obtain ⟨a, r1, r2, r3, r4⟩ := h0 H enc w n' _ _ (by omega) g0
    obtain ⟨b, q1, q2, q3, q4⟩ := h1 H enc w n' _ _ (by omega) g1
    rw [o0, p0] at r1
    rw [o1, p1] at q1
    refine ⟨mk a b, ?_, ?_, hk a b r3 q3, fun hw => ?_⟩
    · rw [he, split2 (hcl.trans p2)]
      exact ⟨_, _, rfl, r1, RdAll.one q1⟩
    · have := hs a b
      simp [Rows.uptoBulk, Rows.uptoBulkAll]; omega
    · simp [DataW.weights, ht, DataW.weightsEach] at hw
      exact hl a b (r4 fun y hy => hw y (by simp [hy])) (q4 fun y hy => hw y (by simp [hy]))
theorem opens_struct3 {α β γ δ : Type} {P : Program} {t : TypeId} {f0 f1 f2 : Field} {e0 : α → D} {e1 : β → D} {e2 : γ → D} {s0 : α → Nat} {s1 : β → Nat} {s2 : γ → Nat} {k0 l0 : α → Prop} {k1 l1 : β → Prop} {k2 l2 : γ → Prop} {N c0 c1 c2 : Nat} (mk : α → β → γ → δ) {e : δ → D} {sz : δ → Nat} {ok lim : δ → Prop}
    (ht : P.underlying t = some (.struct #[f0, f1, f2])) (ho : f0.offset = 0 ∧ f1.offset = c0 ∧ f2.offset = c0 + c1 ∧ P.cellsOf f0.type = c0 ∧ P.cellsOf f1.type = c1 ∧ P.cellsOf f2.type = c2 ∧ P.cellsOf t = c0 + c1 + c2)
    (h0 : OpensF P f0.type e0 s0 k0 l0 N) (h1 : OpensF P f1.type e1 s1 k1 l1 N) (h2 : OpensF P f2.type e2 s2 k2 l2 N)
    (he : ∀ a b c, e (mk a b c) = .agg [e0 a, e1 b, e2 c]) (hs : ∀ a b c, sz (mk a b c) ≤ s0 a + s1 b + s2 c + 1) (hk : ∀ a b c, k0 a → k1 b → k2 c → ok (mk a b c)) (hl : ∀ a b c, l0 a → l1 b → l2 c → lim (mk a b c)) : OpensF P t e sz ok lim (N + 1) := by
  intro H enc w n cs x hn h
  obtain ⟨xs, n', hf, rfl, hcl, hlen, hfs⟩ := DataW.trod_struct ht h
  obtain ⟨o0, o1, o2, p0, p1, p2, p3⟩ := ho
  match xs, hlen with
  | [y0, y1, y2], _ =>
    have g0 : DataW.trod enc P w 0 (fun _ => true) true n' f0.type ((cs.drop f0.offset).take (P.cellsOf f0.type)) = some y0 := by simpa using hfs 0 f0 rfl
    have g1 : DataW.trod enc P w 0 (fun _ => true) true n' f1.type ((cs.drop f1.offset).take (P.cellsOf f1.type)) = some y1 := by simpa using hfs 1 f1 rfl
    have g2 : DataW.trod enc P w 0 (fun _ => true) true n' f2.type ((cs.drop f2.offset).take (P.cellsOf f2.type)) = some y2 := by simpa using hfs 2 f2 rfl
    obtain ⟨a, r1, r2, r3, r4⟩ := h0 H enc w n' _ _ (by omega) g0
    obtain ⟨b, q1, q2, q3, q4⟩ := h1 H enc w n' _ _ (by omega) g1
    obtain ⟨c, u1, u2, u3, u4⟩ := h2 H enc w n' _ _ (by omega) g2
    rw [o0, p0] at r1
    rw [o1, p1] at q1
    rw [o2, p2] at u1
    refine ⟨mk a b c, ?_, ?_, hk a b c r3 q3 u3, fun hw => ?_⟩
    · rw [he, split3 (hcl.trans p3)]
      exact ⟨_, _, rfl, r1, _, _, rfl, q1, RdAll.one u1⟩
    · have := hs a b c
      simp [Rows.uptoBulk, Rows.uptoBulkAll]; omega
    · simp [DataW.weights, ht, DataW.weightsEach] at hw
      exact hl a b c (r4 fun y hy => hw y (by simp [hy])) (q4 fun y hy => hw y (by simp [hy])) (u4 fun y hy => hw y (by simp [hy]))
theorem opens_struct4 {α β γ ε δ : Type} {P : Program} {t : TypeId} {f0 f1 f2 f3 : Field} {e0 : α → D} {e1 : β → D} {e2 : γ → D} {e3 : ε → D} {s0 : α → Nat} {s1 : β → Nat} {s2 : γ → Nat} {s3 : ε → Nat} {k0 l0 : α → Prop} {k1 l1 : β → Prop} {k2 l2 : γ → Prop} {k3 l3 : ε → Prop} {N c0 c1 c2 c3 : Nat} (mk : α → β → γ → ε → δ) {e : δ → D} {sz : δ → Nat} {ok lim : δ → Prop}
    (ht : P.underlying t = some (.struct #[f0, f1, f2, f3])) (ho : f0.offset = 0 ∧ f1.offset = c0 ∧ f2.offset = c0 + c1 ∧ f3.offset = c0 + c1 + c2 ∧ P.cellsOf f0.type = c0 ∧ P.cellsOf f1.type = c1 ∧ P.cellsOf f2.type = c2 ∧ P.cellsOf f3.type = c3 ∧ P.cellsOf t = c0 + c1 + c2 + c3)
    (h0 : OpensF P f0.type e0 s0 k0 l0 N) (h1 : OpensF P f1.type e1 s1 k1 l1 N) (h2 : OpensF P f2.type e2 s2 k2 l2 N) (h3 : OpensF P f3.type e3 s3 k3 l3 N)
    (he : ∀ a b c d, e (mk a b c d) = .agg [e0 a, e1 b, e2 c, e3 d]) (hs : ∀ a b c d, sz (mk a b c d) ≤ s0 a + s1 b + s2 c + s3 d + 1) (hk : ∀ a b c d, k0 a → k1 b → k2 c → k3 d → ok (mk a b c d)) (hl : ∀ a b c d, l0 a → l1 b → l2 c → l3 d → lim (mk a b c d)) : OpensF P t e sz ok lim (N + 1) := by
  intro H enc w n cs x hn h
  obtain ⟨xs, n', hf, rfl, hcl, hlen, hfs⟩ := DataW.trod_struct ht h
  obtain ⟨o0, o1, o2, o3, p0, p1, p2, p3, p4⟩ := ho
  match xs, hlen with
  | [y0, y1, y2, y3], _ =>
    have g0 : DataW.trod enc P w 0 (fun _ => true) true n' f0.type ((cs.drop f0.offset).take (P.cellsOf f0.type)) = some y0 := by simpa using hfs 0 f0 rfl
    have g1 : DataW.trod enc P w 0 (fun _ => true) true n' f1.type ((cs.drop f1.offset).take (P.cellsOf f1.type)) = some y1 := by simpa using hfs 1 f1 rfl
    have g2 : DataW.trod enc P w 0 (fun _ => true) true n' f2.type ((cs.drop f2.offset).take (P.cellsOf f2.type)) = some y2 := by simpa using hfs 2 f2 rfl
    have g3 : DataW.trod enc P w 0 (fun _ => true) true n' f3.type ((cs.drop f3.offset).take (P.cellsOf f3.type)) = some y3 := by simpa using hfs 3 f3 rfl
    obtain ⟨a, r1, r2, r3, r4⟩ := h0 H enc w n' _ _ (by omega) g0
    obtain ⟨b, q1, q2, q3, q4⟩ := h1 H enc w n' _ _ (by omega) g1
    obtain ⟨c, u1, u2, u3, u4⟩ := h2 H enc w n' _ _ (by omega) g2
    obtain ⟨d, v1, v2, v3, v4⟩ := h3 H enc w n' _ _ (by omega) g3
    rw [o0, p0] at r1
    rw [o1, p1] at q1
    rw [o2, p2] at u1
    rw [o3, p3] at v1
    refine ⟨mk a b c d, ?_, ?_, hk a b c d r3 q3 u3 v3, fun hw => ?_⟩
    · rw [he, split4 (hcl.trans p4)]
      exact ⟨_, _, rfl, r1, _, _, rfl, q1, _, _, rfl, u1, RdAll.one v1⟩
    · have := hs a b c d
      simp [Rows.uptoBulk, Rows.uptoBulkAll]; omega
    · simp [DataW.weights, ht, DataW.weightsEach] at hw
      exact hl a b c d (r4 fun y hy => hw y (by simp [hy])) (q4 fun y hy => hw y (by simp [hy])) (u4 fun y hy => hw y (by simp [hy])) (v4 fun y hy => hw y (by simp [hy]))
theorem open_arg {α : Type} {P : Program} {t : TypeId} {e : α → D} {sz : α → Nat} {ok lim : α → Prop} (ho : Opens P t e sz ok lim) {H : Type} {enc : TypeId × Value → H} {W : World} {v : Value} {d : DataW H} {p : List MemPlace} (h : DataW.Trod enc P W 0 (fun _ => true) true t v d p) :
    ∃ a : α, Rd AnyB W (e a) v.cells.toList ∧ sz a ≤ Rows.uptoBulk d ∧ ok a ∧ ((∀ y ∈ DataW.weights P t d, y ≤ reachBytes) → lim a) := by
  obtain ⟨n, hn⟩ := h
  exact ho n H enc W n _ _ (Nat.le_refl _) hn
end Go.Proofs.YtfocooehnmpndaaGreat
namespace Go.Proofs.YtfocooehnmpndaaGreat
open Go.RowKit
namespace At
theorem plLaid : laidOutB Tryz.prog = true := by kernel_rfl
theorem plRow : (177 : TypeId) < Tryz.prog.types.size := of_decide_eq_true (by kernel_rfl)
theorem plWide : (match Tryz.prog.underlying 177 with | some (.array _ _) | some (.struct _) => true | _ => false) = true := by kernel_rfl
theorem plAt : Tryz.prog.keyTypeAt 3 177 = true := by kernel_rfl
set_option maxRecDepth 100000 in
theorem plLaw : WideMaps.KeyLaw Tryz.prog 177 := deep_law_laid plLaid (m := 3) (by omega) plRow plAt plWide
theorem plK : Go.Maps.Keyed Tryz.prog 177 := .of_law plLaw
def plL (a b c : Int) : Lit := .string (keyBytes [.int .i64 a, .int .i64 b, .int .i64 c])
def wfI (i : Int) : Prop := (Lit.int .i64 i).wf = true
theorem wfI_of {i : Int} (h : i64 i) : wfI i := by
  unfold wfI
  simp [i64, Lit.wf, IntKind.min, IntKind.max, IntKind.signed, IntKind.bits] at *; omega
theorem plKey {a b c : Int} (ha : i64 a) (hb : i64 b) (hc : i64 c) : keyOf Tryz.prog 177 (.agg #[.int .i64 a, .int .i64 b, .int .i64 c]) = some (plL a b c) := by
  have ha := wfI_of ha
  have hb := wfI_of hb
  have hc := wfI_of hc
  unfold wfI at ha hb hc
  have h1 : Tryz.prog.keyType 177 = true := by kernel_rfl
  have h3 : Tryz.prog.cellsOf 177 = 3 := by kernel_rfl
  have h4 : Tryz.prog.cellsOf 3 = 1 := by kernel_rfl
  have h6 : Tryz.prog.cellsOf 83 = 2 := by kernel_rfl
  have h2 : (Value.agg #[Value.int .i64 a, Value.int .i64 b, Value.int .i64 c]).formed Tryz.prog 177 = true := by simp [Value.formed, Tryz.underlying177, h3]
  obtain ⟨m, hm⟩ : ∃ m, Tryz.prog.types.size = m + 1 + 1 := ⟨Tryz.prog.types.size - 2, by have h : 1 < Tryz.prog.types.size := of_decide_eq_true (by kernel_rfl); omega⟩
  have h5 : Tryz.prog.keyLits (Tryz.prog.types.size + 1) 177 [.int .i64 a, .int .i64 b, .int .i64 c] = some [.int .i64 a, .int .i64 b, .int .i64 c] := by
    rw [hm]
    simp [Program.keyLits, Tryz.underlying177, Tryz.underlying83, h3, h4, h6, Tryz.underlying3, ha, hb, hc]
    rw [if_pos (fun i x => by match i, x with | 0, _ => simp | 1, _ => simp | n + 2, h => exact absurd h (by omega))]
    rfl
  unfold keyOf
  simp only [Tryz.underlying177, h1, h2, Bool.and_self, if_true]
  show Option.map _ (Tryz.prog.keyLits _ _ [.int .i64 a, .int .i64 b, .int .i64 c]) = _
  rw [h5]
  rfl
theorem plL_inj {a b c a' b' c' : Int} (ha : i64 a) (hb : i64 b) (hc : i64 c) (ha' : i64 a') (hb' : i64 b') (hc' : i64 c') (h : plL a b c = plL a' b' c') : a = a' ∧ b = b' ∧ c = c' := by
  have h1 := plKey ha hb hc
  have h2 := plKey ha' hb' hc'
  rw [← h] at h2
  have := plK.inj h1 h2
  simpa using this
def keyE (q : Eqn) : Lit := plL q.rule q.to'.at' q.to'.attr
def okRefI (r : Ref) : Prop := i64 r.at' ∧ i64 r.attr
def okEqK (q : Eqn) : Prop := i64 q.rule ∧ okRefI q.to'
open Classical in
noncomputable def inSetE (es : List Eqn) (l : Lit) : Bool := es.any fun q => decide (keyE q = l)
theorem inSetE_at {es : List Eqn} {rule : Int} {x : Ref} (h : ∀ q ∈ es, okEqK q) (hr : i64 rule) (hx : okRefI x) : inSetE es (plL rule x.at' x.attr) = had es rule x := by
  unfold inSetE had
  rw [Bool.eq_iff_iff, List.any_eq_true, List.any_eq_true]
  constructor
  · rintro ⟨q, hq, he⟩
    obtain ⟨h1, h2, h3⟩ := h q hq
    refine ⟨q, hq, ?_⟩
    simp only [decide_eq_true_eq] at he ⊢
    obtain ⟨e1, e2, e3⟩ := plL_inj h1 h2 h3 hr hx.1 hx.2 he
    refine ⟨e1, ?_⟩
    cases hq' : q.to' with
    | mk u v => cases x with | mk u' v' => rw [hq'] at e2 e3; simp at e2 e3; rw [e2, e3]
  · rintro ⟨q, hq, he⟩
    refine ⟨q, hq, ?_⟩
    simp only [decide_eq_true_eq] at he ⊢
    unfold keyE
    rw [he.1, he.2]
theorem inSetE_add {es : List Eqn} {q : Eqn} : inSetE (es ++ [q]) (keyE q) = true := by
  unfold inSetE
  simp
theorem inSetE_other {es : List Eqn} {q : Eqn} {l : Lit} (h : l ≠ keyE q) : inSetE (es ++ [q]) l = inSetE es l := by
  unfold inSetE
  rw [List.any_append]
  simp [show ¬ keyE q = l from fun e => h e.symm]
end At
end Go.Proofs.YtfocooehnmpndaaGreat
namespace Go.Proofs.YtfocooehnmpndaaGreat
open Go.RowKit
namespace At
theorem bx_cells8 {w : World} {b : Nat} {x0 x1 x2 x3 x4 x5 x6 x7 : Value} {T : TypeId} (h : w.heap[b]? = some (.cells #[x0, x1, x2, x3, x4, x5, x6, x7] T (0, 0))) :
    w.cell? ⟨b, 0, none⟩ = some x0 ∧ w.cell? ⟨b, 0 + 1, none⟩ = some x1 ∧ w.cell? ⟨b, 0 + 2, none⟩ = some x2 ∧ w.cell? ⟨b, 0 + 3, none⟩ = some x3 ∧ w.cell? ⟨b, 0 + 4, none⟩ = some x4 ∧ w.cell? ⟨b, 0 + 5, none⟩ = some x5 ∧ w.cell? ⟨b, 0 + 6, none⟩ = some x6 ∧ w.cell? ⟨b, 0 + 7, none⟩ = some x7 := by
  refine ⟨?_, ?_, ?_, ?_, ?_, ?_, ?_, ?_⟩ <;> simp [World.cell?, h]
theorem zeroBool (w : World) : (zeroValue 4).run Tryz.prog w = .ok (.bool false) w := by
  obtain ⟨i, hi, hz, _⟩ := info_parts (show (Tryz.prog.info? 4).map (fun i => (i.zero, i.size, i.bytes)) = some (some (.bool false), 1, 1) by kernel_rfl)
  simp [zeroValue, typeInfo, hi, hz]
theorem checkS_g {g : Gram} {s : Sys} (h : checkG g ≠ 0) : checkS g s = checkG g := by unfold checkS; rw [if_pos h]
theorem checkS_sys {g : Gram} {s : Sys} (h : checkG g = 0) : checkS g s = sysErr g s := by unfold checkS; rw [if_neg (by simpa using h)]
theorem sysErr_a {g : Gram} {s : Sys} (h : attrsErr g s.attrs ≠ 0) : sysErr g s = attrsErr g s.attrs := by unfold sysErr; rw [if_pos h]
theorem sysErr_l {g : Gram} {s : Sys} (h : attrsErr g s.attrs = 0) (h2 : 200 < s.eqs.length) : sysErr g s = 2 := by unfold sysErr; rw [if_neg (by simpa using h), if_pos h2]
theorem sysErr_e {g : Gram} {s : Sys} (h : attrsErr g s.attrs = 0) (h2 : ¬ 200 < s.eqs.length) (h3 : eqsFrom g s 0 s.eqs ≠ 0) : sysErr g s = eqsFrom g s 0 s.eqs := by unfold sysErr; rw [if_neg (by simpa using h), if_neg h2, if_pos h3]
theorem sysErr_n {g : Gram} {s : Sys} (h : attrsErr g s.attrs = 0) (h2 : ¬ 200 < s.eqs.length) (h3 : eqsFrom g s 0 s.eqs = 0) (h4 : lacks g s) : sysErr g s = 5 := by unfold sysErr; rw [if_neg (by simpa using h), if_neg h2, if_neg (by simpa using h3), if_pos h4]
theorem sysErr_z {g : Gram} {s : Sys} (h : attrsErr g s.attrs = 0) (h2 : ¬ 200 < s.eqs.length) (h3 : eqsFrom g s 0 s.eqs = 0) (h4 : ¬ lacks g s) : sysErr g s = 0 := by unfold sysErr; rw [if_neg (by simpa using h), if_neg h2, if_neg (by simpa using h3), if_neg h4]
theorem eqErr_out {g : Gram} {s : Sys} {i : Nat} {q : Eqn} (h : q.rule < 0 ∨ (g.rules.length : Int) ≤ q.rule) : eqErr g s i q = 1 := by
  unfold eqErr
  rcases h with h | h
  · cases g.rules[q.rule.toNat]? with
    | none => rfl
    | some r => simp [h]
  · rw [List.getElem?_eq_none (by omega)]
theorem eqErr_in {g : Gram} {s : Sys} {i j : Nat} {q : Eqn} (hj : j < g.rules.length) (hq : q.rule = (j : Int)) : eqErr g s i q = if 30 < q.is'.size then 2 else if defs s.attrs g.rules[j] q.to' = false ∨ valid s.attrs g.rules[j] q.is' = false then 3 else if had (s.eqs.take i) q.rule q.to' then 6 else 0 := by
  unfold eqErr
  have : q.rule.toNat = j := by omega
  rw [this, List.getElem?_eq_getElem hj]
  simp only
  rw [if_neg (by omega)]
def NoL (g : Gram) (s : Sys) (i a k : Nat) : Prop := ∀ i' (h : i' < g.rules.length) a' k', a' < s.attrs.length → k' < g.rules[i'].right.length + 1 → (i' < i ∨ (i' = i ∧ (a' < a ∨ (a' = a ∧ k' < k)))) → lacksAt s i' g.rules[i'] k' a' = false
theorem noL_start (g : Gram) (s : Sys) : NoL g s 0 0 0 := fun i' h a' k' _ _ h3 => by omega
theorem NoL.k {g : Gram} {s : Sys} {i a k : Nat} (h : NoL g s i a k) (hi : i < g.rules.length) (hl : lacksAt s i g.rules[i] k a = false) : NoL g s i a (k + 1) := by
  intro i' h' a' k' h1 h2 h3
  by_cases e : i' = i ∧ a' = a ∧ k' = k
  · obtain ⟨rfl, rfl, rfl⟩ := e; exact hl
  · exact h i' h' a' k' h1 h2 (by omega)
theorem NoL.a {g : Gram} {s : Sys} {i a k : Nat} (h : NoL g s i a k) (hi : i < g.rules.length) (hk : g.rules[i].right.length + 1 ≤ k) : NoL g s i (a + 1) 0 := by
  intro i' h' a' k' h1 h2 h3
  by_cases e : i' = i
  · subst e; exact h i' h' a' k' h1 h2 (by omega)
  · exact h i' h' a' k' h1 h2 (by omega)
theorem NoL.i {g : Gram} {s : Sys} {i a : Nat} (h : NoL g s i a 0) (ha : s.attrs.length ≤ a) : NoL g s (i + 1) 0 0 := by
  intro i' h' a' k' h1 h2 h3
  exact h i' h' a' k' h1 h2 (by omega)
theorem NoL.fin {g : Gram} {s : Sys} {i : Nat} (h : NoL g s i 0 0) (hi : g.rules.length ≤ i) : ¬ lacks g s := by
  rintro ⟨i', k', a', h1, h2, h3, h4⟩
  rw [h i' h1 a' k' h3 h2 (by omega)] at h4
  cases h4
structure CkI (w : World) (mb : Nat) (G S : Array Value) (es : List Eqn) (wr : World) : Prop where
  b1 : wr.heap[w.heap.size]? = some (.cells G 24 (0, 0))
  b2 : wr.heap[w.heap.size + 1]? = some (.cells S 28 (0, 0))
  map : ∃ c, SetM Tryz.prog 177 4 mb c (inSetE es) wr ∧ c ≤ es.length
  bel : Below w.heap.size w wr
  lo : w.heap.size + 1 < mb
section
variable {w : World} {mb : Nat} {G S : Array Value} {es : List Eqn} {wr w' : World}
theorem CkI.keep (h : CkI w mb G S es wr) (hb : Below wr.heap.size wr w') : CkI w mb G S es w' := by
  obtain ⟨h1, h2, ⟨c, h3, h4⟩, h5, h6⟩ := h
  exact ⟨bx_keep h1 hb, bx_keep h2 hb, ⟨c, h3.keep hb, h4⟩, h5.trans (hb.mono h5.size), h6⟩
theorem CkI.look (h : CkI w mb G S es wr) (he : ∀ q ∈ es, okEqK q) {rule : Int} {x : Ref} (hr : i64 rule) (hx : okRefI x) :
    (Instr.lookup 172 (.map (some mb)) (.agg #[.int .i64 rule, .int .i64 x.at', .int .i64 x.attr]) false).run Tryz.prog wr = .ok (.bool (had es rule x)) wr := by
  obtain ⟨h1, h2, ⟨c, h3, h4⟩, h5, h6⟩ := h
  have := h3.look plK Tryz.underlying172 Tryz.underlying4 (zeroBool wr) (plKey hr hx.1 hx.2)
  rw [inSetE_at he hr hx] at this
  exact this
theorem CkI.add (h : CkI w mb G S es wr) (hl : es.length < maxLen) {q : Eqn} (hq : okEqK q) :
    ∃ w3, (Instr.mapUpdate 172 (.map (some mb)) (.agg #[.int .i64 q.rule, .int .i64 q.to'.at', .int .i64 q.to'.attr]) (.bool true)).run Tryz.prog wr = .ok () w3 ∧ CkI w mb G S (es ++ [q]) w3 := by
  obtain ⟨h1, h2, ⟨c, h3, h4⟩, h5, h6⟩ := h
  obtain ⟨w3, hup, hset, hgr⟩ := h3.add plK Tryz.underlying172 Tryz.underlying4 (by omega) (plKey hq.1 hq.2.1 hq.2.2) (S' := inSetE (es ++ [q])) inSetE_add (fun l' h => inSetE_other h)
  have hlt := h3.lt
  refine ⟨w3, hup, ?_, ?_, ⟨c + 1, hset, by simp; omega⟩, h5.grown hgr (by have := h5.size; omega) (fun k e => by cases e; omega), h6⟩
  · exact (hgr.block _ (Array.getElem?_eq_some_iff.1 h1).1 (fun e => by cases e; omega)).trans h1
  · exact (hgr.block _ (Array.getElem?_eq_some_iff.1 h2).1 (fun e => by cases e; omega)).trans h2
end
end At
end Go.Proofs.YtfocooehnmpndaaGreat
namespace Go.Proofs.YtfocooehnmpndaaGreat
open Go.RowKit
theorem own_of_block {w : World} {g : Nat} {e : TypeId} {size n : Nat} {cur : Array Value} (h : w.heap[g]? = some (.cells cur e (0, 0))) (hn : cur.size = n * size) (hm : n ≤ maxLen) : w.ownsRow 0 e size (.slice (some ⟨g, 0, none⟩) n n) n cur.toList :=
  ⟨by simpa using hn, .inr ⟨_, n, cur, rfl, Nat.zero_le _, h, Nat.le_refl _, hm, hn, by rw [← hn]; exact List.take_of_length_le (by simp)⟩⟩
end Go.Proofs.YtfocooehnmpndaaGreat
namespace Go.Proofs.YtfocooehnmpndaaGreat
open Go.RowKit
namespace At
def atL (r : Rule) : List Sym := ⟨false, r.left⟩ :: r.right
def atR (r : Rule) (k : Int) : Int := if k < 0 ∨ (r.right.length : Int) < k then -1 else match (atL r)[k.toNat]? with | some s => if s.term then -1 else s.n | none => -1
theorem atR_out {r : Rule} {k : Int} (h : k < 0 ∨ (r.right.length : Int) < k) : atR r k = -1 := by unfold atR; rw [if_pos h]
theorem atR_in {r : Rule} {k : Nat} (h : k < (atL r).length) : atR r (k : Int) = if (atL r)[k].term then -1 else (atL r)[k].n := by
  unfold atR
  have h2 : (atL r).length = r.right.length + 1 := rfl
  rw [if_neg (by omega)]
  simp [h]
set_option maxHeartbeats 4000000 in
set_option maxRecDepth 100000 in
theorem atE (g : Gram) (j : Nat) (hj : j < g.rules.length) (hr4 : g.rules[j].right.length ≤ 4) (k : Int) (ar : Option Addr) (cr : Nat) (w : World) (hR : Rd AnyB w (.sl (g.rules.map Rule.d)) [.slice ar g.rules.length cr]) :
    Calls Tryz.prog 105 #[.agg #[.int .i64 g.terms, .int .i64 g.nons, .int .i64 g.start, .slice ar g.rules.length cr], .int .i64 (j : Int), .int .i64 k] w (fun e w' => e = .returned (.int .i64 (atR g.rules[j] k)) ∧ Below w.heap.size w w') := by
  obtain ⟨w0, HW0⟩ := nameIt (w.alloc (.cells #[.int .i64 g.terms, .int .i64 g.nons, .int .i64 g.start, .slice ar g.rules.length cr] 24))
  have HB0 : Hid (Below w.heap.size w w0) := by rw [← HW0.out]; exact (Below.refl _ _).alloc (Nat.le_refl _) _
  have X1 : Hid (w0.heap[w.heap.size]? = some (.cells #[.int .i64 g.terms, .int .i64 g.nons, .int .i64 g.start, .slice ar g.rules.length cr] 24 (0, 0))) := by rw [← HW0.out]; exact bx_new _ _ _ rfl
  obtain ⟨b6, off6, vr6, hae6, -, hbl6, d0, d1, hkr6⟩ := (hR.below HB0.out).rule_at hj
  obtain ⟨av, cv, rfl, -, -⟩ := hkr6.form
  rw [List.length_map] at d1 hkr6
  have hrb := hR.bounds.2.1
  have hrm := hR.bounds.2.2
  unfold maxLen at hrm
  have HOUT := Lib.hid (@atR_out g.rules[j] k)
  have HIN := Lib.hid (fun (i : Nat) (h : i < (atL g.rules[j]).length) => @atR_in g.rules[j] i h)
  have HLN : Hid ((atL g.rules[j]).length = g.rules[j].right.length + 1) := rfl
  obtain ⟨ru, HRU⟩ := nameIt (g.rules[j]'hj)
  rw [HRU.out] at d0 d1 hkr6 HOUT HIN HLN hr4
  rw [HRU.out]
  obtain ⟨AL, HAL⟩ := nameIt (atL ru)
  have HALL : Hid (AL = ⟨false, ru.left⟩ :: ru.right) := by show _ = _; rw [← HAL.out]; rfl
  obtain ⟨lf, HLF⟩ := nameIt ru.left
  obtain ⟨rn, HRN⟩ := nameIt ru.right.length
  obtain ⟨m, HM⟩ := nameIt g.rules.length
  obtain ⟨rs, HRS⟩ := nameIt (atR ru k)
  rw [HRS.out, HRN.out] at HOUT
  simp only [HAL.out] at HIN HLN
  rw [HRN.out] at HLN hr4 d1 hkr6
  rw [HLF.out] at d0 HALL
  rw [HM.out] at HW0 X1 hrb hj
  rw [HRS.out, HM.out]
  obtain ⟨x0, x1, x2, x3⟩ := bx_cells4 X1.out
  have hbx := (Array.getElem?_eq_some_iff.1 X1.out).1
  have HKR := Lib.hid hkr6
  subst hae6
  have HS : Hid (∀ W, Below w0.heap.size w0 W → W.cell? ⟨w.heap.size, 0 + 3, none⟩ = some (.slice (some ⟨b6, off6, none⟩) m cr) ∧ W.cell? ⟨b6, off6 + j * 2, none⟩ = some (.int .i64 lf) ∧ W.cell? ⟨b6, off6 + j * 2 + 1, none⟩ = some (.slice av rn cv)) := fun W hb => ⟨(hb.cell (lt_of_cell x3)).trans x3, (hb.cell (lt_of_cell d0)).trans d0, (hb.cell (lt_of_cell d1)).trans d1⟩
  have hj0 : (0 : Int) ≤ (j : Int) := by omega
  have hj1 : (j : Int) < (m : Int) := by omega
  have HRN4 := Lib.hid hr4
  clear hR hkr6 hr4
  go_enter Tryz.func105, Tryz.ntmps105
  go_upto_region 1 with fail
  rw [HW0.out]
  go_region_held3 (fun w' => w'.cell? ⟨w.heap.size, 0 + 3, none⟩ = some (.slice (some ⟨b6, off6, none⟩) m cr) ∧ w'.cell? ⟨b6, off6 + j * 2, none⟩ = some (.int .i64 lf) ∧ w'.cell? ⟨b6, off6 + j * 2 + 1, none⟩ = some (.slice av rn cv))
    (first | exact HS.out _ (Below.refl _ _).drew | exact HS.out _ ((Below.refl _ _).alloc (Nat.le_refl _) _).drew | exact HS.out _ ((Below.refl _ _).alloc (Nat.le_refl _) _) | exact HS.out _ ((Below.refl _ _).drew.alloc (by simp) _) | exact HS.out _ HB5.out | fail)
    (first
      | (refine step_appN elSym (by rfl) _ _ (by rfl) (own_of_block (w := w0.drew.alloc (.cells #[.bool false, .int .i64 lf] 78)) (n := 1) (bx_new _ _ _ rfl) (by rfl) (by simp [maxLen])) (by decide) (by rfl) ((HKR.out.mono (S' := fun q => q < w0.heap.size) (fun _ _ h => h)).below ((Below.refl _ _).drew.alloc (by simp) _)) (by rfl) (syms_cells _) (by have := HRN4.out; have := HRN.out; simp; omega) (by have := HRN4.out; have := HRN.out; unfold maxLen; simp; omega) (Nat.zero_le _) ?_; intro g5 c5 w5 L5 hL5 ho5 hg5 hat5 hg5l; have HB5 : Hid (Below w0.heap.size w0 w5) := ((Below.refl _ _).drew.alloc (by simp) _).grown hg5 (by simp) (fun k e => by simp [Value.ownBlock] at e; omega); have HO5 := Lib.hid ho5; have HL5 := Lib.hid hL5; have HG5 := Lib.hid hg5; have HA5 := Lib.hid hat5; clear hL5 ho5 hg5 hat5)
      | fail)
  all_goals
    have HSL : Hid (Rd AnyB w5 (.sl (AL.map Sym.d)) [.slice (some ⟨g5, 0, none⟩) (rn + 1) c5]) := by
      have h1 := HO5.out
      rw [List.length_map, HRN.out, Nat.add_comm] at h1
      rw [HALL.out]
      refine rd_of_own h1 (ds := ((⟨false, lf⟩ : Sym) :: ru.right).map Sym.d) ?_ (by simp [HRN.out]) (fun _ _ => trivial)
      refine ⟨[.bool false, .int .i64 lf], L5, rfl, rd_sym ⟨false, lf⟩, ?_⟩
      exact RdAll.keep (fun q hq hlt => ⟨trivial, HG5.out.block q hlt (fun e => by simp [Value.ownBlock] at e; omega)⟩) _ _ HL5.out
    have HB6 : Hid (Below w.heap.size w w5) := HB0.out.trans (HB5.out.mono HB0.out.size)
    rw [List.length_map, HRN.out, Nat.add_comm 1 rn]
    have hrn := HRN4.out
    clear x0 x1 x2 x3 d0 d1
    by_cases hk1 : k < 0
    · have hk1' : decide (k < 0) = true := by simpa using hk1
      obtain rfl : rs = -1 := HOUT.out (.inl hk1)
      clear hk1
      go_wp2_with fail
      go_ret
      exact ⟨rfl, HB6.out⟩
    · have hk1' : decide (k < 0) = false := by simpa using hk1
      obtain ⟨i, hi⟩ : ∃ i : Nat, k = (i : Int) := ⟨k.toNat, by omega⟩
      subst hi
      by_cases hk2 : rn + 1 ≤ i
      · have hk2' : decide ((rn : Int) + 1 ≤ (i : Int)) = true := by simp; omega
        obtain rfl : rs = -1 := HOUT.out (.inr (by omega))
        clear hk1
        go_wp2_with fail
        go_ret
        exact ⟨rfl, HB6.out⟩
      · have hk2' : decide ((rn : Int) + 1 ≤ (i : Int)) = false := by simp; omega
        have hiA : i < AL.length := by rw [HLN.out]; omega
        have hi1 : (i : Int) < (rn : Int) + 1 := by omega
        have hi0 : (0 : Int) ≤ (i : Int) := by omega
        obtain ⟨b, off, hae, -, -, c0, c1⟩ := HSL.out.sym_at hiA
        cases hae
        have HE : Hid (rs = if AL[i].term then -1 else AL[i].n) := by show _ = _; rw [← HRS.out]; exact HIN.out i hiA
        obtain ⟨sy, HSY⟩ := nameIt (AL[i]'hiA)
        rw [HSY.out] at c0 c1 HE
        obtain ⟨st, HST⟩ := nameIt sy.term
        obtain ⟨sn, HSN⟩ := nameIt sy.n
        rw [HST.out] at c0 HE
        rw [HSN.out] at c1 HE
        simp only [Nat.zero_add] at c0 c1
        clear hk1
        cases st with
        | true =>
          obtain rfl : rs = -1 := HE.out
          go_wp2_with fail
          go_ret
          exact ⟨rfl, HB6.out⟩
        | false =>
          obtain rfl : rs = sn := HE.out
          go_wp2_with fail
          go_ret
          exact ⟨rfl, HB6.out⟩
end At
end Go.Proofs.YtfocooehnmpndaaGreat
