/- The values of parlref4.grid: (*grid).of. What parlref4.list reckons out of values of symbols, in plain Lean; bounds. repair.less, repair.hopeless, repair.then. A row of one-cell values in memory, written in place. Rows of ways in memory, written in place. slices.Index, Contains, IndexFunc and ContainsFunc of whole numbers. -/
import Derived.Test.YtjpmebppdcclbaaJHoleFillsRow2
import Derived.Deep.LoopGhost
import Derived.Deep.DeepCutAuto
import Derived.Deep.Cut
import Derived.Test.YtjpmebppdcclbaaJHoleFillsRow1
import Derived.Deep.OwnRows
import Derived.Shelf.Abstract
namespace Go.Proofs.Ytjpmebppdcclbaa
open Go.RowKit
namespace Rp

theorem wpU_2 {P : Program} {ops : Array Oper} {Q : Exit → Act → World → Prop} {md : Region.Mode} {S : World → Prop} {n i j : Nat} {o o' : Oper} {f : Nat} {listed : Array Bool} {a : Act} {w : World} (hr : Region.ready md ops listed = [i, j]) (ho : ops[i]? = some o) (ho' : ops[j]? = some o')
    (h : ∀ K : Act → World → Prop, OnU P md ops Q S n f (listed.setIfInBounds i true) K → if Region.wanted o (yielded ops a.tmps) = true then Oper.wp P o a w K Q else K (a.put o.dst undef) w)
    (h' : ∀ K : Act → World → Prop, OnU P md ops Q S n f (listed.setIfInBounds j true) K → if Region.wanted o' (yielded ops a.tmps) = true then Oper.wp P o' a w K Q else K (a.put o'.dst undef) w) : wpU P md ops Q S n (f + 1) listed a w := wpU_two hr ho ho' h h'
/-- a function value that answers with values -/
def LeafFn (fn : Nat) (lb : Array Value) (leafF : Sym → Nat → Nat → Option Val) (ok : Sym → Prop) (N : Nat) (P : Nat → Prop) (w : World) : Prop :=
  ∀ W (y : Sym) (i j : Nat), ok y → i ≤ j → j ≤ N → Below w.heap.size w W → Calls Try.prog fn (#[.agg #[.bool y.term, .int .i64 y.n], .int .i64 (i : Nat), .int .i64 (j : Nat)] ++ lb) W fun e w' => ∃ x, e = .returned x ∧ VR (fun k => P k ∨ W.heap.size ≤ k) w' x (leafF y i j) ∧ Below W.heap.size W w'
def ofT (leafF : Sym → Nat → Nat → Option Val) (T : Int → Nat → Nat → Option Val) (y : Sym) (i j : Nat) : Option Val :=
  if !y.term && lessB (T y.n i j) (leafF y i j) then T y.n i j else leafF y i j
/-- block b, made behind w0, holds o; its word lies elsewhere in blocks of P -/
def NV (w0 : World) (P : Nat → Prop) (b : Nat) (o : Option Val) (w : World) : Prop :=
  Below w0.heap.size w0 w ∧ w0.heap.size ≤ b ∧ ∃ u, w.heap[b]? = some (.cells #[.bool o.isSome, .int .i64 (oC o), .int .i64 (oN o), u] 36 (0, 0)) ∧ Rd (fun k => P k ∧ k ≠ b) w (D.ints (oW o)) [u]
theorem set4 {w : World} {b : Nat} {z0 z1 z2 z3 : Value} {T : TypeId} (h : w.heap[b]? = some (.cells #[z0, z1, z2, z3] T (0, 0))) (v0 v1 v2 v3 : Value) :
    ((((w.setCell ⟨b, 0, none⟩ v0).setCell ⟨b, 0 + 1, none⟩ v1).setCell ⟨b, 0 + 2, none⟩ v2).setCell ⟨b, 0 + 3, none⟩ v3).heap[b]? = some (.cells #[v0, v1, v2, v3] T (0, 0)) := by
  have h0 := bx_set h 0 v0
  have h1 := bx_set h0 (0 + 1) v1
  have h2 := bx_set h1 (0 + 2) v2
  have h3 := bx_set h2 (0 + 3) v3
  simpa using h3
theorem nv_mk {w0 w : World} {P : Nat → Prop} {b : Nat} {o : Option Val} {u z0 z1 z2 z3 : Value} (hb : Below w0.heap.size w0 w) (hbb : w0.heap.size ≤ b) (hz : w.heap[b]? = some (.cells #[z0, z1, z2, z3] 36 (0, 0)))
    (hr : Rd (fun k => P k ∧ k ≠ b) w (D.ints (oW o)) [u]) : NV w0 P b o ((((w.setCell ⟨b, 0, none⟩ (.bool o.isSome)).setCell ⟨b, 0 + 1, none⟩ (.int .i64 (oC o))).setCell ⟨b, 0 + 2, none⟩ (.int .i64 (oN o))).setCell ⟨b, 0 + 3, none⟩ u) := by
  have hg := grown_cell4 w b (.bool o.isSome) (.int .i64 (oC o)) (.int .i64 (oN o)) u
  refine ⟨hb.grown hg hb.size (fun k e => by cases e; exact hbb), hbb, u, set4 hz _ _ _ _, rd_grown hr hg ?_⟩
  intro k e h
  cases e
  exact h.2 rfl
section
variable {w0 w w' : World} {P : Nat → Prop} {b : Nat} {o : Option Val}
theorem NV.keep (h : NV w0 P b o w) (hb : Below w.heap.size w w') : NV w0 P b o w' := by
  obtain ⟨h1, h2, u, h3, h4⟩ := h
  exact ⟨h1.trans (hb.mono h1.size), h2, u, bx_keep h3 hb, h4.below hb⟩
theorem NV.mono {P' : Nat → Prop} (h : NV w0 P b o w) (hp : ∀ k, P k → P' k) : NV w0 P' b o w := by
  obtain ⟨h1, h2, u, h3, h4⟩ := h
  exact ⟨h1, h2, u, h3, h4.mono fun k hk _ => ⟨hp k hk.1, hk.2⟩⟩
theorem NV.vr (h : NV w0 P b o w) : ∃ u, w.heap[b]? = some (.cells #[.bool o.isSome, .int .i64 (oC o), .int .i64 (oN o), u] 36 (0, 0)) ∧ VR (fun k => P k ∧ k ≠ b) w (.agg #[.bool o.isSome, .int .i64 (oC o), .int .i64 (oN o), u]) o := by
  obtain ⟨h1, h2, u, h3, h4⟩ := h
  exact ⟨u, h3, u, rfl, h4⟩
theorem NV.lt (h : NV w0 P b o w) : b < w.heap.size := by
  obtain ⟨h1, h2, u, h3, h4⟩ := h
  exact (Array.getElem?_eq_some_iff.1 h3).1
theorem NV.grown {row : Option Nat} (h : NV w0 P b o w) (hg : w.grownBy w' row) (hr : row ≠ some b) (hp : ∀ k, row = some k → ¬ P k ∧ w0.heap.size ≤ k) : NV w0 P b o w' := by
  have hlt := h.lt
  obtain ⟨h1, h2, u, h3, h4⟩ := h
  exact ⟨h1.grown hg h1.size (fun k e => (hp k e).2), h2, u, (hg.block b hlt (fun e => hr e.symm)).trans h3, rd_grown h4 hg (fun k e hk => (hp k e).1 hk.1)⟩
end
set_option maxHeartbeats 4000000 in
set_option maxRecDepth 100000 in
theorem ofE (fn : Nat) (lb : Array Value) (leafF : Sym → Nat → Nat → Option Val) (ok : Sym → Prop) (N : Nat) (P : Nat → Prop) (w : World) (eg : ∀ args w, (callFunc fn args).run Try.prog w = .ok (.enter fn args) w) (hf : LeafFn fn lb leafF ok N P w) (gb mb : Nat) (gt gn gs gr nv ev : Value) (T : Int → Nat → Nat → Option Val) (y : Sym) (i j : Nat) (hy : ok y) (hk : okP y.n i j) (hij : i ≤ j) (hjn : j ≤ N) (W : World) (hw : Below w.heap.size w W) (hP : ∀ k, P k → k < W.heap.size)
    (hbox : W.heap[gb]? = some (.cells #[gt, gn, gs, gr, nv, .func (.func fn) #[] lb, ev, .map (some mb)] 122 (0, 0))) (hm : RMap P mb T W) :
    Calls Try.prog 42 #[.pointer (some ⟨gb, 0, none⟩), .agg #[.bool y.term, .int .i64 y.n], .int .i64 (i : Nat), .int .i64 (j : Nat)] W fun e w' => ∃ x, e = .returned x ∧ VR (fun k => P k ∨ W.heap.size ≤ k) w' x (ofT leafF T y i j) ∧ Below W.heap.size W w' := by
  obtain ⟨PST, HP⟩ := nameIt (fun (e : Ending) (w' : World) => ∃ x, e = .returned x ∧ VR (fun k => P k ∨ W.heap.size ≤ k) w' x (ofT leafF T y i j) ∧ Below W.heap.size W w')
  obtain ⟨r, HR⟩ := nameIt (ofT leafF T y i j)
  rw [HR.out] at HP
  have HFIN : Hid (∀ x w', VR (fun k => P k ∨ W.heap.size ≤ k) w' x r → Below W.heap.size W w' → PST (.returned x) w') := by
    intro x w' h1 h2; rw [← HP.out]; exact ⟨x, rfl, h1, h2⟩
  rw [HR.out, HP.out]
  clear HP
  have hr := HR.out
  clear HR
  unfold ofT at hr
  obtain ⟨bt, HBT⟩ := nameIt y.term
  obtain ⟨yn, HYN⟩ := nameIt y.n
  have hfl := hf
  unfold LeafFn at hfl
  obtain ⟨o, HO⟩ := nameIt (leafF y i j)
  have HLF : Hid (∀ W', Below W.heap.size W W' → Calls Try.prog fn (#[.agg #[.bool bt, .int .i64 yn], .int .i64 (i : Nat), .int .i64 (j : Nat)] ++ lb) W' fun e w' => ∃ x, e = .returned x ∧ VR (fun k => P k ∨ W'.heap.size ≤ k) w' x o ∧ Below W'.heap.size W' w') := by
    intro W' hb'
    have := hfl W' y i j hy hij hjn (hw.trans (hb'.mono hw.size))
    rw [HO.out, HBT.out, HYN.out] at this
    exact this
  rw [HO.out, HBT.out, HYN.out] at hr
  rw [HYN.out] at hk
  rw [HBT.out, HYN.out]
  obtain ⟨q, HQ⟩ := nameIt (T yn i j)
  rw [HQ.out] at hr
  have HR := Lib.hid hr
  have HK := Lib.hid hk
  have HM := Lib.hid hm
  have HBX := Lib.hid hbox
  have HPL := Lib.hid hP
  have hi' : (i : Int) ≤ 100 := by have := hk.2.1; omega
  have hj' : (j : Int) ≤ 100 := by have := hk.2.2; omega
  clear hr hk hm hbox hP hfl hf hw hy hij hjn HBT HYN HO
  obtain ⟨w0, HW⟩ := nameIt ((W.alloc (.cells #[.bool bt, .int .i64 yn] 44)).alloc (.cells #[.bool false, .int .i64 0, .int .i64 0, .slice none 0 0] 36))
  have hw0 : Below W.heap.size W w0 := by
    rw [← HW.out]
    exact ((Below.refl _ _).alloc (Nat.le_refl _) _).alloc (by simp) _
  have HSZ : Hid (w0.heap.size = W.heap.size + 1 + 1) := by show _ = _; rw [← HW.out]; simp
  have HZ0 : Hid (w0.heap[W.heap.size + 1]? = some (.cells #[.bool false, .int .i64 0, .int .i64 0, .slice none 0 0] 36 (0, 0))) := by
    rw [← HW.out]; exact bx_new _ _ _ (by simp)
  have HY0 : Hid (w0.heap[W.heap.size]? = some (.cells #[.bool bt, .int .i64 yn] 44 (0, 0))) := by
    rw [← HW.out]; exact bx_keep (bx_new _ _ _ rfl) ((Below.refl _ _).alloc (Nat.le_refl _) _)
  have HG0 := Lib.hid (bx_keep HBX.out hw0)
  have HM0 := Lib.hid (HM.out.keep hw0)
  have HB0 := Lib.hid hw0
  have HCS : Hid (∀ w', Below w0.heap.size w0 w' → w'.cell? ⟨gb, 0 + 5, none⟩ = some (.func (.func fn) #[] lb) ∧ w'.cell? ⟨gb, 0 + 7, none⟩ = some (.map (some mb)) ∧ w'.cell? ⟨W.heap.size, 0, none⟩ = some (.bool bt) ∧ w'.cell? ⟨W.heap.size, 0 + 1, none⟩ = some (.int .i64 yn)) := by
    intro w' hb'
    have g1 := bx_keep HG0.out hb'
    have g2 := bx_keep HY0.out hb'
    refine ⟨?_, ?_, ?_, ?_⟩ <;> simp [World.cell?, g1, g2]
  go_enter Try.func42, Try.ntmps42
  go_upto_region 1 with fail
  rw [HW.out]
  clear hw0 HW
  go_cut [9] (fun t wx => ∃ b1, t = .pointer (some ⟨b1, 0, none⟩) ∧ Hid (NV w0 (fun k => P k ∨ w0.heap.size ≤ k) b1 o wx))
  case first =>
    refine wp_region_U (S := (fun w' => w'.cell? ⟨gb, 0 + 5, none⟩ = some (.func (.func fn) #[] lb) ∧ w'.cell? ⟨gb, 0 + 7, none⟩ = some (.map (some mb)) ∧ w'.cell? ⟨W.heap.size, 0, none⟩ = some (.bool bt) ∧ w'.cell? ⟨W.heap.size, 0 + 1, none⟩ = some (.int .i64 yn))) 9 (by kernel_rfl) (fun inv => ?_)
    refine wpU_take (i := 0) (v := .pointer (some ⟨gb, 0, none⟩)) rfl inv (by kernel_rfl) (by kernel_rfl) (by decide) (by decide) (by kernel_rfl) (by kernel_rfl) (by kernel_rfl) (fun _ _ _ h => h) (Or.inl ⟨by rfl, fun w' hw' => ?_⟩) (HCS.out _ (Below.refl _ _).drew) (fun inv => ?_)
    · obtain ⟨h0, h1, h2, h3⟩ := hw'
      go_simp
    try simp only [Act.put, List.setIfInBounds_toArray, List.set_cons_zero, List.set_cons_succ]
    refine wpU_take (i := 1) (v := .pointer (some ⟨gb, 0, none⟩)) rfl inv (by kernel_rfl) (by kernel_rfl) (by decide) (by decide) (by kernel_rfl) (by kernel_rfl) (by kernel_rfl) (fun _ _ _ h => h) (Or.inl ⟨by rfl, fun w' hw' => ?_⟩) (HCS.out _ (Below.refl _ _).drew) (fun inv => ?_)
    · obtain ⟨h0, h1, h2, h3⟩ := hw'
      go_simp
    try simp only [Act.put, List.setIfInBounds_toArray, List.set_cons_zero, List.set_cons_succ]
    refine wpU_take (i := 2) (v := .pointer (some ⟨gb, 0 + 5, none⟩)) rfl inv (by kernel_rfl) (by kernel_rfl) (by decide) (by decide) (by kernel_rfl) (by kernel_rfl) (by kernel_rfl) (fun _ _ _ h => h) (Or.inl ⟨by rfl, fun w' hw' => ?_⟩) (HCS.out _ (Below.refl _ _).drew) (fun inv => ?_)
    · obtain ⟨h0, h1, h2, h3⟩ := hw'
      go_simp
    try simp only [Act.put, List.setIfInBounds_toArray, List.set_cons_zero, List.set_cons_succ]
    refine wpU_take (i := 3) (v := .func (.func fn) #[] lb) rfl inv (by kernel_rfl) (by kernel_rfl) (by decide) (by decide) (by kernel_rfl) (by kernel_rfl) (by kernel_rfl) (fun _ _ _ h => h) (Or.inl ⟨by rfl, fun w' hw' => ?_⟩) (HCS.out _ (Below.refl _ _).drew) (fun inv => ?_)
    · obtain ⟨h0, h1, h2, h3⟩ := hw'
      go_simp
    try simp only [Act.put, List.setIfInBounds_toArray, List.set_cons_zero, List.set_cons_succ]
    refine wpU_take (i := 4) (v := .agg #[.bool bt, .int .i64 yn]) rfl inv (by kernel_rfl) (by kernel_rfl) (by decide) (by decide) (by kernel_rfl) (by kernel_rfl) (by kernel_rfl) (fun _ _ _ h => h) (Or.inl ⟨by rfl, fun w' hw' => ?_⟩) (HCS.out _ (Below.refl _ _).drew) (fun inv => ?_)
    · obtain ⟨h0, h1, h2, h3⟩ := hw'
      go_simp
    try simp only [Act.put, List.setIfInBounds_toArray, List.set_cons_zero, List.set_cons_succ]
    refine wpU_take (i := 5) (v := .int .i64 (i : Nat)) rfl inv (by kernel_rfl) (by kernel_rfl) (by decide) (by decide) (by kernel_rfl) (by kernel_rfl) (by kernel_rfl) (fun _ _ _ h => h) (Or.inl ⟨by rfl, fun w' hw' => ?_⟩) (HCS.out _ (Below.refl _ _).drew) (fun inv => ?_)
    · obtain ⟨h0, h1, h2, h3⟩ := hw'
      go_simp
    try simp only [Act.put, List.setIfInBounds_toArray, List.set_cons_zero, List.set_cons_succ]
    refine wpU_take (i := 6) (v := .int .i64 (j : Nat)) rfl inv (by kernel_rfl) (by kernel_rfl) (by decide) (by decide) (by kernel_rfl) (by kernel_rfl) (by kernel_rfl) (fun _ _ _ h => h) (Or.inl ⟨by rfl, fun w' hw' => ?_⟩) (HCS.out _ (Below.refl _ _).drew) (fun inv => ?_)
    · obtain ⟨h0, h1, h2, h3⟩ := hw'
      go_simp
    try simp only [Act.put, List.setIfInBounds_toArray, List.set_cons_zero, List.set_cons_succ]
    refine wpU_2 (i := 7) (j := 8) (by kernel_rfl) rfl rfl (fun K hK => ?_) (fun K hK => ?_)
    ·
      replace inv := inv_setc (i := 7) inv (by kernel_rfl) (by decide)
      go_simp
      refine (HLF.out _ (HB0.out.trans ((Below.refl _ _).drew.mono HB0.out.size))).mono ?_
      rintro e w1 ⟨x1, rfl, ⟨u1, rfl, hu1⟩, hb1⟩
      have HB1 : Hid (Below w0.heap.size w0 w1) := (Below.refl w0.heap.size w0).drew.trans hb1
      have HU1 := Lib.hid hu1
      clear hu1 hb1
      obtain ⟨au, ku, rfl⟩ := (sl_rd HU1.out).form
      obtain ⟨mu, HMU⟩ := nameIt (ints (oW o)).length
      rw [HMU.out] at HU1 ⊢
      refine hK.out _ _ (fun _ => HCS.out _ HB1.out) ?_
      clear hK K
      try simp only [Act.put, List.setIfInBounds_toArray, List.set_cons_zero, List.set_cons_succ]
      refine wpU_one (i := 8) (by kernel_rfl) rfl (fun K hK => ?_)
      replace inv := inv_setc (i := 8) inv (by kernel_rfl) (by decide)
      go_simp
      have HB2 : Hid (Below w0.heap.size w0 (w1.alloc (.cells #[.bool false, .int .i64 0, .int .i64 0, .slice none 0 0] 36))) := HB1.out.alloc HB1.out.size _
      refine hK.out _ _ (fun _ => HCS.out _ HB2.out) ?_
      clear hK K
      try simp only [Act.put, List.setIfInBounds_toArray, List.set_cons_zero, List.set_cons_succ]
      refine wpU_one (i := 9) (by kernel_rfl) rfl (fun K hK => ?_)
      go_simp
      refine hK.out _ _ (fun h => absurd (show true = false from h) (by decide)) ?_
      clear hK K
      try simp only [Act.put, List.setIfInBounds_toArray, List.set_cons_zero, List.set_cons_succ]
      refine wpU_done (by kernel_rfl) ?_ _
      go_wp2_with fail
      go_meet
      have hs1 := HB1.out.size
      refine ⟨w1.heap.size, rfl, ?_⟩
      show NV _ _ _ _ _
      refine ⟨HB1.out.alloc hs1 _, hs1, _, bx_new w1 _ _ rfl, (HU1.out.mono (fun k hk hl => ⟨hk, ?_⟩)).below ((Below.refl _ _).alloc (Nat.le_refl _) _)⟩
      omega
    ·
      replace inv := inv_setc (i := 8) inv (by kernel_rfl) (by decide)
      go_simp
      have HB1 : Hid (Below w0.heap.size w0 (w0.drew.alloc (.cells #[.bool false, .int .i64 0, .int .i64 0, .slice none 0 0] 36))) := (Below.refl w0.heap.size w0).drew.alloc (Nat.le_refl _) _
      refine hK.out _ _ (fun _ => HCS.out _ HB1.out) ?_
      clear hK K
      try simp only [Act.put, List.setIfInBounds_toArray, List.set_cons_zero, List.set_cons_succ]
      refine wpU_one (i := 7) (by kernel_rfl) rfl (fun K hK => ?_)
      replace inv := inv_setc (i := 7) inv (by kernel_rfl) (by decide)
      go_simp
      refine (HLF.out _ (HB0.out.trans (HB1.out.mono HB0.out.size))).mono ?_
      rintro e w1 ⟨x1, rfl, ⟨u1, rfl, hu1⟩, hb1⟩
      have HB2 : Hid (Below w0.heap.size w0 w1) := HB1.out.trans (hb1.mono HB1.out.size)
      have HU1 := Lib.hid hu1
      have HZ1 : Hid (w1.heap[w0.heap.size]? = some (.cells #[.bool false, .int .i64 0, .int .i64 0, .slice none 0 0] 36 (0, 0))) := bx_keep (bx_new w0.drew _ _ rfl) hb1
      clear hu1 hb1
      obtain ⟨au, ku, rfl⟩ := (sl_rd HU1.out).form
      obtain ⟨mu, HMU⟩ := nameIt (ints (oW o)).length
      rw [HMU.out] at HU1 ⊢
      refine hK.out _ _ (fun _ => HCS.out _ HB2.out) ?_
      clear hK K
      try simp only [Act.put, List.setIfInBounds_toArray, List.set_cons_zero, List.set_cons_succ]
      refine wpU_one (i := 9) (by kernel_rfl) rfl (fun K hK => ?_)
      obtain ⟨f0, f1, f2, f3⟩ := bx_free4 HZ1.out
      obtain ⟨e0, e1, e2, e3⟩ := bx_cells4 HZ1.out
      go_simp
      refine hK.out _ _ (fun h => absurd (show true = false from h) (by decide)) ?_
      clear hK K
      try simp only [Act.put, List.setIfInBounds_toArray, List.set_cons_zero, List.set_cons_succ]
      refine wpU_done (by kernel_rfl) ?_ _
      go_wp2_with fail
      go_meet
      have hs0 := HSZ.out
      refine ⟨w0.heap.size, rfl, ?_⟩
      show NV _ _ _ _ _
      refine nv_mk (o := o) HB2.out (Nat.le_refl _) HZ1.out (HU1.out.mono (fun k hk hl => ?_))
      rcases hk with hk | hk
      · have := HPL.out k hk
        exact ⟨.inl hk, by omega⟩
      · have hk2 : w0.heap.size + 1 ≤ k := by simpa using hk
        exact ⟨.inr (by omega), by omega⟩
  case rest =>
    obtain ⟨b1, rfl, HN1⟩ := hcut
    obtain ⟨w1, HW1⟩ := nameIt wc
    rw [HW1.out] at HN1 ⊢
    clear HW1
    have hb1 := HN1.out.1
    have HB1 := Lib.hid hb1
    have HM1 := Lib.hid (HM0.out.keep hb1)
    obtain ⟨x2, hlk, hvx⟩ := HM1.out.looks (b := bt) HK.out
    have HLK := Lib.hid hlk
    rw [HQ.out] at hvx
    obtain ⟨p, HPP⟩ := nameIt (if bt = true then none else q)
    rw [HPP.out] at hvx
    have HVX := Lib.hid hvx
    clear hb1 hlk hvx
    have HCS2 : Hid (∀ w', Below w1.heap.size w1 w' → w'.cell? ⟨gb, 0 + 7, none⟩ = some (.map (some mb)) ∧ w'.cell? ⟨W.heap.size, 0, none⟩ = some (.bool bt) ∧ w'.cell? ⟨W.heap.size, 0 + 1, none⟩ = some (.int .i64 yn) ∧ (Instr.lookup 120 (.map (some mb)) (.agg #[.bool bt, .int .i64 yn, .int .i64 (i : Nat), .int .i64 (j : Nat)]) false).run Try.prog w' = .ok x2 w') := by
      intro w' hb'
      obtain ⟨h1, h2, h3, h4⟩ := HCS.out w' (HB1.out.trans (hb'.mono HB1.out.size))
      exact ⟨h2, h3, h4, HLK.out w' hb'⟩
    go_upto_region 2 with fail
    go_cut [10] (fun t wx => ∃ b2, t = .pointer (some ⟨b2, 0, none⟩) ∧ Hid (NV w1 P b2 p wx))
    case first =>
      obtain ⟨u2, rfl, hu2⟩ := HVX.out
      have HU2 := Lib.hid hu2
      clear hu2
      obtain ⟨au, ku, rfl⟩ := (sl_rd HU2.out).form
      obtain ⟨mu, HMU⟩ := nameIt (ints (oW p)).length
      rw [HMU.out] at HU2 HCS2
      refine wp_region_U (S := (fun w' => w'.cell? ⟨gb, 0 + 7, none⟩ = some (.map (some mb)) ∧ w'.cell? ⟨W.heap.size, 0, none⟩ = some (.bool bt) ∧ w'.cell? ⟨W.heap.size, 0 + 1, none⟩ = some (.int .i64 yn) ∧ (Instr.lookup 120 (.map (some mb)) (.agg #[.bool bt, .int .i64 yn, .int .i64 (i : Nat), .int .i64 (j : Nat)]) false).run Try.prog w' = .ok (.agg #[.bool p.isSome, .int .i64 (oC p), .int .i64 (oN p), .slice au mu ku]) w')) 10 (by kernel_rfl) (fun inv => ?_)
      refine wpU_take (i := 0) (v := .pointer (some ⟨gb, 0, none⟩)) rfl inv (by kernel_rfl) (by kernel_rfl) (by decide) (by decide) (by kernel_rfl) (by kernel_rfl) (by kernel_rfl) (fun _ _ _ h => h) (Or.inl ⟨by rfl, fun w' hw' => ?_⟩) (HCS2.out _ (Below.refl _ _).drew) (fun inv => ?_)
      · obtain ⟨h0, h1, h2, h3⟩ := hw'
        go_simp
      try simp only [Act.put, List.setIfInBounds_toArray, List.set_cons_zero, List.set_cons_succ]
      refine wpU_take (i := 1) (v := .pointer (some ⟨gb, 0, none⟩)) rfl inv (by kernel_rfl) (by kernel_rfl) (by decide) (by decide) (by kernel_rfl) (by kernel_rfl) (by kernel_rfl) (fun _ _ _ h => h) (Or.inl ⟨by rfl, fun w' hw' => ?_⟩) (HCS2.out _ (Below.refl _ _).drew) (fun inv => ?_)
      · obtain ⟨h0, h1, h2, h3⟩ := hw'
        go_simp
      try simp only [Act.put, List.setIfInBounds_toArray, List.set_cons_zero, List.set_cons_succ]
      refine wpU_take (i := 2) (v := .pointer (some ⟨gb, 0 + 7, none⟩)) rfl inv (by kernel_rfl) (by kernel_rfl) (by decide) (by decide) (by kernel_rfl) (by kernel_rfl) (by kernel_rfl) (fun _ _ _ h => h) (Or.inl ⟨by rfl, fun w' hw' => ?_⟩) (HCS2.out _ (Below.refl _ _).drew) (fun inv => ?_)
      · obtain ⟨h0, h1, h2, h3⟩ := hw'
        go_simp
      try simp only [Act.put, List.setIfInBounds_toArray, List.set_cons_zero, List.set_cons_succ]
      refine wpU_take (i := 3) (v := .map (some mb)) rfl inv (by kernel_rfl) (by kernel_rfl) (by decide) (by decide) (by kernel_rfl) (by kernel_rfl) (by kernel_rfl) (fun _ _ _ h => h) (Or.inl ⟨by rfl, fun w' hw' => ?_⟩) (HCS2.out _ (Below.refl _ _).drew) (fun inv => ?_)
      · obtain ⟨h0, h1, h2, h3⟩ := hw'
        go_simp
      try simp only [Act.put, List.setIfInBounds_toArray, List.set_cons_zero, List.set_cons_succ]
      refine wpU_take (i := 4) (v := .agg #[.bool bt, .int .i64 yn]) rfl inv (by kernel_rfl) (by kernel_rfl) (by decide) (by decide) (by kernel_rfl) (by kernel_rfl) (by kernel_rfl) (fun _ _ _ h => h) (Or.inl ⟨by rfl, fun w' hw' => ?_⟩) (HCS2.out _ (Below.refl _ _).drew) (fun inv => ?_)
      · obtain ⟨h0, h1, h2, h3⟩ := hw'
        go_simp
      try simp only [Act.put, List.setIfInBounds_toArray, List.set_cons_zero, List.set_cons_succ]
      refine wpU_take (i := 5) (v := .int .i64 (i : Nat)) rfl inv (by kernel_rfl) (by kernel_rfl) (by decide) (by decide) (by kernel_rfl) (by kernel_rfl) (by kernel_rfl) (fun _ _ _ h => h) (Or.inl ⟨by rfl, fun w' hw' => ?_⟩) (HCS2.out _ (Below.refl _ _).drew) (fun inv => ?_)
      · obtain ⟨h0, h1, h2, h3⟩ := hw'
        go_simp
      try simp only [Act.put, List.setIfInBounds_toArray, List.set_cons_zero, List.set_cons_succ]
      refine wpU_take (i := 6) (v := .int .i64 (j : Nat)) rfl inv (by kernel_rfl) (by kernel_rfl) (by decide) (by decide) (by kernel_rfl) (by kernel_rfl) (by kernel_rfl) (fun _ _ _ h => h) (Or.inl ⟨by rfl, fun w' hw' => ?_⟩) (HCS2.out _ (Below.refl _ _).drew) (fun inv => ?_)
      · obtain ⟨h0, h1, h2, h3⟩ := hw'
        go_simp
      try simp only [Act.put, List.setIfInBounds_toArray, List.set_cons_zero, List.set_cons_succ]
      refine wpU_take (i := 7) (v := .agg #[.bool bt, .int .i64 yn, .int .i64 (i : Nat), .int .i64 (j : Nat)]) rfl inv (by kernel_rfl) (by kernel_rfl) (by decide) (by decide) (by kernel_rfl) (by kernel_rfl) (by kernel_rfl) (fun _ _ _ h => h) (Or.inl ⟨by rfl, fun w' hw' => ?_⟩) (HCS2.out _ (Below.refl _ _).drew) (fun inv => ?_)
      · obtain ⟨h0, h1, h2, h3⟩ := hw'
        go_simp
      try simp only [Act.put, List.setIfInBounds_toArray, List.set_cons_zero, List.set_cons_succ]
      refine wpU_take (i := 8) (v := .agg #[.bool p.isSome, .int .i64 (oC p), .int .i64 (oN p), .slice au mu ku]) rfl inv (by kernel_rfl) (by kernel_rfl) (by decide) (by decide) (by kernel_rfl) (by kernel_rfl) (by kernel_rfl) (fun _ _ _ h => h) (Or.inl ⟨by rfl, fun w' hw' => ?_⟩) (HCS2.out _ (Below.refl _ _).drew) (fun inv => ?_)
      · obtain ⟨h0, h1, h2, h3⟩ := hw'
        go_simp
      try simp only [Act.put, List.setIfInBounds_toArray, List.set_cons_zero, List.set_cons_succ]
      refine wpU_one (i := 9) (by kernel_rfl) rfl (fun K hK => ?_)
      replace inv := inv_setc (i := 9) inv (by kernel_rfl) (by decide)
      go_simp
      have HB2 : Hid (Below w1.heap.size w1 (w1.drew.alloc (.cells #[.bool false, .int .i64 0, .int .i64 0, .slice none 0 0] 36))) := (Below.refl w1.heap.size w1).drew.alloc (Nat.le_refl _) _
      refine hK.out _ _ (fun _ => HCS2.out _ HB2.out) ?_
      clear hK K
      try simp only [Act.put, List.setIfInBounds_toArray, List.set_cons_zero, List.set_cons_succ]
      refine wpU_one (i := 10) (by kernel_rfl) rfl (fun K hK => ?_)
      go_simp
      refine hK.out _ _ (fun h => absurd (show true = false from h) (by decide)) ?_
      clear hK K
      try simp only [Act.put, List.setIfInBounds_toArray, List.set_cons_zero, List.set_cons_succ]
      refine wpU_done (by kernel_rfl) ?_ _
      go_wp2_with fail
      go_meet
      refine ⟨w1.heap.size, rfl, ?_⟩
      show NV _ _ _ _ _
      refine ⟨(Below.refl w1.heap.size w1).drew.alloc (Nat.le_refl _) _, Nat.le_refl _, _, bx_new w1.drew _ _ rfl, (HU2.out.mono (fun k hk hl => ⟨hk, ?_⟩)).below ((Below.refl w1.heap.size w1).drew.alloc (Nat.le_refl _) _)⟩
      omega
    case rest =>
      obtain ⟨b2, rfl, HN2⟩ := hcut
      obtain ⟨w2, HW2⟩ := nameIt wc
      rw [HW2.out] at HN2 ⊢
      clear HW2
      have hb2 := HN2.out.1
      have hb02 := HB1.out.trans (hb2.mono HB1.out.size)
      have HB2 := Lib.hid hb02
      have HN1b := HN1.out.keep hb2
      obtain ⟨u1, hx1, hv1⟩ := HN1b.vr
      obtain ⟨u2, hx2, hv2⟩ := HN2.out.vr
      have HZ2 := Lib.hid (bx_keep HZ0.out hb02)
      have HY2 := Lib.hid (bx_keep HY0.out hb02)
      have HX1 := Lib.hid hx1
      have HX2 := Lib.hid hx2
      have HV1 : Hid (VR (fun k => (P k ∨ W.heap.size ≤ k) ∧ k ≠ W.heap.size + 1) w2 (.agg #[.bool o.isSome, .int .i64 (oC o), .int .i64 (oN o), u1]) o) := hv1.mono (fun k hk _ => by
        have := HSZ.out
        rcases hk.1 with h | h
        · have := HPL.out k h
          exact ⟨.inl h, by omega⟩
        · exact ⟨.inr (by omega), by omega⟩)
      have HV2 : Hid (VR (fun k => (P k ∨ W.heap.size ≤ k) ∧ k ≠ W.heap.size + 1) w2 (.agg #[.bool p.isSome, .int .i64 (oC p), .int .i64 (oN p), u2]) p) := hv2.mono (fun k hk _ => by
        have := HPL.out k hk.1
        exact ⟨.inl hk.1, by omega⟩)
      have fu : ∀ (o : Option Val) u, VR (fun k => (P k ∨ W.heap.size ≤ k) ∧ k ≠ W.heap.size + 1) w2 (.agg #[.bool o.isSome, .int .i64 (oC o), .int .i64 (oN o), u]) o → ∃ a m k, u = .slice a m k := by
        rintro o u ⟨u', e, h⟩
        simp at e
        subst e
        obtain ⟨a, k, e⟩ := (sl_rd h).form
        exact ⟨_, _, _, e⟩
      obtain ⟨a1, m1, k1, rfl⟩ := fu _ _ HV1.out
      obtain ⟨a2, m2, k2, rfl⟩ := fu _ _ HV2.out
      have HEND : Hid (∀ w3, Below w2.heap.size w2 w3 → ∀ (o : Option Val) u, VR (fun k => (P k ∨ W.heap.size ≤ k) ∧ k ≠ W.heap.size + 1) w2 (.agg #[.bool o.isSome, .int .i64 (oC o), .int .i64 (oN o), u]) o → o = r →
          PST (.returned (.agg #[.bool o.isSome, .int .i64 (oC o), .int .i64 (oN o), u])) ((((w3.setCell ⟨W.heap.size + 1, 0, none⟩ (.bool o.isSome)).setCell ⟨W.heap.size + 1, 0 + 1, none⟩ (.int .i64 (oC o))).setCell ⟨W.heap.size + 1, 0 + 2, none⟩ (.int .i64 (oN o))).setCell ⟨W.heap.size + 1, 0 + 3, none⟩ u)) := by
        intro w3 hb3 o u hv e
        subst e
        have hg := grown_cell4 w3 (W.heap.size + 1) (.bool o.isSome) (.int .i64 (oC o)) (.int .i64 (oN o)) u
        have hB : Below W.heap.size W w3 := HB0.out.trans ((HB2.out.trans (hb3.mono HB2.out.size)).mono HB0.out.size)
        refine HFIN.out _ _ (((hv.below hb3).grown hg ?_).mono (fun k h _ => h.1)) (hB.grown hg hB.size ?_)
        · intro k e h
          cases e
          exact h.2 rfl
        · intro k e
          cases e
          omega
      clear hx1 hx2 hv1 hv2 hb2 hb02 HN1b fu
      obtain ⟨p0, p1, p2, p3⟩ := bx_cells4 HX1.out
      obtain ⟨q0, q1, q2, q3⟩ := bx_cells4 HX2.out
      obtain ⟨z0, z1, z2, z3⟩ := bx_cells4 HZ2.out
      obtain ⟨f0, f1, f2, f3⟩ := bx_free4 HZ2.out
      obtain ⟨y0, y1⟩ := bx_cells2 HY2.out
      cases bt with
      | true =>
        have HRE : Hid (o = r) := by show _ = _; have := HR.out; simpa using this
        go_wp2_with fail
        refine bodyPost_ret (v := .agg #[.bool o.isSome, .int .i64 (oC o), .int .i64 (oN o), .slice a1 m1 k1]) (by simp [results, Try.results42, go_sem, z0, z1, z2, z3]) rfl ?_
        exact HEND.out _ (Below.refl _ _) o _ HV1.out HRE.out
      | false =>
        have HPQ : Hid (q = p) := by show _ = _; have := HPP.out; simpa using this
        go_wp2_with fail
        refine (lessE _ _ p o _ _ _ HV2.out HV1.out).mono ?_
        rintro e w3 ⟨rfl, hb3⟩
        have HB3 := Lib.hid hb3
        obtain ⟨z0, z1, z2, z3⟩ := bx_cells4 (bx_keep HZ2.out hb3)
        obtain ⟨f0, f1, f2, f3⟩ := bx_free4 (bx_keep HZ2.out hb3)
        obtain ⟨p0, p1, p2, p3⟩ := bx_cells4 (bx_keep HX1.out hb3)
        obtain ⟨q0, q1, q2, q3⟩ := bx_cells4 (bx_keep HX2.out hb3)
        obtain ⟨l, HLE⟩ := nameIt (lessB p o)
        rw [HLE.out]
        have HRE : Hid ((if l then p else o) = r) := by
          show _ = _
          have := HR.out
          rw [HPQ.out, HLE.out] at this
          simpa using this
        clear hb3
        cases l with
        | true =>
          have HRE2 : Hid (p = r) := by show _ = _; have := HRE.out; simpa using this
          go_wp2_with fail
          refine bodyPost_ret (v := .agg #[.bool p.isSome, .int .i64 (oC p), .int .i64 (oN p), .slice a2 m2 k2]) (by simp [results, Try.results42, go_sem, z0, z1, z2, z3]) rfl ?_
          exact HEND.out _ HB3.out p _ HV2.out HRE2.out
        | false =>
          have HRE2 : Hid (o = r) := by show _ = _; have := HRE.out; simpa using this
          go_wp2_with fail
          refine bodyPost_ret (v := .agg #[.bool o.isSome, .int .i64 (oC o), .int .i64 (oN o), .slice a1 m1 k1]) (by simp [results, Try.results42, go_sem, z0, z1, z2, z3]) rfl ?_
          exact HEND.out _ HB3.out o _ HV1.out HRE2.out
end Rp
end Go.Proofs.Ytjpmebppdcclbaa
namespace Go.Proofs.Ytjpmebppdcclbaa
namespace Rp

def WfO (o : Option Val) : Prop := ∀ v, o = some v → Wf v
/-- the best of the splits of the first k places -/
def bestCons (V : Sym → Nat → Nat → Option Val) (s : Sym) (rest : Nat → Option Val) (i : Nat) : Nat → Option Val
  | 0 => none
  | k + 1 => if (V s i (i + k)).isSome && lessB (bothO (V s i (i + k)) (rest (i + k))) (bestCons V s rest i k) then bothO (V s i (i + k)) (rest (i + k)) else bestCons V s rest i k
def lstV (V : Sym → Nat → Nat → Option Val) : List Sym → Nat → Nat → Option Val
  | [], _, _ => none
  | [s], i, j => V s i j
  | s :: t :: l, i, j => bestCons V s (fun m => lstV V (t :: l) m j) i (j + 1 - i)
/-- well formed, costs and sizes at most M -/
def Bd (M : Nat) (o : Option Val) : Prop := WfO o ∧ oC o ≤ M ∧ oN o ≤ M
theorem Bd.w {M : Nat} {o : Option Val} (h : Bd M o) : (oW o).length ≤ 2000 := by
  cases o with
  | none => simp [oW]
  | some v =>
    rcases h.1 v rfl with ⟨h1, h2⟩ | ⟨_, h2⟩
    · show v.w.length ≤ 2000
      unfold maxL at h1; omega
    · show v.w.length ≤ 2000
      rw [h2]; simp
theorem Bd.mono {M M' : Nat} {o : Option Val} (h : Bd M o) (hm : M ≤ M') : Bd M' o := ⟨h.1, Nat.le_trans h.2.1 hm, Nat.le_trans h.2.2 hm⟩
theorem bd_none (M : Nat) : Bd M none := ⟨fun v h => (by cases h), Nat.zero_le _, Nat.zero_le _⟩
theorem bd_both {M M' : Nat} {o p : Option Val} (h : Bd M o) (h' : Bd M' p) : Bd (M + M') (bothO o p) := by
  cases o with
  | none => exact bd_none _
  | some a =>
    cases p with
    | none => exact bd_none _
    | some b =>
      refine ⟨fun v e => ?_, ?_, ?_⟩
      · cases e; exact wf_thn (h.1 a rfl) (h'.1 b rfl)
      · exact Nat.add_le_add h.2.1 h'.2.1
      · exact Nat.add_le_add h.2.2 h'.2.2
theorem bd_bestCons {V : Sym → Nat → Nat → Option Val} {s : Sym} {rest : Nat → Option Val} {i M M' : Nat} : ∀ k, (∀ m, i ≤ m → m < i + k → Bd M (V s i m) ∧ Bd M' (rest m)) → Bd (M + M') (bestCons V s rest i k)
  | 0, _ => bd_none _
  | k + 1, h => by
    unfold bestCons
    split
    · exact bd_both (h _ (by omega) (by omega)).1 (h _ (by omega) (by omega)).2
    · exact bd_bestCons k (fun m h1 h2 => h m h1 (by omega))
theorem bd_lst {V : Sym → Nat → Nat → Option Val} {M N : Nat} : ∀ {l : List Sym} {i j : Nat}, (∀ s ∈ l, ∀ i j, i ≤ j → j ≤ N → Bd M (V s i j)) → i ≤ j → j ≤ N → Bd (l.length * M) (lstV V l i j)
  | [], _, _, _, _, _ => bd_none _
  | [s], i, j, h, h1, h2 => (h s (by simp) i j h1 h2).mono (by simp)
  | s :: t :: l, i, j, h, h1, h2 => by
    unfold lstV
    refine (bd_bestCons (M := M) (M' := (t :: l).length * M) _ (fun m h3 h4 => ⟨h s (by simp) _ _ h3 (by omega), bd_lst (fun s hs => h s (by simp [List.mem_cons] at hs ⊢; exact .inr hs)) (by omega) h2⟩)).mono ?_
    simp [Nat.add_mul]; omega
end Rp
end Go.Proofs.Ytjpmebppdcclbaa
namespace Go.Proofs.Ytjpmebppdcclbaa
open Go.RowKit
namespace Rp

/-- the value x of repair.way reads as o; its word lies in blocks of P -/
def WR (P : Nat → Prop) (W : World) (x : Value) (o : Option Val) : Prop :=
  ∃ u, x = .agg #[.int .i64 (oC o), .int .i64 (oN o), u, .bool o.isSome] ∧ Rd P W (D.ints (oW o)) [u]
theorem WR.below {P : Nat → Prop} {W W' : World} {x : Value} {o : Option Val} (h : WR P W x o) (hb : Below W.heap.size W W') : WR P W' x o := by
  obtain ⟨u, h1, h2⟩ := h; exact ⟨u, h1, h2.below hb⟩
theorem WR.mono {P P' : Nat → Prop} {W : World} {x : Value} {o : Option Val} (h : WR P W x o) (hp : ∀ k, P k → k < W.heap.size → P' k) : WR P' W x o := by
  obtain ⟨u, h1, h2⟩ := h; exact ⟨u, h1, h2.mono hp⟩
theorem WR.grown {P : Nat → Prop} {W W' : World} {x : Value} {o : Option Val} (h : WR P W x o) {row : Option Nat} (hg : W.grownBy W' row) (hr : ∀ k, row = some k → ¬ P k) : WR P W' x o := by
  obtain ⟨u, h1, h2⟩ := h; exact ⟨u, h1, rd_grown h2 hg hr⟩
theorem WR.form {P : Nat → Prop} {w : World} {x : Value} {o : Option Val} (h : WR P w x o) : ∃ a m k, x = .agg #[.int .i64 (oC o), .int .i64 (oN o), .slice a m k, .bool o.isSome] ∧ Rd P w (D.ints (oW o)) [.slice a m k] := by
  obtain ⟨u, rfl, h⟩ := h
  obtain ⟨a, k, rfl⟩ := (sl_rd h).form
  exact ⟨_, _, _, rfl, h⟩
theorem rd_nil (P : Nat → Prop) (W : World) : Rd P W (D.ints []) [.slice none 0 0] := ⟨none, 0, [], rfl, Nat.le_refl _, by simp, fun _ => rfl, fun i hi => by simp at hi, by simp [RdAll]⟩
theorem cmpL_nil : cmpL [] [] = 0 := rfl
theorem lessX_tt (c n c' n' : Nat) (l l' : List Int) : lessX true c n l true c' n' l' = if c ≠ c' then decide (c < c') else if n ≠ n' then decide (n < n') else decide (n ≤ 2000) && decide (cmpL l l' < 0) := rfl
theorem orL3 (a b c : Int) : orL [a, b, c] = if a = 0 then (if b = 0 then c else b) else a := by
  by_cases h1 : a = 0 <;> by_cases h2 : b = 0 <;> by_cases h3 : c = 0 <;> simp [orL, h1, h2, h3]
theorem orL2 (a b : Int) : orL [a, b] = if a = 0 then b else a := by
  by_cases h1 : a = 0 <;> by_cases h2 : b = 0 <;> simp [orL, h1, h2]
theorem or_less {a b : Val} (ha : Wf a) (hb : Wf b) : decide (orL [cmp3 (a.c : Int) (b.c : Int), cmp3 (a.n : Int) (b.n : Int), cmpL a.w b.w] < 0) = lessB (some a) (some b) := by
  have h3 : ∀ x y : Nat, x ≠ y → ¬ cmp3 (x : Int) (y : Int) = 0 := fun x y h e => h (by have := cmp3_zero e; omega)
  have h4 : ∀ x y : Nat, x ≠ y → (cmp3 (x : Int) (y : Int) < 0 ↔ x < y) := by
    intro x y h
    unfold cmp3
    by_cases h1 : (x : Int) < (y : Int)
    · rw [if_pos h1]; simp; omega
    · rw [if_neg h1, if_pos (by omega)]; simp; omega
  show _ = lessX true a.c a.n a.w true b.c b.n b.w
  rw [orL3, lessX_tt]
  by_cases h1 : a.c = b.c
  · by_cases h2 : a.n = b.n
    · by_cases hl : b.n ≤ 2000
      · simp [h1, h2, cmp3_self, hl]
      · have e1 : a.w = [] := by
          rcases ha with ⟨h, _⟩ | ⟨_, h⟩
          · unfold maxL at h; omega
          · exact h
        have e2 : b.w = [] := by
          rcases hb with ⟨h, _⟩ | ⟨_, h⟩
          · unfold maxL at h; omega
          · exact h
        simp [h1, h2, cmp3_self, hl, e1, e2, cmpL_nil]
    · simp [h1, cmp3_self, h3 _ _ h2, h2, h4 _ _ h2]
  · simp [h3 _ _ h1, h1, h4 _ _ h1]
end Rp
end Go.Proofs.Ytjpmebppdcclbaa
namespace Go.Proofs.Ytjpmebppdcclbaa
open Go.RowKit

theorem made_atV (z : Value) (n j : Nat) (h : j < n) : (madeCells #[z] n)[j]? = some z := by
  simp [madeCells, h, Nat.mod_one]
/-- the row in block g has m cells, A k at place k -/
def Vrow (e : TypeId) (g m : Nat) (A : Nat → Value) (wr : World) : Prop := ∃ cs, wr.heap[g]? = some (.cells cs e (0, 0)) ∧ cs.size = m ∧ ∀ k, k < m → cs[k]? = some (A k)
section
variable {e : TypeId} {g m : Nat} {A A' : Nat → Value} {wr w' : World}
theorem Vrow.lt (h : Vrow e g m A wr) : g < wr.heap.size := by obtain ⟨cs, h1, _⟩ := h; exact (Array.getElem?_eq_some_iff.1 h1).1
theorem Vrow.keep (h : Vrow e g m A wr) (hb : Below wr.heap.size wr w') : Vrow e g m A w' := by obtain ⟨cs, h1, h2⟩ := h; exact ⟨cs, bx_keep h1 hb, h2⟩
theorem Vrow.grown {row : Option Nat} (h : Vrow e g m A wr) (hg : wr.grownBy w' row) (hr : row ≠ some g) : Vrow e g m A w' := by obtain ⟨cs, h1, h2⟩ := h; exact ⟨cs, (hg.block g (Array.getElem?_eq_some_iff.1 h1).1 (fun e => hr e.symm)).trans h1, h2⟩
theorem Vrow.cell (h : Vrow e g m A wr) {k : Nat} (hk : k < m) : wr.cell? ⟨g, k, none⟩ = some (A k) := by obtain ⟨cs, h1, h2, h3⟩ := h; simp [World.cell?, h1, h3 k hk]
theorem Vrow.free (h : Vrow e g m A wr) (k : Nat) : wr.frozen? ⟨g, k, none⟩ = false := by obtain ⟨cs, h1, h2, h3⟩ := h; simp [World.frozen?, h1]
theorem Vrow.eq (h : Vrow e g m A wr) (he : ∀ k, k < m → A k = A' k) : Vrow e g m A' wr := by obtain ⟨cs, h1, h2, h3⟩ := h; exact ⟨cs, h1, h2, fun k hk => by rw [h3 k hk, he k hk]⟩
theorem Vrow.set (h : Vrow e g m A wr) {j : Nat} {x : Value} (hj : j < m) (he : ∀ k, k < m → A' k = if k = j then x else A k) : Vrow e g m A' (wr.setCell ⟨g, j, none⟩ x) := by
  obtain ⟨cs, h1, h2, h3⟩ := h
  refine ⟨cs.setIfInBounds j x, bx_set h1 _ _, by simpa using h2, fun k hk => ?_⟩
  rw [Array.getElem?_setIfInBounds, he k hk]
  by_cases e : j = k
  · subst e; rw [if_pos rfl, if_pos (by omega)]; simp
  · rw [if_neg e, h3 k hk, if_neg (fun h => e h.symm)]
theorem Vrow.other (h : Vrow e g m A wr) {b : Nat} (hne : g ≠ b) (j : Nat) (v : Value) : Vrow e g m A (wr.setCell ⟨b, j, none⟩ v) := by obtain ⟨cs, h1, h2⟩ := h; exact ⟨cs, bx_other h1 hne _ _, h2⟩
theorem vrow_new (w : World) (e : TypeId) (z : Value) (m : Nat) {g : Nat} (hg : g = w.heap.size) : Vrow e g m (fun _ => z) (w.alloc (.cells (madeCells #[z] m) e)) := by
  subst hg
  exact ⟨_, bx_new _ _ _ rfl, size_madeCells _ _, fun k hk => made_atV _ _ _ hk⟩
end
end Go.Proofs.Ytjpmebppdcclbaa
namespace Go.Proofs.Ytjpmebppdcclbaa
open Go.RowKit
namespace Rp

/-- the four cells of a way -/
def wcells (o : Option Val) (u : Value) : List Value := [.int .i64 (oC o), .int .i64 (oN o), u, .bool o.isSome]
/-- block g is a row of m ways; their words lie in blocks of P -/
def WRow (P : Nat → Prop) (g m : Nat) (A : Nat → Option Val) (w : World) : Prop :=
  ∃ cs, w.heap[g]? = some (.cells cs 72 (0, 0)) ∧ cs.size = m * 4 ∧ ∀ j, j < m → ∃ u, (∀ c (h : c < 4), cs[j * 4 + c]? = some ((wcells (A j) u)[c]'h)) ∧ Rd P w (D.ints (oW (A j))) [u]
section
variable {P P' : Nat → Prop} {g m : Nat} {A A' : Nat → Option Val} {w w' : World}
theorem WRow.lt (h : WRow P g m A w) : g < w.heap.size := by obtain ⟨cs, h1, _⟩ := h; exact (Array.getElem?_eq_some_iff.1 h1).1
theorem WRow.grown {row : Option Nat} (h : WRow P g m A w) (hg : w.grownBy w' row) (hr : row ≠ some g) (hp : ∀ k, row = some k → ¬ P k) : WRow P g m A w' := by
  have hl := h.lt
  obtain ⟨cs, h1, h2, h3⟩ := h
  refine ⟨cs, (hg.block g hl (fun e => hr e.symm)).trans h1, h2, fun j hj => ?_⟩
  obtain ⟨u, h4, h5⟩ := h3 j hj
  exact ⟨u, h4, rd_grown h5 hg hp⟩
theorem WRow.keep (h : WRow P g m A w) (hb : Below w.heap.size w w') : WRow P g m A w' := h.grown (grown_below hb none) (by simp) (by simp)
theorem WRow.mono (h : WRow P g m A w) (hp : ∀ k, P k → k < w.heap.size → P' k) : WRow P' g m A w := by
  obtain ⟨cs, h1, h2, h3⟩ := h
  refine ⟨cs, h1, h2, fun j hj => ?_⟩
  obtain ⟨u, h4, h5⟩ := h3 j hj
  exact ⟨u, h4, h5.mono hp⟩
theorem WRow.eq (h : WRow P g m A w) (e : ∀ j, j < m → A j = A' j) : WRow P g m A' w := by
  obtain ⟨cs, h1, h2, h3⟩ := h
  refine ⟨cs, h1, h2, fun j hj => ?_⟩
  obtain ⟨u, h4, h5⟩ := h3 j hj
  rw [e j hj] at h4 h5
  exact ⟨u, h4, h5⟩
theorem WRow.get (h : WRow P g m A w) {j : Nat} (hj : j < m) : ∃ a l k, (∀ w' : World, w'.heap[g]? = w.heap[g]? → w'.cell? ⟨g, j * 4, none⟩ = some (.int .i64 (oC (A j))) ∧ w'.cell? ⟨g, j * 4 + 1, none⟩ = some (.int .i64 (oN (A j))) ∧ w'.cell? ⟨g, j * 4 + 2, none⟩ = some (.slice a l k) ∧ w'.cell? ⟨g, j * 4 + 3, none⟩ = some (.bool (A j).isSome)) ∧
    WR P w (.agg #[.int .i64 (oC (A j)), .int .i64 (oN (A j)), .slice a l k, .bool (A j).isSome]) (A j) := by
  obtain ⟨cs, h1, h2, h3⟩ := h
  obtain ⟨u, h4, h5⟩ := h3 j hj
  obtain ⟨a, k, rfl⟩ := (sl_rd h5).form
  refine ⟨_, _, _, fun w' hw' => ?_, _, rfl, h5⟩
  rw [h1] at hw'
  have e0 := h4 0 (by omega)
  have e1 := h4 1 (by omega)
  have e2 := h4 2 (by omega)
  have e3 := h4 3 (by omega)
  simp only [Nat.add_zero] at e0
  refine ⟨?_, ?_, ?_, ?_⟩ <;> simp [World.cell?, hw', e0, e1, e2, e3, wcells]
theorem WRow.free (h : WRow P g m A w) (k : Nat) : w.frozen? ⟨g, k, none⟩ = false := by obtain ⟨cs, h1, h2, h3⟩ := h; simp [World.frozen?, h1]
theorem grown_cellsAt (w : World) (b : Nat) (k0 k1 k2 k3 : Nat) (v0 v1 v2 v3 : Value) : w.grownBy ((((w.setCell ⟨b, k0, none⟩ v0).setCell ⟨b, k1, none⟩ v1).setCell ⟨b, k2, none⟩ v2).setCell ⟨b, k3, none⟩ v3) (some b) := by
  refine ⟨rfl, rfl, rfl, by simp [World.setCell], fun k _ hn => ?_⟩
  have hne : ¬ k = b := fun e => hn (by rw [e])
  rw [Below.heap_setCell _ _ _ _ hne, Below.heap_setCell _ _ _ _ hne, Below.heap_setCell _ _ _ _ hne, Below.heap_setCell _ _ _ _ hne]
/-- one way stored in place -/
theorem WRow.set (h : WRow P g m A w) {j : Nat} (hj : j < m) {o : Option Val} {u : Value} (hu : Rd P w (D.ints (oW o)) [u]) (hg : ¬ P g) (he : ∀ k, k < m → A' k = if k = j then o else A k) :
    WRow P g m A' ((((w.setCell ⟨g, j * 4, none⟩ (.int .i64 (oC o))).setCell ⟨g, j * 4 + 1, none⟩ (.int .i64 (oN o))).setCell ⟨g, j * 4 + 2, none⟩ u).setCell ⟨g, j * 4 + 3, none⟩ (.bool o.isSome)) := by
  have hgr := grown_cellsAt w g (j * 4) (j * 4 + 1) (j * 4 + 2) (j * 4 + 3) (.int .i64 (oC o)) (.int .i64 (oN o)) u (.bool o.isSome)
  have hp : ∀ k, some g = some k → ¬ P k := fun k e => by cases e; exact hg
  obtain ⟨cs, h1, h2, h3⟩ := h
  have b0 := bx_set h1 (j * 4) (.int .i64 (oC o))
  have b1 := bx_set b0 (j * 4 + 1) (.int .i64 (oN o))
  have b2 := bx_set b1 (j * 4 + 2) u
  have b3 := bx_set b2 (j * 4 + 3) (.bool o.isSome)
  refine ⟨_, b3, by simpa using h2, fun k hk => ?_⟩
  rw [he k hk]
  by_cases e : k = j
  · subst e
    rw [if_pos rfl]
    refine ⟨u, fun c hc => ?_, rd_grown hu hgr hp⟩
    simp only [Array.getElem?_setIfInBounds, Array.size_setIfInBounds]
    match c, hc with
    | 0, _ => simp [wcells, h2]; omega
    | 1, _ => simp [wcells, h2]; omega
    | 2, _ => simp [wcells, h2]; omega
    | 3, _ => simp [wcells, h2]; omega
  · rw [if_neg e]
    obtain ⟨u', h4, h5⟩ := h3 k hk
    refine ⟨u', fun c hc => ?_, rd_grown h5 hgr hp⟩
    rw [← h4 c hc]
    simp only [Array.getElem?_setIfInBounds, Array.size_setIfInBounds]
    rw [if_neg (by omega), if_neg (by omega), if_neg (by omega), if_neg (by omega)]
theorem made_at4 (z0 z1 z2 z3 : Value) (m j c : Nat) (hj : j < m) (hc : c < 4) : (madeCells #[z0, z1, z2, z3] (m * 4))[j * 4 + c]? = some (#[z0, z1, z2, z3][c]'(by simpa using hc)) := by
  have h1 : j * 4 + c < m * 4 := by omega
  have h2 : (j * 4 + c) % 4 = c := by omega
  simp only [madeCells]
  rw [Array.getElem?_map, Array.getElem?_range, if_pos h1]
  have h3 : (#[z0, z1, z2, z3] : Array Value).size = 4 := rfl
  simp only [Option.map_some, h3, h2]
  match c, hc with
  | 0, _ => rfl
  | 1, _ => rfl
  | 2, _ => rfl
  | 3, _ => rfl
theorem wrow_new (P : Nat → Prop) (w : World) (m : Nat) {g : Nat} (hg : g = w.heap.size) : WRow P g m (fun _ => none) (w.alloc (.cells (madeCells #[.int .i64 0, .int .i64 0, .slice none 0 0, .bool false] (m * 4)) 72)) := by
  subst hg
  refine ⟨_, bx_new _ _ _ rfl, by rw [size_madeCells], fun j hj => ⟨.slice none 0 0, fun c hc => ?_, rd_nil _ _⟩⟩
  rw [made_at4 _ _ _ _ _ _ _ hj hc]
  match c, hc with
  | 0, _ => rfl
  | 1, _ => rfl
  | 2, _ => rfl
  | 3, _ => rfl
end
end Rp
end Go.Proofs.Ytjpmebppdcclbaa
namespace Go.Proofs.Ytjpmebppdcclbaa
open Go.RowKit

def idxBy (p : Int → Bool) (l : List Int) : Int := if l.any p then (l.findIdx p : Int) else -1
theorem idxBy_hit {p : Int → Bool} {l : List Int} {i : Nat} (hi : i < l.length) (h : p l[i] = true) (hn : ∀ j (h : j < l.length), j < i → p l[j] = false) : idxBy p l = i := by
  have h1 : l.any p = true := List.any_eq_true.2 ⟨l[i], List.getElem_mem hi, h⟩
  rw [idxBy, if_pos h1]
  have : l.findIdx p = i := by
    rw [List.findIdx_eq hi]
    exact ⟨h, fun j hj => by simp [hn j (by omega) hj]⟩
  rw [this]
theorem idxBy_none {p : Int → Bool} {l : List Int} (hn : ∀ j (h : j < l.length), p l[j] = false) : idxBy p l = -1 := by
  have h1 : l.any p = false := by
    rw [List.any_eq_false]
    intro x hx
    obtain ⟨j, hj, rfl⟩ := List.getElem_of_mem hx
    simp [hn j hj]
  rw [idxBy, if_neg (by simp [h1])]
theorem idxBy_ge (p : Int → Bool) (l : List Int) : decide (0 ≤ idxBy p l) = l.any p := by
  unfold idxBy
  cases h : l.any p <;> simp [h]

set_option maxHeartbeats 1000000 in
theorem indexInt (a : Option Addr) (cap : Nat) (l : List Int) (x : Int) (w : World) (hl : Sl w (.slice a l.length cap) (ints l)) :
    Calls Try.prog 116 #[.slice a l.length cap, .int .i64 x] w fun e w' => e = .returned (.int .i64 (idxBy (fun y => x == y) l)) ∧ w = w' := by
  have HL := Lib.hid hl
  have hc := hl.len.2
  unfold maxLen at hc
  obtain ⟨hc1, hc2⟩ := hc
  clear hl
  go_enter Try.func116, Try.ntmps116
  go_wp2
  go_loopg [8] l.length (fun gg v8 wr => ∃ i : Nat, i ≤ l.length ∧ l.length - i ≤ gg ∧ v8 = .int .i64 i ∧ wr = w ∧ Hid (∀ j (h : j < l.length), j < i → (x == l[j]) = false))
  case atStart => exact ⟨0, by omega, by omega, rfl, rfl, fun j _ hj => by omega⟩
  case round =>
    obtain ⟨i, hi, hg, rfl, rfl, HN⟩ := hrel
    by_cases hlt : i < l.length
    · have hlt' : (i : Int) < (l.length : Int) := by omega
      obtain ⟨ba, oa, hae, hca⟩ := HL.out.at hlt
      have c1 := hca i (by rw [ints_len]; exact hlt)
      rw [ints_get] at c1
      obtain ⟨y, HX⟩ := nameIt (l[i]'hlt)
      rw [HX.out] at c1
      subst hae
      clear hca
      cases hp : (x == y) with
      | true =>
        have HE : Hid (idxBy (fun y => x == y) l = i) := idxBy_hit hlt (by rw [HX.out]; exact hp) HN.out
        go_wp2
        go_ret
        exact ⟨by rw [HE.out]; rfl, rfl⟩
      | false =>
        have HN2 : Hid (∀ j (h : j < l.length), j < i + 1 → (x == l[j]) = false) := by
          intro j h hj
          by_cases e : j = i
          · subst e; rw [HX.out]; exact hp
          · exact HN.out j h (by omega)
        go_wp2
        go_roundg (l.length - (i + 1))
        case measure => omega
        case rel => exact ⟨i + 1, by omega, by omega, by go_num, rfl, HN2⟩
    · have hlt' : ¬ (i : Int) < (l.length : Int) := by omega
      have HE : Hid (idxBy (fun y => x == y) l = -1) := idxBy_none fun j hj => HN.out j hj (by omega)
      go_wp2
      go_ret
      exact ⟨by rw [HE.out]; rfl, rfl⟩

set_option maxHeartbeats 1000000 in
theorem containsInt (a : Option Addr) (cap : Nat) (l : List Int) (x : Int) (w : World) (hl : Sl w (.slice a l.length cap) (ints l)) :
    Calls Try.prog 111 #[.slice a l.length cap, .int .i64 x] w fun e w' => e = .returned (.bool (l.any fun y => x == y)) ∧ w = w' := by
  have HL := Lib.hid hl
  clear hl
  go_enter Try.func111, Try.ntmps111
  go_wp2_with fail
  refine (indexInt a cap l x w HL.out).mono ?_
  rintro e w1 ⟨rfl, rfl⟩
  go_wp2
  go_ret
  exact ⟨by rw [idxBy_ge]; rfl, rfl⟩
end Go.Proofs.Ytjpmebppdcclbaa
