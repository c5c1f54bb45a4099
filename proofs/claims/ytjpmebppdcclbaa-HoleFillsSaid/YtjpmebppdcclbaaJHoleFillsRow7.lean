/- hole.less, hole.then, hole.is. The contracts of gram.Has, gram.Order, gram.Compare and of slices' functions of symbols and rules. The contract of gram.Check. hole.Check, and patternFault of the law. Rows of words of holes in memory, written in place. -/
import Derived.Test.YtjpmebppdcclbaaJHoleFillsRow3
import Derived.Test.YtjpmebppdcclbaaJHoleFillsRow6
import Derived.Test.YtjpmebppdcclbaaJHoleFillsRow2
import Derived.Test.YtjpmebppdcclbaaJHoleFillsRow1
import Derived.Deep.RegionHeld3
import Derived.Deep.DeepCutAuto
namespace Go.Proofs.Ytjpmebppdcclbaa
open Go.RowKit
namespace Hl
open Rp

/-- the value x of hole.word reads as o; its word lies in blocks of P -/
def HR (P : Nat → Prop) (W : World) (x : Value) (o : Option Val) : Prop :=
  ∃ u, x = .agg #[.int .i64 (oN o), u, .bool o.isSome] ∧ Rd P W (D.ints (oW o)) [u]
theorem HR.below {P : Nat → Prop} {W W' : World} {x : Value} {o : Option Val} (h : HR P W x o) (hb : Below W.heap.size W W') : HR P W' x o := by
  obtain ⟨u, h1, h2⟩ := h; exact ⟨u, h1, h2.below hb⟩
theorem HR.mono {P P' : Nat → Prop} {W : World} {x : Value} {o : Option Val} (h : HR P W x o) (hp : ∀ k, P k → k < W.heap.size → P' k) : HR P' W x o := by
  obtain ⟨u, h1, h2⟩ := h; exact ⟨u, h1, h2.mono hp⟩
theorem HR.grown {P : Nat → Prop} {W W' : World} {x : Value} {o : Option Val} (h : HR P W x o) {row : Option Nat} (hg : W.grownBy W' row) (hr : ∀ k, row = some k → ¬ P k) : HR P W' x o := by
  obtain ⟨u, h1, h2⟩ := h; exact ⟨u, h1, rd_grown h2 hg hr⟩
theorem HR.form {P : Nat → Prop} {w : World} {x : Value} {o : Option Val} (h : HR P w x o) : ∃ a m k, x = .agg #[.int .i64 (oN o), .slice a m k, .bool o.isSome] ∧ Rd P w (D.ints (oW o)) [.slice a m k] := by
  obtain ⟨u, rfl, h⟩ := h
  obtain ⟨a, k, rfl⟩ := (sl_rd h).form
  exact ⟨_, _, _, rfl, h⟩
theorem HR.none (P : Nat → Prop) (W : World) : HR P W (.agg #[.int .i64 0, .slice none 0 0, .bool false]) none := ⟨_, rfl, rd_nil _ _⟩
theorem grown_cell3 (w : World) (b : Nat) (v0 v1 v2 : Value) : w.grownBy (((w.setCell ⟨b, 0, none⟩ v0).setCell ⟨b, 0 + 1, none⟩ v1).setCell ⟨b, 0 + 2, none⟩ v2) (some b) := by
  refine ⟨rfl, rfl, rfl, by simp [World.setCell], fun k _ hn => ?_⟩
  have hne : ¬ k = b := fun e => hn (by rw [e])
  rw [Below.heap_setCell _ _ _ _ hne, Below.heap_setCell _ _ _ _ hne, Below.heap_setCell _ _ _ _ hne]
theorem or_less2 {a b : Val} (hc : a.c = b.c) (ha : Wf a) (hb : Wf b) : decide (orL [cmp3 (a.n : Int) (b.n : Int), cmpL a.w b.w] < 0) = lessB (some a) (some b) := by
  rw [← or_less ha hb, hc, cmp3_self, orL3, orL2, if_pos rfl]
def cO (o : Option Val) : Prop := oC o = 0

set_option maxHeartbeats 2000000 in
set_option maxRecDepth 100000 in
theorem hlessE (x y : Value) (o p : Option Val) (P Q : Nat → Prop) (W : World) (hx : HR P W x o) (hy : HR Q W y p) (ho : WfO o) (hp : WfO p) (hc : cO o) (hd : cO p) :
    Calls Try.prog 91 #[x, y] W fun e w' => e = .returned (.bool (lessB o p)) ∧ Below W.heap.size W w' := by
  obtain ⟨a1, m1, k1, rfl, hu⟩ := hx.form
  obtain ⟨a2, m2, k2, rfl, hu'⟩ := hy.form
  have HU := Lib.hid (sl_rd hu)
  have HU' := Lib.hid (sl_rd hu')
  clear hx hy hu hu'
  obtain ⟨r, HR⟩ := nameIt (lessB o p)
  rw [HR.out]
  cases o with
  | none =>
    have : r = false := by rw [← HR.out]; cases p <;> rfl
    subst this
    simp only [Option.isSome, oC, oN]
    clear HR ho hp hc hd
    cases p <;>
    · simp only [Option.isSome, oC, oN]
      go_enter Try.func91, Try.ntmps91
      go_wp2
      go_ret
      exact ⟨rfl, ((Below.refl _ _).alloc (Nat.le_refl _) _).alloc (by simp) _⟩
  | some v =>
  cases p with
  | none =>
    have : r = true := by rw [← HR.out]; rfl
    subst this
    simp only [Option.isSome, oC, oN]
    clear HR ho hp hc hd
    go_enter Try.func91, Try.ntmps91
    go_wp2
    go_ret
    exact ⟨rfl, ((Below.refl _ _).alloc (Nat.le_refl _) _).alloc (by simp) _⟩
  | some v' =>
    have hr := or_less2 (show v.c = v'.c by unfold cO oC at hc hd; simp only at hc hd; omega) (ho v rfl) (hp v' rfl)
    rw [HR.out] at hr
    clear hc hd
    simp only [Option.isSome, oC, oN, oW] at *
    obtain ⟨l, HL⟩ := nameIt v.w
    obtain ⟨l', HL'⟩ := nameIt v'.w
    obtain ⟨n, HN⟩ := nameIt v.n
    obtain ⟨n', HN'⟩ := nameIt v'.n
    rw [HL.out] at HU hr
    rw [HL'.out] at HU' hr
    rw [HN.out, HN'.out] at hr ⊢
    obtain ⟨q2, HQ2⟩ := nameIt (cmp3 (n : Int) (n' : Int))
    obtain ⟨q3, HQ3⟩ := nameIt (cmpL l l')
    rw [HQ2.out, HQ3.out] at hr
    have HRR := Lib.hid hr
    clear hr HR ho hp HN HN' HL HL'
    obtain ⟨w0, HW⟩ := nameIt ((W.alloc (.cells #[.int .i64 n, .slice a1 m1 k1, .bool true] 91)).alloc (.cells #[.int .i64 n', .slice a2 m2 k2, .bool true] 91))
    have hw0 : Below W.heap.size W w0 := by
      rw [← HW.out]
      exact ((Below.refl _ _).alloc (Nat.le_refl _) _).alloc (by simp) _
    have HX : Hid (w0.heap[W.heap.size]? = some (.cells #[.int .i64 n, .slice a1 m1 k1, .bool true] 91 (0, 0))) := by
      rw [← HW.out]; exact bx_keep (bx_new _ _ _ rfl) ((Below.refl _ _).alloc (Nat.le_refl _) _)
    have HY : Hid (w0.heap[W.heap.size + 1]? = some (.cells #[.int .i64 n', .slice a2 m2 k2, .bool true] 91 (0, 0))) := by
      rw [← HW.out]; exact bx_new _ _ _ (by simp)
    have HCS : Hid (∀ w', Below w0.heap.size w0 w' → w'.cell? ⟨W.heap.size, 0, none⟩ = some (.int .i64 n) ∧ w'.cell? ⟨W.heap.size, 0 + 1, none⟩ = some (.slice a1 m1 k1) ∧
        w'.cell? ⟨W.heap.size + 1, 0, none⟩ = some (.int .i64 n') ∧ w'.cell? ⟨W.heap.size + 1, 0 + 1, none⟩ = some (.slice a2 m2 k2)) := by
      intro w' hb'
      obtain ⟨h1, h2, h3⟩ := bx_cells3 (bx_keep HX.out hb')
      obtain ⟨h5, h6, h7⟩ := bx_cells3 (bx_keep HY.out hb')
      exact ⟨h1, h2, h5, h6⟩
    have HB0 := Lib.hid hw0
    go_enter Try.func91, Try.ntmps91
    go_upto_region 3 with fail
    rw [HW.out]
    clear HW hw0
    refine wp_region_U (S := (fun w' => w'.cell? ⟨W.heap.size, 0, none⟩ = some (.int .i64 n) ∧ w'.cell? ⟨W.heap.size, 0 + 1, none⟩ = some (.slice a1 m1 k1) ∧ w'.cell? ⟨W.heap.size + 1, 0, none⟩ = some (.int .i64 n') ∧ w'.cell? ⟨W.heap.size + 1, 0 + 1, none⟩ = some (.slice a2 m2 k2))) 11 (by kernel_rfl) (fun inv => ?_)
    refine wpU_take (i := 0) (v := .pointer (some ⟨W.heap.size, 0, none⟩)) rfl inv (by kernel_rfl) (by kernel_rfl) (by decide) (by decide) (by kernel_rfl) (by kernel_rfl) (by kernel_rfl) (fun _ _ _ h => h) (Or.inl ⟨by rfl, fun w' hw' => ?_⟩) (HCS.out _ (Below.refl _ _).drew) (fun inv => ?_)
    · obtain ⟨h0, h1, h2, h3⟩ := hw'
      go_simp
    try simp only [Act.put, List.setIfInBounds_toArray, List.set_cons_zero, List.set_cons_succ]
    refine wpU_take (i := 1) (v := .int .i64 n) rfl inv (by kernel_rfl) (by kernel_rfl) (by decide) (by decide) (by kernel_rfl) (by kernel_rfl) (by kernel_rfl) (fun _ _ _ h => h) (Or.inl ⟨by rfl, fun w' hw' => ?_⟩) (HCS.out _ (Below.refl _ _).drew) (fun inv => ?_)
    · obtain ⟨h0, h1, h2, h3⟩ := hw'
      go_simp
    try simp only [Act.put, List.setIfInBounds_toArray, List.set_cons_zero, List.set_cons_succ]
    refine wpU_take (i := 2) (v := .pointer (some ⟨W.heap.size + 1, 0, none⟩)) rfl inv (by kernel_rfl) (by kernel_rfl) (by decide) (by decide) (by kernel_rfl) (by kernel_rfl) (by kernel_rfl) (fun _ _ _ h => h) (Or.inl ⟨by rfl, fun w' hw' => ?_⟩) (HCS.out _ (Below.refl _ _).drew) (fun inv => ?_)
    · obtain ⟨h0, h1, h2, h3⟩ := hw'
      go_simp
    try simp only [Act.put, List.setIfInBounds_toArray, List.set_cons_zero, List.set_cons_succ]
    refine wpU_take (i := 3) (v := .int .i64 n') rfl inv (by kernel_rfl) (by kernel_rfl) (by decide) (by decide) (by kernel_rfl) (by kernel_rfl) (by kernel_rfl) (fun _ _ _ h => h) (Or.inl ⟨by rfl, fun w' hw' => ?_⟩) (HCS.out _ (Below.refl _ _).drew) (fun inv => ?_)
    · obtain ⟨h0, h1, h2, h3⟩ := hw'
      go_simp
    try simp only [Act.put, List.setIfInBounds_toArray, List.set_cons_zero, List.set_cons_succ]
    refine wpU_take (i := 5) (v := .pointer (some ⟨W.heap.size, 0 + 1, none⟩)) rfl inv (by kernel_rfl) (by kernel_rfl) (by decide) (by decide) (by kernel_rfl) (by kernel_rfl) (by kernel_rfl) (fun _ _ _ h => h) (Or.inl ⟨by rfl, fun w' hw' => ?_⟩) (HCS.out _ (Below.refl _ _).drew) (fun inv => ?_)
    · obtain ⟨h0, h1, h2, h3⟩ := hw'
      go_simp
    try simp only [Act.put, List.setIfInBounds_toArray, List.set_cons_zero, List.set_cons_succ]
    refine wpU_take (i := 6) (v := .slice a1 m1 k1) rfl inv (by kernel_rfl) (by kernel_rfl) (by decide) (by decide) (by kernel_rfl) (by kernel_rfl) (by kernel_rfl) (fun _ _ _ h => h) (Or.inl ⟨by rfl, fun w' hw' => ?_⟩) (HCS.out _ (Below.refl _ _).drew) (fun inv => ?_)
    · obtain ⟨h0, h1, h2, h3⟩ := hw'
      go_simp
    try simp only [Act.put, List.setIfInBounds_toArray, List.set_cons_zero, List.set_cons_succ]
    refine wpU_take (i := 7) (v := .pointer (some ⟨W.heap.size + 1, 0 + 1, none⟩)) rfl inv (by kernel_rfl) (by kernel_rfl) (by decide) (by decide) (by kernel_rfl) (by kernel_rfl) (by kernel_rfl) (fun _ _ _ h => h) (Or.inl ⟨by rfl, fun w' hw' => ?_⟩) (HCS.out _ (Below.refl _ _).drew) (fun inv => ?_)
    · obtain ⟨h0, h1, h2, h3⟩ := hw'
      go_simp
    try simp only [Act.put, List.setIfInBounds_toArray, List.set_cons_zero, List.set_cons_succ]
    refine wpU_take (i := 8) (v := .slice a2 m2 k2) rfl inv (by kernel_rfl) (by kernel_rfl) (by decide) (by decide) (by kernel_rfl) (by kernel_rfl) (by kernel_rfl) (fun _ _ _ h => h) (Or.inl ⟨by rfl, fun w' hw' => ?_⟩) (HCS.out _ (Below.refl _ _).drew) (fun inv => ?_)
    · obtain ⟨h0, h1, h2, h3⟩ := hw'
      go_simp
    try simp only [Act.put, List.setIfInBounds_toArray, List.set_cons_zero, List.set_cons_succ]
    refine wpU_one (i := 4) (by kernel_rfl) rfl (fun K hK => ?_)
    replace inv := inv_setc (i := 4) inv (by kernel_rfl) (by decide)
    go_simp
    refine (compareInt _ _ _).mono ?_
    rintro e w1 ⟨rfl, rfl⟩
    rw [HQ2.out]
    refine hK.out _ _ (fun _ => (HCS.out _ (Below.refl _ _).drew)) ?_
    clear hK K
    try simp only [Act.put, List.setIfInBounds_toArray, List.set_cons_zero, List.set_cons_succ]
    refine wpU_one (i := 9) (by kernel_rfl) rfl (fun K hK => ?_)
    replace inv := inv_setc (i := 9) inv (by kernel_rfl) (by decide)
    go_simp
    refine (compareInts _ _ l l' _ (HU.out.keep (HB0.out.trans ((Below.refl _ _).drew.mono HB0.out.size))) (HU'.out.keep (HB0.out.trans ((Below.refl _ _).drew.mono HB0.out.size)))).mono ?_
    rintro e w1 ⟨rfl, rfl⟩
    rw [HQ3.out]
    refine hK.out _ _ (fun _ => (HCS.out _ (Below.refl _ _).drew)) ?_
    clear hK K
    try simp only [Act.put, List.setIfInBounds_toArray, List.set_cons_zero, List.set_cons_succ]
    refine wpU_one (i := 10) (by kernel_rfl) rfl (fun K hK => ?_)
    replace inv := inv_setc (i := 10) inv (by kernel_rfl) (by decide)
    go_simp
    have HB4 : Hid (Below w0.heap.size w0 (w0.drew.alloc (.cells #[.int .i64 q2, .int .i64 q3] 3))) := (Below.refl w0.heap.size w0).drew.alloc (Nat.le_refl _) _
    refine hK.out _ _ (fun _ => HCS.out _ HB4.out) ?_
    clear hK K
    try simp only [Act.put, List.setIfInBounds_toArray, List.set_cons_zero, List.set_cons_succ]
    refine wpU_one (i := 11) (by kernel_rfl) rfl (fun K hK => ?_)
    go_simp
    refine (orInt _ [q2, q3] _ (sl_lit (w := w0.drew) (v := #[.int .i64 q2, .int .i64 q3]) rfl (of_decide_eq_true rfl))).mono ?_
    rintro e w1 ⟨rfl, rfl⟩
    refine hK.out _ _ (fun h => absurd (show true = false from h) (by decide)) ?_
    clear hK K
    try simp only [Act.put, List.setIfInBounds_toArray, List.set_cons_zero, List.set_cons_succ]
    refine wpU_one (i := 12) (by kernel_rfl) rfl (fun K hK => ?_)
    go_simp
    refine hK.out _ _ (fun h => absurd (show true = false from h) (by decide)) ?_
    clear hK K
    try simp only [Act.put, List.setIfInBounds_toArray, List.set_cons_zero, List.set_cons_succ]
    refine wpU_one (i := 13) (by kernel_rfl) rfl (fun K hK => ?_)
    go_simp
    refine hK.out _ _ (fun h => absurd (show true = false from h) (by decide)) ?_
    clear hK K
    try simp only [Act.put, List.setIfInBounds_toArray, List.set_cons_zero, List.set_cons_succ]
    refine wpU_done (by kernel_rfl) ?_ _
    go_wp2_with fail
    go_ret
    exact ⟨by rw [← HRR.out]; rfl, HB0.out.trans (HB4.out.mono HB0.out.size)⟩

set_option maxHeartbeats 4000000 in
set_option maxRecDepth 100000 in
theorem hthenE (x y : Value) (v v' : Val) (P Q : Nat → Prop) (W : World) (hx : HR P W x (some v)) (hy : HR Q W y (some v')) (hn : v.n + v'.n ≤ 4611686018427387904) (hl : v.w.length ≤ 2000) (hl' : v'.w.length ≤ 2000) :
    Calls Try.prog 109 #[x, y] W fun e w' => ∃ z, e = .returned z ∧ HR (fun k => W.heap.size ≤ k) w' z (some (thn v v')) ∧ Below W.heap.size W w' := by
  obtain ⟨a1, m1, k1, rfl, hu⟩ := hx.form
  obtain ⟨a2, m2, k2, rfl, hu'⟩ := hy.form
  have HU := Lib.hid (sl_rd hu)
  have HU' := Lib.hid (sl_rd hu')
  clear hx hy hu hu'
  simp only [Option.isSome, oC, oN, oW] at *
  obtain ⟨l, HL⟩ := nameIt v.w
  obtain ⟨l', HL'⟩ := nameIt v'.w
  obtain ⟨n, HN⟩ := nameIt v.n
  obtain ⟨n', HN'⟩ := nameIt v'.n
  rw [HL.out] at HU hl
  rw [HL'.out] at HU' hl'
  rw [HN.out, HN'.out] at hn
  rw [HN.out, HN'.out]
  by_cases hb : n + n' ≤ 2000
  · have hb' : (n : Int) + (n' : Int) ≤ 2000 := by omega
    obtain ⟨w0, HW⟩ := nameIt ((((W.alloc (.cells #[.int .i64 n, .slice a1 m1 k1, .bool true] 91)).alloc (.cells #[.int .i64 n', .slice a2 m2 k2, .bool true] 91)).alloc (.cells #[.int .i64 0, .slice none 0 0, .bool false] 91)).alloc (.cells #[.int .i64 (n + n'), .slice none 0 0, .bool true] 91))
    have hw0 : Below W.heap.size W w0 := by
      rw [← HW.out]
      exact ((((Below.refl _ _).alloc (Nat.le_refl _) _).alloc (by simp) _).alloc (by simp; omega) _).alloc (by simp; omega) _
    have HSZ : Hid (w0.heap.size = W.heap.size + 1 + 1 + 1 + 1) := by show _ = _; rw [← HW.out]; simp
    have HX0 : Hid (w0.heap[W.heap.size + 1 + 1 + 1]? = some (.cells #[.int .i64 (n + n'), .slice none 0 0, .bool true] 91 (0, 0))) := by
      rw [← HW.out]; exact bx_new _ _ _ (by simp)
    have HZ0 : Hid (w0.heap[W.heap.size + 1 + 1]? = some (.cells #[.int .i64 0, .slice none 0 0, .bool false] 91 (0, 0))) := by
      rw [← HW.out]; exact bx_keep (bx_new _ _ _ (by simp)) ((Below.refl _ _).alloc (Nat.le_refl _) _)
    have HP0 : Hid (w0.heap[W.heap.size]? = some (.cells #[.int .i64 n, .slice a1 m1 k1, .bool true] 91 (0, 0))) := by
      rw [← HW.out]; exact bx_keep (bx_keep (bx_keep (bx_new _ _ _ rfl) ((Below.refl _ _).alloc (Nat.le_refl _) _)) ((Below.refl _ _).alloc (Nat.le_refl _) _)) ((Below.refl _ _).alloc (Nat.le_refl _) _)
    have HP1 : Hid (w0.heap[W.heap.size + 1]? = some (.cells #[.int .i64 n', .slice a2 m2 k2, .bool true] 91 (0, 0))) := by
      rw [← HW.out]; exact bx_keep (bx_keep (bx_new _ _ _ (by simp)) ((Below.refl _ _).alloc (Nat.le_refl _) _)) ((Below.refl _ _).alloc (Nat.le_refl _) _)
    have HB0 := Lib.hid hw0
    have HCC : Hid (∀ e, Calls Try.prog 97 #[.slice (some ⟨w0.heap.size, 0, none⟩) 2 2] (w0.alloc (.cells #[.slice a1 m1 k1, .slice a2 m2 k2] e)) (NewInts [l, l'].flatten w0)) := by
      intro e
      have hB : Below w0.heap.size w0 (w0.alloc (.cells #[.slice a1 m1 k1, .slice a2 m2 k2] e)) := (Below.refl _ _).alloc (Nat.le_refl _) _
      have hs : Sl (w0.alloc (.cells #[.slice a1 m1 k1, .slice a2 m2 k2] e)) (.slice (some ⟨w0.heap.size, 0, none⟩) [Value.slice a1 m1 k1, Value.slice a2 m2 k2].length 2) [.slice a1 m1 k1, .slice a2 m2 k2] := sl_lit (w := w0) (v := #[.slice a1 m1 k1, .slice a2 m2 k2]) rfl (by simp [maxLen])
      refine (concat_int (some ⟨w0.heap.size, 0, none⟩) 2 [.slice a1 m1 k1, .slice a2 m2 k2] [l, l'] _ hs rfl ?_ ?_).mono ?_
      · intro i hi
        simp at hi
        match i, hi with
        | 0, _ => exact (HU.out.keep HB0.out).keep hB
        | 1, _ => exact (HU'.out.keep HB0.out).keep hB
      · simp [lens]; omega
      · rintro e w' ⟨a, c, rfl, ho, hb⟩
        exact ⟨a, c, rfl, ho.mono hB.size, hB.trans (hb.mono hB.size)⟩
    go_enter Try.func109, Try.ntmps109
    go_upto_region 3 with fail
    rw [HW.out]
    clear HW hw0
    obtain ⟨-, y0, -⟩ := bx_cells3 HP0.out
    obtain ⟨-, y1, -⟩ := bx_cells3 HP1.out
    go_wp2_with fail
    refine (HCC.out _).mono ?_
    rintro e w4 ⟨a4, c4, rfl, ho4, hb4⟩
    have HB4 := Lib.hid hb4
    have HO4 := Lib.hid ho4
    have HX4 := Lib.hid (bx_keep HX0.out hb4)
    have HZ4 := Lib.hid (bx_keep HZ0.out hb4)
    obtain ⟨n4, HN4⟩ := nameIt [l, l'].flatten.length
    rw [HN4.out] at HO4 ⊢
    obtain ⟨e0, e1, e2⟩ := bx_cells3 HX4.out
    obtain ⟨f0, f1, f2⟩ := bx_free3 HX4.out
    obtain ⟨g0, g1, g2⟩ := bx_cells3 HZ4.out
    obtain ⟨h0, h1, h2⟩ := bx_free3 HZ4.out
    clear hb4 ho4
    go_wp2_with fail
    refine bodyPost_ret (v := .agg #[.int .i64 (n + n'), .slice a4 n4 c4, .bool true]) (by simp [results, Try.results109, go_sem, g0, g1, g2]) rfl ?_
    have hgA := grown_cell w4 ⟨W.heap.size + 1 + 1 + 1, 0 + 1, none⟩ (.slice a4 n4 c4)
    have hgB := grown_cell3 (w4.setCell ⟨W.heap.size + 1 + 1 + 1, 0 + 1, none⟩ (.slice a4 n4 c4)) (W.heap.size + 1 + 1) (.int .i64 (n + n')) (.slice a4 n4 c4) (.bool true)
    have hsw := HSZ.out
    have hb04 := HB0.out.trans (HB4.out.mono HB0.out.size)
    have hW : oW (some (thn v v')) = [l, l'].flatten := by
      show (thn v v').w = _
      rw [thn_w, HN.out, HN'.out, if_pos hb, HL.out, HL'.out]; simp
    have hrd : Rd (fun k => w0.heap.size ≤ k) w4 (D.ints [l, l'].flatten) [.slice a4 n4 c4] := rd_own HN4.out.symm HO4.out
    refine ⟨_, rfl, ⟨.slice a4 n4 c4, ?_, ?_⟩, (hb04.grown hgA hb04.size ?_).grown hgB ?_ ?_⟩
    · simp [oN, thn, HN.out, HN'.out]
    · rw [hW]
      refine (rd_grown (rd_grown hrd hgA ?_) hgB ?_).mono ?_
      · intro k e h
        have e2 : W.heap.size + 1 + 1 + 1 = k := by simpa using e
        have h2 : w0.heap.size ≤ k := h
        omega
      · intro k e h
        have e2 : W.heap.size + 1 + 1 = k := by simpa using e
        have h2 : w0.heap.size ≤ k := h
        omega
      · intro k h _
        have h2 : w0.heap.size ≤ k := h
        show W.heap.size ≤ k
        omega
    · intro k e
      have e2 : W.heap.size + 1 + 1 + 1 = k := by simpa using e
      omega
    · have := hb04.size
      have := hgA.size
      omega
    · intro k e
      have e2 : W.heap.size + 1 + 1 = k := by simpa using e
      omega
  · have hb' : ¬ (n : Int) + (n' : Int) ≤ 2000 := by omega
    go_enter Try.func109, Try.ntmps109
    go_wp2
    refine bodyPost_ret (v := .agg #[.int .i64 (n + n'), .slice none 0 0, .bool true]) (by simp [results, Try.results109, go_sem]) rfl ?_
    refine ⟨_, rfl, ⟨.slice none 0 0, ?_, ?_⟩, ?_⟩
    · simp [oN, thn, HN.out, HN'.out]
    · have hW : oW (some (thn v v')) = [] := by
        show (thn v v').w = _
        rw [thn_w, HN.out, HN'.out, if_neg hb]
      rw [hW]
      exact rd_nil _ _
    · exact ((((Below.refl _ _).alloc (Nat.le_refl _) _).alloc (by simp) _).alloc (by simp; omega) _).alloc (by simp; omega) _

theorem symEq (a c : Bool) (b d : Int) (w : World) : (binOp .eql 44 (.agg #[.bool a, .int .i64 b]) (.agg #[.bool c, .int .i64 d])).run Try.prog w = .ok (.bool (a == c && b == d)) w := by
  have h1 : Try.prog.underlying 44 = some (.struct (Try.prog.fieldsOf 44)) := by kernel_rfl
  have h2 : Try.prog.stoodInHeld 44 = false := by kernel_rfl
  have h3 := Try.underlying44
  have h4 := Try.underlying4
  have h5 := Try.underlying3
  rw [run_eql_struct, run_equalIn_agg (d := 9999) _ _ _ _ h1 h2]
  simp only [Program.fieldsOf, h3]
  cases hac : (a == c) <;> by_cases hbd : b = d <;> simp [Op.eqFields, go_sem, h4, h5, hac, hbd]
/-- a symbol can be a cell -/
def isB (y c : Sym) : Bool := (y.term == c.term && y.n == c.n) || (y.term && (c.term == true && c.n == -1))
theorem isB_fit (y c : Sym) : isB y c = fitB y c := by
  obtain ⟨a, b⟩ := y
  obtain ⟨c, d⟩ := c
  unfold isB fitB
  simp only [Sym.mk.injEq]
  rw [Bool.eq_iff_iff]
  cases a <;> cases c <;> simp
set_option maxHeartbeats 2000000 in
theorem isE (y c : Sym) (W : World) : Calls Try.prog 94 #[.agg #[.bool y.term, .int .i64 y.n], .agg #[.bool c.term, .int .i64 c.n]] W fun e w' => e = .returned (.bool (isB y c)) ∧ Below W.heap.size W w' := by
  obtain ⟨yt, yn⟩ := y
  obtain ⟨ct, cn⟩ := c
  unfold isB
  simp only
  obtain ⟨w0, HW⟩ := nameIt ((W.alloc (.cells #[.bool yt, .int .i64 yn] 44)).alloc (.cells #[.bool ct, .int .i64 cn] 44))
  have hw0 : Below W.heap.size W w0 := by
    rw [← HW.out]
    exact ((Below.refl _ _).alloc (Nat.le_refl _) _).alloc (by simp) _
  have HX : Hid (w0.heap[W.heap.size]? = some (.cells #[.bool yt, .int .i64 yn] 44 (0, 0))) := by
    rw [← HW.out]; exact bx_keep (bx_new _ _ _ rfl) ((Below.refl _ _).alloc (Nat.le_refl _) _)
  have HY : Hid (w0.heap[W.heap.size + 1]? = some (.cells #[.bool ct, .int .i64 cn] 44 (0, 0))) := by
    rw [← HW.out]; exact bx_new _ _ _ (by simp)
  have HB0 := Lib.hid hw0
  have hse1 := symEq yt ct yn cn
  have hse2 := symEq ct true cn (-1)
  obtain ⟨e1, HE1⟩ := nameIt (yt == ct && yn == cn)
  obtain ⟨e2, HE2⟩ := nameIt (ct == true && cn == -1)
  rw [HE1.out] at hse1 ⊢
  rw [HE2.out] at hse2 ⊢
  have HT : ∀ W, Below w0.heap.size w0 W → Calls Try.prog 51 #[.int .i64 (-1)] W fun e w' => e = .returned (.agg #[.bool true, .int .i64 (-1)]) ∧ Below W.heap.size W w' := fun W _ => gramT (-1) W
  have HT := Lib.hid HT
  obtain ⟨c0, c1⟩ := bx_cells2 HX.out
  obtain ⟨d0, d1⟩ := bx_cells2 HY.out
  clear hw0 HE1 HE2
  have k0 := aft_cell c0
  have k1 := aft_cell c1
  have k2 := aft_cell d0
  have k3 := aft_cell d1
  cases e1 <;> cases yt <;>
  · go_enter Try.func94, Try.ntmps94
    go_upto_region 1 with fail
    rw [HW.out]
    clear c0 c1 d0 d1
    refine wp_region_after (by kernel_rfl) (by kernel_rfl) ?_
    repeat (go_big_quiet_step (with_reducible exact Calls.after (HT.out _ (Aft.bel _))))
    refine wpQuiet_nil ?_
    rintro w7 ⟨⟨_, hb7⟩, rfl⟩
    have HB7 := Lib.hid hb7
    go_wp2_with fail
    go_ret
    exact ⟨by simp, HB0.out.trans (HB7.out.mono HB0.out.size)⟩
end Hl
end Go.Proofs.Ytjpmebppdcclbaa
namespace Go.Proofs.Ytjpmebppdcclbaa
open Go.RowKit

def idxG {α : Type} (p : α → Bool) (l : List α) : Int := if l.any p then (l.findIdx p : Int) else -1
theorem idxG_hit {α : Type} {p : α → Bool} {l : List α} {i : Nat} (hi : i < l.length) (h : p l[i] = true) (hn : ∀ j (h : j < l.length), j < i → p l[j] = false) : idxG p l = i := by
  have h1 : l.any p = true := List.any_eq_true.2 ⟨l[i], List.getElem_mem hi, h⟩
  rw [idxG, if_pos h1]
  have : l.findIdx p = i := by
    rw [List.findIdx_eq hi]
    exact ⟨h, fun j hj => by simp [hn j (by omega) hj]⟩
  rw [this]
theorem idxG_none {α : Type} {p : α → Bool} {l : List α} (hn : ∀ j (h : j < l.length), p l[j] = false) : idxG p l = -1 := by
  have h1 : l.any p = false := by
    rw [List.any_eq_false]
    intro x hx
    obtain ⟨j, hj, rfl⟩ := List.getElem_of_mem hx
    simp [hn j hj]
  rw [idxG, if_neg (by simp [h1])]
theorem idxG_ge {α : Type} (p : α → Bool) (l : List α) : decide (0 ≤ idxG p l) = l.any p := by
  unfold idxG
  cases h : l.any p <;> simp [h]

def PredSym (g : Nat) (lb : Array Value) (l : List Sym) (p : Sym → Bool) (w : World) : Prop :=
  ∀ (W : World) (x : Sym), x ∈ l → Below w.heap.size w W → Calls Try.prog g (#[.agg #[.bool x.term, .int .i64 x.n]] ++ lb) W fun e w' => e = .returned (.bool (p x)) ∧ Below W.heap.size W w'
def PredRule (g : Nat) (lb : Array Value) (l : List Rule) (p : Rule → Bool) (w : World) : Prop :=
  ∀ (W : World) (x : Rule) (v : Value), x ∈ l → Below w.heap.size w W → Rd AnyB W (.sl (x.right.map Sym.d)) [v] → Calls Try.prog g (#[.agg #[.int .i64 x.left, v]] ++ lb) W fun e w' => e = .returned (.bool (p x)) ∧ Below W.heap.size W w'

set_option maxHeartbeats 1000000 in
theorem indexFuncSym (g : Nat) (lb : Array Value) (p : Sym → Bool) (a : Option Addr) (cap : Nat) (l : List Sym) (w : World) (eg : ∀ args w, (callFunc g args).run Try.prog w = .ok (.enter g args) w)
    (hf : PredSym g lb l p w) (hl : Rd AnyB w (.sl (l.map Sym.d)) [.slice a l.length cap]) :
    Calls Try.prog 73 #[.slice a l.length cap, .func (.func g) #[] lb] w fun e w' => e = .returned (.int .i64 (idxG p l)) ∧ Below w.heap.size w w' := by
  have HL := Lib.hid hl
  have HF := Lib.hid hf
  have hc := hl.bounds.2
  unfold maxLen at hc
  obtain ⟨hc1, hc2⟩ := hc
  clear hl hf
  go_enter Try.func73, Try.ntmps73
  go_wp2
  go_loopg [8] l.length (fun gg v8 wr => ∃ i : Nat, i ≤ l.length ∧ l.length - i ≤ gg ∧ v8 = .int .i64 i ∧ Hid (Below w.heap.size w wr) ∧ Hid (∀ j (h : j < l.length), j < i → p l[j] = false))
  case atStart => exact ⟨0, by omega, by omega, rfl, Below.refl _ _, fun j _ hj => by omega⟩
  case round =>
    obtain ⟨i, hi, hg, rfl, HB, HN⟩ := hrel
    by_cases hlt : i < l.length
    · have hlt' : (i : Int) < (l.length : Int) := by omega
      obtain ⟨b, off, hae, -, -, c0, c1⟩ := (HL.out.below HB.out).sym_at hlt
      obtain ⟨x, HX⟩ := nameIt (l[i]'hlt)
      rw [HX.out] at c0 c1
      have hcall := HF.out wr x (by rw [← HX.out]; exact List.getElem_mem hlt) HB.out
      obtain ⟨q0, HQ0⟩ := nameIt x.term
      obtain ⟨q1, HQ1⟩ := nameIt x.n
      rw [HQ0.out] at c0 hcall
      rw [HQ1.out] at c1 hcall
      have HC := Lib.hid hcall
      clear hcall
      subst hae
      go_wp2_with fail
      refine HC.out.mono ?_
      rintro e w6 ⟨rfl, hb6⟩
      have HB6 := Lib.hid (HB.out.trans (hb6.mono HB.out.size))
      clear hb6 c0 c1
      cases hp : p x with
      | true =>
        have HE : Hid (idxG p l = i) := idxG_hit hlt (by rw [HX.out]; exact hp) HN.out
        clear hp
        go_wp2
        go_ret
        exact ⟨by rw [HE.out]; rfl, HB6.out⟩
      | false =>
        have HN2 : Hid (∀ j (h : j < l.length), j < i + 1 → p l[j] = false) := by
          intro j h hj
          by_cases e : j = i
          · subst e; rw [HX.out]; exact hp
          · exact HN.out j h (by omega)
        clear hp
        go_wp2
        go_roundg (l.length - (i + 1))
        case measure => omega
        case rel => exact ⟨i + 1, by omega, by omega, by go_num, HB6, HN2⟩
    · have hlt' : ¬ (i : Int) < (l.length : Int) := by omega
      have HE : Hid (idxG p l = -1) := idxG_none fun j hj => HN.out j hj (by omega)
      go_wp2
      go_ret
      exact ⟨by rw [HE.out]; rfl, HB.out⟩

set_option maxHeartbeats 1000000 in
theorem containsFuncSym (g : Nat) (lb : Array Value) (p : Sym → Bool) (a : Option Addr) (cap : Nat) (l : List Sym) (w : World) (eg : ∀ args w, (callFunc g args).run Try.prog w = .ok (.enter g args) w)
    (hf : PredSym g lb l p w) (hl : Rd AnyB w (.sl (l.map Sym.d)) [.slice a l.length cap]) :
    Calls Try.prog 32 #[.slice a l.length cap, .func (.func g) #[] lb] w fun e w' => e = .returned (.bool (l.any p)) ∧ Below w.heap.size w w' := by
  have HL := Lib.hid hl
  have HF := Lib.hid hf
  have HG := Lib.hid eg
  clear hl hf eg
  go_enter Try.func32, Try.ntmps32
  go_wp2_with fail
  refine (indexFuncSym g lb p a cap l w HG.out HF.out HL.out).mono ?_
  rintro e w1 ⟨rfl, hb⟩
  have HB := Lib.hid hb
  clear hb
  go_wp2
  go_ret
  exact ⟨by rw [idxG_ge]; rfl, HB.out⟩

set_option maxHeartbeats 1000000 in
theorem indexFuncRule (g : Nat) (lb : Array Value) (p : Rule → Bool) (a : Option Addr) (cap : Nat) (l : List Rule) (w : World) (eg : ∀ args w, (callFunc g args).run Try.prog w = .ok (.enter g args) w)
    (hf : PredRule g lb l p w) (hl : Rd AnyB w (.sl (l.map Rule.d)) [.slice a l.length cap]) :
    Calls Try.prog 74 #[.slice a l.length cap, .func (.func g) #[] lb] w fun e w' => e = .returned (.int .i64 (idxG p l)) ∧ Below w.heap.size w w' := by
  have HL := Lib.hid hl
  have HF := Lib.hid hf
  have hc := hl.bounds.2
  unfold maxLen at hc
  obtain ⟨hc1, hc2⟩ := hc
  clear hl hf
  go_enter Try.func74, Try.ntmps74
  go_wp2
  go_loopg [8] l.length (fun gg v8 wr => ∃ i : Nat, i ≤ l.length ∧ l.length - i ≤ gg ∧ v8 = .int .i64 i ∧ Hid (Below w.heap.size w wr) ∧ Hid (∀ j (h : j < l.length), j < i → p l[j] = false))
  case atStart => exact ⟨0, by omega, by omega, rfl, Below.refl _ _, fun j _ hj => by omega⟩
  case round =>
    obtain ⟨i, hi, hg, rfl, HB, HN⟩ := hrel
    by_cases hlt : i < l.length
    · have hlt' : (i : Int) < (l.length : Int) := by omega
      obtain ⟨b, off, vr, hae, -, -, c0, c1, hkr⟩ := (HL.out.below HB.out).rule_at hlt
      obtain ⟨ar, cr, rfl, -, -⟩ := hkr.form
      rw [List.length_map] at c1 hkr
      obtain ⟨x, HX⟩ := nameIt (l[i]'hlt)
      rw [HX.out] at c0 c1 hkr
      have hcall := HF.out wr x _ (by rw [← HX.out]; exact List.getElem_mem hlt) HB.out hkr
      obtain ⟨q0, HQ0⟩ := nameIt x.left
      obtain ⟨q1, HQ1⟩ := nameIt x.right.length
      rw [HQ0.out] at c0 hcall
      rw [HQ1.out] at c1 hcall
      have HC := Lib.hid hcall
      clear hcall hkr
      subst hae
      go_wp2_with fail
      refine HC.out.mono ?_
      rintro e w6 ⟨rfl, hb6⟩
      have HB6 := Lib.hid (HB.out.trans (hb6.mono HB.out.size))
      clear hb6 c0 c1
      cases hp : p x with
      | true =>
        have HE : Hid (idxG p l = i) := idxG_hit hlt (by rw [HX.out]; exact hp) HN.out
        clear hp
        go_wp2
        go_ret
        exact ⟨by rw [HE.out]; rfl, HB6.out⟩
      | false =>
        have HN2 : Hid (∀ j (h : j < l.length), j < i + 1 → p l[j] = false) := by
          intro j h hj
          by_cases e : j = i
          · subst e; rw [HX.out]; exact hp
          · exact HN.out j h (by omega)
        clear hp
        go_wp2
        go_roundg (l.length - (i + 1))
        case measure => omega
        case rel => exact ⟨i + 1, by omega, by omega, by go_num, HB6, HN2⟩
    · have hlt' : ¬ (i : Int) < (l.length : Int) := by omega
      have HE : Hid (idxG p l = -1) := idxG_none fun j hj => HN.out j hj (by omega)
      go_wp2
      go_ret
      exact ⟨by rw [HE.out]; rfl, HB.out⟩

set_option maxHeartbeats 1000000 in
theorem containsFuncRule (g : Nat) (lb : Array Value) (p : Rule → Bool) (a : Option Addr) (cap : Nat) (l : List Rule) (w : World) (eg : ∀ args w, (callFunc g args).run Try.prog w = .ok (.enter g args) w)
    (hf : PredRule g lb l p w) (hl : Rd AnyB w (.sl (l.map Rule.d)) [.slice a l.length cap]) :
    Calls Try.prog 35 #[.slice a l.length cap, .func (.func g) #[] lb] w fun e w' => e = .returned (.bool (l.any p)) ∧ Below w.heap.size w w' := by
  have HL := Lib.hid hl
  have HF := Lib.hid hf
  have HG := Lib.hid eg
  clear hl hf eg
  go_enter Try.func35, Try.ntmps35
  go_wp2_with fail
  refine (indexFuncRule g lb p a cap l w HG.out HF.out HL.out).mono ?_
  rintro e w1 ⟨rfl, hb⟩
  have HB := Lib.hid hb
  clear hb
  go_wp2
  go_ret
  exact ⟨by rw [idxG_ge]; rfl, HB.out⟩

set_option maxHeartbeats 1000000 in
theorem orderS (x y : Sym) (w : World) : Calls Try.prog 76 #[.agg #[.bool x.term, .int .i64 x.n], .agg #[.bool y.term, .int .i64 y.n]] w fun e w' => e = .returned (.int .i64 (ordS x y)) ∧ Below w.heap.size w w' := by
  obtain ⟨x0, x1⟩ := x
  obtain ⟨y0, y1⟩ := y
  dsimp only
  cases x0 <;> cases y0
  · have HC := Lib.hid (fun W => compareInt x1 y1 W)
    have HO : Hid (ordS ⟨false, x1⟩ ⟨false, y1⟩ = cmp3 x1 y1) := by show _ = _; simp [ordS]
    go_enter Try.func76, Try.ntmps76
    go_wp2_with fail
    refine (HC.out _).mono ?_
    rintro e w' ⟨rfl, rfl⟩
    go_wp2_with fail
    go_ret
    exact ⟨by rw [HO.out]; rfl, ((Below.refl _ _).alloc (Nat.le_refl _) _).alloc (by simp) _⟩
  · have HO : Hid (ordS ⟨false, x1⟩ ⟨true, y1⟩ = 1) := by show _ = _; simp [ordS]
    go_enter Try.func76, Try.ntmps76
    go_wp2_with fail
    go_ret
    exact ⟨by rw [HO.out]; rfl, ((Below.refl _ _).alloc (Nat.le_refl _) _).alloc (by simp) _⟩
  · have HO : Hid (ordS ⟨true, x1⟩ ⟨false, y1⟩ = -1) := by show _ = _; simp [ordS]
    go_enter Try.func76, Try.ntmps76
    go_wp2_with fail
    go_ret
    exact ⟨by rw [HO.out]; rfl, ((Below.refl _ _).alloc (Nat.le_refl _) _).alloc (by simp) _⟩
  · have HC := Lib.hid (fun W => compareInt x1 y1 W)
    have HO : Hid (ordS ⟨true, x1⟩ ⟨true, y1⟩ = cmp3 x1 y1) := by show _ = _; simp [ordS]
    go_enter Try.func76, Try.ntmps76
    go_wp2_with fail
    refine (HC.out _).mono ?_
    rintro e w' ⟨rfl, rfl⟩
    go_wp2_with fail
    go_ret
    exact ⟨by rw [HO.out]; rfl, ((Below.refl _ _).alloc (Nat.le_refl _) _).alloc (by simp) _⟩

theorem cmpS_at {l m : List Sym} {i : Nat} (h : i < l.length) (h2 : i < m.length) : cmpS (l.drop i) (m.drop i) = if ordS l[i] m[i] = 0 then cmpS (l.drop (i + 1)) (m.drop (i + 1)) else ordS l[i] m[i] := by
  rw [List.drop_eq_getElem_cons h, List.drop_eq_getElem_cons h2, cmpS]
theorem cmpS_long {l m : List Sym} {i : Nat} (h : i < l.length) (h2 : m.length ≤ i) : cmpS (l.drop i) (m.drop i) = 1 := by
  rw [List.drop_eq_getElem_cons h, List.drop_of_length_le h2, cmpS]
theorem cmpS_short {l m : List Sym} {i : Nat} (h : l.length ≤ i) (h2 : i < m.length) : cmpS (l.drop i) (m.drop i) = -1 := by
  rw [List.drop_eq_getElem_cons h2, List.drop_of_length_le h, cmpS]
theorem cmpS_end {l m : List Sym} {i : Nat} (h : l.length ≤ i) (h2 : m.length ≤ i) : cmpS (l.drop i) (m.drop i) = 0 := by
  rw [List.drop_of_length_le h2, List.drop_of_length_le h, cmpS]

set_option maxHeartbeats 1000000 in
theorem compareSyms (a a' : Option Addr) (cap cap' : Nat) (l m : List Sym) (w : World) (hl : Rd AnyB w (.sl (l.map Sym.d)) [.slice a l.length cap]) (hm : Rd AnyB w (.sl (m.map Sym.d)) [.slice a' m.length cap']) :
    Calls Try.prog 75 #[.slice a l.length cap, .slice a' m.length cap', .func (.func 76) #[] #[]] w fun e w' => e = .returned (.int .i64 (cmpS l m)) ∧ Below w.heap.size w w' := by
  have HL := Lib.hid hl
  have HM := Lib.hid hm
  have hc := hl.bounds.2
  have hc' := hm.bounds.2
  unfold maxLen at hc hc'
  obtain ⟨hc1, hc2⟩ := hc
  obtain ⟨hc3, hc4⟩ := hc'
  clear hl hm
  go_enter Try.func75, Try.ntmps75
  go_wp2_with fail
  go_loopg [13] l.length (fun gg v13 wr => ∃ i : Nat, i ≤ l.length ∧ l.length - i ≤ gg ∧ v13 = .int .i64 i ∧ Hid (Below w.heap.size w wr) ∧ Hid (cmpS (l.drop i) (m.drop i) = cmpS l m))
  case atStart => exact ⟨0, by omega, by omega, rfl, Below.refl _ _, rfl⟩
  case round =>
    obtain ⟨i, hi, hg, rfl, HB, HE⟩ := hrel
    by_cases hlt : i < l.length
    · have hlt' : (i : Int) < (l.length : Int) := by omega
      obtain ⟨b, off, hae, -, -, c0, c1⟩ := (HL.out.below HB.out).sym_at hlt
      by_cases hlt2 : i < m.length
      · have hlt2' : (i : Int) < (m.length : Int) := by omega
        obtain ⟨b', off', hae', -, -, d0, d1⟩ := (HM.out.below HB.out).sym_at hlt2
        have h1 := HE.out
        rw [cmpS_at hlt hlt2] at h1
        obtain ⟨x, HX⟩ := nameIt (l[i]'hlt)
        obtain ⟨y, HY⟩ := nameIt (m[i]'hlt2)
        rw [HX.out] at c0 c1 h1
        rw [HY.out] at d0 d1 h1
        have hcall := fun W => orderS x y W
        obtain ⟨c, HC⟩ := nameIt (ordS x y)
        obtain ⟨q0, HQ0⟩ := nameIt x.term
        obtain ⟨q1, HQ1⟩ := nameIt x.n
        obtain ⟨p0, HP0⟩ := nameIt y.term
        obtain ⟨p1, HP1⟩ := nameIt y.n
        rw [HC.out] at h1 hcall
        rw [HQ0.out] at c0 hcall
        rw [HQ1.out] at c1 hcall
        rw [HP0.out] at d0 hcall
        rw [HP1.out] at d1 hcall
        have H1 := Lib.hid h1
        have HCA := Lib.hid hcall
        have hne := lt_of_cell d0
        subst hae hae'
        clear h1 hcall
        have hbb := ((Below.refl wr.heap.size wr).alloc (Nat.le_refl _) (.cells #[.bool q0, .int .i64 q1] 44)).alloc (by simp) (.cells #[.bool p0, .int .i64 p1] 44)
        have HBB := Lib.hid (HB.out.trans (hbb.mono HB.out.size))
        clear hbb
        go_wp2_with fail
        refine (HCA.out _).mono ?_
        rintro e w6 ⟨rfl, hb6⟩
        have HB6 := Lib.hid (HBB.out.trans (hb6.mono HBB.out.size))
        clear hb6 c0 c1 d0 d1
        by_cases h0 : c = 0
        · subst h0
          have h2 := H1.out
          rw [if_pos rfl] at h2
          have HE2 := Lib.hid h2
          clear h2
          go_wp2_with fail
          go_roundg (l.length - (i + 1))
          case measure => omega
          case rel => exact ⟨i + 1, by omega, by omega, by go_num, HB6, HE2⟩
        · have h2 := H1.out
          rw [if_neg h0] at h2
          have HE2 := Lib.hid h2
          have hcb : (c != 0) = true := by simpa using h0
          clear h2 h0
          go_wp2_with fail
          go_ret
          exact ⟨by rw [← HE2.out]; rfl, HB6.out⟩
      · have hlt2' : (m.length : Int) ≤ (i : Int) := by omega
        have HE2 : Hid (cmpS l m = 1) := by show _ = _; rw [← HE.out]; exact cmpS_long hlt (by omega)
        subst hae
        go_wp2_with fail
        go_ret
        exact ⟨by rw [HE2.out]; rfl, HB.out.alloc HB.out.size _⟩
    · have hlt' : ¬ (i : Int) < (l.length : Int) := by omega
      by_cases hlt2 : l.length < m.length
      · have HE2 : Hid (cmpS l m = -1) := by show _ = _; rw [← HE.out]; exact cmpS_short (by omega) (by omega)
        have hlt3 : (l.length : Int) < (m.length : Int) := by omega
        go_wp2_with fail
        go_ret
        exact ⟨by rw [HE2.out]; rfl, HB.out⟩
      · have HE2 : Hid (cmpS l m = 0) := by show _ = _; rw [← HE.out]; exact cmpS_end (by omega) (by omega)
        have hlt3 : ¬ (l.length : Int) < (m.length : Int) := by omega
        go_wp2_with fail
        go_ret
        exact ⟨by rw [HE2.out]; rfl, HB.out⟩
end Go.Proofs.Ytjpmebppdcclbaa
namespace Go.Proofs.Ytjpmebppdcclbaa
open Go.RowKit

theorem cells4 {W w' : World} (hb : Below W.heap.size W w') {b1 b2 : Nat} {T : TypeId} {a0 a1 c0 c1 : Value} (h1 : W.heap[b1]? = some (.cells #[a0, a1] T (0, 0))) (h2 : W.heap[b2]? = some (.cells #[c0, c1] T (0, 0))) :
    w'.cell? ⟨b1, 0, none⟩ = some a0 ∧ w'.cell? ⟨b1, 0 + 1, none⟩ = some a1 ∧ w'.cell? ⟨b2, 0, none⟩ = some c0 ∧ w'.cell? ⟨b2, 0 + 1, none⟩ = some c1 := by
  obtain ⟨x1, x2⟩ := bx_cells2 (bx_keep h1 hb)
  obtain ⟨x4, x5⟩ := bx_cells2 (bx_keep h2 hb)
  exact ⟨x1, x2, x4, x5⟩

set_option maxHeartbeats 1000000 in
set_option maxRecDepth 100000 in
theorem compareR (x y : Rule) (a a' : Option Addr) (c c' : Nat) (w : World) (hx : Rd AnyB w (.sl (x.right.map Sym.d)) [.slice a x.right.length c]) (hy : Rd AnyB w (.sl (y.right.map Sym.d)) [.slice a' y.right.length c']) :
    Calls Try.prog 37 #[.agg #[.int .i64 x.left, .slice a x.right.length c], .agg #[.int .i64 y.left, .slice a' y.right.length c']] w fun e w' => e = .returned (.int .i64 (cmpR x y)) ∧ Below w.heap.size w w' := by
  obtain ⟨lx, HLX⟩ := nameIt x.left
  obtain ⟨ly, HLY⟩ := nameIt y.left
  obtain ⟨nx, HNX⟩ := nameIt x.right.length
  obtain ⟨ny, HNY⟩ := nameIt y.right.length
  obtain ⟨w0, HW0⟩ := nameIt ((w.alloc (.cells #[.int .i64 lx, .slice a nx c] 69)).alloc (.cells #[.int .i64 ly, .slice a' ny c'] 69))
  have HB : Hid (Below w.heap.size w w0) := by rw [← HW0.out]; exact ((Below.refl _ _).alloc (Nat.le_refl _) _).alloc (by simp) _
  have X1 : Hid (w0.heap[w.heap.size]? = some (.cells #[.int .i64 lx, .slice a nx c] 69 (0, 0))) := by
    rw [← HW0.out]; exact bx_keep (bx_new _ _ _ rfl) ((Below.refl _ _).alloc (Nat.le_refl _) _)
  have X2 : Hid (w0.heap[w.heap.size + 1]? = some (.cells #[.int .i64 ly, .slice a' ny c'] 69 (0, 0))) := by
    rw [← HW0.out]; exact bx_new _ _ _ (by simp)
  obtain ⟨q1, HQ1⟩ := nameIt (cmp3 lx ly)
  obtain ⟨q2, HQ2⟩ := nameIt (cmpS x.right y.right)
  have C1 := Lib.hid (fun W => compareInt lx ly W)
  have C2 := Lib.hid (fun W (hb : Below w0.heap.size w0 W) => compareSyms a a' c c' x.right y.right W ((hx.below HB.out).below hb) ((hy.below HB.out).below hb))
  rw [HQ1.out] at C1
  rw [HQ2.out, HNX.out, HNY.out] at C2
  have HR : Hid (cmpR x y = orL [q1, q2]) := by show _ = _; unfold cmpR; rw [HLX.out, HLY.out, HQ1.out, HQ2.out]
  rw [HLX.out, HLY.out, HNX.out, HNY.out]
  obtain ⟨x0, x1⟩ := bx_cells2 X1.out
  obtain ⟨y0, y1⟩ := bx_cells2 X2.out
  clear hx hy
  go_enter Try.func37, Try.ntmps37
  go_wp2_with fail
  rw [HW0.out]
  go_region_held3 (fun w' => w'.cell? ⟨w.heap.size, 0, none⟩ = some (.int .i64 lx) ∧ w'.cell? ⟨w.heap.size, 0 + 1, none⟩ = some (.slice a nx c) ∧ w'.cell? ⟨w.heap.size + 1, 0, none⟩ = some (.int .i64 ly) ∧ w'.cell? ⟨w.heap.size + 1, 0 + 1, none⟩ = some (.slice a' ny c'))
    (first | exact cells4 (Below.refl _ _).drew X1.out X2.out | exact cells4 (HB2.out.alloc HB2.out.size _) X1.out X2.out | exact cells4 HB2.out X1.out X2.out | fail)
    (first
      | (go_at_call 71; (with_reducible refine (C1.out _).mono ?_); rintro e w' ⟨rfl, rfl⟩)
      | (go_at_call 75; (with_reducible refine (C2.out _ (Below.refl _ _).drew).mono ?_); rintro e w2 ⟨rfl, hb2⟩; have HB2 : Hid (Below w0.heap.size w0 w2) := (Below.refl _ _).drew.trans hb2; clear hb2)
      | (go_at_call 70; (with_reducible refine (orInt _ [q1, q2] _ (sl_lit (v := #[.int .i64 q1, .int .i64 q2]) rfl (of_decide_eq_true rfl))).mono ?_); rintro e w' ⟨rfl, rfl⟩)
      | fail)
  go_wp2_with fail
  go_ret
  have hB := HB.out.trans (HB2.out.mono HB.out.size)
  exact ⟨by rw [HR.out]; rfl, hB.alloc hB.size _⟩

set_option maxHeartbeats 1000000 in
set_option maxRecDepth 100000 in
theorem hasE (g : Gram) (a : Option Addr) (n c : Nat) (s : Sym) (w : World) :
    Calls Try.prog 34 #[.agg #[.int .i64 g.terms, .int .i64 g.nons, .int .i64 g.start, .slice a n c], .agg #[.bool s.term, .int .i64 s.n]] w fun e w' => e = .returned (.bool (hasS g s)) ∧ Below w.heap.size w w' := by
  obtain ⟨gt, HGT⟩ := nameIt g.terms
  obtain ⟨gn, HGN⟩ := nameIt g.nons
  obtain ⟨gs, HGS⟩ := nameIt g.start
  obtain ⟨st, HST⟩ := nameIt s.term
  obtain ⟨sn, HSN⟩ := nameIt s.n
  obtain ⟨B, HBn⟩ := nameIt (hasS g s)
  have HV : Hid ((decide (0 ≤ sn) && (st && decide (sn < gt) || !st && decide (sn < gn))) = B) := by show _ = _; rw [← HBn.out]; unfold hasS; rw [HGT.out, HGN.out, HST.out, HSN.out]
  rw [HGT.out, HGN.out, HGS.out, HST.out, HSN.out, HBn.out]
  by_cases h0 : 0 ≤ sn
  · have b0 : decide (0 ≤ sn) = true := by simpa using h0
    cases st with
    | true =>
      by_cases h1 : sn < gt
      · have b1 : decide (sn < gt) = true := by simpa using h1
        obtain rfl : B = true := by rw [← HV.out]; simp [h0, h1]
        clear h0 h1
        go_enter Try.func34, Try.ntmps34
        go_wp2_with fail
        go_ret
        exact ⟨rfl, ((Below.refl _ _).alloc (Nat.le_refl _) _).alloc (by simp) _⟩
      · have b1 : decide (sn < gt) = false := by simpa using h1
        obtain rfl : B = false := by rw [← HV.out]; simp [h0, h1]
        clear h0 h1
        go_enter Try.func34, Try.ntmps34
        go_wp2_with fail
        go_ret
        exact ⟨rfl, ((Below.refl _ _).alloc (Nat.le_refl _) _).alloc (by simp) _⟩
    | false =>
      by_cases h1 : sn < gn
      · have b1 : decide (sn < gn) = true := by simpa using h1
        obtain rfl : B = true := by rw [← HV.out]; simp [h0, h1]
        clear h0 h1
        go_enter Try.func34, Try.ntmps34
        go_wp2_with fail
        go_ret
        exact ⟨rfl, ((Below.refl _ _).alloc (Nat.le_refl _) _).alloc (by simp) _⟩
      · have b1 : decide (sn < gn) = false := by simpa using h1
        obtain rfl : B = false := by rw [← HV.out]; simp [h0, h1]
        clear h0 h1
        go_enter Try.func34, Try.ntmps34
        go_wp2_with fail
        go_ret
        exact ⟨rfl, ((Below.refl _ _).alloc (Nat.le_refl _) _).alloc (by simp) _⟩
  · have b0 : decide (0 ≤ sn) = false := by simpa using h0
    obtain rfl : B = false := by rw [← HV.out]; simp [h0]
    clear h0
    go_enter Try.func34, Try.ntmps34
    go_wp2_with fail
    go_ret
    exact ⟨rfl, ((Below.refl _ _).alloc (Nat.le_refl _) _).alloc (by simp) _⟩

set_option maxHeartbeats 1000000 in
theorem hasF (g : Gram) (b : Nat) (a : Option Addr) (n c : Nat) (l : List Sym) (w : World) (hx : w.heap[b]? = some (.cells #[.int .i64 g.terms, .int .i64 g.nons, .int .i64 g.start, .slice a n c] 24 (0, 0))) :
    PredSym 33 #[.pointer (some ⟨b, 0, none⟩)] l (fun s => !hasS g s) w := by
  intro W s _ hb
  have hc := hasE g a n c s
  have hx' := bx_keep hx hb
  obtain ⟨gt, HGT⟩ := nameIt g.terms
  obtain ⟨gn, HGN⟩ := nameIt g.nons
  obtain ⟨gs, HGS⟩ := nameIt g.start
  obtain ⟨st, HST⟩ := nameIt s.term
  obtain ⟨sn, HSN⟩ := nameIt s.n
  obtain ⟨B, HBn⟩ := nameIt (hasS g s)
  rw [HGT.out, HGN.out, HGS.out] at hx'
  rw [HGT.out, HGN.out, HGS.out, HST.out, HSN.out, HBn.out] at hc
  dsimp only
  rw [HST.out, HSN.out, HBn.out]
  obtain ⟨x0, x1, x2, x3⟩ := bx_cells4 hx'
  have hlt := (Array.getElem?_eq_some_iff.1 hx').1
  have HC := Lib.hid hc
  clear hc hx hb hx'
  show Calls _ _ #[_, _] _ _
  go_enter Try.func33, Try.ntmps33
  go_wp2_with fail
  refine (HC.out _).mono ?_
  rintro e w1 ⟨rfl, hb1⟩
  have hB := (Below.refl W.heap.size W).alloc (Nat.le_refl _) (.cells #[.bool st, .int .i64 sn] 44)
  have HB1 := Lib.hid (hB.trans (hb1.mono hB.size))
  clear hb1 hB x0 x1 x2 x3
  cases B
  all_goals
    go_wp2_with fail
    go_ret
    exact ⟨rfl, HB1.out⟩

set_option maxHeartbeats 1000000 in
theorem sameRF (r : Rule) (b : Nat) (ar : Option Addr) (cr : Nat) (l : List Rule) (w : World) (hx : w.heap[b]? = some (.cells #[.int .i64 r.left, .slice ar r.right.length cr] 69 (0, 0))) (hr : Rd AnyB w (.sl (r.right.map Sym.d)) [.slice ar r.right.length cr]) :
    PredRule 36 #[.pointer (some ⟨b, 0, none⟩)] l (fun x => cmpR x r == 0) w := by
  intro W x v _ hb hv
  obtain ⟨av, cv, rfl, -, -⟩ := hv.form
  rw [List.length_map] at hv ⊢
  have hx' := bx_keep hx hb
  have hc := fun W' (h : Below W.heap.size W W') => compareR x r av ar cv cr W' (hv.below h) ((hr.below hb).below h)
  obtain ⟨lx, HLX⟩ := nameIt x.left
  obtain ⟨nx, HNX⟩ := nameIt x.right.length
  obtain ⟨lr, HLR⟩ := nameIt r.left
  obtain ⟨nr, HNR⟩ := nameIt r.right.length
  obtain ⟨q, HQ⟩ := nameIt (cmpR x r)
  rw [HLX.out, HNX.out, HLR.out, HNR.out, HQ.out] at hc
  rw [HLR.out, HNR.out] at hx'
  dsimp only
  rw [HLX.out, HNX.out, HQ.out]
  obtain ⟨x0, x1⟩ := bx_cells2 hx'
  have hlt := (Array.getElem?_eq_some_iff.1 hx').1
  have HC := Lib.hid hc
  clear hc hx hb hx' hv hr
  show Calls _ _ #[_, _] _ _
  go_enter Try.func36, Try.ntmps36
  go_wp2_with fail
  refine (HC.out _ ((Below.refl _ _).alloc (Nat.le_refl _) _)).mono ?_
  rintro e w1 ⟨rfl, hb1⟩
  have hB := (Below.refl W.heap.size W).alloc (Nat.le_refl _) (.cells #[.int .i64 lx, .slice av nx cv] 69)
  have HB1 := Lib.hid (hB.trans (hb1.mono hB.size))
  clear hb1 hB x0 x1
  go_wp2_with fail
  go_ret
  exact ⟨rfl, HB1.out⟩

/-- the first elements of a slice -/
theorem Rd.start {S : Nat → Prop} {w : World} {ds : List D} {a : Option Addr} {n cap i : Nat} (h : Rd S w (.sl ds) [.slice a n cap]) (hi : i ≤ ds.length) : Rd S w (.sl (ds.take i)) [.slice a i cap] := by
  obtain ⟨a', cap', L, e, h1, h2, h3, h4, h5⟩ := h
  simp at e
  obtain ⟨rfl, rfl, rfl⟩ := e
  rw [← List.take_append_drop i ds] at h5
  obtain ⟨c1, c2, rfl, h6, h7⟩ := h5.split
  refine ⟨a, cap, c1, by simp; omega, by simp; omega, h2, h3, fun j hj => ?_, h6⟩
  have := h4 j (by simp; omega)
  rwa [List.getElem_append_left hj] at this

theorem badHead_cases {g : Gram} (h : badHead g = true) : (decide (g.terms < 1) = true) ∨ (decide (g.terms < 1) = false ∧ decide (8 < g.terms) = true) ∨ (decide (g.terms < 1) = false ∧ decide (8 < g.terms) = false ∧ decide (g.nons < 1) = true) ∨ (decide (g.terms < 1) = false ∧ decide (8 < g.terms) = false ∧ decide (g.nons < 1) = false ∧ decide (10 < g.nons) = true) ∨
    (decide (g.terms < 1) = false ∧ decide (8 < g.terms) = false ∧ decide (g.nons < 1) = false ∧ decide (10 < g.nons) = false ∧ decide (g.start < 0) = true) ∨ (decide (g.terms < 1) = false ∧ decide (8 < g.terms) = false ∧ decide (g.nons < 1) = false ∧ decide (10 < g.nons) = false ∧ decide (g.start < 0) = false ∧ decide (g.nons ≤ g.start) = true) := by
  simp [badHead] at h ⊢
  omega
theorem goodHead {g : Gram} (h : ¬ badHead g = true) : decide (g.terms < 1) = false ∧ decide (8 < g.terms) = false ∧ decide (g.nons < 1) = false ∧ decide (10 < g.nons) = false ∧ decide (g.start < 0) = false ∧ decide (g.nons ≤ g.start) = false := by
  simp [badHead] at h ⊢
  omega

set_option maxHeartbeats 4000000 in
set_option maxRecDepth 100000 in
theorem checkE (g : Gram) (ar : Option Addr) (cr : Nat) (w : World) (hr : Rd AnyB w (.sl (g.rules.map Rule.d)) [.slice ar g.rules.length cr]) :
    Calls Try.prog 10 #[.agg #[.int .i64 g.terms, .int .i64 g.nons, .int .i64 g.start, .slice ar g.rules.length cr]] w fun e w' => e = .returned (.int .i64 (checkG g)) ∧ Below w.heap.size w w' := by
  have hbs := hr.bounds.2
  unfold maxLen at hbs
  obtain ⟨hc1, hc2⟩ := hbs
  obtain ⟨gt, HGT⟩ := nameIt g.terms
  obtain ⟨gn, HGN⟩ := nameIt g.nons
  obtain ⟨gs, HGS⟩ := nameIt g.start
  obtain ⟨K, HK⟩ := nameIt g.rules
  have HBC := Lib.hid (@badHead_cases g)
  have HGH := Lib.hid (@goodHead g)
  rw [HGT.out, HGN.out, HGS.out] at HBC HGH
  obtain ⟨w0, HW0⟩ := nameIt (w.alloc (.cells #[.int .i64 gt, .int .i64 gn, .int .i64 gs, .slice ar K.length cr] 24))
  have HB0 : Hid (Below w.heap.size w w0) := by rw [← HW0.out]; exact (Below.refl _ _).alloc (Nat.le_refl _) _
  have X1 : Hid (w0.heap[w.heap.size]? = some (.cells #[.int .i64 gt, .int .i64 gn, .int .i64 gs, .slice ar K.length cr] 24 (0, 0))) := by rw [← HW0.out]; exact bx_new _ _ _ rfl
  have HR := Lib.hid (hr.below HB0.out)
  rw [HK.out] at HR hc1
  rw [HGT.out, HGN.out, HGS.out, HK.out]
  obtain ⟨x0, x1, x2, x3⟩ := bx_cells4 X1.out
  clear hr
  by_cases hbad : badHead g = true
  · have HE : Hid (checkG g = 1) := by show _ = _; simp [checkG, hbad]
    rcases HBC.out hbad with h1 | ⟨h1, h2⟩ | ⟨h1, h2, h3⟩ | ⟨h1, h2, h3, h4⟩ | ⟨h1, h2, h3, h4, h5⟩ | ⟨h1, h2, h3, h4, h5, h6⟩
    all_goals
      clear hbad
      go_enter Try.func10, Try.ntmps10
      go_upto_region 1 with fail
      rw [HW0.out]
      go_wp2_with fail
      go_ret
      exact ⟨by rw [HE.out]; rfl, HB0.out⟩
  · obtain ⟨h1, h2, h3, h4, h5, h6⟩ := HGH.out hbad
    have HBD := Lib.hid hbad
    clear hbad
    by_cases hlen : 32 < K.length
    · have HE : Hid (checkG g = 2) := by show _ = _; rw [checkG, if_neg HBD.out, HK.out, if_pos hlen]
      have hlen' : (32 : Int) < (K.length : Int) := by omega
      go_enter Try.func10, Try.ntmps10
      go_upto_region 1 with fail
      rw [HW0.out]
      go_wp2_with fail
      go_ret
      exact ⟨by rw [HE.out]; rfl, HB0.out⟩
    · have HE : Hid (checkG g = faultsFrom g 0 K) := by show _ = _; rw [checkG, if_neg HBD.out, HK.out, if_neg hlen]
      have hlen' : ¬ (32 : Int) < (K.length : Int) := by omega
      go_enter Try.func10, Try.ntmps10
      go_upto_region 1 with fail
      rw [HW0.out]
      go_wp2_with fail
      clear h1 h2 h3 h4 h5 h6 x0 x1 x2 x3
      go_loopg [42] K.length (fun gg v42 wr => ∃ i : Nat, i ≤ K.length ∧ K.length - i ≤ gg ∧ v42 = .int .i64 i ∧ Hid (Below w0.heap.size w0 wr) ∧ Hid (faultsFrom g i (K.drop i) = faultsFrom g 0 K))
      case atStart => exact ⟨0, by omega, by omega, rfl, Below.refl _ _, rfl⟩
      case round =>
        obtain ⟨i, hi, hg, rfl, HB, HF⟩ := hrel
        by_cases hlt : i < K.length
        · have hlt' : (i : Int) < (K.length : Int) := by omega
          have hiK : (i : Int) ≤ (cr : Int) := by omega
          obtain ⟨b, off, vr, hae, -, hbl, c0, c1, hkr⟩ := (HR.out.below HB.out).rule_at hlt
          obtain ⟨av, cv, rfl, -, hcv⟩ := hkr.form
          rw [List.length_map] at c1 hkr
          have h1 := HF.out
          have hrl : i < g.rules.length := by rw [HK.out]; exact hlt
          rw [← HK.out, faultsFrom_at hrl] at h1
          simp only [HK.out] at h1
          obtain ⟨r, HRn⟩ := nameIt (K[i]'hlt)
          rw [HRn.out] at c0 c1 hkr h1
          have hbl2 : b < wr.heap.size := hbl
          obtain ⟨w4, HW4⟩ := nameIt (wr.alloc (.cells #[.int .i64 r.left, .slice av r.right.length cv] 69))
          have hb4 : Below wr.heap.size wr w4 := by rw [← HW4.out]; exact (Below.refl _ _).alloc (Nat.le_refl _) _
          have X4 : Hid (w4.heap[wr.heap.size]? = some (.cells #[.int .i64 r.left, .slice av r.right.length cv] 69 (0, 0))) := by rw [← HW4.out]; exact bx_new _ _ _ rfl
          have HB4 := Lib.hid (HB.out.trans (hb4.mono HB.out.size))
          have HKR := Lib.hid (hkr.below hb4)
          have X1' := Lib.hid (bx_keep X1.out HB4.out)
          have HX1 := X1'
          rw [← HGT.out, ← HGN.out, ← HGS.out] at HX1
          have PS := Lib.hid (hasF g w.heap.size ar K.length cr r.right w4 HX1.out)
          have CS := Lib.hid (containsFuncSym 33 #[.pointer (some ⟨w.heap.size, 0, none⟩)] (fun s => !hasS g s) av cv r.right w4 (fun _ _ => by kernel_rfl) PS.out HKR.out)
          have htl : (K.take i).length = i := by simp; omega
          have hst : ∀ W, Below w4.heap.size w4 W → Rd AnyB W (.sl ((K.take i).map Rule.d)) [.slice ar (K.take i).length cr] := by
            intro W hb
            have h2 := (((HR.out.below HB4.out).below hb).start (i := i) (by simp; omega))
            rw [← List.map_take] at h2
            rw [htl]; exact h2
          have CRR := Lib.hid (fun W (hb : Below w4.heap.size w4 W) => containsFuncRule 36 #[.pointer (some ⟨wr.heap.size, 0, none⟩)] (fun x => cmpR x r == 0) ar cr (K.take i) W (fun _ _ => by kernel_rfl) (sameRF r wr.heap.size av cv (K.take i) W (bx_keep X4.out hb) (HKR.out.below hb)) (hst W hb))
          rw [htl] at CRR
          obtain ⟨lf, HLF⟩ := nameIt r.left
          obtain ⟨rn, HRNn⟩ := nameIt r.right.length
          obtain ⟨A1, HA1⟩ := nameIt (r.right.any fun s => !hasS g s)
          obtain ⟨A2, HA2⟩ := nameIt ((K.take i).any fun x => cmpR x r == 0)
          have hfr : faultR g i r = if lf < 0 ∨ gn ≤ lf then 3 else if 4 < rn then 2 else if A1 then 3 else if A2 then 6 else 0 := by
            unfold faultR; rw [HLF.out, HGN.out, HRNn.out, HA1.out, HK.out, HA2.out]
          rw [HLF.out] at c0 HW4
          rw [HRNn.out] at c1 HW4 CS
          rw [HA1.out] at CS
          simp only [HA2.out] at CRR
          have X4' := X4
          rw [HLF.out, HRNn.out] at X4'
          obtain ⟨y0, y1⟩ := bx_cells2 X4'.out
          obtain ⟨x0, x1, x2, x3⟩ := bx_cells4 X1'.out
          have hl4 : wr.heap.size < w4.heap.size := (Array.getElem?_eq_some_iff.1 X4'.out).1
          have hl1 : w.heap.size < w4.heap.size := (Array.getElem?_eq_some_iff.1 X1'.out).1
          have HFR := Lib.hid hfr
          have H1 := Lib.hid h1
          have hrn : (rn : Int) ≤ 9223372036854775807 := by have := HKR.out.bounds.2; rw [HRNn.out] at this; unfold maxLen at this hcv; omega
          subst hae
          clear hkr hb4 h1 hfr htl hst
          by_cases ha : lf < 0 ∨ gn ≤ lf
          · have hf : faultR g i r = 3 := by rw [HFR.out, if_pos ha]
            have HE2 : Hid (faultsFrom g 0 K = 3) := by show _ = _; rw [← H1.out, hf, if_neg (by decide)]
            have ha' : (decide (lf < 0) = true) ∨ (decide (lf < 0) = false ∧ decide (gn ≤ lf) = true) := by simp; omega
            clear hf ha
            rcases ha' with k1 | ⟨k1, k2⟩
            all_goals
              go_upto_region 8 with fail
              rw [HW4.out]
              go_wp2_with fail
              go_ret
              exact ⟨by rw [HE.out, HE2.out]; rfl, HB0.out.trans (HB4.out.mono HB0.out.size)⟩
          · have k1 : decide (lf < 0) = false := by simp; omega
            have k2 : decide (gn ≤ lf) = false := by simp; omega
            have HFa : Hid (faultR g i r = if 4 < rn then 2 else if A1 then 3 else if A2 then 6 else 0) := by show _ = _; rw [HFR.out, if_neg ha]
            clear ha HFR
            by_cases hb : 4 < rn
            · have k3 : (4 : Int) < (rn : Int) := by omega
              have hf : faultR g i r = 2 := by rw [HFa.out, if_pos hb]
              have HE2 : Hid (faultsFrom g 0 K = 2) := by show _ = _; rw [← H1.out, hf, if_neg (by decide)]
              clear hf
              go_upto_region 8 with fail
              rw [HW4.out]
              go_wp2_with fail
              go_ret
              exact ⟨by rw [HE.out, HE2.out]; rfl, HB0.out.trans (HB4.out.mono HB0.out.size)⟩
            · have k3 : ¬ (4 : Int) < (rn : Int) := by omega
              have HFb : Hid (faultR g i r = if A1 then 3 else if A2 then 6 else 0) := by show _ = _; rw [HFa.out, if_neg hb]
              clear HFa
              go_upto_region 8 with fail
              rw [HW4.out]
              go_wp2_with fail
              refine CS.out.mono ?_
              rintro e w5 ⟨rfl, hb5⟩
              have HB45 := Lib.hid hb5
              have HB5 := Lib.hid (HB4.out.trans (hb5.mono HB4.out.size))
              obtain ⟨x0, x1, x2, x3⟩ := bx_cells4 (bx_keep X1'.out hb5)
              have hl15 : w.heap.size < w5.heap.size := (Array.getElem?_eq_some_iff.1 (bx_keep X1'.out hb5)).1
              clear hb5 y0 y1
              cases A1 with
              | true =>
                have hf : faultR g i r = 3 := by rw [HFb.out, if_pos rfl]
                have HE2 : Hid (faultsFrom g 0 K = 3) := by show _ = _; rw [← H1.out, hf, if_neg (by decide)]
                clear hf
                go_wp2_with fail
                go_ret
                exact ⟨by rw [HE.out, HE2.out]; rfl, HB0.out.trans (HB5.out.mono HB0.out.size)⟩
              | false =>
                go_wp2_with fail
                refine (CRR.out _ HB45.out).mono ?_
                rintro e w6 ⟨rfl, hb6⟩
                have HB6 := Lib.hid (HB5.out.trans (hb6.mono HB5.out.size))
                clear hb6 x0 x1 x2 x3
                cases A2 with
                | true =>
                  have hf : faultR g i r = 6 := by rw [HFb.out]; rfl
                  have HE2 : Hid (faultsFrom g 0 K = 6) := by show _ = _; rw [← H1.out, hf, if_neg (by decide)]
                  clear hf
                  go_wp2_with fail
                  go_ret
                  exact ⟨by rw [HE.out, HE2.out]; rfl, HB0.out.trans (HB6.out.mono HB0.out.size)⟩
                | false =>
                  have hf : faultR g i r = 0 := by rw [HFb.out]; rfl
                  have HE2 : Hid (faultsFrom g (i + 1) (K.drop (i + 1)) = faultsFrom g 0 K) := by show _ = _; rw [← H1.out, hf, if_pos rfl]
                  clear hf
                  go_wp2_with fail
                  go_roundg (K.length - (i + 1))
                  case measure => omega
                  case rel => exact ⟨i + 1, by omega, by omega, by go_num, HB6, HE2⟩
        · have hlt' : ¬ (i : Int) < (K.length : Int) := by omega
          have HE2 : Hid (faultsFrom g 0 K = 0) := by show _ = _; rw [← HF.out, List.drop_of_length_le (by omega)]; rfl
          go_wp2_with fail
          go_ret
          exact ⟨by rw [HE.out, HE2.out]; rfl, HB0.out.trans (HB.out.mono HB0.out.size)⟩
end Go.Proofs.Ytjpmebppdcclbaa
namespace Go.Proofs.Ytjpmebppdcclbaa
open Go.RowKit
namespace Hl
open Rp

theorem symNe (a c : Bool) (b d : Int) (w : World) : (binOp .neq 44 (.agg #[.bool a, .int .i64 b]) (.agg #[.bool c, .int .i64 d])).run Try.prog w = .ok (.bool (!(a == c && b == d))) w := by
  have h1 : Try.prog.underlying 44 = some (.struct (Try.prog.fieldsOf 44)) := by kernel_rfl
  have h2 : Try.prog.stoodInHeld 44 = false := by kernel_rfl
  have h3 := Try.underlying44
  have h4 := Try.underlying4
  have h5 := Try.underlying3
  rw [run_neq_struct, run_equalIn_agg (d := 9999) _ _ _ _ h1 h2]
  simp only [Program.fieldsOf, h3]
  cases hac : (a == c) <;> by_cases hbd : b = d <;> simp [Op.eqFields, go_sem, h4, h5, hac, hbd]
def badS (g : Gram) (s : Sym) : Bool := !hasS g s && !(s.term == true && s.n == -1)
def patF (g : Gram) (l : List Sym) : Int := if checkG g ≠ 0 then checkG g else if 12 < l.length then 2 else if l.any (badS g) then 3 else 0
theorem any_take {g : Gram} {l : List Sym} {i : Nat} (hi : i < l.length) (h : ∀ x ∈ l.take i, badS g x = false) (hx : badS g l[i] = false) : ∀ x ∈ l.take (i + 1), badS g x = false := by
  intro x hm
  rw [List.take_succ_eq_append_getElem hi, List.mem_append] at hm
  rcases hm with hm | hm
  · exact h x hm
  · simp at hm; subst hm; exact hx
set_option maxHeartbeats 8000000 in
set_option maxRecDepth 100000 in
theorem checkPE (g : Gram) (l : List Sym) (ga : Option Addr) (gcp : Nat) (la : Option Addr) (lk : Nat) (W : World) (hgr : Rd AnyB W (.sl (g.rules.map Rule.d)) [.slice ga g.rules.length gcp]) (hrl : Rd AnyB W (.sl (l.map Sym.d)) [.slice la l.length lk]) :
    Calls Try.prog 20 #[.agg #[.int .i64 g.terms, .int .i64 g.nons, .int .i64 g.start, .slice ga g.rules.length gcp], .slice la l.length lk] W fun e w' => e = .returned (.int .i64 (patF g l)) ∧ Below W.heap.size W w' := by
  have hlb := hrl.bounds.2
  unfold maxLen at hlb
  obtain ⟨hlc1, hlc2⟩ := hlb
  obtain ⟨w0, HW0⟩ := nameIt (W.alloc (.cells #[.int .i64 g.terms, .int .i64 g.nons, .int .i64 g.start, .slice ga g.rules.length gcp] 24))
  have hb0 : Below W.heap.size W w0 := by rw [← HW0.out]; exact (Below.refl _ _).alloc (Nat.le_refl _) _
  have X0 : Hid (w0.heap[W.heap.size]? = some (.cells #[.int .i64 g.terms, .int .i64 g.nons, .int .i64 g.start, .slice ga g.rules.length gcp] 24 (0, 0))) := by rw [← HW0.out]; exact bx_new _ _ _ rfl
  have HCK := Lib.hid (checkE g ga gcp w0 (hgr.below hb0))
  have HRL := Lib.hid (hrl.below hb0)
  obtain ⟨PST, HP⟩ := nameIt (fun (e : Ending) (w' : World) => e = .returned (.int .i64 (patF g l)) ∧ Below W.heap.size W w')
  have HFIN : Hid (∀ z w', patF g l = z → Below w0.heap.size w0 w' → PST (.returned (.int .i64 z)) w') := by
    intro z w' h1 h2
    rw [← HP.out]
    exact ⟨by rw [h1], hb0.trans (h2.mono hb0.size)⟩
  rw [HP.out]
  have HHS : Hid (∀ s : Sym, ∀ W', Calls Try.prog 34 #[.agg #[.int .i64 g.terms, .int .i64 g.nons, .int .i64 g.start, .slice ga g.rules.length gcp], .agg #[.bool s.term, .int .i64 s.n]] W' fun e w' => e = .returned (.bool (hasS g s)) ∧ Below W'.heap.size W' w') := fun s W' => hasE g ga g.rules.length gcp s W'
  obtain ⟨gt, HGT⟩ := nameIt g.terms
  obtain ⟨gn, HGN⟩ := nameIt g.nons
  obtain ⟨gs, HGS⟩ := nameIt g.start
  obtain ⟨kn, HKN⟩ := nameIt g.rules.length
  obtain ⟨n, HN⟩ := nameIt l.length
  rw [HGT.out, HGN.out, HGS.out, HKN.out] at HW0 X0 HCK HHS
  rw [HN.out] at hlc1 HRL
  rw [HGT.out, HGN.out, HGS.out, HKN.out, HN.out]
  obtain ⟨ck, HC⟩ := nameIt (checkG g)
  rw [HC.out] at HCK
  obtain ⟨x0, x1, x2, x3⟩ := bx_cells4 X0.out
  clear hb0 hgr hrl HP
  go_enter Try.func20, Try.ntmps20
  go_upto_region 1 with fail
  rw [HW0.out]
  go_wp2_with fail
  refine HCK.out.mono ?_
  clear x0 x1 x2 x3
  rintro e w1 ⟨rfl, hb1⟩
  have X1 := Lib.hid (bx_keep X0.out hb1)
  have HB1 := Lib.hid hb1
  clear hb1
  by_cases he : ck = 0
  · subst he
    by_cases hn : n ≤ 12
    · have hn' : (n : Int) ≤ 12 := by omega
      have hgt : ¬ (12 : Int) < (n : Int) := by omega
      have HP3 : Hid (l.any (badS g) = true → patF g l = 3) := by
        intro h
        unfold patF
        rw [if_neg (by rw [HC.out]; simp), if_neg (by rw [HN.out]; omega), if_pos h]
      have HP0 : Hid ((∀ x ∈ l.take n, badS g x = false) → patF g l = 0) := by
        intro h
        unfold patF
        rw [if_neg (by rw [HC.out]; simp), if_neg (by rw [HN.out]; omega), if_neg]
        rw [List.take_of_length_le (by rw [HN.out]; exact Nat.le_refl _)] at h
        intro h2
        rw [List.any_eq_true] at h2
        obtain ⟨x, hx, hb⟩ := h2
        rw [h x hx] at hb; cases hb
      have HT0 : Hid (∀ x ∈ l.take 0, badS g x = false) := fun x hx => by simp at hx
      clear HC
      go_wp2_with fail
      go_loopg [7, 18] n (fun gg v7 v18 wr => ∃ i : Nat, i ≤ n ∧ n - i ≤ gg ∧ v18 = .int .i64 (i : Nat) ∧ Hid (Below w0.heap.size w0 wr) ∧ Hid (∀ x ∈ l.take i, badS g x = false))
      case atStart => exact ⟨0, by omega, by omega, rfl, HB1, HT0⟩
      case round =>
        clear HB1 HT0 X1 w1
        obtain ⟨i, hi, hgg, rfl, HB, HTK⟩ := hrel
        obtain ⟨w1, rfl⟩ : ∃ wo : World, wo = wr := ⟨_, rfl⟩
        by_cases hlt : i < n
        · have hlt' : (i : Int) < (n : Int) := by omega
          have hil : i < l.length := by rw [HN.out]; exact hlt
          obtain ⟨sb, so, hsa, -, -, c0, c1⟩ := (show Rd AnyB w1 (.sl (l.map Sym.d)) [.slice la n lk] from HRL.out.below HB.out).sym_at hil
          obtain ⟨s, HS⟩ := nameIt (l[i]'hil)
          rw [HS.out] at c0 c1
          have HNX : Hid (badS g s = false → ∀ x ∈ l.take (i + 1), badS g x = false) := fun h => any_take hil HTK.out (by rw [HS.out]; exact h)
          have HBD : Hid (badS g s = true → l.any (badS g) = true) := fun h => List.any_eq_true.2 ⟨s, by rw [← HS.out]; exact List.getElem_mem hil, h⟩
          have hsn := symNe s.term true s.n (-1)
          have HH := Lib.hid (HHS.out s)
          obtain ⟨hv, HHV⟩ := nameIt (hasS g s)
          obtain ⟨qv, HQV⟩ := nameIt (s.term == true && s.n == -1)
          have HBS : Hid (badS g s = (!hv && !qv)) := by show _ = _; unfold badS; rw [HHV.out, HQV.out]
          rw [HQV.out] at hsn
          rw [HHV.out] at HH
          obtain ⟨st, HST⟩ := nameIt s.term
          obtain ⟨sn, HSN⟩ := nameIt s.n
          rw [HST.out] at c0 hsn HH
          rw [HSN.out] at c1 hsn HH
          subst hsa
          obtain ⟨w2, HW2⟩ := nameIt (w1.alloc (.cells #[.bool st, .int .i64 sn] 44))
          have hb2 : Below w1.heap.size w1 w2 := by rw [← HW2.out]; exact (Below.refl _ _).alloc (Nat.le_refl _) _
          have S2 : Hid (w2.heap[w1.heap.size]? = some (.cells #[.bool st, .int .i64 sn] 44 (0, 0))) := by rw [← HW2.out]; exact bx_new _ _ _ rfl
          have HB2 := Lib.hid (HB.out.trans (hb2.mono HB.out.size))
          have X2 := Lib.hid (bx_keep X0.out HB2.out)
          obtain ⟨b7, HB7⟩ := nameIt w1.heap.size
          rw [HB7.out] at S2
          clear hb2
          go_upto_region 9 with fail
          rw [HW2.out, HB7.out]
          clear HW2 HB7 c0 c1
          obtain ⟨x0, x1, x2, x3⟩ := bx_cells4 X2.out
          obtain ⟨y0, y1⟩ := bx_cells2 S2.out
          have i0 := aft_cell x0
          have i1 := aft_cell x1
          have i2 := aft_cell x2
          have i3 := aft_cell x3
          have i4 := aft_cell y0
          have i5 := aft_cell y1
          have HT : Hid (∀ W', Below w2.heap.size w2 W' → Calls Try.prog 51 #[.int .i64 (-1)] W' fun e w' => e = .returned (.agg #[.bool true, .int .i64 (-1)]) ∧ Below W'.heap.size W' w') := fun W' _ => gramT (-1) W'
          have HHX : Hid (∀ W', Below w2.heap.size w2 W' → Calls Try.prog 34 #[.agg #[.int .i64 gt, .int .i64 gn, .int .i64 gs, .slice ga kn gcp], .agg #[.bool st, .int .i64 sn]] W' fun e w' => e = .returned (.bool hv) ∧ Below W'.heap.size W' w') := fun W' _ => HH.out W'
          clear x0 x1 x2 x3 y0 y1
          cases hv with
          | true =>
            refine wp_region_after (by kernel_rfl) (by kernel_rfl) ?_
            repeat (go_big_quiet_step (with_reducible exact Calls.after (HHX.out _ (Aft.bel _))))
            repeat (go_big_quiet_step (with_reducible exact Calls.after (HT.out _ (Aft.bel _))))
            refine wpQuiet_nil ?_
            rintro w7 ⟨⟨_, hb7⟩, rfl⟩
            have HB8 := Lib.hid (HB2.out.trans (hb7.mono HB2.out.size))
            have HNX2 := Lib.hid (HNX.out (by rw [HBS.out]; simp))
            clear hb7 i0 i1 i2 i3 i4 i5
            go_wp2_with fail
            go_roundg (n - (i + 1))
            case measure => omega
            case rel => exact ⟨i + 1, by omega, by omega, by go_num, HB8, HNX2⟩
          | false =>
            refine wp_region_after (by kernel_rfl) (by kernel_rfl) ?_
            repeat (go_big_quiet_step (with_reducible exact Calls.after (HHX.out _ (Aft.bel _))))
            repeat (go_big_quiet_step (with_reducible exact Calls.after (HT.out _ (Aft.bel _))))
            refine wpQuiet_nil ?_
            rintro w7 ⟨⟨_, hb7⟩, rfl⟩
            have HB8 := Lib.hid (HB2.out.trans (hb7.mono HB2.out.size))
            clear hb7 i0 i1 i2 i3 i4 i5
            cases qv with
            | true =>
              have HNX2 := Lib.hid (HNX.out (by rw [HBS.out]; simp))
              go_wp2_with fail
              go_roundg (n - (i + 1))
              case measure => omega
              case rel => exact ⟨i + 1, by omega, by omega, by go_num, HB8, HNX2⟩
            | false =>
              have HF := Lib.hid (HFIN.out 3 w7 (HP3.out (HBD.out (by rw [HBS.out]; simp))) HB8.out)
              go_wp2_with fail
              exact HF.out
        · have hlt' : ¬ (i : Int) < (n : Int) := by omega
          obtain rfl : i = n := by omega
          have HF := Lib.hid (HFIN.out 0 w1 (HP0.out HTK.out) HB.out)
          go_wp2_with fail
          exact HF.out
    · have hgt : (12 : Int) < (n : Int) := by omega
      have HF := Lib.hid (HFIN.out 2 w1 (by unfold patF; rw [if_neg (by rw [HC.out]; simp), if_pos (by rw [HN.out]; omega)]) HB1.out)
      go_wp2_with fail
      exact HF.out
  · have b1 : (ck != 0) = true := by simpa using he
    have HF := Lib.hid (HFIN.out ck w1 (by unfold patF; rw [HC.out, if_pos he]) HB1.out)
    go_wp2_with fail
    exact HF.out
end Hl
end Go.Proofs.Ytjpmebppdcclbaa
namespace Go.Proofs.Ytjpmebppdcclbaa
open Go.RowKit
namespace Hl
open Rp

/-- the three cells of a way -/
def hcells (o : Option Val) (u : Value) : List Value := [.int .i64 (oN o), u, .bool o.isSome]
/-- block g is a row of m ways; their words lie in blocks of P -/
def HRow (P : Nat → Prop) (g m : Nat) (A : Nat → Option Val) (w : World) : Prop :=
  ∃ cs, w.heap[g]? = some (.cells cs 91 (0, 0)) ∧ cs.size = m * 3 ∧ ∀ j, j < m → ∃ u, (∀ c (h : c < 3), cs[j * 3 + c]? = some ((hcells (A j) u)[c]'h)) ∧ Rd P w (D.ints (oW (A j))) [u]
section
variable {P P' : Nat → Prop} {g m : Nat} {A A' : Nat → Option Val} {w w' : World}
theorem HRow.lt (h : HRow P g m A w) : g < w.heap.size := by obtain ⟨cs, h1, _⟩ := h; exact (Array.getElem?_eq_some_iff.1 h1).1
theorem HRow.grown {row : Option Nat} (h : HRow P g m A w) (hg : w.grownBy w' row) (hr : row ≠ some g) (hp : ∀ k, row = some k → ¬ P k) : HRow P g m A w' := by
  have hl := h.lt
  obtain ⟨cs, h1, h2, h3⟩ := h
  refine ⟨cs, (hg.block g hl (fun e => hr e.symm)).trans h1, h2, fun j hj => ?_⟩
  obtain ⟨u, h4, h5⟩ := h3 j hj
  exact ⟨u, h4, rd_grown h5 hg hp⟩
theorem HRow.keep (h : HRow P g m A w) (hb : Below w.heap.size w w') : HRow P g m A w' := h.grown (grown_below hb none) (by simp) (by simp)
theorem HRow.mono (h : HRow P g m A w) (hp : ∀ k, P k → k < w.heap.size → P' k) : HRow P' g m A w := by
  obtain ⟨cs, h1, h2, h3⟩ := h
  refine ⟨cs, h1, h2, fun j hj => ?_⟩
  obtain ⟨u, h4, h5⟩ := h3 j hj
  exact ⟨u, h4, h5.mono hp⟩
theorem HRow.eq (h : HRow P g m A w) (e : ∀ j, j < m → A j = A' j) : HRow P g m A' w := by
  obtain ⟨cs, h1, h2, h3⟩ := h
  refine ⟨cs, h1, h2, fun j hj => ?_⟩
  obtain ⟨u, h4, h5⟩ := h3 j hj
  rw [e j hj] at h4 h5
  exact ⟨u, h4, h5⟩
theorem HRow.get (h : HRow P g m A w) {j : Nat} (hj : j < m) : ∃ a l k, (∀ w' : World, w'.heap[g]? = w.heap[g]? → w'.cell? ⟨g, j * 3, none⟩ = some (.int .i64 (oN (A j))) ∧ w'.cell? ⟨g, j * 3 + 1, none⟩ = some (.slice a l k) ∧ w'.cell? ⟨g, j * 3 + 2, none⟩ = some (.bool (A j).isSome)) ∧
    HR P w (.agg #[.int .i64 (oN (A j)), .slice a l k, .bool (A j).isSome]) (A j) := by
  obtain ⟨cs, h1, h2, h3⟩ := h
  obtain ⟨u, h4, h5⟩ := h3 j hj
  obtain ⟨a, k, rfl⟩ := (sl_rd h5).form
  refine ⟨_, _, _, fun w' hw' => ?_, _, rfl, h5⟩
  rw [h1] at hw'
  have e0 := h4 0 (by omega)
  have e1 := h4 1 (by omega)
  have e2 := h4 2 (by omega)
  simp only [Nat.add_zero] at e0
  refine ⟨?_, ?_, ?_⟩ <;> simp [World.cell?, hw', e0, e1, e2, hcells]
theorem HRow.free (h : HRow P g m A w) (k : Nat) : w.frozen? ⟨g, k, none⟩ = false := by obtain ⟨cs, h1, h2, h3⟩ := h; simp [World.frozen?, h1]
theorem grown_cellsAt3 (w : World) (b : Nat) (k0 k1 k2 : Nat) (v0 v1 v2 : Value) : w.grownBy (((w.setCell ⟨b, k0, none⟩ v0).setCell ⟨b, k1, none⟩ v1).setCell ⟨b, k2, none⟩ v2) (some b) := by
  refine ⟨rfl, rfl, rfl, by simp [World.setCell], fun k _ hn => ?_⟩
  have hne : ¬ k = b := fun e => hn (by rw [e])
  rw [Below.heap_setCell _ _ _ _ hne, Below.heap_setCell _ _ _ _ hne, Below.heap_setCell _ _ _ _ hne]
/-- one way stored in place -/
theorem HRow.set (h : HRow P g m A w) {j : Nat} (hj : j < m) {o : Option Val} {u : Value} (hu : Rd P w (D.ints (oW o)) [u]) (hg : ¬ P g) (he : ∀ k, k < m → A' k = if k = j then o else A k) :
    HRow P g m A' (((w.setCell ⟨g, j * 3, none⟩ (.int .i64 (oN o))).setCell ⟨g, j * 3 + 1, none⟩ u).setCell ⟨g, j * 3 + 2, none⟩ (.bool o.isSome)) := by
  have hgr := grown_cellsAt3 w g (j * 3) (j * 3 + 1) (j * 3 + 2) (.int .i64 (oN o)) u (.bool o.isSome)
  have hp : ∀ k, some g = some k → ¬ P k := fun k e => by cases e; exact hg
  obtain ⟨cs, h1, h2, h3⟩ := h
  have b0 := bx_set h1 (j * 3) (.int .i64 (oN o))
  have b1 := bx_set b0 (j * 3 + 1) u
  have b2 := bx_set b1 (j * 3 + 2) (.bool o.isSome)
  refine ⟨_, b2, by simpa using h2, fun k hk => ?_⟩
  rw [he k hk]
  by_cases e : k = j
  · subst e
    rw [if_pos rfl]
    refine ⟨u, fun c hc => ?_, rd_grown hu hgr hp⟩
    simp only [Array.getElem?_setIfInBounds, Array.size_setIfInBounds]
    match c, hc with
    | 0, _ => simp [hcells, h2]; omega
    | 1, _ => simp [hcells, h2]; omega
    | 2, _ => simp [hcells, h2]; omega
  · rw [if_neg e]
    obtain ⟨u', h4, h5⟩ := h3 k hk
    refine ⟨u', fun c hc => ?_, rd_grown h5 hgr hp⟩
    rw [← h4 c hc]
    simp only [Array.getElem?_setIfInBounds, Array.size_setIfInBounds]
    rw [if_neg (by omega), if_neg (by omega), if_neg (by omega)]
theorem made_at3 (z0 z1 z2 : Value) (m j c : Nat) (hj : j < m) (hc : c < 3) : (madeCells #[z0, z1, z2] (m * 3))[j * 3 + c]? = some (#[z0, z1, z2][c]'(by simpa using hc)) := by
  have h1 : j * 3 + c < m * 3 := by omega
  have h2 : (j * 3 + c) % 3 = c := by omega
  simp only [madeCells]
  rw [Array.getElem?_map, Array.getElem?_range, if_pos h1]
  have h3 : (#[z0, z1, z2] : Array Value).size = 3 := rfl
  simp only [Option.map_some, h3, h2]
  match c, hc with
  | 0, _ => rfl
  | 1, _ => rfl
  | 2, _ => rfl
theorem hrow_new (P : Nat → Prop) (w : World) (m : Nat) {g : Nat} (hg : g = w.heap.size) : HRow P g m (fun _ => none) (w.alloc (.cells (madeCells #[.int .i64 0, .slice none 0 0, .bool false] (m * 3)) 91)) := by
  subst hg
  refine ⟨_, bx_new _ _ _ rfl, by rw [size_madeCells], fun j hj => ⟨.slice none 0 0, fun c hc => ?_, rd_nil _ _⟩⟩
  rw [made_at3 _ _ _ _ _ _ hj hc]
  match c, hc with
  | 0, _ => rfl
  | 1, _ => rfl
  | 2, _ => rfl
end
end Hl
end Go.Proofs.Ytjpmebppdcclbaa
