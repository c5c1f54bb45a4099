/- repair.hopeless, repair.then. (*corrector).rule of repair. What repair.Best keeps, in plain Lean. -/
import Derived.Test.YtjpmebppdcclbaaJRepairBestRow3
import Derived.Test.YtjpmebppdcclbaaJRepairBestRow4
namespace Go.Proofs.Ytjpmebppdcclbaa
open Go.RowKit
namespace Rp

set_option maxHeartbeats 4000000 in
set_option maxRecDepth 100000 in
theorem hopE (x y z : Value) (o p t : Option Val) (P Q R : Nat → Prop) (W : World) (hx : WR P W x o) (hy : WR Q W y p) (hz : WR R W z t) (hc : oC o + oC p ≤ 4611686018427387904) (hn : oN o + oN p ≤ 4611686018427387904) :
    Calls Try.prog 68 #[x, y, z] W fun e w' => e = .returned (.bool (hopB o p t)) ∧ Below W.heap.size W w' := by
  obtain ⟨a1, m1, k1, rfl, -⟩ := hx.form
  obtain ⟨a2, m2, k2, rfl, -⟩ := hy.form
  obtain ⟨a3, m3, k3, rfl, -⟩ := hz.form
  clear hx hy hz
  obtain ⟨r, HR⟩ := nameIt (hopB o p t)
  rw [HR.out]
  have HB : Hid (∀ x y z : Obj, Below W.heap.size W (((W.alloc x).alloc y).alloc z)) := fun x y z => (((Below.refl _ _).alloc (Nat.le_refl _) _).alloc (by simp) _).alloc (by simp; omega) _
  cases o with
  | none =>
    have : r = true := by rw [← HR.out]; rfl
    subst this
    simp only [Option.isSome, oC, oN]
    clear HR hc hn
    obtain ⟨bp, hbp⟩ := nameIt p.isSome
    obtain ⟨bt, hbt⟩ := nameIt t.isSome
    simp only [← Option.isSome.eq_def]
    generalize oC p = cp
    generalize oN p = np
    generalize oC t = ct
    generalize oN t = nt
    generalize p.isSome = bp
    generalize t.isSome = bt
    clear hbp hbt
    go_enter Try.func68, Try.ntmps68
    go_wp2
    all_goals first | (go_ret; exact ⟨rfl, HB.out _ _ _⟩) | skip
  | some v =>
  cases p with
  | none =>
    have : r = true := by rw [← HR.out]; rfl
    subst this
    simp only [Option.isSome, oC, oN]
    clear HR hc hn
    cases t <;>
    · simp only [oC, oN]
      go_enter Try.func68, Try.ntmps68
      go_wp2
      go_ret
      exact ⟨rfl, HB.out _ _ _⟩
  | some v' =>
    simp only [oC, oN] at hc hn
    obtain ⟨c, HC⟩ := nameIt v.c
    obtain ⟨c', HC'⟩ := nameIt v'.c
    obtain ⟨n, HN⟩ := nameIt v.n
    obtain ⟨n', HN'⟩ := nameIt v'.n
    rw [HC.out, HC'.out] at hc
    rw [HN.out, HN'.out] at hn
    cases t with
    | none =>
      have : r = false := by rw [← HR.out]; rfl
      subst this
      simp only [Option.isSome, oC, oN]
      rw [HC.out, HC'.out, HN.out, HN'.out]
      clear HR
      obtain ⟨w0, HW⟩ := nameIt (((W.alloc (.cells #[.int .i64 c, .int .i64 n, .slice a1 m1 k1, .bool true] 72)).alloc (.cells #[.int .i64 c', .int .i64 n', .slice a2 m2 k2, .bool true] 72)).alloc (.cells #[.int .i64 0, .int .i64 0, .slice a3 m3 k3, .bool false] 72))
      have HB0 : Hid (Below W.heap.size W w0) := by rw [← HW.out]; exact HB.out _ _ _
      have HZ : Hid (w0.heap[W.heap.size + 1 + 1]? = some (.cells #[.int .i64 0, .int .i64 0, .slice a3 m3 k3, .bool false] 72 (0, 0))) := by
        rw [← HW.out]; exact bx_new _ _ _ (by simp)
      have HCS : Hid (∀ w', Below w0.heap.size w0 w' → w'.cell? ⟨W.heap.size + 1 + 1, 0 + 3, none⟩ = some (.bool false)) := by
        intro w' hb'
        exact (bx_cells4 (bx_keep HZ.out hb')).2.2.2
      go_enter Try.func68, Try.ntmps68
      go_upto_region 3 with fail
      rw [HW.out]
      clear HW
      refine wp_region_U (S := (fun w' => w'.cell? ⟨W.heap.size + 1 + 1, 0 + 3, none⟩ = some (.bool false))) 22 (by kernel_rfl) (fun inv => ?_)
      refine wpU_take (i := 0) (v := .pointer (some ⟨W.heap.size + 1 + 1, 0 + 3, none⟩)) rfl inv (by kernel_rfl) (by kernel_rfl) (by decide) (by decide) (by kernel_rfl) (by kernel_rfl) (by kernel_rfl) (fun _ _ _ h => h) (Or.inl ⟨by rfl, fun w' hw' => ?_⟩) (HCS.out _ (Below.refl _ _).drew) (fun inv => ?_)
      · obtain h0 := hw'
        go_simp
      try simp only [Act.put, List.setIfInBounds_toArray, List.set_cons_zero, List.set_cons_succ]
      refine wpU_take (i := 1) (v := .bool false) rfl inv (by kernel_rfl) (by kernel_rfl) (by decide) (by decide) (by kernel_rfl) (by kernel_rfl) (by kernel_rfl) (fun _ _ _ h => h) (Or.inl ⟨by rfl, fun w' hw' => ?_⟩) (HCS.out _ (Below.refl _ _).drew) (fun inv => ?_)
      · obtain h0 := hw'
        go_simp
      try simp only [Act.put, List.setIfInBounds_toArray, List.set_cons_zero, List.set_cons_succ]
      refine wpU_take (i := 2) (v := .bool false) rfl inv (by kernel_rfl) (by kernel_rfl) (by decide) (by decide) (by kernel_rfl) (by kernel_rfl) (by kernel_rfl) (fun _ _ _ h => h) (Or.inl ⟨by rfl, fun w' hw' => ?_⟩) (HCS.out _ (Below.refl _ _).drew) (fun inv => ?_)
      · obtain h0 := hw'
        go_simp
      try simp only [Act.put, List.setIfInBounds_toArray, List.set_cons_zero, List.set_cons_succ]
      refine wpU_take (i := 3) (v := undef) rfl inv (by kernel_rfl) (by kernel_rfl) (by decide) (by decide) (by kernel_rfl) (by kernel_rfl) (by kernel_rfl) (fun _ _ _ h => h) (Or.inr ⟨by kernel_rfl, rfl⟩) (HCS.out _ (Below.refl _ _).drew) (fun inv => ?_)
      try simp only [Act.put, List.setIfInBounds_toArray, List.set_cons_zero, List.set_cons_succ]
      refine wpU_take (i := 4) (v := undef) rfl inv (by kernel_rfl) (by kernel_rfl) (by decide) (by decide) (by kernel_rfl) (by kernel_rfl) (by kernel_rfl) (fun _ _ _ h => h) (Or.inr ⟨by kernel_rfl, rfl⟩) (HCS.out _ (Below.refl _ _).drew) (fun inv => ?_)
      try simp only [Act.put, List.setIfInBounds_toArray, List.set_cons_zero, List.set_cons_succ]
      refine wpU_take (i := 5) (v := undef) rfl inv (by kernel_rfl) (by kernel_rfl) (by decide) (by decide) (by kernel_rfl) (by kernel_rfl) (by kernel_rfl) (fun _ _ _ h => h) (Or.inr ⟨by kernel_rfl, rfl⟩) (HCS.out _ (Below.refl _ _).drew) (fun inv => ?_)
      try simp only [Act.put, List.setIfInBounds_toArray, List.set_cons_zero, List.set_cons_succ]
      refine wpU_take (i := 6) (v := undef) rfl inv (by kernel_rfl) (by kernel_rfl) (by decide) (by decide) (by kernel_rfl) (by kernel_rfl) (by kernel_rfl) (fun _ _ _ h => h) (Or.inr ⟨by kernel_rfl, rfl⟩) (HCS.out _ (Below.refl _ _).drew) (fun inv => ?_)
      try simp only [Act.put, List.setIfInBounds_toArray, List.set_cons_zero, List.set_cons_succ]
      refine wpU_take (i := 7) (v := undef) rfl inv (by kernel_rfl) (by kernel_rfl) (by decide) (by decide) (by kernel_rfl) (by kernel_rfl) (by kernel_rfl) (fun _ _ _ h => h) (Or.inr ⟨by kernel_rfl, rfl⟩) (HCS.out _ (Below.refl _ _).drew) (fun inv => ?_)
      try simp only [Act.put, List.setIfInBounds_toArray, List.set_cons_zero, List.set_cons_succ]
      refine wpU_take (i := 8) (v := undef) rfl inv (by kernel_rfl) (by kernel_rfl) (by decide) (by decide) (by kernel_rfl) (by kernel_rfl) (by kernel_rfl) (fun _ _ _ h => h) (Or.inr ⟨by kernel_rfl, rfl⟩) (HCS.out _ (Below.refl _ _).drew) (fun inv => ?_)
      try simp only [Act.put, List.setIfInBounds_toArray, List.set_cons_zero, List.set_cons_succ]
      refine wpU_take (i := 9) (v := undef) rfl inv (by kernel_rfl) (by kernel_rfl) (by decide) (by decide) (by kernel_rfl) (by kernel_rfl) (by kernel_rfl) (fun _ _ _ h => h) (Or.inr ⟨by kernel_rfl, rfl⟩) (HCS.out _ (Below.refl _ _).drew) (fun inv => ?_)
      try simp only [Act.put, List.setIfInBounds_toArray, List.set_cons_zero, List.set_cons_succ]
      refine wpU_take (i := 10) (v := undef) rfl inv (by kernel_rfl) (by kernel_rfl) (by decide) (by decide) (by kernel_rfl) (by kernel_rfl) (by kernel_rfl) (fun _ _ _ h => h) (Or.inr ⟨by kernel_rfl, rfl⟩) (HCS.out _ (Below.refl _ _).drew) (fun inv => ?_)
      try simp only [Act.put, List.setIfInBounds_toArray, List.set_cons_zero, List.set_cons_succ]
      refine wpU_take (i := 11) (v := undef) rfl inv (by kernel_rfl) (by kernel_rfl) (by decide) (by decide) (by kernel_rfl) (by kernel_rfl) (by kernel_rfl) (fun _ _ _ h => h) (Or.inr ⟨by kernel_rfl, rfl⟩) (HCS.out _ (Below.refl _ _).drew) (fun inv => ?_)
      try simp only [Act.put, List.setIfInBounds_toArray, List.set_cons_zero, List.set_cons_succ]
      refine wpU_take (i := 12) (v := undef) rfl inv (by kernel_rfl) (by kernel_rfl) (by decide) (by decide) (by kernel_rfl) (by kernel_rfl) (by kernel_rfl) (fun _ _ _ h => h) (Or.inr ⟨by kernel_rfl, rfl⟩) (HCS.out _ (Below.refl _ _).drew) (fun inv => ?_)
      try simp only [Act.put, List.setIfInBounds_toArray, List.set_cons_zero, List.set_cons_succ]
      refine wpU_take (i := 13) (v := undef) rfl inv (by kernel_rfl) (by kernel_rfl) (by decide) (by decide) (by kernel_rfl) (by kernel_rfl) (by kernel_rfl) (fun _ _ _ h => h) (Or.inr ⟨by kernel_rfl, rfl⟩) (HCS.out _ (Below.refl _ _).drew) (fun inv => ?_)
      try simp only [Act.put, List.setIfInBounds_toArray, List.set_cons_zero, List.set_cons_succ]
      refine wpU_take (i := 14) (v := undef) rfl inv (by kernel_rfl) (by kernel_rfl) (by decide) (by decide) (by kernel_rfl) (by kernel_rfl) (by kernel_rfl) (fun _ _ _ h => h) (Or.inr ⟨by kernel_rfl, rfl⟩) (HCS.out _ (Below.refl _ _).drew) (fun inv => ?_)
      try simp only [Act.put, List.setIfInBounds_toArray, List.set_cons_zero, List.set_cons_succ]
      refine wpU_take (i := 15) (v := undef) rfl inv (by kernel_rfl) (by kernel_rfl) (by decide) (by decide) (by kernel_rfl) (by kernel_rfl) (by kernel_rfl) (fun _ _ _ h => h) (Or.inr ⟨by kernel_rfl, rfl⟩) (HCS.out _ (Below.refl _ _).drew) (fun inv => ?_)
      try simp only [Act.put, List.setIfInBounds_toArray, List.set_cons_zero, List.set_cons_succ]
      refine wpU_take (i := 16) (v := undef) rfl inv (by kernel_rfl) (by kernel_rfl) (by decide) (by decide) (by kernel_rfl) (by kernel_rfl) (by kernel_rfl) (fun _ _ _ h => h) (Or.inr ⟨by kernel_rfl, rfl⟩) (HCS.out _ (Below.refl _ _).drew) (fun inv => ?_)
      try simp only [Act.put, List.setIfInBounds_toArray, List.set_cons_zero, List.set_cons_succ]
      refine wpU_take (i := 17) (v := undef) rfl inv (by kernel_rfl) (by kernel_rfl) (by decide) (by decide) (by kernel_rfl) (by kernel_rfl) (by kernel_rfl) (fun _ _ _ h => h) (Or.inr ⟨by kernel_rfl, rfl⟩) (HCS.out _ (Below.refl _ _).drew) (fun inv => ?_)
      try simp only [Act.put, List.setIfInBounds_toArray, List.set_cons_zero, List.set_cons_succ]
      refine wpU_take (i := 18) (v := undef) rfl inv (by kernel_rfl) (by kernel_rfl) (by decide) (by decide) (by kernel_rfl) (by kernel_rfl) (by kernel_rfl) (fun _ _ _ h => h) (Or.inr ⟨by kernel_rfl, rfl⟩) (HCS.out _ (Below.refl _ _).drew) (fun inv => ?_)
      try simp only [Act.put, List.setIfInBounds_toArray, List.set_cons_zero, List.set_cons_succ]
      refine wpU_take (i := 19) (v := undef) rfl inv (by kernel_rfl) (by kernel_rfl) (by decide) (by decide) (by kernel_rfl) (by kernel_rfl) (by kernel_rfl) (fun _ _ _ h => h) (Or.inr ⟨by kernel_rfl, rfl⟩) (HCS.out _ (Below.refl _ _).drew) (fun inv => ?_)
      try simp only [Act.put, List.setIfInBounds_toArray, List.set_cons_zero, List.set_cons_succ]
      refine wpU_take (i := 20) (v := undef) rfl inv (by kernel_rfl) (by kernel_rfl) (by decide) (by decide) (by kernel_rfl) (by kernel_rfl) (by kernel_rfl) (fun _ _ _ h => h) (Or.inr ⟨by kernel_rfl, rfl⟩) (HCS.out _ (Below.refl _ _).drew) (fun inv => ?_)
      try simp only [Act.put, List.setIfInBounds_toArray, List.set_cons_zero, List.set_cons_succ]
      refine wpU_take (i := 21) (v := undef) rfl inv (by kernel_rfl) (by kernel_rfl) (by decide) (by decide) (by kernel_rfl) (by kernel_rfl) (by kernel_rfl) (fun _ _ _ h => h) (Or.inr ⟨by kernel_rfl, rfl⟩) (HCS.out _ (Below.refl _ _).drew) (fun inv => ?_)
      try simp only [Act.put, List.setIfInBounds_toArray, List.set_cons_zero, List.set_cons_succ]
      refine wpU_one (i := 22) (by kernel_rfl) rfl (fun K hK => ?_)
      go_simp
      refine hK.out _ _ (fun h => absurd (show true = false from h) (by decide)) ?_
      clear hK K
      try simp only [Act.put, List.setIfInBounds_toArray, List.set_cons_zero, List.set_cons_succ]
      refine wpU_one (i := 23) (by kernel_rfl) rfl (fun K hK => ?_)
      go_simp
      refine hK.out _ _ (fun h => absurd (show true = false from h) (by decide)) ?_
      clear hK K
      try simp only [Act.put, List.setIfInBounds_toArray, List.set_cons_zero, List.set_cons_succ]
      refine wpU_done (by kernel_rfl) ?_ _
      go_wp2_with fail
      go_ret
      exact ⟨rfl, HB0.out.drew⟩
    | some t =>
      obtain ⟨d, HD⟩ := nameIt t.c
      obtain ⟨m, HM⟩ := nameIt t.n
      obtain ⟨q1, HQ1⟩ := nameIt (cmp3 ((c : Int) + (c' : Int)) (d : Int))
      obtain ⟨q2, HQ2⟩ := nameIt (cmp3 ((n : Int) + (n' : Int)) (m : Int))
      have hr : decide (0 < orL [q1, q2]) = r := by
        rw [← HR.out]
        have e : hopB (some v) (some v') (some t) = decide (0 < orL [cmp3 ((v.c : Int) + (v'.c : Int)) (t.c : Int), cmp3 ((v.n : Int) + (v'.n : Int)) (t.n : Int)]) := rfl
        rw [e, HC.out, HC'.out, HN.out, HN'.out, HD.out, HM.out, HQ1.out, HQ2.out]
      have HRR := Lib.hid hr
      simp only [Option.isSome, oC, oN]
      rw [HC.out, HC'.out, HN.out, HN'.out, HD.out, HM.out]
      clear HR hr HC HC' HN HN' HD HM
      obtain ⟨w0, HW⟩ := nameIt (((W.alloc (.cells #[.int .i64 c, .int .i64 n, .slice a1 m1 k1, .bool true] 72)).alloc (.cells #[.int .i64 c', .int .i64 n', .slice a2 m2 k2, .bool true] 72)).alloc (.cells #[.int .i64 d, .int .i64 m, .slice a3 m3 k3, .bool true] 72))
      have HB0 : Hid (Below W.heap.size W w0) := by rw [← HW.out]; exact HB.out _ _ _
      have HX : Hid (w0.heap[W.heap.size]? = some (.cells #[.int .i64 c, .int .i64 n, .slice a1 m1 k1, .bool true] 72 (0, 0))) := by
        rw [← HW.out]; exact bx_keep (bx_keep (bx_new _ _ _ rfl) ((Below.refl _ _).alloc (Nat.le_refl _) _)) ((Below.refl _ _).alloc (Nat.le_refl _) _)
      have HY : Hid (w0.heap[W.heap.size + 1]? = some (.cells #[.int .i64 c', .int .i64 n', .slice a2 m2 k2, .bool true] 72 (0, 0))) := by
        rw [← HW.out]; exact bx_keep (bx_new _ _ _ (by simp)) ((Below.refl _ _).alloc (Nat.le_refl _) _)
      have HZ : Hid (w0.heap[W.heap.size + 1 + 1]? = some (.cells #[.int .i64 d, .int .i64 m, .slice a3 m3 k3, .bool true] 72 (0, 0))) := by
        rw [← HW.out]; exact bx_new _ _ _ (by simp)
      have HCS : Hid (∀ w', Below w0.heap.size w0 w' → w'.cell? ⟨W.heap.size, 0, none⟩ = some (.int .i64 c) ∧ w'.cell? ⟨W.heap.size, 0 + 1, none⟩ = some (.int .i64 n) ∧
          w'.cell? ⟨W.heap.size + 1, 0, none⟩ = some (.int .i64 c') ∧ w'.cell? ⟨W.heap.size + 1, 0 + 1, none⟩ = some (.int .i64 n') ∧ w'.cell? ⟨W.heap.size + 1 + 1, 0, none⟩ = some (.int .i64 d) ∧ w'.cell? ⟨W.heap.size + 1 + 1, 0 + 1, none⟩ = some (.int .i64 m) ∧ w'.cell? ⟨W.heap.size + 1 + 1, 0 + 3, none⟩ = some (.bool true)) := by
        intro w' hb'
        obtain ⟨h1, h2, h3, h4⟩ := bx_cells4 (bx_keep HX.out hb')
        obtain ⟨h5, h6, h7, h8⟩ := bx_cells4 (bx_keep HY.out hb')
        obtain ⟨h9, h10, h11, h12⟩ := bx_cells4 (bx_keep HZ.out hb')
        exact ⟨h1, h2, h5, h6, h9, h10, h12⟩
      have hw1 : IntKind.i64.wrap ((c : Int) + (c' : Int)) = (c : Int) + (c' : Int) := IntWalk.i64_in _ (by omega)
      have hw2 : IntKind.i64.wrap ((n : Int) + (n' : Int)) = (n : Int) + (n' : Int) := IntWalk.i64_in _ (by omega)
      go_enter Try.func68, Try.ntmps68
      go_upto_region 3 with fail
      rw [HW.out]
      clear HW
      refine wp_region_U (S := (fun w' => w'.cell? ⟨W.heap.size, 0, none⟩ = some (.int .i64 c) ∧ w'.cell? ⟨W.heap.size, 0 + 1, none⟩ = some (.int .i64 n) ∧ w'.cell? ⟨W.heap.size + 1, 0, none⟩ = some (.int .i64 c') ∧ w'.cell? ⟨W.heap.size + 1, 0 + 1, none⟩ = some (.int .i64 n') ∧ w'.cell? ⟨W.heap.size + 1 + 1, 0, none⟩ = some (.int .i64 d) ∧ w'.cell? ⟨W.heap.size + 1 + 1, 0 + 1, none⟩ = some (.int .i64 m) ∧ w'.cell? ⟨W.heap.size + 1 + 1, 0 + 3, none⟩ = some (.bool true))) 20 (by kernel_rfl) (fun inv => ?_)
      refine wpU_take (i := 0) (v := .pointer (some ⟨W.heap.size + 1 + 1, 0 + 3, none⟩)) rfl inv (by kernel_rfl) (by kernel_rfl) (by decide) (by decide) (by kernel_rfl) (by kernel_rfl) (by kernel_rfl) (fun _ _ _ h => h) (Or.inl ⟨by kernel_rfl, fun w' hw' => ?_⟩) (HCS.out _ (Below.refl _ _).drew) (fun inv => ?_)
      · obtain ⟨h0, h1, h2, h3, h4, h5, h6⟩ := hw'
        go_simp
      try simp only [Act.put, List.setIfInBounds_toArray, List.set_cons_zero, List.set_cons_succ]
      refine wpU_take (i := 1) (v := .bool true) rfl inv (by kernel_rfl) (by kernel_rfl) (by decide) (by decide) (by kernel_rfl) (by kernel_rfl) (by kernel_rfl) (fun _ _ _ h => h) (Or.inl ⟨by kernel_rfl, fun w' hw' => ?_⟩) (HCS.out _ (Below.refl _ _).drew) (fun inv => ?_)
      · obtain ⟨h0, h1, h2, h3, h4, h5, h6⟩ := hw'
        go_simp
      try simp only [Act.put, List.setIfInBounds_toArray, List.set_cons_zero, List.set_cons_succ]
      refine wpU_take (i := 2) (v := .bool true) rfl inv (by kernel_rfl) (by kernel_rfl) (by decide) (by decide) (by kernel_rfl) (by kernel_rfl) (by kernel_rfl) (fun _ _ _ h => h) (Or.inl ⟨by kernel_rfl, fun w' hw' => ?_⟩) (HCS.out _ (Below.refl _ _).drew) (fun inv => ?_)
      · obtain ⟨h0, h1, h2, h3, h4, h5, h6⟩ := hw'
        go_simp
      try simp only [Act.put, List.setIfInBounds_toArray, List.set_cons_zero, List.set_cons_succ]
      refine wpU_take (i := 3) (v := .pointer (some ⟨W.heap.size, 0, none⟩)) rfl inv (by kernel_rfl) (by kernel_rfl) (by decide) (by decide) (by kernel_rfl) (by kernel_rfl) (by kernel_rfl) (fun _ _ _ h => h) (Or.inl ⟨by kernel_rfl, fun w' hw' => ?_⟩) (HCS.out _ (Below.refl _ _).drew) (fun inv => ?_)
      · obtain ⟨h0, h1, h2, h3, h4, h5, h6⟩ := hw'
        go_simp
      try simp only [Act.put, List.setIfInBounds_toArray, List.set_cons_zero, List.set_cons_succ]
      refine wpU_take (i := 4) (v := .int .i64 c) rfl inv (by kernel_rfl) (by kernel_rfl) (by decide) (by decide) (by kernel_rfl) (by kernel_rfl) (by kernel_rfl) (fun _ _ _ h => h) (Or.inl ⟨by kernel_rfl, fun w' hw' => ?_⟩) (HCS.out _ (Below.refl _ _).drew) (fun inv => ?_)
      · obtain ⟨h0, h1, h2, h3, h4, h5, h6⟩ := hw'
        go_simp
      try simp only [Act.put, List.setIfInBounds_toArray, List.set_cons_zero, List.set_cons_succ]
      refine wpU_take (i := 5) (v := .pointer (some ⟨W.heap.size + 1, 0, none⟩)) rfl inv (by kernel_rfl) (by kernel_rfl) (by decide) (by decide) (by kernel_rfl) (by kernel_rfl) (by kernel_rfl) (fun _ _ _ h => h) (Or.inl ⟨by kernel_rfl, fun w' hw' => ?_⟩) (HCS.out _ (Below.refl _ _).drew) (fun inv => ?_)
      · obtain ⟨h0, h1, h2, h3, h4, h5, h6⟩ := hw'
        go_simp
      try simp only [Act.put, List.setIfInBounds_toArray, List.set_cons_zero, List.set_cons_succ]
      refine wpU_take (i := 6) (v := .int .i64 c') rfl inv (by kernel_rfl) (by kernel_rfl) (by decide) (by decide) (by kernel_rfl) (by kernel_rfl) (by kernel_rfl) (fun _ _ _ h => h) (Or.inl ⟨by kernel_rfl, fun w' hw' => ?_⟩) (HCS.out _ (Below.refl _ _).drew) (fun inv => ?_)
      · obtain ⟨h0, h1, h2, h3, h4, h5, h6⟩ := hw'
        go_simp
      try simp only [Act.put, List.setIfInBounds_toArray, List.set_cons_zero, List.set_cons_succ]
      refine wpU_take (i := 7) (v := .int .i64 ((c : Int) + (c' : Int))) rfl inv (by kernel_rfl) (by kernel_rfl) (by decide) (by decide) (by kernel_rfl) (by kernel_rfl) (by kernel_rfl) (fun _ _ _ h => h) (Or.inl ⟨by kernel_rfl, fun w' hw' => ?_⟩) (HCS.out _ (Below.refl _ _).drew) (fun inv => ?_)
      · obtain ⟨h0, h1, h2, h3, h4, h5, h6⟩ := hw'
        go_simp
      try simp only [Act.put, List.setIfInBounds_toArray, List.set_cons_zero, List.set_cons_succ]
      refine wpU_take (i := 8) (v := .pointer (some ⟨W.heap.size + 1 + 1, 0, none⟩)) rfl inv (by kernel_rfl) (by kernel_rfl) (by decide) (by decide) (by kernel_rfl) (by kernel_rfl) (by kernel_rfl) (fun _ _ _ h => h) (Or.inl ⟨by kernel_rfl, fun w' hw' => ?_⟩) (HCS.out _ (Below.refl _ _).drew) (fun inv => ?_)
      · obtain ⟨h0, h1, h2, h3, h4, h5, h6⟩ := hw'
        go_simp
      try simp only [Act.put, List.setIfInBounds_toArray, List.set_cons_zero, List.set_cons_succ]
      refine wpU_take (i := 9) (v := .int .i64 d) rfl inv (by kernel_rfl) (by kernel_rfl) (by decide) (by decide) (by kernel_rfl) (by kernel_rfl) (by kernel_rfl) (fun _ _ _ h => h) (Or.inl ⟨by kernel_rfl, fun w' hw' => ?_⟩) (HCS.out _ (Below.refl _ _).drew) (fun inv => ?_)
      · obtain ⟨h0, h1, h2, h3, h4, h5, h6⟩ := hw'
        go_simp
      try simp only [Act.put, List.setIfInBounds_toArray, List.set_cons_zero, List.set_cons_succ]
      refine wpU_take (i := 11) (v := .pointer (some ⟨W.heap.size, 0 + 1, none⟩)) rfl inv (by kernel_rfl) (by kernel_rfl) (by decide) (by decide) (by kernel_rfl) (by kernel_rfl) (by kernel_rfl) (fun _ _ _ h => h) (Or.inl ⟨by kernel_rfl, fun w' hw' => ?_⟩) (HCS.out _ (Below.refl _ _).drew) (fun inv => ?_)
      · obtain ⟨h0, h1, h2, h3, h4, h5, h6⟩ := hw'
        go_simp
      try simp only [Act.put, List.setIfInBounds_toArray, List.set_cons_zero, List.set_cons_succ]
      refine wpU_take (i := 12) (v := .int .i64 n) rfl inv (by kernel_rfl) (by kernel_rfl) (by decide) (by decide) (by kernel_rfl) (by kernel_rfl) (by kernel_rfl) (fun _ _ _ h => h) (Or.inl ⟨by kernel_rfl, fun w' hw' => ?_⟩) (HCS.out _ (Below.refl _ _).drew) (fun inv => ?_)
      · obtain ⟨h0, h1, h2, h3, h4, h5, h6⟩ := hw'
        go_simp
      try simp only [Act.put, List.setIfInBounds_toArray, List.set_cons_zero, List.set_cons_succ]
      refine wpU_take (i := 13) (v := .pointer (some ⟨W.heap.size + 1, 0 + 1, none⟩)) rfl inv (by kernel_rfl) (by kernel_rfl) (by decide) (by decide) (by kernel_rfl) (by kernel_rfl) (by kernel_rfl) (fun _ _ _ h => h) (Or.inl ⟨by kernel_rfl, fun w' hw' => ?_⟩) (HCS.out _ (Below.refl _ _).drew) (fun inv => ?_)
      · obtain ⟨h0, h1, h2, h3, h4, h5, h6⟩ := hw'
        go_simp
      try simp only [Act.put, List.setIfInBounds_toArray, List.set_cons_zero, List.set_cons_succ]
      refine wpU_take (i := 14) (v := .int .i64 n') rfl inv (by kernel_rfl) (by kernel_rfl) (by decide) (by decide) (by kernel_rfl) (by kernel_rfl) (by kernel_rfl) (fun _ _ _ h => h) (Or.inl ⟨by kernel_rfl, fun w' hw' => ?_⟩) (HCS.out _ (Below.refl _ _).drew) (fun inv => ?_)
      · obtain ⟨h0, h1, h2, h3, h4, h5, h6⟩ := hw'
        go_simp
      try simp only [Act.put, List.setIfInBounds_toArray, List.set_cons_zero, List.set_cons_succ]
      refine wpU_take (i := 15) (v := .int .i64 ((n : Int) + (n' : Int))) rfl inv (by kernel_rfl) (by kernel_rfl) (by decide) (by decide) (by kernel_rfl) (by kernel_rfl) (by kernel_rfl) (fun _ _ _ h => h) (Or.inl ⟨by kernel_rfl, fun w' hw' => ?_⟩) (HCS.out _ (Below.refl _ _).drew) (fun inv => ?_)
      · obtain ⟨h0, h1, h2, h3, h4, h5, h6⟩ := hw'
        go_simp
      try simp only [Act.put, List.setIfInBounds_toArray, List.set_cons_zero, List.set_cons_succ]
      refine wpU_take (i := 16) (v := .pointer (some ⟨W.heap.size + 1 + 1, 0 + 1, none⟩)) rfl inv (by kernel_rfl) (by kernel_rfl) (by decide) (by decide) (by kernel_rfl) (by kernel_rfl) (by kernel_rfl) (fun _ _ _ h => h) (Or.inl ⟨by kernel_rfl, fun w' hw' => ?_⟩) (HCS.out _ (Below.refl _ _).drew) (fun inv => ?_)
      · obtain ⟨h0, h1, h2, h3, h4, h5, h6⟩ := hw'
        go_simp
      try simp only [Act.put, List.setIfInBounds_toArray, List.set_cons_zero, List.set_cons_succ]
      refine wpU_take (i := 17) (v := .int .i64 m) rfl inv (by kernel_rfl) (by kernel_rfl) (by decide) (by decide) (by kernel_rfl) (by kernel_rfl) (by kernel_rfl) (fun _ _ _ h => h) (Or.inl ⟨by kernel_rfl, fun w' hw' => ?_⟩) (HCS.out _ (Below.refl _ _).drew) (fun inv => ?_)
      · obtain ⟨h0, h1, h2, h3, h4, h5, h6⟩ := hw'
        go_simp
      try simp only [Act.put, List.setIfInBounds_toArray, List.set_cons_zero, List.set_cons_succ]
      refine wpU_one (i := 10) (by kernel_rfl) rfl (fun K hK => ?_)
      replace inv := inv_setc (i := 10) inv (by kernel_rfl) (by decide)
      go_simp
      refine (compareInt _ _ _).mono ?_
      rintro e w1 ⟨rfl, rfl⟩
      rw [HQ1.out]
      refine hK.out _ _ (fun _ => (HCS.out _ (Below.refl _ _).drew)) ?_
      clear hK K
      try simp only [Act.put, List.setIfInBounds_toArray, List.set_cons_zero, List.set_cons_succ]
      refine wpU_one (i := 18) (by kernel_rfl) rfl (fun K hK => ?_)
      replace inv := inv_setc (i := 18) inv (by kernel_rfl) (by decide)
      go_simp
      refine (compareInt _ _ _).mono ?_
      rintro e w1 ⟨rfl, rfl⟩
      rw [HQ2.out]
      refine hK.out _ _ (fun _ => (HCS.out _ (Below.refl _ _).drew)) ?_
      clear hK K
      try simp only [Act.put, List.setIfInBounds_toArray, List.set_cons_zero, List.set_cons_succ]
      refine wpU_one (i := 19) (by kernel_rfl) rfl (fun K hK => ?_)
      replace inv := inv_setc (i := 19) inv (by kernel_rfl) (by decide)
      go_simp
      have HB4 : Hid (Below w0.heap.size w0 (w0.drew.alloc (.cells #[.int .i64 q1, .int .i64 q2] 3))) := (Below.refl w0.heap.size w0).drew.alloc (Nat.le_refl _) _
      refine hK.out _ _ (fun _ => HCS.out _ HB4.out) ?_
      clear hK K
      try simp only [Act.put, List.setIfInBounds_toArray, List.set_cons_zero, List.set_cons_succ]
      refine wpU_one (i := 20) (by kernel_rfl) rfl (fun K hK => ?_)
      go_simp
      refine (orInt _ [q1, q2] _ (sl_lit (w := w0.drew) (v := #[.int .i64 q1, .int .i64 q2]) rfl (of_decide_eq_true rfl))).mono ?_
      rintro e w1 ⟨rfl, rfl⟩
      refine hK.out _ _ (fun h => absurd (show true = false from h) (by decide)) ?_
      clear hK K
      try simp only [Act.put, List.setIfInBounds_toArray, List.set_cons_zero, List.set_cons_succ]
      refine wpU_one (i := 21) (by kernel_rfl) rfl (fun K hK => ?_)
      go_simp
      refine hK.out _ _ (fun h => absurd (show true = false from h) (by decide)) ?_
      clear hK K
      try simp only [Act.put, List.setIfInBounds_toArray, List.set_cons_zero, List.set_cons_succ]
      refine wpU_one (i := 22) (by kernel_rfl) rfl (fun K hK => ?_)
      go_simp
      refine hK.out _ _ (fun h => absurd (show true = false from h) (by decide)) ?_
      clear hK K
      try simp only [Act.put, List.setIfInBounds_toArray, List.set_cons_zero, List.set_cons_succ]
      refine wpU_one (i := 23) (by kernel_rfl) rfl (fun K hK => ?_)
      go_simp
      refine hK.out _ _ (fun h => absurd (show true = false from h) (by decide)) ?_
      clear hK K
      try simp only [Act.put, List.setIfInBounds_toArray, List.set_cons_zero, List.set_cons_succ]
      refine wpU_done (by kernel_rfl) ?_ _
      go_wp2_with fail
      go_ret
      exact ⟨by rw [← HRR.out]; rfl, HB0.out.trans (HB4.out.mono HB0.out.size)⟩

set_option maxHeartbeats 4000000 in
set_option maxRecDepth 100000 in
theorem thenE (x y : Value) (v v' : Val) (P Q : Nat → Prop) (W : World) (hx : WR P W x (some v)) (hy : WR Q W y (some v')) (hc : v.c + v'.c ≤ 4611686018427387904) (hn : v.n + v'.n ≤ 4611686018427387904) (hl : v.w.length ≤ 2000) (hl' : v'.w.length ≤ 2000) :
    Calls Try.prog 69 #[x, y] W fun e w' => ∃ z, e = .returned z ∧ WR (fun k => W.heap.size ≤ k) w' z (some (thn v v')) ∧ Below W.heap.size W w' := by
  obtain ⟨a1, m1, k1, rfl, hu⟩ := hx.form
  obtain ⟨a2, m2, k2, rfl, hu'⟩ := hy.form
  have HU := Lib.hid (sl_rd hu)
  have HU' := Lib.hid (sl_rd hu')
  clear hx hy hu hu'
  simp only [Option.isSome, oC, oN, oW] at *
  obtain ⟨l, HL⟩ := nameIt v.w
  obtain ⟨l', HL'⟩ := nameIt v'.w
  obtain ⟨c, HC⟩ := nameIt v.c
  obtain ⟨c', HC'⟩ := nameIt v'.c
  obtain ⟨n, HN⟩ := nameIt v.n
  obtain ⟨n', HN'⟩ := nameIt v'.n
  rw [HL.out] at HU hl
  rw [HL'.out] at HU' hl'
  rw [HC.out, HC'.out] at hc
  rw [HN.out, HN'.out] at hn
  rw [HC.out, HC'.out, HN.out, HN'.out]
  by_cases hb : n + n' ≤ 2000
  · have hb' : (n : Int) + (n' : Int) ≤ 2000 := by omega
    obtain ⟨w0, HW⟩ := nameIt ((((W.alloc (.cells #[.int .i64 c, .int .i64 n, .slice a1 m1 k1, .bool true] 72)).alloc (.cells #[.int .i64 c', .int .i64 n', .slice a2 m2 k2, .bool true] 72)).alloc (.cells #[.int .i64 0, .int .i64 0, .slice none 0 0, .bool false] 72)).alloc (.cells #[.int .i64 (c + c'), .int .i64 (n + n'), .slice none 0 0, .bool true] 72))
    have hw0 : Below W.heap.size W w0 := by
      rw [← HW.out]
      exact ((((Below.refl _ _).alloc (Nat.le_refl _) _).alloc (by simp) _).alloc (by simp; omega) _).alloc (by simp; omega) _
    have HSZ : Hid (w0.heap.size = W.heap.size + 1 + 1 + 1 + 1) := by show _ = _; rw [← HW.out]; simp
    have HX0 : Hid (w0.heap[W.heap.size + 1 + 1 + 1]? = some (.cells #[.int .i64 (c + c'), .int .i64 (n + n'), .slice none 0 0, .bool true] 72 (0, 0))) := by
      rw [← HW.out]; exact bx_new _ _ _ (by simp)
    have HZ0 : Hid (w0.heap[W.heap.size + 1 + 1]? = some (.cells #[.int .i64 0, .int .i64 0, .slice none 0 0, .bool false] 72 (0, 0))) := by
      rw [← HW.out]; exact bx_keep (bx_new _ _ _ (by simp)) ((Below.refl _ _).alloc (Nat.le_refl _) _)
    have HP0 : Hid (w0.heap[W.heap.size]? = some (.cells #[.int .i64 c, .int .i64 n, .slice a1 m1 k1, .bool true] 72 (0, 0))) := by
      rw [← HW.out]; exact bx_keep (bx_keep (bx_keep (bx_new _ _ _ rfl) ((Below.refl _ _).alloc (Nat.le_refl _) _)) ((Below.refl _ _).alloc (Nat.le_refl _) _)) ((Below.refl _ _).alloc (Nat.le_refl _) _)
    have HP1 : Hid (w0.heap[W.heap.size + 1]? = some (.cells #[.int .i64 c', .int .i64 n', .slice a2 m2 k2, .bool true] 72 (0, 0))) := by
      rw [← HW.out]; exact bx_keep (bx_keep (bx_new _ _ _ (by simp)) ((Below.refl _ _).alloc (Nat.le_refl _) _)) ((Below.refl _ _).alloc (Nat.le_refl _) _)
    have HB0 := Lib.hid hw0
    have HCC : Hid (∀ e, Calls Try.prog 97 #[.slice (some ⟨w0.heap.size, 0, none⟩) 2 2] (w0.alloc (.cells #[.slice a1 m1 k1, .slice a2 m2 k2] e)) (NewInts [l, l'].flatten w0)) := by
      intro e
      have hB : Below w0.heap.size w0 (w0.alloc (.cells #[.slice a1 m1 k1, .slice a2 m2 k2] e)) := (Below.refl _ _).alloc (Nat.le_refl _) _
      have hs : Sl (w0.alloc (.cells #[.slice a1 m1 k1, .slice a2 m2 k2] e)) (.slice (some ⟨w0.heap.size, 0, none⟩) [Value.slice a1 m1 k1, Value.slice a2 m2 k2].length 2) [.slice a1 m1 k1, .slice a2 m2 k2] := sl_lit (w := w0) (v := #[.slice a1 m1 k1, .slice a2 m2 k2]) rfl (by simp [maxLen])
      refine (concat_int (some ⟨w0.heap.size, 0, none⟩) 2 [.slice a1 m1 k1, .slice a2 m2 k2] [l, l'] _ hs rfl ?_ ?_).mono ?_
      · intro i hi
        simp at hi
        match i, hi with
        | 0, _ => exact (HU.out.keep HB0.out).keep hB
        | 1, _ => exact (HU'.out.keep HB0.out).keep hB
      · simp [lens]; omega
      · rintro e w' ⟨a, c, rfl, ho, hb⟩
        exact ⟨a, c, rfl, ho.mono hB.size, hB.trans (hb.mono hB.size)⟩
    go_enter Try.func69, Try.ntmps69
    go_upto_region 3 with fail
    rw [HW.out]
    clear HW hw0
    obtain ⟨-, -, y0, -⟩ := bx_cells4 HP0.out
    obtain ⟨-, -, y1, -⟩ := bx_cells4 HP1.out
    go_wp2_with fail
    refine (HCC.out _).mono ?_
    rintro e w4 ⟨a4, c4, rfl, ho4, hb4⟩
    have HB4 := Lib.hid hb4
    have HO4 := Lib.hid ho4
    have HX4 := Lib.hid (bx_keep HX0.out hb4)
    have HZ4 := Lib.hid (bx_keep HZ0.out hb4)
    obtain ⟨n4, HN4⟩ := nameIt [l, l'].flatten.length
    rw [HN4.out] at HO4 ⊢
    obtain ⟨e0, e1, e2, e3⟩ := bx_cells4 HX4.out
    obtain ⟨f0, f1, f2, f3⟩ := bx_free4 HX4.out
    obtain ⟨g0, g1, g2, g3⟩ := bx_cells4 HZ4.out
    obtain ⟨h0, h1, h2, h3⟩ := bx_free4 HZ4.out
    clear hb4 ho4
    go_wp2_with fail
    refine bodyPost_ret (v := .agg #[.int .i64 (c + c'), .int .i64 (n + n'), .slice a4 n4 c4, .bool true]) (by simp [results, Try.results69, go_sem, g0, g1, g2, g3]) rfl ?_
    have hgA := grown_cell w4 ⟨W.heap.size + 1 + 1 + 1, 0 + 2, none⟩ (.slice a4 n4 c4)
    have hgB := grown_cell4 (w4.setCell ⟨W.heap.size + 1 + 1 + 1, 0 + 2, none⟩ (.slice a4 n4 c4)) (W.heap.size + 1 + 1) (.int .i64 (c + c')) (.int .i64 (n + n')) (.slice a4 n4 c4) (.bool true)
    have hsw := HSZ.out
    have hb04 := HB0.out.trans (HB4.out.mono HB0.out.size)
    have hW : oW (some (thn v v')) = [l, l'].flatten := by
      show (thn v v').w = _
      rw [thn_w, HN.out, HN'.out, if_pos hb, HL.out, HL'.out]; simp
    have hrd : Rd (fun k => w0.heap.size ≤ k) w4 (D.ints [l, l'].flatten) [.slice a4 n4 c4] := rd_own HN4.out.symm HO4.out
    refine ⟨_, rfl, ⟨.slice a4 n4 c4, ?_, ?_⟩, (hb04.grown hgA hb04.size ?_).grown hgB ?_ ?_⟩
    · simp [oC, oN, thn, HC.out, HC'.out, HN.out, HN'.out]
    · rw [hW]
      refine (rd_grown (rd_grown hrd hgA ?_) hgB ?_).mono ?_
      · intro k e h
        have e2 : W.heap.size + 1 + 1 + 1 = k := by simpa using e
        have h2 : w0.heap.size ≤ k := h
        omega
      · intro k e h
        have e2 : W.heap.size + 1 + 1 = k := by simpa using e
        have h2 : w0.heap.size ≤ k := h
        omega
      · intro k h _
        have h2 : w0.heap.size ≤ k := h
        show W.heap.size ≤ k
        omega
    · intro k e
      have e2 : W.heap.size + 1 + 1 + 1 = k := by simpa using e
      omega
    · have := hb04.size
      have := hgA.size
      omega
    · intro k e
      have e2 : W.heap.size + 1 + 1 = k := by simpa using e
      omega
  · have hb' : ¬ (n : Int) + (n' : Int) ≤ 2000 := by omega
    go_enter Try.func69, Try.ntmps69
    go_wp2
    refine bodyPost_ret (v := .agg #[.int .i64 (c + c'), .int .i64 (n + n'), .slice none 0 0, .bool true]) (by simp [results, Try.results69, go_sem]) rfl ?_
    refine ⟨_, rfl, ⟨.slice none 0 0, ?_, ?_⟩, ?_⟩
    · simp [oC, oN, thn, HC.out, HC'.out, HN.out, HN'.out]
    · have hW : oW (some (thn v v')) = [] := by
        show (thn v v').w = _
        rw [thn_w, HN.out, HN'.out, if_neg hb]
      rw [hW]
      exact rd_nil _ _
    · exact ((((Below.refl _ _).alloc (Nat.le_refl _) _).alloc (by simp) _).alloc (by simp; omega) _).alloc (by simp; omega) _
end Rp
end Go.Proofs.Ytjpmebppdcclbaa
namespace Go.Proofs.Ytjpmebppdcclbaa
open Go.RowKit
namespace Rp

/-- block b, made behind w0, holds the way o -/
def NW (w0 : World) (P : Nat → Prop) (b : Nat) (o : Option Val) (w : World) : Prop :=
  Below w0.heap.size w0 w ∧ w0.heap.size ≤ b ∧ ∃ a m k, w.heap[b]? = some (.cells #[.int .i64 (oC o), .int .i64 (oN o), .slice a m k, .bool o.isSome] 72 (0, 0)) ∧ Rd (fun k => P k ∧ k ≠ b) w (D.ints (oW o)) [.slice a m k]
theorem NW.keep {w0 w w' : World} {P : Nat → Prop} {b : Nat} {o : Option Val} (h : NW w0 P b o w) (hb : Below w.heap.size w w') : NW w0 P b o w' := by
  obtain ⟨h1, h2, a, m, k, h3, h4⟩ := h
  exact ⟨h1.trans (hb.mono h1.size), h2, a, m, k, bx_keep h3 hb, h4.below hb⟩
theorem nw_mk {w0 w : World} {P : Nat → Prop} {b : Nat} {o : Option Val} {a : Option Addr} {m k : Nat} {z0 z1 z2 z3 : Value} (hb : Below w0.heap.size w0 w) (hbb : w0.heap.size ≤ b) (hz : w.heap[b]? = some (.cells #[z0, z1, z2, z3] 72 (0, 0)))
    (hr : Rd (fun k => P k ∧ k ≠ b) w (D.ints (oW o)) [.slice a m k]) : NW w0 P b o ((((w.setCell ⟨b, 0, none⟩ (.int .i64 (oC o))).setCell ⟨b, 0 + 1, none⟩ (.int .i64 (oN o))).setCell ⟨b, 0 + 2, none⟩ (.slice a m k)).setCell ⟨b, 0 + 3, none⟩ (.bool o.isSome)) := by
  have hg := grown_cell4 w b (.int .i64 (oC o)) (.int .i64 (oN o)) (.slice a m k) (.bool o.isSome)
  refine ⟨hb.grown hg hb.size (fun k e => by cases e; exact hbb), hbb, a, m, k, set4 hz _ _ _ _, rd_grown hr hg ?_⟩
  intro k e h
  cases e
  exact h.2 rfl
def ruleOk (V : Sym → Nat → Nat → Option Val) (M n : Nat) (r : Rule) : Prop := ∀ s ∈ r.right, ∀ k j, k ≤ j → j ≤ n → Bd M (V s k j)
set_option maxHeartbeats 8000000 in
set_option maxRecDepth 100000 in
theorem ruleE (cb : Nat) (gt gn gs : Int) (gr : Value) (c : Co) (hc : c.ok) (w : List Int) (hw : w.length ≤ 12) (P : Nat → Prop) (lo bb : Nat) (ra : Nat → Nat) (rb : Nat → Nat → Nat) (N bk : Nat) (hNk : N ≤ 100) (T : Tb) (M : Nat) (hM : M ≤ 288230376151711744)
    (r : Rule) (hr : ∀ s ∈ r.right, s.term = false → 0 ≤ s.n ∧ s.n < N) (hr4 : r.right.length ≤ 4) (hV : ruleOk (ofT (leafR c w) T) M w.length r) (i : Nat) (hi : i ≤ w.length)
    (W : World) (hm : CM cb gt gn gs gr (.slice (some ⟨bb, 0, none⟩) N bk) c w W) (ht : BT P lo bb ra rb N w.length T W) (hP : ∀ k, P k → k < W.heap.size) (sv : Value) (hs : Rd AnyB W (.sl (r.right.map Sym.d)) [sv]) :
    Calls Try.prog 29 #[.pointer (some ⟨cb, 0, none⟩), .agg #[.int .i64 r.left, sv], .int .i64 (i : Nat)] W fun e w' => ∃ g, e = .returned (.slice (some ⟨g, 0, none⟩) (w.length + 1) (w.length + 1)) ∧ W.heap.size ≤ g ∧ WRow (fun k => (P k ∨ W.heap.size ≤ k) ∧ k ≠ g) g (w.length + 1) (ruleF (ofT (leafR c w) T) c r i w.length) w' ∧ Below W.heap.size W w' := by
  obtain ⟨ra0, rk, rfl, hrc1, hrc2⟩ := hs.form
  rw [List.length_map] at hrc1 ⊢
  obtain ⟨rn, HRN⟩ := nameIt r.right.length
  rw [HRN.out] at hrc1 hr4 ⊢
  unfold maxLen at hrc2
  obtain ⟨rl, HRL⟩ := nameIt r.left
  rw [HRL.out]
  have hs0 := hs
  rw [List.length_map, HRN.out] at hs0
  have HSYM : Hid (∀ (s : Sym), s ∈ r.right → ∀ (T' : Tb) W' k j, T' = T → k ≤ j → j ≤ w.length → Below W.heap.size W W' → Calls Try.prog 67 #[.pointer (some ⟨cb, 0, none⟩), .agg #[.bool s.term, .int .i64 s.n], .int .i64 (k : Nat), .int .i64 (j : Nat)] W' fun e w' => ∃ x, e = .returned x ∧ WR (fun q => P q ∨ W'.heap.size ≤ q) w' x (ofT (leafR c w) T s k j) ∧ Below W'.heap.size W' w') := by
    intro s hsr T' W' k j _ hkj hj hb
    exact symE cb gt gn gs gr c hc w hw P lo bb ra rb N bk hNk T s (hr s hsr) k j hkj hj W' (hm.keep hb) (ht.keep hb) (fun k hk => Nat.lt_of_lt_of_le (hP k hk) hb.size)
  obtain ⟨wa, wk, hbx, -⟩ := hm.box
  obtain ⟨V, HV⟩ := nameIt (ofT (leafR c w) T)
  rw [HV.out] at hV HSYM ⊢
  obtain ⟨n, HN⟩ := nameIt w.length
  rw [HN.out] at hw hi hV HSYM hbx ⊢
  obtain ⟨n1, HN1⟩ := nameIt (n + 1)
  rw [HN1.out]
  have hn1 : IntKind.i64.wrap ((n : Int) + 1) = (n1 : Int) := by have := HN1.out; rw [IntWalk.i64_in _ (by omega)]; omega
  have hmk : ∀ W : World, (Instr.makeSlice 67 (.int .i64 (n1 : Int)) (.int .i64 (n1 : Int))).run Try.prog W = .ok (.slice (some ⟨W.heap.size, 0, none⟩) n1 n1) (W.alloc (.cells (madeCells #[.int .i64 0, .int .i64 0, .slice none 0 0, .bool false] (n1 * 4)) 72)) := fun W => by
    obtain ⟨ti, h1, h2, h3, h4⟩ := info_parts (show (Try.prog.info? 72).map (fun i => (i.zero, i.size, i.bytes)) = some (some (.agg #[.int .i64 0, .int .i64 0, .slice none 0 0, .bool false]), 4, 48) by kernel_rfl)
    have := HN1.out
    have := run_makeSlice W 67 72 ti _ Try.underlying67 h1 h2 .i64 .i64 (n1 : Int) (n1 : Int) (by omega) (by omega) (by rw [h3]; omega) (by rw [h4]; omega) (by omega)
    simpa [h3, Value.cells] using this
  have HMK := Lib.hid hmk
  obtain ⟨PST, HP⟩ := nameIt (fun (e : Ending) (w' : World) => ∃ g, e = .returned (.slice (some ⟨g, 0, none⟩) n1 n1) ∧ W.heap.size ≤ g ∧ WRow (fun k => (P k ∨ W.heap.size ≤ k) ∧ k ≠ g) g n1 (ruleF V c r i n) w' ∧ Below W.heap.size W w')
  have HFIN : Hid (∀ g w', W.heap.size ≤ g → WRow (fun k => (P k ∨ W.heap.size ≤ k) ∧ k ≠ g) g n1 (ruleF V c r i n) w' → Below W.heap.size W w' → PST (.returned (.slice (some ⟨g, 0, none⟩) n1 n1)) w') := by
    intro g w' h1 h2 h3; rw [← HP.out]; exact ⟨g, rfl, h1, h2, h3⟩
  rw [HP.out]
  clear HP
  obtain ⟨w1, HW1⟩ := nameIt ((W.alloc (.cells #[.int .i64 rl, .slice ra0 rn rk] 69)).alloc (.cells (madeCells #[.int .i64 0, .int .i64 0, .slice none 0 0, .bool false] (n1 * 4)) 72))
  obtain ⟨b4, -, b6, -, -⟩ := bx_cells9r (bx_keep hbx ((Below.refl W.heap.size W).alloc (Nat.le_refl _) (.cells #[.int .i64 rl, .slice ra0 rn rk] 69)))
  have hw1 : Below W.heap.size W w1 := by
    rw [← HW1.out]
    exact ((Below.refl _ _).alloc (Nat.le_refl _) _).alloc (by simp) _
  have HSZ1 : Hid (w1.heap.size = W.heap.size + 1 + 1) := by show _ = _; rw [← HW1.out]; simp
  have HR1 : Hid (w1.heap[W.heap.size]? = some (.cells #[.int .i64 rl, .slice ra0 rn rk] 69 (0, 0))) := by
    rw [← HW1.out]; exact bx_keep (bx_new _ _ _ rfl) ((Below.refl _ _).alloc (Nat.le_refl _) _)
  have HG1 : Hid (WRow (fun k => (P k ∨ W.heap.size ≤ k) ∧ k ≠ W.heap.size + 1) (W.heap.size + 1) n1 (fun _ => none) w1) := by
    rw [← HW1.out]
    exact wrow_new _ _ n1 (by simp)
  have HB1 := Lib.hid hw1
  have hbx1 := bx_keep hbx hw1
  obtain ⟨c1, HC1⟩ := nameIt c.c1
  have hc1 : c1 ≤ 100 := by rw [← HC1.out]; exact hc.2.2.2.1
  rw [HC1.out] at hbx1
  have hi' : (i : Int) ≤ (n : Int) := by omega
  have HPP := Lib.hid hP
  have HHV := Lib.hid hV
  have HSS := Lib.hid hs0
  have HBX := Lib.hid hbx1
  have HBXW := Lib.hid hbx
  clear hmk hw1 hbx hbx1 hV hP hs hs0 hm ht hr
  by_cases h0 : rn = 0
  · have hre : r.right = [] := List.eq_nil_of_length_eq_zero (by rw [HRN.out]; exact h0)
    have HRF : Hid (∀ j, ruleF V c r i n j = if i ≤ j then emR c i j else none) := by intro j; unfold ruleF; rw [if_pos hre]
    subst h0
    have hmkW := HMK.out (W.alloc (.cells #[.int .i64 rl, .slice ra0 0 rk] 69))
    obtain ⟨k0, k1⟩ := bx_cells2 HR1.out
    have HGS : Hid (WRow (fun k => (P k ∨ W.heap.size ≤ k) ∧ k ≠ W.heap.size + 1) (W.heap.size + 1) n1 (fun x => if i ≤ x ∧ x < i then emR c i x else none) w1) := HG1.out.eq (fun x _ => by rw [if_neg (by omega)])
    go_enter Try.func29, Try.ntmps29
    go_upto_region 3 with fail
    rw [HW1.out]
    clear HW1 hmkW b4 b6
    go_wp2_with fail
    go_loopg [9] (n + 1 - i) (fun gg v9 wr => ∃ j : Nat, i ≤ j ∧ j ≤ n + 1 ∧ n + 1 - j ≤ gg ∧ v9 = .int .i64 (j : Nat) ∧ Hid (Below W.heap.size W wr) ∧ Hid (WRow (fun k => (P k ∨ W.heap.size ≤ k) ∧ k ≠ W.heap.size + 1) (W.heap.size + 1) n1 (fun x => if i ≤ x ∧ x < j then emR c i x else none) wr))
    case atStart => exact ⟨i, by omega, by omega, by omega, rfl, HB1, HGS⟩
    case round =>
      clear HGS HG1 HR1 HB1 HSZ1 HBX k0 k1 w1
      obtain ⟨j, hij, hjn1, hgg, rfl, HB, HA⟩ := hrel
      obtain ⟨w3, rfl⟩ : ∃ wo : World, wo = wr := ⟨_, rfl⟩
      by_cases hjn : j ≤ n
      · have hjn' : (j : Int) ≤ (n : Int) := by omega
        have hjn1' : (j : Int) < (n1 : Int) := by have := HN1.out; omega
        have hjn1n : j < n1 := by have := HN1.out; omega
        obtain ⟨d, HD⟩ := nameIt (j - i)
        obtain ⟨p, HPP⟩ := nameIt (d * c1)
        have hd12 : d ≤ 12 := by rw [← HD.out]; omega
        have hp : p ≤ 1200 := by rw [← HPP.out]; exact Nat.le_trans (Nat.mul_le_mul hd12 hc1) (by decide)
        have hw1 : IntKind.i64.wrap ((j : Int) - (i : Int)) = (d : Int) := by have := HD.out; rw [IntWalk.i64_in _ (by omega)]; omega
        have hw2 : IntKind.i64.wrap ((d : Int) * (c1 : Int)) = (p : Int) := by
          have e : (d : Int) * (c1 : Int) = (p : Int) := by rw [← HPP.out]; simp
          rw [e]; exact IntWalk.i64_in _ (by omega)
        have hbx3 := bx_keep HBXW.out HB.out
        rw [HC1.out] at hbx3
        obtain ⟨-, -, y1, -, -⟩ := bx_cells9r hbx3
        obtain ⟨ad, md, kd, hgd, -⟩ := HA.out.get hjn1n
        obtain ⟨d0, d1, d2, d3⟩ := hgd w3 rfl
        have hfr := HA.out.free
        have f0 := hfr (j * 4)
        have f1 := hfr (j * 4 + 1)
        have f2 := hfr (j * 4 + 2)
        have f3 := hfr (j * 4 + 3)
        have hgr := grown_cellsAt w3 (W.heap.size + 1) (j * 4) (j * 4 + 1) (j * 4 + 2) (j * 4 + 3) (.int .i64 (p : Int)) (.int .i64 0) (.slice none 0 0) (.bool true)
        have HB9 := Lib.hid (HB.out.grown hgr HB.out.size (fun k e => by cases e; omega))
        have HA9 : Hid (WRow (fun k => (P k ∨ W.heap.size ≤ k) ∧ k ≠ W.heap.size + 1) (W.heap.size + 1) n1 (fun x => if i ≤ x ∧ x < j + 1 then emR c i x else none) ((((w3.setCell ⟨W.heap.size + 1, j * 4, none⟩ (.int .i64 (p : Int))).setCell ⟨W.heap.size + 1, j * 4 + 1, none⟩ (.int .i64 0)).setCell ⟨W.heap.size + 1, j * 4 + 2, none⟩ (.slice none 0 0)).setCell ⟨W.heap.size + 1, j * 4 + 3, none⟩ (.bool true))) := by
          refine HA.out.set (o := some ⟨p, 0, []⟩) (u := .slice none 0 0) hjn1n (rd_nil _ _) (fun h => h.2 rfl) (fun x hx => ?_)
          by_cases e : x = j
          · rw [if_pos e, e, if_pos ⟨hij, by omega⟩]
            unfold emR
            rw [HC1.out, HD.out, HPP.out]
          · rw [if_neg e]
            by_cases h : i ≤ x ∧ x < j
            · rw [if_pos h, if_pos ⟨h.1, by omega⟩]
            · rw [if_neg h, if_neg (by omega)]
        clear hbx3 hgd hfr hgr
        go_wp2_with fail
        go_roundg (n + 1 - (j + 1))
        case measure => omega
        case rel => exact ⟨j + 1, by omega, by omega, by omega, by go_num, HB9, HA9⟩
      · have hjn' : ¬ (j : Int) ≤ (n : Int) := by omega
        have HFI := Lib.hid (HFIN.out (W.heap.size + 1) w3 (by omega) (HA.out.eq (fun x hx => by
          rw [HRF.out]
          by_cases h : i ≤ x
          · rw [if_pos h, if_pos ⟨h, by have := HN1.out; omega⟩]
          · rw [if_neg h, if_neg (fun h' => h h'.1)])) HB.out)
        go_wp2_with fail
        exact HFI.out
  · have hre : r.right ≠ [] := fun e => h0 (by rw [← HRN.out, e]; rfl)
    have HRF : Hid (ruleF V c r i n = foldF V i n (r.right.take rn) (startF i)) := by
      show _ = _
      funext j
      unfold ruleF
      rw [if_neg hre, List.take_of_length_le (by rw [HRN.out]; exact Nat.le_refl _)]
    have hz : ((rn : Int) == 0) = false := by simp; omega
    obtain ⟨k0, k1⟩ := bx_cells2 HR1.out
    have hmkW := HMK.out (W.alloc (.cells #[.int .i64 rl, .slice ra0 rn rk] 69))
    have hin1 : (i : Int) < (n1 : Int) := by have := HN1.out; omega
    have hwz : ∀ k, w1.frozen? ⟨W.heap.size + 1, k, none⟩ = false := HG1.out.free
    obtain ⟨au0, mu0, ku0, hgc0, -⟩ := HG1.out.get (j := i) (by have := HN1.out; omega)
    obtain ⟨g0, g1, g2, g3⟩ := hgc0 w1 rfl
    have f0 := hwz (i * 4)
    have f1 := hwz (i * 4 + 1)
    have f2 := hwz (i * 4 + 2)
    have f3 := hwz (i * 4 + 3)
    clear hwz hgc0
    go_enter Try.func29, Try.ntmps29
    go_upto_region 3 with fail
    rw [HW1.out]
    clear HW1 hmkW b4 b6
    go_wp2_with fail
    have HGS : Hid (WRow (fun k => (P k ∨ W.heap.size ≤ k) ∧ k ≠ W.heap.size + 1) (W.heap.size + 1) n1 (foldF V i n (r.right.take 0) (startF i)) ((((w1.setCell ⟨W.heap.size + 1, i * 4, none⟩ (.int .i64 0)).setCell ⟨W.heap.size + 1, i * 4 + 1, none⟩ (.int .i64 0)).setCell ⟨W.heap.size + 1, i * 4 + 2, none⟩ (.slice none 0 0)).setCell ⟨W.heap.size + 1, i * 4 + 3, none⟩ (.bool true))) := by
      refine HG1.out.set (j := i) (o := some zero) (u := .slice none 0 0) (by have := HN1.out; omega) (rd_nil _ _) (fun h => h.2 rfl) (fun k hk => ?_)
      show startF i k = _
      unfold startF; rfl
    have HBS : Hid (Below W.heap.size W ((((w1.setCell ⟨W.heap.size + 1, i * 4, none⟩ (.int .i64 0)).setCell ⟨W.heap.size + 1, i * 4 + 1, none⟩ (.int .i64 0)).setCell ⟨W.heap.size + 1, i * 4 + 2, none⟩ (.slice none 0 0)).setCell ⟨W.heap.size + 1, i * 4 + 3, none⟩ (.bool true))) :=
      HB1.out.grown (grown_cellsAt _ _ _ _ _ _ _ _ _ _) HB1.out.size (fun k e => by cases e; omega)
    clear g0 g1 g2 g3 f0 f1 f2 f3 k0 k1 hz
    go_loopg [8, 11, 12, 13, 14, 15, 16, 56] rn (fun gg v8 v11 v12 v13 v14 v15 v16 v56 wr => ∃ p g : Nat, p ≤ rn ∧ rn - p ≤ gg ∧ v8 = .slice (some ⟨g, 0, none⟩) n1 n1 ∧ v56 = .int .i64 (p : Nat) ∧ W.heap.size ≤ g ∧ Hid (Below W.heap.size W wr) ∧ Hid (WRow (fun k => (P k ∨ W.heap.size ≤ k) ∧ k ≠ g) g n1 (foldF V i n (r.right.take p) (startF i)) wr))
    case atStart => exact ⟨0, _, by omega, by omega, rfl, rfl, by omega, HBS, HGS⟩
    case round =>
      clear HGS HBS HG1 HR1 HB1 HSZ1 HBX w1
      obtain ⟨p, g, hp, hgg, rfl, rfl, hgW, HB, HA⟩ := hrel
      obtain ⟨w0, rfl⟩ : ∃ wo : World, wo = wr := ⟨_, rfl⟩
      obtain ⟨aF, HAT⟩ := nameIt (foldF V i n (r.right.take p) (startF i))
      by_cases hlt : p < rn
      · have hlt' : (p : Int) < (rn : Int) := by omega
        have hpl : p < r.right.length := by rw [HRN.out]; exact hlt
        obtain ⟨s, HS⟩ := nameIt (r.right[p]'hpl)
        have hsm : s ∈ r.right := by rw [← HS.out]; exact List.getElem_mem hpl
        have HNEXT : Hid (foldF V i n (r.right.take (p + 1)) (startF i) = symF V s aF i (n + 1 - i)) := by
          show _ = _
          rw [List.take_succ_eq_append_getElem hpl, HS.out, foldF_snoc, HAT.out]
        have HBA : Hid (∀ j, j ≤ n → Bd (p * M) (aF j)) := fun j hj => by
          have := bd_foldF (V := V) hi (r.right.take p) (startF i) 0 (fun s hs => HHV.out s (List.mem_of_mem_take hs)) (fun j _ => bd_startF i j) j hj
          rw [HAT.out] at this
          refine this.mono ?_
          rw [List.length_take, Nat.zero_add]
          exact Nat.mul_le_mul_right _ (Nat.min_le_left _ _)
        have HBV : Hid (∀ k j, k ≤ j → j ≤ n → Bd M (V s k j)) := HHV.out s hsm
        have hp3 : p * M ≤ 3 * M := Nat.mul_le_mul_right _ (by omega)
        rw [HAT.out] at HA
        obtain ⟨b', off', hae, -, -, c0, cc1⟩ := (HSS.out.below HB.out).sym_at hpl
        rw [HS.out] at c0 cc1
        subst hae
        have HSC : Hid (∀ W' k j, k ≤ j → j ≤ n → Below W.heap.size W W' → Calls Try.prog 67 #[.pointer (some ⟨cb, 0, none⟩), .agg #[.bool s.term, .int .i64 s.n], .int .i64 (k : Nat), .int .i64 (j : Nat)] W' fun e w' => ∃ x, e = .returned x ∧ WR (fun q => P q ∨ W'.heap.size ≤ q) w' x (V s k j) ∧ Below W'.heap.size W' w') := fun W' k j h1 h2 h3 => HSYM.out s hsm T W' k j rfl h1 h2 h3
        obtain ⟨st, HST⟩ := nameIt s.term
        obtain ⟨sn, HSN⟩ := nameIt s.n
        rw [HST.out] at c0 HSC
        rw [HSN.out] at cc1 HSC
        obtain ⟨w2, HW2⟩ := nameIt ((w0.alloc (.cells #[.bool st, .int .i64 sn] 44)).alloc (.cells (madeCells #[.int .i64 0, .int .i64 0, .slice none 0 0, .bool false] (n1 * 4)) 72))
        have hw2 : Below w0.heap.size w0 w2 := by
          rw [← HW2.out]
          exact ((Below.refl _ _).alloc (Nat.le_refl _) _).alloc (by simp) _
        have HS2 : Hid (w2.heap[w0.heap.size]? = some (.cells #[.bool st, .int .i64 sn] 44 (0, 0))) := by
          rw [← HW2.out]; exact bx_keep (bx_new _ _ _ rfl) ((Below.refl _ _).alloc (Nat.le_refl _) _)
        obtain ⟨b11, HB11⟩ := nameIt w0.heap.size
        obtain ⟨g2, HG2⟩ := nameIt (w0.heap.size + 1)
        have hgl : g < w0.heap.size := HA.out.lt
        have hsz2 : w2.heap.size = g2 + 1 := by rw [← HG2.out, ← HW2.out]; simp
        have hz0 := HB.out.size
        have HGB : Hid (W.heap.size ≤ b11 ∧ g < b11 ∧ b11 < g2 ∧ W.heap.size ≤ g2) := by
          show _ ∧ _ ∧ _ ∧ _
          rw [← HB11.out, ← HG2.out]; exact ⟨hz0, hgl, by omega, by omega⟩
        have HA2 : Hid (WRow (fun k => (P k ∨ W.heap.size ≤ k) ∧ k ≠ g ∧ k ≠ g2) g n1 aF w2) := by
          have hgg2 := HG2.out
          exact (HA.out.mono (fun k hk hl => ⟨hk.1, hk.2, by omega⟩)).keep hw2
        have HN2 : Hid (WRow (fun k => (P k ∨ W.heap.size ≤ k) ∧ k ≠ g ∧ k ≠ g2) g2 n1 (symF V s aF i 0) w2) := by
          rw [← HW2.out]
          exact wrow_new _ _ n1 (by rw [← HG2.out]; simp)
        have HB2 := Lib.hid (HB.out.trans (hw2.mono HB.out.size))
        rw [HB11.out] at HS2
        clear hw2 hsz2 hz0 hgl hsm
        have hmkW := HMK.out (w0.alloc (.cells #[.bool st, .int .i64 sn] 44))
        go_upto_region 14 with fail
        rw [HW2.out, HG2.out, HB11.out]
        clear HW2 HG2 HB11 hmkW c0 cc1 HB HA
        go_wp2_with fail
        go_loopg [13, 14, 15, 16] (n + 1 - i) (fun gg v13 v14 v15 v16 wr => ∃ m : Nat, i + m ≤ n + 1 ∧ n + 1 - (i + m) ≤ gg ∧ v13 = .int .i64 ((i + m : Nat) : Int) ∧ Hid (Below W.heap.size W wr) ∧ Hid (WRow (fun k => (P k ∨ W.heap.size ≤ k) ∧ k ≠ g ∧ k ≠ g2) g n1 aF wr) ∧ Hid (WRow (fun k => (P k ∨ W.heap.size ≤ k) ∧ k ≠ g ∧ k ≠ g2) g2 n1 (symF V s aF i m) wr) ∧ Hid (wr.heap[b11]? = some (.cells #[.bool st, .int .i64 sn] 44 (0, 0))) ∧ Hid (Below W.heap.size W wr))
        case atStart => exact ⟨0, by omega, by omega, rfl, HB2, HA2, HN2, HS2, HB2⟩
        case round =>
          clear HA2 HN2 HS2 HB2
          obtain ⟨m, hm, hgg2, rfl, HB, HA, HN, HS2, HBW⟩ := hrel
          obtain ⟨w3, rfl⟩ : ∃ wo : World, wo = wr := ⟨_, rfl⟩
          obtain ⟨k, HK⟩ := nameIt (i + m)
          rw [HK.out] at hm hgg2 ⊢
          obtain ⟨nF, HNF⟩ := nameIt (symF V s aF i m)
          have HBN : Hid (∀ j, j ≤ n → Bd (p * M + M) (nF j)) := fun j hj => by
            rw [← HNF.out]; exact bd_symF HBA.out HBV.out m (by rw [HK.out]; exact hm) j hj
          rw [HNF.out] at HN
          have HSTEP : Hid (symF V s aF i (m + 1) = stepK V s aF k nF) := by
            show _ = _
            rw [← HK.out, ← HNF.out]; rfl
          by_cases hkn : k ≤ n
          · have hkn' : (k : Int) ≤ (n : Int) := by omega
            have hkn1 : (k : Int) < (n1 : Int) := by have := HN1.out; omega
            have hkn1n : k < n1 := by have := HN1.out; omega
            obtain ⟨ak, HAK⟩ := nameIt (aF k)
            obtain ⟨aa, ma, ka, hga, -⟩ := HA.out.get hkn1n
            obtain ⟨e0, e1, e2, e3⟩ := hga w3 rfl
            rw [HAK.out] at e0 e1 e3
            cases ak with
            | none =>
              have HN' : Hid (WRow (fun k => (P k ∨ W.heap.size ≤ k) ∧ k ≠ g ∧ k ≠ g2) g2 n1 (symF V s aF i (m + 1)) w3) := by
                rw [HSTEP.out]
                exact HN.out.eq (fun j _ => (stepK_none HAK.out j).symm)
              simp only [Option.isSome] at e3
              clear hga
              go_wp2_with fail
              go_roundg (n + 1 - (k + 1))
              case measure => omega
              case rel =>
                have hk := HK.out
                exact ⟨m + 1, by omega, by omega, by rw [show i + (m + 1) = k + 1 by omega]; go_num, HB, HA, HN', HS2, HBW⟩
            | some av =>
              simp only [Option.isSome] at e3
              clear hga
              go_wp2_with fail
              go_loopg [14, 15, 16] (n + 1 - k) (fun gg v14 v15 v16 wr => ∃ j : Nat, k ≤ j ∧ j ≤ n + 1 ∧ n + 1 - j ≤ gg ∧ v14 = .int .i64 (j : Nat) ∧ Hid (Below W.heap.size W wr) ∧ Hid (WRow (fun k => (P k ∨ W.heap.size ≤ k) ∧ k ≠ g ∧ k ≠ g2) g n1 aF wr) ∧ Hid (WRow (fun k => (P k ∨ W.heap.size ≤ k) ∧ k ≠ g ∧ k ≠ g2) g2 n1 (mixF (stepK V s aF k nF) nF j) wr) ∧ Hid (wr.heap[b11]? = some (.cells #[.bool st, .int .i64 sn] 44 (0, 0))) ∧ Hid (Below W.heap.size W wr))
              case atStart =>
                refine ⟨k, by omega, by omega, by omega, rfl, HB, HA, ?_, HS2, HBW⟩
                refine HN.out.eq (fun j _ => ?_)
                unfold mixF
                split
                · rename_i h; exact (stepK_lt h).symm
                · rfl
              case round =>
                clear HB HA HN HS2 HBW e0 e1 e2 e3 w3
                obtain ⟨j, hkj, hjn1, hgg3, rfl, HB, HA, HN, HS2, HBW⟩ := hrel
                obtain ⟨w3, rfl⟩ : ∃ wo : World, wo = wr := ⟨_, rfl⟩
                by_cases hjn : j ≤ n
                · have hjn' : (j : Int) ≤ (n : Int) := by omega
                  have hjn1' : (j : Int) < (n1 : Int) := by have := HN1.out; omega
                  have hjn1n : j < n1 := by have := HN1.out; omega
                  obtain ⟨s0, s1⟩ := bx_cells2 HS2.out
                  go_wp2_with fail
                  refine (HSC.out w3 k j hkj hjn HBW.out).mono ?_
                  rintro e w4 ⟨x, rfl, hv, hb4⟩
                  obtain ⟨a1, m1, k1, rfl, hrd⟩ := hv.form
                  have HBX9 := Lib.hid (HBV.out k j hkj hjn)
                  obtain ⟨xo, HXO⟩ := nameIt (V s k j)
                  rw [HXO.out] at hv hrd HBX9
                  rw [HXO.out]
                  obtain ⟨w5, HW5⟩ := nameIt (w4.alloc (.cells #[.int .i64 (oC xo), .int .i64 (oN xo), .slice a1 m1 k1, .bool xo.isSome] 72))
                  have hw5 : Below w4.heap.size w4 w5 := by rw [← HW5.out]; exact (Below.refl _ _).alloc (Nat.le_refl _) _
                  have hb35 : Below w3.heap.size w3 w5 := hb4.trans (hw5.mono hb4.size)
                  have HX5 : Hid (w5.heap[w4.heap.size]? = some (.cells #[.int .i64 (oC xo), .int .i64 (oN xo), .slice a1 m1 k1, .bool xo.isSome] 72 (0, 0))) := by rw [← HW5.out]; exact bx_new _ _ _ rfl
                  have HSZ3 : Hid (g < w3.heap.size ∧ g2 < w3.heap.size) := ⟨HA.out.lt, HN.out.lt⟩
                  have HVX : Hid (WR (fun q => P q ∨ w3.heap.size ≤ q) w5 (.agg #[.int .i64 (oC xo), .int .i64 (oN xo), .slice a1 m1 k1, .bool xo.isSome]) xo) := hv.below hw5
                  have HA5 := Lib.hid (HA.out.keep hb35)
                  have HN5 := Lib.hid (HN.out.keep hb35)
                  have HS5 := Lib.hid (bx_keep HS2.out hb35)
                  have HB5 := Lib.hid (HB.out.trans (hb35.mono HB.out.size))
                  have HBW5 := Lib.hid (HBW.out.trans (hb35.mono HBW.out.size))
                  have HB35 := Lib.hid hb35
                  obtain ⟨b15, HB15⟩ := nameIt w4.heap.size
                  rw [HB15.out] at HX5
                  obtain ⟨aa, ma, ka, hga, hva⟩ := HA5.out.get hkn1n
                  rw [HAK.out] at hga hva
                  obtain ⟨an, mn, kn, hgn, hvn⟩ := HN5.out.get hjn1n
                  have HMX : Hid (∀ y, y = nF j → mixF (stepK V s aF k nF) nF j j = y) := by
                    intro y e
                    rw [e]
                    unfold mixF
                    rw [if_neg (by omega)]
                  have HBNJ := Lib.hid (HBN.out j hjn)
                  have HBAK : Hid (Bd (p * M) (some av)) := by have := HBA.out k hkn; rw [HAK.out] at this; exact this
                  obtain ⟨nx, HNX⟩ := nameIt (nF j)
                  rw [HMX.out nx HNX.out.symm] at hgn hvn
                  rw [HNX.out] at HBNJ
                  have HGA := Lib.hid hga
                  have HGN := Lib.hid hgn
                  have HVA := Lib.hid hva
                  have HVN := Lib.hid hvn
                  have hcx : oC (some av) + oC xo ≤ 4611686018427387904 := by have h1 := HBAK.out.2.1; have h2 := HBX9.out.2.1; omega
                  have hnx : oN (some av) + oN xo ≤ 4611686018427387904 := by have h1 := HBAK.out.2.2; have h2 := HBX9.out.2.2; omega
                  obtain ⟨hb, HHB⟩ := nameIt (hopB (some av) xo nx)
                  have HHOP : Hid (∀ W', Below w5.heap.size w5 W' → Calls Try.prog 68 #[.agg #[.int .i64 (oC (some av)), .int .i64 (oN (some av)), .slice aa ma ka, .bool true], .agg #[.int .i64 (oC xo), .int .i64 (oN xo), .slice a1 m1 k1, .bool xo.isSome], .agg #[.int .i64 (oC nx), .int .i64 (oN nx), .slice an mn kn, .bool nx.isSome]] W' fun e w' => e = .returned (.bool hb) ∧ Below W'.heap.size W' w') := by
                    intro W' hb'
                    have := hopE _ _ _ (some av) xo nx _ _ _ W' (HVA.out.below hb') (HVX.out.below hb') (HVN.out.below hb') hcx hnx
                    rw [HHB.out] at this
                    exact this
                  have HSJ : Hid (∀ y, y = V s k j → stepK V s aF k nF j = if lessB (bothO (some av) y) nx then bothO (some av) y else nx) := by
                    intro y e
                    rw [e]
                    unfold stepK
                    rw [HAK.out, HNX.out, show decide (k ≤ j) = true by simpa using hkj]
                    simp
                  have hsj := HSJ.out xo HXO.out.symm
                  have HSJX := Lib.hid hsj
                  clear hv hb4 hrd hw5 hb35 hga hgn hva hvn hcx hnx hsj s0 s1
                  go_upto_region 22 with fail
                  rw [HW5.out, HB15.out]
                  clear HW5 HB15
                  obtain ⟨e0, e1, e2, e3⟩ := HGA.out w5 rfl
                  simp only [Option.isSome] at e3
                  obtain ⟨d0, d1, d2, d3⟩ := HGN.out w5 rfl
                  obtain ⟨x0, x1, x2, x3⟩ := bx_cells4 HX5.out
                  have i0 := aft_cell e0
                  have i1 := aft_cell e1
                  have i2 := aft_cell e2
                  have i3 := aft_cell e3
                  have i4 := aft_cell d0
                  have i5 := aft_cell d1
                  have i6 := aft_cell d2
                  have i7 := aft_cell d3
                  have i8 := aft_cell x0
                  have i9 := aft_cell x1
                  have i10 := aft_cell x2
                  have i11 := aft_cell x3
                  clear e0 e1 e2 e3 d0 d1 d2 d3 x0 x1 x2 x3
                  refine wp_region_after (by kernel_rfl) (by kernel_rfl) ?_
                  repeat (go_big_quiet_step (with_reducible exact Calls.after (HHOP.out _ (Aft.bel _))))
                  refine wpQuiet_nil ?_
                  rintro w6 ⟨⟨_, hb6⟩, rfl⟩
                  clear i0 i1 i2 i3 i4 i5 i6 i7 i8 i9 i10 i11
                  have HB56 := Lib.hid hb6
                  have HA6 := Lib.hid (HA5.out.keep hb6)
                  have HN6 := Lib.hid (HN5.out.keep hb6)
                  have HS6 := Lib.hid (bx_keep HS5.out hb6)
                  have HB6 := Lib.hid (HB5.out.trans (hb6.mono HB5.out.size))
                  have HBW6 := Lib.hid (HBW5.out.trans (hb6.mono HBW5.out.size))
                  clear hb6
                  have HMIX : Hid (∀ o, stepK V s aF k nF j = o → ∀ x, x < n1 → mixF (stepK V s aF k nF) nF (j + 1) x = if x = j then o else mixF (stepK V s aF k nF) nF j x) := by
                    intro o e x _
                    unfold mixF
                    by_cases h : x = j
                    · rw [h, if_pos (by omega), if_pos rfl, e]
                    · rw [if_neg h]
                      by_cases h' : x < j
                      · rw [if_pos h', if_pos (by omega)]
                      · rw [if_neg h', if_neg (by omega)]
                  have HSAME : Hid (stepK V s aF k nF j = nx → ∀ x, x < n1 → mixF (stepK V s aF k nF) nF j x = mixF (stepK V s aF k nF) nF (j + 1) x) := by
                    intro e x hx
                    rw [HMIX.out nx e x hx]
                    by_cases h : x = j
                    · rw [if_pos h, h]; exact HMX.out nx HNX.out.symm
                    · rw [if_neg h]
                  cases hb with
                  | true =>
                    have HN7 := Lib.hid (HN6.out.eq (HSAME.out (by rw [HSJX.out, hop_no HHB.out]; rfl)))
                    go_wp2_with fail
                    go_roundg (n + 1 - (j + 1))
                    case measure => omega
                    case rel => exact ⟨j + 1, by omega, by omega, by omega, by go_num, HB6, HA6, HN7, HS6, HBW6⟩
                  | false =>
                    cases xo with
                    | none => exact absurd HHB.out (by simp [hopB])
                    | some xv =>
                      have HTH : Hid (∀ W', Below w6.heap.size w6 W' → Calls Try.prog 69 #[.agg #[.int .i64 (oC (some av)), .int .i64 (oN (some av)), .slice aa ma ka, .bool true], .agg #[.int .i64 (oC (some xv)), .int .i64 (oN (some xv)), .slice a1 m1 k1, .bool true]] W' fun e w' => ∃ z, e = .returned z ∧ WR (fun k => W'.heap.size ≤ k) w' z (some (thn av xv)) ∧ Below W'.heap.size W' w') := by
                        intro W' hb'
                        have h1 := HBAK.out
                        have h2 := HBX9.out
                        exact thenE _ _ av xv _ _ W' (HVA.out.below (HB56.out.trans (hb'.mono HB56.out.size))) (HVX.out.below (HB56.out.trans (hb'.mono HB56.out.size))) (by have h3 := h1.2.1; have h4 := h2.2.1; simp only [oC] at h3 h4; omega) (by have h3 := h1.2.2; have h4 := h2.2.2; simp only [oN] at h3 h4; omega) h1.w h2.w
                      obtain ⟨vo, HVO⟩ := nameIt (some (thn av xv))
                      rw [HVO.out] at HTH
                      have HCS : Hid (∀ w', Below w6.heap.size w6 w' → w'.cell? ⟨g, k * 4, none⟩ = some (.int .i64 (oC (some av))) ∧ w'.cell? ⟨g, k * 4 + 1, none⟩ = some (.int .i64 (oN (some av))) ∧ w'.cell? ⟨g, k * 4 + 2, none⟩ = some (.slice aa ma ka) ∧ w'.cell? ⟨g, k * 4 + 3, none⟩ = some (.bool true) ∧
                          w'.cell? ⟨b15, 0, none⟩ = some (.int .i64 (oC (some xv))) ∧ w'.cell? ⟨b15, 0 + 1, none⟩ = some (.int .i64 (oN (some xv))) ∧ w'.cell? ⟨b15, 0 + 2, none⟩ = some (.slice a1 m1 k1) ∧ w'.cell? ⟨b15, 0 + 3, none⟩ = some (.bool true)) := by
                        intro w' hb'
                        have hb57 := HB56.out.trans (hb'.mono HB56.out.size)
                        obtain ⟨h1, h2, h3, h4⟩ := HGA.out w' (hb57.block g HA5.out.lt)
                        obtain ⟨h5, h6, h7, h8⟩ := bx_cells4 (bx_keep HX5.out hb57)
                        exact ⟨h1, h2, h3, h4, h5, h6, h7, h8⟩
                      go_upto_region 23 with fail
                      go_cut [16] (fun t wx => ∃ b, t = .pointer (some ⟨b, 0, none⟩) ∧ Hid (NW w6 (fun k => w6.heap.size ≤ k) b vo wx))
                      case first =>
                        refine wp_region_U (S := (fun w' => w'.cell? ⟨g, k * 4, none⟩ = some (.int .i64 (oC (some av))) ∧ w'.cell? ⟨g, k * 4 + 1, none⟩ = some (.int .i64 (oN (some av))) ∧ w'.cell? ⟨g, k * 4 + 2, none⟩ = some (.slice aa ma ka) ∧ w'.cell? ⟨g, k * 4 + 3, none⟩ = some (.bool true) ∧ w'.cell? ⟨b15, 0, none⟩ = some (.int .i64 (oC (some xv))) ∧ w'.cell? ⟨b15, 0 + 1, none⟩ = some (.int .i64 (oN (some xv))) ∧ w'.cell? ⟨b15, 0 + 2, none⟩ = some (.slice a1 m1 k1) ∧ w'.cell? ⟨b15, 0 + 3, none⟩ = some (.bool true))) 7 (by kernel_rfl) (fun inv => ?_)
                        refine wpU_take (i := 0) (v := .slice (some ⟨g, 0, none⟩) n1 n1) rfl inv (by kernel_rfl) (by kernel_rfl) (by decide) (by decide) (by kernel_rfl) (by kernel_rfl) (by kernel_rfl) (fun _ _ _ h => h) (Or.inl ⟨by rfl, fun w' hw' => ?_⟩) (HCS.out _ (Below.refl _ _).drew) (fun inv => ?_)
                        · obtain ⟨h0, h1, h2, h3, h4, h5, h6, h7⟩ := hw'
                          go_simp
                        try simp only [Act.put, List.setIfInBounds_toArray, List.set_cons_zero, List.set_cons_succ]
                        refine wpU_take (i := 1) (v := .int .i64 (k : Nat)) rfl inv (by kernel_rfl) (by kernel_rfl) (by decide) (by decide) (by kernel_rfl) (by kernel_rfl) (by kernel_rfl) (fun _ _ _ h => h) (Or.inl ⟨by rfl, fun w' hw' => ?_⟩) (HCS.out _ (Below.refl _ _).drew) (fun inv => ?_)
                        · obtain ⟨h0, h1, h2, h3, h4, h5, h6, h7⟩ := hw'
                          go_simp
                        try simp only [Act.put, List.setIfInBounds_toArray, List.set_cons_zero, List.set_cons_succ]
                        refine wpU_take (i := 2) (v := .pointer (some ⟨g, k * 4, none⟩)) rfl inv (by kernel_rfl) (by kernel_rfl) (by decide) (by decide) (by kernel_rfl) (by kernel_rfl) (by kernel_rfl) (fun _ _ _ h => h) (Or.inl ⟨by rfl, fun w' hw' => ?_⟩) (HCS.out _ (Below.refl _ _).drew) (fun inv => ?_)
                        · obtain ⟨h0, h1, h2, h3, h4, h5, h6, h7⟩ := hw'
                          go_simp
                        try simp only [Act.put, List.setIfInBounds_toArray, List.set_cons_zero, List.set_cons_succ]
                        refine wpU_take (i := 3) (v := .agg #[.int .i64 (oC (some av)), .int .i64 (oN (some av)), .slice aa ma ka, .bool true]) rfl inv (by kernel_rfl) (by kernel_rfl) (by decide) (by decide) (by kernel_rfl) (by kernel_rfl) (by kernel_rfl) (fun _ _ _ h => h) (Or.inl ⟨by rfl, fun w' hw' => ?_⟩) (HCS.out _ (Below.refl _ _).drew) (fun inv => ?_)
                        · obtain ⟨h0, h1, h2, h3, h4, h5, h6, h7⟩ := hw'
                          go_simp
                        try simp only [Act.put, List.setIfInBounds_toArray, List.set_cons_zero, List.set_cons_succ]
                        refine wpU_take (i := 4) (v := .agg #[.int .i64 (oC (some xv)), .int .i64 (oN (some xv)), .slice a1 m1 k1, .bool true]) rfl inv (by kernel_rfl) (by kernel_rfl) (by decide) (by decide) (by kernel_rfl) (by kernel_rfl) (by kernel_rfl) (fun _ _ _ h => h) (Or.inl ⟨by rfl, fun w' hw' => ?_⟩) (HCS.out _ (Below.refl _ _).drew) (fun inv => ?_)
                        · obtain ⟨h0, h1, h2, h3, h4, h5, h6, h7⟩ := hw'
                          go_simp
                        try simp only [Act.put, List.setIfInBounds_toArray, List.set_cons_zero, List.set_cons_succ]
                        refine wpU_2 (i := 5) (j := 6) (by kernel_rfl) rfl rfl (fun K hK => ?_) (fun K hK => ?_)
                        ·
                          replace inv := inv_setc (i := 5) inv (by kernel_rfl) (by decide)
                          go_simp
                          refine (HTH.out _ (Below.refl w6.heap.size w6).drew).mono ?_
                          rintro e w7 ⟨z, rfl, hz, hb7⟩
                          obtain ⟨az, mz, kz, rfl, hrz⟩ := hz.form
                          have HB7 : Hid (Below w6.heap.size w6 w7) := (Below.refl w6.heap.size w6).drew.trans (hb7.mono (Below.refl w6.heap.size w6).drew.size)
                          have HRZ := Lib.hid hrz
                          have HBb7 := Lib.hid hb7
                          clear hz hrz hb7
                          refine hK.out _ _ (fun _ => HCS.out _ HB7.out) ?_
                          clear hK K
                          try simp only [Act.put, List.setIfInBounds_toArray, List.set_cons_zero, List.set_cons_succ]
                          refine wpU_one (i := 6) (by kernel_rfl) rfl (fun K hK => ?_)
                          replace inv := inv_setc (i := 6) inv (by kernel_rfl) (by decide)
                          go_simp
                          have HB8 : Hid (Below w6.heap.size w6 (w7.alloc (.cells #[.int .i64 0, .int .i64 0, .slice none 0 0, .bool false] 72))) := HB7.out.alloc HB7.out.size _
                          refine hK.out _ _ (fun _ => HCS.out _ HB8.out) ?_
                          clear hK K
                          try simp only [Act.put, List.setIfInBounds_toArray, List.set_cons_zero, List.set_cons_succ]
                          refine wpU_one (i := 7) (by kernel_rfl) rfl (fun K hK => ?_)
                          go_simp
                          refine hK.out _ _ (fun h => absurd (show true = false from h) (by decide)) ?_
                          clear hK K
                          try simp only [Act.put, List.setIfInBounds_toArray, List.set_cons_zero, List.set_cons_succ]
                          refine wpU_done (by kernel_rfl) ?_ _
                          go_wp2_with fail
                          go_meet
                          refine ⟨w7.heap.size, rfl, ?_⟩
                          show NW _ _ _ _ _
                          have hs7 := HB7.out.size
                          refine ⟨HB7.out.alloc hs7 _, hs7, _, _, _, bx_new w7 _ _ rfl, (HRZ.out.mono (fun k hk hl => ⟨hk, ?_⟩)).below ((Below.refl _ _).alloc (Nat.le_refl _) _)⟩
                          omega
                        ·
                          replace inv := inv_setc (i := 6) inv (by kernel_rfl) (by decide)
                          go_simp
                          have HB8 : Hid (Below w6.heap.size w6 (w6.drew.alloc (.cells #[.int .i64 0, .int .i64 0, .slice none 0 0, .bool false] 72))) := (Below.refl w6.heap.size w6).drew.alloc (Nat.le_refl _) _
                          refine hK.out _ _ (fun _ => HCS.out _ HB8.out) ?_
                          clear hK K
                          try simp only [Act.put, List.setIfInBounds_toArray, List.set_cons_zero, List.set_cons_succ]
                          refine wpU_one (i := 5) (by kernel_rfl) rfl (fun K hK => ?_)
                          replace inv := inv_setc (i := 5) inv (by kernel_rfl) (by decide)
                          go_simp
                          refine (HTH.out _ HB8.out).mono ?_
                          rintro e w7 ⟨z, rfl, hz, hb7⟩
                          obtain ⟨az, mz, kz, rfl, hrz⟩ := hz.form
                          have HB7 : Hid (Below w6.heap.size w6 w7) := HB8.out.trans (hb7.mono HB8.out.size)
                          have HRZ := Lib.hid hrz
                          have HBb7 := Lib.hid hb7
                          clear hz hrz hb7
                          have HZ7 : Hid (w7.heap[w6.heap.size]? = some (.cells #[.int .i64 0, .int .i64 0, .slice none 0 0, .bool false] 72 (0, 0))) := bx_keep (bx_new w6.drew _ _ rfl) HBb7.out
                          refine hK.out _ _ (fun _ => HCS.out _ HB7.out) ?_
                          clear hK K
                          try simp only [Act.put, List.setIfInBounds_toArray, List.set_cons_zero, List.set_cons_succ]
                          refine wpU_one (i := 7) (by kernel_rfl) rfl (fun K hK => ?_)
                          obtain ⟨f0, f1, f2, f3⟩ := bx_free4 HZ7.out
                          obtain ⟨y0, y1, y2, y3⟩ := bx_cells4 HZ7.out
                          go_simp
                          refine hK.out _ _ (fun h => absurd (show true = false from h) (by decide)) ?_
                          clear hK K
                          try simp only [Act.put, List.setIfInBounds_toArray, List.set_cons_zero, List.set_cons_succ]
                          refine wpU_done (by kernel_rfl) ?_ _
                          go_wp2_with fail
                          go_meet
                          refine ⟨w6.heap.size, rfl, ?_⟩
                          show NW _ _ _ _ _
                          refine nw_mk (o := vo) HB7.out (Nat.le_refl _) HZ7.out (HRZ.out.mono (fun k hk hl => ?_))
                          have hk2 : w6.heap.size + 1 ≤ k := by simpa using hk
                          exact ⟨by show w6.heap.size ≤ k; omega, by omega⟩
                      case rest =>
                        obtain ⟨b16, rfl, HNW⟩ := hcut
                        obtain ⟨w7, HW7⟩ := nameIt wc
                        rw [HW7.out] at HNW ⊢
                        clear HW7 HCS
                        have hb67 := HNW.out.1
                        have hb57 := HB56.out.trans (hb67.mono HB56.out.size)
                        have HA7 := Lib.hid (HA6.out.keep hb67)
                        have HN7 := Lib.hid (HN6.out.keep hb67)
                        have HS7 := Lib.hid (bx_keep HS6.out hb67)
                        have HB7 := Lib.hid (HB6.out.trans (hb67.mono HB6.out.size))
                        have HBW7 := Lib.hid (HBW6.out.trans (hb67.mono HBW6.out.size))
                        obtain ⟨-, -, av16, am16, ak16, hx16, hr16⟩ := HNW.out
                        have HX16 := Lib.hid hx16
                        have HR16 := Lib.hid hr16
                        have hvn7 := HVN.out.below hb57
                        have hv16 : WR (fun k => (fun k => w6.heap.size ≤ k) k ∧ k ≠ b16) w7 (.agg #[.int .i64 (oC vo), .int .i64 (oN vo), .slice av16 am16 ak16, .bool vo.isSome]) vo := ⟨_, rfl, hr16⟩
                        have hwf : WfO vo := by
                          rw [← HVO.out]
                          intro v e
                          cases e
                          exact wf_thn (HBAK.out.1 _ rfl) (HBX9.out.1 _ rfl)
                        obtain ⟨lb, HLB⟩ := nameIt (lessB vo nx)
                        have HLS : Hid (∀ W', Below w7.heap.size w7 W' → Calls Try.prog 30 #[.agg #[.int .i64 (oC vo), .int .i64 (oN vo), .slice av16 am16 ak16, .bool vo.isSome], .agg #[.int .i64 (oC nx), .int .i64 (oN nx), .slice an mn kn, .bool nx.isSome]] W' fun e w' => e = .returned (.bool lb) ∧ Below W'.heap.size W' w') := by
                          intro W' hb'
                          have := wlessE _ _ vo nx _ _ W' (hv16.below hb') (hvn7.below hb') hwf HBNJ.out.1
                          rw [HLB.out] at this
                          exact this
                        have hsv : stepK V s aF k nF j = if lb then vo else nx := by
                          rw [HSJX.out]
                          show (if lessB (some (thn av xv)) nx then some (thn av xv) else nx) = _
                          rw [HVO.out, HLB.out]
                        have HSV := Lib.hid hsv
                        obtain ⟨d0, d1, d2, d3⟩ := HGN.out w7 (hb57.block g2 HN5.out.lt)
                        obtain ⟨x0, x1, x2, x3⟩ := bx_cells4 hx16
                        have i4 := aft_cell d0
                        have i5 := aft_cell d1
                        have i6 := aft_cell d2
                        have i7 := aft_cell d3
                        have i8 := aft_cell x0
                        have i9 := aft_cell x1
                        have i10 := aft_cell x2
                        have i11 := aft_cell x3
                        clear d0 d1 d2 d3 x0 x1 x2 x3 hb67 hb57 hx16 hr16 hvn7 hv16 hwf hsv
                        go_upto_region 24 with fail
                        refine wp_region_after (by kernel_rfl) (by kernel_rfl) ?_
                        repeat (go_big_quiet_step (with_reducible exact Calls.after (HLS.out _ (Aft.bel _))))
                        refine wpQuiet_nil ?_
                        rintro w8 ⟨⟨_, hb8⟩, rfl⟩
                        clear i4 i5 i6 i7 i8 i9 i10 i11
                        have HA8 := Lib.hid (HA7.out.keep hb8)
                        have HN8 := Lib.hid (HN7.out.keep hb8)
                        have HS8 := Lib.hid (bx_keep HS7.out hb8)
                        have HB8 := Lib.hid (HB7.out.trans (hb8.mono HB7.out.size))
                        have HBW8 := Lib.hid (HBW7.out.trans (hb8.mono HBW7.out.size))
                        cases lb with
                        | false =>
                          have HN9 := Lib.hid (HN8.out.eq (HSAME.out (by rw [HSV.out]; rfl)))
                          clear hb8
                          go_wp2_with fail
                          go_roundg (n + 1 - (j + 1))
                          case measure => omega
                          case rel => exact ⟨j + 1, by omega, by omega, by omega, by go_num, HB8, HA8, HN9, HS8, HBW8⟩
                        | true =>
                          obtain ⟨x0, x1, x2, x3⟩ := bx_cells4 (bx_keep HX16.out hb8)
                          obtain ⟨ad, md, kd, hgd, -⟩ := HN8.out.get hjn1n
                          obtain ⟨d0, d1, d2, d3⟩ := hgd w8 rfl
                          clear hgd
                          have hfr := HN8.out.free
                          have f0 := hfr (j * 4)
                          have f1 := hfr (j * 4 + 1)
                          have f2 := hfr (j * 4 + 2)
                          have f3 := hfr (j * 4 + 3)
                          have hgz := HGB.out
                          obtain ⟨hz1, hz2, hz3, hz4⟩ := hgz
                          have hs35 := HB35.out.size
                          have hs56 := HB56.out.size
                          have hsz3 := HSZ3.out
                          obtain ⟨hsz3a, hsz3b⟩ := hsz3
                          have hgr := grown_cellsAt w8 g2 (j * 4) (j * 4 + 1) (j * 4 + 2) (j * 4 + 3) (.int .i64 (oC vo)) (.int .i64 (oN vo)) (.slice av16 am16 ak16) (.bool vo.isSome)
                          have HN9 : Hid (WRow (fun k => (P k ∨ W.heap.size ≤ k) ∧ k ≠ g ∧ k ≠ g2) g2 n1 (mixF (stepK V s aF k nF) nF (j + 1)) ((((w8.setCell ⟨g2, j * 4, none⟩ (.int .i64 (oC vo))).setCell ⟨g2, j * 4 + 1, none⟩ (.int .i64 (oN vo))).setCell ⟨g2, j * 4 + 2, none⟩ (.slice av16 am16 ak16)).setCell ⟨g2, j * 4 + 3, none⟩ (.bool vo.isSome))) := by
                            refine HN8.out.set hjn1n ((HR16.out.below hb8).mono (fun k hk _ => ?_)) (fun h => h.2.2 rfl) (HMIX.out vo (by rw [HSV.out]; rfl))
                            have hk2 : w6.heap.size ≤ k := hk.1
                            exact ⟨.inr (by omega), by omega, by omega⟩
                          have HA9 := Lib.hid (HA8.out.grown hgr (by simp; omega) (fun k e h => by cases e; exact h.2.2 rfl))
                          have HS9 := Lib.hid ((hgr.block b11 (Array.getElem?_eq_some_iff.1 HS8.out).1 (by simp; omega)).trans HS8.out)
                          have HB9 := Lib.hid (HB8.out.grown hgr HB8.out.size (fun k e => by cases e; omega))
                          have HBW9 := Lib.hid (HBW8.out.grown hgr HBW8.out.size (fun k e => by cases e; omega))
                          clear hb8 hfr hgr
                          go_wp2_with fail
                          go_roundg (n + 1 - (j + 1))
                          case measure => omega
                          case rel => exact ⟨j + 1, by omega, by omega, by omega, by go_num, HB9, HA9, HN9, HS9, HBW9⟩
                · have hjn' : ¬ (j : Int) ≤ (n : Int) := by omega
                  have HN' : Hid (WRow (fun k => (P k ∨ W.heap.size ≤ k) ∧ k ≠ g ∧ k ≠ g2) g2 n1 (symF V s aF i (m + 1)) w3) := by
                    rw [HSTEP.out]
                    refine HN.out.eq (fun x hx => ?_)
                    unfold mixF
                    rw [if_pos (by have := HN1.out; omega)]
                  go_wp2_with fail
                  go_roundg (n + 1 - (k + 1))
                  case measure => omega
                  case rel =>
                    have hk := HK.out
                    exact ⟨m + 1, by omega, by omega, by rw [show i + (m + 1) = k + 1 by omega]; go_num, HB, HA, HN', HS2, HBW⟩
          · have hkn' : ¬ (k : Int) ≤ (n : Int) := by omega
            have HN' : Hid (WRow (fun k => (P k ∨ W.heap.size ≤ k) ∧ k ≠ g2) g2 n1 (foldF V i n (r.right.take (p + 1)) (startF i)) w3) := by
              have hk := HK.out
              rw [HNEXT.out, show n + 1 - i = m by omega, HNF.out]
              exact HN.out.mono (fun k hk _ => ⟨hk.1, hk.2.2⟩)
            go_wp2_with fail
            go_roundg (rn - (p + 1))
            case measure => omega
            case rel => exact ⟨p + 1, g2, by omega, by omega, rfl, by go_num, HGB.out.2.2.2, HBW, HN'⟩
      · have hlt' : ¬ (p : Int) < (rn : Int) := by omega
        obtain rfl : p = rn := by omega
        rw [← HRF.out] at HA
        have HFI := Lib.hid (HFIN.out g w0 hgW HA.out HB.out)
        go_wp2_with fail
        exact HFI.out
end Rp
end Go.Proofs.Ytjpmebppdcclbaa
namespace Go.Proofs.Ytjpmebppdcclbaa
namespace Rp

/-- whether the row of a rule at i is better at j -/
def betR (c : Co) (w : List Int) (n : Nat) (T : Tb) (r : Rule) (i j : Nat) : Bool := lessB (ruleF (ofT (leafR c w) T) c r i n j) (T r.left i j)
/-- the row of a rule at i, taken over up to j -/
def rowU (c : Co) (w : List Int) (n : Nat) (T : Tb) (r : Rule) (i j : Nat) : Tb := fun A x y => if A = r.left ∧ x = i ∧ y < j ∧ betR c w n T r i y = true then ruleF (ofT (leafR c w) T) c r i n y else T A x y
theorem rowU_zero (c : Co) (w : List Int) (n : Nat) (T : Tb) (r : Rule) (i : Nat) : rowU c w n T r i 0 = T := by
  funext A x y
  unfold rowU
  rw [if_neg (fun h => by omega)]
theorem rowU_no {c : Co} {w : List Int} {n : Nat} {T : Tb} {r : Rule} {i j : Nat} (h : betR c w n T r i j = false) : rowU c w n T r i (j + 1) = rowU c w n T r i j := by
  funext A x y
  unfold rowU
  by_cases e : A = r.left ∧ x = i ∧ y < j ∧ betR c w n T r i y = true
  · rw [if_pos e, if_pos ⟨e.1, e.2.1, by omega, e.2.2.2⟩]
  · rw [if_neg e, if_neg (fun h' => e ⟨h'.1, h'.2.1, by
      rcases Nat.lt_or_ge y j with h1 | h1
      · exact h1
      · have : y = j := by omega
        rw [this, h] at h'
        simp at h', h'.2.2.2⟩)]
theorem rowU_yes {c : Co} {w : List Int} {n : Nat} {T : Tb} {r : Rule} {i j : Nat} (h : betR c w n T r i j = true) : rowU c w n T r i (j + 1) = upd (rowU c w n T r i j) r.left i j (ruleF (ofT (leafR c w) T) c r i n j) := by
  funext A x y
  unfold upd
  by_cases e : A = r.left ∧ x = i ∧ y = j
  · obtain ⟨rfl, rfl, rfl⟩ := e
    rw [if_pos ⟨rfl, rfl, rfl⟩]
    unfold rowU
    rw [if_pos ⟨rfl, rfl, by omega, h⟩]
  · rw [if_neg e]
    unfold rowU
    by_cases e1 : A = r.left ∧ x = i ∧ y < j ∧ betR c w n T r i y = true
    · rw [if_pos e1, if_pos ⟨e1.1, e1.2.1, by omega, e1.2.2.2⟩]
    · rw [if_neg e1, if_neg (fun h' => e1 ⟨h'.1, h'.2.1, by
        rcases Nat.lt_or_ge y j with h1 | h1
        · exact h1
        · exact absurd ⟨h'.1, h'.2.1, by omega⟩ e, h'.2.2.2⟩)]
theorem rowU_at {c : Co} {w : List Int} {n : Nat} {T : Tb} {r : Rule} {i j : Nat} : rowU c w n T r i j r.left i j = T r.left i j := by
  unfold rowU
  rw [if_neg (fun h => by omega)]
structure Plan2 (K : List Rule) (c : Co) (w : List Int) (n : Nat) (ok : Sym → Prop) (M : Nat) (Inv : Nat → Nat → Tb → Prop) (mu : Tb → Nat) : Prop where
  start : Inv 0 0 (fun _ _ _ => none)
  step : ∀ a i T r, K[a]? = some r → i ≤ n → Inv a i T → Inv a (i + 1) (rowU c w n T r i (n + 1))
  dec : ∀ a i j T r, K[a]? = some r → i ≤ n → j ≤ n → Inv a i T → betR c w n T r i j = true → mu (rowU c w n T r i (j + 1)) < mu (rowU c w n T r i j)
  rule : ∀ a T, Inv a (n + 1) T → Inv (a + 1) 0 T
  round : ∀ T, Inv K.length 0 T → Inv 0 0 T
  bd : ∀ a i T, Inv a i T → ∀ s, ok s → ∀ i j, i ≤ j → j ≤ n → Bd M (ofT (leafR c w) T s i j)
  wf : ∀ a i T, Inv a i T → ∀ A x y, WfO (T A x y)
section
variable {K : List Rule} {c : Co} {w : List Int} {n : Nat} {ok : Sym → Prop} {M : Nat} {Inv : Nat → Nat → Tb → Prop} {mu : Tb → Nat}
def Dn2 (K : List Rule) (c : Co) (w : List Int) (n a i : Nat) (T : Tb) : Prop := ∀ a' r i' j', K[a']? = some r → i' ≤ n → j' ≤ n → (a' < a ∨ (a' = a ∧ i' < i)) → betR c w n T r i' j' = false
structure St2 (K : List Rule) (c : Co) (w : List Int) (n : Nat) (Inv : Nat → Nat → Tb → Prop) (mu : Tb → Nat) (m0 a i : Nat) (b : Bool) (T : Tb) : Prop where
  inv : Inv a i T
  le : mu T ≤ m0
  lt : b = true → mu T < m0
  dn : b = false → Dn2 K c w n a i T
/-- within a row -/
structure Sr2 (K : List Rule) (c : Co) (w : List Int) (n : Nat) (Inv : Nat → Nat → Tb → Prop) (mu : Tb → Nat) (m0 a i : Nat) (T : Tb) (r : Rule) (j : Nat) (b : Bool) : Prop where
  inv : Inv a i T
  le : mu (rowU c w n T r i j) ≤ m0
  lt : b = true → mu (rowU c w n T r i j) < m0
  dn : b = false → Dn2 K c w n a i T ∧ ∀ y, y < j → betR c w n T r i y = false
variable {m0 a i j : Nat} {b : Bool} {T : Tb} {r : Rule}
theorem Sr2.begin (h : St2 K c w n Inv mu m0 a i b T) (r : Rule) : Sr2 K c w n Inv mu m0 a i T r 0 b :=
  ⟨h.inv, by rw [rowU_zero]; exact h.le, fun e => by rw [rowU_zero]; exact h.lt e, fun e => ⟨h.dn e, fun y hy => by omega⟩⟩
theorem Sr2.no (h : Sr2 K c w n Inv mu m0 a i T r j b) (hb : betR c w n T r i j = false) : Sr2 K c w n Inv mu m0 a i T r (j + 1) b := by
  refine ⟨h.inv, by rw [rowU_no hb]; exact h.le, fun e => by rw [rowU_no hb]; exact h.lt e, fun e => ⟨(h.dn e).1, fun y hy => ?_⟩⟩
  rcases Nat.lt_or_ge y j with h1 | h1
  · exact (h.dn e).2 y h1
  · rw [show y = j by omega]; exact hb
theorem Sr2.yes (P : Plan2 K c w n ok M Inv mu) (hr : K[a]? = some r) (hi : i ≤ n) (hj : j ≤ n) (h : Sr2 K c w n Inv mu m0 a i T r j b) (hb : betR c w n T r i j = true) : Sr2 K c w n Inv mu m0 a i T r (j + 1) true := by
  have h1 := P.dec a i j T r hr hi hj h.inv hb
  have h2 := h.le
  exact ⟨h.inv, by omega, fun _ => by omega, fun e => (by cases e)⟩
theorem Sr2.done (P : Plan2 K c w n ok M Inv mu) (hr : K[a]? = some r) (hi : i ≤ n) (h : Sr2 K c w n Inv mu m0 a i T r (n + 1) b) : St2 K c w n Inv mu m0 a (i + 1) b (rowU c w n T r i (n + 1)) := by
  refine ⟨P.step a i T r hr hi h.inv, h.le, h.lt, fun e => ?_⟩
  obtain ⟨h1, h2⟩ := h.dn e
  have e1 : rowU c w n T r i (n + 1) = T := by
    funext A x y
    unfold rowU
    rw [if_neg (fun h' => by rw [h2 y h'.2.2.1] at h'; simp at h')]
  rw [e1]
  intro a' r' i' j' h3 h4 h5 h6
  by_cases e2 : a' = a ∧ i' = i
  · obtain ⟨rfl, rfl⟩ := e2
    rw [hr] at h3
    cases h3
    exact h2 j' (by omega)
  · exact h1 a' r' i' j' h3 h4 h5 (by omega)
theorem St2.rule (P : Plan2 K c w n ok M Inv mu) (h : St2 K c w n Inv mu m0 a (n + 1) b T) : St2 K c w n Inv mu m0 (a + 1) 0 b T :=
  ⟨P.rule a T h.inv, h.le, h.lt, fun e a' r' i' j' h1 h2 h3 h4 => h.dn e a' r' i' j' h1 h2 h3 (by omega)⟩
theorem St2.begin (h : Inv 0 0 T) : St2 K c w n Inv mu (mu T) 0 0 false T :=
  ⟨h, Nat.le_refl _, fun e => (by cases e), fun _ a' r' i' j' h1 h2 h3 h4 => by omega⟩
theorem St2.again (P : Plan2 K c w n ok M Inv mu) (h : St2 K c w n Inv mu m0 K.length 0 b T) : Inv 0 0 T := P.round T h.inv
def ClosedR (K : List Rule) (c : Co) (w : List Int) (n : Nat) (T : Tb) : Prop := ∀ r ∈ K, ∀ i j, i ≤ n → j ≤ n → betR c w n T r i j = false
theorem St2.closed (h : St2 K c w n Inv mu m0 K.length 0 false T) : ClosedR K c w n T := by
  intro r hr i j h1 h2
  obtain ⟨a, ha, e⟩ := List.mem_iff_getElem.1 hr
  exact h.dn rfl a r i j (by rw [List.getElem?_eq_getElem ha, e]) h1 h2 (.inl ha)
end
end Rp
end Go.Proofs.Ytjpmebppdcclbaa
