/- For every input the law RepairBest returns true, and its arguments read afterwards as before. No condition. -/
import Derived.Test.YtjpmebppdcclbaaJRepairBestRow8
import Derived.Test.YtjpmebppdcclbaaJRepairBestRow4
import Derived.Test.YtjpmebppdcclbaaJRepairBestRow6
import Derived.Test.YtjpmebppdcclbaaJRepairBestRow1
import Derived.Test.YtjpmebppdcclbaaRows
import Derived.ChangeArms
import Derived.ChangeSame
import Derived.SizedLaws
import Derived.Deep.Slices
import Derived.Test.YtjpmebppdcclbaaJRepairBestRow2
import Derived.Lib.SmallJoins
import Derived.Test.YtjpmebppdcclbaaJRepairBestRow3
import Derived.Test.YtjpmebppdcclbaaJRepairBestRow7
import Derived.OpenShut
import Derived.ChangeOld
import Derived.Carry
import Derived.JoinedCond
namespace Go.Proofs.Ytjpmebppdcclbaa
open Go.RowKit
namespace Rp

set_option maxHeartbeats 8000000 in
set_option maxRecDepth 100000 in
theorem nearE (c : Co) (hc : c.ok) (w : List Int) (hw : w.length ≤ 12) (M : Nat) (hM : M ≤ 288230376151711744) (K : List Rule) (gt gn gs : Int) (gr : Value) (W : World) (hgr : Rd AnyB W (.sl (K.map Rule.d)) [gr]) (hK : ∀ r ∈ K, okN r.left ∧ r.right.length ≤ 4 ∧ ∀ s ∈ r.right, okN s.n) (hgs : okN gs)
    (wv : Value) (hwv : Sl W wv (ints w)) (Inv : Nat → Nat → Nat → Tb → Prop) (mu : Tb → Nat) (PL : Plan K (leafR c w) (emR c) w.length (fun s => okN s.n) M Inv mu) :
    Calls Try.prog 13 #[.agg #[.int .i64 gt, .int .i64 gn, .int .i64 gs, gr], wv, .agg #[.int .i64 (c.c0 : Int), .int .i64 (c.c1 : Int), .int .i64 (c.c2 : Int)]] W fun e w' =>
      ∃ T x, e = .returned x ∧ Inv 0 0 0 T ∧ ClosedT K (leafR c w) (emR c) w.length T ∧ VR (fun k => W.heap.size ≤ k) w' x (nearOf c w T gs) ∧ Below W.heap.size W w' := by
  obtain ⟨wa, wk, rfl⟩ := hwv.form
  rw [ints_len] at hwv ⊢
  obtain ⟨ga, gk, rfl, hgc1, hgc2⟩ := hgr.form
  rw [List.length_map] at hgr hgc1 ⊢
  obtain ⟨w0, HW⟩ := nameIt ((((W.alloc (.cells #[.int .i64 gt, .int .i64 gn, .int .i64 gs, .slice ga K.length gk] 24)).alloc (.cells #[.slice wa w.length wk] 25)).alloc (.cells #[.int .i64 (c.c0 : Int), .int .i64 (c.c1 : Int), .int .i64 (c.c2 : Int)] 26)).alloc (.cells #[.bool false, .int .i64 0, .int .i64 0, .slice none 0 0] 36))
  have hw0 : Below W.heap.size W w0 := by
    rw [← HW.out]
    exact ((((Below.refl _ _).alloc (Nat.le_refl _) _).alloc (by simp) _).alloc (by simp; omega) _).alloc (by simp; omega) _
  have HSZ : Hid (w0.heap.size = W.heap.size + 1 + 1 + 1 + 1) := by show _ = _; rw [← HW.out]; simp
  have hg0 : w0.heap[W.heap.size]? = some (.cells #[.int .i64 gt, .int .i64 gn, .int .i64 gs, .slice ga K.length gk] 24 (0, 0)) := by
    rw [← HW.out]; exact bx_keep (bx_keep (bx_keep (bx_new _ _ _ rfl) ((Below.refl _ _).alloc (Nat.le_refl _) _)) ((Below.refl _ _).alloc (Nat.le_refl _) _)) ((Below.refl _ _).alloc (Nat.le_refl _) _)
  have hq0 : w0.heap[W.heap.size + 1]? = some (.cells #[.slice wa w.length wk] 25 (0, 0)) := by
    rw [← HW.out]; exact bx_keep (bx_keep (bx_new _ _ _ (by simp)) ((Below.refl _ _).alloc (Nat.le_refl _) _)) ((Below.refl _ _).alloc (Nat.le_refl _) _)
  have hc0 : w0.heap[W.heap.size + 1 + 1]? = some (.cells #[.int .i64 (c.c0 : Int), .int .i64 (c.c1 : Int), .int .i64 (c.c2 : Int)] 26 (0, 0)) := by
    rw [← HW.out]; exact bx_keep (bx_new _ _ _ (by simp)) ((Below.refl _ _).alloc (Nat.le_refl _) _)
  have HZ0 : Hid (w0.heap[W.heap.size + 1 + 1 + 1]? = some (.cells #[.bool false, .int .i64 0, .int .i64 0, .slice none 0 0] 36 (0, 0))) := by
    rw [← HW.out]; exact bx_new _ _ _ (by simp)
  have HB0 := Lib.hid hw0
  have hnb : NB (W.heap.size + 1 + 1) (W.heap.size + 1) c w w0 := ⟨hc0, wa, wk, hq0, hwv.keep hw0⟩
  have HNB := Lib.hid hnb
  have HLF : Hid (∀ W', Below w0.heap.size w0 W' → LeafFn 39 #[.pointer (some ⟨W.heap.size + 1 + 1, 0, none⟩), .pointer (some ⟨W.heap.size + 1, 0, none⟩)] (leafR c w) (fun s => okN s.n) w.length (fun _ => False) W') := fun W' hb W'' y i j _ => nearLeaf _ _ c hc w hw W' (hnb.keep hb) W'' y i j trivial
  have HEM : Hid (∀ W', Below w0.heap.size w0 W' → EmpFn 40 #[.pointer (some ⟨W.heap.size + 1 + 1, 0, none⟩)] (emR c) w.length (fun _ => False) W') := fun W' hb => nearEmp _ (W.heap.size + 1) c hc w hw W' (hnb.keep hb)
  have HSO : Hid (∀ W', Below w0.heap.size w0 W' → Calls Try.prog 41 #[.agg #[.int .i64 gt, .int .i64 gn, .int .i64 gs, .slice ga K.length gk], .int .i64 (w.length : Nat), .func (.func 39) #[] #[.pointer (some ⟨W.heap.size + 1 + 1, 0, none⟩), .pointer (some ⟨W.heap.size + 1, 0, none⟩)], .func (.func 40) #[] #[.pointer (some ⟨W.heap.size + 1 + 1, 0, none⟩)]] W' fun e w' =>
      ∃ T, e = .returned (.pointer (some ⟨W'.heap.size + 2, 0, none⟩)) ∧ Inv 0 0 0 T ∧ ClosedT K (leafR c w) (emR c) w.length T ∧ SM (fun _ => False) W' gt gn gs (.slice ga K.length gk) (.func (.func 39) #[] #[.pointer (some ⟨W.heap.size + 1 + 1, 0, none⟩), .pointer (some ⟨W.heap.size + 1, 0, none⟩)]) (.func (.func 40) #[] #[.pointer (some ⟨W.heap.size + 1 + 1, 0, none⟩)]) w.length T w') :=
    fun W' hb => solveE _ _ _ _ _ _ _ _ M _ W' eg39 eg40 (HLF.out W' hb) (HEM.out W' hb) (fun k h => h.elim) (by omega) hM K gt gn gs _ (hgr.below (hw0.trans (hb.mono hw0.size))) hK (fun s h => h) Inv mu PL
  obtain ⟨wn, HWN⟩ := nameIt w.length
  obtain ⟨kn, HKN⟩ := nameIt K.length
  have HCS : Hid (∀ w', Below w0.heap.size w0 w' → w'.cell? ⟨W.heap.size, 0, none⟩ = some (.int .i64 gt) ∧ w'.cell? ⟨W.heap.size, 0 + 1, none⟩ = some (.int .i64 gn) ∧ w'.cell? ⟨W.heap.size, 0 + 2, none⟩ = some (.int .i64 gs) ∧ w'.cell? ⟨W.heap.size, 0 + 3, none⟩ = some (.slice ga kn gk) ∧ w'.cell? ⟨W.heap.size + 1, 0, none⟩ = some (.slice wa wn wk)) := by
    intro w' hb'
    rw [HKN.out] at hg0
    rw [HWN.out] at hq0
    obtain ⟨h1, h2, h3, h4⟩ := bx_cells4 (bx_keep hg0 hb')
    exact ⟨h1, h2, h3, h4, bx_cells1 (bx_keep hq0 hb')⟩
  have HOF : Hid (∀ (T : Tb) W1 W', Below w0.heap.size w0 W1 → SM (fun _ => False) W1 gt gn gs (.slice ga K.length gk) (.func (.func 39) #[] #[.pointer (some ⟨W.heap.size + 1 + 1, 0, none⟩), .pointer (some ⟨W.heap.size + 1, 0, none⟩)]) (.func (.func 40) #[] #[.pointer (some ⟨W.heap.size + 1 + 1, 0, none⟩)]) w.length T W' →
      Calls Try.prog 42 #[.pointer (some ⟨W1.heap.size + 2, 0, none⟩), .agg #[.bool false, .int .i64 gs], .int .i64 0, .int .i64 (w.length : Nat)] W' fun e w' => ∃ x, e = .returned x ∧ VR (fun k => w0.heap.size ≤ k) w' x (nearOf c w T gs) ∧ Below W'.heap.size W' w') := by
    intro T W1 W' hb hsm
    refine (hsm.ofFn eg39 (HLF.out W1 hb) (fun k h => h.elim) (by omega) (fun s h => h) W' ⟨false, gs⟩ 0 w.length hgs (by omega) (Nat.le_refl _) (Below.refl _ _)).mono ?_
    rintro e w' ⟨x, h1, h2, h3⟩
    refine ⟨x, h1, h2.mono (fun k hk _ => ?_), h3⟩
    have hs1 := hb.size
    have hs2 := hsm.bel.size
    rcases hk with hk | hk
    · rcases hk.1 with h | h
      · exact h.elim
      · show w0.heap.size ≤ k
        omega
    · have hk2 : W'.heap.size ≤ k := hk
      show w0.heap.size ≤ k
      omega
  obtain ⟨PST, HP⟩ := nameIt (fun (e : Ending) (w' : World) => ∃ T x, e = .returned x ∧ Inv 0 0 0 T ∧ ClosedT K (leafR c w) (emR c) w.length T ∧ VR (fun k => W.heap.size ≤ k) w' x (nearOf c w T gs) ∧ Below W.heap.size W w')
  rw [HP.out]
  rw [HWN.out, HKN.out]
  rw [HKN.out] at HSO HOF HW
  clear hg0 hq0 hc0 hw0 hnb hgr hK
  go_enter Try.func13, Try.ntmps13
  go_upto_region 3 with fail
  rw [HWN.out] at HSO HOF HW HP
  rw [HW.out]
  clear HW
  refine wp_region_U (S := (fun w' => w'.cell? ⟨W.heap.size, 0, none⟩ = some (.int .i64 gt) ∧ w'.cell? ⟨W.heap.size, 0 + 1, none⟩ = some (.int .i64 gn) ∧ w'.cell? ⟨W.heap.size, 0 + 2, none⟩ = some (.int .i64 gs) ∧ w'.cell? ⟨W.heap.size, 0 + 3, none⟩ = some (.slice ga kn gk) ∧ w'.cell? ⟨W.heap.size + 1, 0, none⟩ = some (.slice wa wn wk))) 11 (by kernel_rfl) (fun inv => ?_)
  refine wpU_take (i := 0) (v := .agg #[.int .i64 gt, .int .i64 gn, .int .i64 gs, .slice ga kn gk]) rfl inv (by kernel_rfl) (by kernel_rfl) (by decide) (by decide) (by kernel_rfl) (by kernel_rfl) (by kernel_rfl) (fun _ _ _ h => h) (Or.inl ⟨by rfl, fun w' hw' => ?_⟩) (HCS.out _ (Below.refl _ _).drew) (fun inv => ?_)
  · obtain ⟨h0, h1, h2, h3, h4⟩ := hw'
    go_simp
  try simp only [Act.put, List.setIfInBounds_toArray, List.set_cons_zero, List.set_cons_succ]
  refine wpU_take (i := 1) (v := .slice wa wn wk) rfl inv (by kernel_rfl) (by kernel_rfl) (by decide) (by decide) (by kernel_rfl) (by kernel_rfl) (by kernel_rfl) (fun _ _ _ h => h) (Or.inl ⟨by rfl, fun w' hw' => ?_⟩) (HCS.out _ (Below.refl _ _).drew) (fun inv => ?_)
  · obtain ⟨h0, h1, h2, h3, h4⟩ := hw'
    go_simp
  try simp only [Act.put, List.setIfInBounds_toArray, List.set_cons_zero, List.set_cons_succ]
  refine wpU_take (i := 2) (v := .int .i64 (wn : Nat)) rfl inv (by kernel_rfl) (by kernel_rfl) (by decide) (by decide) (by kernel_rfl) (by kernel_rfl) (by kernel_rfl) (fun _ _ _ h => h) (Or.inl ⟨by rfl, fun w' hw' => ?_⟩) (HCS.out _ (Below.refl _ _).drew) (fun inv => ?_)
  · obtain ⟨h0, h1, h2, h3, h4⟩ := hw'
    go_simp
  try simp only [Act.put, List.setIfInBounds_toArray, List.set_cons_zero, List.set_cons_succ]
  refine wpU_take (i := 3) (v := .func (.func 39) #[] #[.pointer (some ⟨W.heap.size + 1 + 1, 0, none⟩), .pointer (some ⟨W.heap.size + 1, 0, none⟩)]) rfl inv (by kernel_rfl) (by kernel_rfl) (by decide) (by decide) (by kernel_rfl) (by kernel_rfl) (by kernel_rfl) (fun _ _ _ h => h) (Or.inl ⟨by rfl, fun w' hw' => ?_⟩) (HCS.out _ (Below.refl _ _).drew) (fun inv => ?_)
  · obtain ⟨h0, h1, h2, h3, h4⟩ := hw'
    go_simp
  try simp only [Act.put, List.setIfInBounds_toArray, List.set_cons_zero, List.set_cons_succ]
  refine wpU_take (i := 4) (v := .func (.func 40) #[] #[.pointer (some ⟨W.heap.size + 1 + 1, 0, none⟩)]) rfl inv (by kernel_rfl) (by kernel_rfl) (by decide) (by decide) (by kernel_rfl) (by kernel_rfl) (by kernel_rfl) (fun _ _ _ h => h) (Or.inl ⟨by rfl, fun w' hw' => ?_⟩) (HCS.out _ (Below.refl _ _).drew) (fun inv => ?_)
  · obtain ⟨h0, h1, h2, h3, h4⟩ := hw'
    go_simp
  try simp only [Act.put, List.setIfInBounds_toArray, List.set_cons_zero, List.set_cons_succ]
  refine wpU_take (i := 6) (v := .pointer (some ⟨W.heap.size, 0 + 2, none⟩)) rfl inv (by kernel_rfl) (by kernel_rfl) (by decide) (by decide) (by kernel_rfl) (by kernel_rfl) (by kernel_rfl) (fun _ _ _ h => h) (Or.inl ⟨by rfl, fun w' hw' => ?_⟩) (HCS.out _ (Below.refl _ _).drew) (fun inv => ?_)
  · obtain ⟨h0, h1, h2, h3, h4⟩ := hw'
    go_simp
  try simp only [Act.put, List.setIfInBounds_toArray, List.set_cons_zero, List.set_cons_succ]
  refine wpU_take (i := 7) (v := .int .i64 gs) rfl inv (by kernel_rfl) (by kernel_rfl) (by decide) (by decide) (by kernel_rfl) (by kernel_rfl) (by kernel_rfl) (fun _ _ _ h => h) (Or.inl ⟨by rfl, fun w' hw' => ?_⟩) (HCS.out _ (Below.refl _ _).drew) (fun inv => ?_)
  · obtain ⟨h0, h1, h2, h3, h4⟩ := hw'
    go_simp
  try simp only [Act.put, List.setIfInBounds_toArray, List.set_cons_zero, List.set_cons_succ]
  refine wpU_take (i := 8) (v := .agg #[.bool false, .int .i64 gs]) rfl inv (by kernel_rfl) (by kernel_rfl) (by decide) (by decide) (by kernel_rfl) (by kernel_rfl) (by kernel_rfl) (fun _ _ _ h => h) (Or.inl ⟨by rfl, fun w' hw' => ?_⟩) (HCS.out _ (Below.refl _ _).drew) (fun inv => ?_)
  · obtain ⟨h0, h1, h2, h3, h4⟩ := hw'
    go_simp
  try simp only [Act.put, List.setIfInBounds_toArray, List.set_cons_zero, List.set_cons_succ]
  refine wpU_take (i := 9) (v := .slice wa wn wk) rfl inv (by kernel_rfl) (by kernel_rfl) (by decide) (by decide) (by kernel_rfl) (by kernel_rfl) (by kernel_rfl) (fun _ _ _ h => h) (Or.inl ⟨by rfl, fun w' hw' => ?_⟩) (HCS.out _ (Below.refl _ _).drew) (fun inv => ?_)
  · obtain ⟨h0, h1, h2, h3, h4⟩ := hw'
    go_simp
  try simp only [Act.put, List.setIfInBounds_toArray, List.set_cons_zero, List.set_cons_succ]
  refine wpU_take (i := 10) (v := .int .i64 (wn : Nat)) rfl inv (by kernel_rfl) (by kernel_rfl) (by decide) (by decide) (by kernel_rfl) (by kernel_rfl) (by kernel_rfl) (fun _ _ _ h => h) (Or.inl ⟨by rfl, fun w' hw' => ?_⟩) (HCS.out _ (Below.refl _ _).drew) (fun inv => ?_)
  · obtain ⟨h0, h1, h2, h3, h4⟩ := hw'
    go_simp
  try simp only [Act.put, List.setIfInBounds_toArray, List.set_cons_zero, List.set_cons_succ]
  refine wpU_one (i := 5) (by kernel_rfl) rfl (fun K hK => ?_)
  replace inv := inv_setc (i := 5) inv (by kernel_rfl) (by decide)
  go_simp
  refine (HSO.out _ (Below.refl w0.heap.size w0).drew).mono ?_
  rintro e w1 ⟨T, rfl, hin, hcl, hsm⟩
  have HIN := Lib.hid hin
  have HCL := Lib.hid hcl
  have HSM := Lib.hid hsm
  have HB1 : Hid (Below w0.heap.size w0 w1) := (Below.refl w0.heap.size w0).drew.trans hsm.bel
  clear hin hcl hsm
  refine hK.out _ _ (fun _ => HCS.out _ HB1.out) ?_
  clear hK K
  try simp only [Act.put, List.setIfInBounds_toArray, List.set_cons_zero, List.set_cons_succ]
  refine wpU_one (i := 11) (by kernel_rfl) rfl (fun K hK => ?_)
  go_simp
  refine (HOF.out T _ _ (Below.refl w0.heap.size w0).drew HSM.out).mono ?_
  rintro e w2 ⟨x, rfl, hv, hb2⟩
  obtain ⟨a1, m1, k1, rfl, hrd⟩ := vr_form hv
  have HB2 : Hid (Below w0.heap.size w0 w2) := HB1.out.trans (hb2.mono HB1.out.size)
  have HRD := Lib.hid hrd
  have HZZ : Hid (True) := trivial
  have HZ2 := Lib.hid (bx_keep HZ0.out HB2.out)
  clear hv hb2 hrd
  refine hK.out _ _ (fun h => absurd (show true = false from h) (by decide)) ?_
  clear hK K
  try simp only [Act.put, List.setIfInBounds_toArray, List.set_cons_zero, List.set_cons_succ]
  refine wpU_one (i := 12) (by kernel_rfl) rfl (fun K hK => ?_)
  obtain ⟨f0, f1, f2, f3⟩ := bx_free4 HZ2.out
  obtain ⟨z0, z1, z2, z3⟩ := bx_cells4 HZ2.out
  go_simp
  refine hK.out _ _ (fun h => absurd (show true = false from h) (by decide)) ?_
  clear hK K
  try simp only [Act.put, List.setIfInBounds_toArray, List.set_cons_zero, List.set_cons_succ]
  refine wpU_done (by kernel_rfl) ?_ _
  obtain ⟨o, HO⟩ := nameIt (nearOf c w T gs)
  rw [HO.out] at HRD
  rw [HO.out]
  obtain ⟨z0, z1, z2, z3⟩ := bx_cells4 HZ2.out
  have hg := grown_cell4 w2 (W.heap.size + 1 + 1 + 1) (.bool o.isSome) (.int .i64 (oC o)) (.int .i64 (oN o)) (.slice a1 m1 k1)
  have hb2 := HB0.out.trans (HB2.out.mono HB0.out.size)
  have hsz := HSZ.out
  have HE : Hid (PST (.returned (.agg #[.bool o.isSome, .int .i64 (oC o), .int .i64 (oN o), .slice a1 m1 k1])) ((((w2.setCell ⟨W.heap.size + 1 + 1 + 1, 0, none⟩ (.bool o.isSome)).setCell ⟨W.heap.size + 1 + 1 + 1, 0 + 1, none⟩ (.int .i64 (oC o))).setCell ⟨W.heap.size + 1 + 1 + 1, 0 + 2, none⟩ (.int .i64 (oN o))).setCell ⟨W.heap.size + 1 + 1 + 1, 0 + 3, none⟩ (.slice a1 m1 k1))) := by
    show PST _ _
    rw [← HP.out]
    refine ⟨T, _, rfl, HIN.out, HCL.out, ⟨.slice a1 m1 k1, ?_, ?_⟩, hb2.grown hg hb2.size ?_⟩
    · rw [HO.out]
    · rw [HO.out]
      refine (rd_grown HRD.out hg ?_).mono (fun k hk _ => by
        have h2 : w0.heap.size ≤ k := hk
        show W.heap.size ≤ k
        omega)
      intro k e h
      cases e
      have h2 : w0.heap.size ≤ W.heap.size + 1 + 1 + 1 := h
      omega
    · intro k e
      cases e
      omega
  clear hg hb2 hsz
  go_wp2_with fail
  exact bodyPost_ret (v := .agg #[.bool o.isSome, .int .i64 (oC o), .int .i64 (oN o), .slice a1 m1 k1]) (by simp [results, Try.results13, go_sem, z0, z1, z2, z3]) rfl HE.out
end Rp
end Go.Proofs.Ytjpmebppdcclbaa
namespace Go.Proofs.Ytjpmebppdcclbaa
open Go.RowKit
namespace Rp
open Al

section
variable {c : Co} {w : List Int} {n N tm : Nat} {K : List Rule}
theorem closed_one {T T' : Tb} (h : CF c w n N tm K T) (hcl : ClosedT K (leafR c w) (emR c) n T) (h' : CF c w n N tm K T') (hcl' : ClosedT K (leafR c w) (emR c) n T') (st : Int) {i j : Nat} (hij : i ≤ j) (hj : j ≤ n) : T st i j = T' st i j := by
  have := table_one (K := K) (leaf := leafC c w n) (em := emC c n) (V := VT c w n T) (V' := VT c w n T') wfLeaf wfEm (sound_T h) (closed_T (cf_wfT h) hcl) (sound_T h') (closed_T (cf_wfT h') hcl') ⟨false, st⟩ i j
  rw [vt_left hij hj, vt_left hij hj] at this
  exact this
end
noncomputable def theVal (c : Co) (w : List Int) (N tm : Nat) (K : List Rule) (st : Int) : Option Val :=
  @dite _ (∃ T, CF c w w.length N tm K T ∧ ClosedT K (leafR c w) (emR c) w.length T) (Classical.propDecidable _) (fun h => h.choose st 0 w.length) (fun _ => none)
theorem theVal_eq {c : Co} {w : List Int} {N tm : Nat} {K : List Rule} {T : Tb} (h : CF c w w.length N tm K T) (hcl : ClosedT K (leafR c w) (emR c) w.length T) (st : Int) : T st 0 w.length = theVal c w N tm K st := by
  have hex : ∃ T, CF c w w.length N tm K T ∧ ClosedT K (leafR c w) (emR c) w.length T := ⟨T, h, hcl⟩
  unfold theVal
  rw [dif_pos hex]
  exact closed_one h hcl hex.choose_spec.1 hex.choose_spec.2 st (Nat.zero_le _) (Nat.le_refl _)
theorem theVal_wf {c : Co} {w : List Int} {N tm : Nat} {K : List Rule} {st : Int} : WfO (theVal c w N tm K st) := by
  intro v e
  unfold theVal at e
  by_cases hex : ∃ T, CF c w w.length N tm K T ∧ ClosedT K (leafR c w) (emR c) w.length T
  · rw [dif_pos hex] at e
    exact cf_wfT hex.choose_spec.1 _ _ _ v e
  · rw [dif_neg hex] at e; cases e
/-- what is known of a valid grammar -/
theorem kok_of {g : Gram} (h : checkG g = 0) : ∃ N tm st : Nat, g.nons = (N : Int) ∧ N ≤ 10 ∧ g.terms = (tm : Int) ∧ g.start = (st : Int) ∧ st < N ∧ KOk N tm g.rules := by
  obtain ⟨⟨h1, h2, h3, h4, h5, h6⟩, _, h7⟩ := checkG_zero h
  refine ⟨g.nons.toNat, g.terms.toNat, g.start.toNat, by omega, by omega, by omega, by omega, by omega, fun r hr => ?_⟩
  obtain ⟨q1, q2, q3, q4⟩ := h7 r hr
  refine ⟨q1, by omega, q3, fun s hs => ?_⟩
  have := q4 s hs
  unfold hasS at this
  unfold okS
  cases ht : s.term with
  | true =>
    rw [ht] at this
    simp at this
    exact ⟨this.1, fun _ => by omega, fun e => by cases e⟩
  | false =>
    rw [ht] at this
    simp at this
    exact ⟨this.1, (fun e => by cases e), fun _ => by omega⟩
theorem Mf10 {N : Nat} (h : N ≤ 10) : Mf N + 12 ≤ 288230376151711744 := by
  have := Mf_le h
  have e : Mf 10 ≤ 2000000000 := by decide
  omega
theorem nearOk (g : Gram) (c : Co) (hc : c.ok) (w : List Int) (hw : w.length ≤ 12) (N tm st : Nat) (hN : g.nons = (N : Int)) (hN1 : N ≤ 10) (htm : g.terms = (tm : Int)) (htm1 : tm ≤ 100) (hst : g.start = (st : Int)) (hsN : st < N) (hK : KOk N tm g.rules) (gr : Value) (W : World) (hgr : Rd AnyB W (.sl (g.rules.map Rule.d)) [gr]) (wv : Value) (hwv : Sl W wv (ints w)) :
    Calls Try.prog 13 #[.agg #[.int .i64 g.terms, .int .i64 g.nons, .int .i64 g.start, gr], wv, .agg #[.int .i64 (c.c0 : Int), .int .i64 (c.c1 : Int), .int .i64 (c.c2 : Int)]] W fun e w' =>
      ∃ x, e = .returned x ∧ VR (fun k => W.heap.size ≤ k) w' x (theVal c w N tm g.rules (st : Int)) ∧ Below W.heap.size W w' := by
  have hok : ∀ s, okS N tm s → okN s.n := fun s hs => by
    obtain ⟨h1, h2, h3⟩ := hs
    cases ht : s.term with
    | true => have := h2 ht; exact ⟨h1, by omega⟩
    | false => have := h3 ht; exact ⟨h1, by omega⟩
  refine (nearE c hc w hw (Mf N + 12) (Mf10 hN1) g.rules g.terms g.nons g.start gr W hgr (fun r hr => by
    obtain ⟨h1, h2, h3, h4⟩ := hK r hr
    exact ⟨⟨h1, by omega⟩, h3, fun s hs => hok s (h4 s hs)⟩) (by rw [hst]; exact ⟨by omega, by omega⟩) wv hwv _ _ (planS hc hw hK _)).mono ?_
  rintro e w' ⟨T, x, h1, h2, h3, h4, h5⟩
  refine ⟨x, h1, ?_, h5⟩
  unfold nearOf at h4
  rw [of_leafR] at h4
  have e2 := theVal_eq h2.1 h3 (st : Int)
  rw [← e2, ← hst]
  simpa using h4
theorem bestOk (g : Gram) (hck : checkG g = 0) (c : Co) (hc : c.ok) (w : List Int) (hw : w.length ≤ 12) (hwe : wordErr g.terms w 12 = 0) (N tm st : Nat) (hN : g.nons = (N : Int)) (hN1 : N ≤ 10) (hst : g.start = (st : Int)) (hsN : st < N) (hK : KOk N tm g.rules) (ga : Option Addr) (gk : Nat) (wa : Option Addr) (wk : Nat) (W : World) (hgr : Rd AnyB W (.sl (g.rules.map Rule.d)) [.slice ga g.rules.length gk]) (hwv : Sl W (.slice wa w.length wk) (ints w)) :
    Calls Try.prog 7 #[.agg #[.int .i64 g.terms, .int .i64 g.nons, .int .i64 g.start, .slice ga g.rules.length gk], .slice wa w.length wk, .agg #[.int .i64 (c.c0 : Int), .int .i64 (c.c1 : Int), .int .i64 (c.c2 : Int)]] W fun e w' => BestPost (theVal c w N tm g.rules (st : Int)) W e w' := by
  refine (bestE g c hc w hw hck hwe N hN hN1 st hst hsN (fun r hr => by
    obtain ⟨h1, h2, h3, h4⟩ := hK r hr
    exact ⟨h1, h2, h3, fun s hs ht => ⟨(h4 s hs).1, (h4 s hs).2.2 ht⟩⟩) (Mf N + 12) (Mf10 hN1) _ _ (plan2 hc hw hK _) ga gk wa wk W hgr hwv).mono ?_
  rintro e w' ⟨T, h1, h2, h3⟩
  rw [← theVal_eq h1.1 (closed_R h1.1 h2) (st : Int)]
  exact h3
end Rp
end Go.Proofs.Ytjpmebppdcclbaa
namespace Go.Proofs.Ytjpmebppdcclbaa
open Go.RowKit
namespace Rp

theorem rd_block {S : Nat → Prop} {w : World} {b : Nat} {cs : Array Value} {T : TypeId} {ds : List D} (hb : w.heap[b]? = some (.cells cs T (0, 0))) (hr : RdAll S w ds cs.toList) (hS : S b) (hl : ds.length ≤ maxLen) : Rd S w (.sl ds) [.slice (some ⟨b, 0, none⟩) ds.length ds.length] := by
  refine ⟨some ⟨b, 0, none⟩, ds.length, cs.toList, rfl, Nat.le_refl _, hl, (fun e => by cases e), fun i hi => ⟨⟨b, 0, none⟩, rfl, hS, ?_⟩, hr⟩
  rw [add_at]
  have hi' : i < cs.size := by simpa using hi
  simp [World.cell?, hb, hi']
theorem syms_lit {w : World} (l : List Sym) (cs : List Value) (h : cs = l.flatMap fun s => [.bool s.term, .int .i64 s.n]) : RdAll AnyB w (l.map Sym.d) cs := by
  subst h
  induction l with
  | nil => simp [RdAll]
  | cons s l ih => exact ⟨[.bool s.term, .int .i64 s.n], _, rfl, rd_sym s, ih⟩
theorem six (W : World) (A B C D E F : Obj) : (((((((W.alloc A).alloc B).alloc C).alloc D).alloc E).alloc F).heap[W.heap.size + 1 + 1 + 1]? = some D) ∧ (((((((W.alloc A).alloc B).alloc C).alloc D).alloc E).alloc F).heap[W.heap.size + 1 + 1 + 1 + 1]? = some E) ∧ (((((((W.alloc A).alloc B).alloc C).alloc D).alloc E).alloc F).heap[W.heap.size + 1 + 1 + 1 + 1 + 1]? = some F) ∧ Below W.heap.size W ((((((W.alloc A).alloc B).alloc C).alloc D).alloc E).alloc F) := by
  have al : ∀ (w : World) (o : Obj), Below w.heap.size w (w.alloc o) := fun w o => (Below.refl _ _).alloc (Nat.le_refl _) _
  have h3 := bx_new (((W.alloc A).alloc B).alloc C) D (W.heap.size + 1 + 1 + 1) (by simp)
  have h4 := bx_new ((((W.alloc A).alloc B).alloc C).alloc D) E (W.heap.size + 1 + 1 + 1 + 1) (by simp)
  have h5 := bx_new (((((W.alloc A).alloc B).alloc C).alloc D).alloc E) F (W.heap.size + 1 + 1 + 1 + 1 + 1) (by simp)
  exact ⟨bx_keep (bx_keep h3 (al _ _)) (al _ _), bx_keep h4 (al _ _), h5, ((((((Below.refl W.heap.size W).alloc (Nat.le_refl _) _).alloc (by simp) _).alloc (by simp; omega) _).alloc (by simp; omega) _).alloc (by simp; omega) _).alloc (by simp; omega) _⟩
set_option maxHeartbeats 1000000 in
theorem pairsE (W : World) : Calls Try.prog 8 #[] W fun e w' => ∃ a k, e = .returned (.agg #[.int .i64 2, .int .i64 1, .int .i64 0, .slice a 2 k]) ∧ Rd AnyB w' (.sl (pK.map Rule.d)) [.slice a 2 k] ∧ Below W.heap.size W w' := by
  go_enter Try.func8, Try.ntmps8
  go_wp2
  refine bodyPost_ret (v := .agg #[.int .i64 2, .int .i64 1, .int .i64 0, .slice (some ⟨W.heap.size + 1 + 1 + 1 + 1 + 1, 0, none⟩) 2 2]) (by simp [results, Try.results8, go_sem]) rfl ?_
  obtain ⟨h3, h4, h5, hb⟩ := six W (.cells #[.int .i64 2, .int .i64 1, .int .i64 0, .slice (some ⟨W.heap.size + 1 + 1 + 1 + 1 + 1, 0, none⟩) 2 2] 24) (.cells #[.bool true, .int .i64 0] 44) (.cells #[.bool true, .int .i64 1] 44) (.cells #[.bool true, .int .i64 0, .bool false, .int .i64 0, .bool true, .int .i64 1] 44) (.cells #[.bool true, .int .i64 0, .bool true, .int .i64 1] 44) (.cells #[.int .i64 0, .slice (some ⟨W.heap.size + 1 + 1 + 1, 0, none⟩) 3 3, .int .i64 0, .slice (some ⟨W.heap.size + 1 + 1 + 1 + 1, 0, none⟩) 2 2] 69)
  refine ⟨_, _, rfl, rd_block (ds := pK.map Rule.d) h5 ?_ trivial (by simp [pK, maxLen]), hb⟩
  refine ⟨[.int .i64 0, .slice (some ⟨W.heap.size + 1 + 1 + 1, 0, none⟩) 3 3], [.int .i64 0, .slice (some ⟨W.heap.size + 1 + 1 + 1 + 1, 0, none⟩) 2 2], rfl, rd_rule (r := ⟨0, [⟨true, 0⟩, ⟨false, 0⟩, ⟨true, 1⟩]⟩) ?_, RdAll.one (rd_rule (r := ⟨0, [⟨true, 0⟩, ⟨true, 1⟩]⟩) ?_)⟩
  · exact rd_block (ds := [⟨true, 0⟩, ⟨false, 0⟩, ⟨true, 1⟩].map Sym.d) h3 (syms_lit [⟨true, 0⟩, ⟨false, 0⟩, ⟨true, 1⟩] _ rfl) trivial (by simp [maxLen])
  · exact rd_block (ds := [⟨true, 0⟩, ⟨true, 1⟩].map Sym.d) h4 (syms_lit [⟨true, 0⟩, ⟨true, 1⟩] _ rfl) trivial (by simp [maxLen])
end Rp
end Go.Proofs.Ytjpmebppdcclbaa
namespace Go.Proofs.Ytjpmebppdcclbaa
open Go.RowKit
namespace Rp
open Al

/-- the grammar of the fixed call -/
def pG : Gram := ⟨2, 1, 0, pK⟩
theorem pG_ok : checkG pG = 0 := by decide
theorem pKOk : KOk 1 2 pG.rules := by
  obtain ⟨N, tm, st, h1, _, h2, _, _, h3⟩ := kok_of pG_ok
  have e1 : N = 1 := by have : (1 : Int) = N := h1; omega
  have e2 : tm = 2 := by have : (2 : Int) = tm := h2; omega
  subst e1 e2
  exact h3
set_option maxHeartbeats 4000000 in
set_option maxRecDepth 100000 in
theorem lawRB (g : Gram) (u0 : Value) (l : List Int) (v1 : Value) (c0 c1 c2 : Int) (W : World) (hr : Rd AnyB W (.sl (g.rules.map Rule.d)) [u0]) (hs : Sl W v1 (ints l)) :
    Calls Try.prog 3 #[.agg #[.int .i64 g.terms, .int .i64 g.nons, .int .i64 g.start, u0], v1, .agg #[.int .i64 c0, .int .i64 c1, .int .i64 c2]] W fun e w' => e = .returned (.bool true) ∧ Below W.heap.size W w' := by
  obtain ⟨ga, gk, rfl, hgc1, hgc2⟩ := hr.form
  rw [List.length_map] at hr hgc1 ⊢
  obtain ⟨wa, wk, rfl⟩ := hs.form
  rw [ints_len] at hs ⊢
  obtain ⟨PST, HP⟩ := nameIt (fun (e : Ending) (w' : World) => e = .returned (.bool true) ∧ Below W.heap.size W w')
  have HFIN : Hid (∀ w', Below W.heap.size W w' → PST (.returned (.bool true)) w') := by
    intro w' h; rw [← HP.out]; exact ⟨rfl, h⟩
  rw [HP.out]
  obtain ⟨w0, HW0⟩ := nameIt ((W.alloc (.cells #[.int .i64 g.terms, .int .i64 g.nons, .int .i64 g.start, .slice ga g.rules.length gk] 24)).alloc (.cells #[.int .i64 c0, .int .i64 c1, .int .i64 c2] 26))
  have hw0 : Below W.heap.size W w0 := by
    rw [← HW0.out]
    exact ((Below.refl _ _).alloc (Nat.le_refl _) _).alloc (by simp) _
  have HG0 : Hid (w0.heap[W.heap.size]? = some (.cells #[.int .i64 g.terms, .int .i64 g.nons, .int .i64 g.start, .slice ga g.rules.length gk] 24 (0, 0))) := by
    rw [← HW0.out]; exact bx_keep (bx_new _ _ _ rfl) ((Below.refl _ _).alloc (Nat.le_refl _) _)
  have HC0 : Hid (w0.heap[W.heap.size + 1]? = some (.cells #[.int .i64 c0, .int .i64 c1, .int .i64 c2] 26 (0, 0))) := by
    rw [← HW0.out]; exact bx_new _ _ _ (by simp)
  have HB0 := Lib.hid hw0
  have HPB : Hid (∀ a k W', Rd AnyB W' (.sl (pK.map Rule.d)) [.slice a 2 k] → Calls Try.prog 7 #[.agg #[.int .i64 2, .int .i64 1, .int .i64 0, .slice a 2 k], .slice (some ⟨W'.heap.size, 0, none⟩) 3 3, .agg #[.int .i64 1, .int .i64 1, .int .i64 1]] (W'.alloc (.cells #[.int .i64 0, .int .i64 0, .int .i64 1] 3)) fun e w' => ∃ v, e = .returned (.tuple #[.int .i64 1, v, .int .i64 0]) ∧ Sl w' v (ints [0, 1]) ∧ Below W'.heap.size W' w') := by
    intro a k W' hrd
    have hal : Below W'.heap.size W' (W'.alloc (.cells #[.int .i64 0, .int .i64 0, .int .i64 1] 3)) := (Below.refl _ _).alloc (Nat.le_refl _) _
    refine (bestE pG pC (by unfold Co.ok pC; decide) pW (by decide) pG_ok (by decide) 1 rfl (by decide) 0 rfl (by decide) (fun r hr => by
      obtain ⟨h1, h2, h3, h4⟩ := pKOk r hr
      exact ⟨h1, h2, h3, fun s hs ht => ⟨(h4 s hs).1, (h4 s hs).2.2 ht⟩⟩) (Mf 1 + 12) (Mf10 (by decide)) _ _ (plan2 (by unfold Co.ok pC; decide) (by decide) pKOk _) a k (some ⟨W'.heap.size, 0, none⟩) 3 (W'.alloc (.cells #[.int .i64 0, .int .i64 0, .int .i64 1] 3)) (hrd.below hal) (sl_lit (w := W') (v := #[.int .i64 0, .int .i64 0, .int .i64 1]) rfl (by simp [maxLen]))).mono ?_
    rintro e w' ⟨T, h1, h2, n, v, z, h3, h4, h5⟩
    have hv := pairs_val h1.1 (closed_R h1.1 h2)
    have e2 : T ((0 : Nat) : Int) 0 pW.length = some pV := hv
    rw [e2] at h5
    simp only [pV] at h5
    obtain ⟨h6, h7, h8⟩ := h5
    subst h6 h8
    exact ⟨v, h3, h7, hal.trans (h4.mono hal.size)⟩
  have HGR := Lib.hid hr
  have HSL := Lib.hid hs
  have HCK : Hid (∀ W', Below w0.heap.size w0 W' → Calls Try.prog 10 #[.agg #[.int .i64 g.terms, .int .i64 g.nons, .int .i64 g.start, .slice ga g.rules.length gk]] W' fun e w' => e = .returned (.int .i64 (checkG g)) ∧ Below W'.heap.size W' w') := fun W' hb => checkE g ga gk W' (hr.below (hw0.trans (hb.mono hw0.size)))
  have HWD : Hid (∀ W', Below w0.heap.size w0 W' → Calls Try.prog 11 #[.agg #[.int .i64 g.terms, .int .i64 g.nons, .int .i64 g.start, .slice ga g.rules.length gk], .slice wa l.length wk, .int .i64 12] W' fun e w' => e = .returned (.int .i64 (wordErr g.terms l 12)) ∧ Below W'.heap.size W' w') := fun W' hb => wordE g (.slice ga g.rules.length gk) l l.length 12 rfl (by decide) wa wk W' (hs.keep (hw0.trans (hb.mono hw0.size)))
  have HBD : Hid (bestErr g l c0 c1 c2 ≠ 0 → ∀ W', Below w0.heap.size w0 W' → Calls Try.prog 7 #[.agg #[.int .i64 g.terms, .int .i64 g.nons, .int .i64 g.start, .slice ga g.rules.length gk], .slice wa l.length wk, .agg #[.int .i64 c0, .int .i64 c1, .int .i64 c2]] W' fun e w' => e = .returned (.tuple #[.int .i64 0, .slice none 0 0, .int .i64 (bestErr g l c0 c1 c2)]) ∧ Below W'.heap.size W' w') := fun h W' hb => bestBad g c0 c1 c2 l h ga gk wa wk W' (hr.below (hw0.trans (hb.mono hw0.size))) (hs.keep (hw0.trans (hb.mono hw0.size)))
  have HOKB : Hid (bestErr g l c0 c1 c2 = 0 → ∃ o, WfO o ∧ (∀ W', Below w0.heap.size w0 W' → Calls Try.prog 7 #[.agg #[.int .i64 g.terms, .int .i64 g.nons, .int .i64 g.start, .slice ga g.rules.length gk], .slice wa l.length wk, .agg #[.int .i64 c0, .int .i64 c1, .int .i64 c2]] W' fun e w' => BestPost o W' e w') ∧
      (∀ W', Below w0.heap.size w0 W' → Calls Try.prog 13 #[.agg #[.int .i64 g.terms, .int .i64 g.nons, .int .i64 g.start, .slice ga g.rules.length gk], .slice wa l.length wk, .agg #[.int .i64 c0, .int .i64 c1, .int .i64 c2]] W' fun e w' => ∃ x, e = .returned x ∧ VR (fun k => W'.heap.size ≤ k) w' x o ∧ Below W'.heap.size W' w')) := by
    intro h
    unfold bestErr at h
    by_cases h1 : checkG g = 0
    · rw [if_neg (by simpa using h1)] at h
      by_cases h2 : wordErr g.terms l 12 = 0
      · rw [if_neg (by simpa using h2)] at h
        have h3 : [c0, c1, c2].any badC = false := by
          cases e : [c0, c1, c2].any badC with
          | false => rfl
          | true => rw [e] at h; simp at h
        obtain ⟨q1, q2, q3, q4, q5, q6⟩ := good_c h3
        obtain ⟨N, tm, st, k1, k2, k3, k4, k5, k6⟩ := kok_of h1
        have hlen : l.length ≤ 12 := by
          unfold wordErr at h2
          by_cases h4 : 12 < l.length
          · rw [if_pos h4] at h2; simp at h2
          · omega
        have htm : tm ≤ 100 := by
          obtain ⟨⟨_, h5, _⟩, _⟩ := checkG_zero h1
          omega
        obtain ⟨d0, rfl⟩ : ∃ d : Nat, c0 = (d : Int) := ⟨c0.toNat, by omega⟩
        obtain ⟨d1, rfl⟩ : ∃ d : Nat, c1 = (d : Int) := ⟨c1.toNat, by omega⟩
        obtain ⟨d2, rfl⟩ : ∃ d : Nat, c2 = (d : Int) := ⟨c2.toNat, by omega⟩
        have hco : Co.ok ⟨d0, d1, d2⟩ := ⟨by show 1 ≤ d0; omega, by show d0 ≤ 100; omega, by show 1 ≤ d1; omega, by show d1 ≤ 100; omega, by show 1 ≤ d2; omega, by show d2 ≤ 100; omega⟩
        refine ⟨theVal ⟨d0, d1, d2⟩ l N tm g.rules (st : Int), theVal_wf, fun W' hb => ?_, fun W' hb => ?_⟩
        · exact bestOk g h1 ⟨d0, d1, d2⟩ hco l hlen h2 N tm st k1 k2 k4 k5 k6 ga gk wa wk W' (hr.below (hw0.trans (hb.mono hw0.size))) (hs.keep (hw0.trans (hb.mono hw0.size)))
        · exact nearOk g ⟨d0, d1, d2⟩ hco l hlen N tm st k1 k2 k3 htm k4 k5 k6 _ W' (hr.below (hw0.trans (hb.mono hw0.size))) _ (hs.keep (hw0.trans (hb.mono hw0.size)))
      · rw [if_pos (by simpa using h2)] at h; exact absurd h h2
    · rw [if_pos (by simpa using h1)] at h; exact absurd h h1
  obtain ⟨n, HNN⟩ := nameIt l.length
  obtain ⟨gt, HGT⟩ := nameIt g.terms
  obtain ⟨gn, HGN⟩ := nameIt g.nons
  obtain ⟨gs, HGS⟩ := nameIt g.start
  obtain ⟨kn, HKN⟩ := nameIt g.rules.length
  obtain ⟨z1, HZ1⟩ := nameIt (checkG g)
  obtain ⟨z2, HZ2⟩ := nameIt (wordErr g.terms l 12)
  obtain ⟨z3, HZ3⟩ := nameIt ([c0, c1, c2].any badC)
  obtain ⟨z, HZ⟩ := nameIt (bestErr g l c0 c1 c2)
  have HZZ : Hid ((if z1 ≠ 0 then z1 else if z2 ≠ 0 then z2 else if z3 then 1 else 0) = z) := by
    show _ = _
    rw [← HZ.out, ← HZ1.out, ← HZ2.out, ← HZ3.out]; rfl
  have HCO : Hid (∀ W', Calls Try.prog 12 #[.agg #[.int .i64 c0, .int .i64 c1, .int .i64 c2]] W' fun e w' => e = .returned (.bool (!z3)) ∧ Below W'.heap.size W' w') := fun W' => by
    have := costsE c0 c1 c2 W'
    rw [HZ3.out] at this
    exact this
  rw [HZ2.out] at HWD
  rw [HZ1.out, HGT.out, HGN.out, HGS.out, HKN.out] at HCK
  rw [HGT.out, HGN.out, HGS.out, HKN.out, HNN.out] at HWD
  rw [HZ.out, HGT.out, HGN.out, HGS.out, HKN.out, HNN.out] at HBD HOKB
  rw [HGT.out, HGN.out, HGS.out, HKN.out] at HG0 HW0
  rw [HGT.out, HGN.out, HGS.out, HKN.out, HNN.out]
  clear hw0 HP hr hs HGR HSL HZ
  go_enter Try.func3, Try.ntmps3
  go_upto_region 1 with fail
  rw [HW0.out]
  clear HW0
  go_wp2_with fail
  refine (pairsE w0).mono ?_
  rintro e w1 ⟨a, k, rfl, hrd, hb1⟩
  have HB1 := Lib.hid hb1
  have HRD := Lib.hid hrd
  clear hb1 hrd
  go_wp2_with fail
  refine (HPB.out a k w1 HRD.out).mono ?_
  rintro e w2 ⟨v, rfl, hsv, hb2⟩
  have HB2 := Lib.hid (HB1.out.trans (hb2.mono HB1.out.size))
  obtain ⟨va, vk, hvf⟩ := hsv.form
  subst hvf
  have heq := equal _ _ [0, 1] [0, 1] (w2.alloc (.cells #[.int .i64 0, .int .i64 1] 3)) (hsv.keep ((Below.refl _ _).alloc (Nat.le_refl _) _)) (sl_lit (w := w2) (v := #[.int .i64 0, .int .i64 1]) rfl (by simp [maxLen]))
  have HEQ := Lib.hid heq
  clear hb2 hsv heq
  go_wp2_with fail
  refine HEQ.out.mono ?_
  rintro e w3 ⟨rfl, hb3⟩
  rw [show ([(0 : Int), 1] == [0, 1]) = true from rfl]
  have hal2 : Below w2.heap.size w2 (w2.alloc (.cells #[.int .i64 0, .int .i64 1] 3)) := (Below.refl _ _).alloc (Nat.le_refl _) _
  have HB3 := Lib.hid (HB2.out.trans ((hal2.trans (hb3.mono hal2.size)).mono HB2.out.size))
  obtain ⟨x0, x1, x2, x3⟩ := bx_cells4 (bx_keep HG0.out HB3.out)
  clear hb3 hal2 HEQ
  go_wp2_with fail
  refine (HCK.out w3 HB3.out).mono ?_
  rintro e w4 ⟨rfl, hb4⟩
  have HB4 := Lib.hid (HB3.out.trans (hb4.mono HB3.out.size))
  obtain ⟨x0, x1, x2, x3⟩ := bx_cells4 (bx_keep HG0.out HB4.out)
  clear hb4
  by_cases e1 : z1 = 0
  · subst e1
    go_wp2_with fail
    refine (HWD.out w4 HB4.out).mono ?_
    rintro e w5 ⟨rfl, hb5⟩
    have HB5 := Lib.hid (HB4.out.trans (hb5.mono HB4.out.size))
    obtain ⟨y0, y1, y2⟩ := bx_cells3 (bx_keep HC0.out HB5.out)
    clear hb5
    by_cases e2 : z2 = 0
    · subst e2
      go_wp2_with fail
      refine (HCO.out w5).mono ?_
      rintro e w6 ⟨rfl, hb6⟩
      have HB6 := Lib.hid (HB5.out.trans (hb6.mono HB5.out.size))
      clear hb6
      cases z3 with
      | true =>
        have hz : z = 1 := by rw [← HZZ.out]; rfl
        subst hz
        have HBZ := Lib.hid (HBD.out (by decide))
        obtain ⟨wA, HWA⟩ := nameIt (w6.alloc (.cells #[.bool false, .int .i64 0, .int .i64 0, .slice none 0 0] 36))
        have hwA : Below w6.heap.size w6 wA := by rw [← HWA.out]; exact (Below.refl _ _).alloc (Nat.le_refl _) _
        have HBA := Lib.hid (HB6.out.trans (hwA.mono HB6.out.size))
        obtain ⟨x0, x1, x2, x3⟩ := bx_cells4 (bx_keep HG0.out HBA.out)
        obtain ⟨y0, y1, y2⟩ := bx_cells3 (bx_keep HC0.out HBA.out)
        clear hwA
        go_upto_region 16 with fail
        rw [HWA.out]
        clear HWA
        go_wp2_with fail
        refine (HBZ.out wA HBA.out).mono ?_
        rintro e w7 ⟨rfl, hb7⟩
        have HE := Lib.hid (HFIN.out w7 (HB0.out.trans ((HBA.out.trans (hb7.mono HBA.out.size)).mono HB0.out.size)))
        go_wp2_with fail
        exact HE.out
      | false =>
        have hz : z = 0 := by rw [← HZZ.out]; rfl
        subst hz
        obtain ⟨o, hwo, hbest, hnear⟩ := HOKB.out rfl
        have HBE := Lib.hid hbest
        have HNE := Lib.hid hnear
        clear hbest hnear
        obtain ⟨wA, HWA⟩ := nameIt (w6.alloc (.cells #[.bool false, .int .i64 0, .int .i64 0, .slice none 0 0] 36))
        have hwA : Below w6.heap.size w6 wA := by rw [← HWA.out]; exact (Below.refl _ _).alloc (Nat.le_refl _) _
        have HZA : Hid (wA.heap[w6.heap.size]? = some (.cells #[.bool false, .int .i64 0, .int .i64 0, .slice none 0 0] 36 (0, 0))) := by rw [← HWA.out]; exact bx_new _ _ _ rfl
        have HBA := Lib.hid (HB6.out.trans (hwA.mono HB6.out.size))
        obtain ⟨x0, x1, x2, x3⟩ := bx_cells4 (bx_keep HG0.out HBA.out)
        obtain ⟨y0, y1, y2⟩ := bx_cells3 (bx_keep HC0.out HBA.out)
        have hlA : w6.heap.size < wA.heap.size := (Array.getElem?_eq_some_iff.1 HZA.out).1
        have hl6 := HB6.out.size
        obtain ⟨b11, HB11⟩ := nameIt w6.heap.size
        rw [HB11.out] at HZA hlA hl6
        clear hwA
        go_upto_region 11 with fail
        rw [HWA.out, HB11.out]
        clear HWA HB11
        go_wp2_with fail
        refine (HNE.out wA HBA.out).mono ?_
        rintro e w7 ⟨x, rfl, hv, hb7⟩
        obtain ⟨a1, m1, k1, rfl, hrd⟩ := vr_form hv
        have HB7 := Lib.hid (HBA.out.trans (hb7.mono HBA.out.size))
        have HZ7 := Lib.hid (bx_keep HZA.out hb7)
        have hg := grown_cell4 w7 b11 (.bool o.isSome) (.int .i64 (oC o)) (.int .i64 (oN o)) (.slice a1 m1 k1)
        have hset := set4 HZ7.out (.bool o.isSome) (.int .i64 (oC o)) (.int .i64 (oN o)) (.slice a1 m1 k1)
        have hb8 := HB7.out.grown hg HB7.out.size (fun k e => by cases e; exact hl6)
        have hrd8 := rd_grown hrd hg (fun k e h => by cases e; have h2 : wA.heap.size ≤ b11 := h; omega)
        obtain ⟨z0, z1, z2, z3⟩ := bx_cells4 HZ7.out
        obtain ⟨f0, f1, f2, f3⟩ := bx_free4 HZ7.out
        obtain ⟨w8, HW8⟩ := nameIt ((((w7.setCell ⟨b11, 0, none⟩ (.bool o.isSome)).setCell ⟨b11, 0 + 1, none⟩ (.int .i64 (oC o))).setCell ⟨b11, 0 + 2, none⟩ (.int .i64 (oN o))).setCell ⟨b11, 0 + 3, none⟩ (.slice a1 m1 k1))
        rw [HW8.out] at hset hb8 hrd8
        have HX8 := Lib.hid hset
        have HB8 := Lib.hid hb8
        have HRD8 := Lib.hid hrd8
        clear hv hb7 hg hset hb8 hrd8 hrd
        go_upto_region 12 with fail
        simp only [Nat.zero_add] at HW8
        rw [HW8.out]
        clear HW8 z0 z1 z2 z3 f0 f1 f2 f3
        obtain ⟨z0, z1, z2, z3⟩ := bx_cells4 HX8.out
        obtain ⟨x0, x1, x2, x3⟩ := bx_cells4 (bx_keep HG0.out HB8.out)
        obtain ⟨y0, y1, y2⟩ := bx_cells3 (bx_keep HC0.out HB8.out)
        have HBP := Lib.hid (HBE.out w8 HB8.out)
        cases o with
        | none =>
          simp only [Option.isSome] at z0
          go_wp2_with fail
          refine HBP.out.mono ?_
          rintro e w9 ⟨nn, vv, zz, rfl, hb9, h1, h2, h3⟩
          subst h1 h2 h3
          have HE := Lib.hid (HFIN.out w9 (HB0.out.trans ((HB8.out.trans (hb9.mono HB8.out.size)).mono HB0.out.size)))
          clear hb9
          go_wp2_with fail
          exact HE.out
        | some v =>
          simp only [Option.isSome] at z0
          obtain ⟨vn, HVN⟩ := nameIt (oN (some v))
          have e0 : v.n = vn := HVN.out
          rw [HVN.out] at z2
          by_cases hbig : 2000 < vn
          · have hbig' : (2000 : Int) < (vn : Int) := by omega
            have hbv : 2000 < v.n := by omega
            have HBV := Lib.hid hbv
            clear e0 hbv hwo
            go_wp2_with fail
            refine HBP.out.mono ?_
            rintro e w9 ⟨nn, vv, zz, rfl, hb9, hm⟩
            simp only [HBV.out, if_true] at hm
            obtain ⟨h1, h2, h3⟩ := hm
            subst h1 h2 h3
            have HE := Lib.hid (HFIN.out w9 (HB0.out.trans ((HB8.out.trans (hb9.mono HB8.out.size)).mono HB0.out.size)))
            clear hb9
            go_wp2_with fail
            exact HE.out
          · have hbig' : ¬ (2000 : Int) < (vn : Int) := by omega
            have hbv : ¬ 2000 < v.n := by omega
            have HBV := Lib.hid hbv
            clear e0 hbv hwo
            go_wp2_with fail
            refine HBP.out.mono ?_
            rintro e w9 ⟨nn, vv, zz, rfl, hb9, hm⟩
            simp only [HBV.out, if_false] at hm
            obtain ⟨h1, h2, h3⟩ := hm
            have h1' : nn = (oC (some v) : Int) := h1
            subst h1' h3
            obtain ⟨av, kv, hvf⟩ := h2.form
            subst hvf
            have heq := equal _ _ v.w v.w w9 h2 ((sl_rd HRD8.out).keep hb9)
            have ebb : (v.w == v.w) = true := by simp
            rw [ebb] at heq
            obtain ⟨nw, HNW⟩ := nameIt (ints v.w).length
            rw [HNW.out] at heq
            rw [HNW.out]
            have HEQ := Lib.hid heq
            obtain ⟨z0, z1, z2, z3⟩ := bx_cells4 (bx_keep HX8.out hb9)
            have HB9 := Lib.hid (HB8.out.trans (hb9.mono HB8.out.size))
            obtain ⟨cc, HCC⟩ := nameIt (oC (some v))
            rw [HCC.out] at z1
            rw [HCC.out]
            have ecc : ((cc : Int) == (cc : Int)) = true := by simp
            clear hb9 h1 h2 heq ebb
            go_wp2_with fail
            refine HEQ.out.mono ?_
            rintro e wB ⟨rfl, hbB⟩
            have HE := Lib.hid (HFIN.out wB (HB0.out.trans ((HB9.out.trans (hbB.mono HB9.out.size)).mono HB0.out.size)))
            clear hbB
            go_wp2_with fail
            exact HE.out
    · have hz : z = z2 := by rw [← HZZ.out, if_neg (by simp), if_pos e2]
      have HBZ := Lib.hid (HBD.out (by rw [hz]; exact e2))
      rw [hz] at HBZ
      have hne : (z2 == 0) = false := by simpa using e2
      have hne' : (z2 != 0) = true := by simpa using e2
      clear hz e2
      obtain ⟨wA, HWA⟩ := nameIt (w5.alloc (.cells #[.bool false, .int .i64 0, .int .i64 0, .slice none 0 0] 36))
      have hwA : Below w5.heap.size w5 wA := by rw [← HWA.out]; exact (Below.refl _ _).alloc (Nat.le_refl _) _
      have HBA := Lib.hid (HB5.out.trans (hwA.mono HB5.out.size))
      obtain ⟨x0, x1, x2, x3⟩ := bx_cells4 (bx_keep HG0.out HBA.out)
      obtain ⟨y0, y1, y2⟩ := bx_cells3 (bx_keep HC0.out HBA.out)
      clear hwA
      go_upto_region 16 with fail
      rw [HWA.out]
      clear HWA
      go_wp2_with fail
      refine (HBZ.out wA HBA.out).mono ?_
      rintro e w7 ⟨rfl, hb7⟩
      have HE := Lib.hid (HFIN.out w7 (HB0.out.trans ((HBA.out.trans (hb7.mono HBA.out.size)).mono HB0.out.size)))
      go_wp2_with fail
      exact HE.out
  · have hz : z = z1 := by rw [← HZZ.out, if_pos e1]
    have HBZ := Lib.hid (HBD.out (by rw [hz]; exact e1))
    rw [hz] at HBZ
    have hne : (z1 == 0) = false := by simpa using e1
    have hne' : (z1 != 0) = true := by simpa using e1
    clear hz e1
    obtain ⟨wA, HWA⟩ := nameIt (w4.alloc (.cells #[.bool false, .int .i64 0, .int .i64 0, .slice none 0 0] 36))
    have hwA : Below w4.heap.size w4 wA := by rw [← HWA.out]; exact (Below.refl _ _).alloc (Nat.le_refl _) _
    have HBA := Lib.hid (HB4.out.trans (hwA.mono HB4.out.size))
    obtain ⟨x0, x1, x2, x3⟩ := bx_cells4 (bx_keep HG0.out HBA.out)
    obtain ⟨y0, y1, y2⟩ := bx_cells3 (bx_keep HC0.out HBA.out)
    clear hwA
    go_upto_region 16 with fail
    rw [HWA.out]
    clear HWA
    go_wp2_with fail
    refine (HBZ.out wA HBA.out).mono ?_
    rintro e w7 ⟨rfl, hb7⟩
    have HE := Lib.hid (HFIN.out w7 (HB0.out.trans ((HBA.out.trans (hb7.mono HBA.out.size)).mono HB0.out.size)))
    go_wp2_with fail
    exact HE.out
end Rp
end Go.Proofs.Ytjpmebppdcclbaa
namespace Go.Proofs.Ytjpmebppdcclbaa
open Go.RowKit Go.ChangeShapes Go.WideShapes Go.Deep

/-- data of a type read as plain data, as far as the fuel N goes: sz: at most its bulk; ok: what its numbers keep; lim: what the reach gives -/
def OpensF {α : Type} (P : Program) (t : TypeId) (e : α → D) (sz : α → Nat) (ok lim : α → Prop) (N : Nat) : Prop :=
  ∀ (H : Type) (enc : TypeId × Value → H) (w : World) (n : Nat) (cs : List Value) (x : DataW H × List MemPlace), n ≤ N → DataW.trod enc P w 0 (fun _ => true) true n t cs = some x →
    ∃ a : α, Rd AnyB w (e a) cs ∧ sz a ≤ Rows.uptoBulk x.1 ∧ ok a ∧ ((∀ y ∈ DataW.weights P t x.1, y ≤ reachBytes) → lim a)
def Opens {α : Type} (P : Program) (t : TypeId) (e : α → D) (sz : α → Nat) (ok lim : α → Prop) : Prop := ∀ N, OpensF P t e sz ok lim N

def i64 (n : Int) : Prop := -9223372036854775808 ≤ n ∧ n ≤ 9223372036854775807
def one {α : Type} (_ : α) : Nat := 1
def any {α : Type} (_ : α) : Prop := True

theorem opens_int {P : Program} {t : TypeId} (ht : P.underlying t = some (.int .i64)) : Opens P t D.int one i64 any := by
  intro N H enc w n cs x _ h
  obtain ⟨z, h1, h2, h3⟩ := DataW.trod_int ht h
  subst h1 h2
  refine ⟨z, rfl, by simp [Rows.uptoBulk, one], ?_, fun _ => trivial⟩
  simpa [Lit.wf, IntKind.min, IntKind.max, IntKind.signed, IntKind.bits, i64] using h3
theorem opens_bool {P : Program} {t : TypeId} (ht : P.underlying t = some .bool) : Opens P t D.bool one any any := by
  intro N H enc w n cs x _ h
  obtain ⟨z, h1, h2⟩ := DataW.trod_bool ht h
  subst h1 h2
  exact ⟨z, rfl, by simp [Rows.uptoBulk, one], trivial, fun _ => trivial⟩

theorem bulkAll_append {H : Type} (l r : List (DataW H)) : Rows.uptoBulkAll (l ++ r) = Rows.uptoBulkAll l + Rows.uptoBulkAll r := by
  induction l with
  | nil => simp [Rows.uptoBulkAll]
  | cons x l ih => simp only [List.cons_append, Rows.uptoBulkAll, ih]; omega
theorem weightsAll_append {H : Type} (P : Program) (e : TypeId) (l r : List (DataW H)) : DataW.weightsAll P e (l ++ r) = DataW.weightsAll P e l ++ DataW.weightsAll P e r := by
  induction l with
  | nil => simp [DataW.weightsAll]
  | cons x l ih => simp [DataW.weightsAll, ih]

def slD {α : Type} (e : α → D) (l : List α) : D := .sl (l.map e)
def slSz {α : Type} (sz : α → Nat) (l : List α) : Nat := (l.map sz).sum + 1
def slOk {α : Type} (ok : α → Prop) (l : List α) : Prop := ∀ a ∈ l, ok a
def slLim {α : Type} (b : Nat) (lim : α → Prop) (l : List α) : Prop := l.length * b ≤ reachBytes ∧ ∀ a ∈ l, lim a

theorem opens_slice {α : Type} {P : Program} {t el : TypeId} {e : α → D} {sz : α → Nat} {ok lim : α → Prop} {N b : Nat} (ht : P.underlying t = some (.slice el)) (hby : P.bytesOf el = b) (ho : OpensF P el e sz ok lim N) :
    OpensF P t (slD e) (slSz sz) (slOk ok) (slLim b lim) N := by
  intro H enc w n cs x hn h
  rcases DataW.trod_slice ht h with ⟨rfl, rfl⟩ | ⟨a, len, cap, elems, rest, n', hf, rfl, rfl, hb, hl, hm, hlen, hel, _, _⟩
  · exact ⟨[], ⟨none, 0, [], rfl, by simp, by simp [maxLen], fun _ => rfl, fun i hi => by simp at hi, rfl⟩, by simp [Rows.uptoBulk, slSz], by simp [slOk], fun _ => ⟨by simp, by simp⟩⟩
  · have key : ∀ k, k ≤ len → ∃ (l : List α) (L : List Value), l.length = k ∧ RdAll AnyB w (l.map e) L ∧ L.length = k * P.cellsOf el ∧ (∀ j (hj : j < L.length), w.cell? (a.add j) = some L[j]) ∧
        (l.map sz).sum ≤ Rows.uptoBulkAll ((elems.take k).map (·.1)) ∧ slOk ok l ∧ ((∀ y ∈ DataW.weightsAll P el ((elems.take k).map (·.1)), y ≤ reachBytes) → ∀ a ∈ l, lim a) := by
      intro k
      induction k with
      | zero => intro _; exact ⟨[], [], rfl, by simp [RdAll], by simp, fun j hj => by simp at hj, by simp, by simp [slOk], fun _ => by simp⟩
      | succ k ih =>
        intro hk
        obtain ⟨l, L, h1, h2, h3, h4, h5, h6, h7⟩ := ih (by omega)
        have hk' : k < elems.length := by omega
        have he := hel k (by omega)
        rw [List.getElem?_eq_getElem hk'] at he
        obtain ⟨cs', hc1, hc2⟩ := Option.bind_eq_some_iff.1 he
        obtain ⟨a', r1, r2, r3, r4⟩ := ho H enc w n' cs' elems[k] (by omega) hc2
        obtain ⟨_, hcl, hcc⟩ := World.cells?_some hc1
        refine ⟨l ++ [a'], L ++ cs', by simp [h1], by rw [List.map_append]; exact RdAll.append h2 (RdAll.one r1), by simp [h3, hcl, Nat.add_mul], ?_, ?_, ?_, ?_⟩
        · intro j hj
          by_cases hjl : j < L.length
          · rw [List.getElem_append_left hjl]; exact h4 j hjl
          · simp at hj
            rw [List.getElem_append_right (by omega)]
            have := hcc (j - L.length) (by omega)
            rw [Deep.add_add, ← h3, show L.length + (j - L.length) = j by omega] at this
            rw [this, List.getElem?_eq_getElem (by omega)]
        · rw [List.take_succ_eq_append_getElem hk', List.map_append, List.map_append, bulkAll_append]
          simp [Rows.uptoBulkAll]
          simp at h5
          omega
        · intro y hy
          rcases List.mem_append.1 hy with h | h
          · exact h6 y h
          · simp at h; subst h; exact r3
        · intro hw y hy
          rw [List.take_succ_eq_append_getElem hk', List.map_append, weightsAll_append] at hw
          rcases List.mem_append.1 hy with h | h
          · exact h7 (fun z hz => hw z (List.mem_append_left _ hz)) y h
          · simp at h; subst h
            exact r4 (fun z hz => hw z (List.mem_append_right _ (by simpa [DataW.weightsAll] using hz)))
    obtain ⟨l, L, h1, h2, h3, h4, h5, h6, h7⟩ := key len (Nat.le_refl _)
    rw [List.take_of_length_le (by omega)] at h5 h7
    refine ⟨l, ⟨some a, cap, L, by simp [h1], by simpa [h1] using hl, hm, (fun h => by cases h), fun i hi => ⟨a, rfl, trivial, h4 i hi⟩, h2⟩, ?_, h6, ?_⟩
    · simp only [Rows.uptoBulk, slSz]; omega
    · intro hw
      simp only [DataW.weights, ht] at hw
      refine ⟨?_, h7 fun y hy => hw y (by simp [hy])⟩
      have := hw ((elems.map (·.1)).length + (rest.map (·.1)).length |>.mul (P.bytesOf el)) (by left)
      rw [h1, ← hlen, ← hby]
      have h8 : elems.length * P.bytesOf el ≤ ((elems.map (·.1)).length + (rest.map (·.1)).length) * P.bytesOf el := Nat.mul_le_mul_right _ (by simp)
      exact Nat.le_trans h8 this

theorem split2 {cs : List Value} {c0 c1 : Nat} (h : cs.length = c0 + c1) : cs = (cs.drop 0).take c0 ++ (cs.drop c0).take c1 := by
  rw [List.drop_zero, List.take_of_length_le (l := cs.drop c0) (by simp; omega), List.take_append_drop]
theorem split3 {cs : List Value} {c0 c1 c2 : Nat} (h : cs.length = c0 + c1 + c2) : cs = (cs.drop 0).take c0 ++ ((cs.drop c0).take c1 ++ (cs.drop (c0 + c1)).take c2) := by
  rw [← List.drop_drop, ← split2' (cs := cs.drop c0) (by simp; omega)]
  simp
where
  split2' {cs : List Value} {c1 c2 : Nat} (h : cs.length = c1 + c2) : cs = cs.take c1 ++ (cs.drop c1).take c2 := by
    have := split2 h
    simpa using this
theorem split4 {cs : List Value} {c0 c1 c2 c3 : Nat} (h : cs.length = c0 + c1 + c2 + c3) : cs = (cs.drop 0).take c0 ++ ((cs.drop c0).take c1 ++ ((cs.drop (c0 + c1)).take c2 ++ (cs.drop (c0 + c1 + c2)).take c3)) := by
  have h3 := split3 (cs := cs.drop c0) (c0 := c1) (c1 := c2) (c2 := c3) (by simp; omega)
  simp only [List.drop_drop, List.drop_zero] at h3 ⊢
  rw [← Nat.add_assoc, Nat.add_zero] at h3
  rw [← h3, List.take_append_drop]

theorem opens_struct2 {α β δ : Type} {P : Program} {t : TypeId} {f0 f1 : Field} {e0 : α → D} {e1 : β → D} {s0 : α → Nat} {s1 : β → Nat} {k0 l0 : α → Prop} {k1 l1 : β → Prop} {N c0 c1 : Nat} (mk : α → β → δ) {e : δ → D} {sz : δ → Nat} {ok lim : δ → Prop}
    (ht : P.underlying t = some (.struct #[f0, f1])) (ho : f0.offset = 0 ∧ f1.offset = c0 ∧ P.cellsOf f0.type = c0 ∧ P.cellsOf f1.type = c1 ∧ P.cellsOf t = c0 + c1)
    (h0 : OpensF P f0.type e0 s0 k0 l0 N) (h1 : OpensF P f1.type e1 s1 k1 l1 N)
    (he : ∀ a b, e (mk a b) = .agg [e0 a, e1 b]) (hs : ∀ a b, sz (mk a b) ≤ s0 a + s1 b + 1) (hk : ∀ a b, k0 a → k1 b → ok (mk a b)) (hl : ∀ a b, l0 a → l1 b → lim (mk a b)) : OpensF P t e sz ok lim (N + 1) := by
  intro H enc w n cs x hn h
  obtain ⟨xs, n', hf, rfl, hcl, hlen, hfs⟩ := DataW.trod_struct ht h
  obtain ⟨o0, o1, p0, p1, p2⟩ := ho
  match xs, hlen with
  | [y0, y1], _ =>
    have g0 : DataW.trod enc P w 0 (fun _ => true) true n' f0.type ((cs.drop f0.offset).take (P.cellsOf f0.type)) = some y0 := by simpa using hfs 0 f0 rfl
    have g1 : DataW.trod enc P w 0 (fun _ => true) true n' f1.type ((cs.drop f1.offset).take (P.cellsOf f1.type)) = some y1 := by simpa using hfs 1 f1 rfl
    obtain ⟨a, r1, r2, r3, r4⟩ := h0 H enc w n' _ _ (by omega) g0
    obtain ⟨b, q1, q2, q3, q4⟩ := h1 H enc w n' _ _ (by omega) g1
    rw [o0, p0] at r1
    rw [o1, p1] at q1
    refine ⟨mk a b, ?_, ?_, hk a b r3 q3, fun hw => ?_⟩
    · rw [he, split2 (hcl.trans p2)]
      exact ⟨_, _, rfl, r1, RdAll.one q1⟩
    · have := hs a b
      simp [Rows.uptoBulk, Rows.uptoBulkAll]; omega
    · simp [DataW.weights, ht, DataW.weightsEach] at hw
      exact hl a b (r4 fun y hy => hw y (by simp [hy])) (q4 fun y hy => hw y (by simp [hy]))

theorem opens_struct4 {α β γ ε δ : Type} {P : Program} {t : TypeId} {f0 f1 f2 f3 : Field} {e0 : α → D} {e1 : β → D} {e2 : γ → D} {e3 : ε → D} {s0 : α → Nat} {s1 : β → Nat} {s2 : γ → Nat} {s3 : ε → Nat} {k0 l0 : α → Prop} {k1 l1 : β → Prop} {k2 l2 : γ → Prop} {k3 l3 : ε → Prop} {N c0 c1 c2 c3 : Nat} (mk : α → β → γ → ε → δ) {e : δ → D} {sz : δ → Nat} {ok lim : δ → Prop}
    (ht : P.underlying t = some (.struct #[f0, f1, f2, f3])) (ho : f0.offset = 0 ∧ f1.offset = c0 ∧ f2.offset = c0 + c1 ∧ f3.offset = c0 + c1 + c2 ∧ P.cellsOf f0.type = c0 ∧ P.cellsOf f1.type = c1 ∧ P.cellsOf f2.type = c2 ∧ P.cellsOf f3.type = c3 ∧ P.cellsOf t = c0 + c1 + c2 + c3)
    (h0 : OpensF P f0.type e0 s0 k0 l0 N) (h1 : OpensF P f1.type e1 s1 k1 l1 N) (h2 : OpensF P f2.type e2 s2 k2 l2 N) (h3 : OpensF P f3.type e3 s3 k3 l3 N)
    (he : ∀ a b c d, e (mk a b c d) = .agg [e0 a, e1 b, e2 c, e3 d]) (hs : ∀ a b c d, sz (mk a b c d) ≤ s0 a + s1 b + s2 c + s3 d + 1) (hk : ∀ a b c d, k0 a → k1 b → k2 c → k3 d → ok (mk a b c d)) (hl : ∀ a b c d, l0 a → l1 b → l2 c → l3 d → lim (mk a b c d)) : OpensF P t e sz ok lim (N + 1) := by
  intro H enc w n cs x hn h
  obtain ⟨xs, n', hf, rfl, hcl, hlen, hfs⟩ := DataW.trod_struct ht h
  obtain ⟨o0, o1, o2, o3, p0, p1, p2, p3, p4⟩ := ho
  match xs, hlen with
  | [y0, y1, y2, y3], _ =>
    have g0 : DataW.trod enc P w 0 (fun _ => true) true n' f0.type ((cs.drop f0.offset).take (P.cellsOf f0.type)) = some y0 := by simpa using hfs 0 f0 rfl
    have g1 : DataW.trod enc P w 0 (fun _ => true) true n' f1.type ((cs.drop f1.offset).take (P.cellsOf f1.type)) = some y1 := by simpa using hfs 1 f1 rfl
    have g2 : DataW.trod enc P w 0 (fun _ => true) true n' f2.type ((cs.drop f2.offset).take (P.cellsOf f2.type)) = some y2 := by simpa using hfs 2 f2 rfl
    have g3 : DataW.trod enc P w 0 (fun _ => true) true n' f3.type ((cs.drop f3.offset).take (P.cellsOf f3.type)) = some y3 := by simpa using hfs 3 f3 rfl
    obtain ⟨a, r1, r2, r3, r4⟩ := h0 H enc w n' _ _ (by omega) g0
    obtain ⟨b, q1, q2, q3, q4⟩ := h1 H enc w n' _ _ (by omega) g1
    obtain ⟨c, u1, u2, u3, u4⟩ := h2 H enc w n' _ _ (by omega) g2
    obtain ⟨d, v1, v2, v3, v4⟩ := h3 H enc w n' _ _ (by omega) g3
    rw [o0, p0] at r1
    rw [o1, p1] at q1
    rw [o2, p2] at u1
    rw [o3, p3] at v1
    refine ⟨mk a b c d, ?_, ?_, hk a b c d r3 q3 u3 v3, fun hw => ?_⟩
    · rw [he, split4 (hcl.trans p4)]
      exact ⟨_, _, rfl, r1, _, _, rfl, q1, _, _, rfl, u1, RdAll.one v1⟩
    · have := hs a b c d
      simp [Rows.uptoBulk, Rows.uptoBulkAll]; omega
    · simp [DataW.weights, ht, DataW.weightsEach] at hw
      exact hl a b c d (r4 fun y hy => hw y (by simp [hy])) (q4 fun y hy => hw y (by simp [hy])) (u4 fun y hy => hw y (by simp [hy])) (v4 fun y hy => hw y (by simp [hy]))

/-- the argument j -/
theorem open_arg {α : Type} {P : Program} {t : TypeId} {e : α → D} {sz : α → Nat} {ok lim : α → Prop} (ho : Opens P t e sz ok lim) {H : Type} {enc : TypeId × Value → H} {W : World} {v : Value} {d : DataW H} {p : List MemPlace} (h : DataW.Trod enc P W 0 (fun _ => true) true t v d p) :
    ∃ a : α, Rd AnyB W (e a) v.cells.toList ∧ sz a ≤ Rows.uptoBulk d ∧ ok a ∧ ((∀ y ∈ DataW.weights P t d, y ≤ reachBytes) → lim a) := by
  obtain ⟨n, hn⟩ := h
  exact ho n H enc W n _ _ (Nat.le_refl _) hn
end Go.Proofs.Ytjpmebppdcclbaa
namespace Go.Proofs.Ytjpmebppdcclbaa
open Go.RowKit Go.ChangeShapes Go.WideShapes Go.Deep Go.Joins

def okSym (s : Sym) : Prop := i64 s.n
def okRule (r : Rule) : Prop := i64 r.left ∧ ∀ s ∈ r.right, okSym s
def okGram (g : Gram) : Prop := i64 g.terms ∧ i64 g.nons ∧ i64 g.start ∧ ∀ r ∈ g.rules, okRule r
def szSym (_ : Sym) : Nat := 1
def szRule (r : Rule) : Nat := slSz szSym r.right
def szGram (g : Gram) : Nat := slSz szRule g.rules

set_option maxRecDepth 100000 in
theorem opens_symF (N : Nat) : OpensF Try.prog 44 Sym.d szSym okSym any (N + 1) :=
  opens_struct2 (c0 := 1) (c1 := 1) (fun a b => Sym.mk a b) Try.underlying44 ⟨rfl, rfl, by kernel_rfl, by kernel_rfl, by kernel_rfl⟩ (opens_bool Try.underlying4 N) (opens_int Try.underlying3 N)
    (fun _ _ => rfl) (fun _ _ => by simp [szSym]) (fun _ _ _ h => h) (fun _ _ _ _ => trivial)
set_option maxRecDepth 100000 in
theorem opens_ruleF (N : Nat) : OpensF Try.prog 69 Rule.d szRule okRule any (N + 1 + 1) :=
  opens_struct2 (c0 := 1) (c1 := 1) (fun a b => Rule.mk a b) Try.underlying69 ⟨rfl, rfl, by kernel_rfl, by kernel_rfl, by kernel_rfl⟩ (opens_int Try.underlying3 (N + 1)) (opens_slice Try.underlying47 (b := 16) (by kernel_rfl) (opens_symF N))
    (fun _ _ => rfl) (fun _ _ => by simp [szRule]; omega) (fun _ _ h k => ⟨h, k⟩) (fun _ _ _ _ => trivial)
set_option maxRecDepth 100000 in
theorem opens_gramF (N : Nat) : OpensF Try.prog 24 Gram.d szGram okGram any (N + 1 + 1 + 1) :=
  opens_struct4 (c0 := 1) (c1 := 1) (c2 := 1) (c3 := 1) (fun a b c d => Gram.mk a b c d) Try.underlying24 ⟨rfl, rfl, rfl, rfl, by kernel_rfl, by kernel_rfl, by kernel_rfl, by kernel_rfl, by kernel_rfl⟩ (opens_int Try.underlying3 (N + 1 + 1)) (opens_int Try.underlying3 (N + 1 + 1)) (opens_int Try.underlying3 (N + 1 + 1)) (opens_slice Try.underlying22 (b := 32) (by kernel_rfl) (opens_ruleF N))
    (fun _ _ _ _ => rfl) (fun _ _ _ _ => by simp [szGram]; omega) (fun _ _ _ _ h1 h2 h3 h4 => ⟨h1, h2, h3, h4⟩) (fun _ _ _ _ _ _ _ _ => trivial)
theorem opens_gram : Opens Try.prog 24 Gram.d szGram okGram any := by
  intro N H enc w n cs x hn h
  exact opens_gramF N H enc w n cs x (by omega) h

set_option maxRecDepth 100000 in
theorem open_gramV {W : World} {base : Nat} {v : Value} {g : Gram} (hv : Value.okWide Try.prog W .any base 24 v) (h : Rd AnyB W g.d v.cells.toList) : ∃ u, v = .agg #[.int .i64 g.terms, .int .i64 g.nons, .int .i64 g.start, u] ∧ Rd AnyB W (.sl (g.rules.map Rule.d)) [u] := by
  obtain ⟨cs, rfl, hsz⟩ := okWide_struct Try.underlying24 hv
  obtain ⟨c1, r1, e1, h1, h2⟩ := h
  obtain ⟨c2, r2, rfl, h2, h3⟩ := h2
  obtain ⟨c3, r3, rfl, h3, h4⟩ := h3
  rw [RdAll.one_iff] at h4
  simp [Rd] at h1 h2 h3
  subst h1 h2 h3
  have h5 := h4
  obtain ⟨a, cap, L, e, _⟩ := h4
  subst e
  refine ⟨_, ?_, h5⟩
  congr 1
  exact Array.toList_inj.1 e1
end Go.Proofs.Ytjpmebppdcclbaa
namespace Go.Proofs.Ytjpmebppdcclbaa
open Go.RowKit Go.ChangeShapes Go.WideShapes Go.Deep Go.Joins

theorem opens_ints : Opens Try.prog 25 (slD D.int) (slSz one) (slOk i64) (slLim 8 any) := fun N => opens_slice Try.underlying25 (by kernel_rfl) (opens_int Try.underlying3 N)
theorem slSz_one {α : Type} (l : List α) : slSz one l = l.length + 1 := by
  induction l with
  | nil => simp [slSz]
  | cons x l ih => simp [slSz, one] at ih ⊢; omega
theorem sl_slD {w : World} {v : Value} {l : List Int} (h : Rd AnyB w (slD D.int l) [v]) : Sl w v (ints l) := sl_rd h

end Go.Proofs.Ytjpmebppdcclbaa
namespace Go.Proofs.Ytjpmebppdcclbaa
open Go.RowKit Go.ChangeShapes Go.WideShapes Go.Deep

set_option maxRecDepth 100000 in
theorem open_costs {H : Type} {enc : TypeId × Value → H} {W : World} {base : Nat} {v : Value} {d : DataW H} {p : List MemPlace} (hv : Value.okWide Try.prog W .any base 26 v) (h : DataW.Trod enc Try.prog W 0 (fun _ => true) true 26 v d p) :
    ∃ c0 c1 c2 : Int, v = .agg #[.int .i64 c0, .int .i64 c1, .int .i64 c2] := by
  have hv' : ∃ cs : Array Value, v = .agg cs ∧ cs.size = Try.prog.cellsOf 26 := by
    simp only [Value.okWide, Try.underlying26] at hv
    obtain ⟨cs, h1, h2, _⟩ := hv
    exact ⟨cs, h1, h2⟩
  obtain ⟨cs, rfl, hsz⟩ := hv'
  have h3 : Try.prog.cellsOf 26 = 3 := by kernel_rfl
  have h1 : Try.prog.cellsOf 3 = 1 := by kernel_rfl
  obtain ⟨n, hn⟩ := h
  obtain ⟨xs, m, _, _, hl, hx, hel⟩ := DataW.trod_array Try.underlying26 hn
  rw [h3] at hl
  rw [h1] at hel
  rcases cs with ⟨cs⟩
  match cs, hl with
  | [a, b, c], _ =>
    have e0 := hel 0 (by decide)
    have e1 := hel 1 (by decide)
    have e2 := hel 2 (by decide)
    rw [List.getElem?_eq_getElem (by omega)] at e0 e1 e2
    obtain ⟨z0, g0, _, _⟩ := DataW.trod_int Try.underlying3 e0
    obtain ⟨z1, g1, _, _⟩ := DataW.trod_int Try.underlying3 e1
    obtain ⟨z2, g2, _, _⟩ := DataW.trod_int Try.underlying3 e2
    simp [Value.cells] at g0 g1 g2
    subst g0 g1 g2
    exact ⟨z0, z1, z2, rfl⟩
end Go.Proofs.Ytjpmebppdcclbaa
namespace Go.Proofs.Ytjpmebppdcclbaa.RowRepairBest
open Go.ChangeShapes Go.WideShapes Go.ChangeAt Go.RowKit
theorem own : ownKnob Try.prog.godebug = none := by kernel_rfl
theorem laidOut : laidOutB Try.prog = true := by kernel_rfl

set_option maxRecDepth 100000 in
theorem contract (H : Type) (enc : TypeId × Value → H) (W : World) (base : Nat) (args : Array Value) (ds gs : List (DataW H)) (before : List MemPlace)
    (hval0 : ∀ (j : Nat) t v, Try.f3.params[j]? = some t → args[j]? = some v → Value.okWide Try.prog W .any base t v)
    (hW : DataW.Whole enc Try.prog Try.f3.params.toList Rows.repairBestSpec.vars false W args.toList ds gs before)
    (hsz0 : (DataW.weightsEach Try.prog (Try.f3.params.toList ++ Rows.repairBestSpec.plain.varTypes Try.prog) (ds ++ gs)).all (· ≤ reachBytes) = true) :
    Calls Try.prog 3 args W fun e W' => ∃ v, e = .returned v ∧ Rows.repairBestSpec.post enc Try.prog Try.f3 false true false false W args v W' := by
  have hval : ∀ (j : Nat) t v, Try.f3.params[j]? = some t → args[j]? = some v → Value.okWide Try.prog W .any base t v := hval0
  have hW' := hW
  obtain ⟨p, q, hA0, hV, rfl, hfz, hnd⟩ := hW
  have hA : DataW.TrodAll enc Try.prog W 0 (fun _ => true) true Try.f3.params.toList args.toList ds p := hA0
  have hsz : (DataW.weightsEach Try.prog (Try.f3.params.toList ++ Rows.repairBestSpec.plain.varTypes Try.prog) (ds ++ gs)).all (· ≤ reachBytes) = true := hsz0
  rw [Try.params3] at hA hval hsz
  obtain ⟨v0, vs0, d0, ds0, p0, q0, hargs, rfl, rfl, h0, r0'⟩ := trodAll_cons hA
  obtain ⟨v1, vs1, d1, ds1, p1, q1, rfl, rfl, rfl, h1, r1'⟩ := trodAll_cons r0'
  obtain ⟨v2, vs2, d2, ds2, p2, q2, rfl, rfl, rfl, h2, r2'⟩ := trodAll_cons r1'
  obtain ⟨rfl, rfl, rfl⟩ := trodAll_nil r2'
  obtain rfl : args = #[v0, v1, v2] := by cases args; simp_all
  obtain ⟨rfl, rfl⟩ := trodVars_none hV
  have lt0 : ∀ x ∈ p0, x.block < W.heap.size := by obtain ⟨m, hm⟩ := h0; exact DataW.trod_lt m _ _ _ hm
  have tr0 := h0
  have lt1 : ∀ x ∈ p1, x.block < W.heap.size := by obtain ⟨m, hm⟩ := h1; exact DataW.trod_lt m _ _ _ hm
  have tr1 := h1
  have lt2 : ∀ x ∈ p2, x.block < W.heap.size := by obtain ⟨m, hm⟩ := h2; exact DataW.trod_lt m _ _ _ hm
  have tr2 := h2
  have weightsAt : ∀ (j : Nat) {t : TypeId} {d : DataW H}, (Try.f3.params.toList ++ Rows.repairBestSpec.plain.varTypes Try.prog)[j]? = some t → ([d0, d1, d2] ++ [])[j]? = some d → ∀ y ∈ DataW.weights Try.prog t d, y ≤ reachBytes := fun j t d ht hd y hy => of_decide_eq_true (List.all_eq_true.1 hsz0 y (DataW.weights_mem_each ht hd y hy))
  obtain ⟨a0, rd0, sz0, k0, li0⟩ := open_arg opens_gram h0
  have lim0 := li0 (weightsAt 0 rfl rfl)
  obtain ⟨u0, rfl, r0⟩ := open_gramV (hval 0 24 v0 rfl rfl) rd0
  obtain ⟨ad1, len1, cap1, hv1⟩ := okWide_slice Try.underlying25 (hval 1 25 v1 rfl rfl)
  obtain ⟨l1, rd1, sz1, k1, li1⟩ := open_arg opens_ints h1
  have s1 : Sl W v1 (ints l1) := sl_slD (by rw [hv1] at rd1 ⊢; exact rd1)
  rw [slSz_one] at sz1
  have n1 : l1.length * 8 ≤ 140737488351232 := (li1 (weightsAt 1 rfl rfl)).1
  obtain ⟨c20, c21, c22, rfl⟩ := open_costs (hval 2 26 v2 rfl rfl) h2
  clear hA0 hval0
  refine (Rp.lawRB a0 u0 l1 v1 c20 c21 c22 W r0 s1).mono fun e W' ⟨he, bel⟩ => ?_
  subst he
  exact ⟨_, rfl, _, _, _, [], _, [], hW', trodAll_mk1 (shut_bool Try.underlying4 _), (trodAll_cons_mk (Below.trod laidOut (by kernel_rfl) (of_decide_eq_true (by kernel_rfl)) tr0 bel lt0) (trodAll_cons_mk (Below.trod laidOut (by kernel_rfl) (of_decide_eq_true (by kernel_rfl)) tr1 bel lt1) (trodAll_cons_mk (Below.trod laidOut (by kernel_rfl) (of_decide_eq_true (by kernel_rfl)) tr2 bel lt2) trodAll_mk0))), rfl, bel.frame _, fun h => by cases h⟩

set_option maxRecDepth 100000 in
theorem lifted (os : Os) (started : os.Started) (H : Type) (enc : TypeId × Value → H) :
    ReturnsInHanded {} Try.checked os 3 .any (Rows.repairBestSpec.pre6 enc Try.prog Try.f3 Rows.repairBestRow.domain false) (Rows.repairBestSpec.post enc Try.prog Try.f3 false true false false) := by
  refine returnsInHanded_of_change_sized (C := Try.checked) own started (by kernel_rfl) Try.func3
    (ChangeSpec.witness6 (enc := enc) (C := Try.checked) false ⟨#[], #[.agg #[.int .i64 0, .int .i64 0, .int .i64 0, .slice none 0 0], .slice none 0 0, .agg #[.int .i64 0, .int .i64 0, .int .i64 0]], []⟩ 8 (by kernel_rfl) (by kernel_rfl) (by kernel_rfl) (by kernel_rfl)) ?_
  intro W base args ds gs before hval0 hW hcnd hsz0 _
  exact contract H enc W base args ds gs before hval0 hW hsz0

theorem over : Rows.repairBestRow.holds Try.pinned (OpenSpec.ofChange Rows.repairBestSpec) :=
  OpenClaim.holds_of_wide 3 Try.f3 rfl rfl rfl rfl rfl rfl rfl ⟨rfl, rfl, rfl, rfl, rfl⟩ rfl rfl rfl rfl rfl (by kernel_rfl) Try.func3 (by kernel_rfl)
    (of_decide_eq_true (by kernel_rfl)) (by unfold Func.isWrapper; first | (rw [if_pos (by decide +kernel)]; kernel_rfl) | (rw [if_neg (by decide +kernel)]; exact ⟨rfl, rfl⟩))
    (fun os started H enc _ => lifted os started H enc)
end Go.Proofs.Ytjpmebppdcclbaa.RowRepairBest
namespace Go.Proofs.Ytjpmebppdcclbaa
theorem repairBest_holds : Rows.RepairBestSaid := RowRepairBest.over
#print axioms repairBest_holds
end Go.Proofs.Ytjpmebppdcclbaa
