/- The contract of same, and of slices.EqualFunc with it: of equal trees. -/
import Derived.Test.YtjehmleckcmilaaTreeSize
import Derived.Test.YtjehmleckcmilaaTreeCopy
import Derived.Deep.QuietTactic
import Derived.BigQuiet
namespace Go.Proofs.Ytjehmleckcmilaa
open Go.RowKit

theorem sizeL_mem' : ∀ (ks : List Tree), ∀ k ∈ ks, k.size ≤ sizeL ks
  | [], k, h => by simp at h
  | x :: ks, k, h => by
    rcases List.mem_cons.1 h with rfl | h
    · simp [sizeL]
    · have := sizeL_mem' ks k h; simp [sizeL]; omega
set_option maxHeartbeats 1000000 in
set_option maxRecDepth 100000 in
/-- of equal lists, if 'same' holds of its equal trees -/
theorem eqTrees (l : List Tree) (a a' : Option Addr) (n n' cap cap' : Nat) (w : World) (hl : Rd AnyB w (.sl (l.map Tree.d)) [.slice a n cap]) (hm : Rd AnyB w (.sl (l.map Tree.d)) [.slice a' n' cap'])
    (hc : ∀ t ∈ l, ∀ v v' W, Rd AnyB W (.sl (t.kids.map Tree.d)) [v] → Rd AnyB W (.sl (t.kids.map Tree.d)) [v'] → Calls Try.prog 76 #[.agg #[.int .i64 t.rule, .int .i64 t.term, v], .agg #[.int .i64 t.rule, .int .i64 t.term, v']] W fun e w' => e = .returned (.bool true) ∧ Below W.heap.size W w') :
    Calls Try.prog 74 #[.slice a n cap, .slice a' n' cap', .func (.func 76) #[] #[]] w fun e w' => e = .returned (.bool true) ∧ Below w.heap.size w w' := by
  have HL := Lib.hid hl
  have HM := Lib.hid hm
  have HC := Lib.hid hc
  obtain ⟨hn, hn1, hn2⟩ := hl.bounds
  obtain ⟨hn', hn1', hn2'⟩ := hm.bounds
  obtain rfl : n' = n := by rw [hn, hn']
  rw [List.length_map] at hn
  have HN := Lib.hid hn
  unfold maxLen at hn2 hn2'
  have hnb : ((n' : Int) != (n' : Int)) = false := by simp
  clear hl hm hc hn hn'
  have eg : ∀ args w, (callFunc 76 args).run Try.prog w = .ok (.enter 76 args) w := fun _ _ => by kernel_rfl
  go_enter Try.func74, Try.ntmps74
  go_wp2_with fail
  go_loopg [17] n' (fun gg v17 wr => ∃ i : Nat, i ≤ n' ∧ n' - i ≤ gg ∧ v17 = .int .i64 i ∧ Hid (Below w.heap.size w wr))
  case atStart => exact ⟨0, by omega, by omega, rfl, Below.refl _ _⟩
  case round =>
    obtain ⟨i, hi, hg, rfl, HB⟩ := hrel
    by_cases hlt : i < n'
    · have hlt' : (i : Int) < (n' : Int) := by omega
      have hil : i < l.length := by rw [← HN.out]; exact hlt
      obtain ⟨b, off, v, hae, -, hbl, k0, k1, k2, hkid⟩ := (HL.out.below HB.out).kid hil
      obtain ⟨av, nv, cv, rfl⟩ := treeBox hkid
      obtain ⟨b', off', v', hae', -, hbl', j0, j1, j2, hkid'⟩ := (HM.out.below HB.out).kid hil
      obtain ⟨av', nv', cv', rfl⟩ := treeBox hkid'
      obtain ⟨q0, HQ0⟩ := nameIt (l[i]'hil).rule
      obtain ⟨q1, HQ1⟩ := nameIt (l[i]'hil).term
      obtain ⟨w0, HW0⟩ := nameIt ((wr.alloc (.cells #[.int .i64 q0, .int .i64 q1, .slice av nv cv] 43)).alloc (.cells #[.int .i64 q0, .int .i64 q1, .slice av' nv' cv'] 43))
      have HB0 : Hid (Below wr.heap.size wr w0) := by rw [← HW0.out]; exact ((Below.refl _ _).alloc (Nat.le_refl _) _).alloc (by simp) _
      have hcf := HC.out l[i] (List.getElem_mem hil) _ _ w0 (hkid.below HB0.out) (hkid'.below HB0.out)
      have X1 : Hid (w0.heap[wr.heap.size]? = some (.cells #[.int .i64 q0, .int .i64 q1, .slice av nv cv] 43 (0, 0))) := by
        rw [← HW0.out]; exact bx_keep (bx_new _ _ _ rfl) ((Below.refl _ _).alloc (Nat.le_refl _) _)
      have X2 : Hid (w0.heap[wr.heap.size + 1]? = some (.cells #[.int .i64 q0, .int .i64 q1, .slice av' nv' cv'] 43 (0, 0))) := by
        rw [← HW0.out]; exact bx_new _ _ _ (by simp)
      rw [HQ0.out] at k0 j0 hcf
      rw [HQ1.out] at k1 j1 hcf
      have HCF := Lib.hid hcf
      obtain ⟨x0, x1, x2⟩ := bx_cells3 X1.out
      obtain ⟨y0, y1, y2⟩ := bx_cells3 X2.out
      have hne : ¬ b' = wr.heap.size := by omega
      subst hae hae'
      clear hcf hkid hkid'
      go_upto_region 7 with fail
      rw [HW0.out]
      go_wp2_with fail
      refine HCF.out.mono ?_
      rintro e w1 ⟨rfl, hb1⟩
      have HB1 : Hid (Below w.heap.size w w1) := by
        have h := HB.out.trans (HB0.out.mono HB.out.size)
        exact h.trans (hb1.mono h.size)
      clear hb1 k0 k1 k2 j0 j1 j2
      go_wp2_with fail
      go_roundg (n' - (i + 1))
      case measure => omega
      case rel => exact ⟨i + 1, by omega, by omega, by go_num, HB1⟩
    · have hlt' : ¬ (i : Int) < (n' : Int) := by omega
      go_wp2_with fail
      go_ret
      exact ⟨rfl, HB.out⟩

set_option maxHeartbeats 1000000 in
set_option maxRecDepth 100000 in
theorem sameTE : ∀ (m : Nat) (t : Tree), t.size ≤ m → ∀ v v' W, Rd AnyB W (.sl (t.kids.map Tree.d)) [v] → Rd AnyB W (.sl (t.kids.map Tree.d)) [v'] →
    Calls Try.prog 76 #[.agg #[.int .i64 t.rule, .int .i64 t.term, v], .agg #[.int .i64 t.rule, .int .i64 t.term, v']] W fun e w' => e = .returned (.bool true) ∧ Below W.heap.size W w' := by
  intro m
  induction m with
  | zero => intro t hm; have := t.size_pos; omega
  | succ m ih =>
  intro t hm v v' w hv hv'
  obtain ⟨a, n, cap, rfl⟩ := treeBox hv
  obtain ⟨a', n', cap', rfl⟩ := treeBox hv'
  obtain ⟨q0, HQ0⟩ := nameIt t.rule
  obtain ⟨q1, HQ1⟩ := nameIt t.term
  obtain ⟨w0, HW0⟩ := nameIt ((w.alloc (.cells #[.int .i64 q0, .int .i64 q1, .slice a n cap] 43)).alloc (.cells #[.int .i64 q0, .int .i64 q1, .slice a' n' cap'] 43))
  have HB0 : Hid (Below w.heap.size w w0) := by rw [← HW0.out]; exact ((Below.refl _ _).alloc (Nat.le_refl _) _).alloc (by simp) _
  have X1 : Hid (w0.heap[w.heap.size]? = some (.cells #[.int .i64 q0, .int .i64 q1, .slice a n cap] 43 (0, 0))) := by
    rw [← HW0.out]; exact bx_keep (bx_new _ _ _ rfl) ((Below.refl _ _).alloc (Nat.le_refl _) _)
  have X2 : Hid (w0.heap[w.heap.size + 1]? = some (.cells #[.int .i64 q0, .int .i64 q1, .slice a' n' cap'] 43 (0, 0))) := by
    rw [← HW0.out]; exact bx_new _ _ _ (by simp)
  have HEQ := Lib.hid (eqTrees t.kids a a' n n' cap cap' w0 (hv.below HB0.out) (hv'.below HB0.out) (fun k hk => ih k (by have := sizeL_mem' t.kids k hk; rw [Tree.size_eq] at hm; omega)))
  rw [HQ0.out, HQ1.out]
  obtain ⟨x0, x1, x2⟩ := bx_cells3 X1.out
  obtain ⟨y0, y1, y2⟩ := bx_cells3 X2.out
  have hb0 : (q0 == q0) = true := by simp
  have hb1 : (q1 == q1) = true := by simp
  clear hv hv' ih hm
  go_enter Try.func76, Try.ntmps76
  go_upto_region 1 with fail
  rw [HW0.out]
  go_wp2_with fail
  refine HEQ.out.mono ?_
  rintro e w1 ⟨rfl, hb1⟩
  have HB1 : Hid (Below w.heap.size w w1) := HB0.out.trans (hb1.mono HB0.out.size)
  clear hb1
  go_wp2_with fail
  go_ret
  exact ⟨rfl, HB1.out⟩
end Go.Proofs.Ytjehmleckcmilaa
