/- The contract of grid, of whole numbers. -/
import Derived.Test.YtenkhjmedolknaaGrd
import Derived.Deep.LoopGhost
import Derived.Deep.DeepCutAuto
namespace Go.Proofs.Ytenkhjmedolknaa
open Go.RowKit
namespace Df

def GridIPost (N m : Nat) (w : World) (e : Ending) (w' : World) : Prop :=
  ∃ bt rb, e = .returned (.slice (some ⟨bt, 0, none⟩) N N) ∧ Grd 22 3 w.heap.size bt N m N rb (fun _ _ => .int .i64 0) w' ∧ Below w.heap.size w w'
set_option maxHeartbeats 1000000 in
set_option maxRecDepth 100000 in
theorem gridI (N m : Nat) (w : World) (hN : 1 ≤ N ∧ N ≤ 1000) (hm : 1 ≤ m ∧ m ≤ 1000) : Calls Try.prog 23 #[.int .i64 N, .int .i64 m] w (GridIPost N m w) := by
  obtain ⟨hN1, hN2⟩ := hN
  obtain ⟨hm1, hm2⟩ := hm
  have hmk1 : ∀ W : World, (Instr.makeSlice 23 (.int .i64 (N : Int)) (.int .i64 (N : Int))).run Try.prog W = .ok (.slice (some ⟨W.heap.size, 0, none⟩) N N) (W.alloc (.cells (madeCells #[.slice none 0 0] N) 22)) := fun W => by
    have := run_make_row' (P := Try.prog) 23 22 (.slice none 0 0) 24 Try.underlying23 (by kernel_rfl) rfl .i64 .i64 N (by omega) (by omega) W
    simpa using this
  have hmk2 : ∀ W : World, (Instr.makeSlice 22 (.int .i64 (m : Int)) (.int .i64 (m : Int))).run Try.prog W = .ok (.slice (some ⟨W.heap.size, 0, none⟩) m m) (W.alloc (.cells (madeCells #[.int .i64 0] m) 3)) := fun W => by
    have := run_make_row' (P := Try.prog) 22 3 (.int .i64 0) 8 Try.underlying22 (by kernel_rfl) rfl .i64 .i64 m (by omega) (by omega) W
    simpa using this
  obtain ⟨bt, HBT⟩ := nameIt w.heap.size
  have HI0 : Hid (∃ rb, Grd 22 3 w.heap.size bt N m 0 rb (fun _ _ => .int .i64 0) (w.alloc (.cells (madeCells #[.slice none 0 0] N) 22)) ∧ Below w.heap.size w (w.alloc (.cells (madeCells #[.slice none 0 0] N) 22))) :=
    ⟨fun _ => 0, Grd.start _ _ _ HBT.out.symm (Nat.le_refl _), (Below.refl _ _).alloc (Nat.le_refl _) _⟩
  go_enter Try.func23, Try.ntmps23
  go_wp2_with fail
  rw [HBT.out]
  clear hmk1
  go_loopg [11] N (fun gg v11 wr => ∃ k : Nat, k ≤ N ∧ N - k ≤ gg ∧ v11 = .int .i64 k ∧ Hid (∃ rb, Grd 22 3 w.heap.size bt N m k rb (fun _ _ => .int .i64 0) wr ∧ Below w.heap.size w wr))
  case atStart => exact ⟨0, by omega, by omega, rfl, HI0⟩
  case round =>
    clear HI0
    obtain ⟨k, hk, hg, rfl, HI⟩ := hrel
    by_cases hkN : k < N
    · have hkN' : (k : Int) < (N : Int) := by omega
      obtain ⟨rb, hd, hbel⟩ := HI.out
      have hbt := hd.lt
      have hbB := hd.bB
      have hsz := hbel.size
      obtain ⟨⟨vc, hc8⟩, hf8⟩ := hd.hcell hkN
      have HT1 : Hid (∃ rb, Grd 22 3 w.heap.size bt N m (k + 1) rb (fun _ _ => .int .i64 0) ((wr.alloc (.cells (madeCells #[.int .i64 0] m) 3)).setCell ⟨bt, k, none⟩ (.slice (some ⟨wr.heap.size, 0, none⟩) m m)) ∧ Below w.heap.size w ((wr.alloc (.cells (madeCells #[.int .i64 0] m) 3)).setCell ⟨bt, k, none⟩ (.slice (some ⟨wr.heap.size, 0, none⟩) m m))) :=
        ⟨_, hd.add hkN (by omega), (hbel.alloc (by omega) _).setCell (by show w.heap.size ≤ bt; omega) _⟩
      have hne8 : ¬ bt = wr.heap.size := by omega
      have hne9 : ¬ wr.heap.size = bt := by omega
      obtain ⟨w2, HW2⟩ := nameIt ((wr.alloc (.cells (madeCells #[.int .i64 0] m) 3)).setCell ⟨bt, k, none⟩ (.slice (some ⟨wr.heap.size, 0, none⟩) m m))
      have hcomm : (wr.setCell ⟨bt, k, none⟩ (.slice (some ⟨wr.heap.size, 0, none⟩) m m)).alloc (.cells (madeCells #[.int .i64 0] m) 3) = w2 := by
        rw [← HW2.out]
        simp [go_sem, hbt]
      have HCM := Lib.hid hcomm
      rw [HW2.out] at HT1
      clear hcomm hd hbel
      go_upto_region 6 with fail
      rw [HCM.out]
      clear hc8 hf8 hne8 hne9
      go_wp2_with fail
      go_roundg (N - (k + 1))
      case measure => omega
      case rel => exact ⟨k + 1, by omega, by omega, by go_num, HT1⟩
    · have hkN' : ¬ (k : Int) < (N : Int) := by omega
      have hkk : k = N := by omega
      have HE := HI.out
      rw [hkk] at HE
      have HE1 := Lib.hid HE
      clear HE hkk
      go_wp2_with fail
      go_ret
      obtain ⟨rb, h1, h2⟩ := HE1.out
      exact ⟨bt, rb, rfl, h1, h2⟩
end Df
end Go.Proofs.Ytenkhjmedolknaa
