/- The contract of list. -/
import Derived.Test.YtiapfogckbkkpaaRowBlk
import Derived.Test.YtiapfogckbkkpaaCheckG
namespace Go.Proofs.Ytiapfogckbkkpaa
open Go.RowKit

def listG : Gram := ⟨1, 1, 0, [⟨0, [⟨false, 0⟩, ⟨true, 0⟩]⟩, ⟨0, [⟨true, 0⟩]⟩]⟩
def GramPost (g : Gram) (w : World) (e : Ending) (w' : World) : Prop := ∃ v, e = .returned (.agg #[.int .i64 g.terms, .int .i64 g.nons, .int .i64 g.start, v]) ∧ Rd AnyB w' (.sl (g.rules.map Rule.d)) [v] ∧ Below w.heap.size w w'

set_option maxHeartbeats 1000000 in
theorem listE (w : World) : Calls Try.prog 5 #[] w (GramPost listG w) := by
  go_enter Try.func5, Try.ntmps5
  go_wp2_with fail
  refine bodyPost_ret (v := .agg #[.int .i64 1, .int .i64 1, .int .i64 0, .slice (some ⟨w.heap.size + 1 + 1 + 1 + 1, 0, none⟩) 2 2]) (by simp [results, Try.results5, go_sem]) rfl ?_
  refine ⟨_, rfl, ?_, (((((Below.refl _ _).alloc (Nat.le_refl _) _).alloc (by simp) _).alloc (by simp; omega) _).alloc (by simp; omega) _).alloc (by simp; omega) _⟩
  refine rd_of_own (own_of_block (bx_new _ _ _ (by simp)) (n := 2) (size := 2) rfl (by simp [maxLen])) ?_ rfl (fun _ _ => trivial)
  refine ⟨[.int .i64 0, .slice (some ⟨w.heap.size + 1 + 1, 0, none⟩) 2 2], [.int .i64 0, .slice (some ⟨w.heap.size + 1 + 1 + 1, 0, none⟩) 1 1], rfl, ?_, RdAll.one ?_⟩
  · refine rd_rule (r := ⟨0, [⟨false, 0⟩, ⟨true, 0⟩]⟩) ?_
    refine rd_of_own (own_of_block (bx_keep (bx_keep (bx_new _ _ _ (by simp)) ((Below.refl _ _).alloc (Nat.le_refl _) _)) ((Below.refl _ _).alloc (Nat.le_refl _) _)) (n := 2) (size := 2) rfl (by simp [maxLen])) ?_ rfl (fun _ _ => trivial)
    exact ⟨[.bool false, .int .i64 0], [.bool true, .int .i64 0], rfl, rd_sym ⟨false, 0⟩, RdAll.one (rd_sym ⟨true, 0⟩)⟩
  · refine rd_rule (r := ⟨0, [⟨true, 0⟩]⟩) ?_
    exact rd_of_own (own_of_block (bx_keep (bx_new _ _ _ (by simp)) ((Below.refl _ _).alloc (Nat.le_refl _) _)) (n := 1) (size := 2) rfl (by simp [maxLen])) (RdAll.one (rd_sym ⟨true, 0⟩)) rfl (fun _ _ => trivial)
end Go.Proofs.Ytiapfogckbkkpaa
