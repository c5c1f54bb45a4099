/- The contract of Weigh. -/
import Derived.Test.YtjehmleckcmilaaWeigh
namespace Go.Proofs.Ytjehmleckcmilaa
open Go.RowKit
namespace Wg

def WeighPost (l r : List Int) (a : Option Addr) (ca : Nat) (b : Option Addr) (cb : Nat) (c0 c1 c2 : Int) (w : World) (e : Ending) (w' : World) : Prop :=
  ∃ mb wb cx vb ob bm, e = .returned (.func (.func 98) #[] (lbW mb wb cx vb ob)) ∧ Env l r a ca b cb c0 c1 c2 mb wb cx vb ob bm w' ∧ Memo bm (dAt c0 c1 c2 l r) [] w' ∧ Below w.heap.size w w' ∧ w.heap.size ≤ bm

set_option maxHeartbeats 1000000 in
theorem weighE (l r : List Int) (a : Option Addr) (ca : Nat) (b : Option Addr) (cb : Nat) (c0 c1 c2 : Int) (w : World) (hl : Sl w (.slice a l.length ca) (ints l)) (hr : Sl w (.slice b r.length cb) (ints r)) :
    Calls Try.prog 17 #[.slice a l.length ca, .slice b r.length cb, .agg #[.int .i64 c0, .int .i64 c1, .int .i64 c2]] w (WeighPost l r a ca b cb c0 c1 c2 w) := by
  obtain ⟨n, HN⟩ := nameIt l.length
  obtain ⟨m, HM⟩ := nameIt r.length
  have HL := Lib.hid hl
  have HR := Lib.hid hr
  rw [HN.out, HM.out]
  clear hl hr
  have hmk : ∀ W : World, (Instr.makeMap 174 none).run Try.prog W = .ok (.map (some W.heap.size)) (W.alloc (.map #[] 0)) := fun W => by
    simp [Instr.makeMap, run_underlying Try.underlying174]; try rfl
  go_enter Try.func17, Try.ntmps17
  go_wp2_with fail
  go_ret
  have al1 := fun (W : World) (o : Obj) => (Below.refl W.heap.size W).alloc (Nat.le_refl _) o
  have HB : Below w.heap.size w ((((((w.alloc (.cells #[.slice a n ca] 22)).alloc (.cells #[.slice b m cb] 22)).alloc (.cells #[.int .i64 c0, .int .i64 c1, .int .i64 c2] 23)).alloc (.map #[] 0)).alloc (.cells #[.map (some (w.heap.size + 1 + 1 + 1))] 174)).alloc (.cells #[.func (.func 98) #[] (lbW (w.heap.size + 1 + 1 + 1 + 1) w.heap.size (w.heap.size + 1 + 1) (w.heap.size + 1) (w.heap.size + 1 + 1 + 1 + 1 + 1))] 29)) :=
    ((((((Below.refl _ _).alloc (Nat.le_refl _) _).alloc (by simp) _).alloc (by simp; omega) _).alloc (by simp; omega) _).alloc (by simp; omega) _).alloc (by simp; omega) _
  refine ⟨w.heap.size + 1 + 1 + 1 + 1, w.heap.size, w.heap.size + 1 + 1, w.heap.size + 1, w.heap.size + 1 + 1 + 1 + 1 + 1, w.heap.size + 1 + 1 + 1, rfl, ⟨?_, ?_, ?_, ?_, ?_, ?_, ?_, ?_⟩, ?_, HB, by omega⟩
  · exact bx_keep (bx_new _ _ _ (by simp)) (al1 _ _)
  · rw [HN.out]; exact bx_keep (bx_keep (bx_keep (bx_keep (bx_keep (bx_new _ _ _ rfl) (al1 _ _)) (al1 _ _)) (al1 _ _)) (al1 _ _)) (al1 _ _)
  · exact bx_keep (bx_keep (bx_keep (bx_new _ _ _ (by simp)) (al1 _ _)) (al1 _ _)) (al1 _ _)
  · rw [HM.out]; exact bx_keep (bx_keep (bx_keep (bx_keep (bx_new _ _ _ (by simp)) (al1 _ _)) (al1 _ _)) (al1 _ _)) (al1 _ _)
  · exact bx_new _ _ _ (by simp)
  · exact ((rd_sl HL.out).mono (S' := fun k => k ≠ w.heap.size + 1 + 1 + 1) fun k _ hlt => by omega).below HB
  · exact ((rd_sl HR.out).mono (S' := fun k => k ≠ w.heap.size + 1 + 1 + 1) fun k _ hlt => by omega).below HB
  · omega
  · have h := ((Memo.start (dAt c0 c1 c2 l r) (((w.alloc (.cells #[.slice a n ca] 22)).alloc (.cells #[.slice b m cb] 22)).alloc (.cells #[.int .i64 c0, .int .i64 c1, .int .i64 c2] 23))).keep (al1 _ (.cells #[.map (some (w.heap.size + 1 + 1 + 1))] 174))).keep (al1 _ (.cells #[.func (.func 98) #[] (lbW (w.heap.size + 1 + 1 + 1 + 1) w.heap.size (w.heap.size + 1 + 1) (w.heap.size + 1) (w.heap.size + 1 + 1 + 1 + 1 + 1))] 29))
    simp at h
    exact h
end Wg
end Go.Proofs.Ytjehmleckcmilaa
