/- slices.Backward over a slice of edits. -/
import Derived.Test.YtjehmleckcmilaaEdList
import Derived.Test.YtjehmleckcmilaaRangeOrd
import Derived.Shelf.Abstract
import Derived.Shelf.RegionOpen
import Derived.WalkKit
import Derived.OwnWalkIn
import Derived.TacticsInMore
import Derived.LoopNIn
import Derived.LoopIn
namespace Go.Proofs.Ytjehmleckcmilaa
open Go Go.RowKit Go.Shelf
attribute [local go_sem] Oper.semAt_some

/-- what yield is handed in round k: the index and the edit -/
def bwEnc (f t : Nat → Int) (u : Nat → Value) (len k : Nat) : Array Value := #[.int .i64 ((len - 1 - k : Nat) : Int), .agg #[.int .i64 (f (len - 1 - k)), .int .i64 (t (len - 1 - k)), u (len - 1 - k)]]

set_option maxRecDepth 100000 in
set_option maxHeartbeats 2000000 in
theorem backward1 (n : Nat) (hn : 1 ≤ n) (l Bs B b off len cap : Nat) (f t : Nat → Int) (u : Nat → Value) (hlen : len ≤ 140737488355328) (hb : b < B) (J : Nat → World → Prop)
    (hY : ∀ k V, k < len → J k V → YieldAt Fence.wide (n - 1) Try.prog l (bwEnc f t u len k) V fun e V' => e = .returned (.bool true) ∧ J (k + 1) V' ∧ KeepsB B Bs V V')
    (W : World) (hBs : W.cell? ⟨Bs, 0, none⟩ = some (.slice (some ⟨b, off, none⟩) len cap)) (hc : ∀ i, i < len → W.cell? ⟨b, off + i * 3, none⟩ = some (.int .i64 (f i)) ∧ W.cell? ⟨b, off + i * 3 + 1, none⟩ = some (.int .i64 (t i)) ∧ W.cell? ⟨b, off + i * 3 + 2, none⟩ = some (u i)) (h0 : J 0 W) :
    CallsIn Fence.wide n Try.prog 175 #[.func (.yield l) #[] #[], .pointer (some ⟨Bs, 0, none⟩)] W fun e W' => (∃ v, e = .returned v) ∧ J len W' := by
  refine callsIn_of_wp Try.func175 rfl trivial ?_ rfl
  simp only [Try.ntmps175, List.size_toArray, List.length_cons, List.length_nil, Nat.reduceAdd, Nat.reduceSub, Array.replicate_succ, Array.replicate_zero, List.push_toArray, List.append_toArray, List.nil_append, List.cons_append]
  gi_wp2
  gi_loopw [3] (fun v wr => ∃ m : Nat, m ≤ len ∧ v = .int .i64 ((m : Int) - 1) ∧ J (len - m) wr ∧ Hid (KeepsB B Bs W wr))
    (fun v _ => ((intOf v) + 1).toNat)
  case atStart => exact ⟨len, Nat.le_refl _, by first | rfl | simp, by rw [Nat.sub_self]; exact h0, Lib.hid ⟨Below.refl _ _, rfl⟩⟩
  case round =>
    obtain ⟨m, hm, rfl, hJ, HK⟩ := hrel
    cases m with
    | zero =>
      have e0 : ((0 : Nat) : Int) - 1 = -1 := by simp
      rw [e0]
      gi_wp2
      go_end0
      exact ⟨⟨_, rfl⟩, by simpa using hJ⟩
    | succ i =>
      have e0 : ((i + 1 : Nat) : Int) - 1 = i := by omega
      rw [e0]
      have hk : len - (i + 1) < len := by omega
      have hi : i < len := by omega
      have ei : len - 1 - (len - (i + 1)) = i := by omega
      obtain ⟨fn, tmps, assign, body, hy, hR⟩ := hY _ wr hk hJ
      unfold bwEnc at hy
      rw [ei] at hy
      rw [show len - (i + 1) + 1 = len - i by omega] at hR
      have hBs' : wr.cell? ⟨Bs, 0, none⟩ = some (.slice (some ⟨b, off, none⟩) len cap) := (HK.out.cell (p := ⟨Bs, 0, none⟩) (.inr rfl)).trans hBs
      obtain ⟨c0, c1, c2⟩ := hc i hi
      have c0' := (HK.out.cell (p := ⟨b, off + i * 3, none⟩) (.inl hb)).trans c0
      have c1' := (HK.out.cell (p := ⟨b, off + i * 3 + 1, none⟩) (.inl hb)).trans c1
      have c2' := (HK.out.cell (p := ⟨b, off + i * 3 + 2, none⟩) (.inl hb)).trans c2
      clear hc c0 c1 c2 hBs hY
      gi_wp2
      refine hR.mono ?_
      rintro e W3 ⟨rfl, hJ3, hk3⟩
      have HK3 := Lib.hid (HK.out.trans hk3)
      clear hk3
      gi_wp2
      go_roundw
      case rel => exact ⟨i, by omega, by simp, hJ3, HK3⟩
      case measure => simp [intOf]

set_option maxRecDepth 100000 in
set_option maxHeartbeats 1000000 in
theorem backward1_nil (n : Nat) (l Bs : Nat) (a : Option Addr) (cap : Nat) (J : Nat → World → Prop) (W : World) (hBs : W.cell? ⟨Bs, 0, none⟩ = some (.slice a 0 cap)) (h0 : J 0 W) :
    CallsIn Fence.wide n Try.prog 175 #[.func (.yield l) #[] #[], .pointer (some ⟨Bs, 0, none⟩)] W fun e W' => (∃ v, e = .returned v) ∧ J 0 W' := by
  refine callsIn_of_wp Try.func175 rfl trivial ?_ rfl
  simp only [Try.ntmps175, List.size_toArray, List.length_cons, List.length_nil, Nat.reduceAdd, Nat.reduceSub, Array.replicate_succ, Array.replicate_zero, List.push_toArray, List.append_toArray, List.nil_append, List.cons_append]
  gi_wp2
  gi_loopw [3] (fun v wr => v = .int .i64 (-1) ∧ J 0 wr) (fun _ _ => 0)
  case atStart => exact ⟨by first | rfl | simp, h0⟩
  case round =>
    obtain ⟨rfl, hJ⟩ := hrel
    gi_wp2
    go_end0
    exact ⟨⟨_, rfl⟩, hJ⟩

set_option maxHeartbeats 1000000 in
theorem backward (n : Nat) (v : Value) (w : World) (hv : ∃ a k cap, v = .slice a k cap) :
    CallsIn Fence.wide n Try.prog 106 #[v] w fun e w' => e = .returned (.func (.func 175) #[] #[.pointer (some ⟨w.heap.size, 0, none⟩)]) ∧ w' = w.alloc (.cells #[v] 60) := by
  obtain ⟨a, k, cap, rfl⟩ := hv
  refine callsIn_of_wp Try.func106 rfl trivial ?_ rfl
  simp only [Try.ntmps106, List.size_toArray, List.length_cons, List.length_nil, Nat.reduceAdd, Nat.reduceSub, Array.replicate_succ, Array.replicate_zero, List.push_toArray, List.append_toArray, List.nil_append, List.cons_append]
  gi_wp2
  go_ret
  exact ⟨rfl, rfl⟩

/-- the new parts of edits in memory -/
theorem eds_cellsAll {w : World} {es : List Ed} {a : Option Addr} {k cap : Nat} (h : Rd AnyB w (.sl (es.map Ed.d)) [.slice a k cap]) (hp : 0 < es.length) :
    ∃ b off, ∃ u : Nat → Value, a = some ⟨b, off, none⟩ ∧ b < w.heap.size ∧ ∀ i (hi : i < es.length), w.cell? ⟨b, off + i * 3, none⟩ = some (.int .i64 es[i].f) ∧ w.cell? ⟨b, off + i * 3 + 1, none⟩ = some (.int .i64 es[i].t) ∧ w.cell? ⟨b, off + i * 3 + 2, none⟩ = some (u i) ∧ Sl w (u i) (ints es[i].new) := by
  obtain ⟨b, off, _, rfl, _, hlt, _⟩ := Rd.ed_at h hp
  refine ⟨b, off, fun i => (w.cell? ⟨b, off + i * 3 + 2, none⟩).getD undef, rfl, hlt, fun i hi => ?_⟩
  obtain ⟨b', off', u, e, _, _, h1, h2, h3, h4⟩ := Rd.ed_at h hi
  cases e
  refine ⟨h1, h2, ?_, ?_⟩
  · dsimp only; rw [h3]; rfl
  · dsimp only; rw [h3]; exact sl_rd h4

theorem backward_ord (n : Nat) (hn : 1 ≤ n) (Bs B b off len cap : Nat) (f t : Nat → Int) (u : Nat → Value) (hlen : len ≤ 140737488355328) (hb : b < B) (w : World) (hB : B ≤ w.heap.size) (hs : Bs < w.heap.size)
    (hBs : w.cell? ⟨Bs, 0, none⟩ = some (.slice (some ⟨b, off, none⟩) len cap)) (hc : ∀ i, i < len → w.cell? ⟨b, off + i * 3, none⟩ = some (.int .i64 (f i)) ∧ w.cell? ⟨b, off + i * 3 + 1, none⟩ = some (.int .i64 (t i)) ∧ w.cell? ⟨b, off + i * 3 + 2, none⟩ = some (u i)) :
    SeqOrd Fence.wide n Try.prog 175 #[.pointer (some ⟨Bs, 0, none⟩)] (bwEnc f t u len) (KeepsB B Bs) len w := fun l J W hW hY h0 =>
  backward1 n hn l Bs B b off len cap f t u hlen hb J hY W ((hW.cell (p := ⟨Bs, 0, none⟩) hs).trans hBs)
    (fun i hi => ⟨(hW.cell (p := ⟨b, off + i * 3, none⟩) (Nat.lt_of_lt_of_le hb hB)).trans (hc i hi).1, (hW.cell (p := ⟨b, off + i * 3 + 1, none⟩) (Nat.lt_of_lt_of_le hb hB)).trans (hc i hi).2.1, (hW.cell (p := ⟨b, off + i * 3 + 2, none⟩) (Nat.lt_of_lt_of_le hb hB)).trans (hc i hi).2.2⟩) h0
theorem backward_none (n : Nat) (Bs B : Nat) (a : Option Addr) (cap : Nat) (encs : Nat → Array Value) (w : World) (hs : Bs < w.heap.size) (hBs : w.cell? ⟨Bs, 0, none⟩ = some (.slice a 0 cap)) :
    SeqOrd Fence.wide n Try.prog 175 #[.pointer (some ⟨Bs, 0, none⟩)] encs (KeepsB B Bs) 0 w := fun l J W hW _ h0 =>
  backward1_nil n l Bs a cap J W ((hW.cell (p := ⟨Bs, 0, none⟩) hs).trans hBs) h0
end Go.Proofs.Ytjehmleckcmilaa
