/- Contracts of package edit and of its second implementation: before, Over, Moved; Compose, Joined; Between, Change. -/
import Derived.Test.YtfbacnifankfkaaEditWalk
namespace Go.Proofs.Ytfbacnifankfkaa
open Go.RowKit

theorem bx_keep {w w' : World} {b : Nat} {o : Obj} (h : w.heap[b]? = some o) (hb : Below w.heap.size w w') : w'.heap[b]? = some o := by
  rw [hb.block b (Array.getElem?_eq_some_iff.1 h).1]; exact h

theorem bx_cells3 {w : World} {b : Nat} {x0 x1 x2 : Value} {T : TypeId} (h : w.heap[b]? = some (.cells #[x0, x1, x2] T (0, 0))) :
    w.cell? ⟨b, 0, none⟩ = some x0 ∧ w.cell? ⟨b, 0 + 1, none⟩ = some x1 ∧ w.cell? ⟨b, 0 + 2, none⟩ = some x2 := by
  refine ⟨?_, ?_, ?_⟩ <;> simp [World.cell?, h]

theorem bx_free3 {w : World} {b : Nat} {x0 x1 x2 : Value} {T : TypeId} (h : w.heap[b]? = some (.cells #[x0, x1, x2] T (0, 0))) :
    w.frozen? ⟨b, 0, none⟩ = false ∧ w.frozen? ⟨b, 0 + 1, none⟩ = false ∧ w.frozen? ⟨b, 0 + 2, none⟩ = false := by
  refine ⟨?_, ?_, ?_⟩ <;> simp [World.frozen?, h]

/-- an edit is before another one -/
def bef (f1 t1 f2 t2 : Int) : Bool := decide (t1 ≤ f2) && !(f1 == t1 && f2 == t2 && f1 == f2)

set_option maxHeartbeats 2000000 in
theorem before (f1 t1 f2 t2 : Int) (a1 a2 : Option Addr) (n1 n2 c1 c2 : Nat) (w : World) :
    Calls Try.prog 101 #[.agg #[.int .i64 f1, .int .i64 t1, .slice a1 n1 c1], .agg #[.int .i64 f2, .int .i64 t2, .slice a2 n2 c2]] w fun e w' => e = .returned (.bool (bef f1 t1 f2 t2)) ∧ Below w.heap.size w w' := by
  have HB := Lib.hid (((Below.refl w.heap.size w).alloc (Nat.le_refl _) (.cells #[.int .i64 f1, .int .i64 t1, .slice a1 n1 c1] 48)).alloc (by simp) (.cells #[.int .i64 f2, .int .i64 t2, .slice a2 n2 c2] 48))
  by_cases h4 : t1 ≤ f2 <;> cases h1 : (f1 == t1) <;> cases h2 : (f2 == t2) <;> cases h3 : (f1 == f2)
  all_goals
    obtain ⟨r, HE⟩ : ∃ r, Hid (bef f1 t1 f2 t2 = r ∧ r = bef f1 t1 f2 t2) := ⟨_, rfl, rfl⟩
    have HD : Hid (decide (t1 ≤ f2) = decide (t1 ≤ f2)) := rfl
    rw [HE.out.1]
    simp only [bef, h1, h2, h3, h4, decide_true, decide_false, Bool.and_false, Bool.and_true, Bool.false_and, Bool.true_and, Bool.not_false, Bool.not_true] at HE
    obtain ⟨_, rfl⟩ := HE.out
    clear HE HD
    go_enter Try.func101, Try.ntmps101
    go_wp2
    go_ret
    exact ⟨rfl, HB.out⟩

set_option maxHeartbeats 2000000 in
theorem beforeR (f1 t1 f2 t2 : Int) (a1 a2 : Option Addr) (n1 n2 c1 c2 : Nat) (w : World) :
    Calls Try.prog 100 #[.agg #[.int .i64 f1, .int .i64 t1, .slice a1 n1 c1], .agg #[.int .i64 f2, .int .i64 t2, .slice a2 n2 c2]] w fun e w' => e = .returned (.bool (bef f1 t1 f2 t2)) ∧ Below w.heap.size w w' := by
  have HB := Lib.hid (((Below.refl w.heap.size w).alloc (Nat.le_refl _) (.cells #[.int .i64 f1, .int .i64 t1, .slice a1 n1 c1] 48)).alloc (by simp) (.cells #[.int .i64 f2, .int .i64 t2, .slice a2 n2 c2] 48))
  by_cases h4 : t1 ≤ f2 <;> cases h1 : (f1 == t1) <;> cases h2 : (f2 == t2) <;> cases h3 : (f1 == f2)
  all_goals
    obtain ⟨r, HE⟩ : ∃ r, Hid (bef f1 t1 f2 t2 = r ∧ r = bef f1 t1 f2 t2) := ⟨_, rfl, rfl⟩
    have HD : Hid (decide (t1 ≤ f2) = decide (t1 ≤ f2)) := rfl
    rw [HE.out.1]
    simp only [bef, h1, h2, h3, h4, decide_true, decide_false, Bool.and_false, Bool.and_true, Bool.false_and, Bool.true_and, Bool.not_false, Bool.not_true] at HE
    obtain ⟨_, rfl⟩ := HE.out
    clear HE HD
    go_enter Try.func100, Try.ntmps100
    go_wp2
    go_ret
    exact ⟨rfl, HB.out⟩

/-- where an edit lies behind another one -/
def mv (f1 t1 n1 f2 t2 : Int) : Option (Int × Int) :=
  if bef f1 t1 f2 t2 = true then some (f2 + (n1 - (t1 - f1)), t2 + (n1 - (t1 - f1))) else if bef f2 t2 f1 t1 = true then some (f2, t2) else none

/-- an edit that is handed back, with something beside it -/
def EdPost (f t : Int) (l : List Int) (x : Value) (w : World) (e : Ending) (w' : World) : Prop :=
  ∃ a cap, e = .returned (.tuple #[.agg #[.int .i64 f, .int .i64 t, .slice a l.length cap], x]) ∧ Sl w' (.slice a l.length cap) (ints l) ∧ Below w.heap.size w w'

def mvPost (m : Option (Int × Int)) (v : Value) (w : World) (e : Ending) (w' : World) : Prop :=
  (match m with
  | some (f, t) => e = .returned (.tuple #[.agg #[.int .i64 f, .int .i64 t, v], .bool true])
  | none => e = .returned (.tuple #[.agg #[.int .i64 0, .int .i64 0, .slice none 0 0], .bool false])) ∧ Below w.heap.size w w'

theorem three_boxes (w : World) (A B C : Array Value) (T1 T2 T3 : TypeId) {w1 : World} (hb : Below ((((w.alloc (.cells A T1)).alloc (.cells B T2)).alloc (.cells C T3))).heap.size ((((w.alloc (.cells A T1)).alloc (.cells B T2)).alloc (.cells C T3))) w1) :
    w1.heap[w.heap.size]? = some (.cells A T1 (0, 0)) ∧ w1.heap[w.heap.size + 1]? = some (.cells B T2 (0, 0)) ∧ w1.heap[w.heap.size + 2]? = some (.cells C T3 (0, 0)) ∧ Below w.heap.size w w1 ∧ w.heap.size + 2 < w1.heap.size := by
  have h1 := heap_alloc_new w (.cells A T1)
  have h2 := heap_alloc_new (w.alloc (.cells A T1)) (.cells B T2)
  have h3 := heap_alloc_new ((w.alloc (.cells A T1)).alloc (.cells B T2)) (.cells C T3)
  have b1 : Below (w.alloc (.cells A T1)).heap.size (w.alloc (.cells A T1)) ((w.alloc (.cells A T1)).alloc (.cells B T2)) := (Below.refl _ _).alloc (Nat.le_refl _) _
  have b2 : Below ((w.alloc (.cells A T1)).alloc (.cells B T2)).heap.size ((w.alloc (.cells A T1)).alloc (.cells B T2)) (((w.alloc (.cells A T1)).alloc (.cells B T2)).alloc (.cells C T3)) := (Below.refl _ _).alloc (Nat.le_refl _) _
  have b0 : Below w.heap.size w (((w.alloc (.cells A T1)).alloc (.cells B T2)).alloc (.cells C T3)) := (((Below.refl w.heap.size w).alloc (Nat.le_refl _) _).alloc (by simp) _).alloc (by simp; omega) _
  refine ⟨bx_keep (bx_keep (bx_keep h1 b1) b2) hb, ?_, ?_, b0.trans (hb.mono b0.size), ?_⟩
  · have := bx_keep (bx_keep h2 b2) hb
    simpa using this
  · have := bx_keep h3 hb
    simpa using this
  · have := hb.size
    simp at this
    omega

set_option maxHeartbeats 2000000 in
set_option maxRecDepth 100000 in
theorem moved (f1 t1 f2 t2 : Int) (a1 a2 : Option Addr) (n1 : Nat) (l2 : List Int) (c1 c2 : Nat) (w : World) (h2 : Sl w (.slice a2 l2.length c2) (ints l2)) (b1 : 0 ≤ f1) (b2 : f1 ≤ t1) (b3 : t1 ≤ 140737488355328) (b4 : 0 ≤ f2) (b5 : f2 ≤ t2) (b6 : t2 ≤ 140737488355328) (b7 : n1 ≤ 140737488355328) :
    Calls Try.prog 60 #[.agg #[.int .i64 f1, .int .i64 t1, .slice a1 n1 c1], .agg #[.int .i64 f2, .int .i64 t2, .slice a2 l2.length c2]] w (mvPost (mv f1 t1 n1 f2 t2) (.slice a2 l2.length c2) w) := by
  have H2 := Lib.hid h2
  clear h2
  cases hm1 : bef f1 t1 f2 t2 with
  | true =>
    have HM : Hid (mv f1 t1 n1 f2 t2 = some (f2 + (n1 - (t1 - f1)), t2 + (n1 - (t1 - f1)))) := by show _ = _; rw [mv, if_pos hm1]
    have HM1 := Lib.hid hm1
    clear hm1
    go_enter Try.func60, Try.ntmps60
    go_wp2_with fail
    refine (beforeR f1 t1 f2 t2 a1 a2 n1 l2.length c1 c2 _).mono ?_
    rintro e w1 ⟨rfl, hb1⟩
    rw [HM1.out]
    obtain ⟨x1, x2, x3, hB, hsz⟩ := three_boxes w _ _ _ _ _ _ hb1
    obtain ⟨p0, p1, p2⟩ := bx_cells3 x1
    obtain ⟨q0, q1, q2⟩ := bx_cells3 x2
    obtain ⟨r0, r1, r2⟩ := bx_cells3 x3
    obtain ⟨s0, s1, s2⟩ := bx_free3 x3
    have HB := Lib.hid hB
    clear hb1 x1 x2 x3 hB
    go_wp2_with fail
    refine bodyPost_ret (v := .tuple #[.agg #[.int .i64 (f2 + ((n1 : Int) - t1 + f1)), .int .i64 (t2 + ((n1 : Int) - t1 + f1)), .slice a2 l2.length c2], .bool true]) (by simp [results, Try.results60, go_sem, r0, r1, r2]) rfl ?_
    rw [HM.out]
    have hB := ((HB.out.setCell (p := ⟨w.heap.size + 1 + 1, 0, none⟩) (by simp; omega) (.int .i64 (f2 + ((n1 : Int) - t1 + f1)))).setCell (p := ⟨w.heap.size + 1 + 1, 1, none⟩) (by simp; omega) (.int .i64 (t2 + ((n1 : Int) - t1 + f1)))).setCell (p := ⟨w.heap.size + 1 + 1, 2, none⟩) (by simp; omega) (.slice a2 l2.length c2)
    have e : (n1 : Int) - t1 + f1 = n1 - (t1 - f1) := by omega
    exact ⟨by rw [e], hB⟩
  | false =>
    have HM1 := Lib.hid hm1
    cases hm2 : bef f2 t2 f1 t1 with
    | true =>
      have HM : Hid (mv f1 t1 n1 f2 t2 = some (f2, t2)) := by show _ = _; rw [mv, if_neg (by rw [hm1]; simp), if_pos hm2]
      have HM2 := Lib.hid hm2
      clear hm1 hm2
      go_enter Try.func60, Try.ntmps60
      go_wp2_with fail
      refine (beforeR f1 t1 f2 t2 a1 a2 n1 l2.length c1 c2 _).mono ?_
      rintro e w1 ⟨rfl, hb1⟩
      rw [HM1.out]
      obtain ⟨x1, x2, x3, hB, hsz⟩ := three_boxes w _ _ _ _ _ _ hb1
      obtain ⟨p0, p1, p2⟩ := bx_cells3 x1
      obtain ⟨q0, q1, q2⟩ := bx_cells3 x2
      have X2 := Lib.hid x2
      have X3 := Lib.hid x3
      have HB := Lib.hid hB
      clear hb1 x1 x2 x3 hB
      go_wp2_with fail
      refine (beforeR f2 t2 f1 t1 a2 a1 l2.length n1 c2 c1 _).mono ?_
      rintro e w2 ⟨rfl, hb2⟩
      rw [HM2.out]
      have HB2 := Lib.hid (HB.out.trans (hb2.mono HB.out.size))
      have x2 := bx_keep X2.out hb2
      have x3 := bx_keep X3.out hb2
      clear p0 p1 p2 q0 q1 q2 hb2
      obtain ⟨q0, q1, q2⟩ := bx_cells3 x2
      obtain ⟨r0, r1, r2⟩ := bx_cells3 x3
      obtain ⟨s0, s1, s2⟩ := bx_free3 x3
      clear x2 x3
      go_wp2_with fail
      refine bodyPost_ret (v := .tuple #[.agg #[.int .i64 f2, .int .i64 t2, .slice a2 l2.length c2], .bool true]) (by simp [results, Try.results60, go_sem, r0, r1, r2]) rfl ?_
      rw [HM.out]
      have hB := ((HB2.out.setCell (p := ⟨w.heap.size + 1 + 1, 0, none⟩) (by simp; omega) (.int .i64 f2)).setCell (p := ⟨w.heap.size + 1 + 1, 1, none⟩) (by simp; omega) (.int .i64 t2)).setCell (p := ⟨w.heap.size + 1 + 1, 2, none⟩) (by simp; omega) (.slice a2 l2.length c2)
      exact ⟨rfl, hB⟩
    | false =>
      have HM : Hid (mv f1 t1 n1 f2 t2 = none) := by show _ = _; rw [mv, if_neg (by rw [hm1]; simp), if_neg (by rw [hm2]; simp)]
      have HM2 := Lib.hid hm2
      clear hm1 hm2
      go_enter Try.func60, Try.ntmps60
      go_wp2_with fail
      refine (beforeR f1 t1 f2 t2 a1 a2 n1 l2.length c1 c2 _).mono ?_
      rintro e w1 ⟨rfl, hb1⟩
      rw [HM1.out]
      obtain ⟨x1, x2, x3, hB, hsz⟩ := three_boxes w _ _ _ _ _ _ hb1
      obtain ⟨p0, p1, p2⟩ := bx_cells3 x1
      obtain ⟨q0, q1, q2⟩ := bx_cells3 x2
      have X3 := Lib.hid x3
      have HB := Lib.hid hB
      clear hb1 x1 x2 x3 hB
      go_wp2_with fail
      refine (beforeR f2 t2 f1 t1 a2 a1 l2.length n1 c2 c1 _).mono ?_
      rintro e w2 ⟨rfl, hb2⟩
      rw [HM2.out]
      have HB2 := Lib.hid (HB.out.trans (hb2.mono HB.out.size))
      have x3 := bx_keep X3.out hb2
      clear p0 p1 p2 q0 q1 q2 hb2
      obtain ⟨r0, r1, r2⟩ := bx_cells3 x3
      obtain ⟨s0, s1, s2⟩ := bx_free3 x3
      clear x3
      go_wp2_with fail
      refine bodyPost_ret (v := .tuple #[.agg #[.int .i64 0, .int .i64 0, .slice none 0 0], .bool false]) (by simp [results, Try.results60, go_sem, r0, r1, r2]) rfl ?_
      rw [HM.out]
      have hB := ((HB2.out.setCell (p := ⟨w.heap.size + 1 + 1, 0, none⟩) (by simp; omega) (.int .i64 0)).setCell (p := ⟨w.heap.size + 1 + 1, 1, none⟩) (by simp; omega) (.int .i64 0)).setCell (p := ⟨w.heap.size + 1 + 1, 2, none⟩) (by simp; omega) (.slice none 0 0)
      exact ⟨rfl, hB⟩
end Go.Proofs.Ytfbacnifankfkaa
