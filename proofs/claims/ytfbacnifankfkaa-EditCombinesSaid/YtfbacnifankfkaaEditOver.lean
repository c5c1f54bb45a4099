/- The contract of edit.Over. -/
import Derived.Test.YtfbacnifankfkaaEditTwo
import Derived.Deep.DeepCutAuto
namespace Go.Proofs.Ytfbacnifankfkaa
open Go.RowKit

/-- what edit.Over gives: an edit and an error -/
def over (n f1 t1 n1 f2 t2 : Int) (l2 : List Int) : Int × Int × List Int × Int :=
  if fault n f1 t1 n1 ≠ 0 then (0, 0, [], fault n f1 t1 n1) else
  if fault n f2 t2 l2.length ≠ 0 then (0, 0, [], fault n f2 t2 l2.length) else
  match mv f1 t1 n1 f2 t2 with
  | some (f, t) => (f, t, l2, 0)
  | none => (0, 0, [], 8)

def OverPost (r : Int × Int × List Int × Int) : World → Ending → World → Prop := EdPost r.1 r.2.1 r.2.2.1 (.int .i64 r.2.2.2)

theorem box_drew {w2 w3 : World} {cs : Array Value} {T : TypeId} (hb : Below (w2.alloc (.cells cs T)).drew.heap.size (w2.alloc (.cells cs T)).drew w3) : w3.heap[w2.heap.size]? = some (.cells cs T (0, 0)) := by
  have h : (w2.alloc (.cells cs T)).drew.heap[w2.heap.size]? = some (.cells cs T (0, 0)) := heap_alloc_new w2 (.cells cs T)
  exact bx_keep h hb

/-- the edit that is made, in the middle of edit.Over -/
def OverMid (w2 : World) (f2 t2 : Int) (l2 : List Int) (p : Value) (wx : World) : Prop :=
  ∃ bo a3 k3, p = .pointer (some ⟨bo, 0, none⟩) ∧ wx.heap[bo]? = some (.cells #[.int .i64 f2, .int .i64 t2, .slice a3 l2.length k3] 48 (0, 0)) ∧ wx.ownsRow w2.heap.size 3 1 (.slice a3 l2.length k3) l2.length (ints l2) ∧
    (Value.slice a3 l2.length k3).ownBlock ≠ some bo ∧ w2.heap.size ≤ bo ∧ Below w2.heap.size w2 wx

theorem clone_over {w2 W : World} {a2 : Option Addr} {c2 : Nat} {l2 : List Int} (h2 : Sl w2 (.slice a2 l2.length c2) (ints l2)) (b8 : l2.length * 8 ≤ 140737488351232) (hb : Below w2.heap.size w2 W) :
    Calls Try.prog 84 #[.slice a2 l2.length c2] W fun e w3 => ∃ a3 k3, e = .returned (.slice a3 l2.length k3) ∧ w3.ownsRow W.heap.size 3 1 (.slice a3 l2.length k3) l2.length (ints l2) ∧ Below w2.heap.size w2 w3 ∧ Below W.heap.size W w3 :=
  (clone_int (.slice a2 l2.length c2) l2 W (h2.keep hb) (by omega)).mono fun e w3 ⟨a3, k3, he, ho, hb3⟩ => ⟨a3, k3, he, ho, hb.trans (hb3.mono hb.size), hb3⟩

theorem set3 {w : World} {b : Nat} {y0 y1 y2 : Value} {T : TypeId} (h : w.heap[b]? = some (.cells #[y0, y1, y2] T (0, 0))) (x0 x1 x2 : Value) :
    (((w.setCell ⟨b, 0, none⟩ x0).setCell ⟨b, 1, none⟩ x1).setCell ⟨b, 2, none⟩ x2).heap[b]? = some (.cells #[x0, x1, x2] T (0, 0)) := by
  simp [World.setCell, Array.getElem?_modify, h]

theorem grown3 (w : World) (b : Nat) (x0 x1 x2 : Value) : w.grownBy (((w.setCell ⟨b, 0, none⟩ x0).setCell ⟨b, 1, none⟩ x1).setCell ⟨b, 2, none⟩ x2) (some b) :=
  grown_trans (grown_trans (grown_cell w ⟨b, 0, none⟩ x0) (grown_cell _ ⟨b, 1, none⟩ x1)) (grown_cell _ ⟨b, 2, none⟩ x2)

theorem overMid_a {w2 w3 : World} {f2 t2 : Int} {l2 : List Int} {a3 : Option Addr} {k3 : Nat} (ho : w3.ownsRow w2.heap.size 3 1 (.slice a3 l2.length k3) l2.length (ints l2)) (hb : Below w2.heap.size w2 w3) :
    OverMid w2 f2 t2 l2 (.pointer (some ⟨w3.heap.size, 0, none⟩)) (w3.alloc (.cells #[.int .i64 f2, .int .i64 t2, .slice a3 l2.length k3] 48)) := by
  refine ⟨_, a3, k3, rfl, heap_alloc_new w3 _, ho.alloc _, fun e => ?_, hb.size, hb.alloc hb.size _⟩
  have := (ho.lt _ e).2
  omega

theorem overMid_b {w2 w3 : World} {f2 t2 : Int} {l2 : List Int} {a3 : Option Addr} {k3 : Nat} {y0 y1 y2 : Value} (ho : w3.ownsRow (w2.heap.size + 1) 3 1 (.slice a3 l2.length k3) l2.length (ints l2)) (hb : Below w2.heap.size w2 w3) (hx : w3.heap[w2.heap.size]? = some (.cells #[y0, y1, y2] 48 (0, 0))) :
    OverMid w2 f2 t2 l2 (.pointer (some ⟨w2.heap.size, 0, none⟩)) (((w3.setCell ⟨w2.heap.size, 0, none⟩ (.int .i64 f2)).setCell ⟨w2.heap.size, 1, none⟩ (.int .i64 t2)).setCell ⟨w2.heap.size, 2, none⟩ (.slice a3 l2.length k3)) := by
  have hne : (Value.slice a3 l2.length k3).ownBlock ≠ some w2.heap.size := fun e => by have := (ho.lt _ e).1; omega
  refine ⟨_, a3, k3, rfl, set3 hx _ _ _, (ho.kept (grown3 w3 w2.heap.size _ _ _) (.inr hne)).mono (by omega), hne, Nat.le_refl _, ?_⟩
  exact ((hb.setCell (by simp) _).setCell (by simp) _).setCell (by simp) _

set_option maxHeartbeats 2000000 in
set_option maxRecDepth 100000 in
theorem overE (n f1 t1 f2 t2 : Int) (a1 a2 : Option Addr) (n1 : Nat) (l2 : List Int) (c1 c2 : Nat) (w : World) (h2 : Sl w (.slice a2 l2.length c2) (ints l2)) (hn : 0 ≤ n) (hn2 : n ≤ 17592186044416) (b7 : n1 ≤ 17592186044416) (b8 : l2.length * 8 ≤ 140737488351232) :
    Calls Try.prog 61 #[.int .i64 n, .agg #[.int .i64 f1, .int .i64 t1, .slice a1 n1 c1], .agg #[.int .i64 f2, .int .i64 t2, .slice a2 l2.length c2]] w (OverPost (over n f1 t1 n1 f2 t2 l2) w) := by
  have H2 := Lib.hid h2
  clear h2
  obtain ⟨F1, HF1⟩ : ∃ F, Hid (fault n f1 t1 n1 = F) := ⟨_, rfl⟩
  obtain ⟨F2, HF2⟩ : ∃ F, Hid (fault n f2 t2 l2.length = F) := ⟨_, rfl⟩
  go_enter Try.func61, Try.ntmps61
  go_wp2_with fail
  refine (check n f1 t1 a1 n1 c1 _ (by omega) (by omega) (by omega)).mono ?_
  rintro e w1 ⟨rfl, hb1⟩
  rw [HF1.out]
  obtain ⟨x1, x2, x3, hB, hsz⟩ := three_boxes w _ _ _ _ _ _ hb1
  have X1 := Lib.hid x1
  have X2 := Lib.hid x2
  have X3 := Lib.hid x3
  have HB := Lib.hid hB
  by_cases hF1 : F1 = 0
  · subst hF1
    obtain ⟨z1, z2, z3, z4⟩ := fault_zero HF1.out
    obtain ⟨q0, q1, q2⟩ := bx_cells3 x2
    clear hb1 x1 x2 x3 hB
    go_wp2_with fail
    refine (check n f2 t2 a2 l2.length c2 _ (by omega) (by omega) (by omega)).mono ?_
    rintro e w2 ⟨rfl, hb2⟩
    rw [HF2.out]
    have HB2 := Lib.hid (HB.out.trans (hb2.mono HB.out.size))
    have hsz2 : w.heap.size + 2 < w2.heap.size := by have := hb2.size; omega
    have y1 := bx_keep X1.out hb2
    have y2 := bx_keep X2.out hb2
    have y3 := bx_keep X3.out hb2
    have Y1 := Lib.hid y1
    have Y2 := Lib.hid y2
    have Y3 := Lib.hid y3
    clear q0 q1 q2 X1 X2 X3 hb2
    by_cases hF2 : F2 = 0
    · subst hF2
      obtain ⟨z5, z6, z7, z8⟩ := fault_zero HF2.out
      obtain ⟨q0, q1, q2⟩ := bx_cells3 y2
      have HCLa := Lib.hid (clone_over (H2.out.keep HB2.out) b8 (Below.refl _ _).drew)
      have HCLb := Lib.hid (clone_over (H2.out.keep HB2.out) b8 ((Below.refl w2.heap.size w2).alloc (Nat.le_refl _) (.cells #[.int .i64 0, .int .i64 0, .slice none 0 0] 48)).drew)
      clear y1 y2 y3
      have hne1 : ¬ w2.heap.size = w.heap.size + 1 := by omega
      have hne2 : ¬ w.heap.size + 1 = w2.heap.size := by omega
      go_upto_region 7 with fail
      go_cut [10] (fun p wx => OverMid w2 f2 t2 l2 p wx)
      case first =>
        go_region_held3 (fun w' => w'.cell? ⟨w.heap.size + 1, 0, none⟩ = w2.cell? ⟨w.heap.size + 1, 0, none⟩ ∧ w'.cell? ⟨w.heap.size + 1, 0 + 1, none⟩ = w2.cell? ⟨w.heap.size + 1, 0 + 1, none⟩ ∧ w'.cell? ⟨w.heap.size + 1, 0 + 2, none⟩ = w2.cell? ⟨w.heap.size + 1, 0 + 2, none⟩) (first | go_keep | exact ⟨k0, k1, k2⟩)
          (first
            | (go_at_call 84; refine HCLa.out.mono ?_; rintro e w3 ⟨a3, k3, rfl, ho3, hb3, hb4⟩; have k0 := hb3.cell (p := ⟨w.heap.size + 1, 0, none⟩) (by show w.heap.size + 1 < w2.heap.size; omega); have k1 := hb3.cell (p := ⟨w.heap.size + 1, 0 + 1, none⟩) (by show w.heap.size + 1 < w2.heap.size; omega); have k2 := hb3.cell (p := ⟨w.heap.size + 1, 0 + 2, none⟩) (by show w.heap.size + 1 < w2.heap.size; omega); have HO3 := Lib.hid ho3; have HB3 := Lib.hid hb3; have HB4 := Lib.hid hb4; clear ho3 hb3 hb4)
            | (go_at_call 84; refine HCLb.out.mono ?_; rintro e w3 ⟨a3, k3, rfl, ho3, hb3, hb4⟩; have k0 := hb3.cell (p := ⟨w.heap.size + 1, 0, none⟩) (by show w.heap.size + 1 < w2.heap.size; omega); have k1 := hb3.cell (p := ⟨w.heap.size + 1, 0 + 1, none⟩) (by show w.heap.size + 1 < w2.heap.size; omega); have k2 := hb3.cell (p := ⟨w.heap.size + 1, 0 + 2, none⟩) (by show w.heap.size + 1 < w2.heap.size; omega); have x4 := box_drew hb4; obtain ⟨m0, m1, m2⟩ := bx_cells3 x4; obtain ⟨m3, m4, m5⟩ := bx_free3 x4; have X4 := Lib.hid x4; have HO3 := Lib.hid ho3; have HB3 := Lib.hid hb3; have HB4 := Lib.hid hb4; clear ho3 hb3 hb4 x4))
        all_goals go_wp2_with fail
        all_goals go_meet
        · exact overMid_a HO3.out HB3.out
        · exact overMid_b (by have h := HO3.out; simpa using h) HB3.out X4.out
      case rest =>
        obtain ⟨bo, a3, k3, rfl, x4, ho3, hneo, hle, hb3⟩ := hcut
        have y1 := bx_keep Y1.out hb3
        have y2 := bx_keep Y2.out hb3
        have y3 := bx_keep Y3.out hb3
        have hB3 := HB2.out.trans (hb3.mono HB2.out.size)
        have hz3 := hb3.size
        have X4 := Lib.hid x4
        have HO3 := Lib.hid ho3
        have HNE := Lib.hid hneo
        have HB3 := Lib.hid hB3
        have W1 := Lib.hid y1
        have W2 := Lib.hid y2
        have W3 := Lib.hid y3
        obtain ⟨p0, p1, p2⟩ := bx_cells3 y1
        clear q0 q1 q2
        obtain ⟨q0, q1, q2⟩ := bx_cells3 y2
        clear Y1 Y2 Y3 y1 y2 y3 x4 ho3 hneo hb3 hB3 HCLa HCLb hne1 hne2
        go_wp2_with fail
        refine (before f1 t1 f2 t2 a1 a2 n1 l2.length c1 c2 _).mono ?_
        rintro e w4 ⟨rfl, hb4⟩
        have HB4 := Lib.hid (HB3.out.trans (hb4.mono HB3.out.size))
        have HO4 := Lib.hid (own_keep HO3.out hb4)
        have x4 := bx_keep X4.out hb4
        have y1 := bx_keep W1.out hb4
        have y2 := bx_keep W2.out hb4
        have y3 := bx_keep W3.out hb4
        have hz4 := hb4.size
        clear p0 p1 p2 q0 q1 q2 hb4 X4 W1 W2 W3 HO3
        have X4 := Lib.hid x4
        have W1 := Lib.hid y1
        have W2 := Lib.hid y2
        have W3 := Lib.hid y3
        cases hm1 : bef f1 t1 f2 t2 with
        | true =>
          have HM : Hid (over n f1 t1 n1 f2 t2 l2 = (f2 + (n1 - (t1 - f1)), t2 + (n1 - (t1 - f1)), l2, 0)) := by
            show _ = _; rw [over, if_neg (by rw [HF1.out]; simp), if_neg (by rw [HF2.out]; simp), mv, if_pos hm1]
          obtain ⟨p0, p1, p2⟩ := bx_cells3 y1
          obtain ⟨o0, o1, o2⟩ := bx_cells3 x4
          obtain ⟨o3, o4, o5⟩ := bx_free3 x4
          obtain ⟨r0, r1, r2⟩ := bx_cells3 y3
          obtain ⟨s0, s1, s2⟩ := bx_free3 y3
          clear hm1 x4 y1 y2 y3
          have hn1 : ¬ bo = w.heap.size + 2 := by omega
          have hn2 : ¬ w.heap.size + 2 = bo := by omega
          have hn3 : ¬ bo = w.heap.size := by omega
          have hn4 : ¬ w.heap.size = bo := by omega
          have hn5 : ¬ bo = w.heap.size + 1 + 1 := by omega
          have hn6 : ¬ w.heap.size + 1 + 1 = bo := by omega
          go_wp2_with fail
          refine bodyPost_ret (v := .tuple #[.agg #[.int .i64 (f2 + ((n1 : Int) - (t1 - f1))), .int .i64 (t2 + ((n1 : Int) - (t1 - f1))), .slice a3 l2.length k3], .int .i64 0]) (by simp [results, Try.results61, go_sem, r0, r1, r2, hn1, hn2]) rfl ?_
          rw [HM.out]
          refine ⟨a3, k3, rfl, sl_of_own (B := w2.heap.size) (e := 3) (n := l2.length) ?_, ?_⟩
          · refine ((HO4.out.kept (grown_trans (grown_cell w4 ⟨bo, 0, none⟩ _) (grown_cell _ ⟨bo, 1, none⟩ _)) (.inr HNE.out)).kept (grown3 _ (w.heap.size + 1 + 1) _ _ _) (.inr fun e => ?_))
            have := (HO4.out.lt _ e).1
            omega
          · exact ((((HB4.out.setCell (by simp; omega) _).setCell (by simp; omega) _).setCell (by simp; omega) _).setCell (by simp; omega) _).setCell (by simp; omega) _
        | false =>
          obtain ⟨p0, p1, p2⟩ := bx_cells3 y1
          obtain ⟨q0, q1, q2⟩ := bx_cells3 y2
          have HM1 := Lib.hid hm1
          clear x4 y1 y2 y3 hm1
          go_wp2_with fail
          refine (before f2 t2 f1 t1 a2 a1 l2.length n1 c2 c1 _).mono ?_
          rintro e w5 ⟨rfl, hb5⟩
          have HB5 := Lib.hid (HB4.out.trans (hb5.mono HB4.out.size))
          have HO5 := Lib.hid (own_keep HO4.out hb5)
          have x4 := bx_keep X4.out hb5
          have y3 := bx_keep W3.out hb5
          clear p0 p1 p2 q0 q1 q2 hb5 X4 W1 W2 W3 HO4
          cases hm2 : bef f2 t2 f1 t1 with
          | true =>
            have HM : Hid (over n f1 t1 n1 f2 t2 l2 = (f2, t2, l2, 0)) := by
              show _ = _; rw [over, if_neg (by rw [HF1.out]; simp), if_neg (by rw [HF2.out]; simp), mv, if_neg (by rw [HM1.out]; simp), if_pos hm2]
            obtain ⟨o0, o1, o2⟩ := bx_cells3 x4
            obtain ⟨r0, r1, r2⟩ := bx_cells3 y3
            obtain ⟨s0, s1, s2⟩ := bx_free3 y3
            clear hm2 x4 y3
            go_wp2_with fail
            refine bodyPost_ret (v := .tuple #[.agg #[.int .i64 f2, .int .i64 t2, .slice a3 l2.length k3], .int .i64 0]) (by simp [results, Try.results61, go_sem, r0, r1, r2]) rfl ?_
            rw [HM.out]
            refine ⟨a3, k3, rfl, sl_of_own (B := w2.heap.size) (e := 3) (n := l2.length) ?_, ?_⟩
            · refine HO5.out.kept (grown3 _ (w.heap.size + 1 + 1) _ _ _) (.inr fun e => ?_)
              have := (HO5.out.lt _ e).1
              omega
            · exact ((HB5.out.setCell (by simp; omega) _).setCell (by simp; omega) _).setCell (by simp; omega) _
          | false =>
            have HM : Hid (over n f1 t1 n1 f2 t2 l2 = (0, 0, [], 8)) := by
              show _ = _; rw [over, if_neg (by rw [HF1.out]; simp), if_neg (by rw [HF2.out]; simp), mv, if_neg (by rw [HM1.out]; simp), if_neg (by rw [hm2]; simp)]
            obtain ⟨r0, r1, r2⟩ := bx_cells3 y3
            obtain ⟨s0, s1, s2⟩ := bx_free3 y3
            clear hm2 x4 y3
            go_wp2_with fail
            refine bodyPost_ret (v := .tuple #[.agg #[.int .i64 0, .int .i64 0, .slice none 0 0], .int .i64 8]) (by simp [results, Try.results61, go_sem, r0, r1, r2]) rfl ?_
            rw [HM.out]
            exact ⟨none, 0, rfl, sl_of_own (World.ownsRow_nil _ 0 0 1), ((HB5.out.setCell (by simp; omega) _).setCell (by simp; omega) _).setCell (by simp; omega) _⟩
    · have hne : (F2 != 0) = true := by rw [bne_iff_ne]; exact hF2
      have HM : Hid (over n f1 t1 n1 f2 t2 l2 = (0, 0, [], F2)) := by
        show _ = _; rw [over, if_neg (by rw [HF1.out]; simp), if_pos (by rw [HF2.out]; exact hF2), HF2.out]
      have HF := Lib.hid hF2
      obtain ⟨r0, r1, r2⟩ := bx_cells3 y3
      obtain ⟨s0, s1, s2⟩ := bx_free3 y3
      clear hF2 y1 y2 y3
      go_wp2_with fail
      refine bodyPost_ret (v := .tuple #[.agg #[.int .i64 0, .int .i64 0, .slice none 0 0], .int .i64 F2]) (by simp [results, Try.results61, go_sem, r0, r1, r2]) rfl ?_
      rw [HM.out]
      exact ⟨none, 0, rfl, sl_of_own (World.ownsRow_nil _ 0 0 1), ((HB2.out.setCell (by simp; omega) _).setCell (by simp; omega) _).setCell (by simp; omega) _⟩
  · have hne : (F1 != 0) = true := by rw [bne_iff_ne]; exact hF1
    have HM : Hid (over n f1 t1 n1 f2 t2 l2 = (0, 0, [], F1)) := by
      show _ = _; rw [over, if_pos (by rw [HF1.out]; exact hF1), HF1.out]
    have HF := Lib.hid hF1
    obtain ⟨r0, r1, r2⟩ := bx_cells3 x3
    obtain ⟨s0, s1, s2⟩ := bx_free3 x3
    clear hF1 hb1 x1 x2 x3 hB
    go_wp2_with fail
    refine bodyPost_ret (v := .tuple #[.agg #[.int .i64 0, .int .i64 0, .slice none 0 0], .int .i64 F1]) (by simp [results, Try.results61, go_sem, r0, r1, r2]) rfl ?_
    rw [HM.out]
    exact ⟨none, 0, rfl, sl_of_own (World.ownsRow_nil _ 0 0 1), ((HB.out.setCell (by simp; omega) _).setCell (by simp; omega) _).setCell (by simp; omega) _⟩
end Go.Proofs.Ytfbacnifankfkaa
