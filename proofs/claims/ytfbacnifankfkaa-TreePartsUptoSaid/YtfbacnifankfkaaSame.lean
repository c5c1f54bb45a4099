/- The contract of SameTree, of two equal trees. -/
import Derived.Test.YtfbacnifankfkaaNodes
import Derived.Deep.QuietTactic
import Derived.BigQuiet
import Derived.Deep.DeepCutAuto
namespace Go.Proofs.Ytfbacnifankfkaa
open Go.RowKit

theorem treeBox' {w0 : World} {t : Tree} {v : Value} (hv : Rd AnyB w0 (.sl (t.kids.map Tree.d)) [v]) : ∃ a n cap, v = .slice a n cap := by
  obtain ⟨a, cap, rfl, _⟩ := hv.form; exact ⟨a, _, cap, rfl⟩

def SameMid (w0 : World) (t : Tree) (x y : Value) (wx : World) : Prop :=
  Rd AnyB wx (.sl ((nodes t).map Tree.d)) [x] ∧ Rd AnyB wx (.sl ((nodes t).map Tree.d)) [y] ∧ Below w0.heap.size w0 wx

set_option maxHeartbeats 1000000 in
set_option maxRecDepth 100000 in
theorem sameE (t : Tree) (v u : Value) (w : World) (hv : Rd AnyB w (.sl (t.kids.map Tree.d)) [v]) (hu : Rd AnyB w (.sl (t.kids.map Tree.d)) [u]) (hN : (nodes t).length ≤ 1099511627776) :
    Calls Try.prog 36 #[.agg #[.int .i64 t.rule, .int .i64 t.term, v], .agg #[.int .i64 t.rule, .int .i64 t.term, u]] w fun e w' => e = .returned (.bool true) ∧ Below w.heap.size w w' := by
  obtain ⟨a, n, cap, rfl⟩ := treeBox' hv
  obtain ⟨au, nu, capu, rfl⟩ := treeBox' hu
  obtain ⟨w0, HW0⟩ := nameIt ((w.alloc (.cells #[.int .i64 t.rule, .int .i64 t.term, .slice a n cap] 59)).alloc (.cells #[.int .i64 t.rule, .int .i64 t.term, .slice au nu capu] 59))
  have HB : Hid (Below w.heap.size w w0) := by rw [← HW0.out]; exact ((Below.refl _ _).alloc (Nat.le_refl _) _).alloc (by simp) _
  have X1 : Hid (w0.heap[w.heap.size]? = some (.cells #[.int .i64 t.rule, .int .i64 t.term, .slice a n cap] 59 (0, 0))) := by
    rw [← HW0.out]; exact bx_keep (bx_new _ _ _ rfl) ((Below.refl _ _).alloc (Nat.le_refl _) _)
  have X2 : Hid (w0.heap[w.heap.size + 1]? = some (.cells #[.int .i64 t.rule, .int .i64 t.term, .slice au nu capu] 59 (0, 0))) := by
    rw [← HW0.out]; exact bx_new _ _ _ (by simp)
  have HN1 := Lib.hid (fun W (hb : Below w0.heap.size w0 W) => nodesE t _ W ((hv.below HB.out).below hb) hN)
  have HN2 := Lib.hid (fun W (hb : Below w0.heap.size w0 W) => nodesE t _ W ((hu.below HB.out).below hb) hN)
  obtain ⟨x0, x1, x2⟩ := bx_cells3 X1.out
  obtain ⟨y0, y1, y2⟩ := bx_cells3 X2.out
  clear hv hu
  obtain ⟨l, HL⟩ := nameIt (nodes t)
  go_enter Try.func36, Try.ntmps36
  go_wp2_with fail
  rw [HW0.out]
  go_upto_region 1 with fail
  go_cut [5, 6] (fun x y wx => Hid (SameMid w0 t x y wx))
  case first =>
    go_region_held3 (fun w' => w'.cell? ⟨w.heap.size, 0, none⟩ = some (.int .i64 t.rule) ∧ w'.cell? ⟨w.heap.size, 0 + 1, none⟩ = some (.int .i64 t.term) ∧ w'.cell? ⟨w.heap.size, 0 + 2, none⟩ = some (.slice a n cap) ∧ w'.cell? ⟨w.heap.size + 1, 0, none⟩ = some (.int .i64 t.rule) ∧ w'.cell? ⟨w.heap.size + 1, 0 + 1, none⟩ = some (.int .i64 t.term) ∧ w'.cell? ⟨w.heap.size + 1, 0 + 2, none⟩ = some (.slice au nu capu)) (first | go_keep | exact ⟨K20, K21, K22, K23, K24, K25⟩ | exact ⟨K10, K11, K12, K13, K14, K15⟩)
      (first
        | (go_at_call 39; (with_reducible refine (HN1.out _ (Below.refl _ _).drew).mono ?_); rintro e w1 ⟨v1, rfl, hr1, hb1⟩; have HR1 := Lib.hid hr1; have HB1 : Hid (Below w0.heap.size w0 w1) := (Below.refl _ _).drew.trans hb1; have K10 := (HB1.out.cell (p := ⟨w.heap.size, 0, none⟩) (lt_of_cell x0)).trans x0; have K11 := (HB1.out.cell (p := ⟨w.heap.size, 0 + 1, none⟩) (lt_of_cell x1)).trans x1; have K12 := (HB1.out.cell (p := ⟨w.heap.size, 0 + 2, none⟩) (lt_of_cell x2)).trans x2; have K13 := (HB1.out.cell (p := ⟨w.heap.size + 1, 0, none⟩) (lt_of_cell y0)).trans y0; have K14 := (HB1.out.cell (p := ⟨w.heap.size + 1, 0 + 1, none⟩) (lt_of_cell y1)).trans y1; have K15 := (HB1.out.cell (p := ⟨w.heap.size + 1, 0 + 2, none⟩) (lt_of_cell y2)).trans y2; clear hr1 hb1)
        | (go_at_call 39; (with_reducible refine (HN2.out _ HB1.out).mono ?_); rintro e w2 ⟨v2, rfl, hr2, hb2⟩; have HR2 := Lib.hid hr2; have HB2 : Hid (Below w0.heap.size w0 w2) := HB1.out.trans (hb2.mono HB1.out.size); have HR1' := Lib.hid (HR1.out.below hb2); have K20 := (HB2.out.cell (p := ⟨w.heap.size, 0, none⟩) (lt_of_cell x0)).trans x0; have K21 := (HB2.out.cell (p := ⟨w.heap.size, 0 + 1, none⟩) (lt_of_cell x1)).trans x1; have K22 := (HB2.out.cell (p := ⟨w.heap.size, 0 + 2, none⟩) (lt_of_cell x2)).trans x2; have K23 := (HB2.out.cell (p := ⟨w.heap.size + 1, 0, none⟩) (lt_of_cell y0)).trans y0; have K24 := (HB2.out.cell (p := ⟨w.heap.size + 1, 0 + 1, none⟩) (lt_of_cell y1)).trans y1; have K25 := (HB2.out.cell (p := ⟨w.heap.size + 1, 0 + 2, none⟩) (lt_of_cell y2)).trans y2; clear hr2 hb2))
    go_wp2_with fail
    go_meet
    exact ⟨HR1'.out, HR2.out, HB2.out⟩
  case rest =>
    clear x0 x1 x2 y0 y1 y2 HN1 HN2 X1 X2
    obtain ⟨hr1, hr2, hb2⟩ := hcut.out
    obtain ⟨a1, c1, rfl, h11, h12⟩ := hr1.form
    obtain ⟨a2, c2, rfl, h21, h22⟩ := hr2.form
    rw [List.length_map, HL.out] at h11 h21
    rw [HL.out, List.length_map] at hr1 hr2
    rw [List.length_map, HL.out]
    unfold maxLen at h12 h22
    have HR1 := Lib.hid hr1
    have HR2 := Lib.hid hr2
    have HB2 := Lib.hid hb2
    clear hr1 hr2 hb2 hcut
    go_wp2_with fail
    go_loopg [19] l.length (fun gg v19 wr => ∃ i : Nat, i ≤ l.length ∧ l.length - i ≤ gg ∧ v19 = .int .i64 i ∧ Hid (Below wc.heap.size wc wr))
    case atStart => exact ⟨0, by omega, by omega, rfl, Below.refl _ _⟩
    case round =>
      obtain ⟨i, hi, hg, rfl, HR⟩ := hrel
      by_cases hlt : i < l.length
      · have hlt' : (i : Int) < (l.length : Int) := by omega
        have hlt0 : (0 : Int) ≤ (i : Int) := by omega
        obtain ⟨b, off, u, hae, -, -, e0, e1, e2, hkid⟩ := (HR1.out.below HR.out).kid hlt
        obtain ⟨b', off', u', hae', -, -, e0', e1', e2', hkid'⟩ := (HR2.out.below HR.out).kid hlt
        obtain ⟨ku, kc, rfl, -, -⟩ := hkid.form
        obtain ⟨ku', kc', rfl, -, -⟩ := hkid'.form
        obtain ⟨nk, HNK⟩ := nameIt (l[i].kids.map Tree.d).length
        rw [HNK.out] at e2 e2'
        obtain ⟨r, HXr⟩ := nameIt (l[i]'hlt).rule
        obtain ⟨tm, HXt⟩ := nameIt (l[i]'hlt).term
        rw [HXr.out] at e0 e0'
        rw [HXt.out] at e1 e1'
        subst hae hae'
        clear hkid hkid'
        have t1 : (r != r) = false := by simp
        have t2 : (tm != tm) = false := by simp
        have t3 : ((nk : Int) != (nk : Int)) = false := by simp
        by_cases hr : r = -1
        · have t4 : (r != -1) = false := by simpa using hr
          clear hr
          go_wp2_with fail
          go_quiet (fail)
          go_wp2_with fail
          go_roundg (l.length - (i + 1))
          case measure => omega
          case rel => exact ⟨i + 1, by omega, by omega, by go_num, HR.out.trans ((below_drewN _ _).mono HR.out.size)⟩
        · have t4 : (r != -1) = true := by simpa using hr
          clear hr
          go_wp2_with fail
          go_quiet (fail)
          go_wp2_with fail
          go_roundg (l.length - (i + 1))
          case measure => omega
          case rel => exact ⟨i + 1, by omega, by omega, by go_num, HR.out.trans ((below_drewN _ _).mono HR.out.size)⟩
      · have hlt' : ¬ (i : Int) < (l.length : Int) := by omega
        go_wp2_with fail
        go_ret
        have h := HB.out.trans (HB2.out.mono HB.out.size)
        exact ⟨rfl, h.trans (HR.out.mono h.size)⟩
end Go.Proofs.Ytfbacnifankfkaa
