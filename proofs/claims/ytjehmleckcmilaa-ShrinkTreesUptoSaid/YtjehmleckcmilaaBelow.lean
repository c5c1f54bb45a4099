/- The contracts of Below and tree.At. -/
import Derived.Test.YtjehmleckcmilaaTreeCopy
import Derived.Test.YtjehmleckcmilaaSlicesTwo
namespace Go.Proofs.Ytjehmleckcmilaa
open Go.RowKit

def kidAt (t : Tree) (i : Int) : Option Tree := if t.rule = -1 ∨ i < 0 then none else t.kids[i.toNat]?
def belowT : Tree → List Int → Option Tree
  | t, [] => some t
  | t, i :: p => (kidAt t i).bind fun k => belowT k p
theorem belowT_drop {t : Tree} {p : List Int} {i : Nat} (h : i < p.length) : belowT t (p.drop i) = (kidAt t p[i]).bind fun k => belowT k (p.drop (i + 1)) := by
  rw [List.drop_eq_getElem_cons h, belowT]
theorem kidAt_leaf {t : Tree} {i : Int} (h : t.rule = -1) : kidAt t i = none := by simp [kidAt, h]
theorem kidAt_neg {t : Tree} {i : Int} (h : i < 0) : kidAt t i = none := by simp [kidAt, h]
theorem kidAt_out {t : Tree} {i : Nat} (h : t.kids.length ≤ i) : kidAt t (i : Int) = none := by
  unfold kidAt
  by_cases e : t.rule = -1 <;> simp [e, h]
theorem kidAt_in {t : Tree} {i : Nat} (hr : t.rule ≠ -1) (h : i < t.kids.length) : kidAt t (i : Int) = some t.kids[i] := by
  simp [kidAt, hr, h]

def noTree : Tree := .node 0 0 []
theorem bx_set3 {w : World} {b : Nat} {x0 x1 x2 : Value} {T : TypeId} (h : w.heap[b]? = some (.cells #[x0, x1, x2] T (0, 0))) (y0 y1 y2 : Value) : (((w.setCell ⟨b, 0, none⟩ y0).setCell ⟨b, 1, none⟩ y1).setCell ⟨b, 2, none⟩ y2).heap[b]? = some (.cells #[y0, y1, y2] T (0, 0)) := by
  rw [bx_set (bx_set (bx_set h 0 y0) 1 y1) 2 y2]; rfl
theorem bx_other3 {w : World} {b c : Nat} {o : Obj} (h : w.heap[b]? = some o) (hne : b ≠ c) (y0 y1 y2 : Value) : (((w.setCell ⟨c, 0, none⟩ y0).setCell ⟨c, 1, none⟩ y1).setCell ⟨c, 2, none⟩ y2).heap[b]? = some o :=
  bx_other (bx_other (bx_other h hne _ _) hne _ _) hne _ _

/-- the state of the loops: the tree that is come to lies in the parameter's box -/
structure DescRel (t : Tree) (p : List Int) (w : World) (i : Nat) (cur : Tree) (v : Value) (wr : World) : Prop where
  box : wr.heap[w.heap.size]? = some (.cells #[.int .i64 cur.rule, .int .i64 cur.term, v] 43 (0, 0))
  kid : Rd AnyB w (.sl (cur.kids.map Tree.d)) [v]
  res : wr.heap[w.heap.size + 1]? = some (.cells #[.int .i64 0, .int .i64 0, .slice none 0 0] 43 (0, 0))
  eq : belowT cur (p.drop i) = belowT t p
  bel : Below w.heap.size w wr
theorem DescRel.step {t cur k : Tree} {p : List Int} {w wr : World} {i : Nat} {v u : Value} (h : DescRel t p w i cur v wr) (hi : i < p.length) (hk : kidAt cur p[i] = some k) (hu : Rd AnyB w (.sl (k.kids.map Tree.d)) [u]) :
    DescRel t p w (i + 1) k u (((wr.setCell ⟨w.heap.size, 0, none⟩ (.int .i64 k.rule)).setCell ⟨w.heap.size, 1, none⟩ (.int .i64 k.term)).setCell ⟨w.heap.size, 2, none⟩ u) :=
  ⟨bx_set3 h.box _ _ _, hu, bx_other3 h.res (by omega) _ _ _, by rw [← h.eq, belowT_drop hi, hk]; rfl, below_box3 h.bel (Nat.le_refl _) _ _ _⟩

def DescPost (x : Option Tree) (c : Option Tree → Value) (w : World) (e : Ending) (w' : World) : Prop :=
  ∃ v, e = .returned (.tuple #[.agg #[.int .i64 (x.getD noTree).rule, .int .i64 (x.getD noTree).term, v], c x]) ∧ Rd AnyB w' (.sl ((x.getD noTree).kids.map Tree.d)) [v] ∧ Below w.heap.size w w'
def foundB (x : Option Tree) : Value := .bool x.isSome
def foundE (x : Option Tree) : Value := .int .i64 (if x.isSome then 0 else 5)

theorem desc0 {t : Tree} {p : List Int} {a : Option Addr} {n cap : Nat} {w : World} (hv : Rd AnyB w (.sl (t.kids.map Tree.d)) [.slice a n cap]) :
    DescRel t p w 0 t (.slice a n cap) ((w.alloc (.cells #[.int .i64 t.rule, .int .i64 t.term, .slice a n cap] 43)).alloc (.cells #[.int .i64 0, .int .i64 0, .slice none 0 0] 43)) :=
  ⟨bx_keep (bx_new _ _ _ rfl) ((Below.refl _ _).alloc (Nat.le_refl _) _), hv, bx_new _ _ _ (by simp), rfl, ((Below.refl _ _).alloc (Nat.le_refl _) _).alloc (by simp) _⟩

set_option maxHeartbeats 2000000 in
set_option maxRecDepth 100000 in
theorem belowE (t : Tree) (v : Value) (ap : Option Addr) (cp : Nat) (p : List Int) (w : World) (hv : Rd AnyB w (.sl (t.kids.map Tree.d)) [v]) (hp : Sl w (.slice ap p.length cp) (ints p)) :
    Calls Try.prog 27 #[.agg #[.int .i64 t.rule, .int .i64 t.term, v], .slice ap p.length cp] w (DescPost (belowT t p) foundB w) := by
  obtain ⟨a, cap, rfl, -, -⟩ := hv.form
  obtain ⟨n, HN⟩ := nameIt (t.kids.map Tree.d).length
  rw [HN.out] at hv
  rw [HN.out]
  have hpl := hp.len
  unfold maxLen at hpl
  obtain ⟨-, hp1, hp2⟩ := hpl
  have HP := Lib.hid hp
  have HR0 := Lib.hid (desc0 (p := p) hv)
  obtain ⟨w0, HW0⟩ := nameIt ((w.alloc (.cells #[.int .i64 t.rule, .int .i64 t.term, .slice a n cap] 43)).alloc (.cells #[.int .i64 0, .int .i64 0, .slice none 0 0] 43))
  rw [HW0.out] at HR0
  clear hv hp
  go_enter Try.func27, Try.ntmps27
  go_wp2_with fail
  rw [HW0.out]
  go_loopg [10] p.length (fun gg v10 wr => ∃ (i : Nat) (cur : Tree) (v : Value), i ≤ p.length ∧ p.length - i ≤ gg ∧ v10 = .int .i64 i ∧ Hid (DescRel t p w i cur v wr))
  case atStart => exact ⟨0, t, _, by omega, by omega, rfl, HR0⟩
  case round =>
    clear HR0 HW0 HN
    obtain ⟨i, cur, v, hi, hg, rfl, HR⟩ := hrel
    obtain ⟨av, cv, rfl, hcv1, hcv2⟩ := HR.out.kid.form
    obtain ⟨nv, HNV⟩ := nameIt (cur.kids.map Tree.d).length
    rw [HNV.out] at HR hcv1
    have HNK : Hid (cur.kids.length = nv) := by rw [← HNV.out]; show _ = _; simp
    unfold maxLen at hcv2
    have hbox := HR.out.box
    have hlt1 := (Array.getElem?_eq_some_iff.1 HR.out.res).1
    obtain ⟨y0, y1, y2⟩ := bx_cells3 HR.out.res
    obtain ⟨f0, f1, f2⟩ := bx_free3 HR.out.res
    obtain ⟨g0, g1, g2⟩ := bx_free3 hbox
    obtain ⟨r, HXr⟩ := nameIt cur.rule
    obtain ⟨tm, HXt⟩ := nameIt cur.term
    rw [HXr.out, HXt.out] at hbox
    obtain ⟨x0, x1, x2⟩ := bx_cells3 hbox
    have hne1 : ¬ w.heap.size = w.heap.size + 1 := by omega
    have hne2 : ¬ w.heap.size + 1 = w.heap.size := by omega
    clear hbox
    by_cases hlt : i < p.length
    · have hlt' : (i : Int) < (p.length : Int) := by omega
      obtain ⟨ba, oa, hae, hca⟩ := (HP.out.keep HR.out.bel).at hlt
      have c1 := hca i (by rw [ints_len]; exact hlt)
      rw [ints_get] at c1
      obtain ⟨x, HX⟩ := nameIt (p[i]'hlt)
      rw [HX.out] at c1
      subst hae
      clear hca
      cases hk : kidAt cur x with
      | none =>
        have HE : Hid (belowT t p = none) := by show _ = _; rw [← HR.out.eq, belowT_drop hlt, HX.out, hk]; rfl
        have hcase : r = -1 ∨ (r ≠ -1 ∧ x < 0) ∨ (r ≠ -1 ∧ ∃ j : Nat, x = (j : Int) ∧ nv ≤ j) := by
          by_cases e1 : r = -1
          · exact .inl e1
          · by_cases e2 : x < 0
            · exact .inr (.inl ⟨e1, e2⟩)
            · refine .inr (.inr ⟨e1, x.toNat, by omega, ?_⟩)
              have h1 := HXr.out
              have h2 := HNK.out
              simp [kidAt, h1, e1, e2] at hk
              omega
        have HF : Hid (∀ w', Below w.heap.size w w' → DescPost (belowT t p) foundB w (.returned (.tuple #[.agg #[.int .i64 0, .int .i64 0, .slice none 0 0], .bool false])) w') := by
          intro w' hb
          rw [HE.out]
          exact ⟨_, rfl, rd_nil _ _, hb⟩
        clear hk HE
        rcases hcase with hr | ⟨hr, hx⟩ | ⟨hr, j, rfl, hj⟩
        · have hrb : (r == -1) = true := by simpa using hr
          clear hr
          go_wp2_with fail
          exact bodyPost_ret (v := .tuple #[.agg #[.int .i64 0, .int .i64 0, .slice none 0 0], .bool false]) (by simp [results, Try.results27, go_sem, y0, y1, y2]) rfl (HF.out _ (below_box3 HR.out.bel (by omega) _ _ _))
        · have hrb : (r == -1) = false := by simpa using hr
          have hxb : decide (x < 0) = true := by simpa using hx
          clear hr
          go_wp2_with fail
          exact bodyPost_ret (v := .tuple #[.agg #[.int .i64 0, .int .i64 0, .slice none 0 0], .bool false]) (by simp [results, Try.results27, go_sem, y0, y1, y2]) rfl (HF.out _ (below_box3 HR.out.bel (by omega) _ _ _))
        · have hrb : (r == -1) = false := by simpa using hr
          have hxb : decide ((j : Int) < 0) = false := by simp
          have hj' : (nv : Int) ≤ (j : Int) := by omega
          clear hr
          go_wp2_with fail
          exact bodyPost_ret (v := .tuple #[.agg #[.int .i64 0, .int .i64 0, .slice none 0 0], .bool false]) (by simp [results, Try.results27, go_sem, y0, y1, y2]) rfl (HF.out _ (below_box3 HR.out.bel (by omega) _ _ _))
      | some k =>
        have hcase : r ≠ -1 ∧ ∃ j : Nat, x = (j : Int) ∧ ∃ h : j < cur.kids.length, cur.kids[j] = k := by
          have h1 := HXr.out
          unfold kidAt at hk
          rw [h1] at hk
          by_cases e1 : r = -1
          · simp [e1] at hk
          · by_cases e2 : x < 0
            · simp [e2] at hk
            · simp [e1, e2] at hk
              obtain ⟨h3, h4⟩ := List.getElem?_eq_some_iff.1 hk
              exact ⟨e1, x.toNat, by omega, h3, h4⟩
        obtain ⟨hr, j, rfl, hj, hjk⟩ := hcase
        obtain ⟨b, off, u, hae, -, hbl, e0, e1, e2, hkid⟩ := HR.out.kid.kid hj
        rw [hjk] at e0 e1 hkid
        obtain ⟨au, cu, rfl, -, -⟩ := hkid.form
        obtain ⟨nu, HNU⟩ := nameIt (k.kids.map Tree.d).length
        rw [HNU.out] at e2 hkid
        have hbel := HR.out.bel
        have d0 := (hbel.cell (p := ⟨b, off + j * 3, none⟩) hbl).trans e0
        have d1 := (hbel.cell (p := ⟨b, off + j * 3 + 1, none⟩) hbl).trans e1
        have d2 := (hbel.cell (p := ⟨b, off + j * 3 + 2, none⟩) hbl).trans e2
        have HST := Lib.hid (HR.out.step hlt (by rw [HX.out]; exact hk) hkid)
        obtain ⟨q0, HQ0⟩ := nameIt k.rule
        obtain ⟨q1, HQ1⟩ := nameIt k.term
        rw [HQ0.out] at d0 HST
        rw [HQ1.out] at d1 HST
        have hrb : (r == -1) = false := by simpa using hr
        have hxb : decide ((j : Int) < 0) = false := by simp
        have hjn : j < nv := by rw [← HNK.out]; exact hj
        have hj' : (j : Int) < (nv : Int) := by omega
        have hbne : ¬ w.heap.size = b := by omega
        subst hae
        clear hkid hbel e0 e1 e2 hk hjk hj hr
        go_wp2_with fail
        go_roundg (p.length - (i + 1))
        case measure => omega
        case rel => exact ⟨i + 1, k, _, by omega, by omega, by go_num, HST⟩
    · have hlt' : ¬ (i : Int) < (p.length : Int) := by omega
      have HE : Hid (belowT t p = some cur) := by show _ = _; rw [← HR.out.eq, List.drop_of_length_le (by omega)]; rfl
      go_wp2_with fail
      refine bodyPost_ret (v := .tuple #[.agg #[.int .i64 r, .int .i64 tm, .slice av nv cv], .bool true]) (by simp [results, Try.results27, go_sem, y0, y1, y2]) rfl ?_
      rw [HE.out]
      refine ⟨_, by rw [← HXr.out, ← HXt.out]; rfl, ?_, below_box3 HR.out.bel (by omega) _ _ _⟩
      exact HR.out.kid.below (below_box3 HR.out.bel (by omega) _ _ _)
end Go.Proofs.Ytjehmleckcmilaa
