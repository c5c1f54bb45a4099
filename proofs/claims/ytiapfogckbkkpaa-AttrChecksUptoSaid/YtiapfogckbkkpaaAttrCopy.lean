/- The contracts of attr.copyExpr and attr.Find. -/
import Derived.Test.YtiapfogckbkkpaaAttrExprs
import Derived.Test.YtiapfogckbkkpaaAttrPred
import Derived.Deep.RegionLaw
namespace Go.Proofs.Ytiapfogckbkkpaa
open Go.RowKit
namespace At

def CopyPost (x : Expr) (w : World) (e : Ending) (w' : World) : Prop :=
  ∃ v, e = .returned (.agg #[.int .i64 x.kind, .int .i64 x.n, .int .i64 x.ref.at', .int .i64 x.ref.attr, v]) ∧ Rd (fun k => w.heap.size ≤ k) w' (.sl (x.args.map Expr.d)) [v] ∧ Below w.heap.size w w'
/-- a row of expressions that is being made, its header in the box b at the cell 4 -/
structure ERow (T : Nat → Prop) (B b : Nat) (k n a t : Int) (xs : List Expr) (vr : Value) (wr : World) : Prop where
  out : wr.heap[b]? = some (.cells #[.int .i64 k, .int .i64 n, .int .i64 a, .int .i64 t, vr] 39 (0, 0))
  own : ∃ cs, wr.ownsRow B 39 5 vr xs.length cs ∧ RdAll (fun k => T k ∧ vr.ownBlock ≠ some k) wr (xs.map Expr.d) cs
  lt : b < B
  nt : ¬ T b
  le : B ≤ wr.heap.size
theorem ERow.len {T : Nat → Prop} {B b : Nat} {k n a t : Int} {xs : List Expr} {vr : Value} {wr : World} (h : ERow T B b k n a t xs vr wr) : ∃ ad cap, vr = .slice ad xs.length cap ∧ xs.length ≤ cap ∧ cap ≤ maxLen := by
  obtain ⟨cs, h1, _⟩ := h.own; exact own_len h1
theorem ERow.keep {T : Nat → Prop} {B b : Nat} {k n a t : Int} {xs : List Expr} {vr : Value} {wr w' : World} (h : ERow T B b k n a t xs vr wr) (hb : Below wr.heap.size wr w') : ERow T B b k n a t xs vr w' := by
  obtain ⟨cs, h1, h2⟩ := h.own
  exact ⟨bx_keep h.out hb, ⟨cs, own_keep h1 hb, h2.below hb⟩, h.lt, h.nt, Nat.le_trans h.le hb.size⟩
/-- behind the append of an expression, and the store of the new header -/
theorem ERow.step {T : Nat → Prop} {B b g cap m : Nat} {k n a t : Int} {xs : List Expr} {x : Expr} {vr v : Value} {w2 w3 : World} {cs : List Value} (h : ERow T B b k n a t xs vr w2) (hn : xs.length = m) (ho : w2.ownsRow B 39 5 vr m cs) (hd : RdAll (fun k => T k ∧ vr.ownBlock ≠ some k) w2 (xs.map Expr.d) cs)
    (hr : Rd (fun k => T k ∧ vr.ownBlock ≠ some k) w2 (.sl (x.args.map Expr.d)) [v])
    (ho3 : w3.ownsRow B 39 5 (.slice (some ⟨g, 0, none⟩) (m + 1) cap) (m + 1) (cs ++ [.int .i64 x.kind, .int .i64 x.n, .int .i64 x.ref.at', .int .i64 x.ref.attr, v])) (hg : w2.grownBy w3 vr.ownBlock) (hat : vr.ownBlock = some g ∨ w2.heap.size ≤ g) :
    w3.heap[b]? = some (.cells #[.int .i64 k, .int .i64 n, .int .i64 a, .int .i64 t, vr] 39 (0, 0)) ∧ ERow T B b k n a t (xs ++ [x]) (.slice (some ⟨g, 0, none⟩) (m + 1) cap) (w3.setCell ⟨b, 4, none⟩ (.slice (some ⟨g, 0, none⟩) (m + 1) cap)) := by
  have hlt := (Array.getElem?_eq_some_iff.1 h.out).1
  have hb3 : w3.heap[b]? = some (.cells #[.int .i64 k, .int .i64 n, .int .i64 a, .int .i64 t, vr] 39 (0, 0)) := by
    rw [hg.block b hlt (fun e => by have := (ho.lt b e.symm).1; have := h.lt; omega)]; exact h.out
  have hne : b ≠ g := by
    have h1 := (ho3.lt g rfl).1
    have := h.lt; omega
  refine ⟨hb3, ?_, ⟨cs ++ [.int .i64 x.kind, .int .i64 x.n, .int .i64 x.ref.at', .int .i64 x.ref.attr, v], ?_, ?_⟩, h.lt, h.nt, by simp [World.setCell]; exact Nat.le_trans h.le hg.size⟩
  · rw [bx_set hb3]; rfl
  · rw [List.length_append, hn]
    exact ho3.kept (grown_cell w3 ⟨b, 4, none⟩ _) (.inr (by simpa [Value.ownBlock] using fun e => hne e.symm))
  · have h1 := own_step (S := T) (v' := .slice (some ⟨g, 0, none⟩) (m + 1) cap) hd (RdAll.one (rd_expr hr)) hg (by
      rcases hat with e | e
      · exact .inl e.symm
      · exact .inr ⟨g, rfl, e⟩)
    rw [List.map_append]
    refine RdAll.keep (fun k hk _ => ⟨hk, Below.heap_setCell _ _ _ _ ?_⟩) _ _ h1
    intro e
    simp at e
    subst e
    exact h.nt hk.1
theorem bx_free5 {w : World} {b : Nat} {x0 x1 x2 x3 x4 : Value} {T : TypeId} (h : w.heap[b]? = some (.cells #[x0, x1, x2, x3, x4] T (0, 0))) :
    w.frozen? ⟨b, 0, none⟩ = false ∧ w.frozen? ⟨b, 0 + 1, none⟩ = false ∧ w.frozen? ⟨b, 0 + 2, none⟩ = false ∧ w.frozen? ⟨b, 0 + 3, none⟩ = false ∧ w.frozen? ⟨b, 0 + 4, none⟩ = false := by
  refine ⟨?_, ?_, ?_, ?_, ?_⟩ <;> simp [World.frozen?, h]
theorem set5 {w : World} {b : Nat} {x0 x1 x2 x3 x4 : Value} {T : TypeId} (h : w.heap[b]? = some (.cells #[x0, x1, x2, x3, x4] T (0, 0))) (v : Value) : (w.setCell ⟨b, 4, none⟩ v).heap[b]? = some (.cells #[x0, x1, x2, x3, v] T (0, 0)) := by
  rw [bx_set h]; rfl

structure ECopy (x : Expr) (w : World) (i : Nat) (vr : Value) (wr : World) : Prop where
  row : ERow (fun k => w.heap.size + 1 + 1 + 1 ≤ k) (w.heap.size + 1 + 1 + 1) (w.heap.size + 1 + 1) x.kind x.n x.ref.at' x.ref.attr (x.args.take i) vr wr
  res : wr.heap[w.heap.size + 1]? = some (.cells #[.int .i64 0, .int .i64 0, .int .i64 0, .int .i64 0, .slice none 0 0] 39 (0, 0))
  bel : Below w.heap.size w wr
theorem sizeL_get {l : List Expr} {i : Nat} (h : i < l.length) : l[i].size ≤ sizeL l := by have := sizeL_kid h; omega

set_option maxHeartbeats 4000000 in
set_option maxRecDepth 100000 in
theorem copyExprE : ∀ (m : Nat) (x : Expr) (v : Value) (w : World), x.size ≤ m → m ≤ 1048576 → Rd AnyB w (.sl (x.args.map Expr.d)) [v] →
    Calls Try.prog 18 #[.agg #[.int .i64 x.kind, .int .i64 x.n, .int .i64 x.ref.at', .int .i64 x.ref.attr, v]] w (CopyPost x w) := by
  intro m
  induction m with
  | zero => intro x v w hm; have := x.size_pos; omega
  | succ m ih =>
  intro x v w hm hM hv
  obtain ⟨a, cap, rfl, hc1, hc2⟩ := hv.form
  have hlen : x.args.length ≤ m := by have := sizeL_len x.args; rw [Expr.size_eq] at hm; omega
  have HV := Lib.hid hv
  have HM := Lib.hid hm
  have IH := Lib.hid (fun x v w h => ih x v w h (by omega))
  obtain ⟨r0, HR0⟩ := nameIt x.kind
  obtain ⟨r1, HR1⟩ := nameIt x.n
  obtain ⟨r2, HR2⟩ := nameIt x.ref.at'
  obtain ⟨r3, HR3⟩ := nameIt x.ref.attr
  obtain ⟨K, HKN⟩ := nameIt x.args
  rw [List.length_map, HKN.out] at hc1
  rw [HKN.out] at hlen
  rw [List.length_map, HKN.out] at HV
  rw [HR0.out, HR1.out, HR2.out, HR3.out, List.length_map, HKN.out]
  unfold maxLen at hc2
  clear hv hm ih
  obtain ⟨wa, HWA⟩ := nameIt ((w.alloc (.cells #[.int .i64 r0, .int .i64 r1, .int .i64 r2, .int .i64 r3, .slice a K.length cap] 39)).alloc (.cells #[.int .i64 0, .int .i64 0, .int .i64 0, .int .i64 0, .slice none 0 0] 39))
  have hba : Below w.heap.size w wa := by rw [← HWA.out]; exact ((Below.refl _ _).alloc (Nat.le_refl _) _).alloc (by simp) _
  have XA := Lib.hid (show wa.heap[w.heap.size]? = some (.cells #[.int .i64 r0, .int .i64 r1, .int .i64 r2, .int .i64 r3, .slice a K.length cap] 39 (0, 0)) by rw [← HWA.out]; exact bx_keep (bx_new _ _ _ rfl) ((Below.refl _ _).alloc (Nat.le_refl _) _))
  have XR := Lib.hid (show wa.heap[w.heap.size + 1]? = some (.cells #[.int .i64 0, .int .i64 0, .int .i64 0, .int .i64 0, .slice none 0 0] 39 (0, 0)) by rw [← HWA.out]; exact bx_new _ _ _ (by simp))
  have hsa : wa.heap.size = w.heap.size + 1 + 1 := by rw [← HWA.out]; simp
  have HSA := Lib.hid hsa
  obtain ⟨wb, HWB⟩ := nameIt (wa.alloc (.cells #[.int .i64 r0, .int .i64 r1, .int .i64 r2, .int .i64 r3, .slice a K.length cap] 39))
  have hbb : Below wa.heap.size wa wb := by rw [← HWB.out]; exact (Below.refl _ _).alloc (Nat.le_refl _) _
  have XB := Lib.hid (show wb.heap[w.heap.size + 1 + 1]? = some (.cells #[.int .i64 r0, .int .i64 r1, .int .i64 r2, .int .i64 r3, .slice a K.length cap] 39 (0, 0)) by rw [← HWB.out]; exact bx_new _ _ _ hsa.symm)
  have XAB := Lib.hid (bx_keep XA.out hbb)
  have hsb : wb.heap.size = w.heap.size + 1 + 1 + 1 := by rw [← HWB.out]; simp; omega
  obtain ⟨w0, HW0⟩ := nameIt (wb.setCell ⟨w.heap.size + 1 + 1, 4, none⟩ (.slice none 0 0))
  have HI0 : Hid (ECopy x w 0 (.slice none 0 0) w0) := by
    rw [← HW0.out]
    refine ⟨⟨?_, ⟨[], by simpa using World.ownsRow_nil _ _ _ _, by simp [RdAll]⟩, by omega, by omega, by simp [World.setCell]; omega⟩, ?_, ?_⟩
    · rw [HR0.out, HR1.out, HR2.out, HR3.out]; exact set5 XB.out _
    · exact bx_other (bx_keep XR.out hbb) (by omega) _ _
    · exact (hba.trans (hbb.mono hba.size)).setCell (by show w.heap.size ≤ w.heap.size + 1 + 1; omega) _
  have XA0 : Hid (w0.heap[w.heap.size]? = some (.cells #[.int .i64 r0, .int .i64 r1, .int .i64 r2, .int .i64 r3, .slice a K.length cap] 39 (0, 0))) := by rw [← HW0.out]; exact bx_other XAB.out (by omega) _ _
  obtain ⟨x0, x1, x2, x3, x4⟩ := bx_cells5 XA.out
  clear hba hbb hsa hsb
  go_enter Try.func18, Try.ntmps18
  go_upto_region 1 with fail
  rw [HWA.out]
  go_upto_region 2 with fail
  rw [HWB.out, HSA.out]
  clear x0 x1 x2 x3 x4
  obtain ⟨x0, x1, x2, x3, x4⟩ := bx_cells5 XB.out
  obtain ⟨f0, f1, f2, f3, f4⟩ := bx_free5 XB.out
  go_upto_region 3 with fail
  rw [HW0.out]
  clear x0 x1 x2 x3 x4 f0 f1 f2 f3 f4
  obtain ⟨x0, x1, x2, x3, x4⟩ := bx_cells5 XA0.out
  go_wp2_with fail
  clear x0 x1 x2 x3 x4
  go_loopg [11] K.length (fun gg v11 wr => ∃ (i : Nat) (vr : Value), i ≤ K.length ∧ K.length - i ≤ gg ∧ v11 = .int .i64 i ∧ Hid (ECopy x w i vr wr))
  case atStart => exact ⟨0, _, by omega, by omega, rfl, HI0⟩
  case round =>
    clear HI0 HW0 XA0 XAB XB XA XR HWB HWA HSA
    obtain ⟨i, vr, hi, hg, rfl, HR⟩ := hrel
    by_cases hlt : i < K.length
    · have hlt' : (i : Int) < (K.length : Int) := by omega
      obtain ⟨b, off, v, hae, -, hbl, e0, e1, e2, e3, e4, hkid⟩ := Rd.arg (HV.out.below HR.out.bel) hlt
      obtain ⟨av, cv, rfl, -, -⟩ := hkid.form
      rw [List.length_map] at e4 hkid
      have hms : K[i].size ≤ m := by
        have h1 := HM.out
        rw [Expr.size_eq, HKN.out] at h1
        have := sizeL_get hlt
        omega
      have hih := fun W (hb : Below wr.heap.size wr W) => IH.out K[i] _ W hms (hkid.below hb)
      obtain ⟨kid, HKI⟩ := nameIt (K[i]'hlt)
      rw [HKI.out] at e0 e1 e2 e3 e4 hih
      obtain ⟨q0, HQ0⟩ := nameIt kid.kind
      obtain ⟨q1, HQ1⟩ := nameIt kid.n
      obtain ⟨q2, HQ2⟩ := nameIt kid.ref.at'
      obtain ⟨q3, HQ3⟩ := nameIt kid.ref.attr
      obtain ⟨nv, HNV⟩ := nameIt kid.args.length
      rw [HQ0.out] at e0
      rw [HQ1.out] at e1
      rw [HQ2.out] at e2
      rw [HQ3.out] at e3
      rw [HNV.out] at e4
      simp only [HQ0.out, HQ1.out, HQ2.out, HQ3.out, HNV.out] at hih
      have HIH := Lib.hid hih
      have htl : (x.args.take i).length = i := by rw [HKN.out]; simp; omega
      obtain ⟨ar, cr, hvr, hr1, hr2⟩ := HR.out.row.len
      rw [htl] at hvr hr1
      subst hvr
      obtain ⟨xs, ho, hd⟩ := HR.out.row.own
      rw [htl] at ho
      have hout := HR.out.row.out
      rw [HR0.out, HR1.out, HR2.out, HR3.out] at hout
      obtain ⟨z0, z1, z2, z3, z4⟩ := bx_cells5 hout
      have hsz := HR.out.row.le
      have hszr : w.heap.size + 1 + 1 < wr.heap.size := by omega
      have HO := Lib.hid ho
      have HD := Lib.hid hd
      have HTL := Lib.hid htl
      subst hae
      clear hih hkid hms hout ho hd htl
      go_wp2_with fail
      go_region_law
        (first
          | (refine step_app1 elExpr (by rfl) _ _ (by rfl) (own_keep HO.out HBW.out) (by rfl) (by rfl) rfl (by rfl) (by rfl) (by omega) (by unfold maxLen; omega) (by have := HBW.out.size; omega) ?_; intro g cap3 w3 ho3 hg3 hat3 hlt3; have hst := ERow.step (HR.out.row.keep HBW.out) HTL.out (own_keep HO.out HBW.out) (HD.out.below HBW.out) (x := kid) (HR2.out.mono (fun k hk _ => ⟨by have h : wr.heap.size + 1 ≤ k := (by simpa using hk); omega, fun e => by have h : wr.heap.size + 1 ≤ k := (by simpa using hk); have := (HO.out.lt _ e).2; omega⟩)) (by rw [HQ0.out, HQ1.out, HQ2.out, HQ3.out]; exact ho3) hg3 hat3; have hx5 : w3.heap[wr.heap.size]? = some (.cells #[.int .i64 q0, .int .i64 q1, .int .i64 q2, .int .i64 q3, .slice av nv cv] 39 (0, 0)) := (by rw [hg3.block _ hz2 (fun e => by have := (HO.out.lt _ e.symm).2; omega)]; exact HBX.out); obtain ⟨_, _, _, _, j0⟩ := bx_cells5 hst.1; obtain ⟨j1, j2, j3, j4, j5⟩ := bx_cells5 hx5; obtain ⟨_, _, _, _, jf⟩ := bx_free5 hst.1; have HST := Lib.hid hst.2; have HRES : Hid (w3.heap[w.heap.size + 1]? = some (.cells #[.int .i64 0, .int .i64 0, .int .i64 0, .int .i64 0, .slice none 0 0] 39 (0, 0))) := (by show _ = _; rw [hg3.block _ (by omega) (fun e => by have := (HO.out.lt _ e.symm).1; omega)]; exact bx_keep HR.out.res HBW.out); have HB3 : Hid (Below w.heap.size w w3) := (HR.out.bel.trans (HBW.out.mono HR.out.bel.size)).grown hg3 (by omega) (fun k e => by have := (HO.out.lt _ e).1; omega); have hlt4 : w.heap.size + 1 + 1 < w3.heap.size := (by have := hg3.size; omega); clear hst hx5 ho3 hg3 hat3)
          | (go_simp; go_at_call 18; (refine (HIH.out _ (((Below.refl _ _).alloc (Nat.le_refl _) _).drew)).mono ?_; rintro e w2 ⟨v2, rfl, hr2, hb2⟩; obtain ⟨a2, c2, rfl, -, -⟩ := hr2.form; rw [HQ0.out, HQ1.out, HQ2.out, HQ3.out, List.length_map, HNV.out]; rw [List.length_map, HNV.out] at hr2; have hbx := bx_keep (w := (wr.alloc (.cells #[.int .i64 q0, .int .i64 q1, .int .i64 q2, .int .i64 q3, .slice av nv cv] 39)).drew) (bx_new wr _ wr.heap.size rfl) hb2; have hbw : Below wr.heap.size wr w2 := ((Below.refl _ _).alloc (Nat.le_refl _) _).drew.trans (hb2.mono (by simp)); have k0 := (hbw.cell (p := ⟨w.heap.size + 1 + 1, 0 + 4, none⟩) hszr).trans z4; obtain ⟨k1, k2, k3, k4, k5⟩ := bx_cells5 hbx; have hz2 : wr.heap.size < w2.heap.size := (Array.getElem?_eq_some_iff.1 hbx).1; have hz3 : w.heap.size + 1 + 1 < w2.heap.size := Nat.lt_trans hszr hz2; have HBX := Lib.hid hbx; have HBW := Lib.hid hbw; have HR2 := Lib.hid hr2; clear hbx hbw hr2 hb2)))
      all_goals
       have HT1 : Hid (x.args.take (i + 1) = x.args.take i ++ [kid]) := by
         show _ = _
         rw [HKN.out, List.take_succ_eq_append_getElem hlt, HKI.out]
       go_wp2_with fail
       go_roundg (K.length - (i + 1))
       case measure => omega
       case rel =>
         refine ⟨i + 1, .slice (some ⟨g, 0, none⟩) (i + 1) cap3, by omega, by omega, by go_num, ?_, ?_, ?_⟩
         · rw [HT1.out]; exact HST.out
         · exact bx_other HRES.out (by omega) _ _
         · exact HB3.out.setCell (by simp; omega) _
    · have hlt' : ¬ (i : Int) < (K.length : Int) := by omega
      have hout := HR.out.row.out
      rw [HR0.out, HR1.out, HR2.out, HR3.out] at hout
      have htk : x.args.take i = K := by rw [HKN.out, List.take_of_length_le (by omega)]
      obtain ⟨ar, cr, hvr, hr1, hr2⟩ := HR.out.row.len
      rw [htk] at hvr hr1
      subst hvr
      obtain ⟨xs, ho, hd⟩ := HR.out.row.own
      rw [htk] at ho hd
      obtain ⟨z0, z1, z2, z3, z4⟩ := bx_cells5 hout
      obtain ⟨y0, y1, y2, y3, y4⟩ := bx_cells5 HR.out.res
      obtain ⟨f0, f1, f2, f3, f4⟩ := bx_free5 HR.out.res
      have hsz := HR.out.row.le
      have hszr : w.heap.size + 1 + 1 < wr.heap.size := by omega
      have HO := Lib.hid ho
      have HD := Lib.hid hd
      clear hout ho hd htk
      go_wp2_with fail
      refine bodyPost_ret (v := .agg #[.int .i64 r0, .int .i64 r1, .int .i64 r2, .int .i64 r3, .slice ar K.length cr]) (by simp [results, Try.results18, go_sem, y0, y1, y2, y3, y4]) rfl ?_
      refine ⟨_, by rw [HR0.out, HR1.out, HR2.out, HR3.out], ?_, ((((HR.out.bel.setCell (by simp) _).setCell (by simp) _).setCell (by simp) _).setCell (by simp) _).setCell (by simp) _⟩
      rw [HKN.out]
      have hb : wr.grownBy (((((wr.setCell ⟨w.heap.size + 1, 0, none⟩ (.int .i64 r0)).setCell ⟨w.heap.size + 1, 1, none⟩ (.int .i64 r1)).setCell ⟨w.heap.size + 1, 2, none⟩ (.int .i64 r2)).setCell ⟨w.heap.size + 1, 3, none⟩ (.int .i64 r3)).setCell ⟨w.heap.size + 1, 4, none⟩ (.slice ar K.length cr)) (some (w.heap.size + 1)) := grown_trans (grown_trans (grown_trans (grown_trans (grown_cell _ _ _) (grown_cell _ _ _)) (grown_cell _ _ _)) (grown_cell _ _ _)) (grown_cell _ _ _)
      refine rd_of_own (HO.out.kept hb (.inr fun e => by have := (HO.out.lt _ e).1; omega)) (RdAll.keep (fun k hk hlt => ⟨?_, hb.block k hlt ?_⟩) _ _ HD.out) (by simp) (fun k e => by have := (HO.out.lt _ e).1; show _ ≤ _; omega)
      · show _ ≤ _; omega
      · intro e; cases e; omega
end At
end Go.Proofs.Ytiapfogckbkkpaa
