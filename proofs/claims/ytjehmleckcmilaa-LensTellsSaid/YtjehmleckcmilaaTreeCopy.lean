/- The contracts of gram.CopyTree and tree.Clone. -/
import Derived.Test.YtjehmleckcmilaaTreeWalk
import Derived.Deep.RegionHeld3
namespace Go.Proofs.Ytjehmleckcmilaa
open Go.RowKit

mutual
def Tree.size : Tree → Nat
  | .node _ _ ks => sizeL ks + 1
def sizeL : List Tree → Nat
  | [] => 0
  | k :: ks => Tree.size k + sizeL ks
end
theorem Tree.size_eq (t : Tree) : t.size = sizeL t.kids + 1 := by cases t; simp [Tree.size, Tree.kids]
theorem Tree.size_pos (t : Tree) : 0 < t.size := by rw [Tree.size_eq]; omega
theorem sizeL_get : ∀ {ks : List Tree} {i : Nat} (h : i < ks.length), ks[i].size ≤ sizeL ks
  | [], i, h => by simp at h
  | k :: ks, 0, h => by simp [sizeL]
  | k :: ks, i + 1, h => by have := sizeL_get (ks := ks) (i := i) (by simpa using h); simp [sizeL]; omega
theorem sizeL_len : ∀ (ks : List Tree), ks.length ≤ sizeL ks
  | [] => by simp
  | k :: ks => by have := sizeL_len ks; have := k.size_pos; simp [sizeL]; omega

def FreshB (w : World) : Nat → Prop := fun k => w.heap.size ≤ k
def TreePost (t : Tree) (w : World) (e : Ending) (w' : World) : Prop :=
  ∃ v, e = .returned (.agg #[.int .i64 t.rule, .int .i64 t.term, v]) ∧ Rd (FreshB w) w' (.sl (t.kids.map Tree.d)) [v] ∧ Below w.heap.size w w'
theorem elTree : ElemT Try.prog 41 43 3 40 := ElemT.mk' (z := .agg #[.int .i64 0, .int .i64 0, .slice none 0 0]) Try.underlying41 (by kernel_rfl) rfl (by decide)

/-- a row of trees that is being made, its header in the box b at the cell 2 -/
structure RowRel (T : Nat → Prop) (B b : Nat) (r tm : Int) (ts : List Tree) (vr : Value) (wr : World) : Prop where
  out : wr.heap[b]? = some (.cells #[.int .i64 r, .int .i64 tm, vr] 43 (0, 0))
  own : ∃ xs, wr.ownsRow B 43 3 vr ts.length xs ∧ RdAll (fun k => T k ∧ vr.ownBlock ≠ some k) wr (ts.map Tree.d) xs
  lt : b < B
  nt : ¬ T b
  le : B ≤ wr.heap.size
theorem RowRel.len {T : Nat → Prop} {B b : Nat} {r tm : Int} {ts : List Tree} {vr : Value} {wr : World} (h : RowRel T B b r tm ts vr wr) : ∃ a cap, vr = .slice a ts.length cap ∧ ts.length ≤ cap ∧ cap ≤ maxLen := by
  obtain ⟨xs, h1, _⟩ := h.own; exact own_len h1
theorem RowRel.keep {T : Nat → Prop} {B b : Nat} {r tm : Int} {ts : List Tree} {vr : Value} {wr w' : World} (h : RowRel T B b r tm ts vr wr) (hb : Below wr.heap.size wr w') : RowRel T B b r tm ts vr w' := by
  obtain ⟨xs, h1, h2⟩ := h.own
  exact ⟨bx_keep h.out hb, ⟨xs, own_keep h1 hb, h2.below hb⟩, h.lt, h.nt, Nat.le_trans h.le hb.size⟩
/-- behind the append of a tree, and the store of the new header -/
theorem RowRel.step {T : Nat → Prop} {B b g cap n : Nat} {r tm : Int} {ts : List Tree} {t : Tree} {vr v : Value} {w2 w3 : World} {xs : List Value} (h : RowRel T B b r tm ts vr w2) (hn : ts.length = n) (ho : w2.ownsRow B 43 3 vr n xs) (hd : RdAll (fun k => T k ∧ vr.ownBlock ≠ some k) w2 (ts.map Tree.d) xs)
    (hr : Rd (fun k => T k ∧ vr.ownBlock ≠ some k) w2 (.sl (t.kids.map Tree.d)) [v])
    (ho3 : w3.ownsRow B 43 3 (.slice (some ⟨g, 0, none⟩) (n + 1) cap) (n + 1) (xs ++ [.int .i64 t.rule, .int .i64 t.term, v])) (hg : w2.grownBy w3 vr.ownBlock) (hat : vr.ownBlock = some g ∨ w2.heap.size ≤ g) :
    w3.heap[b]? = some (.cells #[.int .i64 r, .int .i64 tm, vr] 43 (0, 0)) ∧ RowRel T B b r tm (ts ++ [t]) (.slice (some ⟨g, 0, none⟩) (n + 1) cap) (w3.setCell ⟨b, 2, none⟩ (.slice (some ⟨g, 0, none⟩) (n + 1) cap)) := by
  have hlt := (Array.getElem?_eq_some_iff.1 h.out).1
  have hb3 : w3.heap[b]? = some (.cells #[.int .i64 r, .int .i64 tm, vr] 43 (0, 0)) := by
    rw [hg.block b hlt (fun e => by have := (ho.lt b e.symm).1; have := h.lt; omega)]; exact h.out
  have hne : b ≠ g := by
    have h1 := (ho3.lt g rfl).1
    have := h.lt; omega
  refine ⟨hb3, ?_, ⟨xs ++ [.int .i64 t.rule, .int .i64 t.term, v], ?_, ?_⟩, h.lt, h.nt, by simp [World.setCell]; exact Nat.le_trans h.le hg.size⟩
  · rw [bx_set hb3]; rfl
  · rw [List.length_append, hn]
    exact ho3.kept (grown_cell w3 ⟨b, 2, none⟩ _) (.inr (by simpa [Value.ownBlock] using fun e => hne e.symm))
  · have h1 := own_step (S := T) (v' := .slice (some ⟨g, 0, none⟩) (n + 1) cap) hd (RdAll.one (rd_tree hr)) hg (by
      rcases hat with e | e
      · exact .inl e.symm
      · exact .inr ⟨g, rfl, e⟩)
    rw [List.map_append]
    refine RdAll.keep (fun k hk _ => ⟨hk, Below.heap_setCell _ _ _ _ ?_⟩) _ _ h1
    intro e
    simp at e
    subst e
    exact h.nt hk.1

structure CopyRel (t : Tree) (w : World) (i : Nat) (vr : Value) (wr : World) : Prop where
  row : RowRel (fun k => w.heap.size + 1 + 1 + 1 ≤ k) (w.heap.size + 1 + 1 + 1) (w.heap.size + 1 + 1) t.rule t.term (t.kids.take i) vr wr
  res : wr.heap[w.heap.size + 1]? = some (.cells #[.int .i64 0, .int .i64 0, .slice none 0 0] 43 (0, 0))
  bel : Below w.heap.size w wr

set_option maxHeartbeats 2000000 in
set_option maxRecDepth 100000 in
theorem copyE : ∀ (m : Nat) (t : Tree) (v : Value) (w : World), t.size ≤ m → m ≤ 1099511627776 → Rd AnyB w (.sl (t.kids.map Tree.d)) [v] →
    Calls Try.prog 212 #[.agg #[.int .i64 t.rule, .int .i64 t.term, v]] w (TreePost t w) := by
  intro m
  induction m with
  | zero => intro t v w hm; have := t.size_pos; omega
  | succ m ih =>
  intro t v w hm hM hv
  obtain ⟨a, cap, rfl, hc1, hc2⟩ := hv.form
  have hlen : t.kids.length ≤ m := by have := sizeL_len t.kids; rw [Tree.size_eq] at hm; omega
  have HV := Lib.hid hv
  have HM := Lib.hid hm
  have IH := Lib.hid (fun t v w h => ih t v w h (by omega))
  obtain ⟨r, HRr⟩ := nameIt t.rule
  obtain ⟨tm, HRt⟩ := nameIt t.term
  obtain ⟨K, HKN⟩ := nameIt t.kids
  rw [List.length_map, HKN.out] at hc1
  rw [HKN.out] at hlen
  rw [List.length_map, HKN.out] at HV
  rw [HRr.out, HRt.out, List.length_map, HKN.out]
  unfold maxLen at hc2
  clear hv hm ih
  obtain ⟨w0, HW0⟩ := nameIt (((w.alloc (.cells #[.int .i64 r, .int .i64 tm, .slice a K.length cap] 43)).alloc (.cells #[.int .i64 0, .int .i64 0, .slice none 0 0] 43)).alloc (.cells #[.int .i64 r, .int .i64 tm, .slice none 0 0] 43))
  have HR0 : Hid (CopyRel t w 0 (.slice none 0 0) w0) := by
    rw [← HW0.out]
    refine ⟨⟨?_, ⟨[], by simpa using World.ownsRow_nil _ _ _ _, by simp [RdAll]⟩, by omega, by omega, by simp⟩, ?_, (((Below.refl _ _).alloc (Nat.le_refl _) _).alloc (by simp) _).alloc (by simp; omega) _⟩
    · rw [HRr.out, HRt.out]; exact bx_new _ _ _ (by simp)
    · exact bx_keep (bx_new _ _ _ (by simp)) ((Below.refl _ _).alloc (Nat.le_refl _) _)
  go_enter Try.func212, Try.ntmps212
  go_wp2_with fail
  rw [HW0.out]
  go_loopg [14] K.length (fun gg v14 wr => ∃ (i : Nat) (vr : Value), i ≤ K.length ∧ K.length - i ≤ gg ∧ v14 = .int .i64 i ∧ Hid (CopyRel t w i vr wr))
  case atStart => exact ⟨0, _, by omega, by omega, rfl, HR0⟩
  case round =>
    clear HR0 HW0
    obtain ⟨i, vr, hi, hg, rfl, HR⟩ := hrel
    by_cases hlt : i < K.length
    · have hlt' : (i : Int) < (K.length : Int) := by omega
      obtain ⟨b, off, v, hae, -, hbl, e0, e1, e2, hkid⟩ := (HV.out.below HR.out.bel).kid hlt
      obtain ⟨av, cv, rfl, -, -⟩ := hkid.form
      obtain ⟨nv, HNV⟩ := nameIt (K[i].kids.map Tree.d).length
      rw [HNV.out] at e2 hkid
      have hms : K[i].size ≤ m := by
        have h1 := HM.out
        rw [Tree.size_eq, HKN.out] at h1
        have := sizeL_get hlt
        omega
      have hih := fun W (hb : Below wr.heap.size wr W) => IH.out K[i] _ W hms (hkid.below hb)
      obtain ⟨kid, HKI⟩ := nameIt (K[i]'hlt)
      rw [HKI.out] at e0 e1 hih
      obtain ⟨q0, HQ0⟩ := nameIt kid.rule
      obtain ⟨q1, HQ1⟩ := nameIt kid.term
      rw [HQ0.out] at e0 hih
      rw [HQ1.out] at e1 hih
      have HIH := Lib.hid hih
      have htl : (t.kids.take i).length = i := by rw [HKN.out]; simp; omega
      obtain ⟨ar, cr, hvr, hr1, hr2⟩ := HR.out.row.len
      rw [htl] at hvr hr1
      subst hvr
      obtain ⟨xs, ho, hd⟩ := HR.out.row.own
      rw [htl] at ho
      have hout := HR.out.row.out
      rw [HRr.out, HRt.out] at hout
      obtain ⟨z0, z1, z2⟩ := bx_cells3 hout
      have hsz := HR.out.row.le
      have hszr : w.heap.size + 1 + 1 < wr.heap.size := by omega
      have HO := Lib.hid ho
      have HD := Lib.hid hd
      have HTL := Lib.hid htl
      subst hae
      clear hih hkid hms hout ho hd htl
      go_wp2_with fail
      go_region_law
        (first
          | (refine step_app1 elTree (by rfl) _ _ (by rfl) (own_keep HO.out HBW.out) (by rfl) (by rfl) rfl (by rfl) (by rfl) (by omega) (by unfold maxLen; omega) (by have := HBW.out.size; omega) ?_; intro g cap3 w3 ho3 hg3 hat3 hlt3; have hst := RowRel.step (HR.out.row.keep HBW.out) HTL.out (own_keep HO.out HBW.out) (HD.out.below HBW.out) (t := kid) (HR2.out.mono (fun k hk _ => ⟨by have h : wr.heap.size + 1 ≤ k := (by simpa [FreshB] using hk); omega, fun e => by have h : wr.heap.size + 1 ≤ k := (by simpa [FreshB] using hk); have := (HO.out.lt _ e).2; omega⟩)) (by rw [HQ0.out, HQ1.out]; exact ho3) hg3 hat3; have hx5 : w3.heap[wr.heap.size]? = some (.cells #[.int .i64 q0, .int .i64 q1, .slice av nv cv] 43 (0, 0)) := (by rw [hg3.block _ hz2 (fun e => by have := (HO.out.lt _ e.symm).2; omega)]; exact HBX.out); obtain ⟨_, _, j0⟩ := bx_cells3 hst.1; obtain ⟨j1, j2, j3⟩ := bx_cells3 hx5; obtain ⟨_, _, jf⟩ := bx_free3 hst.1; have HST := Lib.hid hst.2; have HRES : Hid (w3.heap[w.heap.size + 1]? = some (.cells #[.int .i64 0, .int .i64 0, .slice none 0 0] 43 (0, 0))) := (by show _ = _; rw [hg3.block _ (by omega) (fun e => by have := (HO.out.lt _ e.symm).1; omega)]; exact bx_keep HR.out.res HBW.out); have HB3 : Hid (Below w.heap.size w w3) := (HR.out.bel.trans (HBW.out.mono HR.out.bel.size)).grown hg3 (by omega) (fun k e => by have := (HO.out.lt _ e).1; omega); have hlt4 : w.heap.size + 1 + 1 < w3.heap.size := (by have := hg3.size; omega); clear hst hx5 ho3 hg3 hat3)
          | (go_simp; go_at_call 212; (refine (HIH.out _ (((Below.refl _ _).alloc (Nat.le_refl _) _).drew)).mono ?_; rintro e w2 ⟨v2, rfl, hr2, hb2⟩; obtain ⟨a2, c2, rfl, -, -⟩ := hr2.form; rw [HQ0.out, HQ1.out, List.length_map]; rw [List.length_map] at hr2; have hbx := bx_keep (w := (wr.alloc (.cells #[.int .i64 q0, .int .i64 q1, .slice av nv cv] 43)).drew) (bx_new wr _ wr.heap.size rfl) hb2; have hbw : Below wr.heap.size wr w2 := ((Below.refl _ _).alloc (Nat.le_refl _) _).drew.trans (hb2.mono (by simp)); have k0 := (hbw.cell (p := ⟨w.heap.size + 1 + 1, 0 + 2, none⟩) hszr).trans z2; obtain ⟨k1, k2, k3⟩ := bx_cells3 hbx; have hz2 : wr.heap.size < w2.heap.size := (Array.getElem?_eq_some_iff.1 hbx).1; have hz3 : w.heap.size + 1 + 1 < w2.heap.size := Nat.lt_trans hszr hz2; have HBX := Lib.hid hbx; have HBW := Lib.hid hbw; have HR2 := Lib.hid hr2; clear hbx hbw hr2 hb2)))
      all_goals
       have HT1 : Hid (t.kids.take (i + 1) = t.kids.take i ++ [kid]) := by
         show _ = _
         rw [HKN.out, List.take_succ_eq_append_getElem hlt, HKI.out]
       go_wp2_with fail
       go_roundg (K.length - (i + 1))
       case measure => omega
       case rel =>
         refine ⟨i + 1, .slice (some ⟨g, 0, none⟩) (i + 1) cap3, by omega, by omega, by go_num, ?_, ?_, ?_⟩
         · rw [HT1.out]; exact HST.out
         · exact bx_other HRES.out (by omega) _ _
         · exact HB3.out.setCell (by simp; omega) _
    · have hlt' : ¬ (i : Int) < (K.length : Int) := by omega
      have hout := HR.out.row.out
      rw [HRr.out, HRt.out] at hout
      have htk : t.kids.take i = K := by rw [HKN.out, List.take_of_length_le (by omega)]
      obtain ⟨ar, cr, hvr, hr1, hr2⟩ := HR.out.row.len
      rw [htk] at hvr hr1
      subst hvr
      obtain ⟨xs, ho, hd⟩ := HR.out.row.own
      rw [htk] at ho hd
      obtain ⟨z0, z1, z2⟩ := bx_cells3 hout
      obtain ⟨y0, y1, y2⟩ := bx_cells3 HR.out.res
      obtain ⟨f0, f1, f2⟩ := bx_free3 HR.out.res
      have hsz := HR.out.row.le
      have hszr : w.heap.size + 1 + 1 < wr.heap.size := by omega
      have HO := Lib.hid ho
      have HD := Lib.hid hd
      clear hout ho hd htk
      go_wp2_with fail
      refine bodyPost_ret (v := .agg #[.int .i64 r, .int .i64 tm, .slice ar K.length cr]) (by simp [results, Try.results212, go_sem, y0, y1, y2]) rfl ?_
      refine ⟨_, by rw [HRr.out, HRt.out], ?_, ((HR.out.bel.setCell (by simp) _).setCell (by simp) _).setCell (by simp) _⟩
      rw [HKN.out]
      have hb : wr.grownBy (((wr.setCell ⟨w.heap.size + 1, 0, none⟩ (.int .i64 r)).setCell ⟨w.heap.size + 1, 1, none⟩ (.int .i64 tm)).setCell ⟨w.heap.size + 1, 2, none⟩ (.slice ar K.length cr)) (some (w.heap.size + 1)) := grown_trans (grown_trans (grown_cell _ _ _) (grown_cell _ _ _)) (grown_cell _ _ _)
      refine rd_of_own (HO.out.kept hb (.inr fun e => by have := (HO.out.lt _ e).1; omega)) (RdAll.keep (fun k hk hlt => ⟨?_, hb.block k hlt ?_⟩) _ _ HD.out) (by simp) (fun k e => by have := (HO.out.lt _ e).1; show _ ≤ _; omega)
      · show _ ≤ _; omega
      · intro e; cases e; omega

/-- a result box, stored into: it is new memory alone -/
theorem below_box3 {B b : Nat} {w w' : World} (h : Below B w w') (hb : B ≤ b) (x y z : Value) : Below B w (((w'.setCell ⟨b, 0, none⟩ x).setCell ⟨b, 1, none⟩ y).setCell ⟨b, 2, none⟩ z) :=
  ((h.setCell (p := ⟨b, 0, none⟩) hb x).setCell (p := ⟨b, 1, none⟩) hb y).setCell (p := ⟨b, 2, none⟩) hb z
theorem grown_box3 (b : Nat) (w : World) (x y z : Value) : w.grownBy (((w.setCell ⟨b, 0, none⟩ x).setCell ⟨b, 1, none⟩ y).setCell ⟨b, 2, none⟩ z) (some b) := grown_trans (grown_trans (grown_cell _ _ _) (grown_cell _ _ _)) (grown_cell _ _ _)
theorem Rd.box3 {S : Nat → Prop} {w : World} {d : D} {cs : List Value} (h : Rd S w d cs) {b : Nat} (hb : ¬ S b) (x y z : Value) : Rd S (((w.setCell ⟨b, 0, none⟩ x).setCell ⟨b, 1, none⟩ y).setCell ⟨b, 2, none⟩ z) d cs :=
  Rd.keep (fun k hk hlt => ⟨hk, (grown_box3 b w x y z).block k hlt (fun e => by cases e; exact hb hk)⟩) d cs h

set_option maxHeartbeats 400000 in
theorem cloneT (t : Tree) (v : Value) (w : World) (hm : t.size ≤ 1099511627776) (hv : Rd AnyB w (.sl (t.kids.map Tree.d)) [v]) :
    Calls Try.prog 141 #[.agg #[.int .i64 t.rule, .int .i64 t.term, v]] w (TreePost t w) := by
  obtain ⟨a, cap, rfl, -, -⟩ := hv.form
  obtain ⟨n, HN⟩ := nameIt (t.kids.map Tree.d).length
  have hb := ((Below.refl w.heap.size w).alloc (Nat.le_refl _) (.cells #[.int .i64 t.rule, .int .i64 t.term, .slice a (t.kids.map Tree.d).length cap] 43)).alloc (by simp) (.cells #[.int .i64 0, .int .i64 0, .slice none 0 0] 43)
  have hc := copyE _ t _ _ (Nat.le_refl _) hm (hv.below hb)
  rw [HN.out] at hb hc
  rw [HN.out]
  have HC := Lib.hid hc
  have HB := Lib.hid hb
  clear hb hc hv
  go_enter Try.func141, Try.ntmps141
  go_wp2_with fail
  refine HC.out.mono ?_
  rintro e w1 ⟨v1, rfl, hr1, hb1⟩
  obtain ⟨a1, c1, rfl, -, -⟩ := hr1.form
  have hbx := bx_keep (bx_new (w.alloc (.cells #[.int .i64 t.rule, .int .i64 t.term, .slice a n cap] 43)) (.cells #[.int .i64 0, .int .i64 0, .slice none 0 0] 43) (w.heap.size + 1) (by simp)) hb1
  obtain ⟨c0, c1', c2⟩ := bx_cells3 hbx
  obtain ⟨f0, f1, f2⟩ := bx_free3 hbx
  have hlt := (Array.getElem?_eq_some_iff.1 hbx).1
  have HR1 := Lib.hid hr1
  have HB1 := Lib.hid hb1
  clear hr1 hb1 hbx
  go_wp2_with fail
  refine bodyPost_ret (v := .agg #[.int .i64 t.rule, .int .i64 t.term, .slice a1 (t.kids.map Tree.d).length c1]) (by simp [results, Try.results141, go_sem, c0, c1', c2]) rfl ?_
  have h2 : Below w.heap.size w w1 := HB.out.trans (HB1.out.mono HB.out.size)
  have h3 := (HR1.out.box3 (b := w.heap.size + 1) (by simp [FreshB]) (.int .i64 t.rule) (.int .i64 t.term) (.slice a1 (t.kids.map Tree.d).length c1)).mono (S' := FreshB w) (fun k hk _ => by simp [FreshB] at hk ⊢; omega)
  exact ⟨_, rfl, by simpa using h3, by simpa using below_box3 h2 (b := w.heap.size + 1) (by omega) (.int .i64 t.rule) (.int .i64 t.term) (.slice a1 (t.kids.map Tree.d).length c1)⟩
end Go.Proofs.Ytjehmleckcmilaa
