/- attr.Refs: the closure that gathers the occurrences. -/
import Derived.Test.YthkdeljlhplkgaaAttrVal
import Derived.Test.YthkdeljlhplkgaaData
import Derived.Laws.OwnMore
import Derived.Laws.EntriesVeiled
import Derived.Deep.DeepCutAuto
namespace Go.Proofs.Ythkdeljlhplkgaa
open Go.RowKit
namespace At

def refC (l : List Ref) : List Value := l.flatMap fun x => [.int .i64 x.at', .int .i64 x.attr]
theorem refC_append (a b : List Ref) : refC (a ++ b) = refC a ++ refC b := by simp [refC]
theorem refC_len : ∀ l : List Ref, (refC l).length = l.length * 2
  | [] => rfl
  | x :: l => by rw [show x :: l = [x] ++ l from rfl, refC_append, List.length_append, refC_len l]; simp [refC]; omega
theorem elRef : ElemT Try.prog 36 30 2 16 := ElemT.mk' (z := .agg #[.int .i64 0, .int .i64 0]) Try.underlying36 (by kernel_rfl) rfl (by decide)
def refsOf (x : Expr) : List Ref := ((enodes x).filter fun y => y.kind == 1).map Expr.ref
def refsL (l : List Expr) : List Ref := ((enodesL l).filter fun y => y.kind == 1).map Expr.ref
def own1 (x : Expr) : List Ref := if x.kind = 1 then [x.ref] else []
theorem refsOf_eq (x : Expr) : refsOf x = own1 x ++ refsL x.args := by
  unfold refsOf own1 refsL
  rw [enodes_eq, List.filter_cons]
  by_cases h : x.kind = 1
  · simp [h]
  · simp [h]
theorem refsL_take {l : List Expr} {i : Nat} (h : i < l.length) : refsL (l.take (i + 1)) = refsL (l.take i) ++ refsOf l[i] := by
  unfold refsL refsOf
  rw [enodesL_take h, List.filter_append, List.map_append]
theorem refsOf_len (x : Expr) : (refsOf x).length ≤ x.size := by
  unfold refsOf
  rw [List.length_map, ← enodes_len]
  exact List.length_filter_le _ _
theorem refsL_len (l : List Expr) : (refsL l).length ≤ sizeL l := by
  unfold refsL
  rw [List.length_map, ← enodesL_len]
  exact List.length_filter_le _ _

/-- the two captured variables, and the row of occurrences so far -/
structure RfI (w0 : World) (ob vb B : Nat) (L : List Ref) (u : Value) (W : World) : Prop where
  bel : Below w0.heap.size w0 W
  lo : w0.heap.size ≤ ob ∧ w0.heap.size ≤ vb ∧ ob < B ∧ vb < B ∧ ob ≠ vb ∧ B ≤ W.heap.size ∧ w0.heap.size ≤ B
  obox : W.heap[ob]? = some (.cells #[u] 36 (0, 0))
  vbox : W.heap[vb]? = some (.cells #[.func (.func 13) #[] #[.pointer (some ⟨ob, 0, none⟩), .pointer (some ⟨vb, 0, none⟩)]] 46 (0, 0))
  own : W.ownsRow B 30 2 u L.length (refC L)
theorem RfI.keep {w0 : World} {ob vb B : Nat} {L : List Ref} {u : Value} {W W' : World} (h : RfI w0 ob vb B L u W) (hb : Below W.heap.size W W') : RfI w0 ob vb B L u W' :=
  ⟨h.bel.trans (hb.mono h.bel.size), by have := h.lo; have := hb.size; omega, bx_keep h.obox hb, bx_keep h.vbox hb, own_keep h.own hb⟩
theorem RfI.app {w0 : World} {ob vb B : Nat} {L : List Ref} {u u' : Value} {W W0 W1 : World} {x : Ref} (h : RfI w0 ob vb B L u W) (hb : Below W.heap.size W W0)
    (ho : W1.ownsRow B 30 2 u' (L.length + 1) (refC L ++ [.int .i64 x.at', .int .i64 x.attr])) (hg : W0.grownBy W1 u.ownBlock) : RfI w0 ob vb B (L ++ [x]) u' (W1.setCell ⟨ob, 0, none⟩ u') := by
  have hl := h.lo
  have hk := h.keep hb
  have hne : ∀ k, k < B → u.ownBlock ≠ some k := fun k hk e => by have := (h.own.lt _ e).1; omega
  have hne' : ∀ k, k < B → u'.ownBlock ≠ some k := fun k hk e => by have := (ho.lt _ e).1; omega
  have hs := hb.size
  have hs2 := hg.size
  have hbel : Below w0.heap.size w0 W1 := hk.bel.grown hg hk.bel.size (fun k e => by have := (h.own.lt k e).1; omega)
  have g : ∀ {k : Nat} {o : Obj}, k < B → W0.heap[k]? = some o → W1.heap[k]? = some o := fun {k o} hk e => by rw [hg.block k (by omega) (fun e => hne k hk e.symm)]; exact e
  refine ⟨hbel.setCell (by simp; omega) _, by simp [World.setCell]; omega, ?_, bx_other (g (by omega) hk.vbox) (by omega) _ _, ?_⟩
  · rw [bx_set (g (by omega) hk.obox)]; rfl
  · rw [refC_append, List.length_append]
    exact ownsRow_setCell_other ho (fun e => hne' _ (by simp; omega) e) _

set_option maxHeartbeats 4000000 in
set_option maxRecDepth 100000 in
theorem gatherE (w0 : World) (ob vb B : Nat) : ∀ (m : Nat) (x : Expr) (v : Value) (L : List Ref) (u : Value) (W : World), x.size ≤ m → RfI w0 ob vb B L u W → Rd AnyB w0 (.sl (x.args.map Expr.d)) [v] → L.length + x.size ≤ 1048576 →
      Calls Try.prog 13 #[.agg #[.int .i64 x.kind, .int .i64 x.n, .int .i64 x.ref.at', .int .i64 x.ref.attr, v], .pointer (some ⟨ob, 0, none⟩), .pointer (some ⟨vb, 0, none⟩)] W fun e W' => e = .returned (.tuple #[]) ∧ ∃ u', RfI w0 ob vb B (L ++ refsOf x) u' W' := by
  intro m
  induction m with
  | zero => intro x v L u W hm; have := x.size_pos; omega
  | succ m ih =>
  intro x v L u W hm hI hv hN
  obtain ⟨a, cap, rfl, hc1, hc2⟩ := hv.form
  rw [List.length_map] at hc1 hv ⊢
  unfold maxLen at hc2
  have HV := Lib.hid hv
  have HI := Lib.hid hI
  have IH := Lib.hid ih
  have HM := Lib.hid hm
  have HN := Lib.hid hN
  have HSZ := Lib.hid x.size_eq
  have HRE := Lib.hid (refsOf_eq x)
  have HO1 : Hid (own1 x = if x.kind = 1 then [x.ref] else []) := rfl
  obtain ⟨K, HKN⟩ := nameIt x.args
  rw [HKN.out] at hc1 HV HSZ HRE ⊢
  obtain ⟨au, cu, rfl, hu1, hu2⟩ := own_len hI.own
  unfold maxLen at hu2
  have hlen : L.length < 1048576 := by have := x.size_pos; omega
  obtain ⟨W0, HW0⟩ := nameIt (W.alloc (.cells #[.int .i64 x.kind, .int .i64 x.n, .int .i64 x.ref.at', .int .i64 x.ref.attr, .slice a K.length cap] 33))
  have hb0 : Below W.heap.size W W0 := by rw [← HW0.out]; exact (Below.refl _ _).alloc (Nat.le_refl _) _
  have X0 : Hid (W0.heap[W.heap.size]? = some (.cells #[.int .i64 x.kind, .int .i64 x.n, .int .i64 x.ref.at', .int .i64 x.ref.attr, .slice a K.length cap] 33 (0, 0))) := by rw [← HW0.out]; exact bx_new _ _ _ rfl
  have HI0 := Lib.hid (hI.keep hb0)
  obtain ⟨q0, HQ0⟩ := nameIt x.kind
  obtain ⟨q1, HQ1⟩ := nameIt x.n
  obtain ⟨q2, HQ2⟩ := nameIt x.ref.at'
  obtain ⟨q3, HQ3⟩ := nameIt x.ref.attr
  rw [HQ0.out] at HO1
  rw [HQ0.out, HQ1.out, HQ2.out, HQ3.out] at X0 HW0 ⊢
  have HLO := Lib.hid hI.lo
  have HWS : Hid (W.heap.size < W0.heap.size) := (Array.getElem?_eq_some_iff.1 X0.out).1
  have HRX := Lib.hid (show (x.ref : Ref) = ⟨q2, q3⟩ by rw [← HQ2.out, ← HQ3.out])
  obtain ⟨x0, x1, x2, x3, x4⟩ := bx_cells5 X0.out
  have c0 := bx_cells1 HI0.out.obox
  have f0 := bx_free1 HI0.out.obox
  have hob0 : ob < W0.heap.size := (Array.getElem?_eq_some_iff.1 HI0.out.obox).1
  obtain ⟨O1, HOO⟩ := nameIt (own1 x)
  rw [HOO.out] at HO1 HRE
  clear hv hI ih hm hN hb0
  go_enter Try.func13, Try.ntmps13
  go_upto_region 1 with fail
  rw [HW0.out]
  go_upto_if 8 with fail
  go_cut [] (fun wx => Hid ((∃ u, RfI w0 ob vb B (L ++ O1) u wx) ∧ wx.heap[W.heap.size]? = some (.cells #[.int .i64 q0, .int .i64 q1, .int .i64 q2, .int .i64 q3, .slice a K.length cap] 33 (0, 0))))
  case first =>
    by_cases hk1 : q0 = 1
    · have HO2 : Hid (O1 = [⟨q2, q3⟩]) := by show _ = _; rw [HO1.out, if_pos hk1, HRX.out]
      subst hk1
      go_wp2_with (at_builtin; refine wp_app1at elRef rfl _ _ rfl HI0.out.own rfl rfl (by simp) rfl rfl (by omega) (by unfold maxLen; omega) (by have := HI0.out.lo; omega) ?_)
      intro v' w' ho hg hat
      have HI1 := Lib.hid (HI0.out.app (x := ⟨q2, q3⟩) (Below.refl _ _) ho hg)
      obtain ⟨av', cv', rfl, -, -⟩ := own_len ho
      have hon : (Value.slice au L.length cu).ownBlock ≠ some ob := fun e => by have := (HI0.out.own.lt _ e).1; have := HLO.out; omega
      have hobx : w'.heap[ob]? = some (.cells #[.slice au L.length cu] 36 (0, 0)) := by rw [hg.block ob hob0 (fun e => hon e.symm)]; exact HI0.out.obox
      have g0 := bx_cells1 hobx
      have g1f := bx_free1 hobx
      have hWn : (Value.slice au L.length cu).ownBlock ≠ some W.heap.size := fun e => by have := (HI.out.own.lt _ e).2; omega
      have htx : Hid (w'.heap[W.heap.size]? = some (.cells #[.int .i64 1, .int .i64 q1, .int .i64 q2, .int .i64 q3, .slice a K.length cap] 33 (0, 0))) := by show _ = _; rw [hg.block W.heap.size HWS.out (fun e => hWn e.symm)]; exact X0.out
      have HNB : Hid (W.heap.size ≠ ob) := by have := HLO.out; show _ ≠ _; omega
      clear ho hg hat c0 f0 hon hWn hobx
      go_wp2_with fail
      go_meet
      case rel =>
        have h2 := bx_other htx.out HNB.out 0 (.slice av' (L.length + 1) cv')
        refine ⟨⟨.slice av' (L.length + 1) cv', ?_⟩, h2⟩
        rw [HO2.out]
        exact HI1.out
    · have hkb : (q0 == 1) = false := by simpa using hk1
      have HO2 : Hid (O1 = []) := by show _ = _; rw [HO1.out, if_neg hk1]
      clear hk1
      go_wp2_with fail
      go_meet
      case rel =>
        refine ⟨⟨.slice au L.length cu, ?_⟩, X0.out⟩
        rw [HO2.out, List.append_nil]
        exact HI0.out
  case rest =>
    clear x0 x1 x2 x3 x4 c0 f0
    have HI2 := Lib.hid hcut.out.1
    have HX2 := Lib.hid hcut.out.2
    clear hcut
    obtain ⟨x0, x1, x2, x3, x4⟩ := bx_cells5 HX2.out
    have HR0 : Hid (∃ u, RfI w0 ob vb B (L ++ O1 ++ refsL (K.take 0)) u wc) := by
      obtain ⟨u, hu⟩ := HI2.out
      exact ⟨u, by simpa [refsL, enodesL] using hu⟩
    go_wp2_with fail
    clear x0 x1 x2 x3 x4
    go_loopg [17] K.length (fun gg v17 wr => ∃ (i : Nat), i ≤ K.length ∧ K.length - i ≤ gg ∧ v17 = .int .i64 i ∧ Hid (∃ u, RfI w0 ob vb B (L ++ O1 ++ refsL (K.take i)) u wr))
    case atStart => exact ⟨0, by omega, by omega, rfl, HR0⟩
    case round =>
      clear HR0 HI2 HX2
      obtain ⟨i, hi, hg, rfl, HR⟩ := hrel
      by_cases hlt : i < K.length
      · have hlt' : (i : Int) < (K.length : Int) := by omega
        obtain ⟨b, off, v, hae, -, hbl, e0, e1, e2, e3, e4, hkid⟩ := Rd.arg HV.out hlt
        obtain ⟨av, cv, rfl, -, -⟩ := hkid.form
        rw [List.length_map] at e4 hkid
        obtain ⟨uu, hPI⟩ := HR.out
        have hbel := hPI.bel
        have e0 := (hbel.cell (p := ⟨b, off + i * 5, none⟩) hbl).trans e0
        have e1 := (hbel.cell (p := ⟨b, off + i * 5 + 1, none⟩) hbl).trans e1
        have e2 := (hbel.cell (p := ⟨b, off + i * 5 + 2, none⟩) hbl).trans e2
        have e3 := (hbel.cell (p := ⟨b, off + i * 5 + 3, none⟩) hbl).trans e3
        have e4 := (hbel.cell (p := ⟨b, off + i * 5 + 4, none⟩) hbl).trans e4
        have hks := sizeL_kid hlt
        have hms : K[i].size ≤ m := by
          have h1 := HM.out
          rw [HSZ.out] at h1
          omega
        have hnn : (L ++ O1 ++ refsL (K.take i)).length + K[i].size ≤ 1048576 := by
          have h1 := HN.out
          have h2 := refsL_len (K.take i)
          have h3 : O1.length ≤ 1 := by rw [HO1.out]; split <;> simp
          rw [HSZ.out] at h1
          simp only [List.length_append]
          omega
        obtain ⟨w3, HW3⟩ := nameIt (wr.alloc (.cells #[.int .i64 K[i].kind, .int .i64 K[i].n, .int .i64 K[i].ref.at', .int .i64 K[i].ref.attr, .slice av K[i].args.length cv] 33))
        have hb3 : Below wr.heap.size wr w3 := by rw [← HW3.out]; exact (Below.refl _ _).alloc (Nat.le_refl _) _
        have X3 : Hid (w3.heap[wr.heap.size]? = some (.cells #[.int .i64 K[i].kind, .int .i64 K[i].n, .int .i64 K[i].ref.at', .int .i64 K[i].ref.attr, .slice av K[i].args.length cv] 33 (0, 0))) := by rw [← HW3.out]; exact bx_new _ _ _ rfl
        have hih := IH.out K[i] _ _ _ _ hms (hPI.keep hb3) hkid hnn
        have hvx := bx_cells1 (bx_keep hPI.vbox hb3)
        have HST : Hid (∀ u' W', RfI w0 ob vb B ((L ++ O1 ++ refsL (K.take i)) ++ refsOf K[i]) u' W' → ∃ u, RfI w0 ob vb B (L ++ O1 ++ refsL (K.take (i + 1))) u W') := by
          intro u' W' h
          refine ⟨u', ?_⟩
          rw [refsL_take hlt]
          simpa [List.append_assoc] using h
        obtain ⟨kid, HKI⟩ := nameIt (K[i]'hlt)
        rw [HKI.out] at e0 e1 e2 e3 e4 hih HST X3 HW3
        obtain ⟨p0, HP0⟩ := nameIt kid.kind
        obtain ⟨p1, HP1⟩ := nameIt kid.n
        obtain ⟨p2, HP2⟩ := nameIt kid.ref.at'
        obtain ⟨p3, HP3⟩ := nameIt kid.ref.attr
        obtain ⟨pn, HPN⟩ := nameIt kid.args.length
        rw [HP0.out, HP1.out, HP2.out, HP3.out, HPN.out] at hih X3 HW3
        rw [HP0.out] at e0
        rw [HP1.out] at e1
        rw [HP2.out] at e2
        rw [HP3.out] at e3
        rw [HPN.out] at e4
        have HIH := Lib.hid hih
        obtain ⟨y0, y1, y2, y3, y4⟩ := bx_cells5 X3.out
        subst hae
        clear hbel hms hnn hih hkid hPI hb3 hks HR
        go_upto_region 6 with fail
        rw [HW3.out]
        clear e0 e1 e2 e3 e4
        go_wp2_with fail
        refine HIH.out.mono ?_
        rintro e W4 ⟨rfl, u4, hI4⟩
        have HR' := Lib.hid (HST.out _ _ hI4)
        clear hI4 HIH y0 y1 y2 y3 y4 hvx
        go_wp2_with fail
        go_roundg (K.length - (i + 1))
        case measure => omega
        case rel => exact ⟨i + 1, by omega, by omega, by go_num, HR'⟩
      · have hlt' : ¬ (i : Int) < (K.length : Int) := by omega
        have HFIN : Hid (∃ u, RfI w0 ob vb B (L ++ refsOf x) u wr) := by
          obtain ⟨u, hu⟩ := HR.out
          refine ⟨u, ?_⟩
          rw [HRE.out, ← List.append_assoc]
          rw [List.take_of_length_le (by omega)] at hu
          exact hu
        go_wp2_with fail
        exact bodyPost_end (results_none Try.results13 _ _ _) rfl ⟨rfl, HFIN.out⟩
end At
end Go.Proofs.Ythkdeljlhplkgaa
