/- The contract of tree.Places. -/
import Derived.Test.YtjehmleckcmilaaPlaces
import Derived.Laws.OwnMore
import Derived.Laws.EntriesVeiled
import Derived.Deep.DeepCutAuto
namespace Go.Proofs.Ytjehmleckcmilaa
open Go.RowKit

def placeC (l : List (Nat × Nat)) : List Value := l.flatMap fun x => [.int .i64 x.1, .int .i64 x.2]
theorem placeC_append (a b : List (Nat × Nat)) : placeC (a ++ b) = placeC a ++ placeC b := by simp [placeC]
theorem placeC_len : ∀ l : List (Nat × Nat), (placeC l).length = l.length * 2
  | [] => rfl
  | x :: l => by rw [show x :: l = [x] ++ l from rfl, placeC_append, List.length_append, placeC_len l]; simp [placeC]; omega
theorem placeC_set (a b : List (Nat × Nat)) (x y z : Nat) : (placeC (a ++ (x, y) :: b)).set (a.length * 2 + 1) (.int .i64 z) = placeC (a ++ (x, z) :: b) := by
  rw [placeC_append, placeC_append, List.set_append, if_neg (by rw [placeC_len]; omega), placeC_len, show a.length * 2 + 1 - a.length * 2 = 1 by omega]
  simp [placeC]

theorem own_form {w : World} {B : Nat} {e : TypeId} {s : Nat} {v : Value} {n : Nat} {xs : List Value} (h : w.ownsRow B e s v n xs) (hn : 0 < n) : ∃ g cap, v = .slice (some ⟨g, 0, none⟩) n cap := by
  rcases h.2 with ⟨_, rfl⟩ | ⟨g, cap, cur, rfl, _⟩
  · omega
  · exact ⟨g, cap, rfl⟩
theorem ownsRow_le' {w : World} {B B' : Nat} {e : TypeId} {s : Nat} {v : Value} {n : Nat} {xs : List Value} (h : w.ownsRow B e s v n xs) (hb : B' ≤ B) : w.ownsRow B' e s v n xs := by
  obtain ⟨h1, h2⟩ := h
  refine ⟨h1, ?_⟩
  rcases h2 with h2 | ⟨g, cap, cur, rfl, hg, r⟩
  · exact .inl h2
  · exact .inr ⟨g, cap, cur, rfl, Nat.le_trans hb hg, r⟩
theorem elPlace : ElemT Try.prog 44 48 2 16 := ElemT.mk' (z := .agg #[.int .i64 0, .int .i64 0]) Try.underlying44 (by kernel_rfl) rfl (by decide)

theorem pl_eq (t : Tree) (n : Nat) : pl t n = (n, n + lv t) :: plL (kidsOf t) n := by
  cases t with
  | node r tm ks =>
    rw [pl]
    by_cases h : r = -1 <;> simp [kidsOf, Tree.rule, Tree.kids, h, plL]
theorem plL_append : ∀ (a b : List Tree) (n : Nat), plL (a ++ b) n = plL a n ++ plL b (n + lvs a)
  | [], b, n => by simp [plL, lvs]
  | x :: a, b, n => by simp [plL, lvs, plL_append a b, Nat.add_assoc]
theorem plL_take {ks : List Tree} {i : Nat} (h : i < ks.length) (n : Nat) : plL (ks.take (i + 1)) n = plL (ks.take i) n ++ pl ks[i] (n + lvs (ks.take i)) := by
  rw [List.take_succ_eq_append_getElem h, plL_append]; simp [plL]
mutual
theorem pl_len : ∀ (t : Tree) (n : Nat), (pl t n).length = (nodes t).length
  | .node r tm ks, n => by
    rw [pl, nodes]
    by_cases h : r = -1
    · simp [h]
    · simp [h, plL_len ks n]
theorem plL_len : ∀ (ks : List Tree) (n : Nat), (plL ks n).length = (nodesL ks).length
  | [], n => by simp [plL, nodesL]
  | k :: ks, n => by simp [plL, nodesL, pl_len k n, plL_len ks]
end
theorem lv_le (t : Tree) : lv t ≤ (nodes t).length := leavesOf_le _
theorem lvs_le (ks : List Tree) : lvs ks ≤ (nodesL ks).length := by rw [← lvs_nodesL]; exact leavesOf_le _

/-- the three captured variables, and the row of places so far -/
structure PlI (w0 : World) (ob nb vb B : Nat) (L : List (Nat × Nat)) (n : Nat) (u : Value) (W : World) : Prop where
  bel : Below w0.heap.size w0 W
  lo : w0.heap.size ≤ ob ∧ w0.heap.size ≤ nb ∧ w0.heap.size ≤ vb ∧ ob < B ∧ nb < B ∧ vb < B ∧ ob ≠ nb ∧ ob ≠ vb ∧ nb ≠ vb ∧ B ≤ W.heap.size ∧ w0.heap.size ≤ B
  obox : W.heap[ob]? = some (.cells #[u] 44 (0, 0))
  nbox : W.heap[nb]? = some (.cells #[.int .i64 n] 3 (0, 0))
  vbox : W.heap[vb]? = some (.cells #[.func (.func 99) #[] #[.pointer (some ⟨ob, 0, none⟩), .pointer (some ⟨nb, 0, none⟩), .pointer (some ⟨vb, 0, none⟩)]] 177 (0, 0))
  own : W.ownsRow B 48 2 u L.length (placeC L)

theorem PlI.keep {w0 : World} {ob nb vb B : Nat} {L : List (Nat × Nat)} {n : Nat} {u : Value} {W W' : World} (h : PlI w0 ob nb vb B L n u W) (hb : Below W.heap.size W W') : PlI w0 ob nb vb B L n u W' :=
  ⟨h.bel.trans (hb.mono h.bel.size), by have := h.lo; have := hb.size; omega, bx_keep h.obox hb, bx_keep h.nbox hb, bx_keep h.vbox hb, own_keep h.own hb⟩
theorem PlI.setN {w0 : World} {ob nb vb B : Nat} {L : List (Nat × Nat)} {n : Nat} {u : Value} {W : World} (h : PlI w0 ob nb vb B L n u W) (m : Nat) : PlI w0 ob nb vb B L m u (W.setCell ⟨nb, 0, none⟩ (.int .i64 m)) := by
  have hl := h.lo
  refine ⟨h.bel.setCell (by simp; omega) _, by simpa [World.setCell] using hl, bx_other h.obox (by omega) _ _, ?_, bx_other h.vbox (by omega) _ _, ?_⟩
  · rw [bx_set h.nbox]; rfl
  · exact ownsRow_setCell_other h.own (fun e => by have := (h.own.lt _ e).1; simp at this; omega) _
theorem PlI.app {w0 : World} {ob nb vb B : Nat} {L : List (Nat × Nat)} {n : Nat} {u u' : Value} {W W0 W1 : World} {x y : Nat} (h : PlI w0 ob nb vb B L n u W) (hb : Below W.heap.size W W0)
    (ho : W1.ownsRow B 48 2 u' (L.length + 1) (placeC L ++ [.int .i64 x, .int .i64 y])) (hg : W0.grownBy W1 u.ownBlock) : PlI w0 ob nb vb B (L ++ [(x, y)]) n u' (W1.setCell ⟨ob, 0, none⟩ u') := by
  have hl := h.lo
  have hk := h.keep hb
  have hne : ∀ k, k < B → u.ownBlock ≠ some k := fun k hk e => by have := (h.own.lt _ e).1; omega
  have hne' : ∀ k, k < B → u'.ownBlock ≠ some k := fun k hk e => by have := (ho.lt _ e).1; omega
  have hs := hb.size
  have hs2 := hg.size
  have hbel : Below w0.heap.size w0 W1 := hk.bel.grown hg hk.bel.size (fun k e => by have := (h.own.lt k e).1; omega)
  have g : ∀ {k : Nat} {o : Obj}, k < B → W0.heap[k]? = some o → W1.heap[k]? = some o := fun {k o} hk e => by rw [hg.block k (by omega) (fun e => hne k hk e.symm)]; exact e
  refine ⟨hbel.setCell (by simp; omega) _, by simp [World.setCell]; omega, ?_, bx_other (g (by omega) hk.nbox) (by omega) _ _, bx_other (g (by omega) hk.vbox) (by omega) _ _, ?_⟩
  · rw [bx_set (g (by omega) hk.obox)]; rfl
  · rw [placeC_append, List.length_append]
    exact ownsRow_setCell_other ho (fun e => hne' _ (by simp; omega) e) _
theorem PlI.setTo {w0 : World} {ob nb vb B : Nat} {L M : List (Nat × Nat)} {x y z n N g c : Nat} {W : World} (h : PlI w0 ob nb vb B (L ++ (x, y) :: M) n (.slice (some ⟨g, 0, none⟩) N c) W) : PlI w0 ob nb vb B (L ++ (x, z) :: M) n (.slice (some ⟨g, 0, none⟩) N c) (W.setCell ⟨g, L.length * 2 + 1, none⟩ (.int .i64 z)) := by
  have hl := h.lo
  have hgB := (h.own.lt g rfl).1
  obtain ⟨_, _, e, _⟩ := own_len h.own
  cases e
  have hst := (h.own.stored (L.length * 2 + 1) (.int .i64 z)).1
  rw [placeC_set] at hst
  refine ⟨h.bel.setCell (by simp; omega) _, by simpa [World.setCell] using hl, bx_other h.obox (by omega) _ _, bx_other h.nbox (by omega) _ _, bx_other h.vbox (by omega) _ _, ?_⟩
  have e : (L ++ (x, z) :: M).length = (L ++ (x, y) :: M).length := by simp
  rw [e]; exact hst

set_option maxHeartbeats 2000000 in
set_option maxRecDepth 100000 in
theorem visitE (w0 : World) (ob nb vb B : Nat) :
    ∀ (m : Nat) (t : Tree) (v : Value) (L : List (Nat × Nat)) (n : Nat) (u : Value) (W : World), (nodes t).length ≤ m → PlI w0 ob nb vb B L n u W → Rd AnyB w0 (.sl (t.kids.map Tree.d)) [v] → L.length + (nodes t).length ≤ 1099511627776 → n + (nodes t).length ≤ 1099511627776 →
      Calls Try.prog 99 #[.agg #[.int .i64 t.rule, .int .i64 t.term, v], .pointer (some ⟨ob, 0, none⟩), .pointer (some ⟨nb, 0, none⟩), .pointer (some ⟨vb, 0, none⟩)] W fun e W' => e = .returned (.tuple #[]) ∧ ∃ u', PlI w0 ob nb vb B (L ++ pl t n) (n + lv t) u' W' := by
  intro m
  induction m with
  | zero => intro t v L n u W hm; have := nodes_pos t; omega
  | succ m ih =>
  intro t v L n u W hm hI hv hN hM
  obtain ⟨a, cap, rfl, hc1, hc2⟩ := hv.form
  have HV := Lib.hid hv
  have HI := Lib.hid hI
  have IH := Lib.hid ih
  have HM := Lib.hid hm
  have HN := Lib.hid hN
  have HN2 := Lib.hid hM
  obtain ⟨au, cu, rfl, hu1, hu2⟩ := own_len hI.own
  unfold maxLen at hu2
  have hn0 := nodes_pos t
  have hlen : L.length < 1099511627776 := by omega
  have hnn : n < 1099511627776 := by omega
  clear hv hI ih hc1 hc2 hm hN hM hn0
  obtain ⟨r, HRr⟩ := nameIt t.rule
  obtain ⟨tm, HRt⟩ := nameIt t.term
  obtain ⟨nk, HRn⟩ := nameIt (t.kids.map Tree.d).length
  have hk := fun W => kidsE w0 t _ W HV.out
  rw [HRr.out, HRt.out, HRn.out] at hk
  rw [HRr.out, HRt.out, HRn.out]
  have HK := Lib.hid hk
  clear hk
  have HB := Lib.hid ((Below.refl W.heap.size W).alloc (Nat.le_refl _) (.cells #[.int .i64 r, .int .i64 tm, .slice a nk cap] 43))
  have c0 := bx_cells1 HI.out.obox
  have c1 := bx_cells1 HI.out.nbox
  have f0 := bx_free1 HI.out.obox
  have f1 := bx_free1 HI.out.nbox
  have HLO := Lib.hid HI.out.lo
  have hob : ob < W.heap.size := by have := HI.out.lo; omega
  have hnb : nb < W.heap.size := by have := HI.out.lo; omega
  have hvb : vb < W.heap.size := by have := HI.out.lo; omega
  go_enter Try.func99, Try.ntmps99
  go_wp2_with (at_builtin; refine wp_app1at elPlace rfl _ _ rfl (own_keep HI.out.own HB.out) rfl rfl (by simp) rfl rfl (by omega) (by unfold maxLen; omega) (by have := HLO.out; simp; omega) ?_)
  intro v' w' ho hg hat
  obtain ⟨g1, cu1, rfl, -, -, -, -, -⟩ := own_at ho hat
  have HI1 := Lib.hid (HI.out.app (x := n) (y := 0) HB.out ho hg)
  have hob1 : ob < w'.heap.size := by have := hg.size; simp at this; omega
  have hWn : (Value.slice au L.length cu).ownBlock ≠ some W.heap.size := fun e => by have := (HI.out.own.lt _ e).2; omega
  have hon : (Value.slice au L.length cu).ownBlock ≠ some ob := fun e => by have := (HI.out.own.lt _ e).1; have := HLO.out; omega
  have hobx : w'.heap[ob]? = some (.cells #[.slice au L.length cu] 44 (0, 0)) := by rw [hg.block ob (by simp; omega) (fun e => hon e.symm)]; exact bx_keep HI.out.obox HB.out
  have g0 := bx_cells1 hobx
  have g1f := bx_free1 hobx
  have htx : w'.heap[W.heap.size]? = some (.cells #[.int .i64 r, .int .i64 tm, .slice a nk cap] 43 (0, 0)) := by rw [hg.block W.heap.size (by simp) (fun e => hWn e.symm)]; exact bx_new _ _ _ rfl
  obtain ⟨W1, HW1⟩ := nameIt (w'.setCell ⟨ob, 0, none⟩ (.slice (some ⟨g1, 0, none⟩) (L.length + 1) cu1))
  have htx1 : W1.heap[W.heap.size]? = some (.cells #[.int .i64 r, .int .i64 tm, .slice a nk cap] 43 (0, 0)) := by rw [← HW1.out]; exact bx_other htx (by omega) _ _
  rw [HW1.out] at HI1
  have HX1 := Lib.hid htx1
  clear ho hg hat c0 c1 f0 f1 hon hWn hobx htx htx1
  go_upto_region 3 with fail
  rw [HW1.out]
  clear g0 g1f hob1
  obtain ⟨x0, x1, x2⟩ := bx_cells3 HX1.out
  have c1 := bx_cells1 HI1.out.nbox
  have f1 := bx_free1 HI1.out.nbox
  obtain ⟨n1, HN1⟩ := nameIt (if r = -1 then n + 1 else n)
  go_upto_if 17 with fail
  go_cut [] (fun wx => Hid (PlI w0 ob nb vb B (L ++ [(n, 0)]) n1 (.slice (some ⟨g1, 0, none⟩) (L.length + 1) cu1) wx ∧ wx.heap[W.heap.size]? = some (.cells #[.int .i64 r, .int .i64 tm, .slice a nk cap] 43 (0, 0))))
  case first =>
    by_cases hr : r = -1
    · have hrb : (r == -1) = true := by simpa using hr
      have HR := Lib.hid hr
      clear hr
      go_wp2_with fail
      go_meet
      case rel =>
        have e : n1 = n + 1 := by rw [← HN1.out, if_pos HR.out]
        subst e
        exact ⟨by simpa using HI1.out.setN (n + 1), bx_other HX1.out (by omega) _ _⟩
    · have hrb : (r == -1) = false := by simpa using hr
      have HR := Lib.hid hr
      clear hr
      go_wp2_with fail
      go_meet
      case rel =>
        have e : n1 = n := by rw [← HN1.out, if_neg HR.out]
        subst e
        exact ⟨HI1.out, HX1.out⟩
  case rest =>
    clear x0 x1 x2 c1 f1
    have HI2 := Lib.hid hcut.out.1
    have HX2 := Lib.hid hcut.out.2
    clear hcut HX1 HI1
    obtain ⟨x0, x1, x2⟩ := bx_cells3 HX2.out
    go_wp2_with fail
    refine (HK.out wc).mono ?_
    rintro e W2 ⟨ak, ck, rfl, hrk, hb2⟩
    have HRK := Lib.hid hrk
    have HI3 := Lib.hid (HI2.out.keep hb2)
    obtain ⟨K, HKN⟩ := nameIt (kidsOf t)
    have hkl := hrk.bounds
    rw [HKN.out] at hkl
    rw [HKN.out] at HRK
    rw [HKN.out]
    unfold maxLen at hkl
    obtain ⟨-, hkl1, hkl2⟩ := hkl
    have HR0 : Hid (∃ u, PlI w0 ob nb vb B (L ++ (n, 0) :: plL (K.take 0) n1) (n1 + lvs (K.take 0)) u W2) := ⟨_, by simpa [plL, lvs] using HI3.out⟩
    clear hrk hb2 x0 x1 x2 HK HI2 HI3 HX2
    go_wp2_with fail
    go_loopg [23] K.length (fun gg v23 wr => ∃ (i : Nat), i ≤ K.length ∧ K.length - i ≤ gg ∧ v23 = .int .i64 i ∧ Hid (∃ u, PlI w0 ob nb vb B (L ++ (n, 0) :: plL (K.take i) n1) (n1 + lvs (K.take i)) u wr))
    case atStart => exact ⟨0, by omega, by omega, rfl, HR0⟩
    case round =>
      clear HR0
      obtain ⟨i, hi, hg, rfl, HR⟩ := hrel
      by_cases hlt : i < K.length
      · have hlt' : (i : Int) < (K.length : Int) := by omega
        have hr : r ≠ -1 := by
          intro h
          have : kidsOf t = [] := by rw [kidsOf, HRr.out, if_pos h]
          rw [HKN.out] at this
          rw [this] at hlt
          simp at hlt
        have hn1 : n1 = n := by rw [← HN1.out, if_neg hr]
        subst hn1
        obtain ⟨b, off, v, hae, -, hbl, k0, k1, k2, hkid⟩ := HRK.out.kid hlt
        obtain ⟨av, cv, rfl, -, -⟩ := hkid.form
        obtain ⟨nv, HNV⟩ := nameIt (K[i].kids.map Tree.d).length
        rw [HNV.out] at k2 hkid
        obtain ⟨uu, hPI⟩ := HR.out
        have hbel := hPI.bel
        have e0 := (hbel.cell (p := ⟨b, off + i * 3, none⟩) hbl).trans k0
        have e1 := (hbel.cell (p := ⟨b, off + i * 3 + 1, none⟩) hbl).trans k1
        have e2 := (hbel.cell (p := ⟨b, off + i * 3 + 2, none⟩) hbl).trans k2
        have hkk := nodesL_kid hlt
        have hme : (nodes K[i]).length ≤ m := by
          have h1 := HM.out
          rw [nodes_eq, HKN.out] at h1
          simp at h1; omega
        have hne : (L ++ (n1, 0) :: plL (K.take i) n1).length + (nodes K[i]).length ≤ 1099511627776 := by
          have h1 := HN.out
          rw [nodes_eq, HKN.out] at h1
          simp [plL_len] at h1 ⊢; omega
        have hne2 : (n1 + lvs (K.take i)) + (nodes K[i]).length ≤ 1099511627776 := by
          have h1 := HN2.out
          rw [nodes_eq, HKN.out] at h1
          have := lvs_le (K.take i)
          simp at h1; omega
        have hb3 := (Below.refl wr.heap.size wr).alloc (Nat.le_refl _) (.cells #[.int .i64 K[i].rule, .int .i64 K[i].term, .slice av nv cv] 43)
        have hih := IH.out K[i] _ _ _ _ _ hme (hPI.keep hb3) hkid hne hne2
        have hvx := bx_cells1 hPI.vbox
        have hvlt : vb < wr.heap.size := by have := hPI.lo; omega
        obtain ⟨q0, HQ0⟩ := nameIt K[i].rule
        obtain ⟨q1, HQ1⟩ := nameIt K[i].term
        rw [HQ0.out] at e0 hih
        rw [HQ1.out] at e1 hih
        have HIH := Lib.hid hih
        have HST : Hid (∀ u' W', PlI w0 ob nb vb B ((L ++ (n1, 0) :: plL (K.take i) n1) ++ pl K[i] (n1 + lvs (K.take i))) (n1 + lvs (K.take i) + lv K[i]) u' W' → ∃ u, PlI w0 ob nb vb B (L ++ (n1, 0) :: plL (K.take (i + 1)) n1) (n1 + lvs (K.take (i + 1))) u W') := by
          intro u' W' h
          refine ⟨u', ?_⟩
          rw [plL_take hlt, lvs_take_succ hlt]
          simpa [Nat.add_assoc] using h
        subst hae
        clear hbel k0 k1 k2 hme hne hne2 hih hkid hPI hb3 hkk HR
        go_wp2_with fail
        refine HIH.out.mono ?_
        rintro e W3 ⟨rfl, u3, hI3⟩
        have HR' := Lib.hid (HST.out _ _ hI3)
        clear hI3 HIH e0 e1 e2
        go_wp2_with fail
        go_roundg (K.length - (i + 1))
        case measure => omega
        case rel => exact ⟨i + 1, by omega, by omega, by go_num, HR'⟩
      · have hlt' : ¬ (i : Int) < (K.length : Int) := by omega
        obtain ⟨uu, hPI⟩ := HR.out
        rw [List.take_of_length_le (by omega)] at hPI
        have HE : Hid ((L ++ (n, n + lv t) :: plL K n1) = L ++ pl t n ∧ n1 + lvs K = n + lv t) := by
          by_cases h : r = -1
          · have e1 : n1 = n + 1 := by rw [← HN1.out, if_pos h]
            have e2 : kidsOf t = [] := by rw [kidsOf, HRr.out, if_pos h]
            have e3 := lv_leaf (t := t) (by rw [HRr.out]; exact h)
            rw [pl_eq, e2, e3, e1]
            rw [HKN.out] at e2
            rw [e2]
            exact ⟨by simp [plL], by simp [lvs]⟩
          · have e1 : n1 = n := by rw [← HN1.out, if_neg h]
            have e2 : kidsOf t = t.kids := by rw [kidsOf, HRr.out, if_neg h]
            have e3 := lv_inner (t := t) (by rw [HRr.out]; exact h)
            rw [pl_eq, HKN.out, e1, e3, ← e2, HKN.out]
            exact ⟨rfl, rfl⟩
        obtain ⟨N2, HN2'⟩ := nameIt (n1 + lvs K)
        rw [HN2'.out] at hPI HE
        obtain ⟨_, cu2, rfl, hq1, hq2⟩ := own_len hPI.own
        obtain ⟨g2, c2, he2⟩ := own_form hPI.own (by simp; omega)
        cases he2
        have hlx : L.length < (L ++ (n, 0) :: plL K n1).length := by simp
        have HF := Lib.hid (hPI.setTo (z := N2))
        have c0 := bx_cells1 hPI.obox
        have c1 := bx_cells1 hPI.nbox
        have f2 := hPI.own.frozenAt (L.length * 2 + 1)
        have c2 := hPI.own.cellAt (L.length * 2 + 1) (by simp; omega)
        have c3 : (placeC (L ++ (n, 0) :: plL K n1))[L.length * 2 + 1]? = some (.int .i64 0) := by
          rw [placeC_append, List.getElem?_append_right (by rw [placeC_len]; omega), placeC_len, show L.length * 2 + 1 - L.length * 2 = 1 by omega]
          simp [placeC]
        rw [c3] at c2
        obtain ⟨Z, HZ⟩ := nameIt (L ++ (n, 0) :: plL K n1).length
        rw [HZ.out] at hq1 hlx c0 HF
        unfold maxLen at hq2
        have hlx' : (L.length : Int) < (Z : Int) := by omega
        clear HZ hPI c3 HR
        go_wp2_with fail
        refine bodyPost_end (results_none Try.results99 _ _ _) rfl ?_
        refine ⟨rfl, .slice (some ⟨g2, 0, none⟩) Z cu2, ?_⟩
        rw [← HE.out.1, ← HE.out.2]
        have h := HF.out
        rw [HE.out.2] at h ⊢
        exact h

def PlacesPost (l : List (Nat × Nat)) (w : World) (e : Ending) (w' : World) : Prop := ∃ g cap, e = .returned (.slice (some ⟨g, 0, none⟩) l.length cap) ∧ w'.ownsRow w.heap.size 48 2 (.slice (some ⟨g, 0, none⟩) l.length cap) l.length (placeC l) ∧ Below w.heap.size w w'

set_option maxHeartbeats 2000000 in
set_option maxRecDepth 100000 in
theorem placesE (t : Tree) (v : Value) (w : World) (hv : Rd AnyB w (.sl (t.kids.map Tree.d)) [v]) (hN : (nodes t).length ≤ 1099511627776) :
    Calls Try.prog 23 #[.agg #[.int .i64 t.rule, .int .i64 t.term, v]] w (PlacesPost (pl t 0) w) := by
  obtain ⟨a, n, cap, rfl⟩ := treeBox hv
  obtain ⟨w0, HW0⟩ := nameIt (((w.alloc (.cells #[.int .i64 t.rule, .int .i64 t.term, .slice a n cap] 43)).alloc (.cells #[.slice none 0 0] 44)).alloc (.cells #[.int .i64 0] 3))
  have HSZ : Hid (w0.heap.size = w.heap.size + 3) := by show _ = _; rw [← HW0.out]; simp
  have HB0 : Hid (Below w.heap.size w w0) := by rw [← HW0.out]; exact (((Below.refl _ _).alloc (Nat.le_refl _) _).alloc (by simp) _).alloc (by simp; omega) _
  have X0 : Hid (w0.heap[w.heap.size]? = some (.cells #[.int .i64 t.rule, .int .i64 t.term, .slice a n cap] 43 (0, 0))) := by
    rw [← HW0.out]; exact bx_keep (bx_keep (bx_new _ _ _ rfl) ((Below.refl _ _).alloc (Nat.le_refl _) _)) ((Below.refl _ _).alloc (Nat.le_refl _) _)
  have X1 : Hid (w0.heap[w.heap.size + 1]? = some (.cells #[.slice none 0 0] 44 (0, 0))) := by
    rw [← HW0.out]; exact bx_keep (bx_new _ _ _ (by simp)) ((Below.refl _ _).alloc (Nat.le_refl _) _)
  have X2 : Hid (w0.heap[w.heap.size + 1 + 1]? = some (.cells #[.int .i64 0] 3 (0, 0))) := by
    rw [← HW0.out]; exact bx_new _ _ _ (by simp)
  obtain ⟨F, HFn⟩ := nameIt (Value.func (.func 99) #[] #[.pointer (some ⟨w.heap.size + 1, 0, none⟩), .pointer (some ⟨w.heap.size + 1 + 1, 0, none⟩), .pointer (some ⟨w0.heap.size, 0, none⟩)])
  have HI : Hid (∀ W, Below w0.heap.size w0 W → W.heap[w0.heap.size]? = some (.cells #[F] 177 (0, 0)) → PlI w (w.heap.size + 1) (w.heap.size + 1 + 1) w0.heap.size (w0.heap.size + 1) [] 0 (.slice none 0 0) W) := by
    intro W hb hx
    have h1 := (Array.getElem?_eq_some_iff.1 hx).1
    rw [← HFn.out] at hx
    have hw0 := HSZ.out
    exact ⟨HB0.out.trans (hb.mono HB0.out.size), by omega, bx_keep X1.out hb, bx_keep X2.out hb, hx, World.ownsRow_nil _ _ _ _⟩
  have HC : Hid (∀ W, PlI w (w.heap.size + 1) (w.heap.size + 1 + 1) w0.heap.size (w0.heap.size + 1) [] 0 (.slice none 0 0) W → _) := fun W h => visitE w (w.heap.size + 1) (w.heap.size + 1 + 1) w0.heap.size (w0.heap.size + 1) (nodes t).length t _ [] 0 _ W (Nat.le_refl _) h hv (by simpa using hN) (by simpa using hN)
  obtain ⟨x0, x1, x2⟩ := bx_cells3 X0.out
  have hlt0 : w.heap.size < w0.heap.size := by have := HSZ.out; omega
  clear hv
  go_enter Try.func23, Try.ntmps23
  go_upto_region 3 with fail
  rw [HW0.out]
  go_wp2_with fail
  rw [HFn.out]
  have hb1 := (Below.refl w0.heap.size w0).alloc (Nat.le_refl _) (.cells #[F] 177)
  refine (HC.out _ (HI.out _ hb1 (bx_new _ _ _ rfl))).mono ?_
  rintro e w1 ⟨rfl, u1, h1⟩
  simp only [List.nil_append] at h1
  obtain ⟨g, c, rfl⟩ := own_form h1.own (by rw [pl_eq]; simp)
  have c0 := bx_cells1 h1.obox
  have HF := Lib.hid h1
  obtain ⟨N, HN⟩ := nameIt (pl t 0).length
  rw [HN.out] at c0
  rw [HN.out] at HF
  clear h1 hb1
  go_wp2_with fail
  go_ret
  refine ⟨g, c, by rw [HN.out]; rfl, ?_, HF.out.bel⟩
  have h := HF.out.own
  rw [HN.out] at h ⊢
  exact ownsRow_le' h (by have := HSZ.out; omega)
end Go.Proofs.Ytjehmleckcmilaa
