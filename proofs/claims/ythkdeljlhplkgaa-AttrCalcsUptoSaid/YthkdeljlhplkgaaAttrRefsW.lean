/- The contract of attr.Refs. -/
import Derived.Test.YthkdeljlhplkgaaAttrCompact
import Derived.Test.YthkdeljlhplkgaaAttrRefIdx
namespace Go.Proofs.Ythkdeljlhplkgaa
open Go.RowKit
namespace At

def refsS (x : Expr) : List Ref := Lib.compact (sortR (refsOf x))
def RefsPost (x : Expr) (w : World) (e : Ending) (w' : World) : Prop := ∃ v, e = .returned v ∧ Rd AnyB w' (.sl ((refsS x).map Ref.d)) [v] ∧ Below w.heap.size w w'

set_option maxHeartbeats 4000000 in
set_option maxRecDepth 100000 in
theorem refsE (x : Expr) (v : Value) (w : World) (hbig : x.size ≤ 100000) (hv : Rd AnyB w (.sl (x.args.map Expr.d)) [v]) :
    Calls Try.prog 6 #[.agg #[.int .i64 x.kind, .int .i64 x.n, .int .i64 x.ref.at', .int .i64 x.ref.attr, v]] w (RefsPost x w) := by
  obtain ⟨a, cap, rfl, hc1, hc2⟩ := hv.form
  rw [List.length_map] at hc1 hv ⊢
  unfold maxLen at hc2
  obtain ⟨w0, HW0⟩ := nameIt ((w.alloc (.cells #[.int .i64 x.kind, .int .i64 x.n, .int .i64 x.ref.at', .int .i64 x.ref.attr, .slice a x.args.length cap] 33)).alloc (.cells #[.slice none 0 0] 36))
  have HSZ : Hid (w0.heap.size = w.heap.size + 2) := by show _ = _; rw [← HW0.out]; simp
  have HB0 : Hid (Below w.heap.size w w0) := by rw [← HW0.out]; exact ((Below.refl _ _).alloc (Nat.le_refl _) _).alloc (by simp) _
  have X0 : Hid (w0.heap[w.heap.size]? = some (.cells #[.int .i64 x.kind, .int .i64 x.n, .int .i64 x.ref.at', .int .i64 x.ref.attr, .slice a x.args.length cap] 33 (0, 0))) := by
    rw [← HW0.out]; exact bx_keep (bx_new _ _ _ rfl) ((Below.refl _ _).alloc (Nat.le_refl _) _)
  have X1 : Hid (w0.heap[w.heap.size + 1]? = some (.cells #[.slice none 0 0] 36 (0, 0))) := by
    rw [← HW0.out]; exact bx_new _ _ _ (by simp)
  obtain ⟨F, HFn⟩ := nameIt (Value.func (.func 13) #[] #[.pointer (some ⟨w.heap.size + 1, 0, none⟩), .pointer (some ⟨w0.heap.size, 0, none⟩)])
  have HI : Hid (∀ W, Below w0.heap.size w0 W → W.heap[w0.heap.size]? = some (.cells #[F] 46 (0, 0)) → RfI w (w.heap.size + 1) w0.heap.size (w0.heap.size + 1) [] (.slice none 0 0) W) := by
    intro W hb hx
    have h1 := (Array.getElem?_eq_some_iff.1 hx).1
    rw [← HFn.out] at hx
    have hw0 := HSZ.out
    exact ⟨HB0.out.trans (hb.mono HB0.out.size), by omega, bx_keep X1.out hb, hx, World.ownsRow_nil _ _ _ _⟩
  have HC : Hid (∀ W, RfI w (w.heap.size + 1) w0.heap.size (w0.heap.size + 1) [] (.slice none 0 0) W → _) := fun W h => gatherE w (w.heap.size + 1) w0.heap.size (w0.heap.size + 1) x.size x _ [] _ W (Nat.le_refl _) h hv (by simp; omega)
  have HLR : Hid ((refsOf x).length ≤ 100000) := Nat.le_trans (refsOf_len x) hbig
  have HFIN : Hid (∀ u W, Rd AnyB W (.sl ((Lib.compact (sortR (refsOf x))).map Ref.d)) [u] → Below w.heap.size w W → RefsPost x w (.returned u) W) := fun u W h1 h2 => ⟨u, rfl, h1, h2⟩
  obtain ⟨L, HL⟩ := nameIt (refsOf x)
  rw [HL.out] at HLR HFIN
  simp only [HL.out] at HC
  obtain ⟨PST, HP⟩ := nameIt (RefsPost x w)
  simp only [HP.out] at HFIN
  rw [HP.out]
  obtain ⟨q0, HQ0⟩ := nameIt x.kind
  obtain ⟨q1, HQ1⟩ := nameIt x.n
  obtain ⟨q2, HQ2⟩ := nameIt x.ref.at'
  obtain ⟨q3, HQ3⟩ := nameIt x.ref.attr
  obtain ⟨qn, HQN⟩ := nameIt x.args.length
  rw [HQ0.out, HQ1.out, HQ2.out, HQ3.out, HQN.out] at HW0 X0 ⊢
  simp only [HQ0.out, HQ1.out, HQ2.out, HQ3.out, HQN.out] at HC
  obtain ⟨x0, x1, x2, x3, x4⟩ := bx_cells5 X0.out
  have hlt0 : w.heap.size < w0.heap.size := by have := HSZ.out; omega
  clear hv
  go_enter Try.func6, Try.ntmps6
  go_upto_region 2 with fail
  rw [HW0.out]
  go_wp2_with fail
  rw [HFn.out]
  have hb1 := (Below.refl w0.heap.size w0).alloc (Nat.le_refl _) (.cells #[F] 46)
  refine (HC.out _ (HI.out _ hb1 (bx_new _ _ _ rfl))).mono ?_
  rintro e w1 ⟨rfl, u1, h1⟩
  simp only [List.nil_append] at h1
  have HF := Lib.hid h1
  have c0 := bx_cells1 h1.obox
  obtain ⟨a1, cap1, hu1, -, -⟩ := own_len h1.own
  have HS := Lib.hid (sortRef (w0.heap.size + 1) L u1 w1 h1.own HLR.out)
  clear h1 hb1 HC HI x0 x1 x2 x3 x4
  have HU1 := Lib.hid hu1
  obtain ⟨N, HN⟩ := nameIt L.length
  rw [HN.out] at hu1
  subst hu1
  go_wp2_with fail
  refine HS.out.mono ?_
  rintro e w2 ⟨rfl, ho2, hg2⟩
  have HO2 := Lib.hid ho2
  have hobk : (Value.slice a1 N cap1).ownBlock ≠ some (w.heap.size + 1) := fun e => by
    have := (HF.out.own.lt _ e).1
    have := HSZ.out
    omega
  have c2 : w2.cell? ⟨w.heap.size + 1, 0, none⟩ = some (.slice a1 N cap1) := hg2.cell c0 (fun e => hobk e.symm)
  have HCM := Lib.hid (compactRef (w0.heap.size + 1) (sortR L) (.slice a1 N cap1) w2 (by rw [sortR_len]; exact ho2) (by rw [sortR_len]; exact HLR.out))
  have HB2 : Hid (Below w.heap.size w w2) := HF.out.bel.grown hg2 HF.out.bel.size (fun k e => by
    have := (HF.out.own.lt _ e).1
    have := HSZ.out
    omega)
  have HOB : Hid (∀ k, (Value.slice a1 N cap1).ownBlock = some k → w.heap.size ≤ k) := fun k e => by
    have := (HF.out.own.lt _ e).1
    have := HSZ.out
    omega
  clear ho2 hg2 c0 hobk HS
  go_wp2_with fail
  refine HCM.out.mono ?_
  rintro e w3 ⟨u3, rfl, ho3, hg3⟩
  have hE := Lib.hid (HFIN.out u3 w3 (rd_of_own ho3 (rdAll_refs _) (by simp) (fun _ _ => trivial)) (HB2.out.grown hg3 HB2.out.size HOB.out))
  obtain ⟨a3, cap3, hu3, -, -⟩ := own_len ho3
  obtain ⟨N3, HN3⟩ := nameIt (Lib.compact (sortR L)).length
  rw [HN3.out] at hu3
  subst hu3
  clear ho3 hg3 HCM c2
  go_wp2_with fail
  exact hE.out
end At
end Go.Proofs.Ythkdeljlhplkgaa
