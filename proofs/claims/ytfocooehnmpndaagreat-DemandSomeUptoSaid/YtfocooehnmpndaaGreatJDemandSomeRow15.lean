/- parlref4.Attributes; what its world reads. What parlref4.World reads; World.inst. parlref4.World.Equation. parlref4.World.Needs. The map of values of parlref4.World.Values; Values$1. -/
import Derived.Test.YtfocooehnmpndaaGreatJDemandSomeRow14
import Derived.Test.YtfocooehnmpndaaGreatJDemandSomeRow9
import Derived.Laws.StructEq
import Derived.Test.YtfocooehnmpndaaGreatJDemandSomeRow6
import Derived.Test.YtfocooehnmpndaaGreatJDemandSomeRow8
import Derived.WideKeyEntry
namespace Go.Proofs.YtfocooehnmpndaaGreat
open Go.RowKit
namespace Dm
open At (Ref)
def WdS (g : Gram) (s : At.Sys) (L : List Nd) (wb : Nat) (w : World) : Prop := ∃ (B : Nat) (hd : Hw) (vn vk va : Value) (iv : Nat → Value) (tr : Nat → Value × Value) (aa qa : Option Addr) (ac qc : Nat), WR B wb hd L (allI g s L) vn vk va iv tr w ∧ hd.c4 = .slice aa s.attrs.length ac ∧ hd.c5 = .slice qa s.eqs.length qc ∧ Rd AnyB w (.sl (s.attrs.map At.Attr.d)) [.slice aa s.attrs.length ac] ∧ Rd AnyB w (.sl (s.eqs.map At.Eqn.d)) [.slice qa s.eqs.length qc]
theorem WdS.below {g : Gram} {s : At.Sys} {L : List Nd} {wb : Nat} {w w' : World} (h : WdS g s L wb w) (hb : Below w.heap.size w w') : WdS g s L wb w' := by
  obtain ⟨B, hd, vn, vk, va, iv, tr, aa, qa, ac, qc, h1, h2, h3, h4, h5⟩ := h
  exact ⟨B, hd, vn, vk, va, iv, tr, aa, qa, ac, qc, h1.keep hb, h2, h3, h4.below hb, h5.below hb⟩
def WnPost (g : Gram) (s : At.Sys) (T : Tree) (W : World) (e : Ending) (w' : World) : Prop := ∃ wb, e = .returned (.pointer (some ⟨wb, 0, none⟩)) ∧ WdS g s (tabT T) wb w' ∧ Below W.heap.size W w'
set_option maxHeartbeats 8000000 in
set_option maxRecDepth 100000 in
theorem attributesE (g : Gram) (s : At.Sys) (T : Tree) (hv : validT g T = true) (hal : s.attrs.length ≤ 2000000) (hsz : tsz T ≤ 1000000) (ra aa qa : Option Addr) (rc ac qc : Nat) (v : Value) (W : World)
    (hr : Rd AnyB W (.sl (g.rules.map Rule.d)) [.slice ra g.rules.length rc]) (ha : Rd AnyB W (.sl (s.attrs.map At.Attr.d)) [.slice aa s.attrs.length ac]) (hq : Rd AnyB W (.sl (s.eqs.map At.Eqn.d)) [.slice qa s.eqs.length qc]) (ht : Rd AnyB W (.sl (T.kids.map Tree.d)) [v]) :
    Calls Tryz.prog 13 #[.agg #[.int .i64 g.terms, .int .i64 g.nons, .int .i64 g.start, .slice ra g.rules.length rc], .agg #[.slice aa s.attrs.length ac, .slice qa s.eqs.length qc], .agg #[.int .i64 T.rule, .int .i64 T.term, v]] W (WnPost g s T W) := by
  obtain ⟨av, nk, cv, rfl⟩ := treeBox ht
  obtain ⟨PST, HP⟩ := nameIt (WnPost g s T W)
  have HPN := HP
  rw [HP.out]
  clear HP
  have HR := Lib.hid hr
  have HA := Lib.hid ha
  have HQ := Lib.hid hq
  have HT := Lib.hid ht
  have HSZ := Lib.hid hsz
  have HALB := Lib.hid hal
  have HVT := Lib.hid hv
  obtain ⟨rl, HRL⟩ := nameIt g.rules.length
  obtain ⟨al, HAL⟩ := nameIt s.attrs.length
  obtain ⟨ql, HQLn⟩ := nameIt s.eqs.length
  obtain ⟨gt, HGT⟩ := nameIt g.terms
  obtain ⟨gn, HGN⟩ := nameIt g.nons
  obtain ⟨gs, HGS⟩ := nameIt g.start
  obtain ⟨tr, HTR⟩ := nameIt T.rule
  obtain ⟨tm, HTM⟩ := nameIt T.term
  rw [HRL.out, HAL.out, HQLn.out, HGT.out, HGN.out, HGS.out, HTR.out, HTM.out]
  obtain ⟨w0, HW0⟩ := nameIt (((W.alloc (.cells #[.int .i64 gt, .int .i64 gn, .int .i64 gs, .slice ra rl rc] 24)).alloc (.cells #[.slice aa al ac, .slice qa ql qc] 28)).alloc (.cells #[.int .i64 tr, .int .i64 tm, .slice av nk cv] 31))
  have b1 : Below W.heap.size W (W.alloc (.cells #[.int .i64 gt, .int .i64 gn, .int .i64 gs, .slice ra rl rc] 24)) := (Below.refl _ _).alloc (Nat.le_refl _) _
  have b2 := b1.alloc (by simp) (.cells #[.slice aa al ac, .slice qa ql qc] 28)
  have hb0 : Below W.heap.size W w0 := by rw [← HW0.out]; exact b2.alloc (by simp; omega) _
  have X0 : Hid (w0.heap[W.heap.size]? = some (.cells #[.int .i64 gt, .int .i64 gn, .int .i64 gs, .slice ra rl rc] 24 (0, 0))) := by
    rw [← HW0.out]; exact bx_keep (bx_keep (bx_new _ _ _ rfl) ((Below.refl _ _).alloc (Nat.le_refl _) _)) ((Below.refl _ _).alloc (Nat.le_refl _) _)
  have X1 : Hid (w0.heap[W.heap.size + 1]? = some (.cells #[.slice aa al ac, .slice qa ql qc] 28 (0, 0))) := by
    rw [← HW0.out]; exact bx_keep (bx_new _ _ _ (by simp)) ((Below.refl _ _).alloc (Nat.le_refl _) _)
  have X2 : Hid (w0.heap[W.heap.size + 1 + 1]? = some (.cells #[.int .i64 tr, .int .i64 tm, .slice av nk cv] 31 (0, 0))) := by
    rw [← HW0.out]; exact bx_new _ _ _ (by simp)
  have HB0 := Lib.hid hb0
  clear b1 b2 hb0 hr ha hq ht hal hsz hv
  obtain ⟨x0, x1, x2, x3⟩ := bx_cells4 X0.out
  obtain ⟨y0, y1⟩ := bx_cells2 X1.out
  go_enter Tryz.func13, Tryz.ntmps13
  go_upto_region 1 with fail
  rw [HW0.out]
  clear HW0
  go_upto_region 4 with fail
  obtain ⟨wb, HWB⟩ := nameIt w0.heap.size
  have HWE : Hid (W.heap.size + 2 < wb) := by show _ < _; rw [← HWB.out]; exact (Array.getElem?_eq_some_iff.1 X2.out).1
  obtain ⟨w5, HW5⟩ := nameIt (((w0.alloc (.cells #[.int .i64 gt, .int .i64 gn, .int .i64 gs, .slice ra rl rc, .slice aa al ac, .slice qa ql qc, .slice none 0 0, .slice none 0 0, .slice none 0 0, .slice none 0 0, .slice none 0 0] 64)).alloc (.cells #[.pointer (some ⟨w0.heap.size, 0, none⟩)] 44)).alloc (.cells #[.func (.func 35) #[] #[.pointer (some ⟨w0.heap.size + 1, 0, none⟩), .pointer (some ⟨W.heap.size + 1, 0, none⟩), .pointer (some ⟨W.heap.size, 0, none⟩), .pointer (some ⟨w0.heap.size + 1 + 1, 0, none⟩)]] 96))
  have HB5 : Hid (Below w0.heap.size w0 w5) := by
    show Below _ _ _
    rw [← HW5.out]
    exact (((Below.refl _ _).alloc (Nat.le_refl _) _).alloc (by simp) _).alloc (by simp; omega) _
  have ba : ∀ (w : World) (o : Obj), Below w.heap.size w (w.alloc o) := fun w o => (Below.refl _ _).alloc (Nat.le_refl _) _
  have X3 : Hid (w5.heap[wb]? = some (.cells #[.int .i64 gt, .int .i64 gn, .int .i64 gs, .slice ra rl rc, .slice aa al ac, .slice qa ql qc, .slice none 0 0, .slice none 0 0, .slice none 0 0, .slice none 0 0, .slice none 0 0] 64 (0, 0))) := by
    show _ = _
    rw [← HW5.out, ← HWB.out]
    exact bx_keep (bx_keep (bx_new _ _ _ rfl) (ba _ _)) (ba _ _)
  have X4 : Hid (w5.heap[wb + 1]? = some (.cells #[.pointer (some ⟨wb, 0, none⟩)] 44 (0, 0))) := by
    show _ = _
    rw [← HW5.out, ← HWB.out]
    exact bx_keep (bx_new _ _ _ (by simp)) (ba _ _)
  have X5 : Hid (w5.heap[wb + 1 + 1]? = some (.cells #[.func (.func 35) #[] #[.pointer (some ⟨wb + 1, 0, none⟩), .pointer (some ⟨W.heap.size + 1, 0, none⟩), .pointer (some ⟨W.heap.size, 0, none⟩), .pointer (some ⟨wb + 1 + 1, 0, none⟩)]] 96 (0, 0))) := by
    show _ = _
    rw [← HW5.out, ← HWB.out]
    exact bx_new _ _ _ (by simp)
  rw [HW5.out]
  simp only [HWB.out]
  rw [HWB.out] at HB5
  have hle : w0.heap.size ≤ wb := Nat.le_of_eq HWB.out
  have HBW : Hid (Below W.heap.size W w5) := HB0.out.trans (HB5.out.mono (Nat.le_of_lt (Nat.lt_of_le_of_lt (Nat.le_add_right _ _) HWE.out)))
  have H5S : Hid (wb + 1 + 1 < w5.heap.size) := (Array.getElem?_eq_some_iff.1 X5.out).1
  obtain ⟨B, HBn⟩ := nameIt w5.heap.size
  rw [HBn.out] at H5S
  obtain ⟨hd, HHD⟩ := nameIt (Hw.mk (.int .i64 gt) (.int .i64 gn) (.int .i64 gs) (.slice ra rl rc) (.slice aa al ac) (.slice qa ql qc))
  have HRDS : Hid (∀ (d : D) (cs : List Value), Rd AnyB W d cs → Rd (fun k => k < B ∧ k ≠ wb) w5 d cs) := fun d cs h => h.keep (fun k _ hl => ⟨by have := HWE.out; have := H5S.out; omega, HBW.out.block k hl⟩)
  have HWI : Hid (WI B wb hd [] (allI g s []) (OwX wb (.slice none 0 0) (.slice none 0 0) (.slice none 0 0) 2 (fun _ => .slice none 0 0)) w5) := by
    refine ⟨.slice none 0 0, .slice none 0 0, .slice none 0 0, fun _ => .slice none 0 0, fun _ => (.int .i64 0, .int .i64 0), ⟨⟨World.ownsRow_nil _ _ _ _, World.ownsRow_nil _ _ _ _, World.ownsRow_nil _ _ _ _, fun k hk => ?_, fun k k' _ _ _ gg h => (by cases h), by rw [HBn.out]; exact Nat.le_refl _⟩, ?_, fun k _ => rfl, by have := H5S.out; omega⟩, fun _ => Iff.rfl⟩
    · have e : ilW [] k = [] := by unfold ilW; by_cases h0 : k = 0 <;> by_cases h1 : k = 1 <;> simp [h0, h1, ndAt]
      rw [e]
      exact World.ownsRow_nil _ _ _ _
    · rw [← HHD.out]
      exact X3.out
  have HEN : Hid (EnW g s B wb (wb + 1) (W.heap.size + 1) W.heap.size (wb + 1 + 1) ra aa rc ac (.slice qa ql qc) w5) := by
    refine ⟨X4.out, ?_, ?_, X5.out, HRDS.out _ _ HR.out, HRDS.out _ _ HA.out⟩
    · rw [HAL.out]; exact bx_keep X1.out (HB5.out.mono hle)
    · rw [HGT.out, HGN.out, HGS.out, HRL.out]; exact bx_keep X0.out (HB5.out.mono hle)
  have HADD := Lib.hid (addE g s T HVT.out HALB.out B wb (wb + 1) (W.heap.size + 1) W.heap.size (wb + 1 + 1) hd (by have := HWE.out; have := H5S.out; omega) (by have := HWE.out; omega) ra aa rc ac (.slice qa ql qc) (tsz T) T (-1) 0 (.slice av nk cv) [] _ w5 (Nat.le_refl _) (by rw [nodes_eq]; exact List.mem_cons_self) (by simpa using HSZ.out) HWI.out (HRDS.out _ _ HT.out) HEN.out)
  rw [List.nil_append, List.length_nil, HTR.out, HTM.out] at HADD
  have y2 := bx_cells1 X5.out
  obtain ⟨z0, z1, z2⟩ := bx_cells3 (bx_keep X2.out (HB5.out.mono hle))
  clear HW5 x0 x1 x2 x3 y0 y1 ba hle
  go_wp2_with (refine HADD.out.mono ?_)
  rintro e6 w6 ⟨rfl, O6, hW6, hS6⟩
  have hOB : ∀ k, OwX wb (.slice none 0 0) (.slice none 0 0) (.slice none 0 0) 2 (fun _ => .slice none 0 0) k → k = wb := fun k hk => by
    rcases hk with h | h | h | h | ⟨i, -, h⟩
    · exact h
    · cases h
    · cases h
    · cases h
    · cases h
  have HX6 := Lib.hid (hS6.box X4.out (fun h => by have := hOB _ h; omega)).1
  have HE : Hid (PST (.returned (.pointer (some ⟨wb, 0, none⟩))) w6) := by
    rw [← HPN.out]
    have hb6 : Below W.heap.size W w6 := by
      refine ⟨hS6.os.trans HBW.out.os, hS6.tape.trans HBW.out.tape, hS6.output.trans HBW.out.output, Nat.le_trans HBW.out.size hS6.size, fun k hk => ?_⟩
      exact (hS6.same k (Nat.lt_of_lt_of_le hk HBW.out.size) (fun h => by have := hOB _ h; have := HWE.out; omega)).trans (HBW.out.block k hk)
    obtain ⟨vn, vk, va, iv, trr, hWR, -⟩ := hW6
    exact ⟨wb, rfl, ⟨B, hd, vn, vk, va, iv, trr, aa, qa, ac, qc, hWR, by rw [← HHD.out, HAL.out], by rw [← HHD.out, HQLn.out], by rw [HAL.out]; have h := HA.out; rw [HAL.out] at h; exact h.below hb6, by rw [HQLn.out]; have h := HQ.out; rw [HQLn.out] at h; exact h.below hb6⟩, hb6⟩
  have y1 := bx_cells1 HX6.out
  clear hW6 hS6 y2 z0 z1 z2 HADD
  go_wp2_with fail
  exact HE.out
end Dm
end Go.Proofs.YtfocooehnmpndaaGreat
namespace Go.Proofs.YtfocooehnmpndaaGreat
open Go.RowKit
namespace Dm
open At (Ref)
theorem own_ints {w : World} {B : Nat} {v : Value} {l : List Int} (h : w.ownsRow B 3 1 v l.length (ints l)) : ∃ a c, v = .slice a l.length c ∧ l.length ≤ c ∧ c ≤ maxLen ∧ ∀ k (hk : k < l.length), ∃ b, a = some ⟨b, 0, none⟩ ∧ b < w.heap.size ∧ w.cell? ⟨b, k, none⟩ = some (.int .i64 l[k]) := by
  obtain ⟨a, c, rfl, e1, e2⟩ := own_len h
  refine ⟨a, c, rfl, e1, e2, fun k hk => ?_⟩
  cases a with
  | none =>
    rcases h.2 with ⟨h2, h3⟩ | ⟨g, cap', cur, h2, _⟩
    · omega
    · cases h2
  | some ad =>
    rcases h.2 with ⟨h2, h3⟩ | ⟨g, cap', cur, h2, hg, hh, _⟩
    · cases h2
    · cases h2
      have hc := (own_cellN h (j := k) (by rw [ints_len]; exact hk)).1
      exact ⟨g, rfl, (Array.getElem?_eq_some_iff.1 hh).1, by rw [hc]; simp [ints]⟩
structure WdR (g : Gram) (s : At.Sys) (L : List Nd) (wb : Nat) (c0 c1 c2 c3 : Value) (aa qa na ua pa ka la : Option Addr) (ac qc nc uc pc kc lc : Nat) (w : World) : Prop where
  hdr : w.heap[wb]? = some (.cells #[c0, c1, c2, c3, .slice aa s.attrs.length ac, .slice qa s.eqs.length qc, .slice na L.length nc, .slice ua L.length uc, .slice pa L.length pc, .slice ka L.length kc, .slice la (allI g s L).length lc] 64 (0, 0))
  caps : (L.length ≤ nc ∧ L.length ≤ uc ∧ L.length ≤ pc ∧ L.length ≤ kc ∧ (allI g s L).length ≤ lc) ∧ nc ≤ maxLen ∧ uc ≤ maxLen ∧ pc ≤ maxLen ∧ kc ≤ maxLen ∧ lc ≤ maxLen
  nod : ∀ n, n < L.length → ∃ b, na = some ⟨b, 0, none⟩ ∧ w.cell? ⟨b, n * 3, none⟩ = some (.int .i64 (ndAt L n).rule)
  up : ∀ n, n < L.length → ∃ b, ua = some ⟨b, 0, none⟩ ∧ w.cell? ⟨b, n, none⟩ = some (.int .i64 (ndAt L n).up)
  pos : ∀ n, n < L.length → ∃ b, pa = some ⟨b, 0, none⟩ ∧ w.cell? ⟨b, n, none⟩ = some (.int .i64 (ndAt L n).pos)
  kid : ∀ n, n < L.length → ∃ b a c, ka = some ⟨b, 0, none⟩ ∧ w.cell? ⟨b, n, none⟩ = some (.slice a (ndAt L n).kids.length c) ∧ (ndAt L n).kids.length ≤ c ∧ c ≤ maxLen ∧ ∀ k (hk : k < (ndAt L n).kids.length), ∃ d, a = some ⟨d, 0, none⟩ ∧ w.cell? ⟨d, k, none⟩ = some (.int .i64 (ndAt L n).kids[k])
  all : Rd AnyB w (.sl (((allI g s L).map toR).map Ref.d)) [.slice la (allI g s L).length lc]
  attrs : Rd AnyB w (.sl (s.attrs.map At.Attr.d)) [.slice aa s.attrs.length ac]
  eqs : Rd AnyB w (.sl (s.eqs.map At.Eqn.d)) [.slice qa s.eqs.length qc]
theorem WdS.read {g : Gram} {s : At.Sys} {L : List Nd} {wb : Nat} {w : World} (h : WdS g s L wb w) : ∃ c0 c1 c2 c3 aa qa na ua pa ka la ac qc nc uc pc kc lc, WdR g s L wb c0 c1 c2 c3 aa qa na ua pa ka la ac qc nc uc pc kc lc w := by
  obtain ⟨B, hd, vn, vk, va, iv, tr, aa, qa, ac, qc, hW, h4, h5, hA, hQ⟩ := h
  obtain ⟨na, nc, rfl, en1, en2⟩ := own_len hW.w4.nod
  obtain ⟨la, lc, rfl, el1, el2⟩ := own_len hW.w4.all
  have hu := hW.w4.int 0 (by omega)
  have hp := hW.w4.int 1 (by omega)
  rw [show ilW L 0 = L.map Nd.up from rfl] at hu
  rw [show ilW L 1 = L.map Nd.pos from rfl] at hp
  obtain ⟨ua, uc, eu, eu1, eu2, hu3⟩ := own_ints hu
  obtain ⟨pa, pc, ep, ep1, ep2, hp3⟩ := own_ints hp
  rw [List.length_map] at eu eu1 ep ep1
  obtain ⟨ka, kc, ek, ek1, ek2⟩ := own_len hW.w4.out
  have hh := hW.hdr
  rw [eu, ep, ek] at hh
  refine ⟨hd.c0, hd.c1, hd.c2, hd.c3, aa, qa, na, ua, pa, ka, la, ac, qc, nc, uc, pc, kc, lc, ?_, ⟨⟨en1, eu1, ep1, ek1, el1⟩, en2, eu2, ep2, ek2, el2⟩, fun n hn => ?_, fun n hn => ?_, fun n hn => ?_, fun n hn => ?_, ?_, hA, hQ⟩
  · unfold Hw.cells at hh
    rw [h4, h5] at hh
    exact hh
  · cases na with
    | none =>
      rcases hW.w4.nod.2 with ⟨h2, h3⟩ | ⟨gg, cap', cur, h2, _⟩
      · omega
      · cases h2
    | some ad =>
      rcases hW.w4.nod.2 with ⟨h2, h3⟩ | ⟨gg, cap', cur, h2, hg, hh2, _⟩
      · cases h2
      · cases h2
        have hj : n * 3 < (trC L tr).length := by rw [trC_len]; omega
        refine ⟨gg, rfl, ?_⟩
        rw [(own_cellN hW.w4.nod hj).1]
        have h6 := trC_at (tr := tr) hn
        rw [List.getElem?_eq_getElem hj] at h6
        exact h6
  · obtain ⟨b, h1, _, h2⟩ := hu3 n (by simpa using hn)
    exact ⟨b, h1, by rw [h2, ndAt_get hn]; simp⟩
  · obtain ⟨b, h1, _, h2⟩ := hp3 n (by simpa using hn)
    exact ⟨b, h1, by rw [h2, ndAt_get hn]; simp⟩
  · obtain ⟨kb, kc', e1, _, _, _, _, hc, _⟩ := hW.kids hn
    rw [ek] at e1
    cases e1
    have hk := hW.w4.int (n + 2) (by omega)
    have hil : ilW L (n + 2) = (ndAt L n).kids := by unfold ilW; rw [if_neg (by omega), if_neg (by omega), Nat.add_sub_cancel]
    rw [hil] at hk
    obtain ⟨a, c, ev, ec1, ec2, hk3⟩ := own_ints hk
    refine ⟨kb, a, c, rfl, by rw [hc, ev], ec1, ec2, fun k hkk => ?_⟩
    obtain ⟨d, e2, _, h2⟩ := hk3 k hkk
    exact ⟨d, e2, h2⟩
  · exact rd_of_own hW.w4.all (by rw [plC_ref]; exact At.rdAll_refs _) (by simp) (fun _ _ => trivial)
theorem bx_cells11w {w : World} {b : Nat} {x0 x1 x2 x3 x4 x5 x6 x7 x8 x9 x10 : Value} {T : TypeId} (h : w.heap[b]? = some (.cells #[x0, x1, x2, x3, x4, x5, x6, x7, x8, x9, x10] T (0, 0))) :
    w.cell? ⟨b, 0 + 4, none⟩ = some x4 ∧ w.cell? ⟨b, 0 + 5, none⟩ = some x5 ∧ w.cell? ⟨b, 0 + 6, none⟩ = some x6 ∧ w.cell? ⟨b, 0 + 7, none⟩ = some x7 ∧ w.cell? ⟨b, 0 + 8, none⟩ = some x8 ∧ w.cell? ⟨b, 0 + 9, none⟩ = some x9 ∧ w.cell? ⟨b, 0 + 10, none⟩ = some x10 := by
  refine ⟨?_, ?_, ?_, ?_, ?_, ?_, ?_⟩ <;> simp [World.cell?, h]
set_option maxHeartbeats 2000000 in
set_option maxRecDepth 100000 in
theorem instE (g : Gram) (s : At.Sys) (L : List Nd) (wb : Nat) (n : Nat) (r : Ref) (m a : Nat) (W : World) (h : WdS g s L wb W) (hn : n < L.length) (hr : atP L n r m a) :
    Calls Tryz.prog 47 #[.pointer (some ⟨wb, 0, none⟩), .int .i64 n, .agg #[.int .i64 r.at', .int .i64 r.attr]] W fun e w' => e = .returned (.agg #[.int .i64 m, .int .i64 a]) ∧ Below W.heap.size W w' := by
  obtain ⟨c0, c1, c2, c3, aa, qa, na, ua, pa, ka, la, ac, qc, nc, uc, pc, kc, lc, hR⟩ := h.read
  obtain ⟨rat, rattr⟩ := r
  obtain ⟨hra, hcase⟩ := hr
  simp only at hra hcase ⊢
  subst hra
  obtain ⟨w0, HW0⟩ := nameIt ((W.alloc (.cells #[.int .i64 rat, .int .i64 (a : Int)] 83)).alloc (.cells #[.int .i64 0, .int .i64 0] 59))
  have hb0 : Below W.heap.size W w0 := by rw [← HW0.out]; exact ((Below.refl _ _).alloc (Nat.le_refl _) _).alloc (by simp) _
  have X1 : Hid (w0.heap[W.heap.size]? = some (.cells #[.int .i64 rat, .int .i64 (a : Int)] 83 (0, 0))) := by rw [← HW0.out]; exact bx_keep (bx_new _ _ _ rfl) ((Below.refl _ _).alloc (Nat.le_refl _) _)
  have X2 : Hid (w0.heap[W.heap.size + 1]? = some (.cells #[.int .i64 0, .int .i64 0] 59 (0, 0))) := by rw [← HW0.out]; exact bx_new _ _ _ (by simp)
  have HB0 := Lib.hid hb0
  have HEND : Hid (∀ w', Below w0.heap.size w0 w' → Below W.heap.size W ((w'.setCell ⟨W.heap.size + 1, 0, none⟩ (.int .i64 m)).setCell ⟨W.heap.size + 1, 0 + 1, none⟩ (.int .i64 a))) := fun w' hb => below_set2 hb0 hb (by omega) _ _
  obtain ⟨y0, y1⟩ := bx_cells2 X1.out
  have hl1 : W.heap.size < w0.heap.size := (Array.getElem?_eq_some_iff.1 X1.out).1
  have hl2 : W.heap.size + 1 < w0.heap.size := (Array.getElem?_eq_some_iff.1 X2.out).1
  have HLT := Lib.hid hl2
  rcases hcase with ⟨rfl, rfl⟩ | ⟨k, rfl, hk, hkm⟩
  · obtain ⟨z0, z1⟩ := bx_cells2 X2.out
    obtain ⟨f0, f1⟩ := bx_free2 X2.out
    have HE := Lib.hid (HEND.out w0 (Below.refl _ _))
    clear hR hb0 h
    go_enter Tryz.func47, Tryz.ntmps47
    go_upto_region 1 with fail
    rw [HW0.out]
    clear HW0
    go_wp2_with fail
    refine bodyPost_ret (v := .agg #[.int .i64 m, .int .i64 a]) (by simp [results, Tryz.results47, go_sem, z0, z1]) rfl ?_
    exact ⟨rfl, HE.out⟩
  · obtain ⟨kb, kk, kkc, rfl, d3, hkc1, hkc2, hkc⟩ := hR.kid n hn
    obtain ⟨kd, rfl, c9⟩ := hkc k hk
    have hgk : (ndAt L n).kids[k]'hk = (m : Int) := (List.getElem?_eq_some_iff.1 hkm).2
    rw [hgk] at c9
    obtain ⟨KL, HKL⟩ := nameIt (ndAt L n).kids.length
    rw [HKL.out] at d3 hkc1 hk
    have hcap := hR.caps
    unfold maxLen at hcap hkc2
    obtain ⟨LN, HLN⟩ := nameIt L.length
    obtain ⟨AN, HAN⟩ := nameIt s.attrs.length
    obtain ⟨QN, HQN⟩ := nameIt s.eqs.length
    obtain ⟨IN, HIN⟩ := nameIt (allI g s L).length
    have h1 := hR.hdr
    rw [HLN.out, HAN.out, HQN.out, HIN.out] at h1
    rw [HLN.out] at hn hcap
    have h1' := bx_keep h1 hb0
    obtain ⟨x4, x5, x6, x7, x8, x9, x10⟩ := bx_cells11w h1'
    have hn' : (n : Int) < (LN : Int) := by omega
    have hnc : (n : Int) ≤ (kc : Int) := by omega
    have hlt := (Array.getElem?_eq_some_iff.1 h1').1
    replace d3 := (hb0.cell (lt_of_cell d3)).trans d3
    replace c9 := (hb0.cell (lt_of_cell c9)).trans c9
    have k1 : (((k + 1 : Nat) : Int) == 0) = false := by simp; try omega
    have k2 : IntKind.i64.wrap (((k + 1 : Nat) : Int) - 1) = (k : Int) := by rw [IntWalk.i64_in _ (by omega)]; omega
    have hkk : (k : Int) < (KL : Int) := by omega
    have hkkc : (k : Int) ≤ (kkc : Int) := by omega
    obtain ⟨k1n, HK1⟩ := nameIt ((k + 1 : Nat) : Int)
    rw [HK1.out] at k1 k2 y0 HW0 X1
    rw [HK1.out]
    clear h1 h1' hR hkc hgk hkm h
    have HHB := Lib.hid hb0
    clear hb0
    go_enter Tryz.func47, Tryz.ntmps47
    go_upto_region 1 with fail
    rw [HW0.out]
    clear HW0
    go_upto_region 3 with fail
    have ax9 := aft_cell x9
    have ad3 := aft_cell d3
    have ac9 := aft_cell c9
    have ay0 := aft_cell y0
    have ay1 := aft_cell y1
    refine wp_region_after_tail 15 (by kernel_rfl) (by kernel_rfl) ?_
    simp only [List.take_succ_cons, List.take_zero, List.drop_succ_cons, List.drop_zero]
    repeat (go_big_quiet_step (fail))
    refine wpQuiet_nil ?_
    rintro w6 ⟨⟨_, hb6⟩, rfl⟩
    have HE := Lib.hid (HEND.out w6 hb6)
    obtain ⟨z0, z1⟩ := bx_cells2 (bx_keep X2.out hb6)
    obtain ⟨f0, f1⟩ := bx_free2 (bx_keep X2.out hb6)
    clear ax9 ad3 ac9 ay0 ay1 hb6 x4 x5 x6 x7 x8 x9 x10 d3 c9 y0 y1
    go_wp2_with fail
    refine bodyPost_ret (v := .agg #[.int .i64 m, .int .i64 a]) (by simp [results, Tryz.results47, go_sem, z0, z1]) rfl ?_
    exact ⟨rfl, HE.out⟩
end Dm
end Go.Proofs.YtfocooehnmpndaaGreat
namespace Go.Proofs.YtfocooehnmpndaaGreat
open Go.RowKit
namespace Dm
open At (Ref refsS)
theorem refEqW (a b c d : Int) (w : World) : (binOp .eql 83 (.agg #[.int .i64 a, .int .i64 b]) (.agg #[.int .i64 c, .int .i64 d])).run Tryz.prog w = .ok (.bool (a == c && b == d)) w := by
  have h1 : Tryz.prog.underlying 83 = some (.struct (Tryz.prog.fieldsOf 83)) := by kernel_rfl
  have h2 : Tryz.prog.stoodInHeld 83 = false := by kernel_rfl
  have h3 := Tryz.underlying83
  have h5 := Tryz.underlying3
  rw [run_eql_struct, run_equalIn_agg (d := 9999) _ _ _ _ h1 h2]
  simp only [Program.fieldsOf, h3]
  by_cases hac : a = c <;> by_cases hbd : b = d <;> simp [Op.eqFields, go_sem, h5, hac, hbd]
theorem eq_only {g : Gram} {s : At.Sys} (h : At.checkS g s = 0) {i j : Nat} (hi : i < s.eqs.length) (hj : j < i) : ¬ (s.eqs[j].rule = s.eqs[i].rule ∧ s.eqs[j].to' = s.eqs[i].to') :=
  eqs_apart h hi _ (by
    rw [List.mem_take_iff_getElem]
    exact ⟨j, by omega, rfl⟩)
theorem bx_cells5w {w : World} {b : Nat} {x0 x1 x2 x3 x4 : Value} {T : TypeId} (h : w.heap[b]? = some (.cells #[x0, x1, x2, x3, x4] T (0, 0))) :
    (w.cell? ⟨b, 0, none⟩ = some x0 ∧ w.cell? ⟨b, 0 + 1, none⟩ = some x1 ∧ w.cell? ⟨b, 0 + 2, none⟩ = some x2 ∧ w.cell? ⟨b, 0 + 3, none⟩ = some x3 ∧ w.cell? ⟨b, 0 + 4, none⟩ = some x4) ∧ w.frozen? ⟨b, 0, none⟩ = false ∧ w.frozen? ⟨b, 0 + 1, none⟩ = false ∧ w.frozen? ⟨b, 0 + 2, none⟩ = false ∧ w.frozen? ⟨b, 0 + 3, none⟩ = false ∧ w.frozen? ⟨b, 0 + 4, none⟩ = false := by
  refine ⟨⟨?_, ?_, ?_, ?_, ?_⟩, ?_, ?_, ?_, ?_, ?_⟩ <;> simp [World.cell?, World.frozen?, h]
def WEqPost (q : At.Eqn) (o : Nat) (W : World) (e : Ending) (w' : World) : Prop := ∃ v, e = .returned (.tuple #[.agg #[.int .i64 q.is'.kind, .int .i64 q.is'.n, .int .i64 q.is'.ref.at', .int .i64 q.is'.ref.attr, v], .int .i64 o]) ∧ Rd AnyB W (.sl (q.is'.args.map At.Expr.d)) [v] ∧ Below W.heap.size W w'
set_option maxHeartbeats 8000000 in
set_option maxRecDepth 100000 in
theorem wEquE (g : Gram) (s : At.Sys) (L : List Nd) (hs : At.checkS g s = 0) (wb : Nat) (n a o : Nat) (q : At.Eqn) (W : World) (h : WdS g s L wb W) (hk : EqOk s L n a o q) :
    Calls Tryz.prog 44 #[.pointer (some ⟨wb, 0, none⟩), .agg #[.int .i64 n, .int .i64 a]] W (WEqPost q o W) := by
  obtain ⟨hn, ho, ha, hq, hok, hca⟩ := hk
  obtain ⟨c0, c1, c2, c3, aa, qa, na, ua, pa, ka, la, ac, qc, nc, uc, pc, kc, lc, hR⟩ := h.read
  obtain ⟨PST, HP⟩ := nameIt (WEqPost q o W)
  obtain ⟨ub, rfl, u0⟩ := hR.up n hn
  obtain ⟨pb, rfl, p0⟩ := hR.pos n hn
  obtain ⟨nb, rfl, r0⟩ := hR.nod o ho
  obtain ⟨ab, ao, hae, -, hal, b0, b1⟩ := At.Rd.attr_at hR.attrs ha
  obtain ⟨qi, hqi, hqe⟩ := List.getElem_of_mem hq
  have HONLY : Hid (∀ j (hj : j < qi), ¬ (s.eqs[j].rule = q.rule ∧ s.eqs[j].to' = q.to')) := fun j hj => by rw [← hqe]; exact eq_only hs hqi hj
  have HQE : Hid (s.eqs[qi] = q) := hqe
  have HR := Lib.hid hR
  have HQI := Lib.hid hqi
  have hcap := hR.caps
  unfold maxLen at hcap
  have hqb := hR.eqs.bounds.2
  have hab := hR.attrs.bounds.2
  unfold maxLen at hqb hab
  rw [ndAt_get hn] at u0 p0
  rw [ndAt_get ho] at r0
  have HFIN : Hid (∀ v w', Rd AnyB W (.sl (q.is'.args.map At.Expr.d)) [v] → Below W.heap.size W w' → PST (.returned (.tuple #[.agg #[.int .i64 q.is'.kind, .int .i64 q.is'.n, .int .i64 q.is'.ref.at', .int .i64 q.is'.ref.attr, v], .int .i64 o])) w') := fun v w' h1 h2 => by rw [← HP.out]; exact ⟨v, rfl, h1, h2⟩
  rw [HP.out]
  clear HP
  obtain ⟨nu, HNU⟩ := nameIt (L[n]'hn).up
  obtain ⟨np, HNP⟩ := nameIt (L[n]'hn).pos
  obtain ⟨orr, HOR⟩ := nameIt (L[o]'ho).rule
  obtain ⟨inh, HIN⟩ := nameIt (s.attrs[a]'ha).inh
  have hnr : L[n].rule = L[n].rule := rfl
  rw [HNU.out] at u0 hca
  rw [HNP.out] at p0 hca
  rw [HOR.out] at r0 hca
  rw [HIN.out] at b1 hca
  have HCA : Hid ((inh = true ∧ nu = (o : Int) ∧ q.rule = orr ∧ q.to' = ⟨np, (a : Int)⟩) ∨ (inh = false ∧ o = n ∧ q.rule = orr ∧ q.to' = ⟨0, (a : Int)⟩)) := by
    rcases hca with h | ⟨h1, h2, h3, h4⟩
    · exact .inl h
    · refine .inr ⟨h1, h2, ?_, h4⟩
      subst h2
      rw [← HOR.out]; exact h3
  have hh := hR.hdr
  obtain ⟨LN, HLN⟩ := nameIt L.length
  obtain ⟨AN, HAN⟩ := nameIt s.attrs.length
  obtain ⟨QN, HQN⟩ := nameIt s.eqs.length
  obtain ⟨IN, HINl⟩ := nameIt (allI g s L).length
  rw [HLN.out, HAN.out, HQN.out, HINl.out] at hh
  rw [HLN.out] at hn ho hcap
  rw [HAN.out] at ha hab
  rw [HQN.out] at hqb hqi
  obtain ⟨w0, HW0⟩ := nameIt ((W.alloc (.cells #[.int .i64 n, .int .i64 a] 59)).alloc (.cells #[.int .i64 0, .int .i64 0, .int .i64 0, .int .i64 0, .slice none 0 0] 86))
  have hb0 : Below W.heap.size W w0 := by rw [← HW0.out]; exact ((Below.refl _ _).alloc (Nat.le_refl _) _).alloc (by simp) _
  have X1 : Hid (w0.heap[W.heap.size]? = some (.cells #[.int .i64 n, .int .i64 a] 59 (0, 0))) := by rw [← HW0.out]; exact bx_keep (bx_new _ _ _ rfl) ((Below.refl _ _).alloc (Nat.le_refl _) _)
  have X2 : Hid (w0.heap[W.heap.size + 1]? = some (.cells #[.int .i64 0, .int .i64 0, .int .i64 0, .int .i64 0, .slice none 0 0] 86 (0, 0))) := by rw [← HW0.out]; exact bx_new _ _ _ (by simp)
  have HB0 := Lib.hid hb0
  obtain ⟨y0, y1⟩ := bx_cells2 X1.out
  have hl1 : W.heap.size < w0.heap.size := (Array.getElem?_eq_some_iff.1 X1.out).1
  clear hca hR h hs hok hqe hnr
  go_enter Tryz.func44, Tryz.ntmps44
  go_upto_region 1 with fail
  rw [HW0.out]
  clear HW0
  have HCS : Hid (∀ w', Below w0.heap.size w0 w' → w'.cell? ⟨W.heap.size, 0, none⟩ = some (.int .i64 (n : Int)) ∧ w'.cell? ⟨W.heap.size, 0 + 1, none⟩ = some (.int .i64 (a : Int))) := fun w' hb => ⟨(hb.cell (lt_of_cell y0)).trans y0, (hb.cell (lt_of_cell y1)).trans y1⟩
  have HBR : Hid (Below w0.heap.size w0 w0.drew) := (Below.refl _ _).drew
  refine wp_region_V (S := (fun (_ : Array Bool) (w' : World) => w'.cell? ⟨W.heap.size, 0, none⟩ = some (.int .i64 (n : Int)) ∧ w'.cell? ⟨W.heap.size, 0 + 1, none⟩ = some (.int .i64 (a : Int)))) (by kernel_rfl) (fun hcl => ?_)
  refine wpV_take (i := 0) (v := .pointer (some ⟨W.heap.size, 0, none⟩)) (T := (fun _ : World => True)) rfl hcl (by kernel_rfl) (by kernel_rfl) (by kernel_rfl) (fun _ _ _ h => h) (fun l w h => h) (fun _ _ _ _ _ => trivial) (Or.inl ⟨by rfl, fun w' hw' => ?_⟩) (HCS.out _ HBR.out) (fun hcl => ?_)
  · clear hw'
    go_simp
  try simp only [Act.put, List.setIfInBounds_toArray, List.set_cons_zero, List.set_cons_succ]
  refine wpV_take (i := 1) (v := .int .i64 (n : Int)) (T := (fun w' : World => w'.cell? ⟨W.heap.size, 0, none⟩ = some (.int .i64 (n : Int)) ∧ w'.cell? ⟨W.heap.size, 0 + 1, none⟩ = some (.int .i64 (a : Int)))) rfl hcl (by kernel_rfl) (by kernel_rfl) (by kernel_rfl) (fun _ _ _ h => h) (fun l w h => h) (fun l w _ _ h => h) (Or.inl ⟨by rfl, fun w' hw' => ?_⟩) (HCS.out _ HBR.out) (fun hcl => ?_)
  · obtain ⟨h0, h1⟩ := hw'
    go_simp
  try simp only [Act.put, List.setIfInBounds_toArray, List.set_cons_zero, List.set_cons_succ]
  refine wpV_take (i := 2) (v := .pointer (some ⟨W.heap.size, 0 + 1, none⟩)) (T := (fun _ : World => True)) rfl hcl (by kernel_rfl) (by kernel_rfl) (by kernel_rfl) (fun _ _ _ h => h) (fun l w h => h) (fun _ _ _ _ _ => trivial) (Or.inl ⟨by rfl, fun w' hw' => ?_⟩) (HCS.out _ HBR.out) (fun hcl => ?_)
  · clear hw'
    go_simp
  try simp only [Act.put, List.setIfInBounds_toArray, List.set_cons_zero, List.set_cons_succ]
  refine wpV_take (i := 3) (v := .int .i64 (a : Int)) (T := (fun w' : World => w'.cell? ⟨W.heap.size, 0, none⟩ = some (.int .i64 (n : Int)) ∧ w'.cell? ⟨W.heap.size, 0 + 1, none⟩ = some (.int .i64 (a : Int)))) rfl hcl (by kernel_rfl) (by kernel_rfl) (by kernel_rfl) (fun _ _ _ h => h) (fun l w h => h) (fun l w _ _ h => h) (Or.inl ⟨by rfl, fun w' hw' => ?_⟩) (HCS.out _ HBR.out) (fun hcl => ?_)
  · obtain ⟨h0, h1⟩ := hw'
    go_simp
  try simp only [Act.put, List.setIfInBounds_toArray, List.set_cons_zero, List.set_cons_succ]
  refine wpV_take (i := 4) (v := .agg #[.int .i64 0, .int .i64 (a : Int)]) (T := (fun _ : World => True)) rfl hcl (by kernel_rfl) (by kernel_rfl) (by kernel_rfl) (fun _ _ _ h => h) (fun l w h => h) (fun _ _ _ _ _ => trivial) (Or.inl ⟨by rfl, fun w' hw' => ?_⟩) (HCS.out _ HBR.out) (fun hcl => ?_)
  · clear hw'
    go_simp
  try simp only [Act.put, List.setIfInBounds_toArray, List.set_cons_zero, List.set_cons_succ]
  obtain ⟨t7, HT7⟩ := nameIt w0.heap.size
  obtain ⟨w1, HW1⟩ := nameIt (w0.alloc (.cells #[.int .i64 0, .int .i64 0] 83)).drew
  have hb1 : Below w0.heap.size w0 w1 := by rw [← HW1.out]; exact ((Below.refl _ _).alloc (Nat.le_refl _) _).drew
  have X3 : Hid (w1.heap[t7]? = some (.cells #[.int .i64 0, .int .i64 0] 83 (0, 0))) := by rw [← HW1.out, ← HT7.out]; exact bx_new w0 _ _ rfl
  have HB1 := Lib.hid hb1
  refine wpV_one (i := 5) (by kernel_rfl) rfl (fun K hK => ?_)
  go_simp
  try rw [HW1.out]
  try simp only [HT7.out]
  refine hK.out _ _ (HCS.out _ HB1.out) ?_
  clear hK K
  try simp only [Act.put, List.setIfInBounds_toArray, List.set_cons_zero, List.set_cons_succ]
  refine wpV_one (i := 6) (by kernel_rfl) rfl (fun K hK => ?_)
  go_simp
  refine hK.out _ _ (HCS.out _ HB1.out) ?_
  clear hK K
  try simp only [Act.put, List.setIfInBounds_toArray, List.set_cons_zero, List.set_cons_succ]
  have hw2 : Below w0.heap.size w0 ((w1.setCell ⟨t7, 0, none⟩ (.int .i64 0)).setCell ⟨t7, 0 + 1, none⟩ (.int .i64 (a : Int))) := (HB1.out.setCell (by rw [← HT7.out]; exact Nat.le_refl _) _).setCell (by rw [← HT7.out]; exact Nat.le_refl _) _
  have hx4 : ((w1.setCell ⟨t7, 0, none⟩ (.int .i64 0)).setCell ⟨t7, 0 + 1, none⟩ (.int .i64 (a : Int))).heap[t7]? = some (.cells #[.int .i64 0, .int .i64 (a : Int)] 83 (0, 0)) := bx_set (bx_set X3.out 0 _) 1 _
  obtain ⟨z0, z1⟩ := bx_cells2 X3.out
  obtain ⟨f0, f1⟩ := bx_free2 X3.out
  obtain ⟨w2, HW2⟩ := nameIt ((w1.setCell ⟨t7, 0, none⟩ (.int .i64 0)).setCell ⟨t7, 0 + 1, none⟩ (.int .i64 (a : Int)))
  rw [HW2.out] at hw2 hx4
  have HB2 := Lib.hid hw2
  have X4 := Lib.hid hx4
  refine wpV_one (i := 7) (by kernel_rfl) rfl (fun K hK => ?_)
  go_simp
  rw [HW2.out]
  refine hK.out _ _ (HCS.out _ HB2.out) ?_
  clear hK K
  try simp only [Act.put, List.setIfInBounds_toArray, List.set_cons_zero, List.set_cons_succ]
  refine wpV_done (by kernel_rfl) ?_ _
  clear z0 z1 f0 f1 hw2 hx4 HW1 HW2 hb1 y0 y1 hl1
  have HBW2 : Hid (Below W.heap.size W w2) := HB0.out.trans (HB2.out.mono HB0.out.size)
  have X5 : Hid (w2.heap[W.heap.size + 1]? = some (.cells #[.int .i64 0, .int .i64 0, .int .i64 0, .int .i64 0, .slice none 0 0] 86 (0, 0))) := bx_keep X2.out HB2.out
  have HT7W : Hid (W.heap.size + 1 < t7) := by show _ < _; rw [← HT7.out]; exact (Array.getElem?_eq_some_iff.1 X2.out).1
  have HHD := Lib.hid hh
  obtain ⟨x4, x5, x6, x7, x8, x9, x10⟩ := bx_cells11w (bx_keep hh HBW2.out)
  obtain ⟨y0, y1⟩ := bx_cells2 (bx_keep X1.out HB2.out)
  have ax4 := aft_cell x4
  have ay1 := aft_cell y1
  have ab1 := aft_cell ((HBW2.out.cell (lt_of_cell b1)).trans b1)
  have ha' : (a : Int) < (AN : Int) := by omega
  have hac : (a : Int) ≤ (ac : Int) := by omega
  subst hae
  clear hh x4 x5 x6 x7 x8 x9 x10 y0 y1 hb0 b0
  go_upto_region 2 with fail
  refine wp_region_after (w0 := w2) (by kernel_rfl) (by kernel_rfl) ?_
  repeat (go_big_quiet_step (fail))
  refine wpQuiet_nil ?_
  rintro w3 ⟨⟨_, hb3⟩, rfl⟩
  have HB3 : Hid (Below w0.heap.size w0 w3) := HB2.out.trans (hb3.mono HB2.out.size)
  have HBW3 : Hid (Below W.heap.size W w3) := HBW2.out.trans (hb3.mono HBW2.out.size)
  have X6 := Lib.hid (bx_keep X4.out hb3)
  have X7 := Lib.hid (bx_keep X5.out hb3)
  clear hb3 ax4 ay1 ab1
  go_upto_if 24 with fail
  go_cut [6] (fun v6 wx => v6 = .int .i64 (o : Int) ∧ Hid (Below W.heap.size W wx ∧ wx.heap[t7]? = some (.cells #[.int .i64 q.to'.at', .int .i64 q.to'.attr] 83 (0, 0)) ∧ wx.heap[W.heap.size + 1]? = some (.cells #[.int .i64 0, .int .i64 0, .int .i64 0, .int .i64 0, .slice none 0 0] 86 (0, 0)) ∧ q.rule = orr))
  case first =>
    rcases HCA.out with ⟨rfl, rfl, hqr, hqt⟩ | ⟨rfl, rfl, hqr, hqt⟩
    · have HQR := Lib.hid hqr
      have HQT := Lib.hid hqt
      clear hqr hqt
      obtain ⟨x4, x5, x6, x7, x8, x9, x10⟩ := bx_cells11w (bx_keep HHD.out HBW3.out)
      obtain ⟨y0, y1⟩ := bx_cells2 (bx_keep X1.out HB3.out)
      have hu3 := (HBW3.out.cell (lt_of_cell u0)).trans u0
      have hp3 := (HBW3.out.cell (lt_of_cell p0)).trans p0
      have hn' : (n : Int) < (LN : Int) := by omega
      have hnu : (n : Int) ≤ (uc : Int) := by omega
      have hnp : (n : Int) ≤ (pc : Int) := by omega
      have hn2 : ¬ ((LN : Int) ≤ (n : Int)) := by omega
      have HC3 : Hid (∀ w', Below w3.heap.size w3 w' → w'.cell? ⟨wb, 0 + 7, none⟩ = some (.slice (some ⟨ub, 0, none⟩) LN uc) ∧ w'.cell? ⟨wb, 0 + 8, none⟩ = some (.slice (some ⟨pb, 0, none⟩) LN pc) ∧ w'.cell? ⟨W.heap.size, 0, none⟩ = some (.int .i64 (n : Int)) ∧ w'.cell? ⟨ub, n, none⟩ = some (.int .i64 (o : Int)) ∧ w'.cell? ⟨pb, n, none⟩ = some (.int .i64 np)) := fun w' hb => ⟨(hb.cell (lt_of_cell x7)).trans x7, (hb.cell (lt_of_cell x8)).trans x8, (hb.cell (lt_of_cell y0)).trans y0, (hb.cell (lt_of_cell hu3)).trans hu3, (hb.cell (lt_of_cell hp3)).trans hp3⟩
      have HBR3 : Hid (Below w3.heap.size w3 w3.drew) := (Below.refl _ _).drew
      clear x4 x5 x6 x7 x8 x9 x10 y0 y1 hu3 hp3
      have hb5 : Below w3.heap.size w3 w3.drew := HBR3.out
      have X8 := Lib.hid (bx_keep X6.out hb5)
      have X9 := Lib.hid (bx_keep X7.out hb5)
      have HB5 : Hid (Below W.heap.size W w3.drew) := HBW3.out.trans (hb5.mono HBW3.out.size)
      obtain ⟨z0, z1⟩ := bx_cells2 X8.out
      obtain ⟨f0, f1⟩ := bx_free2 X8.out
      have HF : Hid (Below W.heap.size W (w3.drew.setCell ⟨t7, 0, none⟩ (.int .i64 np)) ∧ (w3.drew.setCell ⟨t7, 0, none⟩ (.int .i64 np)).heap[t7]? = some (.cells #[.int .i64 q.to'.at', .int .i64 q.to'.attr] 83 (0, 0)) ∧ (w3.drew.setCell ⟨t7, 0, none⟩ (.int .i64 np)).heap[W.heap.size + 1]? = some (.cells #[.int .i64 0, .int .i64 0, .int .i64 0, .int .i64 0, .slice none 0 0] 86 (0, 0)) ∧ q.rule = orr) := by
        refine ⟨HB5.out.setCell (by have := HT7W.out; show W.heap.size ≤ t7; omega) _, ?_, ?_, HQR.out⟩
        · rw [HQT.out]
          exact bx_set X8.out 0 _
        · rw [Below.heap_setCell w3.drew ⟨t7, 0, none⟩ _ _ (by have := HT7W.out; show W.heap.size + 1 ≠ t7; omega)]
          exact X9.out
      have HBR5 : Hid (Below w3.heap.size w3 w3.drew) := hb5
      have HC5 : Hid ((w3.drew.setCell ⟨t7, 0, none⟩ (.int .i64 np)).cell? ⟨wb, 0 + 7, none⟩ = some (.slice (some ⟨ub, 0, none⟩) LN uc) ∧ (w3.drew.setCell ⟨t7, 0, none⟩ (.int .i64 np)).cell? ⟨wb, 0 + 8, none⟩ = some (.slice (some ⟨pb, 0, none⟩) LN pc) ∧ (w3.drew.setCell ⟨t7, 0, none⟩ (.int .i64 np)).cell? ⟨W.heap.size, 0, none⟩ = some (.int .i64 (n : Int)) ∧ (w3.drew.setCell ⟨t7, 0, none⟩ (.int .i64 np)).cell? ⟨ub, n, none⟩ = some (.int .i64 (o : Int)) ∧ (w3.drew.setCell ⟨t7, 0, none⟩ (.int .i64 np)).cell? ⟨pb, n, none⟩ = some (.int .i64 np)) := by
        have hb6 : Below w3.heap.size w3 w3.drew := hb5
        have h := HC3.out w3.drew hb6
        have hW : ∀ b i v, b ≠ t7 → w3.drew.cell? ⟨b, i, none⟩ = some v → (w3.drew.setCell ⟨t7, 0, none⟩ (.int .i64 np)).cell? ⟨b, i, none⟩ = some v := fun b i v hb h => by rw [cell_set_ne hb]; exact h
        have hlw := HT7W.out
        have h1 : ∀ b i v, W.cell? ⟨b, i, none⟩ = some v → b ≠ t7 := fun b i v h => by have := lt_of_cell h; simp at this; omega
        have h2 : wb ≠ t7 := by have h3 := (Array.getElem?_eq_some_iff.1 HHD.out).1; omega
        exact ⟨hW _ _ _ h2 h.1, hW _ _ _ h2 h.2.1, hW _ _ _ (by omega) h.2.2.1, hW _ _ _ (h1 _ _ _ u0) h.2.2.2.1, hW _ _ _ (h1 _ _ _ p0) h.2.2.2.2⟩
      clear hb5
      go_upto_region 3 with fail
      refine wp_region_V (S := (fun (_ : Array Bool) (w' : World) => w'.cell? ⟨wb, 0 + 7, none⟩ = some (.slice (some ⟨ub, 0, none⟩) LN uc) ∧ w'.cell? ⟨wb, 0 + 8, none⟩ = some (.slice (some ⟨pb, 0, none⟩) LN pc) ∧ w'.cell? ⟨W.heap.size, 0, none⟩ = some (.int .i64 (n : Int)) ∧ w'.cell? ⟨ub, n, none⟩ = some (.int .i64 (o : Int)) ∧ w'.cell? ⟨pb, n, none⟩ = some (.int .i64 np))) (by kernel_rfl) (fun hcl => ?_)
      refine wpV_take (i := 0) (v := .pointer (some ⟨wb, 0, none⟩)) (T := (fun _ : World => True)) rfl hcl (by kernel_rfl) (by kernel_rfl) (by kernel_rfl) (fun _ _ _ h => h) (fun l w h => h) (fun _ _ _ _ _ => trivial) (Or.inl ⟨by rfl, fun w' hw' => ?_⟩) (HC3.out _ HBR3.out) (fun hcl => ?_)
      · clear hw'
        go_simp
      try simp only [Act.put, List.setIfInBounds_toArray, List.set_cons_zero, List.set_cons_succ]
      refine wpV_take (i := 1) (v := .pointer (some ⟨wb, 0, none⟩)) (T := (fun _ : World => True)) rfl hcl (by kernel_rfl) (by kernel_rfl) (by kernel_rfl) (fun _ _ _ h => h) (fun l w h => h) (fun _ _ _ _ _ => trivial) (Or.inl ⟨by rfl, fun w' hw' => ?_⟩) (HC3.out _ HBR3.out) (fun hcl => ?_)
      · clear hw'
        go_simp
      try simp only [Act.put, List.setIfInBounds_toArray, List.set_cons_zero, List.set_cons_succ]
      refine wpV_take (i := 2) (v := .pointer (some ⟨wb, 0 + 7, none⟩)) (T := (fun _ : World => True)) rfl hcl (by kernel_rfl) (by kernel_rfl) (by kernel_rfl) (fun _ _ _ h => h) (fun l w h => h) (fun _ _ _ _ _ => trivial) (Or.inl ⟨by rfl, fun w' hw' => ?_⟩) (HC3.out _ HBR3.out) (fun hcl => ?_)
      · clear hw'
        go_simp
      try simp only [Act.put, List.setIfInBounds_toArray, List.set_cons_zero, List.set_cons_succ]
      refine wpV_take (i := 3) (v := .slice (some ⟨ub, 0, none⟩) LN uc) (T := (fun w' : World => w'.cell? ⟨wb, 0 + 7, none⟩ = some (.slice (some ⟨ub, 0, none⟩) LN uc) ∧ w'.cell? ⟨wb, 0 + 8, none⟩ = some (.slice (some ⟨pb, 0, none⟩) LN pc) ∧ w'.cell? ⟨W.heap.size, 0, none⟩ = some (.int .i64 (n : Int)) ∧ w'.cell? ⟨ub, n, none⟩ = some (.int .i64 (o : Int)) ∧ w'.cell? ⟨pb, n, none⟩ = some (.int .i64 np))) rfl hcl (by kernel_rfl) (by kernel_rfl) (by kernel_rfl) (fun _ _ _ h => h) (fun l w h => h) (fun l w _ _ h => h) (Or.inl ⟨by rfl, fun w' hw' => ?_⟩) (HC3.out _ HBR3.out) (fun hcl => ?_)
      · obtain ⟨h0, h1, h2, h3, h4⟩ := hw'
        go_simp
      try simp only [Act.put, List.setIfInBounds_toArray, List.set_cons_zero, List.set_cons_succ]
      refine wpV_take (i := 4) (v := .pointer (some ⟨W.heap.size, 0, none⟩)) (T := (fun _ : World => True)) rfl hcl (by kernel_rfl) (by kernel_rfl) (by kernel_rfl) (fun _ _ _ h => h) (fun l w h => h) (fun _ _ _ _ _ => trivial) (Or.inl ⟨by rfl, fun w' hw' => ?_⟩) (HC3.out _ HBR3.out) (fun hcl => ?_)
      · clear hw'
        go_simp
      try simp only [Act.put, List.setIfInBounds_toArray, List.set_cons_zero, List.set_cons_succ]
      refine wpV_take (i := 5) (v := .int .i64 (n : Int)) (T := (fun w' : World => w'.cell? ⟨wb, 0 + 7, none⟩ = some (.slice (some ⟨ub, 0, none⟩) LN uc) ∧ w'.cell? ⟨wb, 0 + 8, none⟩ = some (.slice (some ⟨pb, 0, none⟩) LN pc) ∧ w'.cell? ⟨W.heap.size, 0, none⟩ = some (.int .i64 (n : Int)) ∧ w'.cell? ⟨ub, n, none⟩ = some (.int .i64 (o : Int)) ∧ w'.cell? ⟨pb, n, none⟩ = some (.int .i64 np))) rfl hcl (by kernel_rfl) (by kernel_rfl) (by kernel_rfl) (fun _ _ _ h => h) (fun l w h => h) (fun l w _ _ h => h) (Or.inl ⟨by rfl, fun w' hw' => ?_⟩) (HC3.out _ HBR3.out) (fun hcl => ?_)
      · obtain ⟨h0, h1, h2, h3, h4⟩ := hw'
        go_simp
      try simp only [Act.put, List.setIfInBounds_toArray, List.set_cons_zero, List.set_cons_succ]
      refine wpV_take (i := 6) (v := .pointer (some ⟨ub, n, none⟩)) (T := (fun _ : World => True)) rfl hcl (by kernel_rfl) (by kernel_rfl) (by kernel_rfl) (fun _ _ _ h => h) (fun l w h => h) (fun _ _ _ _ _ => trivial) (Or.inl ⟨by rfl, fun w' hw' => ?_⟩) (HC3.out _ HBR3.out) (fun hcl => ?_)
      · clear hw'
        go_simp
      try simp only [Act.put, List.setIfInBounds_toArray, List.set_cons_zero, List.set_cons_succ]
      refine wpV_take (i := 7) (v := .int .i64 (o : Int)) (T := (fun w' : World => w'.cell? ⟨wb, 0 + 7, none⟩ = some (.slice (some ⟨ub, 0, none⟩) LN uc) ∧ w'.cell? ⟨wb, 0 + 8, none⟩ = some (.slice (some ⟨pb, 0, none⟩) LN pc) ∧ w'.cell? ⟨W.heap.size, 0, none⟩ = some (.int .i64 (n : Int)) ∧ w'.cell? ⟨ub, n, none⟩ = some (.int .i64 (o : Int)) ∧ w'.cell? ⟨pb, n, none⟩ = some (.int .i64 np))) rfl hcl (by kernel_rfl) (by kernel_rfl) (by kernel_rfl) (fun _ _ _ h => h) (fun l w h => h) (fun l w _ _ h => h) (Or.inl ⟨by rfl, fun w' hw' => ?_⟩) (HC3.out _ HBR3.out) (fun hcl => ?_)
      · obtain ⟨h0, h1, h2, h3, h4⟩ := hw'
        go_simp
      try simp only [Act.put, List.setIfInBounds_toArray, List.set_cons_zero, List.set_cons_succ]
      refine wpV_take (i := 8) (v := .pointer (some ⟨wb, 0, none⟩)) (T := (fun _ : World => True)) rfl hcl (by kernel_rfl) (by kernel_rfl) (by kernel_rfl) (fun _ _ _ h => h) (fun l w h => h) (fun _ _ _ _ _ => trivial) (Or.inl ⟨by rfl, fun w' hw' => ?_⟩) (HC3.out _ HBR3.out) (fun hcl => ?_)
      · clear hw'
        go_simp
      try simp only [Act.put, List.setIfInBounds_toArray, List.set_cons_zero, List.set_cons_succ]
      refine wpV_take (i := 9) (v := .pointer (some ⟨wb, 0, none⟩)) (T := (fun _ : World => True)) rfl hcl (by kernel_rfl) (by kernel_rfl) (by kernel_rfl) (fun _ _ _ h => h) (fun l w h => h) (fun _ _ _ _ _ => trivial) (Or.inl ⟨by rfl, fun w' hw' => ?_⟩) (HC3.out _ HBR3.out) (fun hcl => ?_)
      · clear hw'
        go_simp
      try simp only [Act.put, List.setIfInBounds_toArray, List.set_cons_zero, List.set_cons_succ]
      refine wpV_take (i := 10) (v := .pointer (some ⟨wb, 0 + 8, none⟩)) (T := (fun _ : World => True)) rfl hcl (by kernel_rfl) (by kernel_rfl) (by kernel_rfl) (fun _ _ _ h => h) (fun l w h => h) (fun _ _ _ _ _ => trivial) (Or.inl ⟨by rfl, fun w' hw' => ?_⟩) (HC3.out _ HBR3.out) (fun hcl => ?_)
      · clear hw'
        go_simp
      try simp only [Act.put, List.setIfInBounds_toArray, List.set_cons_zero, List.set_cons_succ]
      refine wpV_take (i := 11) (v := .slice (some ⟨pb, 0, none⟩) LN pc) (T := (fun w' : World => w'.cell? ⟨wb, 0 + 7, none⟩ = some (.slice (some ⟨ub, 0, none⟩) LN uc) ∧ w'.cell? ⟨wb, 0 + 8, none⟩ = some (.slice (some ⟨pb, 0, none⟩) LN pc) ∧ w'.cell? ⟨W.heap.size, 0, none⟩ = some (.int .i64 (n : Int)) ∧ w'.cell? ⟨ub, n, none⟩ = some (.int .i64 (o : Int)) ∧ w'.cell? ⟨pb, n, none⟩ = some (.int .i64 np))) rfl hcl (by kernel_rfl) (by kernel_rfl) (by kernel_rfl) (fun _ _ _ h => h) (fun l w h => h) (fun l w _ _ h => h) (Or.inl ⟨by rfl, fun w' hw' => ?_⟩) (HC3.out _ HBR3.out) (fun hcl => ?_)
      · obtain ⟨h0, h1, h2, h3, h4⟩ := hw'
        go_simp
      try simp only [Act.put, List.setIfInBounds_toArray, List.set_cons_zero, List.set_cons_succ]
      refine wpV_take (i := 12) (v := .pointer (some ⟨W.heap.size, 0, none⟩)) (T := (fun _ : World => True)) rfl hcl (by kernel_rfl) (by kernel_rfl) (by kernel_rfl) (fun _ _ _ h => h) (fun l w h => h) (fun _ _ _ _ _ => trivial) (Or.inl ⟨by rfl, fun w' hw' => ?_⟩) (HC3.out _ HBR3.out) (fun hcl => ?_)
      · clear hw'
        go_simp
      try simp only [Act.put, List.setIfInBounds_toArray, List.set_cons_zero, List.set_cons_succ]
      refine wpV_take (i := 13) (v := .int .i64 (n : Int)) (T := (fun w' : World => w'.cell? ⟨wb, 0 + 7, none⟩ = some (.slice (some ⟨ub, 0, none⟩) LN uc) ∧ w'.cell? ⟨wb, 0 + 8, none⟩ = some (.slice (some ⟨pb, 0, none⟩) LN pc) ∧ w'.cell? ⟨W.heap.size, 0, none⟩ = some (.int .i64 (n : Int)) ∧ w'.cell? ⟨ub, n, none⟩ = some (.int .i64 (o : Int)) ∧ w'.cell? ⟨pb, n, none⟩ = some (.int .i64 np))) rfl hcl (by kernel_rfl) (by kernel_rfl) (by kernel_rfl) (fun _ _ _ h => h) (fun l w h => h) (fun l w _ _ h => h) (Or.inl ⟨by rfl, fun w' hw' => ?_⟩) (HC3.out _ HBR3.out) (fun hcl => ?_)
      · obtain ⟨h0, h1, h2, h3, h4⟩ := hw'
        go_simp
      try simp only [Act.put, List.setIfInBounds_toArray, List.set_cons_zero, List.set_cons_succ]
      refine wpV_take (i := 14) (v := .pointer (some ⟨pb, n, none⟩)) (T := (fun _ : World => True)) rfl hcl (by kernel_rfl) (by kernel_rfl) (by kernel_rfl) (fun _ _ _ h => h) (fun l w h => h) (fun _ _ _ _ _ => trivial) (Or.inl ⟨by rfl, fun w' hw' => ?_⟩) (HC3.out _ HBR3.out) (fun hcl => ?_)
      · clear hw'
        go_simp
      try simp only [Act.put, List.setIfInBounds_toArray, List.set_cons_zero, List.set_cons_succ]
      refine wpV_take (i := 15) (v := .int .i64 np) (T := (fun w' : World => w'.cell? ⟨wb, 0 + 7, none⟩ = some (.slice (some ⟨ub, 0, none⟩) LN uc) ∧ w'.cell? ⟨wb, 0 + 8, none⟩ = some (.slice (some ⟨pb, 0, none⟩) LN pc) ∧ w'.cell? ⟨W.heap.size, 0, none⟩ = some (.int .i64 (n : Int)) ∧ w'.cell? ⟨ub, n, none⟩ = some (.int .i64 (o : Int)) ∧ w'.cell? ⟨pb, n, none⟩ = some (.int .i64 np))) rfl hcl (by kernel_rfl) (by kernel_rfl) (by kernel_rfl) (fun _ _ _ h => h) (fun l w h => h) (fun l w _ _ h => h) (Or.inl ⟨by rfl, fun w' hw' => ?_⟩) (HC3.out _ HBR3.out) (fun hcl => ?_)
      · obtain ⟨h0, h1, h2, h3, h4⟩ := hw'
        go_simp
      try simp only [Act.put, List.setIfInBounds_toArray, List.set_cons_zero, List.set_cons_succ]
      refine wpV_one (i := 16) (by kernel_rfl) rfl (fun K hK => ?_)
      go_simp
      refine hK.out _ _ (HC3.out _ HBR5.out) ?_
      clear hK K
      try simp only [Act.put, List.setIfInBounds_toArray, List.set_cons_zero, List.set_cons_succ]
      refine wpV_one (i := 17) (by kernel_rfl) rfl (fun K hK => ?_)
      go_simp
      refine hK.out _ _ (HC3.out _ HBR5.out) ?_
      clear hK K
      try simp only [Act.put, List.setIfInBounds_toArray, List.set_cons_zero, List.set_cons_succ]
      refine wpV_one (i := 18) (by kernel_rfl) rfl (fun K hK => ?_)
      go_simp
      refine hK.out _ _ (HC5.out) ?_
      clear hK K
      try simp only [Act.put, List.setIfInBounds_toArray, List.set_cons_zero, List.set_cons_succ]
      refine wpV_done (by kernel_rfl) ?_ _
      clear z0 z1 f0 f1
      go_wp2_with fail
      go_meet
      exact ⟨rfl, HF⟩
    · have HF : Hid (Below W.heap.size W w3 ∧ w3.heap[t7]? = some (.cells #[.int .i64 q.to'.at', .int .i64 q.to'.attr] 83 (0, 0)) ∧ w3.heap[W.heap.size + 1]? = some (.cells #[.int .i64 0, .int .i64 0, .int .i64 0, .int .i64 0, .slice none 0 0] 86 (0, 0)) ∧ q.rule = orr) := by
        refine ⟨HBW3.out, ?_, X7.out, hqr⟩
        rw [hqt]
        exact X6.out
      clear hqr hqt
      go_wp2_with fail
      go_meet
      exact ⟨rfl, HF⟩
  case rest =>
    obtain ⟨rfl, HC⟩ := hcut
    obtain ⟨x4, x5, x6, x7, x8, x9, x10⟩ := bx_cells11w (bx_keep HHD.out HC.out.1)
    go_wp2_with fail
    clear x4 x5 x6 x7 x8 x9 x10
    obtain ⟨ta, HTA⟩ := nameIt q.to'.at'
    obtain ⟨tb, HTB⟩ := nameIt q.to'.attr
    rw [HTA.out, HTB.out] at HC
    go_loopg [9, 48] (qi + 1) (fun gg v9 v48 wr => ∃ j : Nat, j ≤ qi ∧ qi + 1 - j ≤ gg ∧ v48 = .int .i64 j ∧ Hid (Below W.heap.size W wr ∧ wr.heap[t7]? = some (.cells #[.int .i64 ta, .int .i64 tb] 83 (0, 0)) ∧ wr.heap[W.heap.size + 1]? = some (.cells #[.int .i64 0, .int .i64 0, .int .i64 0, .int .i64 0, .slice none 0 0] 86 (0, 0)) ∧ q.rule = orr))
    case atStart => exact ⟨0, by omega, by omega, rfl, HC⟩
    case round =>
      obtain ⟨j, hj, hg, rfl, HI⟩ := hrel
      clear HC
      have hjl : j < s.eqs.length := by have := HQI.out; omega
      have hjq : (j : Int) < (QN : Int) := by omega
      have hjc : (j : Int) ≤ (qc : Int) := by omega
      obtain ⟨eb, eo, ve, hqa, -, hebl, e0, e1, e2, e3, e4, e5, e6, e7, hargs⟩ := At.Rd.eqn_at HR.out.eqs hjl
      obtain ⟨va, vl, vc, rfl⟩ : ∃ x y z, ve = .slice x y z := (by obtain ⟨x, y, e, -, -⟩ := hargs.form; exact ⟨_, _, _, e⟩)
      have HARG := Lib.hid hargs
      have hb := HI.out.1
      have HBI := Lib.hid hb
      replace e0 := (hb.cell (lt_of_cell e0)).trans e0
      replace e1 := (hb.cell (lt_of_cell e1)).trans e1
      replace e2 := (hb.cell (lt_of_cell e2)).trans e2
      replace e3 := (hb.cell (lt_of_cell e3)).trans e3
      replace e4 := (hb.cell (lt_of_cell e4)).trans e4
      replace e5 := (hb.cell (lt_of_cell e5)).trans e5
      replace e6 := (hb.cell (lt_of_cell e6)).trans e6
      replace e7 := (hb.cell (lt_of_cell e7)).trans e7
      have HMT : Hid ((s.eqs[j].rule = q.rule ∧ s.eqs[j].to'.at' = ta ∧ s.eqs[j].to'.attr = tb) ↔ j = qi) := by
        constructor
        · rintro ⟨h1, h2, h3⟩
          by_cases hlt : j < qi
          · refine absurd ⟨h1, ?_⟩ (HONLY.out j hlt)
            have hx : ∀ (x y : Ref), x.at' = y.at' → x.attr = y.attr → x = y := by rintro ⟨_, _⟩ ⟨_, _⟩ rfl rfl; rfl
            exact hx _ _ (h2.trans HTA.out.symm) (h3.trans HTB.out.symm)
          · omega
        · rintro rfl
          rw [HQE.out]
          exact ⟨rfl, HTA.out, HTB.out⟩
      have HQJ : Hid (j = qi → s.eqs[j] = q) := by rintro rfl; exact HQE.out
      obtain ⟨z, HZ⟩ := nameIt (s.eqs[j]'hjl)
      rw [HZ.out] at e0 e1 e2 e3 e4 e5 e6 HMT HQJ HARG
      obtain ⟨n0, HN_0⟩ := nameIt z.rule
      obtain ⟨n1, HN_1⟩ := nameIt z.to'.at'
      obtain ⟨n2, HN_2⟩ := nameIt z.to'.attr
      obtain ⟨n3, HN_3⟩ := nameIt z.is'.kind
      obtain ⟨n4, HN_4⟩ := nameIt z.is'.n
      obtain ⟨n5, HN_5⟩ := nameIt z.is'.ref.at'
      obtain ⟨n6, HN_6⟩ := nameIt z.is'.ref.attr
      rw [HN_0.out] at e0 HMT
      rw [HN_1.out] at e1 HMT
      rw [HN_2.out] at e2 HMT
      rw [HN_3.out] at e3
      rw [HN_4.out] at e4
      rw [HN_5.out] at e5
      rw [HN_6.out] at e6
      rw [HI.out.2.2.2] at HMT
      obtain ⟨w5, HW5⟩ := nameIt (wr.alloc (.cells #[.int .i64 n0, .int .i64 n1, .int .i64 n2, .int .i64 n3, .int .i64 n4, .int .i64 n5, .int .i64 n6, .slice va vl vc] 90))
      have hb5 : Below wr.heap.size wr w5 := by rw [← HW5.out]; exact (Below.refl _ _).alloc (Nat.le_refl _) _
      have X8 : Hid (w5.heap[wr.heap.size]? = some (.cells #[.int .i64 n0, .int .i64 n1, .int .i64 n2, .int .i64 n3, .int .i64 n4, .int .i64 n5, .int .i64 n6, .slice va vl vc] 90 (0, 0))) := by rw [← HW5.out]; exact bx_new _ _ _ rfl
      have HB5 : Hid (Below W.heap.size W w5) := HBI.out.trans (hb5.mono HBI.out.size)
      have X9 : Hid (w5.heap[t7]? = some (.cells #[.int .i64 ta, .int .i64 tb] 83 (0, 0))) := bx_keep HI.out.2.1 hb5
      have X10 : Hid (w5.heap[W.heap.size + 1]? = some (.cells #[.int .i64 0, .int .i64 0, .int .i64 0, .int .i64 0, .slice none 0 0] 86 (0, 0))) := bx_keep HI.out.2.2.1 hb5
      obtain ⟨x4, x5, x6, x7, x8, x9, x10⟩ := bx_cells11w (bx_keep HHD.out HB5.out)
      obtain ⟨f0, f1, f2, f3, f4, f5, f6, f7⟩ := bx_cells8e X8.out
      obtain ⟨g0, g1⟩ := bx_cells2 X9.out
      have ax6 := aft_cell x6
      have af0 := aft_cell f0
      have af1 := aft_cell f1
      have af2 := aft_cell f2
      have ag0 := aft_cell g0
      have ag1 := aft_cell g1
      have ar0 := aft_cell ((HB5.out.cell (lt_of_cell r0)).trans r0)
      have ho' : (o : Int) < (LN : Int) := by omega
      have honc : (o : Int) ≤ (nc : Int) := by omega
      obtain ⟨q1, HB_1⟩ : ∃ b : Bool, (n0 == orr) = b := ⟨_, rfl⟩
      obtain ⟨q2, HB_2⟩ : ∃ b : Bool, (n1 == ta && n2 == tb) = b := ⟨_, rfl⟩
      have hre : ∀ w : World, (binOp .eql 83 (.agg #[.int .i64 n1, .int .i64 n2]) (.agg #[.int .i64 ta, .int .i64 tb])).run Tryz.prog w = .ok (.bool q2) w := fun w => by rw [refEqW, HB_2]
      have HFND : Hid ((q1 && q2) = true ↔ j = qi) := by
        show _ ↔ _
        rw [← HMT.out, ← HB_1, ← HB_2]
        simp
      have HB1h := Lib.hid HB_1
      have HB2h := Lib.hid HB_2
      have HSTAY : Hid (∀ w6, Below w5.heap.size w5 w6 → Below W.heap.size W w6 ∧ w6.heap[t7]? = some (.cells #[.int .i64 ta, .int .i64 tb] 83 (0, 0)) ∧ w6.heap[W.heap.size + 1]? = some (.cells #[.int .i64 0, .int .i64 0, .int .i64 0, .int .i64 0, .slice none 0 0] 86 (0, 0)) ∧ q.rule = orr) := fun w6 hb6 => ⟨HB5.out.trans (hb6.mono HB5.out.size), bx_keep X9.out hb6, bx_keep X10.out hb6, HI.out.2.2.2⟩
      subst hqa
      clear x4 x5 x6 x7 x8 x9 x10 f0 f1 f2 f3 f4 f5 f6 f7 g0 g1 hb hargs hb5
      go_upto_region 7 with fail
      rw [HW5.out]
      clear HW5 e0 e1 e2 e3 e4 e5 e6 e7 hebl
      cases q1 with
      | false =>
        refine wp_region_after (w0 := w5) (by kernel_rfl) (by kernel_rfl) ?_
        repeat (go_big_quiet_step (fail))
        refine wpQuiet_nil ?_
        rintro w6 ⟨⟨_, hb6⟩, rfl⟩
        have HN6 := Lib.hid (HSTAY.out w6 hb6)
        have hne : ¬ j = qi := fun e => by have := HFND.out.2 e; simp at this
        clear hb6 ax6 af0 af1 af2 ag0 ag1 ar0 hre HB_1 HB_2
        go_wp2_with fail
        go_roundg (qi + 1 - (j + 1))
        case measure => omega
        case rel => exact ⟨j + 1, by omega, by omega, by go_num, HN6⟩
      | true =>
        refine wp_region_after (w0 := w5) (by kernel_rfl) (by kernel_rfl) ?_
        repeat (go_big_quiet_step (fail))
        refine wpQuiet_nil ?_
        rintro w6 ⟨⟨_, hb6⟩, rfl⟩
        have HN6 := Lib.hid (HSTAY.out w6 hb6)
        have HX8 := Lib.hid (bx_keep X8.out hb6)
        clear hb6 ax6 af0 af1 af2 ag0 ag1 ar0 hre HB_1 HB_2
        cases q2 with
        | false =>
          have hne : ¬ j = qi := fun e => by have := HFND.out.2 e; simp at this
          go_wp2_with fail
          go_roundg (qi + 1 - (j + 1))
          case measure => omega
          case rel => exact ⟨j + 1, by omega, by omega, by go_num, HN6⟩
        | true =>
          have hjq2 : j = qi := HFND.out.1 rfl
          have hzq : z = q := HQJ.out hjq2
          obtain ⟨f0, f1, f2, f3, f4, f5, f6, f7⟩ := bx_cells8e HX8.out
          obtain ⟨⟨z0, z1, z2, z3, z4⟩, y0, y1, y2, y3, y4⟩ := bx_cells5w HN6.out.2.2.1
          have HE : Hid (∀ w', Below W.heap.size W w' → PST (.returned (.tuple #[.agg #[.int .i64 n3, .int .i64 n4, .int .i64 n5, .int .i64 n6, .slice va vl vc], .int .i64 (o : Int)])) w') := fun w' hb => by
            rw [← HN_3.out, ← HN_4.out, ← HN_5.out, ← HN_6.out, hzq]
            refine HFIN.out _ w' ?_ hb
            rw [← hzq]
            exact HARG.out
          have HB6 := Lib.hid HN6.out.1
          have HSC : Hid (∀ (w' : World) (b i : Nat) (v : Value), W.heap.size ≤ b → Below W.heap.size W w' → Below W.heap.size W (w'.setCell ⟨b, i, none⟩ v)) := fun w' b i v hb h => h.setCell hb v
          clear hjq2 hzq
          go_wp2_with fail
          refine bodyPost_ret (v := .tuple #[.agg #[.int .i64 n3, .int .i64 n4, .int .i64 n5, .int .i64 n6, .slice va vl vc], .int .i64 (o : Int)]) (by simp [results, Tryz.results44, go_sem, z0, z1, z2, z3, z4]) rfl ?_
          refine HE.out _ ?_
          exact HSC.out _ _ _ _ (by omega) (HSC.out _ _ _ _ (by omega) (HSC.out _ _ _ _ (by omega) (HSC.out _ _ _ _ (by omega) (HSC.out _ _ _ _ (by omega) HB6.out))))
end Dm
end Go.Proofs.YtfocooehnmpndaaGreat
namespace Go.Proofs.YtfocooehnmpndaaGreat
open Go.RowKit
namespace Dm
open At (Ref refsS)
structure NeW (w2 : World) (B : Nat) (l : List Inst) (v : Value) (wr : World) : Prop where
  own : wr.ownsRow B 59 2 v l.length (plC l)
  bel : Below w2.heap.size w2 wr
def NeWPost (l : List Inst) (W : World) (e : Ending) (w' : World) : Prop := ∃ v, e = .returned v ∧ w'.ownsRow W.heap.size 59 2 v l.length (plC l) ∧ Below W.heap.size W w'
set_option maxHeartbeats 4000000 in
set_option maxRecDepth 100000 in
theorem wNeedsE (g : Gram) (s : At.Sys) (L : List Nd) (hs : At.checkS g s = 0) (tb : Nat) (n a o : Nat) (q : At.Eqn) (pl : Ref → Inst) (W : World) (h : WdS g s L tb W) (hk : EqOk s L n a o q) (hbig : q.is'.size ≤ 100000) (hpl : ∀ r ∈ refsS q.is', atP L o r (pl r).1 (pl r).2) :
    Calls Tryz.prog 43 #[.pointer (some ⟨tb, 0, none⟩), .agg #[.int .i64 n, .int .i64 a]] W (NeWPost ((refsS q.is').map pl) W) := by
  obtain ⟨w0, HW0⟩ := nameIt (W.alloc (.cells #[.int .i64 n, .int .i64 a] 59))
  have HB0 : Hid (Below W.heap.size W w0) := by rw [← HW0.out]; exact (Below.refl _ _).alloc (Nat.le_refl _) _
  have X1 : Hid (w0.heap[W.heap.size]? = some (.cells #[.int .i64 n, .int .i64 a] 59 (0, 0))) := by rw [← HW0.out]; exact bx_new _ _ _ rfl
  have HT := Lib.hid h
  have HT0 := Lib.hid (h.below HB0.out)
  have HPLE := Lib.hid (fun (W' : World) (hb : Below W.heap.size W W') (r : Ref) (hr : r ∈ refsS q.is') => instE g s L tb o r _ _ W' (h.below hb) hk.ho (hpl r hr))
  have HEQ := Lib.hid (wEquE g s L hs tb n a o q w0 HT0.out hk)
  have HREF : Hid (∀ (v : Value) (W' : World), Rd AnyB W' (.sl (q.is'.args.map At.Expr.d)) [v] → Calls Tryz.prog 85 #[.agg #[.int .i64 q.is'.kind, .int .i64 q.is'.n, .int .i64 q.is'.ref.at', .int .i64 q.is'.ref.attr, v]] W' (fun e w' => ∃ v, e = .returned v ∧ Rd AnyB w' (.sl ((refsS q.is').map Ref.d)) [v] ∧ Below W'.heap.size W' w')) := fun v W' hv => by rw [At.refs_same]; exact At.mentE q.is' v W' hbig hv
  have HRL : Hid ((refsS q.is').length ≤ 100000) := Nat.le_trans (refsS_len _) hbig
  obtain ⟨PST, HP⟩ := nameIt (NeWPost ((refsS q.is').map pl) W)
  have HFIN : Hid (∀ v w', w'.ownsRow W.heap.size 59 2 v ((refsS q.is').map pl).length (plC ((refsS q.is').map pl)) → Below W.heap.size W w' → PST (.returned v) w') := fun v w' h1 h2 => by rw [← HP.out]; exact ⟨v, rfl, h1, h2⟩
  rw [HP.out]
  obtain ⟨RL, HRLn⟩ := nameIt (refsS q.is')
  rw [HRLn.out] at HPLE HRL HFIN
  simp only [HRLn.out] at HREF
  clear h hk hpl hbig HP
  obtain ⟨x0, x1⟩ := bx_cells2 X1.out
  have hl1 : W.heap.size < w0.heap.size := (Array.getElem?_eq_some_iff.1 X1.out).1
  go_enter Tryz.func43, Tryz.ntmps43
  go_upto_region 1 with fail
  rw [HW0.out]
  clear HW0
  go_wp2_with (refine HEQ.out.mono ?_)
  rintro e1 w1 ⟨ve, rfl, hve, hb1⟩
  obtain ⟨va, vl, vc, rfl⟩ : ∃ x y z, ve = .slice x y z := (by obtain ⟨x, y, e, -, -⟩ := hve.form; exact ⟨_, _, _, e⟩)
  have HB1 : Hid (Below W.heap.size W w1) := HB0.out.trans (hb1.mono HB0.out.size)
  have HRD : Hid (Rd AnyB w1 (.sl (q.is'.args.map At.Expr.d)) [.slice va vl vc]) := hve.any.below hb1
  clear x0 x1 hve hb1
  obtain ⟨ek, HEK⟩ := nameIt q.is'.kind
  obtain ⟨en, HEN⟩ := nameIt q.is'.n
  obtain ⟨ea, HEA⟩ := nameIt q.is'.ref.at'
  obtain ⟨eb', HEB⟩ := nameIt q.is'.ref.attr
  rw [HEK.out, HEN.out, HEA.out, HEB.out]
  simp only [HEK.out, HEN.out, HEA.out, HEB.out] at HREF
  obtain ⟨w2, HW2⟩ := nameIt (w1.alloc (.cells #[.int .i64 ek, .int .i64 en, .int .i64 ea, .int .i64 eb', .slice va vl vc] 86))
  have hb2 : Below w1.heap.size w1 w2 := by rw [← HW2.out]; exact (Below.refl _ _).alloc (Nat.le_refl _) _
  have X2 : Hid (w2.heap[w1.heap.size]? = some (.cells #[.int .i64 ek, .int .i64 en, .int .i64 ea, .int .i64 eb', .slice va vl vc] 86 (0, 0))) := by rw [← HW2.out]; exact bx_new _ _ _ rfl
  have HB2 : Hid (Below W.heap.size W w2) := HB1.out.trans (hb2.mono HB1.out.size)
  have HRF := Lib.hid (HREF.out (.slice va vl vc) w2 (HRD.out.below hb2))
  obtain ⟨x0, x1, x2, x3, x4⟩ := At.bx_cells5 X2.out
  have hl2 : w1.heap.size < w2.heap.size := (Array.getElem?_eq_some_iff.1 X2.out).1
  clear HEQ hb2
  go_upto_region 2 with fail
  rw [HW2.out]
  clear HW2
  go_wp2_with (refine HRF.out.mono ?_)
  rintro e3 w3 ⟨vr, rfl, hvr, hb3⟩
  obtain ⟨ra, rl, rc, rfl⟩ : ∃ x y z, vr = .slice x y z := (by obtain ⟨x, y, e, -, -⟩ := hvr.form; exact ⟨_, _, _, e⟩)
  have hrl : rl = RL.length := by obtain ⟨x, y, e, -, -⟩ := hvr.form; simp at e; exact e.2.1
  have hrc := hvr.bounds.2
  subst hrl
  have HB3 : Hid (Below W.heap.size W w3) := HB2.out.trans (hb3.mono HB2.out.size)
  have HRR := Lib.hid hvr
  unfold maxLen at hrc
  obtain ⟨hrc1, hrc2⟩ := hrc
  have HI0 : Hid (NeW w3 w3.heap.size ((RL.take 0).map pl) (.slice none 0 0) w3) := ⟨World.ownsRow_nil _ _ _ _, Below.refl _ _⟩
  clear x0 x1 x2 x3 x4 hvr hb3 HRF HREF
  obtain ⟨ln, HLN⟩ := nameIt RL.length
  rw [HLN.out] at HRL HRR hrc1
  rw [HLN.out]
  go_wp2_with fail
  go_loopg [7, 19] ln (fun gg v7 v19 wr => ∃ i : Nat, i ≤ ln ∧ ln - i ≤ gg ∧ v19 = .int .i64 i ∧ Hid (NeW w3 w3.heap.size ((RL.take i).map pl) v7 wr))
  case atStart => exact ⟨0, by omega, by omega, rfl, HI0.out⟩
  case round =>
    clear HI0
    obtain ⟨i, hi, hg, rfl, HI⟩ := hrel
    obtain ⟨LA, HLA⟩ := nameIt ((RL.take i).map pl)
    have HLAl : Hid (LA.length = i) := by rw [← HLA.out, List.length_map, List.length_take, HLN.out]; exact Nat.min_eq_left hi
    rw [HLA.out] at HI
    have HI2 := HI.out
    obtain ⟨av, cv, rfl, hcv1, hcv2⟩ := own_len HI2.own
    unfold maxLen at hcv2
    by_cases hlt : i < ln
    · have hlt' : (i : Int) < (ln : Int) := by omega
      have hic : (i : Int) ≤ (rc : Int) := by omega
      have hil : i < RL.length := by rw [HLN.out]; exact hlt
      have HRX : Hid (Rd AnyB wr (.sl (RL.map Ref.d)) [.slice ra RL.length rc]) := by rw [HLN.out]; exact HRR.out.below HI2.bel
      obtain ⟨bb, bo, hae, -, hbl, c0, c1⟩ := At.Rd.ref_at HRX.out hil
      have HNX : Hid ((RL.take (i + 1)).map pl = LA ++ [pl RL[i]]) := by
        show _ = _
        rw [List.take_succ_eq_append_getElem hil, List.map_append, HLA.out]; rfl
      have HPC := Lib.hid (fun (W' : World) (hb : Below W.heap.size W W') => HPLE.out W' hb RL[i] (List.getElem_mem hil))
      obtain ⟨p0, HP0⟩ := nameIt (pl RL[i])
      obtain ⟨ra0, HA0⟩ := nameIt (RL[i]'hil).at'
      obtain ⟨ra1, HA1⟩ := nameIt (RL[i]'hil).attr
      rw [HP0.out] at HNX
      simp only [HP0.out, HA0.out, HA1.out] at HPC
      rw [HA0.out] at c0
      rw [HA1.out] at c1
      obtain ⟨pm, pa⟩ := p0
      simp only at HPC
      obtain ⟨w4, HW4⟩ := nameIt (wr.alloc (.cells #[.int .i64 ra0, .int .i64 ra1] 83))
      have hb4 : Below wr.heap.size wr w4 := by rw [← HW4.out]; exact (Below.refl _ _).alloc (Nat.le_refl _) _
      have X7 : Hid (w4.heap[wr.heap.size]? = some (.cells #[.int .i64 ra0, .int .i64 ra1] 83 (0, 0))) := by rw [← HW4.out]; exact bx_new _ _ _ rfl
      have HB4 : Hid (Below w3.heap.size w3 w4) := HI2.bel.trans (hb4.mono HI2.bel.size)
      have HO4 := Lib.hid (own_keep HI2.own hb4)
      have HBW4 : Hid (Below W.heap.size W w4) := HB3.out.trans (HB4.out.mono HB3.out.size)
      have HPC4 := Lib.hid (HPC.out w4 HBW4.out)
      obtain ⟨z0, z1⟩ := bx_cells2 X7.out
      have hl7 : wr.heap.size < w4.heap.size := (Array.getElem?_eq_some_iff.1 X7.out).1
      rw [HLAl.out] at HO4
      rw [HLAl.out]
      subst hae
      go_upto_region 6 with fail
      rw [HW4.out]
      clear HW4 c0 c1 hbl hb4 HI HI2 HPC
      go_wp2_with (refine HPC4.out.mono ?_)
      rintro e5 w5 ⟨rfl, hb5⟩
      have HB5 : Hid (Below w3.heap.size w3 w5) := HB4.out.trans (hb5.mono HB4.out.size)
      have HO5 := Lib.hid (own_keep HO4.out hb5)
      have hz5 : w3.heap.size ≤ w5.heap.size := HB5.out.size
      have hbd : (i + 1) * 16 ≤ 140737488355328 := by have := HRL.out; omega
      clear HPC4 hb5 z0 z1
      go_wp2_with (at_builtin; refine wp_app1 elInstW rfl _ _ rfl HO5.out rfl rfl rfl rfl hbd (by unfold maxLen; omega) hz5 ?_)
      intro v7 w7 ho7 hg7
      obtain ⟨a7, c7, rfl, -, -⟩ := own_len ho7
      have HI5 : Hid (NeW w3 w3.heap.size ((RL.take (i + 1)).map pl) (.slice a7 (i + 1) c7) w7) := by
        rw [HNX.out]
        refine ⟨?_, HB5.out.grown hg7 hz5 (fun k e => (HO5.out.lt k e).1)⟩
        rw [plC_snoc, List.length_append, HLAl.out]
        exact ho7
      clear ho7 hg7
      go_wp2_with fail
      go_roundg (ln - (i + 1))
      case measure => omega
      case rel => exact ⟨i + 1, by omega, by omega, by go_num, HI5.out⟩
    · have hend : i = ln := by omega
      have hlt' : ¬ (i : Int) < (ln : Int) := by omega
      have HE : Hid (PST (.returned (.slice av i cv)) wr) := by
        have h := World.ownsRow.mono HI2.own HB3.out.size
        have e : LA = RL.map pl := by rw [← HLA.out, hend, ← HLN.out, List.take_length]
        rw [HLAl.out] at h
        refine HFIN.out _ _ ?_ (HB3.out.trans (HI2.bel.mono HB3.out.size))
        have el : (RL.map pl).length = i := by rw [← e]; exact HLAl.out
        rw [el, ← e]
        exact h
      rw [HLAl.out]
      clear HI HI2
      subst hend
      go_wp2_with fail
      exact HE.out
end Dm
end Go.Proofs.YtfocooehnmpndaaGreat
namespace Go.Proofs.YtfocooehnmpndaaGreat
open Go.RowKit
namespace Dm
open At (Ref refsS worth)
def litV (v : Int) : Lit := .int .i64 v
def HvM (b : Nat) (H : Inst → Option Int) (c : Nat) (w : World) : Prop := ∃ F : Lit → Option Lit, Km.KMap 59 3 b F c w ∧ ∀ i, okI i → F (piL i.1 i.2) = (H i).map litV
section
variable {b c : Nat} {H : Inst → Option Int} {w w' : World}
theorem HvM.start (w : World) {b : Nat} (hb : b = w.heap.size) : HvM b (fun _ => none) 0 (w.alloc (.map #[] 0)) := ⟨_, Km.KMap.start w hb, fun _ _ => rfl⟩
theorem HvM.keep (h : HvM b H c w) (hb : Below w.heap.size w w') : HvM b H c w' := by obtain ⟨F, h1, h2⟩ := h; exact ⟨F, h1.keep hb, h2⟩
theorem HvM.lt (h : HvM b H c w) : b < w.heap.size := by obtain ⟨F, h1, _⟩ := h; exact h1.lt
theorem HvM.len (h : HvM b H c w) (ty : TypeId) : (Builtin.len_ #[54] ty #[.map (some b)]).run Tryz.prog w = .ok (.int .i64 c) w := by obtain ⟨F, h1, _⟩ := h; exact h1.len Tryz.underlying54 ty
theorem HvM.look (h : HvM b H c w) {n a : Nat} (hi : okI (n, a)) : (Instr.lookup 54 (.map (some b)) (.agg #[.int .i64 n, .int .i64 a]) true).run Tryz.prog w = .ok (.tuple #[.int .i64 ((H (n, a)).getD 0), .bool (H (n, a)).isSome]) w ∧ (Instr.lookup 54 (.map (some b)) (.agg #[.int .i64 n, .int .i64 a]) false).run Tryz.prog w = .ok (.int .i64 ((H (n, a)).getD 0)) w := by
  obtain ⟨F, h0, hF⟩ := h
  obtain ⟨h5, h6⟩ := h0.look inK Tryz.underlying54 (inKey hi.1 hi.2)
  have hf := hF _ hi
  simp only at hf
  cases e : H (n, a) with
  | some v =>
    rw [e] at hf
    obtain ⟨h7, h8⟩ := h5 v hf
    exact ⟨h7, h8⟩
  | none =>
    rw [e] at hf
    refine ⟨h6 hf, ?_⟩
    obtain ⟨D, h1, h2, h3, h4⟩ := h0
    obtain ⟨v', ps', hrun', hv'⟩ := h1.lookup inK Tryz.underlying54 (Km.zInt w) (plainElem_int Tryz.underlying3 (by decide)) (inKey hi.1 hi.2)
    obtain ⟨n', rfl, hn', _⟩ := plainElem_int_inv Tryz.underlying3 hv'
    have hh : Maps.has D (piL (n : Int) (a : Int)) = false := by rw [h3, hf]; rfl
    rw [Maps.atKey_of_not_has hh] at hn'
    simp at hn'
    rw [hrun', ← hn'.1]
    rfl
theorem HvM.store (h : HvM b H c w) (hc : c ≤ 1000000000000000) {n a : Nat} (hi : okI (n, a)) (hn : H (n, a) = none) {v : Int} (hv : (Lit.int .i64 v).wf = true) : ∃ w', (Instr.mapUpdate 54 (.map (some b)) (.agg #[.int .i64 n, .int .i64 a]) (.int .i64 v)).run Tryz.prog w = .ok () w' ∧ HvM b (fun j => if j = (n, a) then some v else H j) (c + 1) w' ∧ w.grownBy w' (some b) := by
  obtain ⟨F, h0, hF⟩ := h
  obtain ⟨w', hrun, h1, hg⟩ := h0.store inK Tryz.underlying54 (by unfold maxLen; omega) (inKey hi.1 hi.2) (Km.velInt hv)
  have hf := hF _ hi
  simp only at hf
  rw [hf, hn] at h1
  refine ⟨w', hrun, ⟨_, h1, fun j hj => ?_⟩, hg⟩
  dsimp only
  by_cases e : j = (n, a)
  · subst e
    rw [Km.put_same, if_pos rfl]; rfl
  · rw [if_neg e, Km.put_other _ _ (fun e' => ?_)]
    · exact hF j hj
    · obtain ⟨e1, e2⟩ := piL_inj hj.1 hj.2 hi.1 hi.2 e'
      exact e (inst_eq e1 e2)
theorem setBlock_twoW (w : World) (b : Nat) (o o' : Obj) : Go.ChangeMaps.setBlock (Go.ChangeMaps.setBlock w b o) b o' = Go.ChangeMaps.setBlock w b o' := by
  unfold Go.ChangeMaps.setBlock
  simp
theorem HvM.entry (h : HvM b H c w) (hc : c ≤ 1000000000000000) {n a : Nat} (hi : okI (n, a)) (hn : H (n, a) = none) {v : Int} (hv : (Lit.int .i64 v).wf = true) :
    ∃ v0 st w1 w', (Instr.mapEntry 54 (.map (some b)) (.agg #[.int .i64 n, .int .i64 a])).run Tryz.prog w = .ok (.tuple #[v0, .int .i64 st]) w1 ∧
      (Instr.entryStore 54 (.map (some b)) (.int .i64 st) (.int .i64 v)).run Tryz.prog w1 = .ok () w' ∧ HvM b (fun j => if j = (n, a) then some v else H j) (c + 1) w' ∧ w.grownBy w' (some b) := by
  have h00 := h
  obtain ⟨F, ⟨D, ⟨es, clock, hb, FF, _, _⟩, _⟩, _⟩ := h
  obtain ⟨v0, st, es1, clock1, he, _, hst⟩ := Go.WideElems.entry_then_store inLaw Tryz.underlying54 (fun u => Km.zInt u) hb FF (inKey hi.1 hi.2)
  have hb1 : (Go.ChangeMaps.setBlock w b (.map es1 clock1)).heap[b]? = some (.map es1 clock1) := Go.ChangeMaps.heap_setBlock_same hb _
  obtain ⟨w', hrun, h1, h2⟩ := h00.store hc hi hn hv
  obtain ⟨es', clock', k1, k2⟩ := hst _ (.int .i64 v) hb1
  rw [setBlock_twoW] at k1
  rw [hrun] at k2
  obtain rfl : w' = Go.ChangeMaps.setBlock w b (.map es' clock') := by simpa using k2
  exact ⟨v0, st, _, _, he, k1, h1, h2⟩
end
set_option maxHeartbeats 2000000 in
set_option maxRecDepth 100000 in
theorem valcE (g : Gram) (s : At.Sys) (L : List Nd) (wb b hb xb nb : Nat) (H : Inst → Option Int) (c : Nat) (o : Nat) (r : Ref) (m a : Nat) (W : World) (h : WdS g s L wb W) (hV : HvM b H c W) (ho : o < L.length) (hr : atP L o r m a) (hok : okI (m, a)) (hh : W.cell? ⟨hb, 0, none⟩ = some (.map (some b))) (hx : W.cell? ⟨xb, 0, none⟩ = some (.pointer (some ⟨wb, 0, none⟩))) (hn : W.cell? ⟨nb, 0, none⟩ = some (.int .i64 o)) :
    Calls Tryz.prog 46 #[.agg #[.int .i64 r.at', .int .i64 r.attr], .pointer (some ⟨hb, 0, none⟩), .pointer (some ⟨xb, 0, none⟩), .pointer (some ⟨nb, 0, none⟩)] W fun e w' => e = .returned (.int .i64 ((H (m, a)).getD 0)) ∧ Below W.heap.size W w' := by
  obtain ⟨w0, HW0⟩ := nameIt (W.alloc (.cells #[.int .i64 r.at', .int .i64 r.attr] 83))
  have hb0 : Below W.heap.size W w0 := by rw [← HW0.out]; exact (Below.refl _ _).alloc (Nat.le_refl _) _
  have X1 : Hid (w0.heap[W.heap.size]? = some (.cells #[.int .i64 r.at', .int .i64 r.attr] 83 (0, 0))) := by rw [← HW0.out]; exact bx_new _ _ _ rfl
  have HB0 := Lib.hid hb0
  have HPL : Hid (∀ x : Aft w0, Calls Tryz.prog 47 #[.pointer (some ⟨wb, 0, none⟩), .int .i64 o, .agg #[.int .i64 r.at', .int .i64 r.attr]] x.w fun e w' => e = .returned (.agg #[.int .i64 m, .int .i64 a]) ∧ Below x.w.heap.size x.w w') := fun x => instE g s L wb o r m a x.w (h.below (hb0.trans (x.bel.mono hb0.size))) ho hr
  have hlk : ∀ x : Aft w0, (Instr.lookup 54 (.map (some b)) (.agg #[.int .i64 m, .int .i64 a]) false).run Tryz.prog x.w = .ok (.int .i64 ((H (m, a)).getD 0)) x.w := fun x => ((hV.keep (hb0.trans (x.bel.mono hb0.size))).look hok).2
  obtain ⟨v, HV⟩ := nameIt ((H (m, a)).getD 0)
  simp only [HV.out] at hlk
  rw [HV.out]
  obtain ⟨y0, y1⟩ := bx_cells2 X1.out
  obtain ⟨ra, HRA⟩ := nameIt r.at'
  obtain ⟨rb, HRB⟩ := nameIt r.attr
  rw [HRA.out, HRB.out] at X1
  simp only [HRA.out, HRB.out] at HPL HW0
  rw [HRA.out] at y0
  rw [HRB.out] at y1
  rw [HRA.out, HRB.out]
  have ay0 := aft_cell y0
  have ay1 := aft_cell y1
  have axh := aft_cell ((hb0.cell (lt_of_cell hh)).trans hh)
  have axx := aft_cell ((hb0.cell (lt_of_cell hx)).trans hx)
  have axn := aft_cell ((hb0.cell (lt_of_cell hn)).trans hn)
  clear y0 y1 hx hn hh hV hr hok hb0 h
  go_enter Tryz.func46, Tryz.ntmps46
  go_upto_region 1 with fail
  rw [HW0.out]
  clear HW0
  refine wp_region_after (w0 := w0) (by kernel_rfl) (by kernel_rfl) ?_
  repeat (go_big_quiet_step (exact Calls.after (HPL.out _)))
  refine wpQuiet_nil ?_
  rintro w2 ⟨⟨_, hb2⟩, rfl⟩
  have HE : Hid (Below W.heap.size W w2) := HB0.out.trans (hb2.mono HB0.out.size)
  clear hb2 ay0 ay1 axh axx axn hlk
  go_wp2_with fail
  go_ret
  exact ⟨rfl, HE.out⟩
end Dm
end Go.Proofs.YtfocooehnmpndaaGreat
