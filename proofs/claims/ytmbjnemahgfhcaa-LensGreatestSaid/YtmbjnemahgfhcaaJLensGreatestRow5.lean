/- census.Counter.loops. parlref5.lister.rows. The walk of lengthsOf. census.Make. The contracts of gram.T and gram.N. census.check and census.Trees. Plain: how many nodes a listed tree has. census.Trees. census.Total. rank.count and rank.Count. The contract of tree.Word. What rank.numberer.of meets: valid trees, the counter between calls. Plain: the number that rank.of reckons is the place in the list of all trees. rank.numberer.of. The contracts of gram.Root and of the functions of tree.valid. The contracts of tree.valid, tree.Check and tree.Symbol. The contract of tree.valid. The contracts of tree.Symbol and of Label. slices.Equal of symbols. rank.Of. The lengths of a census are those of the second implementation; parlref5.Listed. Plain: what has infinitely many trees has trees of many levels, and the other way round. What rank.numberer.tree and list answer. rank.numberer.tree. rank.numberer.list. rank.Tree. Plain: the two ways to count agree: by what leads to itself, and by the levels of trees. Plain: the numbers of a census are those by levels. Plain: least lengths. The longest word of a grammar, in plain Lean: cuts, cycles that grow. -/
import Derived.Test.YtmbjnemahgfhcaaJLensGreatestRow2
import Derived.Test.YtmbjnemahgfhcaaJLensGreatestRow4
import Derived.IntWalk
import Derived.Deep.DeepCutAuto
import Derived.Deep.CutBlock
import Derived.Test.YtmbjnemahgfhcaaJLensGreatestRow3
import Derived.Deep.LoopGhost
import Derived.Test.YtmbjnemahgfhcaaJLensGreatestRow1
import Derived.BigQuiet
import Derived.Deep.QuietTactic
import Derived.Laws.StructEq
import Derived.Deep.RegionHeld3
namespace Go.Proofs.Ytmbjnemahgfhcaa
open Go.RowKit
namespace Cs

theorem rd_rest {S0 : Nat → Prop} {w : World} {k : Nat} : ∀ (i : Nat) {ds : List D} {b off n cap : Nat}, Rd S0 w (.sl ds) [.slice (some ⟨b, off, none⟩) n cap] → (∀ d ∈ ds, d.cells = k) → i ≤ n →
    Rd S0 w (.sl (ds.drop i)) [.slice (some ⟨b, if cap = i then off else off + i * k, none⟩) (n - i) (cap - i)] := by
  intro i ds b off n cap h hk hi
  obtain ⟨a', cap', L, e, h1, h2, h3, h4, h5⟩ := h
  simp at e
  obtain ⟨rfl, rfl, rfl⟩ := e
  rw [← List.take_append_drop i ds] at h5
  obtain ⟨c1, c2, rfl, h6, h7⟩ := h5.split
  have hl : c1.length = i * k := by
    rw [RdAll.len _ _ h6, cellsAll_eq (fun d hd => hk d (List.mem_of_mem_take hd)), List.length_take, Nat.min_eq_left (by omega)]
  refine ⟨some ⟨b, if cap = i then off else off + i * k, none⟩, cap - i, c2, by simp, by simp; omega, by omega, (fun e => by cases e), fun j hj => ?_, h7⟩
  have hc2 : c2.length = (ds.length - i) * k := by rw [RdAll.len _ _ h7, cellsAll_eq (fun d hd => hk d (List.mem_of_mem_drop hd)), List.length_drop]
  have hne : cap ≠ i := by
    intro e
    have : ds.length - i = 0 := by omega
    rw [this, Nat.zero_mul] at hc2
    omega
  obtain ⟨x, hx, hS, hc⟩ := h4 (i * k + j) (by simp; omega)
  cases hx
  rw [if_neg hne]
  refine ⟨_, rfl, hS, ?_⟩
  rw [List.getElem_append_right (by omega)] at hc
  rw [add_at] at hc
  rw [add_at]
  have e1 : off + i * k + j = off + (i * k + j) := by omega
  rw [e1, hc]
  congr 2
  omega

/-- the table of edges, beside all that was there -/
structure LI (wB : World) (bt sz : Nat) (rb : Nat → Nat) (B2 : Nat) (F : Nat → Nat → Bool) (wr : World) : Prop where
  tab : Grd 33 4 wB.heap.size bt sz sz sz rb (fun a b => .bool (F a b)) wr
  bel : Below wB.heap.size wB wr
  lo : ∀ a, a < sz → rb a < B2
section
variable {wB : World} {bt sz : Nat} {rb : Nat → Nat} {B2 : Nat} {F : Nat → Nat → Bool} {wr W : World}
theorem LI.keep (h : LI wB bt sz rb B2 F wr) (hb : Below wr.heap.size wr W) : LI wB bt sz rb B2 F W := ⟨h.tab.keep hb, h.bel.trans (hb.mono h.bel.size), h.lo⟩
theorem LI.setv (h : LI wB bt sz rb B2 F wr) {a b : Nat} (ha : a < sz) (hb : b < sz) (x : Bool) : LI wB bt sz rb B2 (fun k l => if k = a ∧ l = b then x else F k l) (wr.setCell ⟨rb a, b, none⟩ (.bool x)) := by
  refine ⟨(h.tab.set ha ha hb (.bool x)).eq (fun k l _ _ _ => ?_), h.bel.setCell (p := ⟨rb a, b, none⟩) (h.tab.ne a ha ha).2 _, h.lo⟩
  show (if k = a ∧ l = b then _ else _) = _
  split <;> rfl
theorem LI.eq {F' : Nat → Nat → Bool} (h : LI wB bt sz rb B2 F wr) (he : ∀ k l, k < sz → l < sz → F k l = F' k l) : LI wB bt sz rb B2 F' wr := ⟨h.tab.eq fun k l hk _ hl => by rw [he k l hk hl], h.bel, h.lo⟩
theorem LI.set (h : LI wB bt sz rb B2 F wr) {a b : Nat} (ha : a < sz) (hb : b < sz) : LI wB bt sz rb B2 (updB F a b) (wr.setCell ⟨rb a, b, none⟩ (.bool true)) := h.setv ha hb true
end
/-- valid rules -/
def okL (N : Nat) (g : Gram) : Prop := ∀ r ∈ g.rules, 0 ≤ r.left ∧ r.left.toNat < N

end Cs
end Go.Proofs.Ytmbjnemahgfhcaa
namespace Go.Proofs.Ytmbjnemahgfhcaa
open Go.RowKit
namespace Cs

section
variable {e : TypeId} {size B : Nat} {w3 : World} {vo : Value} {ds : List D} {v : Value} {wr : World}
theorem InG.block (h : InG e size B w3 vo ds v wr) {b : Nat} {o : Obj} (hb : w3.heap[b]? = some o) (hne : vo.ownBlock ≠ some b) : wr.heap[b]? = some o := by
  rw [h.gr.block b (Array.getElem?_eq_some_iff.1 hb).1 (fun e => hne e.symm)]; exact hb
end
end Cs
end Go.Proofs.Ytmbjnemahgfhcaa
namespace Go.Proofs.Ytmbjnemahgfhcaa
open Go.RowKit
namespace Ln

def LenPost (g : Gram) (n : Nat) (w : World) (e : Ending) (w' : World) : Prop :=
  ∃ (bt : Nat) (rb : Nat → Nat) (C : Nat → Nat → Bool), e = .returned (.slice (some ⟨bt, 0, none⟩) g.nons.toNat g.nons.toNat) ∧ Grd 33 4 w.heap.size bt g.nons.toNat (n + 1) g.nons.toNat rb (fun i j => .bool (C i j)) w' ∧ (∀ a k, a < g.nons.toNat → k ≤ n → (C a k = true ↔ Has g.rules (a : Int) k)) ∧ Below w.heap.size w w'

set_option maxHeartbeats 8000000 in
set_option maxRecDepth 100000 in
theorem lengthsE (g : Gram) (hg : checkG g = 0) (n : Nat) (hn : n ≤ 400) (ar : Option Addr) (cr : Nat) (w : World) (hr : Rd AnyB w (.sl (g.rules.map Rule.d)) [.slice ar g.rules.length cr]) :
    Calls Try.prog 11 #[.agg #[.int .i64 g.terms, .int .i64 g.nons, .int .i64 g.start, .slice ar g.rules.length cr], .int .i64 n] w (LenPost g n w) := by
  obtain ⟨⟨hg1, hg2, hg3, hg4, hg5, hg6⟩, hg7, hg8⟩ := checkG_zero hg
  have HRU := Lib.hid hg8
  have hbs := hr.bounds.2
  unfold maxLen at hbs
  obtain ⟨hc1, hc2⟩ := hbs
  obtain ⟨w0, HW0⟩ := nameIt ((w.alloc (.cells #[.int .i64 g.terms, .int .i64 g.nons, .int .i64 g.start, .slice ar g.rules.length cr] 24)).alloc (.cells #[.int .i64 n] 3))
  have HB0 : Hid (Below w.heap.size w w0) := by rw [← HW0.out]; exact ((Below.refl _ _).alloc (Nat.le_refl _) _).alloc (by simp) _
  have X1 : Hid (w0.heap[w.heap.size]? = some (.cells #[.int .i64 g.terms, .int .i64 g.nons, .int .i64 g.start, .slice ar g.rules.length cr] 24 (0, 0))) := by rw [← HW0.out]; exact bx_keep (bx_new _ _ _ rfl) ((Below.refl _ _).alloc (Nat.le_refl _) _)
  have N1 : Hid (w0.heap[w.heap.size + 1]? = some (.cells #[.int .i64 n] 3 (0, 0))) := by rw [← HW0.out]; exact bx_new _ _ _ (by simp)
  have HZ0 : Hid (w0.heap.size = w.heap.size + 2) := by rw [← HW0.out]; exact Lib.hid (by simp)
  have HR := Lib.hid hr
  obtain ⟨N, HN⟩ : ∃ N : Nat, g.nons = (N : Int) := ⟨g.nons.toNat, by omega⟩
  have HNN := Lib.hid HN
  have HFIN : Hid (∀ (bt : Nat) (rb : Nat → Nat) (C : Nat → Nat → Bool) W, Grd 33 4 w.heap.size bt N (n + 1) N rb (fun i j => .bool (C i j)) W → (∀ a k, a < N → k ≤ n → (C a k = true ↔ Has g.rules (a : Int) k)) → Below w.heap.size w W → LenPost g n w (.returned (.slice (some ⟨bt, 0, none⟩) N N)) W) := by
    intro bt rb C W h1 h2 h3
    have e : g.nons.toNat = N := by rw [HN]; simp
    refine ⟨bt, rb, C, by rw [e], by rw [e]; exact h1, by rw [e]; exact h2, h3⟩
  have hN1 : 1 ≤ N := by omega
  have hN10 : N ≤ 10 := by omega
  have hgr := gridB N (n + 1) w0 ⟨by omega, by omega⟩ ⟨by omega, by omega⟩
  rw [show ((n + 1 : Nat) : Int) = (n : Int) + 1 by omega] at hgr
  have HGR := Lib.hid hgr
  have hmk : ∀ W : World, (Instr.makeMap 56 none).run Try.prog W = .ok (.map (some W.heap.size)) (W.alloc (.map #[] 0)) := fun W => by
    simp [Instr.makeMap, run_underlying Try.underlying56]; try rfl
  obtain ⟨gt, HGT⟩ := nameIt g.terms
  obtain ⟨gs, HGS⟩ := nameIt g.start
  obtain ⟨K, HK⟩ := nameIt g.rules
  rw [HGT.out, HN, HGS.out, HK.out] at X1 HW0
  rw [HK.out] at HR hc1 hg7 HRU HFIN
  rw [HGT.out, HN, HGS.out, HK.out]
  obtain ⟨x0, x1, x2, x3⟩ := bx_cells4 X1.out
  have n0 := bx_cells1 N1.out
  clear hr HN hg1 hg2 hg3 hg4 hg5 hg6 hg8 hgr
  go_enter Try.func11, Try.ntmps11
  go_upto_region 1 with fail
  rw [HW0.out]
  go_wp2_with fail
  refine HGR.out.mono ?_
  rintro e w2 ⟨bt, rb, rfl, hgrd, hb2⟩
  clear x0 x1 x2 x3 n0
  have HGD := Lib.hid hgrd
  have HB2 := Lib.hid hb2
  clear hgrd hb2
  obtain ⟨s, HS⟩ := nameIt w2.heap.size
  obtain ⟨w3, HW3⟩ := nameIt ((((w2.alloc (.map #[] 0)).alloc (.cells #[.map (some s)] 56)).alloc (.cells #[.slice none 0 0] 57)).alloc (.cells #[.slice none 0 0] 57))
  obtain ⟨G, HG⟩ : ∃ G : Array Value, Hid (G = #[.int .i64 gt, .int .i64 N, .int .i64 gs, .slice ar K.length cr]) := ⟨_, rfl⟩
  have HB3 : Hid (Below w2.heap.size w2 w3) := by rw [← HW3.out]; exact ((((Below.refl _ _).alloc (Nat.le_refl _) _).alloc (by simp) _).alloc (by simp; omega) _).alloc (by simp; omega) _
  have HM0 : Hid (MI w s n N G bt rb (fun _ => False) [] 0 [] 0 0 (fun _ _ => false) w3) := by
    have hz := HZ0.out
    have h1 := HGD.out
    rw [hz] at h1
    refine ⟨AI.start HS.out.symm (bx_keep N1.out HB2.out) HW3.out, h1.keep HB3.out, ⟨by rw [← HS.out]; exact h1.lt, fun i hi => by rw [← HS.out]; exact h1.rlt hi hi⟩, ?_, ?_⟩
    · rw [HG.out]; exact bx_keep (bx_keep X1.out HB2.out) HB3.out
    · have h2 : Below w.heap.size w w2 := HB0.out.trans (HB2.out.mono HB0.out.size)
      exact h2.trans (HB3.out.mono h2.size)
  have HGR0 : Hid (Grow K n [] []) := ⟨List.prefix_refl _, List.nodup_nil, by simp⟩
  have HRT4 : Hid (∀ i, (rt K i).length ≤ 4) := by
    intro i
    by_cases h : i < K.length
    · rw [rt_eq h]; exact (HRU.out _ (List.getElem_mem h)).2.2.1
    · simp [rt, List.getElem?_eq_none (Nat.le_of_not_lt h)]
  have hbx := HM0.out.gbox
  rw [HG.out] at hbx
  obtain ⟨x0, x1, x2, x3⟩ := bx_cells4 hbx
  clear hbx
  go_upto_region 5 with fail
  rw [HS.out, HW3.out]
  go_wp2_with fail
  clear x0 x1 x2 x3 hmk
  go_loopg [29] K.length (fun gg v29 wr => ∃ (j : Nat) (L : List (Nat × Nat × Nat)), j ≤ K.length ∧ K.length - j ≤ gg ∧ v29 = .int .i64 j ∧ Hid (MI w s n N G bt rb (fun _ => False) L 0 [] 0 0 (fun _ _ => false) wr) ∧ Hid (Grow K n [] L) ∧ Hid (∀ i, i < j → (i, 0, 0) ∈ L))
  case atStart => exact ⟨0, [], by omega, by omega, rfl, HM0, HGR0, fun i h => by omega⟩
  case round =>
    clear HM0 HGR0
    obtain ⟨j, L, hj, hgj, rfl, HM, HGW, HIN⟩ := hrel
    by_cases hjK : j < K.length
    · have hjK' : (j : Int) < (K.length : Int) := by omega
      have hcall : Calls Try.prog 22 #[.agg #[.int .i64 (j : Int), .int .i64 0, .int .i64 0], .pointer (some ⟨w.heap.size + 1, 0, none⟩), .pointer (some ⟨s + 1, 0, none⟩), .pointer (some ⟨s + 2, 0, none⟩), .pointer (some ⟨s + 3, 0, none⟩)] wr _ :=
        addE wr (w.heap.size + 1) s n (fun _ => False) L 0 [] 0 0 j 0 0 wr HM.out.ai ⟨by show j ≤ 1000; omega, by show 0 ≤ 1000; omega, by show 0 ≤ 1000; omega⟩ hn (by have := HGW.out.len hg7 HRT4.out hn; omega)
      have HC := Lib.hid hcall
      clear hcall
      go_wp2_with fail
      (with_reducible refine HC.out.mono ?_)
      rintro e w4 ⟨rfl, hai⟩
      have HM1 := Lib.hid (HM.out.call hai)
      have HG1 := Lib.hid (HGW.out.add (x := (j, 0, 0)) (.start hjK))
      have HI1 : Hid (∀ i, i < j + 1 → (i, 0, 0) ∈ addL n L (j, 0, 0)) := by
        intro i hi
        by_cases e : i = j
        · subst e; exact mem_addL (Nat.zero_le _)
        · exact mem_addL_old (HIN.out i (by omega))
      clear hai
      go_wp2_with fail
      go_roundg (K.length - (j + 1))
      case measure => omega
      case rel => exact ⟨j + 1, _, by omega, by omega, by go_num, HM1, HG1, HI1⟩
    · have hjK' : ¬ (j : Int) < (K.length : Int) := by omega
      have HIT0 : Hid (Items K n L 0 (fun _ _ => false)) := Items.start' HGW.out (fun i hi => HIN.out i (by omega))
      clear HIN HGW
      obtain ⟨wl, rfl⟩ : ∃ wl : World, wl = wr := ⟨_, rfl⟩
      go_wp2_with fail
      go_loopg [] 64161 (fun gg wr => ∃ (p : Nat) (L : List (Nat × Nat × Nat)) (C : Nat → Nat → Bool), p ≤ L.length ∧ 64160 - p ≤ gg ∧ Hid (MI w s n N G bt rb (fun _ => False) L p [] 0 0 C wr) ∧ Hid (Items K n L p C))
      case atStart => exact ⟨0, L, _, by omega, by omega, HM, HIT0⟩
      case round =>
        clear HM HIT0 L
        obtain ⟨wo, rfl⟩ : ∃ wo : World, wo = wr := ⟨_, rfl⟩
        obtain ⟨p, L, C, hp, hgp, HM, HIT⟩ := hrel
        have hLlen : L.length ≤ 64160 := (Grow.refl HIT.out.nodup HIT.out.sound).len hg7 HRT4.out hn
        by_cases hpl : p < L.length
        · obtain ⟨⟨i, d, l⟩, HXX⟩ := nameIt (L[p]'hpl)
          have hit := HIT.out.sound _ (List.getElem_mem hpl)
          rw [HXX.out] at hit
          obtain ⟨hit1, hit2⟩ := hit
          simp only at hit1 hit2
          have HITX := Lib.hid hit1
          have hiK : i < K.length := hit1.lt
          have hdR : d ≤ (rt K i).length := hit1.dot
          clear hit1
          obtain ⟨ib, HIB⟩ := nameIt wo.heap.size
          obtain ⟨g, off, cap, hq3, hq4, hq5, hgs, hgw, e0, e1, e2, hpop⟩ := HM.out.ai.first (X' := fun k => k = ib) hpl HXX.out
          simp only at e0 e1 e2
          obtain ⟨nq, HNQ⟩ := nameIt (L.length - p)
          have hnq : 1 ≤ nq := by have := HNQ.out; omega
          have hnq' : (0 : Int) < (nq : Int) := by omega
          rw [HNQ.out] at hq3 hq4 hpop
          unfold maxLen at hq5
          obtain ⟨w4, HW4⟩ := nameIt (wo.alloc (.cells #[.int .i64 i, .int .i64 d, .int .i64 l] 59))
          have hb4 : Below wo.heap.size wo w4 := by rw [← HW4.out]; exact (Below.refl _ _).alloc (Nat.le_refl _) _
          have I4 : Hid (w4.heap[ib]? = some (.cells #[.int .i64 i, .int .i64 d, .int .i64 l] 59 (0, 0))) := by rw [← HW4.out]; exact bx_new _ _ _ HIB.out.symm
          have hs4 : w4.heap.size = wo.heap.size + 1 := by rw [← HW4.out]; simp
          have hpop4 := hpop w4 hb4 (fun k hk => .inr (by have := HIB.out; omega))
          obtain ⟨v5, HV5⟩ := nameIt (Value.slice (if cap = 1 then some (⟨g, off, none⟩ : Addr) else some ⟨g, off + 3, none⟩) (nq - 1) (cap - 1))
          rw [HV5.out] at hpop4
          have HMP0 := Lib.hid (HM.out.pop hb4 hpop4)
          have hz4 : s + 4 ≤ wo.heap.size := HM.out.ai.le
          have HIBS : Hid (s + 4 ≤ ib) := by have := HIB.out; exact Lib.hid (by omega)
          have c3 := bx_cells1 hq3
          have c4 := bx_cells1 (bx_keep hq3 hb4)
          have f4 := bx_free1 (bx_keep hq3 hb4)
          clear hpop hpop4 hs4
          go_upto_region 12 with fail
          rw [HW4.out]
          go_cut [] (fun wx => wx = w4.setCell ⟨s + 3, 0, none⟩ v5)
          case first =>
            by_cases hc1 : cap = 1
            · have HV6 := HV5.out
              rw [if_pos hc1] at HV6
              subst hc1
              rw [show nq - 1 = 0 by omega] at HV6
              have HV7 := Lib.hid HV6
              clear HV6
              go_wp2_with fail
              go_meet
              rw [← HV7.out]
            · have HV6 := HV5.out
              rw [if_neg hc1] at HV6
              have HV7 := Lib.hid HV6
              clear HV6
              go_wp2_with fail
              go_meet
              rw [← HV7.out]
          case rest =>
            have I5 : Hid (wc.heap[ib]? = some (.cells #[.int .i64 i, .int .i64 d, .int .i64 l] 59 (0, 0))) := by
              show _ = _
              rw [hcut]
              exact bx_other I4.out (by have := HIBS.out; omega) _ _
            have HMP : Hid (MI w s n N G bt rb (fun k => k = ib) L (p + 1) [] 0 0 C wc) := by rw [hcut]; exact HMP0.out
            obtain ⟨w5, rfl⟩ : ∃ ww : World, ww = wc := ⟨_, rfl⟩
            clear hcut HMP0 I4 HV5 hb4 HW4 e0 e1 e2 c3 c4 f4 hq3 hq4
            obtain ⟨b, ro, vr, hae, -, hbl0, d0, d1, hkr⟩ := HR.out.rule_at hiK
            have c0 := (HMP.out.bel.cell (p := ⟨b, ro + i * 2, none⟩) (lt_of_cell d0)).trans d0
            have c1 := (HMP.out.bel.cell (p := ⟨b, ro + i * 2 + 1, none⟩) (lt_of_cell d1)).trans d1
            obtain ⟨av, cv, rfl, -, hcv⟩ := hkr.form
            rw [List.length_map] at c1 hkr
            obtain ⟨hl0, hl1, hl2, hl3⟩ := HRU.out K[i] (List.getElem_mem hiK)
            have HRTX := Lib.hid (rt_eq hiK)
            have HLTX := Lib.hid (lft_eq hiK)
            obtain ⟨r, HRn⟩ := nameIt (K[i]'hiK)
            rw [HRn.out] at c0 c1 hkr hl0 hl1 hl2 hl3 HRTX HLTX
            obtain ⟨lf0, HLF⟩ := nameIt r.left
            obtain ⟨R, HRR⟩ := nameIt r.right
            rw [HLF.out] at c0 hl0 hl1 HLTX
            rw [HRR.out] at c1 hkr hl2 hl3 HRTX
            rw [HNN.out] at hl1
            rw [HRTX.out] at hdR
            have HL3 := Lib.hid hl3
            obtain ⟨lf, hlf⟩ : ∃ n : Nat, lf0 = (n : Int) := ⟨lf0.toNat, by omega⟩
            subst hlf
            have hlfN : lf < N := by omega
            have HKR := Lib.hid (hkr.below HMP.out.bel)
            obtain ⟨rx, HRX⟩ := nameIt w5.heap.size
            have HRXS : Hid (s + 4 ≤ rx ∧ ib < rx) := by
              have h1 := HMP.out.ai.le
              have h2 := (Array.getElem?_eq_some_iff.1 I5.out).1
              rw [HRX.out] at h1 h2
              exact ⟨h1, h2⟩
            obtain ⟨w6, HW6⟩ := nameIt (w5.alloc (.cells #[.int .i64 lf, .slice av R.length cv] 32))
            have hb6 : Below w5.heap.size w5 w6 := by rw [← HW6.out]; exact (Below.refl _ _).alloc (Nat.le_refl _) _
            have hs6 : w6.heap.size = w5.heap.size + 1 := by rw [← HW6.out]; simp
            have R6 : Hid (w6.heap[rx]? = some (.cells #[.int .i64 lf, .slice av R.length cv] 32 (0, 0))) := by rw [← HW6.out]; exact bx_new _ _ _ HRX.out.symm
            have I6 := Lib.hid (bx_keep I5.out hb6)
            have HM6 : Hid (MI w s n N G bt rb (fun k => k = ib ∨ k = rx) L (p + 1) [] 0 0 C w6) := HMP.out.keep hb6 (fun k hk => hk.imp id (fun e => by have := HRX.out; omega))
            have hbx := HMP.out.gbox
            rw [HG.out] at hbx
            obtain ⟨x0, x1, x2, x3⟩ := bx_cells4 hbx
            obtain ⟨y0, y1, y2⟩ := bx_cells3 I5.out
            have hiK' : (i : Int) < (K.length : Int) := by omega
            have hi0 : (0 : Int) ≤ (i : Int) := by omega
            rw [HIB.out]
            subst hae
            clear hbx hb6 hs6 d0 d1 hkr hl3
            go_upto_region 14 with fail
            rw [HW6.out, HRX.out]
            clear c0 c1 x0 x1 x2 x3 y0 y1 y2
            obtain ⟨y0, y1, y2⟩ := bx_cells3 I6.out
            obtain ⟨z0, z1⟩ := bx_cells2 R6.out
            by_cases hdl : d = R.length
            · have hdl' : ((d : Int) == (R.length : Int)) = true := by simp; omega
              have h0 := HM6.out.can.hdr hlfN hlfN
              have h1 := HM6.out.can.cell hlfN hlfN (j := l) (by omega)
              obtain ⟨rl, HRL⟩ := nameIt (rb lf)
              rw [HRL.out] at h0 h1
              obtain ⟨cb, HCB⟩ := nameIt (C lf l)
              rw [HCB.out] at h1
              have hlf0 : (0 : Int) ≤ (lf : Int) := by omega
              have hlf1 : (lf : Int) < (N : Int) := by omega
              have hll0 : (0 : Int) ≤ (l : Int) := by omega
              have hll1 : (l : Int) < (n : Int) + 1 := by omega
              go_wp2_with fail
              go_quiet (fail)
              cases cb with
              | true =>
                have HITN : Hid (Items K n L (p + 1) C) := HIT.out.full_old hpl HXX.out (by rw [HRTX.out]; exact hdl) (by rw [HLTX.out]; simpa using HCB.out)
                have HMN : Hid (MI w s n N G bt rb (fun _ => False) L (p + 1) [] 0 0 C (w6.drewN nq)) := HM6.out.keep (below_drewN _ _) (fun k hk => hk.elim)
                go_wp2_with fail
                go_roundg (64160 - (p + 1))
                case measure => omega
                case rel => exact ⟨p + 1, L, C, hpl, by omega, HMN, HITN⟩
              | false =>
                go_upto_region 16 with fail
                obtain ⟨w7, HW7⟩ := nameIt (w6.drewN nq)
                have hb7 : Below w6.heap.size w6 w7 := by rw [← HW7.out]; exact below_drewN _ _
                rw [HW7.out]
                have HM7 := Lib.hid (HM6.out.keep (X' := fun k => k = ib ∨ k = rx) hb7 (fun k hk => .inl hk))
                have I7 := Lib.hid (bx_keep I6.out hb7)
                have R7 := Lib.hid (bx_keep R6.out hb7)
                clear h0 h1 y0 y1 y2 z0 z1
                obtain ⟨y0, y1, y2⟩ := bx_cells3 I7.out
                obtain ⟨z0, z1⟩ := bx_cells2 R7.out
                have h0 := HM7.out.can.hdr hlfN hlfN
                have h1 := HM7.out.can.cell hlfN hlfN (j := l) (by omega)
                have f1 := HM7.out.can.free hlfN hlfN l
                rw [HRL.out] at h0 h1 f1
                obtain ⟨C', HC'⟩ : ∃ C' : Nat → Nat → Bool, Hid (∀ a b, C' a b = if a = lf ∧ b = l then true else C a b) := ⟨fun a b => if a = lf ∧ b = l then true else C a b, fun _ _ => rfl⟩
                have hdr7 : ∀ W : World, Below W.heap.size W W.drew := fun W => (Below.refl _ _).drew
                have HM8 : Hid (MI w s n N G bt rb (fun k => k = ib ∨ k = rx) L (p + 1) [] 0 0 C' (w7.setCell ⟨rl, l, none⟩ (.bool true)).drew) := by
                  have h := (HM7.out.set hlfN (j := l) (by omega) (fun a b _ _ => HC'.out a b)).keep (X' := fun k => k = ib ∨ k = rx) (hdr7 _) (fun k hk => .inl hk)
                  rw [HRL.out] at h
                  exact h
                have hrls : rl < s := by rw [← HRL.out]; exact HM7.out.lim.2 lf hlfN
                have I8 : Hid ((w7.setCell ⟨rl, l, none⟩ (.bool true)).drew.heap[ib]? = some (.cells #[.int .i64 i, .int .i64 d, .int .i64 l] 59 (0, 0))) := bx_keep (bx_other I7.out (by have := HIBS.out; omega) _ _) (hdr7 _)
                have R8 : Hid ((w7.setCell ⟨rl, l, none⟩ (.bool true)).drew.heap[rx]? = some (.cells #[.int .i64 lf, .slice av R.length cv] 32 (0, 0))) := bx_keep (bx_other R7.out (by have := HRXS.out; omega) _ _) (hdr7 _)
                obtain ⟨w8, HW8⟩ := nameIt (w7.setCell ⟨rl, l, none⟩ (.bool true)).drew
                rw [HW8.out] at HM8 I8 R8
                obtain ⟨ga, oa, ca, hall, hca1, hca2, hsn⟩ := HM8.out.snap (by omega)
                unfold maxLen at hca2
                have HM9 := Lib.hid hsn
                have k2 := bx_cells1 hall
                have HLF : Hid (lft K i = (lf : Int)) := HLTX
                have HPOS : Hid (∀ i, i < K.length → ∀ s ∈ rt K i, s.term = false → 0 ≤ s.n) := by
                  intro i hi s hs ht
                  rw [rt_eq hi] at hs
                  have h := (HRU.out K[i] (List.getElem_mem hi)).2.2.2 s hs
                  unfold hasS at h
                  simp at h; exact h.1
                have HG0 : Hid (Grow K n L L) := Grow.refl HIT.out.nodup HIT.out.sound
                have HIN0 : Hid (∀ y ∈ L.take 0, ∀ s, (rt K y.1)[y.2.1]? = some s → s.term = false → s.n = (lf : Int) → y.2.2 + l ≤ n → (y.1, y.2.1 + 1, y.2.2 + l) ∈ L) := fun y hy => by simp at hy
                clear hall hsn hb7
                refine wp_region_still_tail 8 (by kernel_rfl) (by kernel_rfl) ?_
                simp only [List.take_succ_cons, List.take_zero, List.drop_succ_cons, List.drop_zero]
                change wpStill _ _ (World.drew _) _ _ _
                repeat still_step
                refine wpStill_nil ?_
                change wpList _ _ _ _ _ (World.drew _)
                go_upto_region 17 with fail
                rw [HW8.out]
                clear h0 h1 f1 y0 y1 y2 z0 z1 hdr7
                go_wp2_with fail
                go_loopg [77] L.length (fun gg v77 wr => ∃ (q : Nat) (L' : List (Nat × Nat × Nat)), q ≤ L.length ∧ L.length - q ≤ gg ∧ v77 = .int .i64 q ∧ Hid (MI w s n N G bt rb (fun k => k = ib ∨ k = rx) L' (p + 1) L ga oa C' wr) ∧ Hid (Grow K n L L') ∧ Hid (∀ y ∈ L.take q, ∀ s, (rt K y.1)[y.2.1]? = some s → s.term = false → s.n = (lf : Int) → y.2.2 + l ≤ n → (y.1, y.2.1 + 1, y.2.2 + l) ∈ L') ∧ Hid (wr.heap[ib]? = some (.cells #[.int .i64 i, .int .i64 d, .int .i64 l] 59 (0, 0))) ∧ Hid (wr.heap[rx]? = some (.cells #[.int .i64 lf, .slice av R.length cv] 32 (0, 0))))
                case atStart => exact ⟨0, L, by omega, by omega, rfl, HM9, HG0, HIN0, I8, R8⟩
                case round =>
                  clear HM9 HG0 HIN0 I8 R8 HM8
                  obtain ⟨wi, rfl⟩ : ∃ wi : World, wi = wr := ⟨_, rfl⟩
                  obtain ⟨q, L', hq, hgq, rfl, HMI, HGI, HIN, II, RI⟩ := hrel
                  by_cases hqL : q < L.length
                  · have hqL' : (q : Int) < (L.length : Int) := by omega
                    have hq0 : (0 : Int) ≤ (q : Int) := by omega
                    obtain ⟨⟨yi, yd, yl⟩, HYY⟩ := nameIt (L[q]'hqL)
                    obtain ⟨e0, e1, e2⟩ := HMI.out.read hqL HYY.out
                    have hyt := HIT.out.sound _ (List.getElem_mem hqL)
                    rw [HYY.out] at hyt
                    obtain ⟨hyt1, hyt2⟩ := hyt
                    simp only at hyt1 hyt2 e0 e1 e2
                    have HYT := Lib.hid hyt1
                    have hyK : yi < K.length := hyt1.lt
                    have hydR : yd ≤ (rt K yi).length := hyt1.dot
                    have HTKQ : Hid (∀ y ∈ L.take (q + 1), y ∈ L.take q ∨ y = (yi, yd, yl)) := by
                      intro y hy
                      rw [List.take_succ_eq_append_getElem hqL, HYY.out] at hy
                      simpa using hy
                    clear hyt1
                    obtain ⟨bq, rq, vrq, haq, -, hblq, g0, g1, hkq⟩ := HR.out.rule_at hyK
                    cases haq
                    have g2 := (HMI.out.bel.cell (p := ⟨b, ro + yi * 2 + 1, none⟩) (lt_of_cell g1)).trans g1
                    obtain ⟨aq, cq, rfl, -, hcq⟩ := hkq.form
                    rw [List.length_map] at g2 hkq
                    have hsq := (HRU.out K[yi] (List.getElem_mem hyK)).2.2.2
                    have hq4 := (HRU.out K[yi] (List.getElem_mem hyK)).2.2.1
                    have HRTY := Lib.hid (rt_eq hyK)
                    obtain ⟨Rq, HRQ⟩ := nameIt (K[yi]'hyK).right
                    rw [HRQ.out] at g2 hkq hsq hq4 HRTY
                    rw [HRTY.out] at hydR
                    have HSQ := Lib.hid hsq
                    obtain ⟨yb, HYB⟩ := nameIt wi.heap.size
                    obtain ⟨w9, HW9⟩ := nameIt (wi.alloc (.cells #[.int .i64 yi, .int .i64 yd, .int .i64 yl] 59))
                    have hb9 : Below wi.heap.size wi w9 := by rw [← HW9.out]; exact (Below.refl _ _).alloc (Nat.le_refl _) _
                    have Y9 : Hid (w9.heap[yb]? = some (.cells #[.int .i64 yi, .int .i64 yd, .int .i64 yl] 59 (0, 0))) := by rw [← HW9.out]; exact bx_new _ _ _ HYB.out.symm
                    have HM9 := Lib.hid (HMI.out.keep (X' := fun k => k = ib ∨ k = rx) hb9 (fun k hk => .inl hk))
                    have I9 := Lib.hid (bx_keep II.out hb9)
                    have R9 := Lib.hid (bx_keep RI.out hb9)
                    have HKQ := Lib.hid (hkq.below HM9.out.bel)
                    have g3 := (hb9.cell (p := ⟨b, ro + yi * 2 + 1, none⟩) (lt_of_cell g2)).trans g2
                    have hbx := HM9.out.gbox
                    rw [HG.out] at hbx
                    obtain ⟨x0, x1, x2, x3⟩ := bx_cells4 hbx
                    obtain ⟨y0, y1, y2⟩ := bx_cells3 Y9.out
                    obtain ⟨z0, z1⟩ := bx_cells2 R9.out
                    obtain ⟨i0, i1, i2⟩ := bx_cells3 I9.out
                    have hyK' : (yi : Int) < (K.length : Int) := by omega
                    have hy0 : (0 : Int) ≤ (yi : Int) := by omega
                    have HNXT : Hid (∀ (L2 : List (Nat × Nat × Nat)), (∀ x ∈ L', x ∈ L2) → ((∀ s, Rq[yd]? = some s → s.term = false → s.n = (lf : Int) → yl + l ≤ n → (yi, yd + 1, yl + l) ∈ L2)) → ∀ y ∈ L.take (q + 1), ∀ s, (rt K y.1)[y.2.1]? = some s → s.term = false → s.n = (lf : Int) → y.2.2 + l ≤ n → (y.1, y.2.1 + 1, y.2.2 + l) ∈ L2) := by
                      intro L2 h1 h2 y hy s hs ht hn hl
                      rcases HTKQ.out y hy with hy | rfl
                      · exact h1 _ (HIN.out y hy s hs ht hn hl)
                      · rw [show rt K (yi, yd, yl).1 = Rq from HRTY.out] at hs
                        exact h2 s hs ht hn hl
                    clear hb9 g0 g1 g2 hkq hsq hbx
                    go_upto_region 20 with fail
                    rw [HW9.out, HYB.out]
                    clear e0 e1 e2
                    go_upto_region 21 with fail
                    clear x0 x1 x2 x3 g3
                    by_cases hyl : yd < Rq.length
                    · have hyl' : decide (yd < Rq.length) = true := by simpa using hyl
                      have hyl2 : (yd : Int) < (Rq.length : Int) := by omega
                      have hyd0 : (0 : Int) ≤ (yd : Int) := by omega
                      obtain ⟨b', off', hae', -, hbl', d0, d1⟩ := HKQ.out.sym_at hyl
                      have HSD : Hid (Rq[yd]? = some (Rq[yd]'hyl)) := List.getElem?_eq_getElem hyl
                      have hsb := HSQ.out Rq[yd] (List.getElem_mem hyl)
                      obtain ⟨sy, HSY⟩ := nameIt (Rq[yd]'hyl)
                      rw [HSY.out] at d0 d1 HSD hsb
                      obtain ⟨st, HST⟩ := nameIt sy.term
                      obtain ⟨sn, HSN⟩ := nameIt sy.n
                      rw [HST.out] at d0
                      rw [HSN.out] at d1
                      subst hae'
                      by_cases hok : st = false ∧ sn = (lf : Int)
                      · obtain ⟨rfl, rfl⟩ := hok
                        have hlb : ((lf : Int) == (lf : Int)) = true := by simp
                        have hbd1 : (yd : Int) ≤ 4 := by omega
                        have hbd2 : (yl : Int) ≤ 400 := by omega
                        have hbd3 : (l : Int) ≤ 400 := by omega
                        have hbd4 : (0 : Int) ≤ (yl : Int) := by omega
                        have hbd5 : (0 : Int) ≤ (l : Int) := by omega
                        have hsw1 : IntKind.i64.wrap ((yd : Int) + 1) = (yd : Int) + 1 := IntWalk.i64_in _ (by omega)
                        have hsw2 : IntKind.i64.wrap ((yl : Int) + (l : Int)) = (yl : Int) + (l : Int) := IntWalk.i64_in _ (by omega)
                        have HSW1 := Lib.hid hsw1
                        have HSW2 := Lib.hid hsw2
                        clear hsw1 hsw2
                        go_quiet (fail)
                        obtain ⟨wz, HWZ⟩ := nameIt (w9.drewN nq)
                        rw [HWZ.out]
                        have hbz : Below w9.heap.size w9 wz := by rw [← HWZ.out]; exact below_drewN _ _
                        have HMZ := Lib.hid (HM9.out.keep (X' := fun k => k = ib ∨ k = rx) hbz (fun k hk => .inl hk))
                        have IZ := Lib.hid (bx_keep I9.out hbz)
                        have RZ := Lib.hid (bx_keep R9.out hbz)
                        have YZ := Lib.hid (bx_keep Y9.out hbz)
                        have hcall := addMI HMZ.out (i := yi) (d := yd + 1) (l := yl + l) (d' := (yd : Int) + 1) (l' := (yl : Int) + (l : Int)) (by omega) (by omega) (by omega) (by omega) (by omega) hn (by have := HGI.out.len hg7 HRT4.out hn; omega)
                        have HC := Lib.hid hcall
                        clear hcall hbz y0 y1 y2 z0 z1 i0 i1 i2 d0 d1
                        obtain ⟨y0, y1, y2⟩ := bx_cells3 YZ.out
                        obtain ⟨i0, i1, i2⟩ := bx_cells3 IZ.out
                        go_wp2_with fail
                        (with_reducible refine HC.out.mono ?_)
                        rintro e wa ⟨rfl, hai⟩
                        have HMA := Lib.hid (HMZ.out.call hai)
                        have IA : Hid (wa.heap[ib]? = some (.cells #[.int .i64 i, .int .i64 d, .int .i64 l] 59 (0, 0))) := (hai.px ib (.inl rfl)).2.trans IZ.out
                        have RA : Hid (wa.heap[rx]? = some (.cells #[.int .i64 lf, .slice av R.length cv] 32 (0, 0))) := (hai.px rx (.inr rfl)).2.trans RZ.out
                        have HGA := Lib.hid (HGI.out.add (x := (yi, yd + 1, yl + l)) (.non HYT.out (by rw [HRTY.out]; exact HSD.out) HST.out (by have h := HITX.out; rw [hdl, ← HRTX.out] at h; exact h) (by rw [HLF.out, HSN.out])))
                        have HIA := Lib.hid (HNXT.out (addL n L' (yi, yd + 1, yl + l)) (fun x hx => mem_addL_old hx) (fun s _ _ _ hl => mem_addL hl))
                        clear hai
                        go_wp2_with fail
                        go_roundg (L.length - (q + 1))
                        case measure => omega
                        case rel => exact ⟨q + 1, _, by omega, by omega, by go_num, HMA, HGA, HIA, IA, RA⟩
                      · have HIA : Hid (∀ y ∈ L.take (q + 1), ∀ s, (rt K y.1)[y.2.1]? = some s → s.term = false → s.n = (lf : Int) → y.2.2 + l ≤ n → (y.1, y.2.1 + 1, y.2.2 + l) ∈ L') := HNXT.out L' (fun x hx => hx) (fun s hs ht hn' _ => absurd ⟨by rw [← HST.out, ← ht]; rw [HSD.out] at hs; cases hs; rfl, by rw [← HSN.out, ← hn']; rw [HSD.out] at hs; cases hs; rfl⟩ hok)
                        cases st with
                        | true =>
                          clear hok
                          go_quiet (fail)
                          have HMA := Lib.hid (HM9.out.keep (X' := fun k => k = ib ∨ k = rx) (below_drewN w9 nq) (fun k hk => .inl hk))
                          have IA := Lib.hid (bx_keep I9.out (below_drewN w9 nq))
                          have RA := Lib.hid (bx_keep R9.out (below_drewN w9 nq))
                          go_wp2_with fail
                          go_roundg (L.length - (q + 1))
                          case measure => omega
                          case rel => exact ⟨q + 1, L', by omega, by omega, by go_num, HMA, HGI, HIA, IA, RA⟩
                        | false =>
                          have hlb : (sn == (lf : Int)) = false := by simpa using hok
                          clear hok
                          go_quiet (fail)
                          have HMA := Lib.hid (HM9.out.keep (X' := fun k => k = ib ∨ k = rx) (below_drewN w9 nq) (fun k hk => .inl hk))
                          have IA := Lib.hid (bx_keep I9.out (below_drewN w9 nq))
                          have RA := Lib.hid (bx_keep R9.out (below_drewN w9 nq))
                          go_wp2_with fail
                          go_roundg (L.length - (q + 1))
                          case measure => omega
                          case rel => exact ⟨q + 1, L', by omega, by omega, by go_num, HMA, HGI, HIA, IA, RA⟩
                    · have hyl' : decide (yd < Rq.length) = false := by simpa using hyl
                      have HIA : Hid (∀ y ∈ L.take (q + 1), ∀ s, (rt K y.1)[y.2.1]? = some s → s.term = false → s.n = (lf : Int) → y.2.2 + l ≤ n → (y.1, y.2.1 + 1, y.2.2 + l) ∈ L') := HNXT.out L' (fun x hx => hx) (fun s hs _ _ _ => absurd (List.getElem?_eq_some_iff.1 hs).1 hyl)
                      go_quiet (fail)
                      have HMA := Lib.hid (HM9.out.keep (X' := fun k => k = ib ∨ k = rx) (below_drewN w9 nq) (fun k hk => .inl hk))
                      have IA := Lib.hid (bx_keep I9.out (below_drewN w9 nq))
                      have RA := Lib.hid (bx_keep R9.out (below_drewN w9 nq))
                      go_wp2_with fail
                      go_roundg (L.length - (q + 1))
                      case measure => omega
                      case rel => exact ⟨q + 1, L', by omega, by omega, by go_num, HMA, HGI, HIA, IA, RA⟩
                  · have hqL' : ¬ (q : Int) < (L.length : Int) := by omega
                    have HITN : Hid (Items K n L' (p + 1) C') := HIT.out.full_new hpl HXX.out (by rw [HRTX.out]; exact hdl) (by rw [HLF.out]; omega) HPOS.out HGI.out (fun y hy s h1 h2 h3 h4 => HIN.out y (by rw [List.take_of_length_le (by omega)]; exact hy) s h1 h2 (by rw [h3, HLF.out]) h4) (fun a b => by rw [HC'.out, HLF.out]; simp)
                    have HMN := Lib.hid (HMI.out.unsnap.drop (X' := fun _ => False) (fun k hk => hk.elim))
                    have hll : p + 1 ≤ L'.length := by have := HGI.out.pre.length_le; omega
                    go_wp2_with fail
                    go_roundg (64160 - (p + 1))
                    case measure => omega
                    case rel => exact ⟨p + 1, L', C', hll, by omega, HMN, HITN⟩
            · have hdl' : ((d : Int) == (R.length : Int)) = false := by simp; omega
              have hdR2 : d < R.length := by omega
              have hdR3 : (d : Int) < (R.length : Int) := by omega
              have hd0 : (0 : Int) ≤ (d : Int) := by omega
              obtain ⟨b', off', hae', -, hbl', d0, d1⟩ := (HKR.out.below (show Below w5.heap.size w5 w6 by rw [← HW6.out]; exact (Below.refl _ _).alloc (Nat.le_refl _) _)).sym_at hdR2
              have HSD : Hid ((rt K i)[d]? = some (R[d]'hdR2)) := by
                show _ = _
                rw [HRTX.out]; exact List.getElem?_eq_getElem hdR2
              have hsb := HL3.out R[d] (List.getElem_mem hdR2)
              obtain ⟨sy, HSY⟩ := nameIt (R[d]'hdR2)
              rw [HSY.out] at d0 d1 HSD hsb
              unfold hasS at hsb
              rw [HNN.out, HGT.out] at hsb
              obtain ⟨st, HST⟩ := nameIt sy.term
              obtain ⟨sn, HSN⟩ := nameIt sy.n
              rw [HST.out] at d0 hsb
              rw [HSN.out] at d1 hsb
              obtain ⟨w7, HW7⟩ := nameIt (w6.alloc (.cells #[.bool st, .int .i64 sn] 42))
              obtain ⟨sx, HSX⟩ := nameIt w6.heap.size
              have hb7 : Below w6.heap.size w6 w7 := by rw [← HW7.out]; exact (Below.refl _ _).alloc (Nat.le_refl _) _
              have hs7 : w7.heap.size = w6.heap.size + 1 := by rw [← HW7.out]; simp
              have S7 : Hid (w7.heap[sx]? = some (.cells #[.bool st, .int .i64 sn] 42 (0, 0))) := by rw [← HW7.out]; exact bx_new _ _ _ HSX.out.symm
              have HM7 : Hid (MI w s n N G bt rb (fun k => k = ib ∨ k = rx ∨ k = sx) L (p + 1) [] 0 0 C w7) := HM6.out.keep hb7 (fun k hk => by
                rcases hk with e | e | e
                · exact .inl (.inl e)
                · exact .inl (.inr e)
                · exact .inr (by have := HSX.out; omega))
              have I7 := Lib.hid (bx_keep I6.out hb7)
              have R7 := Lib.hid (bx_keep R6.out hb7)
              subst hae'
              clear hb7 hs7
              go_upto_region 25 with fail
              rw [HW7.out, HSX.out]
              clear y0 y1 y2 z0 z1 d0 d1
              obtain ⟨y0, y1, y2⟩ := bx_cells3 I7.out
              obtain ⟨s0, s1⟩ := bx_cells2 S7.out
              have HG0 : Hid (Grow K n L L) := Grow.refl HIT.out.nodup HIT.out.sound
              cases st with
              | true =>
                have hbd1 : (d : Int) ≤ 4 := by omega
                have hbd2 : (l : Int) ≤ 400 := by omega
                have hbd3 : (0 : Int) ≤ (l : Int) := by omega
                have hcall := addMI HM7.out (i := i) (d := d + 1) (l := l + 1) (d' := (d : Int) + 1) (l' := (l : Int) + 1) (by omega) (by omega) (by omega) (by omega) (by omega) hn (by omega)
                have HC := Lib.hid hcall
                have HITN : Hid (Items K n (addL n L (i, d + 1, l + 1)) (p + 1) C) := HIT.out.termN hpl HXX.out HSD.out HST.out
                have hll : p + 1 ≤ (addL n L (i, d + 1, l + 1)).length := by
                  have := (HG0.out.add (x := (i, d + 1, l + 1)) (.term HITX.out HSD.out HST.out)).pre.length_le; omega
                clear hcall
                go_wp2_with fail
                (with_reducible refine HC.out.mono ?_)
                rintro e wa ⟨rfl, hai⟩
                have HMN := Lib.hid ((HM7.out.call hai).drop (X' := fun _ => False) (fun k hk => hk.elim))
                obtain ⟨L2, HL2⟩ := nameIt (addL n L (i, d + 1, l + 1))
                rw [HL2.out] at HMN HITN hll
                clear hai
                go_wp2_with fail
                go_roundg (64160 - (p + 1))
                case measure => omega
                case rel => exact ⟨p + 1, L2, C, hll, by omega, HMN, HITN⟩
              | false =>
                simp at hsb
                obtain ⟨hsb0, hsb1⟩ := hsb
                obtain ⟨an, han⟩ : ∃ a : Nat, sn = (a : Int) := ⟨sn.toNat, by omega⟩
                subst han
                have hanN : an < N := by omega
                have han0 : (0 : Int) ≤ (an : Int) := by omega
                have han1 : (an : Int) < (N : Int) := by omega
                have h0 := HM7.out.can.hdr hanN hanN
                obtain ⟨ra, HRA⟩ := nameIt (rb an)
                rw [HRA.out] at h0
                have HIN0 : Hid (∀ k, k < 0 → C an k = true → l + k ≤ n → (i, d + 1, l + k) ∈ L) := fun k hk => by omega
                go_wp2_with fail
                clear y0 y1 y2 s0 s1 h0
                go_loopg [152] (n + 1) (fun gg v152 wr => ∃ (q : Nat) (L' : List (Nat × Nat × Nat)), q ≤ n + 1 ∧ n + 1 - q ≤ gg ∧ v152 = .int .i64 q ∧ Hid (MI w s n N G bt rb (fun k => k = ib ∨ k = rx ∨ k = sx) L' (p + 1) [] 0 0 C wr) ∧ Hid (Grow K n L L') ∧ Hid (∀ k, k < q → C an k = true → l + k ≤ n → (i, d + 1, l + k) ∈ L') ∧ Hid (wr.heap[ib]? = some (.cells #[.int .i64 i, .int .i64 d, .int .i64 l] 59 (0, 0))))
                case atStart => exact ⟨0, L, by omega, by omega, rfl, HM7, HG0, HIN0, I7⟩
                case round =>
                  clear HM7 HG0 HIN0 I7 R7 S7
                  obtain ⟨wi, rfl⟩ : ∃ wi : World, wi = wr := ⟨_, rfl⟩
                  obtain ⟨q, L', hq, hgq, rfl, HMI, HGI, HIN, II⟩ := hrel
                  by_cases hqn : q < n + 1
                  · have hqn' : (q : Int) < (n : Int) + 1 := by omega
                    have hq0 : (0 : Int) ≤ (q : Int) := by omega
                    have h1 := HMI.out.can.cell hanN hanN (j := q) hqn
                    rw [HRA.out] at h1
                    obtain ⟨cb, HCB⟩ := nameIt (C an q)
                    rw [HCB.out] at h1
                    obtain ⟨y0, y1, y2⟩ := bx_cells3 II.out
                    cases cb with
                    | true =>
                      have hbd1 : (d : Int) ≤ 4 := by omega
                      have hbd2 : (l : Int) ≤ 400 := by omega
                      have hbd3 : (0 : Int) ≤ (l : Int) := by omega
                      have hbd4 : (q : Int) ≤ 400 := by omega
                      have hcall := addMI HMI.out (i := i) (d := d + 1) (l := l + q) (d' := (d : Int) + 1) (l' := (l : Int) + (q : Int)) (by omega) (by omega) (by omega) (by omega) (by omega) hn (by have := HGI.out.len hg7 HRT4.out hn; omega)
                      have HC := Lib.hid hcall
                      have HGA := Lib.hid (HGI.out.add (x := (i, d + 1, l + q)) (HIT.out.nonIt HITX.out HSD.out HST.out (by rw [HSN.out]; exact han0) (by rw [HSN.out]; simpa using HCB.out)))
                      have HIA : Hid (∀ k, k < q + 1 → C an k = true → l + k ≤ n → (i, d + 1, l + k) ∈ addL n L' (i, d + 1, l + q)) := by
                        intro k hk hc hl
                        by_cases e : k = q
                        · subst e; exact mem_addL hl
                        · exact mem_addL_old (HIN.out k (by omega) hc hl)
                      obtain ⟨L2, HL2⟩ := nameIt (addL n L' (i, d + 1, l + q))
                      clear hcall
                      go_wp2_with fail
                      (with_reducible refine HC.out.mono ?_)
                      rintro e wa ⟨rfl, hai⟩
                      have HMA := Lib.hid (HMI.out.call hai)
                      have IA : Hid (wa.heap[ib]? = some (.cells #[.int .i64 i, .int .i64 d, .int .i64 l] 59 (0, 0))) := (hai.px ib (.inl rfl)).2.trans II.out
                      rw [HL2.out] at HMA HGA HIA
                      clear hai
                      go_wp2_with fail
                      go_roundg (n + 1 - (q + 1))
                      case measure => omega
                      case rel => exact ⟨q + 1, L2, by omega, by omega, by go_num, HMA, HGA, HIA, IA⟩
                    | false =>
                      have HIA : Hid (∀ k, k < q + 1 → C an k = true → l + k ≤ n → (i, d + 1, l + k) ∈ L') := by
                        intro k hk hc hl
                        by_cases e : k = q
                        · subst e; rw [HCB.out] at hc; cases hc
                        · exact HIN.out k (by omega) hc hl
                      go_wp2_with fail
                      go_roundg (n + 1 - (q + 1))
                      case measure => omega
                      case rel => exact ⟨q + 1, L', by omega, by omega, by go_num, HMI, HGI, HIA, II⟩
                  · have hqn' : ¬ (q : Int) < (n : Int) + 1 := by omega
                    have HITN : Hid (Items K n L' (p + 1) C) := HIT.out.nonN hpl HXX.out HSD.out HST.out HGI.out (fun k hk hc hl => HIN.out k (by omega) (by rw [HSN.out] at hc; simpa using hc) hl)
                    have HMN := Lib.hid (HMI.out.drop (X' := fun _ => False) (fun k hk => hk.elim))
                    have hll : p + 1 ≤ L'.length := by have := HGI.out.pre.length_le; omega
                    go_wp2_with fail
                    go_roundg (64160 - (p + 1))
                    case measure => omega
                    case rel => exact ⟨p + 1, L', C, hll, by omega, HMN, HITN⟩
        · obtain ⟨va, vq, r1, r2, r3⟩ := HM.out.ai.rows
          have hq0 : (L.drop p).length = 0 := by rw [List.length_drop]; omega
          obtain ⟨aq, cq, hvq, hq1, hq2⟩ := r3.row.form
          rw [hq0] at hvq
          subst hvq
          have c3 := bx_cells1 r2
          have HE : Hid (∀ a k, a < N → k ≤ n → (C a k = true ↔ Has K (a : Int) k)) := fun a k _ hk => items_right HIT.out (by omega) hk
          clear r1 r2 r3 hq0 hq1 hq2
          go_wp2_with fail
          go_ret
          exact HFIN.out bt rb C wo (Grd.base HM.out.can (by omega)) HE.out HM.out.bel
end Ln
end Go.Proofs.Ytmbjnemahgfhcaa
namespace Go.Proofs.Ytmbjnemahgfhcaa
open Go.RowKit
namespace Cs

theorem inv_setc {md : Region.Mode} {ops : Array Oper} {n i : Nat} {listed : Array Bool} (inv : HeadInv md ops n listed) (hr : (Region.ready md ops listed).contains i = true) (hin : i < n) : HeadInv md ops n (listed.setIfInBounds i true) := inv.set (by simpa using hr) hin
end Cs
end Go.Proofs.Ytmbjnemahgfhcaa
namespace Go.Proofs.Ytmbjnemahgfhcaa
open Go.RowKit

end Go.Proofs.Ytmbjnemahgfhcaa
namespace Go.Proofs.Ytmbjnemahgfhcaa
open Go.RowKit
namespace Cs

/-- what a checked grammar has -/
structure OkC (g : Gram) (N : Nat) : Prop where
  nons : g.nons = (N : Int)
  n1 : 1 ≤ N
  n2 : N ≤ 10
  s0 : 0 ≤ g.start
  s1 : g.start < (N : Int)
  r : okR N g
  l : okL N g
  len : g.rules.length ≤ 32
theorem okC_of {g : Gram} (h : checkG g = 0) : ∃ N, OkC g N := by
  unfold checkG at h
  by_cases hb : badHead g = true
  · rw [if_pos hb] at h; cases h
  · rw [if_neg hb] at h
    by_cases hl : 32 < g.rules.length
    · rw [if_pos hl] at h; cases h
    · rw [if_neg hl] at h
      have hz := faultsFrom_zero h
      unfold badHead at hb
      simp only [Bool.or_eq_true, decide_eq_true_eq, not_or] at hb
      obtain ⟨⟨⟨⟨⟨b1, b2⟩, b3⟩, b4⟩, b5⟩, b6⟩ := hb
      refine ⟨g.nons.toNat, by omega, by omega, by omega, by omega, by omega, fun r hr s hs ht => ?_, fun r hr => ?_, by omega⟩
      · have := (hz r hr).2.2.2 s hs
        unfold hasS at this
        rw [ht] at this
        simp at this
        omega
      · have := hz r hr
        omega
def errC (g : Gram) (n : Int) : Int := if checkG g ≠ 0 then checkG g else if n < 0 ∨ 24 < n then 1 else 0

end Cs
end Go.Proofs.Ytmbjnemahgfhcaa
namespace Go.Proofs.Ytmbjnemahgfhcaa
open Go.RowKit
namespace Cs

/-- which nodes of the same length are led to -/
def same (T : Nat → Nat → Bool) (N n A k : Nat) : Nat := ((List.range N).filter fun B => T (A * (n + 1) + k) (B * (n + 1) + k)).length
theorem filter_lt {P Q : Nat → Bool} {v : Nat} (hPQ : ∀ w, P w = true → Q w = true) (hv : Q v = true) (hv' : P v = false) (N : Nat) (h : v < N) : ((List.range N).filter P).length < ((List.range N).filter Q).length := by
  have key : ∀ n, ((List.range n).filter P).length + (if v < n then 1 else 0) ≤ ((List.range n).filter Q).length := by
    intro n
    induction n with
    | zero => simp
    | succ n ih =>
      rw [List.range_succ, List.filter_append, List.filter_append, List.length_append, List.length_append]
      by_cases e : v = n
      · subst e
        rw [if_neg (by omega)] at ih
        rw [if_pos (by omega)]
        simp [hv, hv'] at ih ⊢
        exact ih
      · have e2 : (if v < n + 1 then 1 else 0) = (if v < n then 1 else 0) := by
          by_cases h : v < n
          · rw [if_pos h, if_pos (by omega)]
          · rw [if_neg h, if_neg (by omega)]
        rw [e2]
        cases h : P n with
        | false => simp [h]; omega
        | true =>
          have := hPQ n h
          simp [h, this]; omega
  have := key N
  rw [if_pos h] at this
  omega
section
variable {rules : List Rule} {S : Nat → Nat → Bool} {N n : Nat}
end
end Cs
end Go.Proofs.Ytmbjnemahgfhcaa
namespace Go.Proofs.Ytmbjnemahgfhcaa
open Go.RowKit
namespace Cs

section
variable {g : Gram} {vr : Value} {N n : Nat} {d : Cid} {S M : Nat → Nat → Bool} {V : Nat → Nat → Int} {w0 : World} {C : Nat → Nat → Int} {W W' : World}
theorem own_fr {B : Nat} {e : TypeId} {s : Nat} {v : Value} {k : Nat} {xs : List Value} (h : W.ownsRow B e s v k xs) (hf : Fr N d W W') (hr : ∀ a, a < N → d.rc a < B) : W'.ownsRow B e s v k xs := by
  obtain ⟨h1, h2⟩ := h
  refine ⟨h1, ?_⟩
  rcases h2 with h2 | ⟨b, cap, cur, rfl, hg, hh, r⟩
  · exact .inl h2
  · exact .inr ⟨b, cap, cur, rfl, hg, (hf.block b (Array.getElem?_eq_some_iff.1 hh).1 (fun a ha e => by have := hr a ha; omega)).trans hh, r⟩
theorem RowD.fr {B : Nat} {e : TypeId} {s : Nat} {ds : List D} {v : Value} (h : RowD (fun k => B ≤ k) B e s ds v W) (hf : Fr N d W W') (hr : ∀ a, a < N → d.rc a < B) : RowD (fun k => B ≤ k) B e s ds v W' := by
  obtain ⟨⟨xs, h1, h2⟩, h3⟩ := h
  exact ⟨⟨xs, own_fr h1 hf hr, RdAll.keep (fun k hk hl => ⟨hk, hf.block k hl (fun a ha e => by have := hr a ha; omega)⟩) _ _ h2⟩, Nat.le_trans h3 hf.size⟩
theorem CI.low (h : CI g vr N n d S M C W) (hs : ∀ k, k ≤ d.cb → W'.heap[k]? = W.heap[k]?) : CI g vr N n d S M C W' := by
  obtain ⟨⟨T, h1⟩, h2, h3, h4, h5⟩ := h
  have p2 := h2.pl
  have p3 := h3.pl
  have p4 := h4.pl
  exact ⟨⟨T, (hs _ (Nat.le_refl _)).trans h1⟩, h2.other fun k _ hk => hs k (by omega), h3.other fun k _ hk => hs k (by omega), h4.other fun k _ hk => hs k (by omega), h5⟩
theorem CS.keepB {B : Nat} (h : CS g vr N n d S M V w0 C W) (hb : Below B W W') (hB : d.cb < B) : CS g vr N n d S M V w0 C W' := by
  have p2 := h.ci.some'.pl
  have p3 := h.ci.many.pl
  have p4 := h.ci.cnt.pl
  have p5 := h.ci.le
  have p6 := h.lo
  exact ⟨h.ci.low fun k hk => hb.block k (by omega), h.cv, h.bel.trans (hb.mono (by omega)), h.lo⟩
theorem CS.rlt (h : CS g vr N n d S M V w0 C W) {B : Nat} (hB : d.cb < B) : ∀ a, a < N → d.rc a < B := fun a ha => Nat.lt_trans (h.rc a ha).2 hB
end
/-- the numbers of trees of a nonterminal -/
def tC (g : Gram) (S : Nat → Nat → Bool) (N n A k : Nat) : Int := symV S (valK g.rules S (MK g.rules S N n) MaxC (-1) (sizeK N n)) ⟨false, (A : Int)⟩ k
def rowC (g : Gram) (S : Nat → Nat → Bool) (N n A k : Nat) : List Int := (List.range k).map (tC g S N n A)
def tabC (g : Gram) (S : Nat → Nat → Bool) (N n A : Nat) : List (List Int) := (List.range A).map fun a => rowC g S N n a (n + 1)
theorem rowC_next (g : Gram) (S : Nat → Nat → Bool) (N n A k : Nat) : rowC g S N n A (k + 1) = rowC g S N n A k ++ [tC g S N n A k] := by unfold rowC; rw [List.range_succ, List.map_append]; rfl
theorem tabC_next (g : Gram) (S : Nat → Nat → Bool) (N n A : Nat) : tabC g S N n (A + 1) = tabC g S N n A ++ [rowC g S N n A (n + 1)] := by unfold tabC; rw [List.range_succ, List.map_append]; rfl
theorem rowC_len (g : Gram) (S : Nat → Nat → Bool) (N n A k : Nat) : (rowC g S N n A k).length = k := by simp [rowC]
theorem tabC_len (g : Gram) (S : Nat → Nat → Bool) (N n A : Nat) : (tabC g S N n A).length = A := by simp [tabC]
/-- the counter's lengths -/
def DoneC (g : Gram) (n : Nat) (S : Nat → Nat → Bool) : Prop := (∃ q, S = itP n g.rules q (fun _ _ => false)) ∧ (p3 n g.rules S).2 = false
/-- while the table is made -/
structure TI (g : Gram) (vr : Value) (N n : Nat) (d : Cid) (S : Nat → Nat → Bool) (w1 : World) (B A : Nat) (v : Value) (W : World) : Prop where
  cs : ∃ C, CS g vr N n d S (MK g.rules S N n) (valK g.rules S (MK g.rules S N n) MaxC (-1) (sizeK N n)) w1 C W
  row : RowD (fun k => B ≤ k) B 36 1 ((tabC g S N n A).map D.ints) v W
  cb : d.cb < B
structure TJ (g : Gram) (vr : Value) (N n : Nat) (d : Cid) (S : Nat → Nat → Bool) (w1 w3 : World) (A k : Nat) (v : Value) (W : World) : Prop where
  cs : ∃ C, CS g vr N n d S (MK g.rules S N n) (valK g.rules S (MK g.rules S N n) MaxC (-1) (sizeK N n)) w1 C W
  row : W.ownsRow w3.heap.size 3 1 v k (ints (rowC g S N n A k))
  fr : Fr N d w3 W
  cb : d.cb < w3.heap.size
section
variable {g : Gram} {vr : Value} {N n : Nat} {d : Cid} {S : Nat → Nat → Bool} {w1 w3 W W' : World} {B A k : Nat} {v u : Value}
theorem TJ.keep (h : TJ g vr N n d S w1 w3 A k v W) (hb : Below W.heap.size W W') : TJ g vr N n d S w1 w3 A k v W' := by
  obtain ⟨C, hc⟩ := h.cs
  exact ⟨⟨C, hc.keep hb⟩, own_keep h.row hb, h.fr.trans (Fr.of hb), h.cb⟩
/-- behind the count -/
theorem TJ.of (h : TJ g vr N n d S w1 w3 A k v W) (hf : Fr N d W W') (hc : ∃ C, CS g vr N n d S (MK g.rules S N n) (valK g.rules S (MK g.rules S N n) MaxC (-1) (sizeK N n)) w1 C W') : TJ g vr N n d S w1 w3 A k v W' := by
  obtain ⟨C, hc0⟩ := h.cs
  exact ⟨hc, own_fr h.row hf (hc0.rlt h.cb), h.fr.trans hf, h.cb⟩
theorem TJ.add {v' : Value} (h : TJ g vr N n d S w1 w3 A k v W) (ho : W'.ownsRow w3.heap.size 3 1 v' (k + 1) (ints (rowC g S N n A k) ++ [.int .i64 (tC g S N n A k)])) (hg : W.grownBy W' v.ownBlock) : TJ g vr N n d S w1 w3 A (k + 1) v' W' := by
  obtain ⟨C, hc⟩ := h.cs
  have hlt := h.row.lt
  have hs := h.fr.size
  refine ⟨⟨C, hc.keepB (B := w3.heap.size) ((Below.refl _ _).grown hg hs (fun k e => (hlt k e).1)) h.cb⟩, ?_, ?_, h.cb⟩
  · rw [rowC_next]; simpa [ints] using ho
  · exact ⟨hg.os.trans h.fr.os, hg.tape.trans h.fr.tape, hg.output.trans h.fr.output, Nat.le_trans hs hg.size, fun j hj hn => (hg.block j (by omega) (fun e => by have := (hlt j e.symm).1; omega)).trans (h.fr.block j hj hn)⟩
theorem TI.keep (h : TI g vr N n d S w1 B A v W) (hb : Below W.heap.size W W') : TI g vr N n d S w1 B A v W' := by
  obtain ⟨C, hc⟩ := h.cs
  exact ⟨⟨C, hc.keep hb⟩, h.row.keep hb, h.cb⟩
theorem TI.start (h : TI g vr N n d S w1 B A v w3) : TJ g vr N n d S w1 w3 A 0 (.slice none 0 0) w3 := by
  have := h.row.le
  have := h.cb
  exact ⟨h.cs, World.ownsRow_nil _ _ _ _, Fr.refl _ _ _, by omega⟩
/-- a row is done: what the append of it finds -/
theorem TI.fin (h : TI g vr N n d S w1 B A v w3) (hj : TJ g vr N n d S w1 w3 A k u W) : RowD (fun k => B ≤ k) B 36 1 ((tabC g S N n A).map D.ints) v W := by
  obtain ⟨C, hc⟩ := h.cs
  exact RowD.fr h.row hj.fr (hc.rlt h.cb)
theorem TI.add {v' : Value} {xs : List Value} (h : TI g vr N n d S w1 B A v w3) (hj : TJ g vr N n d S w1 w3 A (n + 1) u W) (h1 : W.ownsRow B 36 1 v A xs) (h2 : RdAll (fun k => B ≤ k ∧ v.ownBlock ≠ some k) W ((tabC g S N n A).map D.ints) xs)
    (ho : W'.ownsRow B 36 1 v' (A + 1) (xs ++ [u])) (hg : W.grownBy W' v.ownBlock) (hat : v'.ownBlock = v.ownBlock ∨ ∃ k, v'.ownBlock = some k ∧ W.heap.size ≤ k) : TI g vr N n d S w1 B (A + 1) v' W' := by
  obtain ⟨C, hc⟩ := hj.cs
  have hle := h.row.le
  have hs := hj.fr.size
  have hlt : ∀ k, v.ownBlock = some k → B ≤ k ∧ k < w3.heap.size := by
    obtain ⟨xs', o1, o2⟩ := h.row.own
    exact o1.lt
  refine ⟨⟨C, hc.keepB (B := B) ((Below.refl _ _).grown hg (by omega) (fun k e => (hlt k e).1)) h.cb⟩, ?_, h.cb⟩
  rw [tabC_next, List.map_append]
  have hrd : Rd (fun k => w3.heap.size ≤ k) W (D.ints (rowC g S N n A (n + 1))) [u] := rd_of_own hj.row ((rdAll_ints _ _).2 rfl) (by simp [rowC_len]) (fun k e => (hj.row.lt k e).1)
  exact RowD.step (es := [D.ints (rowC g S N n A (n + 1))]) h1 h2 (by rw [List.length_map, tabC_len]) (RdAll.one hrd) (fun k hk _ => ⟨by omega, fun e => by have := (hlt k e).2; omega⟩) (by omega) (by simpa using ho) hg hat
end

/-- the table of the numbers of trees, or an error -/
def TreesPost (g : Gram) (n : Int) (w : World) (e : Ending) (w' : World) : Prop :=
  Below w.heap.size w w' ∧ ((errC g n ≠ 0 ∧ e = .returned (.tuple #[.slice none 0 0, .int .i64 (errC g n)])) ∨
    (errC g n = 0 ∧ ∃ (N n' : Nat) (S : Nat → Nat → Bool) (a : Option Addr) (c : Nat), OkC g N ∧ n = (n' : Int) ∧ n' ≤ 24 ∧ DoneC g n' S ∧ e = .returned (.tuple #[.slice a N c, .int .i64 0]) ∧ Rd AnyB w' (.sl ((tabC g S N n' N).map D.ints)) [.slice a N c]))
end Cs
end Go.Proofs.Ytmbjnemahgfhcaa
namespace Go.Proofs.Ytmbjnemahgfhcaa
open Go.RowKit
namespace Cs

end Cs
end Go.Proofs.Ytmbjnemahgfhcaa
namespace Go.Proofs.Ytmbjnemahgfhcaa
open Go.RowKit
namespace Cs

/-- a counter in memory that may count -/
def CntR (g : Gram) (vr : Value) (N n : Nat) (d : Cid) (S : Nat → Nat → Bool) (w1 : World) (W : World) : Prop :=
  ∃ C, CS g vr N n d S (MK g.rules S N n) (valK g.rules S (MK g.rules S N n) MaxC (-1) (sizeK N n)) w1 C W
end Cs
end Go.Proofs.Ytmbjnemahgfhcaa
namespace Go.Proofs.Ytmbjnemahgfhcaa
open Go.RowKit

/-- the word of a list of nodes -/
def leavesOf (l : List Tree) : List Int := l.filterMap fun t => if t.rule = -1 then some t.term else none
def rulesOf (l : List Tree) : List Int := l.map Tree.rule
end Go.Proofs.Ytmbjnemahgfhcaa
namespace Go.Proofs.Ytmbjnemahgfhcaa
open Go.RowKit
namespace Cs

/-- how many leaves a tree has -/
def wl (t : Tree) : Nat := (leavesOf (nodes t)).length
/-- every node of a tree is valid -/
def OkT (g : Gram) (t : Tree) : Prop := ∀ x ∈ nodes t, nodeOk g x = true
theorem OkT.kid {g : Gram} {t : Tree} (h : OkT g t) (hr : t.rule ≠ -1) {k : Tree} (hk : k ∈ t.kids) : OkT g k := by
  intro x hx
  refine h x ?_
  rw [nodes_eq]
  refine List.mem_cons_of_mem _ ?_
  unfold kidsOf
  rw [if_neg hr]
  obtain ⟨i, hi, rfl⟩ := List.getElem_of_mem hk
  rw [nodesL_split hi]
  exact List.mem_append_right _ (List.mem_append_left _ hx)
theorem OkT.size {t : Tree} (hr : t.rule ≠ -1) {i : Nat} (hi : i < t.kids.length) : (nodes t.kids[i]).length < (nodes t).length := by
  rw [nodes_eq t]
  unfold kidsOf
  rw [if_neg hr, nodesL_split hi]
  simp
  omega
theorem OkT.cases {g : Gram} {t : Tree} (h : OkT g t) : t.rule = -1 ∨ ∃ (j : Nat) (hj : j < g.rules.length), t.rule = (j : Int) ∧ t.kids.length = g.rules[j].right.length := by
  have h0 := h t (by rw [nodes_eq]; exact List.mem_cons_self)
  unfold nodeOk at h0
  by_cases h1 : t.rule = -1
  · exact .inl h1
  · rw [if_neg h1] at h0
    by_cases h2 : t.rule < 0
    · rw [if_pos h2] at h0; cases h0
    · rw [if_neg h2] at h0
      obtain ⟨j, hj⟩ := Int.eq_ofNat_of_zero_le (show 0 ≤ t.rule by omega)
      rw [hj, Int.toNat_natCast] at h0
      cases hg : g.rules[j]? with
      | none => rw [hg] at h0; cases h0
      | some r =>
        rw [hg] at h0
        obtain ⟨hjl, rfl⟩ := List.getElem?_eq_some_iff.1 hg
        simp only [Bool.and_eq_true, kidsOk, decide_eq_true_eq] at h0
        exact .inr ⟨j, hjl, hj, h0.2.1⟩
/-- the counter between calls; blocks of Wb but the counts stay -/
structure NI (g : Gram) (vr : Value) (N n : Nat) (d : Cid) (S : Nat → Nat → Bool) (w1 Wb W : World) : Prop where
  cs : CntR g vr N n d S w1 W
  fr : Fr N d Wb W
section
variable {g : Gram} {vr : Value} {N n : Nat} {d : Cid} {S : Nat → Nat → Bool} {w1 Wb W W' : World}
theorem CntR.keep (h : CntR g vr N n d S w1 W) (hb : Below W.heap.size W W') : CntR g vr N n d S w1 W' := by
  obtain ⟨C, hc⟩ := h
  exact ⟨C, hc.keep hb⟩
theorem CntR.bel (h : CntR g vr N n d S w1 W) : Below w1.heap.size w1 W := by obtain ⟨C, hc⟩ := h; exact hc.bel
theorem CntR.big (h : CntR g vr N n d S w1 W) {b : Nat} (hb : W.heap.size ≤ b) : ∀ a, a < N → d.rc a ≠ b := by obtain ⟨C, hc⟩ := h; exact hc.big hb
theorem CntR.over (h : CntR g vr N n d S w1 W) {b : Nat} (hb : d.cb < b) : ∀ a, a < N → d.rc a ≠ b := by
  obtain ⟨C, hc⟩ := h
  intro a ha e
  have := (hc.rc a ha).2
  omega
theorem CntR.low (h : CntR g vr N n d S w1 W) {b : Nat} (hb : b < w1.heap.size) : ∀ a, a < N → d.rc a ≠ b := by
  obtain ⟨C, hc⟩ := h
  intro a ha e
  have := (hc.rc a ha).1
  omega
theorem NI.start (h : CntR g vr N n d S w1 W) : NI g vr N n d S w1 W W := ⟨h, Fr.refl _ _ _⟩
theorem NI.keep (h : NI g vr N n d S w1 Wb W) (hb : Below W.heap.size W W') : NI g vr N n d S w1 Wb W' := ⟨h.cs.keep hb, h.fr.trans (Fr.of hb)⟩
theorem NI.of (h : NI g vr N n d S w1 Wb W) (hf : Fr N d W W') (hc : CntR g vr N n d S w1 W') : NI g vr N n d S w1 Wb W' := ⟨hc, h.fr.trans hf⟩
end
end Cs
end Go.Proofs.Ytmbjnemahgfhcaa
namespace Go.Proofs.Ytmbjnemahgfhcaa
open Go.RowKit
namespace Cs

section
variable {rules : List Rule} {S M T : Nat → Nat → Bool} {N n size : Nat} {many : Int}
end
end Cs
end Go.Proofs.Ytmbjnemahgfhcaa
namespace Go.Proofs.Ytmbjnemahgfhcaa
open Go.RowKit
namespace Cs

end Cs
end Go.Proofs.Ytmbjnemahgfhcaa
namespace Go.Proofs.Ytmbjnemahgfhcaa
open Go.RowKit

end Go.Proofs.Ytmbjnemahgfhcaa
namespace Go.Proofs.Ytmbjnemahgfhcaa
open Go.RowKit

end Go.Proofs.Ytmbjnemahgfhcaa
namespace Go.Proofs.Ytmbjnemahgfhcaa
open Go.RowKit

end Go.Proofs.Ytmbjnemahgfhcaa
namespace Go.Proofs.Ytmbjnemahgfhcaa
open Go.RowKit

end Go.Proofs.Ytmbjnemahgfhcaa
namespace Go.Proofs.Ytmbjnemahgfhcaa
open Go.RowKit

end Go.Proofs.Ytmbjnemahgfhcaa
namespace Go.Proofs.Ytmbjnemahgfhcaa
open Go.RowKit
namespace Cs

end Cs
end Go.Proofs.Ytmbjnemahgfhcaa
namespace Go.Proofs.Ytmbjnemahgfhcaa
open Go.RowKit
namespace Cs

end Cs
end Go.Proofs.Ytmbjnemahgfhcaa
namespace Go.Proofs.Ytmbjnemahgfhcaa
open Go.RowKit
namespace Cs

theorem nodupN_le : ∀ (l m : List Nat), l.Nodup → (∀ x ∈ l, x ∈ m) → l.length ≤ m.length
  | [], m, _, _ => by simp
  | a :: l, m, hn, hs => by
    have ha := hs a List.mem_cons_self
    rw [List.nodup_cons] at hn
    have := nodupN_le l (m.erase a) hn.2 fun x hx => by
      have hne : x ≠ a := fun e => hn.1 (e ▸ hx)
      exact (List.mem_erase_of_ne hne).2 (hs x (List.mem_cons_of_mem _ hx))
    rw [List.length_erase_of_mem ha] at this
    have : 0 < m.length := List.length_pos_of_mem ha
    simp; omega
theorem nodup_map_range {f : Nat → Nat} : ∀ n, (∀ a b, a < b → b < n → f a ≠ f b) → ((List.range n).map f).Nodup
  | 0, _ => by simp
  | n + 1, h => by
    rw [List.range_succ, List.map_append, List.nodup_append]
    refine ⟨nodup_map_range n fun a b h1 h2 => h a b h1 (by omega), by simp, ?_⟩
    intro x hx y hy
    simp at hx hy
    obtain ⟨a, ha, rfl⟩ := hx
    subst hy
    exact h a n ha (by omega)
/-- more nodes than there are: two are the same -/
theorem pigeon {size : Nat} {f : Nat → Nat} (h : ∀ i, i ≤ size → f i < size) : ∃ a b, a < b ∧ b ≤ size ∧ f a = f b := by
  refine Classical.byContradiction fun hn => ?_
  have h1 : ((List.range (size + 1)).map f).Nodup := nodup_map_range (size + 1) fun a b hab hb e => hn ⟨a, b, hab, by omega, e⟩
  have h2 := nodupN_le _ (List.range size) h1 fun x hx => by
    obtain ⟨i, hi, rfl⟩ := List.mem_map.1 hx
    exact List.mem_range.2 (h i (by have := List.mem_range.1 hi; omega))
  simp at h2
  omega
section
variable {rules : List Rule} {S : Nat → Nat → Bool} {N n : Nat}
variable (hclo : ∀ r ∈ rules, ∀ k, k ≤ n → canK S r.right k = true → S r.left.toNat k = true)
include hclo
end
end Cs
end Go.Proofs.Ytmbjnemahgfhcaa
namespace Go.Proofs.Ytmbjnemahgfhcaa
open Go.RowKit
namespace Cs

def SE (g : Gram) (S : Nat → Nat → Bool) (N n : Nat) : Sym → Nat → List Tree := symE S (EN g.rules S (sizeK N n))
def GdN (g : Gram) (S : Nat → Nat → Bool) (N n f : Nat) : Nat → Nat → Prop := Gd (MK g.rules S N n) (clK g.rules S N n) N n (sizeK N n) f
section
variable {g : Gram} {vr : Value} {N n : Nat} {d : Cid} {S : Nat → Nat → Bool} {w1 W W' w0 Wc w' : World}
theorem CntR.keepB {B : Nat} (h : CntR g vr N n d S w1 W) (hb : Below B W W') (hB : d.cb < B) : CntR g vr N n d S w1 W' := by
  obtain ⟨C, hc⟩ := h
  exact ⟨C, hc.keepB hb hB⟩
theorem CntR.rlt (h : CntR g vr N n d S w1 W) {B : Nat} (hB : d.cb < B) : ∀ a, a < N → d.rc a < B := by
  obtain ⟨C, hc⟩ := h
  exact hc.rlt hB
end

end Cs
end Go.Proofs.Ytmbjnemahgfhcaa
namespace Go.Proofs.Ytmbjnemahgfhcaa
open Go.RowKit
namespace Cs

end Cs
end Go.Proofs.Ytmbjnemahgfhcaa
namespace Go.Proofs.Ytmbjnemahgfhcaa
open Go.RowKit
namespace Cs

/-- the way on from a length -/
structure NxQ (g : Gram) (N n : Nat) (S : Nat → Nat → Bool) (w1 : World) (f : Nat) (l : List Sym) (ks : List Tree) (p k q y : Nat) (al : Option Addr) (cl : Nat) (t : Tree) : Prop where
  kn : k - q ≤ n
  fine : Fine S (GdN g S N n f) (l.drop (p + 1)) (k - q)
  at' : (enL S (SE g S N n) (l.drop (p + 1)) (k - q))[y]? = some (ks.drop (p + 1))
  lt : (enL S (SE g S N n) (l.drop (p + 1)) (k - q)).length < 1000000000
  rd : Rd AnyB w1 (.sl ((l.drop (p + 1)).map Sym.d)) [.slice al (l.length - (p + 1)) cl]
  tk : ks.take (p + 1) = ks.take p ++ [t]
  pk : p + 1 ≤ ks.length
section
variable {g : Gram} {vr : Value} {N n : Nat} {d : Cid} {S : Nat → Nat → Bool} {w1 : World} {f : Nat} {l : List Sym} {ks : List Tree} {w0 : World} {p k i q y : Nat} {al al' : Option Addr} {cl cl' : Nat} {vo : Value} {W W0 W1 : World} {t : Tree}
end

end Cs
end Go.Proofs.Ytmbjnemahgfhcaa
namespace Go.Proofs.Ytmbjnemahgfhcaa
open Go.RowKit
namespace Cs

end Cs
end Go.Proofs.Ytmbjnemahgfhcaa
namespace Go.Proofs.Ytmbjnemahgfhcaa
open Go.RowKit
namespace Cs

section
variable {g : Gram} {N n : Nat} {S : Nat → Nat → Bool}
end
end Cs
end Go.Proofs.Ytmbjnemahgfhcaa
namespace Go.Proofs.Ytmbjnemahgfhcaa
open Go.RowKit
namespace Cs

section
variable {g : Gram} {N n : Nat} {S : Nat → Nat → Bool}
end
end Cs
end Go.Proofs.Ytmbjnemahgfhcaa
namespace Go.Proofs.Ytmbjnemahgfhcaa
open Go.RowKit
namespace Cs

/-- a nonterminal has a tree of so many terminals -/
def Dv (rules : List Rule) (A k : Nat) : Prop := ∃ h, 0 < cnt rules h A k
/-- the lengths of a symbol -/
def Ds (rules : List Rule) (s : Sym) (k : Nat) : Prop := if s.term then k = 1 else Dv rules s.n.toNat k
/-- the lengths of a row of symbols -/
def Dl (rules : List Rule) : List Sym → Nat → Prop
  | [], k => k = 0
  | s :: l, k => ∃ i j, k = i + j ∧ Ds rules s i ∧ Dl rules l j
section
variable {rules : List Rule}
theorem oN_up {h h' k : Nat} (hh : h ≤ h') {s : Sym} : oN (cnt rules h) s k ≤ oN (cnt rules h') s k := oN_mono (fun A i => cnt_mono hh A i) s k
theorem dl_cN : ∀ (l : List Sym) (k : Nat), Dl rules l k → ∃ h, 0 < cN (oN (cnt rules h)) l k
  | [], k, hp => ⟨0, by rw [cN, if_pos (show k = 0 from hp)]; omega⟩
  | s :: l, k, ⟨i, j, e, h1, h2⟩ => by
    obtain ⟨h, hh⟩ := dl_cN l j h2
    have h3 : ∃ h', 0 < oN (cnt rules h') s i := by
      unfold Ds at h1
      unfold oN
      by_cases e : s.term = true
      · rw [if_pos e] at h1
        exact ⟨0, by rw [if_pos e, if_pos h1]; omega⟩
      · rw [if_neg e] at h1
        obtain ⟨h', hd⟩ := h1
        exact ⟨h', by rw [if_neg e]; exact hd⟩
    obtain ⟨h', hh'⟩ := h3
    refine ⟨max h h', ?_⟩
    rw [cN]
    refine sumN_pos_iff.2 ⟨i, by omega, ?_⟩
    have p1 := Nat.lt_of_lt_of_le hh' (oN_up (rules := rules) (k := i) (s := s) (Nat.le_max_right h h'))
    have p2 := Nat.lt_of_lt_of_le hh (cN_mono (fun s i => oN_up (rules := rules) (k := i) (s := s) (Nat.le_max_left h h')) l j)
    rw [show k - i = j by omega]
    exact Nat.mul_pos p1 p2
theorem cR_posI {o : Sym → Nat → Nat} {A : Int} {k : Nat} : ∀ rs : List Rule, 0 < cR o A k rs ↔ ∃ r ∈ rs, r.left = A ∧ 0 < cN o r.right k
  | [] => by simp [cR]
  | r :: rs => by
    rw [cR]
    have ih := cR_posI (o := o) (A := A) (k := k) rs
    constructor
    · intro h
      by_cases e : r.left = A ∧ 0 < cN o r.right k
      · exact ⟨r, List.mem_cons_self, e⟩
      · have : 0 < cR o A k rs := by
          by_cases e2 : r.left = A
          · rw [if_pos e2] at h
            have : ¬ 0 < cN o r.right k := fun h => e ⟨e2, h⟩
            omega
          · rw [if_neg e2] at h; omega
        obtain ⟨r', h1, h2⟩ := ih.1 this
        exact ⟨r', List.mem_cons_of_mem _ h1, h2⟩
    · rintro ⟨r', h1, h2, h3⟩
      rcases List.mem_cons.1 h1 with rfl | h1
      · rw [if_pos h2]; omega
      · have := ih.2 ⟨r', h1, h2, h3⟩
        omega
/-- a rule makes lengths -/
theorem dv_rule {r : Rule} (hr : r ∈ rules) {A k : Nat} (hl : r.left = (A : Int)) (h : Dl rules r.right k) : Dv rules A k := by
  obtain ⟨h', hp⟩ := dl_cN _ _ h
  exact ⟨h' + 1, by rw [cnt]; exact (cR_posI _).2 ⟨r, hr, hl, hp⟩⟩
end
end Cs
end Go.Proofs.Ytmbjnemahgfhcaa
namespace Go.Proofs.Ytmbjnemahgfhcaa
open Go.RowKit
namespace Gr
open Cs

/-- a row of symbols of which each makes a length -/
def Row (o : Sym → Nat → Prop) : List Sym → Nat → Prop
  | [], k => k = 0
  | s :: l, k => ∃ i j, k = i + j ∧ o s i ∧ Row o l j
theorem Row.mono {o o' : Sym → Nat → Prop} (h : ∀ s i, o s i → o' s i) : ∀ {l : List Sym} {k : Nat}, Row o l k → Row o' l k
  | [], _, hr => hr
  | _ :: _, _, ⟨i, j, e, h1, h2⟩ => ⟨i, j, e, h _ _ h1, Row.mono h h2⟩
theorem Row.mono_in {o o' : Sym → Nat → Prop} : ∀ {l : List Sym} {k : Nat}, (∀ s ∈ l, ∀ i, o s i → o' s i) → Row o l k → Row o' l k
  | [], _, _, hr => hr
  | s :: _, _, h, ⟨i, j, e, h1, h2⟩ => ⟨i, j, e, h s List.mem_cons_self _ h1, Row.mono_in (fun s hs => h s (List.mem_cons_of_mem _ hs)) h2⟩
theorem row_dl {K : List Rule} : ∀ {l : List Sym} {k : Nat}, Row (Ds K) l k ↔ Dl K l k
  | [], _ => Iff.rfl
  | s :: l, k => by
    constructor
    · rintro ⟨i, j, e, h1, h2⟩; exact ⟨i, j, e, h1, row_dl.1 h2⟩
    · rintro ⟨i, j, e, h1, h2⟩; exact ⟨i, j, e, h1, row_dl.2 h2⟩
theorem cN_row {o : Sym → Nat → Nat} : ∀ (l : List Sym) (k : Nat), 0 < cN o l k ↔ Row (fun s i => 0 < o s i) l k
  | [], k => by
    rw [cN]
    show _ ↔ k = 0
    by_cases e : k = 0
    · simp [e]
    · simp [e]
  | s :: l, k => by
    rw [cN]
    constructor
    · intro hp
      obtain ⟨i, hi, hpi⟩ := sumN_pos_iff.1 hp
      exact ⟨i, k - i, by omega, Nat.pos_of_mul_pos_right hpi, (cN_row l _).1 (Nat.pos_of_mul_pos_left hpi)⟩
    · rintro ⟨i, j, rfl, h1, h2⟩
      exact sumN_pos_iff.2 ⟨i, by omega, Nat.mul_pos h1 (by rw [show i + j - i = j by omega]; exact (cN_row l j).2 h2)⟩
/-- lengths of a symbol by trees of at most h levels -/
def oH (K : List Rule) (h : Nat) (s : Sym) (i : Nat) : Prop := if s.term then i = 1 else 0 < Cs.cnt K h s.n.toNat i
theorem oH_iff {K : List Rule} {h : Nat} {s : Sym} {i : Nat} : 0 < oN (Cs.cnt K h) s i ↔ oH K h s i := by
  unfold oN oH
  by_cases e : s.term = true
  · rw [if_pos e, if_pos e]
    by_cases e2 : i = 1 <;> simp [e2]
  · rw [if_neg e, if_neg e]
theorem cnt_succ {K : List Rule} {h A k : Nat} : 0 < Cs.cnt K (h + 1) A k ↔ ∃ r ∈ K, r.left = (A : Int) ∧ Row (oH K h) r.right k := by
  rw [Cs.cnt, cR_posI]
  constructor
  · rintro ⟨r, h1, h2, h3⟩
    exact ⟨r, h1, h2, Row.mono (fun _ _ h => oH_iff.1 h) ((cN_row _ _).1 h3)⟩
  · rintro ⟨r, h1, h2, h3⟩
    exact ⟨r, h1, h2, (cN_row _ _).2 (Row.mono (fun _ _ h => oH_iff.2 h) h3)⟩
section
variable {K : List Rule}
theorem oH_ds {h : Nat} {s : Sym} {i : Nat} (hp : oH K h s i) : Ds K s i := by
  unfold oH at hp
  unfold Ds
  split
  · next e => rw [if_pos e] at hp; exact hp
  · next e => rw [if_neg e] at hp; exact ⟨h, hp⟩
theorem dv_cases {A k : Nat} (h : Dv K A k) : ∃ r ∈ K, r.left = (A : Int) ∧ Dl K r.right k := by
  obtain ⟨h, hp⟩ := h
  cases h with
  | zero => simp [Cs.cnt] at hp
  | succ h =>
    obtain ⟨r, h1, h2, h3⟩ := cnt_succ.1 hp
    exact ⟨r, h1, h2, row_dl.1 (h3.mono fun _ _ => oH_ds)⟩
/-- what is closed under the rules holds for all lengths -/
theorem dv_ind {P : Nat → Nat → Prop} (h : ∀ r ∈ K, ∀ (A k : Nat), r.left = (A : Int) → Row (fun s i => if s.term then i = 1 else P s.n.toNat i) r.right k → P A k) {A k : Nat} (hd : Dv K A k) : P A k := by
  obtain ⟨m, hp⟩ := hd
  induction m generalizing A k with
  | zero => simp [Cs.cnt] at hp
  | succ m ih =>
    obtain ⟨r, h1, h2, h3⟩ := cnt_succ.1 hp
    refine h r h1 A k h2 (h3.mono fun s i hs => ?_)
    unfold oH at hs
    split
    · next e => rw [if_pos e] at hs; exact hs
    · next e => rw [if_neg e] at hs; exact ih hs
/-- the least number of levels -/
def Mh (K : List Rule) (h A k : Nat) : Prop := 0 < Cs.cnt K h A k ∧ ∀ h', h' < h → Cs.cnt K h' A k = 0
theorem mh_some {A k : Nat} (hd : Dv K A k) : ∃ h, Mh K h A k := by
  obtain ⟨h, hp⟩ := hd
  induction h using Nat.strongRecOn with
  | ind h ih =>
    by_cases he : ∃ h', h' < h ∧ 0 < Cs.cnt K h' A k
    · obtain ⟨h', h1, h2⟩ := he
      exact ih h' h1 h2
    · exact ⟨h, hp, fun h' hl => by
        rcases Nat.eq_zero_or_pos (Cs.cnt K h' A k) with e | e
        · exact e
        · exact absurd ⟨h', hl, e⟩ he⟩
theorem Mh.uniq {h h' A k : Nat} (a : Mh K h A k) (b : Mh K h' A k) : h = h' := by
  rcases Nat.lt_trichotomy h h' with e | e | e
  · have := b.2 h e; have := a.1; omega
  · exact e
  · have := a.2 h' e; have := b.1; omega
/-- where two kinds of lengths differ -/
theorem row_diff {o o' : Sym → Nat → Prop} : ∀ {l : List Sym} {k : Nat}, Row o l k → ¬ Row o' l k → ∃ a s b i, l = a ++ s :: b ∧ o s i ∧ ¬ o' s i ∧ i ≤ k ∧ ∀ (o2 : Sym → Nat → Prop), (∀ s i, o s i → o2 s i) → Row o2 (a ++ b) (k - i) ∧ ∀ i', o2 s i' → Row o2 l (k - i + i')
  | [], _, h, h' => absurd h h'
  | s :: l, k, ⟨i, j, e, h1, h2⟩, h' => by
    by_cases hs : o' s i
    · have hl : ¬ Row o' l j := fun h => h' ⟨i, j, e, hs, h⟩
      obtain ⟨a, s', b, i2, e2, g1, g2, g3, g4⟩ := row_diff h2 hl
      refine ⟨s :: a, s', b, i2, by rw [e2]; rfl, g1, g2, by omega, fun o2 ho => ⟨?_, fun i' hi' => ?_⟩⟩
      · exact ⟨i, j - i2, by omega, ho _ _ h1, (g4 o2 ho).1⟩
      · exact ⟨i, j - i2 + i', by omega, ho _ _ h1, (g4 o2 ho).2 i' hi'⟩
    · refine ⟨[], s, l, i, rfl, h1, hs, by omega, fun o2 ho => ⟨?_, fun i' hi' => ?_⟩⟩
      · rw [show k - i = j by omega]; exact h2.mono ho
      · exact ⟨i', j, by omega, hi', h2.mono ho⟩
theorem row_len {o : Sym → Nat → Prop} {M : Nat} (h : ∀ s i, o s i → i ≤ M) : ∀ {l : List Sym} {k : Nat}, Row o l k → k ≤ l.length * M
  | [], k, hr => by have : k = 0 := hr; omega
  | s :: l, k, ⟨i, j, e, h1, h2⟩ => by
    have := h _ _ h1
    have := row_len h h2
    rw [List.length_cons, Nat.add_mul]; omega
variable {d : Nat}
theorem len_h (hd : 1 ≤ d) (hr : ∀ r ∈ K, r.right.length ≤ d) : ∀ (h A k : Nat), 0 < Cs.cnt K h A k → k ≤ d ^ h := by
  intro h
  induction h with
  | zero => intro A k hp; simp [Cs.cnt] at hp
  | succ h ih =>
    intro A k hp
    obtain ⟨r, h1, _, h3⟩ := cnt_succ.1 hp
    have h4 := row_len (M := d ^ h) (fun s i hs => by
      unfold oH at hs
      split at hs
      · subst hs; exact Nat.one_le_pow _ _ hd
      · exact ih _ _ hs) h3
    rw [Nat.pow_succ, Nat.mul_comm]
    exact Nat.le_trans h4 (Nat.mul_le_mul_right _ (hr r h1))
/-- an edge, and one beside which something grows -/
def Edge (K : List Rule) (A B : Nat) : Prop := ∃ r ∈ K, r.left = (A : Int) ∧ ∃ a s b, r.right = a ++ s :: b ∧ s.term = false ∧ s.n.toNat = B
def Grows (K : List Rule) (s : Sym) : Prop := ∃ k, 0 < k ∧ Ds K s k
def More (K : List Rule) (A B : Nat) : Prop := ∃ r ∈ K, r.left = (A : Int) ∧ ∃ a s b, r.right = a ++ s :: b ∧ s.term = false ∧ s.n.toNat = B ∧ ∃ x ∈ a ++ b, Grows K x
theorem row_pos : ∀ {l : List Sym} {k : Nat}, Row (Ds K) l k → 0 < k → ∃ x ∈ l, Grows K x
  | [], k, h, h0 => by have : k = 0 := h; omega
  | s :: l, k, ⟨i, j, e, h1, h2⟩, h0 => by
    by_cases hi : 0 < i
    · exact ⟨s, List.mem_cons_self, i, hi, h1⟩
    · obtain ⟨x, hx, hg⟩ := row_pos h2 (by omega)
      exact ⟨x, List.mem_cons_of_mem _ hx, hg⟩
/-- one level down -/
theorem mh_step {h A k : Nat} (h1 : 1 ≤ h) (hm : Mh K (h + 1) A k) : ∃ B j, Mh K h B j ∧ j ≤ k ∧ Edge K A B ∧ (j < k → More K A B) ∧ ∀ j', Dv K B j' → Dv K A (k - j + j') := by
  obtain ⟨r, hr, hl, hrow⟩ := cnt_succ.1 hm.1
  obtain ⟨g, rfl⟩ : ∃ g, h = g + 1 := ⟨h - 1, by omega⟩
  have hno : ¬ Row (oH K g) r.right k := fun hro => by
    have h2 := hm.2 (g + 1) (by omega)
    have h3 := cnt_succ.2 ⟨r, hr, hl, hro⟩
    omega
  obtain ⟨a, s, b, i, e, g1, g2, g3, g4⟩ := row_diff hrow hno
  have g5 := g4 (Ds K) (fun _ _ => oH_ds)
  have ht : s.term = false := by
    cases hs : s.term with
    | false => rfl
    | true =>
      unfold oH at g1 g2
      rw [if_pos hs] at g1 g2
      exact absurd g1 g2
  have hc : 0 < Cs.cnt K (g + 1) s.n.toNat i := by unfold oH at g1; rw [if_neg (by simp [ht])] at g1; exact g1
  have hz : ¬ 0 < Cs.cnt K g s.n.toNat i := fun hp => g2 (by unfold oH; rw [if_neg (by simp [ht])]; exact hp)
  refine ⟨s.n.toNat, i, ⟨hc, fun h' hl' => ?_⟩, g3, ⟨r, hr, hl, a, s, b, e, ht, rfl⟩, fun hlt => ?_, fun j' hj' => ?_⟩
  · have := Cs.cnt_mono (rules := K) (show h' ≤ g by omega) s.n.toNat i
    omega
  · exact ⟨r, hr, hl, a, s, b, e, ht, rfl, row_pos g5.1 (by omega)⟩
  · refine dv_rule hr hl (row_dl.1 (g5.2 j' ?_))
    unfold Ds
    rw [if_neg (by simp [ht])]
    exact hj'
end
end Gr
end Go.Proofs.Ytmbjnemahgfhcaa
