/- The contracts of Yield and Codes. -/
import Derived.Test.YtjehmleckcmilaaNodes
import Derived.Test.YtjehmleckcmilaaTreeFns
namespace Go.Proofs.Ytjehmleckcmilaa
open Go.RowKit

structure GathRel (f : List Tree → List Int) (w w1 : World) (l : List Tree) (i : Nat) (v : Value) (wr : World) : Prop where
  own : wr.ownsRow w.heap.size 3 1 v (f (l.take i)).length (ints (f (l.take i)))
  bel : Below w.heap.size w wr
  belo : Below w1.heap.size w1 wr
  apart : ∀ k, v.ownBlock = some k → w1.heap.size ≤ k

theorem leavesOf_take {l : List Tree} {i : Nat} (h : i < l.length) : leavesOf (l.take (i + 1)) = leavesOf (l.take i) ++ if l[i].rule = -1 then [l[i].term] else [] := by
  rw [List.take_succ_eq_append_getElem h, leavesOf, List.filterMap_append]
  by_cases e : l[i].rule = -1 <;> simp [leavesOf, e]
theorem rulesOf_take {l : List Tree} {i : Nat} (h : i < l.length) : rulesOf (l.take (i + 1)) = rulesOf (l.take i) ++ [l[i].rule] := by
  rw [List.take_succ_eq_append_getElem h, rulesOf, List.map_append]; rfl
theorem leavesOf_take_le (l : List Tree) (i : Nat) : (leavesOf (l.take i)).length ≤ l.length := by
  have := leavesOf_le (l.take i); simp at this; omega
theorem rulesOf_take_le (l : List Tree) (i : Nat) : (rulesOf (l.take i)).length ≤ l.length := by
  simp [rulesOf]; omega

theorem gath_step {f : List Tree → List Int} {w w1 : World} {l : List Tree} {i : Nat} {v v' : Value} {wr w0 w' : World} {x : Int} (h : GathRel f w w1 l i v wr) (hf : f (l.take (i + 1)) = f (l.take i) ++ [x]) (hb : Below wr.heap.size wr w0)
    (ho : w'.ownsRow w.heap.size 3 1 v' ((f (l.take i)).length + 1) (ints (f (l.take i)) ++ [.int .i64 x])) (hg : w0.grownBy w' v.ownBlock) (hat : v'.ownBlock = v.ownBlock ∨ ∃ k, v'.ownBlock = some k ∧ w0.heap.size ≤ k) : GathRel f w w1 l (i + 1) v' w' := by
  have hs := hb.size
  have hs1 := h.belo.size
  have hs2 := h.bel.size
  refine ⟨?_, (h.bel.trans (hb.mono h.bel.size)).grown hg (by omega) (fun k e => (h.own.lt k e).1), (h.belo.trans (hb.mono h.belo.size)).grown hg (by omega) h.apart, ?_⟩
  · rw [hf]
    have e : ints (f (l.take i) ++ [x]) = ints (f (l.take i)) ++ [.int .i64 x] := by simp [ints]
    rw [e, List.length_append]
    exact ho
  · intro k e
    rcases hat with h2 | ⟨j, h2, hj⟩
    · exact h.apart k (by rw [← h2]; exact e)
    · rw [h2] at e; cases e; omega

set_option maxHeartbeats 1000000 in
set_option maxRecDepth 100000 in
theorem yieldE (t : Tree) (v : Value) (w : World) (hv : Rd AnyB w (.sl (t.kids.map Tree.d)) [v]) (hN : (nodes t).length ≤ 1099511627776) :
    Calls Try.prog 30 #[.agg #[.int .i64 t.rule, .int .i64 t.term, v]] w (IntsPost (leavesOf (nodes t)) w) := by
  obtain ⟨a, n, cap, rfl⟩ := treeBox hv
  have hb := (Below.refl w.heap.size w).alloc (Nat.le_refl _) (.cells #[.int .i64 t.rule, .int .i64 t.term, .slice a n cap] 43)
  have HN := Lib.hid (nodesE t _ _ (hv.below hb) hN)
  have HB := Lib.hid hb
  clear hv hb
  go_enter Try.func30, Try.ntmps30
  go_wp2_with fail
  refine HN.out.mono ?_
  rintro e w1 ⟨v1, rfl, hr1, hb1⟩
  obtain ⟨a1, c1, rfl, hc1, hc2⟩ := hr1.form
  obtain ⟨l, HL⟩ := nameIt (nodes t)
  rw [List.length_map, HL.out] at hc1
  rw [HL.out, List.length_map] at hr1
  rw [HL.out] at hN
  rw [List.length_map, HL.out]
  unfold maxLen at hc2
  have HR1 := Lib.hid hr1
  have HB1 := Lib.hid (HB.out.trans (hb1.mono HB.out.size))
  have HR0 : Hid (GathRel leavesOf w w1 l 0 (.slice none 0 0) w1) := ⟨by simpa [leavesOf, ints] using World.ownsRow_nil _ _ _ _, HB1.out, Below.refl _ _, by simp [Value.ownBlock]⟩
  clear hr1 hb1 HN HB
  go_wp2_with fail
  go_loopg [3, 9] l.length (fun gg v3 v9 wr => ∃ i : Nat, i ≤ l.length ∧ l.length - i ≤ gg ∧ v9 = .int .i64 i ∧ Hid (GathRel leavesOf w w1 l i v3 wr))
  case atStart => exact ⟨0, by omega, by omega, rfl, HR0⟩
  case round =>
    clear HR0
    obtain ⟨i, hi, hg, rfl, HR⟩ := hrel
    obtain ⟨av, cv, rfl, hcv1, hcv2⟩ := own_len HR.out.own
    unfold maxLen at hcv2
    by_cases hlt : i < l.length
    · have hlt' : (i : Int) < (l.length : Int) := by omega
      obtain ⟨b, off, u, hae, -, hbl, e0, e1, e2, hkid⟩ := (HR1.out.below HR.out.belo).kid hlt
      obtain ⟨au, cu, rfl, -, -⟩ := hkid.form
      have HT := Lib.hid (leavesOf_take hlt)
      obtain ⟨nu, HNU⟩ := nameIt (l[i].kids.map Tree.d).length
      rw [HNU.out] at e2
      obtain ⟨x, HX⟩ := nameIt (l[i]'hlt)
      rw [HX.out] at e0 e1 HT
      obtain ⟨r, HXr⟩ := nameIt x.rule
      obtain ⟨tm, HXt⟩ := nameIt x.term
      rw [HXr.out] at e0 HT
      rw [HXt.out] at e1 HT
      have hlen := leavesOf_take_le l i
      have hsz := HR.out.bel.size
      have HBX := Lib.hid ((Below.refl wr.heap.size wr).alloc (Nat.le_refl _) (.cells #[.int .i64 r, .int .i64 tm, .slice au nu cu] 43))
      subst hae
      clear hkid hbl
      by_cases hr : r = -1
      · subst hr
        go_wp2_with (at_builtin; refine wp_app1at elInt rfl _ _ rfl (own_keep HR.out.own HBX.out) rfl rfl (by simp) rfl rfl (by omega) (by unfold maxLen; omega) (by simp; omega) ?_)
        intro v' w' ho hg2 hat
        have HR' := Lib.hid (gath_step HR.out (by rw [HT.out]; simp) HBX.out ho hg2 (by simpa using hat))
        obtain ⟨a', c', rfl, -, -⟩ := own_len ho
        clear ho hg2 hat
        go_wp2_with fail
        go_roundg (l.length - (i + 1))
        case measure => omega
        case rel => exact ⟨i + 1, by omega, by omega, by go_num, HR'⟩
      · have hrb : (r == -1) = false := by simpa using hr
        have HR' : Hid (GathRel leavesOf w w1 l (i + 1) (.slice av (leavesOf (l.take i)).length cv) (wr.alloc (.cells #[.int .i64 r, .int .i64 tm, .slice au nu cu] 43))) := by
          have e : leavesOf (l.take (i + 1)) = leavesOf (l.take i) := by rw [HT.out, if_neg hr]; simp
          refine ⟨by rw [e]; exact own_keep HR.out.own HBX.out, HR.out.bel.trans (HBX.out.mono HR.out.bel.size), HR.out.belo.trans (HBX.out.mono HR.out.belo.size), HR.out.apart⟩
        clear hr
        go_wp2_with fail
        go_roundg (l.length - (i + 1))
        case measure => omega
        case rel => exact ⟨i + 1, by omega, by omega, by go_num, HR'⟩
    · have hlt' : ¬ (i : Int) < (l.length : Int) := by omega
      have HE : Hid (l.take i = l) := List.take_of_length_le (by omega)
      go_wp2_with fail
      go_ret
      have h := sl_of_own HR.out.own
      rw [HE.out] at h
      refine ⟨_, rfl, ?_, HR.out.bel⟩
      rw [HL.out]
      rw [HE.out]
      exact h

end Go.Proofs.Ytjehmleckcmilaa
