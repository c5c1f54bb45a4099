/- The walk of the law DrawOrders. -/
import Derived.Test.YtfbacnifankfkaaDrawCoins
import Derived.Test.YtfbacnifankfkaaOrderWalk
namespace Go.Proofs.Ytfbacnifankfkaa
open Go.RowKit
namespace DrawOrders

theorem first (w : World) : Calls Try.prog 18 #[.int .i64 2, .slice (some ⟨w.heap.size, 0, none⟩) 1 1] (w.alloc (.cells #[.bool true] 4)) (OrdPost (some ([1, 0], 1)) (w.alloc (.cells #[.bool true] 4))) := by
  have h := order_good 2 (some ⟨w.heap.size, 0, none⟩) 1 [true] (w.alloc (.cells #[.bool true] 4)) (by omega) ?_ (by simp)
  · have e : Draw.ord 2 (Draw.upto 2) [true] = some ([1, 0], 1) := by decide
    rw [e] at h
    exact h
  · refine ⟨_, 1, rfl, by simp [bools], by decide, (fun h => by cases h), fun i hi => ⟨_, rfl, ?_⟩⟩
    simp [bools] at hi
    subst hi
    simp [bools, go_sem]

theorem sl_lit {w : World} {v : Array Value} {e : TypeId} (h : v.size ≤ maxLen) : Sl (w.alloc (.cells v e)) (.slice (some ⟨w.heap.size, 0, none⟩) v.size v.size) v.toList := by
  refine ⟨some ⟨w.heap.size, 0, none⟩, v.size, by simp, by simp, h, (fun h => by cases h), fun i hi => ⟨_, rfl, ?_⟩⟩
  have : (⟨w.heap.size, 0, none⟩ : Addr).add i = ⟨w.heap.size, i, none⟩ := by unfold Addr.add; by_cases e : i = 0 <;> simp [e]
  rw [this]
  have hh : (w.alloc (.cells v e)).heap[w.heap.size]? = some (.cells v e (0, 0)) := heap_alloc_new w _
  simp only [World.cell?, hh]
  simp at hi ⊢

set_option maxHeartbeats 1000000 in
set_option maxRecDepth 100000 in
theorem arg (n : Int) (v : Value) (w : World) (h : n < 0 ∨ 100 < n) :
    Calls Try.prog 5 #[.int .i64 n, v] w fun e w' => e = .returned (.bool true) ∧ Below w.heap.size w w' := by
  have HA := Lib.hid h
  have h' : (n < 0) ∨ (¬ n < 0 ∧ 100 < n) := by omega
  clear h
  rcases h' with h | ⟨h, h2⟩
  all_goals
    go_enter Try.func5, Try.ntmps5
    go_wp2_with fail
    refine (first w).mono ?_
    rintro e w1 ⟨v1, rfl, hs1, hb1⟩
    have HS1 := Lib.hid hs1
    have HB1 := Lib.hid hb1
    clear hs1 hb1
    go_wp2_with fail
    refine (equal v1 _ [1, 0] [1, 0] _ (HS1.out.keep ((Below.refl _ _).alloc (Nat.le_refl _) _)) (sl_lit (v := #[.int .i64 1, .int .i64 0]) (by decide))).mono ?_
    rintro e w2 ⟨rfl, hb2⟩
    have HB2 : Hid (Below w.heap.size w w2) := by
      have h1 : Below w.heap.size w (w.alloc (.cells #[.bool true] 4)) := (Below.refl _ _).alloc (Nat.le_refl _) _
      have h2 : Below w.heap.size w w1 := h1.trans (HB1.out.mono (by simp))
      have h3 := h2.alloc h2.size (.cells #[.int .i64 1, .int .i64 0] 3)
      exact h3.trans (hb2.mono h3.size)
    clear hb2
    have hT : (([1, 0] : List Int) == [1, 0]) = true := by decide
    rw [hT]
    go_wp2_with fail
    refine (order_arg n v w2 HA.out).mono ?_
    rintro e w3 ⟨rfl, rfl⟩
    go_wp2_with fail
    go_ret
    exact ⟨rfl, HB2.out⟩

set_option maxHeartbeats 2000000 in
set_option maxRecDepth 100000 in
theorem good (n : Nat) (a : Option Addr) (cap : Nat) (l : List Bool) (w0 : World) (hn : n ≤ 100) (hv : Sl w0 (.slice a l.length cap) (bools l)) (hL : l.length ≤ 140737488355328) :
    Calls Try.prog 5 #[.int .i64 n, .slice a l.length cap] w0 fun e w' => e = .returned (.bool true) ∧ Below w0.heap.size w0 w' := by
  have HV0 := Lib.hid hv
  obtain ⟨hc1, hc2⟩ := hv.len.2
  unfold maxLen at hc2
  clear hv
  have h0 : ¬ (n : Int) < 0 := by omega
  have h1 : ¬ 100 < (n : Int) := by omega
  go_enter Try.func5, Try.ntmps5
  go_wp2_with fail
  refine (first w0).mono ?_
  rintro e w1 ⟨v1, rfl, hs1, hb1⟩
  have HS1 := Lib.hid hs1
  have HB1 := Lib.hid hb1
  clear hs1 hb1
  go_wp2_with fail
  refine (equal v1 _ [1, 0] [1, 0] _ (HS1.out.keep ((Below.refl _ _).alloc (Nat.le_refl _) _)) (sl_lit (v := #[.int .i64 1, .int .i64 0]) (by decide))).mono ?_
  rintro e w2 ⟨rfl, hb2⟩
  have HB2 : Hid (Below w0.heap.size w0 w2) := by
    have h1 : Below w0.heap.size w0 (w0.alloc (.cells #[.bool true] 4)) := (Below.refl _ _).alloc (Nat.le_refl _) _
    have h2 : Below w0.heap.size w0 w1 := h1.trans (HB1.out.mono (by simp))
    have h3 := h2.alloc h2.size (.cells #[.int .i64 1, .int .i64 0] 3)
    exact h3.trans (hb2.mono h3.size)
  clear hb2 HB1 HS1
  have hT : (([1, 0] : List Int) == [1, 0]) = true := by decide
  rw [hT]
  clear hT
  go_wp2_with fail
  refine (order_good n a cap l w2 hn (HV0.out.keep HB2.out) hL).mono ?_
  rintro e w ⟨v3, rfl, hs3, hb3⟩
  have HV := Lib.hid (HV0.out.keep (HB2.out.trans (hb3.mono HB2.out.size)))
  have HB0 := Lib.hid (HB2.out.trans (hb3.mono HB2.out.size))
  obtain ⟨K3, E3, L3, HRES⟩ : ∃ K3 E3 L3, Hid (ordErr (Draw.ord n (Draw.upto n) l) = (E3, K3, L3)) := ⟨_, _, _, rfl⟩
  rw [HRES.out] at hs3 ⊢
  dsimp only at hs3 ⊢
  have HS3 := Lib.hid hs3
  clear hs3 hb3 HB2 HV0 w2
  obtain ⟨a3, cap3, rfl⟩ := HS3.out.form
  rw [ints_len] at HS3 ⊢
  go_wp2_with fail
  go_loopw [11, 61] (fun m t wr => ∃ k : Nat, k ≤ n ∧ t = .int .i64 k ∧ Hid (wr.ownsRow w.heap.size 3 1 m k (ints (Draw.upto k))) ∧ Hid (Below w.heap.size w wr)) (fun _ t _ => n - (intOf t).toNat)
  case atStart => exact ⟨0, by omega, rfl, World.ownsRow_nil _ _ _ _, Below.refl _ _⟩
  case round =>
    obtain ⟨k, hk, rfl, HO, HB⟩ := hrel
    have hz := HB.out.size
    by_cases hlt : k < n
    · go_wp2_with (at_builtin; refine wp_app1 elInt rfl _ _ rfl HO.out rfl rfl rfl rfl ?_ ?_ hz ?_)
      · omega
      · unfold maxLen; omega
      · intro v' w' hown hg
        have HO3 : Hid (w'.ownsRow w.heap.size 3 1 v' (k + 1) (ints (Draw.upto (k + 1)))) := by
          rw [Draw.upto_succ, ints_append]; exact hown
        have HB3 := Lib.hid (HB.out.grown hg hz (fun b hb => (HO.out.lt b hb).1))
        clear hown hg HO HB
        go_wp2
        exact ⟨⟨k + 1, by omega, by go_num, HO3, HB3⟩, by simp [intOf]; omega⟩
    · obtain rfl : k = n := by omega
      rcases HO.out.2 with ⟨hu, hk0⟩ | ⟨g, capl, cur, hu, hg, hh, hnn, hcc, hs, ht⟩
      · subst hu
        subst hk0
        have hE := HRES.out
        have h2 : Draw.ord 0 (Draw.upto 0) l = some ([], 0) := rfl
        rw [h2] at hE
        simp [ordErr] at hE
        obtain ⟨rfl, rfl, rfl⟩ := hE
        have HBF := Lib.hid (HB0.out.trans (HB.out.mono HB0.out.size))
        have HSN : Hid (Sl wr (.slice none 0 0) (ints [])) := sl_of_own (World.ownsRow_nil _ 0 0 1)
        have HS4 := Lib.hid (HS3.out.keep HB.out)
        clear h2 HRES HO
        go_wp2
        refine wp_loop_rounds 1 ?_
        rw [rounds_succ]
        go_wp2_with fail
        refine (equal _ _ [] [] _ HS4.out HSN.out).mono ?_
        rintro e w5 ⟨rfl, hb5⟩
        have HB5 := Lib.hid (HBF.out.trans (hb5.mono HBF.out.size))
        clear hb5
        go_wp2_with fail
        go_ret
        exact ⟨rfl, HB5.out⟩
      · subst hu
        have HG : Hid (g < wr.heap.size) := (Array.getElem?_eq_some_iff.1 hh).1
        have HGW := Lib.hid hg
        have HM : Hid (Draw.Mid k (Draw.upto k) l (Draw.upto k) [] 0) := by
          have := Draw.mid_start (Draw.upto k) l
          rw [Draw.upto_len] at this; exact this
        have HO1 : Hid (wr.ownsRow w.heap.size 3 1 (.slice (some ⟨g, 0, none⟩) (Draw.upto k).length capl) (Draw.upto k).length (ints (Draw.upto k))) := by
          rw [Draw.upto_len]; exact HO
        clear HO hg hh hs ht hnn hcc cur
        have HR : Hid (OrdRel w wr.heap.size g capl l k (Draw.upto k) [] 0 (.slice none 0 0) wr) :=
          ⟨by omega, by rw [Draw.upto_len]; simp, HO1.out, World.ownsRow_nil _ _ _ _, HM.out, HB.out, Nat.le_refl _, HG.out⟩
        generalize hB : wr.heap.size = B at *
        clear hB HO1 HM HB HG HGW hz
        go_wp2
        go_loopw [11, 12, 14] (fun v7 v8 v10 wq => ∃ (L O : List Int) (p : Nat), v7 = .slice (some ⟨g, 0, none⟩) L.length capl ∧ v10 = .int .i64 p ∧ Hid (OrdRel w B g capl l k L O p v8 wq)) (fun v7 _ _ _ => match v7 with | .slice _ n _ => n | _ => 0)
        case atStart => exact ⟨Draw.upto k, [], 0, by rw [Draw.upto_len], rfl, HR⟩
        case round =>
          clear HR
          obtain ⟨L, O, p, rfl, rfl, HR⟩ := hrel
          have hp := HR.out.used
          have hlen := HR.out.len
          have HBF := Lib.hid (HB0.out.trans (HR.out.below.mono HB0.out.size))
          by_cases hL : 0 < L.length
          · obtain ⟨vs, HVS, HSL⟩ : ∃ vs, Hid (vs = Value.slice (if cap = p then a else a.map fun x => x.add p) (l.length - p) (cap - p)) ∧ Hid (Sl wr vs (bools (l.drop p))) := by
              have HS := HV.out.keep HR.out.below
              refine ⟨_, rfl, ?_⟩
              have e : bools (l.drop p) = (bools l).drop p := by simp [bools]
              rw [e]
              by_cases hcp : cap = p
              · rw [if_pos hcp]
                have h3 : l.length - p = 0 := by omega
                rw [h3]
                exact HS.rest_end p (by omega) _ (by omega)
              · rw [if_neg hcp]
                exact HS.rest hp hcp
            have hpl : (p : Int) ≤ (l.length : Int) := by omega
            have hLi : (0 : Int) < (L.length : Int) := by omega
            have HN := Lib.hid (coins (L.length : Int) vs (l.drop p) wr HSL.out (by simp; omega) (by omega) (by omega))
            rw [HVS.out, Int.toNat_natCast] at HN
            clear HVS HSL vs
            have hcl := HR.out.left.cellAt
            cases hnum : Draw.num L.length (l.drop p) with
            | none =>
              rw [hnum] at HN
              have hE := HRES.out
              rw [Draw.mid_none HR.out.mid hL hnum] at hE
              simp [ordErr] at hE
              obtain ⟨rfl, rfl, rfl⟩ := hE
              clear hnum hcl HR HRES
              simp only [coinRes] at HN
              by_cases hcp : cap = p
              all_goals
                first | (rw [if_pos hcp] at HN; subst hcp; rw [show l.length - cap = 0 by omega, Nat.sub_self] at HN) | rw [if_neg hcp] at HN
                go_wp2_with fail
                refine HN.out.mono ?_
                rintro e w' ⟨rfl, rfl⟩
                go_wp2_with fail
                go_ret
                exact ⟨rfl, HBF.out⟩
            | some q =>
              obtain ⟨i, u⟩ := q
              rw [hnum] at HN
              have hlt := Draw.num_lt hnum
              have hi := hlt.1
              have hu := hlt.2
              rw [List.length_drop] at hu
              have hcell := hcl i (by omega)
              rw [List.getElem?_eq_getElem (by rw [ints_len]; exact hi), ints_get] at hcell
              have HX : Hid (L[i] = L.getD i 0) := by show _ = _; simp [List.getD, hi]
              rw [HX.out] at hcell
              generalize hgx : L.getD i 0 = x at *
              have HGX := Lib.hid hgx
              clear hgx
              have HNUM := Lib.hid hnum
              clear hcl hnum hlt
              simp only [coinRes] at HN
              have hz : B ≤ wr.heap.size := HR.out.size
              have hpu : (p : Int) + (u : Int) ≤ (l.length : Int) := by omega
              by_cases hcp : cap = p
              all_goals
                first | (rw [if_pos hcp] at HN; subst hcp; rw [show l.length - cap = 0 by omega, Nat.sub_self] at HN) | rw [if_neg hcp] at HN
                go_wp2_with fail
                refine HN.out.mono ?_
                rintro e w' ⟨rfl, rfl⟩
                clear HN
                go_wp2_with (at_builtin; refine wp_app1 elInt rfl _ _ rfl HR.out.out rfl rfl rfl rfl ?_ ?_ hz ?_)
              all_goals try omega
              all_goals try (unfold maxLen; omega)
              all_goals
                intro v' w1 hown hg
                obtain ⟨q1, q2, q3, q4⟩ := HR.out.taken hown hg
                have Q1 := Lib.hid q1
                have Q2 := Lib.hid q2
                have Q3 := Lib.hid q3
                have Q4 := Lib.hid q4
                clear hown hg q1 q2 q3 q4
                go_wp2_with fail
                refine (delete_own w1 w.heap.size g L.length capl i (ints L) Q1.out hi (ints_one L)).mono ?_
                rintro e w2 ⟨rfl, hd, hg2⟩
                have HR2 := Lib.hid (HR.out.next hL HNUM.out (by rw [HGX.out]; exact Q2.out) Q3.out Q4.out hd hg2)
                clear hd hg2 HR Q1 Q2 Q3 Q4
                go_wp2_with fail
                refine ⟨⟨L.eraseIdx i, _, _, ?_, ?_, HR2⟩, ?_⟩
                · rw [List.length_eraseIdx, if_pos hi]
                · go_num
                · simp; omega
          · have hL0 : L = [] := List.eq_nil_of_length_eq_zero (by omega)
            subst hL0
            have hE := HRES.out
            rw [Draw.mid_end HR.out.mid] at hE
            simp [ordErr] at hE
            obtain ⟨rfl, rfl, rfl⟩ := hE
            have HS4 := Lib.hid (HS3.out.keep HR.out.below)
            have HSN := Lib.hid (sl_of_own HR.out.out)
            clear HRES HR
            go_wp2_with fail
            refine (equal _ _ O O _ HS4.out HSN.out).mono ?_
            rintro e w5 ⟨rfl, hb5⟩
            have HB5 := Lib.hid (HBF.out.trans (hb5.mono HBF.out.size))
            clear hb5
            have hT : (O == O) = true := by simp
            rw [hT]
            go_wp2_with fail
            go_ret
            exact ⟨rfl, HB5.out⟩

theorem walk (n : Int) (v1 : Value) (l : List Bool) (w : World) (_ : (Lit.int .i64 n).wf = true) (h1 : Sl w v1 (bools l)) (b1 : l.length * 1 ≤ 140737488351232) :
    Calls Try.prog 5 #[.int .i64 n, v1] w fun e w' => e = .returned (.bool true) ∧ Below w.heap.size w w' := by
  by_cases h : n < 0 ∨ 100 < n
  · exact arg n v1 w h
  · obtain ⟨m, rfl⟩ := Int.eq_ofNat_of_zero_le (show 0 ≤ n by omega)
    obtain ⟨a, cap, rfl⟩ := h1.form
    rw [bools_len] at h1 ⊢
    exact good m a cap l w (by omega) h1 (by omega)
end DrawOrders
end Go.Proofs.Ytfbacnifankfkaa
