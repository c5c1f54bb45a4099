/- The contract of slices.Insert of one occurrence into a row of the call's own. -/
import Derived.Test.YthkdeljlhplkgaaAttrRefs
import Derived.Test.YthkdeljlhplkgaaAppRow
import Derived.Test.YthkdeljlhplkgaaCopyK
import Derived.Deep.RegionLaw
import Derived.IntWalk
import Derived.Laws.Externs
namespace Go.Proofs.Ythkdeljlhplkgaa
open Go.RowKit
namespace At

theorem refC_ones (l : List Ref) : ∀ v ∈ refC l, v.oneCell' = true := by
  intro v hv
  unfold refC at hv
  rw [List.mem_flatMap] at hv
  obtain ⟨x, _, hx⟩ := hv
  simp at hx
  rcases hx with rfl | rfl <;> rfl
theorem ins_room {α : Type} (A D R X : List α) (hX : X.length = 2) (hR : 2 ≤ R.length) :
    (((((A ++ D ++ R).take (A.length + 2) ++ D ++ (A ++ D ++ R).drop (A.length + 2 + D.length)).take A.length ++ X) ++ ((A ++ D ++ R).take (A.length + 2) ++ D ++ (A ++ D ++ R).drop (A.length + 2 + D.length)).drop (A.length + 2)).take (A.length + 2 + D.length)) = A ++ X ++ D := by
  generalize hS : (A ++ D ++ R).drop (A.length + 2 + D.length) = S
  have hP : ((A ++ D ++ R).take (A.length + 2)).length = A.length + 2 := by rw [List.length_take]; simp; omega
  have hPA : ((A ++ D ++ R).take (A.length + 2)).take A.length = A := by
    rw [List.take_take, Nat.min_eq_left (by omega), List.append_assoc, List.take_left']; rfl
  generalize (A ++ D ++ R).take (A.length + 2) = P at hP hPA
  have h1 : (P ++ D ++ S).take A.length = A := by
    rw [List.append_assoc, List.take_append_of_le_length (by omega), hPA]
  have h2 : (P ++ D ++ S).drop (A.length + 2) = D ++ S := by
    rw [List.append_assoc, List.drop_left' hP]
  rw [h1, h2, ← List.append_assoc]
  rw [List.take_left']
  simp [hX]; omega
theorem ins_grow {α : Type} (A D Z X : List α) (hX : X.length = 2) (hZ : 2 + D.length ≤ Z.length) :
    ((((A ++ Z).take A.length ++ X ++ (A ++ Z).drop (A.length + 2)).take (A.length + 2) ++ D ++ ((A ++ Z).take A.length ++ X ++ (A ++ Z).drop (A.length + 2)).drop (A.length + 2 + D.length)).take (A.length + 2 + D.length)) = A ++ X ++ D := by
  have h1 : (A ++ Z).take A.length = A := by rw [List.take_left']; rfl
  rw [h1]
  have h2 : (A ++ X ++ (A ++ Z).drop (A.length + 2)).take (A.length + 2) = A ++ X := by rw [List.take_left']; simp [hX]
  rw [h2, List.take_left']
  simp [hX]; omega
theorem refC_split (L : List Ref) (i : Nat) : refC L = refC (L.take i) ++ refC (L.drop i) := by rw [← refC_append, List.take_append_drop]
theorem grown_new {a b c : World} {row : Option Nat} {q : Nat} (h : a.grownBy b row) (k : b.grownBy c (some q)) (hq : a.heap.size ≤ q) : a.grownBy c row :=
  ⟨k.os.trans h.os, k.tape.trans h.tape, k.output.trans h.output, Nat.le_trans h.size k.size, fun i hi hn => (k.block i (Nat.lt_of_lt_of_le hi h.size) (fun e => by simp at e; omega)).trans (h.block i hi hn)⟩
def InsPost (B : Nat) (L : List Ref) (i : Nat) (x : Ref) (u : Value) (w : World) (e : Ending) (w' : World) : Prop :=
  ∃ u', e = .returned u' ∧ w'.ownsRow B 30 2 u' (L.length + 1) (refC (L.take i ++ x :: L.drop i)) ∧ w.grownBy w' u.ownBlock

set_option maxHeartbeats 4000000 in
set_option maxRecDepth 100000 in
theorem insertRef (B : Nat) (L : List Ref) (x : Ref) (i : Nat) (hi : i ≤ L.length) (u : Value) (vb : Nat) (w : World) (hown : w.ownsRow B 30 2 u L.length (refC L)) (hvb : w.heap[vb]? = some (.cells #[.int .i64 x.at', .int .i64 x.attr] 30 (0, 0))) (hne : u.ownBlock ≠ some vb) (hB : B ≤ w.heap.size) (hlen : L.length ≤ 100000) :
    Calls Try.prog 23 #[u, .int .i64 (i : Int), .slice (some ⟨vb, 0, none⟩) 1 1] w (InsPost B L i x u w) := by
  obtain ⟨a, cap, hu, hc1, hc2⟩ := own_len hown
  unfold maxLen at hc2
  have HO := Lib.hid hown
  have HV := Lib.hid hvb
  have hi0 : (0 : Int) ≤ (i : Int) := by omega
  by_cases hin : i = L.length
  · have HFIN : Hid (∀ u' w', w'.ownsRow B 30 2 u' (L.length + 1) (refC L ++ [.int .i64 x.at', .int .i64 x.attr]) → w.grownBy w' u.ownBlock → InsPost B L i x u w (.returned u') w') := by
      intro u' w' h1 h2
      refine ⟨u', rfl, ?_, h2⟩
      rw [hin, List.take_length, List.drop_length, refC_append]
      exact h1
    obtain ⟨n, HN⟩ := nameIt L.length
    have hin' := hin
    rw [HN.out] at hin' hc1 hlen hu HO HFIN
    subst hin'
    subst hu
    have HVO := Lib.hid (own_of_blockB (B := 0) (n := 1) (size := 2) hvb (Nat.zero_le _) rfl (by simp [maxLen]))
    clear hown hvb hin
    by_cases hci : cap = i
    · subst hci
      go_enter Try.func23, Try.ntmps23
      go_wp2_with (at_builtin; refine wp_appRow elRef (by rfl) _ _ (by rfl) HO.out (by rfl) HVO.out (by rfl) (by simp [Value.oneCell']) (by omega) (by unfold maxLen; omega) hB ?_)
      intro v' w' ho hg hat
      have HO1 := Lib.hid ho
      have HG1 := Lib.hid hg
      obtain ⟨a', c', rfl, -, -⟩ := own_len ho
      clear ho hg hat
      go_wp2_with fail
      go_ret
      exact HFIN.out _ _ HO1.out HG1.out
    ·
      go_enter Try.func23, Try.ntmps23
      go_wp2_with (at_builtin; refine wp_appRow elRef (by rfl) _ _ (by rfl) HO.out (by rfl) HVO.out (by rfl) (by simp [Value.oneCell']) (by omega) (by unfold maxLen; omega) hB ?_)
      intro v' w' ho hg hat
      have HO1 := Lib.hid ho
      have HG1 := Lib.hid hg
      obtain ⟨a', c', rfl, -, -⟩ := own_len ho
      clear ho hg hat
      go_wp2_with fail
      go_ret
      exact HFIN.out _ _ HO1.out HG1.out
  · have hin2 : i < L.length := by omega
    obtain ⟨hl2, hrow⟩ := hown
    rcases hrow with ⟨rfl, h0⟩ | ⟨g, cap', cur, hu', hg, hh, hnc, hcm, hcs, htk⟩
    · omega
    rw [hu] at hu'
    obtain ⟨rfl, rfl⟩ : a = some ⟨g, 0, none⟩ ∧ cap = cap' := by simpa using hu'
    subst hu
    have hvg : vb ≠ g := fun e => hne (by rw [e]; rfl)
    have HTK := Lib.hid htk
    have HH := Lib.hid hh
    have hvlt := (Array.getElem?_eq_some_iff.1 hvb).1
    have hglt := (Array.getElem?_eq_some_iff.1 hh).1
    have HSZ := Lib.hid hcs
    have HGB := Lib.hid hg
    obtain ⟨n, HN⟩ := nameIt L.length
    rw [HN.out] at hin2 hnc hlen HTK
    rw [HN.out]
    have hinf : (Try.prog.info? 30).map (·.size) = some 2 := by kernel_rfl
    have hci : ¬ cap = i := by omega
    have hci1 : ¬ (i : Int) = (n : Int) := by omega
    have hii : (i : Int) < (n : Int) := by omega
    -- the row's cells
    have HCUR : Hid (∀ k (h : k < n * 2), cur[k]? = (refC L)[k]?) := by
      intro k hk
      have h := congrArg (fun l => l[k]?) HTK.out
      simp only [List.getElem?_take] at h
      rw [if_pos hk] at h
      simpa using h
    clear hu' hcs htk hl2
    by_cases hroom : cap < n + 1
    · obtain ⟨i0, hi9, hz0, hz1, hz2⟩ := info_parts (show (Try.prog.info? 30).map (fun i => (i.zero, i.size, i.bytes)) = some (some (.agg #[.int .i64 0, .int .i64 0]), 2, 16) by kernel_rfl)
      have hGle := grownCap_le_maxLen w (n + 1) cap 30 (by unfold maxLen; omega)
      have hGge := grownCap_ge w (n + 1) cap 30
      unfold maxLen at hGle
      have hik : i + (n + 1 - i) = n + 1 := by omega
      have hAl : (refC (L.take i)).length = i * 2 := by rw [refC_len, List.length_take, HN.out, Nat.min_eq_left (by omega)]
      have hDl : (refC (L.drop i)).length = (n - i) * 2 := by rw [refC_len, List.length_drop, HN.out]
      have hcA : ∀ j v, (refC (L.take i))[j]? = some v → w.cell? ⟨g, j, none⟩ = some v := by
        intro j v hj
        obtain ⟨hj1, _⟩ := List.getElem?_eq_some_iff.1 hj
        rw [hAl] at hj1
        have h1 : (refC L)[j]? = some v := by rw [refC_split L i, List.getElem?_append_left (by omega)]; exact hj
        have h2 := HCUR.out j (by omega)
        rw [h1] at h2
        simp [World.cell?, HH.out, h2]
      have hcD : ∀ j v, (refC (L.drop i))[j]? = some v → w.cell? ⟨g, i * 2 + j, none⟩ = some v := by
        intro j v hj
        obtain ⟨hj1, _⟩ := List.getElem?_eq_some_iff.1 hj
        rw [hDl] at hj1
        have h1 : (refC L)[i * 2 + j]? = some v := by rw [refC_split L i, List.getElem?_append_right (by omega), hAl]; simpa using hj
        have h2 := HCUR.out (i * 2 + j) (by omega)
        rw [h1] at h2
        simp [World.cell?, HH.out, h2]
      have hold : (Builtin.firstCells i0.size i (.slice (some ⟨g, 0, none⟩) i cap)).run Try.prog w.drew = .ok (refC (L.take i)).toArray w.drew := by
        rw [hz1]
        exact run_firstCells_some w.drew 2 i ⟨g, 0, none⟩ i cap (refC (L.take i)) (by rw [hAl]) (fun j v hj => by
          rw [add_at, Nat.zero_add]
          exact hcA j v hj)
      obtain ⟨G, HGG⟩ := nameIt (grownCap w (n + 1) cap 30)
      rw [HGG.out] at hGle hGge
      obtain ⟨ROW, HROW⟩ := nameIt ((refC (L.take i)).toArray ++ Builtin.zeroCells (Value.agg #[.int .i64 0, .int .i64 0]).cells (n + 1 - i) ++ Builtin.zeroCells (Value.agg #[.int .i64 0, .int .i64 0]).cells (G - (n + 1)))
      have hkk : (n : Int) + 1 - (i : Int) = ((n + 1 - i : Nat) : Int) := by omega
      have hrz : ∀ ty, (Builtin.append_ #[36, 3] ty #[.slice (some ⟨g, 0, none⟩) i cap, .int .i64 ((n : Int) + 1 - (i : Int))]).run Try.prog w = .ok (.slice (some ⟨w.heap.size, 0, none⟩) (n + 1) G) (w.drew.alloc (.cells ROW 30)) := fun ty => by
        have h := Lib.run_append_grow_zeros w 36 3 ty 30 i0 _ .i64 .i64 Try.underlying36 Try.underlying3 hi9 hz0 (some ⟨g, 0, none⟩) i cap (refC (L.take i)) hold (n + 1 - i) (by omega) (by rw [hz1]; omega) (by omega) (by omega) (by rw [hz2]; omega) (by rw [hz2, hik]; exact growslice_fits hroom (by omega))
        rw [hik, HGG.out, HROW.out] at h
        rw [hkk]
        exact h
      have hRs : ROW.size = G * 2 := by
        rw [← HROW.out]
        simp [Builtin.zeroCells, Value.cells, hAl]
        omega
      obtain ⟨Z, hZ⟩ : ∃ Z : List Value, ROW.toList = refC (L.take i) ++ Z := ⟨(Builtin.zeroCells (Value.agg #[.int .i64 0, .int .i64 0]).cells (n + 1 - i)).toList ++ (Builtin.zeroCells (Value.agg #[.int .i64 0, .int .i64 0]).cells (G - (n + 1))).toList, by rw [← HROW.out]; simp only [Array.toList_append, List.append_assoc]⟩
      have hZl : 2 + (refC (L.drop i)).length ≤ Z.length := by
        have h1 := congrArg List.length hZ
        rw [List.length_append, hAl, Array.length_toList, hRs] at h1
        rw [hDl]
        omega
      have HIR := Lib.hid (ins_grow (refC (L.take i)) (refC (L.drop i)) Z [.int .i64 x.at', .int .i64 x.attr] rfl hZl)
      rw [← hZ, hAl, hDl] at HIR
      obtain ⟨gn, HGN⟩ := nameIt w.heap.size
      have hgng : gn ≠ g := by have := HGN.out; omega
      have hgnv : gn ≠ vb := by have := HGN.out; omega
      have HGNB : Hid (B ≤ gn) := by show _ ≤ _; rw [← HGN.out]; exact hB
      obtain ⟨W1, HW1⟩ := nameIt (w.drew.alloc (.cells ROW 30))
      have hb1 : Below w.heap.size w W1 := by rw [← HW1.out]; exact (Below.refl _ _).drew.alloc (by simp) _
      have hg1 : W1.heap[gn]? = some (.cells ROW 30 (0, 0)) := by rw [← HW1.out]; exact bx_new _ _ _ HGN.out.symm
      have hv1 : W1.heap[vb]? = some (.cells #[.int .i64 x.at', .int .i64 x.attr] 30 (0, 0)) := bx_keep HV.out hb1
      have hh1 := bx_keep HH.out hb1
      obtain ⟨cur1, HC1⟩ := nameIt ((ROW.toList.take (i * 2) ++ ([.int .i64 x.at', .int .i64 x.attr] : List Value) ++ ROW.toList.drop (i * 2 + 2)).toArray)
      have hcp1 : ∀ ty dc, (Builtin.copy_ #[36, 36] ty #[.slice (some ⟨gn, i * 2, none⟩) (n + 1 - i) dc, .slice (some ⟨vb, 0, none⟩) 1 1]).run Try.prog W1 = .ok (goInt 1) (W1.setRow gn cur1) := by
        intro ty dc
        have h := run_copy_rowK (P := Try.prog) W1 36 36 ty 30 2 1 gn (i * 2) (n + 1 - i) dc ⟨vb, 0, none⟩ 1 1 ROW 30 [.int .i64 x.at', .int .i64 x.attr] Try.underlying36 hinf hg1 (by show min 1 (n + 1 - i) = 1; omega) (by simp) (fun j v hj => by
          rw [add_at]
          have hj2 : #[Value.int .i64 x.at', .int .i64 x.attr][j]? = some v := by simpa using hj
          simp [World.cell?, hv1, hj2]) (by simp [hRs]; omega) (by simp [Value.oneCell'])
        rw [show [Value.int .i64 x.at', Value.int .i64 x.attr].length = 2 from rfl, HC1.out] at h
        exact h
      obtain ⟨W2, HW2⟩ := nameIt (W1.setRow gn cur1)
      have hg2 : W2.heap[gn]? = some (.cells cur1 30 (0, 0)) := by rw [← HW2.out]; exact setRow_heap _ _ _ _ _ _ hg1
      have hh2 : W2.heap[g]? = some (.cells cur 30 (0, 0)) := by rw [← HW2.out, setRow_block _ _ _ (fun e => hgng e.symm)]; exact hh1
      have hs1 : cur1.size = G * 2 := by rw [← HC1.out]; simp [hRs]; omega
      obtain ⟨cur2, HC2⟩ := nameIt ((cur1.toList.take (i * 2 + 2) ++ refC (L.drop i) ++ cur1.toList.drop (i * 2 + 2 + (n - i) * 2)).toArray)
      have hcp2 : ∀ ty dc sc, (Builtin.copy_ #[36, 36] ty #[.slice (some ⟨gn, (i + 1) * 2, none⟩) (n + 1 - (i + 1)) dc, .slice (some ⟨g, i * 2, none⟩) (n - i) sc]).run Try.prog W2.drew = .ok (goInt ((n - i : Nat) : Int)) (W2.drew.setRow gn cur2) := by
        intro ty dc sc
        have h := run_copy_rowK (P := Try.prog) W2.drew 36 36 ty 30 2 (n - i) gn ((i + 1) * 2) (n + 1 - (i + 1)) dc ⟨g, i * 2, none⟩ (n - i) sc cur1 30 (refC (L.drop i)) Try.underlying36 hinf hg2 (by show min (n - i) (n + 1 - (i + 1)) = n - i; omega) (by rw [hDl]) (fun j v hj => by
          rw [add_at]
          have h1 := hcD j v hj
          unfold World.cell? at h1 ⊢
          rw [show W2.drew.heap = W2.heap from rfl, hh2]
          rw [HH.out] at h1
          exact h1) (by rw [hDl, hs1]; omega) (fun v hv => refC_ones _ v hv)
        rw [hDl, show (i + 1) * 2 = i * 2 + 2 by omega, HC2.out] at h
        rw [show (i + 1) * 2 = i * 2 + 2 by omega]
        exact h
      obtain ⟨W3, HW3⟩ := nameIt (W2.drew.setRow gn cur2)
      have hg3 : W3.heap[gn]? = some (.cells cur2 30 (0, 0)) := by rw [← HW3.out]; exact setRow_heap _ _ _ _ _ _ hg2
      have hs3 : cur2.size = G * 2 := by rw [← HC2.out]; simp [hs1, hDl]; omega
      have hgr : w.grownBy W3 (some g) := by
        rw [← HW3.out, ← HW2.out]
        exact grown_new (grown_trans (grown_new (grown_below hb1 _) (grown_setRow W1 gn cur1) (by rw [HGN.out]; exact Nat.le_refl _)) (grown_drew _ _)) (grown_setRow _ _ _) (by rw [HGN.out]; exact Nat.le_refl _)
      have HFIN : Hid (InsPost B L i x (.slice (some ⟨g, 0, none⟩) n cap) w (.returned (.slice (some ⟨gn, 0, none⟩) (n + 1) G)) W3) := by
        refine ⟨_, rfl, ?_, hgr⟩
        rw [HN.out]
        refine ⟨by rw [refC_len]; simp [HN.out]; omega, .inr ⟨gn, G, cur2, rfl, HGNB.out, hg3, hGge, by unfold maxLen; omega, hs3, ?_⟩⟩
        have h := HIR.out
        rw [show i * 2 + 2 + (n - i) * 2 = (n + 1) * 2 by omega] at h
        rw [← HC2.out, ← HC1.out]
        simp only [List.toList_toArray]
        rw [show i * 2 + 2 + (n - i) * 2 = (n + 1) * 2 by omega]
        rw [h, refC_append, show x :: L.drop i = [x] ++ L.drop i from rfl, refC_append, ← List.append_assoc]
        rfl
      rw [HGN.out, HW1.out] at hrz
      simp only [HW2.out] at hcp1
      rw [HW3.out] at hcp2
      have hw1 : IntKind.i64.wrap ((n : Int) + 1) = (n : Int) + 1 := IntWalk.i64_in _ (by omega)
      have hw2 : IntKind.i64.wrap ((i : Int) + 1) = (i : Int) + 1 := IntWalk.i64_in _ (by omega)
      have hw3 : IntKind.i64.wrap ((n : Int) + 1 - (i : Int)) = (n : Int) + 1 - (i : Int) := IntWalk.i64_in _ (by omega)
      have ht2 : ((i : Int) + 1).toNat = i + 1 := by omega
      have hc3 : (cap : Int) < (n : Int) + 1 := by omega
      have hc5 : (i : Int) + 1 ≤ (n : Int) + 1 := by omega
      have hc6 : (i : Int) ≤ (n : Int) + 1 := by omega
      have hc7 : (0 : Int) ≤ (i : Int) + 1 := by omega
      have hc9 : ¬ G = i := by omega
      have hc10 : ¬ G = i + 1 := by omega
      have hc11 : i ≤ cap := by omega
      have hc12 : (i : Int) ≤ (n : Int) := by omega
      clear hvb hh hik hAl hDl hcA hcD hold hkk hRs hZ hZl hg1 hv1 hh1 hg2 hh2 hs1 hg3 hs3 hgr hb1 hinf hi9 hz0 hz1 hz2
      go_enter Try.func23, Try.ntmps23
      go_wp2_with (at_builtin; refine Lib.wpList_append_run _ rfl _ _ 36 3 rfl _ _ rfl rfl _ _ (hrz _) ?_)
      go_region_law (refine step_copyK rfl _ _ 36 36 rfl (by simp [Act.eval, Act.put]; try rfl) (by simp [Act.eval, Act.put]; try rfl) (hcp2 _ _ _) ?_)
      all_goals
        go_wp2_with fail
        go_ret
        exact HFIN.out
    · have hroom2 : n + 1 ≤ cap := by omega
      have hci2 : ¬ cap = i + 1 := by omega
      have hov : ∀ lb cb, (callFunc 38 #[.slice (some ⟨vb, 0, none⟩) 1 1, .slice (some ⟨g, (i + 1) * 2, none⟩) lb cb]).run Try.prog w = .ok (.value (.bool false)) w := fun lb cb => by
        rw [run_callFunc_extern Try.func38 (by kernel_rfl) (by kernel_rfl) (by kernel_rfl) (e := Extern.SlicesOverlaps.overlaps #[36, 36] #[4]) (by kernel_rfl),
          Lib.run_overlaps_apart w 36 4 30 Try.underlying36 2 (fun W => by kernel_rfl) ⟨vb, 0, none⟩ ⟨g, (i + 1) * 2, none⟩ 1 1 lb cb hvg 30 30 2 cur.size (by simp [World.shape?, HV.out]) (by simp [World.shape?, HH.out]) (by rw [HSZ.out]; omega) (by simp [World.frozen?, HV.out]) (by simp [World.frozen?, HV.out])]
        rfl
      have hw1 : IntKind.i64.wrap ((n : Int) + 1) = (n : Int) + 1 := IntWalk.i64_in _ (by omega)
      have hw2 : IntKind.i64.wrap ((i : Int) + 1) = (i : Int) + 1 := IntWalk.i64_in _ (by omega)
      have ht1 : ((n : Int) + 1).toNat = n + 1 := by omega
      have ht2 : ((i : Int) + 1).toNat = i + 1 := by omega
      have hc3 : ¬ (cap : Int) < (n : Int) + 1 := by omega
      have hc4 : (n : Int) + 1 ≤ (cap : Int) := by omega
      have hc5 : (i : Int) + 1 ≤ (n : Int) + 1 := by omega
      have hc6 : (i : Int) ≤ (n : Int) + 1 := by omega
      have hc7 : (0 : Int) ≤ (i : Int) + 1 := by omega
      have hc8 : (0 : Int) ≤ (n : Int) + 1 := by omega
      clear hvb hh
      go_enter Try.func23, Try.ntmps23
      go_upto_region 15 with fail
      obtain ⟨R, hR⟩ : ∃ R : List Value, cur.toList = refC L ++ R := ⟨cur.toList.drop (n * 2), by conv => lhs; rw [← List.take_append_drop (n * 2) cur.toList, HTK.out]⟩
      have hRl : 2 ≤ R.length := by
        have h1 := congrArg List.length hR
        rw [List.length_append, refC_len, Array.length_toList, HSZ.out, HN.out] at h1
        omega
      rw [refC_split L i] at hR
      have hAl : (refC (L.take i)).length = i * 2 := by rw [refC_len, List.length_take, HN.out, Nat.min_eq_left (by omega)]
      have hDl : (refC (L.drop i)).length = (n - i) * 2 := by rw [refC_len, List.length_drop, HN.out]
      have HIR := Lib.hid (ins_room (refC (L.take i)) (refC (L.drop i)) R [.int .i64 x.at', .int .i64 x.attr] rfl hRl)
      rw [← hR, hAl, hDl] at HIR
      have hcell : ∀ j v, (refC (L.drop i))[j]? = some v → w.cell? ⟨g, i * 2 + j, none⟩ = some v := by
        intro j v hj
        obtain ⟨hj1, _⟩ := List.getElem?_eq_some_iff.1 hj
        rw [hDl] at hj1
        have h1 : (refC L)[i * 2 + j]? = some v := by rw [refC_split L i, List.getElem?_append_right (by omega), hAl]; simpa using hj
        have h2 := HCUR.out (i * 2 + j) (by omega)
        rw [h1] at h2
        simp [World.cell?, HH.out, h2]
      obtain ⟨cur1, HC1⟩ := nameIt ((cur.toList.take (i * 2 + 2) ++ refC (L.drop i) ++ cur.toList.drop (i * 2 + 2 + (n - i) * 2)).toArray)
      have hcp1 : ∀ ty dc sc, (Builtin.copy_ #[36, 36] ty #[.slice (some ⟨g, (i + 1) * 2, none⟩) (n + 1 - (i + 1)) dc, .slice (some ⟨g, i * 2, none⟩) (n + 1 - i) sc]).run Try.prog w.drew =   .ok (goInt ((n - i : Nat) : Int)) (w.drew.setRow g cur1) := by
        intro ty dc sc
        have h := run_copy_rowK (P := Try.prog) w.drew 36 36 ty 30 2 (n - i) g ((i + 1) * 2) (n + 1 - (i + 1)) dc ⟨g, i * 2, none⟩ (n + 1 - i) sc cur 30 (refC (L.drop i)) Try.underlying36 hinf HH.out (by show min (n + 1 - i) (n + 1 - (i + 1)) = n - i; omega) (by rw [hDl]) (fun j v hj => by rw [add_at]; exact hcell j v hj) (by rw [hDl, HSZ.out]; omega) (fun v hv => refC_ones _ v hv)
        rw [hDl, show (i + 1) * 2 = i * 2 + 2 by omega, HC1.out] at h
        rw [show (i + 1) * 2 = i * 2 + 2 by omega]
        exact h
      obtain ⟨W1, HW1⟩ := nameIt (w.drew.setRow g cur1)
      have hg1 : W1.heap[g]? = some (.cells cur1 30 (0, 0)) := by rw [← HW1.out]; exact setRow_heap _ _ _ _ _ _ HH.out
      have hs1 : cur1.size = cap * 2 := by rw [← HC1.out]; simp [hDl, HSZ.out]; omega
      have hv1 : W1.heap[vb]? = some (.cells #[.int .i64 x.at', .int .i64 x.attr] 30 (0, 0)) := by rw [← HW1.out, setRow_block _ _ _ hvg]; exact HV.out
      obtain ⟨cur2, HC2⟩ := nameIt ((cur1.toList.take (i * 2) ++ ([.int .i64 x.at', .int .i64 x.attr] : List Value) ++ cur1.toList.drop (i * 2 + 2)).toArray)
      have hcp2 : ∀ ty dc, (Builtin.copy_ #[36, 36] ty #[.slice (some ⟨g, i * 2, none⟩) (n + 1 - i) dc, .slice (some ⟨vb, 0, none⟩) 1 1]).run Try.prog W1 = .ok (goInt 1) (W1.setRow g cur2) := by
        intro ty dc
        have h := run_copy_rowK (P := Try.prog) W1 36 36 ty 30 2 1 g (i * 2) (n + 1 - i) dc ⟨vb, 0, none⟩ 1 1 cur1 30 [.int .i64 x.at', .int .i64 x.attr] Try.underlying36 hinf hg1 (by show min 1 (n + 1 - i) = 1; omega) (by simp) (fun j v hj => by
          rw [add_at]
          have hj2 : #[Value.int .i64 x.at', .int .i64 x.attr][j]? = some v := by simpa using hj
          simp [World.cell?, hv1, hj2]) (by simp [hs1]; omega) (by simp [Value.oneCell'])
        rw [show [Value.int .i64 x.at', Value.int .i64 x.attr].length = 2 from rfl, HC2.out] at h
        exact h
      obtain ⟨W2, HW2⟩ := nameIt (W1.setRow g cur2)
      have hg2 : W2.heap[g]? = some (.cells cur2 30 (0, 0)) := by rw [← HW2.out]; exact setRow_heap _ _ _ _ _ _ hg1
      have hs2 : cur2.size = cap * 2 := by rw [← HC2.out]; simp [hs1]; omega
      have hgr : w.grownBy W2 (some g) := by rw [← HW2.out, ← HW1.out]; exact grown_trans (grown_trans (grown_drew w _) (grown_setRow _ _ _)) (grown_setRow _ _ _)
      have HFIN : Hid (InsPost B L i x (.slice (some ⟨g, 0, none⟩) n cap) w (.returned (.slice (some ⟨g, 0, none⟩) (n + 1) cap)) W2) := by
        refine ⟨_, rfl, ?_, hgr⟩
        rw [HN.out]
        refine ⟨by rw [refC_len]; simp [HN.out]; omega, .inr ⟨g, cap, cur2, rfl, HGB.out, hg2, hroom2, by unfold maxLen; omega, hs2, ?_⟩⟩
        have h := HIR.out
        rw [show i * 2 + 2 + (n - i) * 2 = (n + 1) * 2 by omega] at h
        rw [← HC2.out, ← HC1.out]
        simp only [List.toList_toArray]
        rw [show i * 2 + 2 + (n - i) * 2 = (n + 1) * 2 by omega]
        rw [h, refC_append, show x :: L.drop i = [x] ++ L.drop i from rfl, refC_append, ← List.append_assoc]
        rfl
      rw [HW1.out] at hcp1
      simp only [HW2.out] at hcp2
      clear hR hRl hAl hDl hcell hg1 hs1 hv1 hg2 hs2 hgr hinf
      go_region_law (refine step_copyK rfl _ _ 36 36 rfl (by simp [Act.eval, Act.put]; try rfl) (by simp [Act.eval, Act.put]; try rfl) (hcp1 _ _ _) ?_)
      all_goals
        go_wp2_with (at_builtin; refine wpl_copyK _ rfl _ _ 36 36 rfl rfl rfl (hcp2 _ _) ?_)
        go_ret
        exact HFIN.out
end At
end Go.Proofs.Ythkdeljlhplkgaa
