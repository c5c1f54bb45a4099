/- The contract of Paths. -/
import Derived.Test.YtjehmleckcmilaaPlacesWalk
import Derived.Test.YtjehmleckcmilaaNodes
namespace Go.Proofs.Ytjehmleckcmilaa
open Go.RowKit

theorem paths_eq (t : Tree) : paths t = [] :: pathsL 0 (kidsOf t) := by
  cases t with
  | node r tm ks => by_cases h : r = -1 <;> simp [paths, kidsOf, Tree.rule, Tree.kids, h, pathsL]
theorem pathsL_append : ∀ (a b : List Tree) (n : Nat), pathsL n (a ++ b) = pathsL n a ++ pathsL (n + a.length) b
  | [], b, n => by simp [pathsL]
  | x :: a, b, n => by
    rw [List.cons_append, pathsL, pathsL, pathsL_append a b, List.append_assoc, List.length_cons]
    congr 3; omega
theorem pathsL_take {ks : List Tree} {i : Nat} (h : i < ks.length) : pathsL 0 (ks.take (i + 1)) = pathsL 0 (ks.take i) ++ (paths ks[i]).map (fun p => (i : Int) :: p) := by
  rw [List.take_succ_eq_append_getElem h, pathsL_append]
  simp [pathsL, Nat.min_eq_left (Nat.le_of_lt h)]
mutual
theorem paths_len : ∀ (t : Tree), (paths t).length = (nodes t).length
  | .node r tm ks => by
    rw [paths, nodes]
    by_cases h : r = -1
    · simp [h]
    · simp [h, pathsL_len ks 0]
theorem pathsL_len : ∀ (ks : List Tree) (n : Nat), (pathsL n ks).length = (nodesL ks).length
  | [], n => by simp [pathsL, nodesL]
  | k :: ks, n => by simp [pathsL, nodesL, paths_len k, pathsL_len ks]
end
mutual
theorem path_le : ∀ (t : Tree), ∀ p ∈ paths t, p.length < (nodes t).length
  | .node r tm ks => by
    rw [paths, nodes]
    by_cases h : r = -1
    · simp [h]
    · have := pathL_le ks 0
      simp only [h, if_false, List.mem_cons, List.length_cons]
      rintro p (rfl | hp)
      · simp
      · have := this p hp; omega
theorem pathL_le : ∀ (ks : List Tree) (n : Nat), ∀ p ∈ pathsL n ks, p.length ≤ (nodesL ks).length
  | [], n => by simp [pathsL]
  | k :: ks, n => by
    rw [pathsL, nodesL]
    intro p hp
    rw [List.mem_append] at hp
    rcases hp with hp | hp
    · rw [List.mem_map] at hp
      obtain ⟨q, hq, rfl⟩ := hp
      have := path_le k q hq
      simp; omega
    · have := pathL_le ks (n + 1) p hp
      simp; omega
end

theorem kid_nodes_lt' {t : Tree} (hr : t.rule ≠ -1) {i : Nat} (h : i < t.kids.length) : (nodes t.kids[i]).length < (nodes t).length := by
  have e : kidsOf t = t.kids := by simp [kidsOf, hr]
  have := nodesL_kid h
  rw [nodes_eq t, e]
  simp; omega
theorem elInts : ElemT Try.prog 49 22 1 24 := ElemT.mk' (z := .slice none 0 0) Try.underlying49 (by kernel_rfl) rfl (by decide)

theorem intsD_cells (l : List (List Int)) : ∀ d ∈ l.map D.ints, d.cells = 1 := by
  intro d hd
  simp at hd
  obtain ⟨p, _, rfl⟩ := hd
  rfl

/-- a row of slices of numbers, all of it new since w -/
structure RowP (w : World) (l : List (List Int)) (v : Value) (wr : World) : Prop where
  own : ∃ xs, wr.ownsRow w.heap.size 22 1 v l.length xs ∧ RdAll (fun k => w.heap.size ≤ k ∧ v.ownBlock ≠ some k) wr (l.map D.ints) xs
  bel : Below w.heap.size w wr
theorem RowP.keep {w : World} {l : List (List Int)} {v : Value} {wr w' : World} (h : RowP w l v wr) (hb : Below wr.heap.size wr w') : RowP w l v w' := by
  obtain ⟨⟨xs, h1, h2⟩, h3⟩ := h
  exact ⟨⟨xs, own_keep h1 hb, h2.below hb⟩, h3.trans (hb.mono h3.size)⟩
theorem RowP.form {w : World} {l : List (List Int)} {v : Value} {wr : World} (h : RowP w l v wr) : ∃ a cap, v = .slice a l.length cap ∧ l.length ≤ cap ∧ cap ≤ maxLen ∧ ∀ k, v.ownBlock = some k → w.heap.size ≤ k ∧ k < wr.heap.size := by
  obtain ⟨⟨xs, h1, h2⟩, h3⟩ := h
  obtain ⟨a, cap, rfl, e1, e2⟩ := own_len h1
  exact ⟨a, cap, rfl, e1, e2, h1.lt⟩
theorem RowP.rd {w : World} {l : List (List Int)} {v : Value} {wr : World} (h : RowP w l v wr) : Rd (fun k => w.heap.size ≤ k) wr (.sl (l.map D.ints)) [v] := by
  obtain ⟨⟨xs, h1, h2⟩, h3⟩ := h
  exact rd_of_own h1 (h2.mono fun k hk _ => hk.1) (by simp) (fun k e => (h1.lt k e).1)
/-- one more: W0: with the new element's numbers; then the append -/
theorem RowP.step {w : World} {l : List (List Int)} {v v' pv : Value} {wr W0 W1 : World} {p : List Int} {g : Nat} (hh : wr.heap.size ≤ g) {xs : List Value} (h1 : wr.ownsRow w.heap.size 22 1 v l.length xs) (h2 : RdAll (fun k => w.heap.size ≤ k ∧ v.ownBlock ≠ some k) wr (l.map D.ints) xs) (h3 : Below w.heap.size w wr)
    (hb : Below wr.heap.size wr W0) (hp : Rd (fun k => k = g) W0 (D.ints p) [pv])
    (ho : W1.ownsRow w.heap.size 22 1 v' (l.length + 1) (xs ++ [pv])) (hg : W0.grownBy W1 v.ownBlock) (hat : v'.ownBlock = v.ownBlock ∨ ∃ k, v'.ownBlock = some k ∧ W0.heap.size ≤ k) : RowP w (l ++ [p]) v' W1 := by
  have hs := hb.size
  have hsw := h3.size
  refine ⟨⟨xs ++ [pv], by simpa using ho, ?_⟩, (h3.trans (hb.mono h3.size)).grown hg (by omega) (fun k e => (h1.lt k e).1)⟩
  rw [List.map_append]
  refine own_step (h2.below hb) (RdAll.one (hp.mono fun k hk hlt => ⟨by omega, fun e => ?_⟩)) hg hat
  have := (h1.lt k e).2
  omega

def PathsPost (l : List (List Int)) (w : World) (e : Ending) (w' : World) : Prop := ∃ v, e = .returned v ∧ Rd (fun k => w.heap.size ≤ k) w' (.sl (l.map D.ints)) [v] ∧ Below w.heap.size w w'

structure InRel (w : World) (l C : List (List Int)) (H1 H2 : Nat) (v cv : Value) (wr : World) : Prop where
  row : RowP w l v wr
  apart : ∀ k, v.ownBlock = some k → k < H1 ∨ H2 ≤ k
  kid : Rd (fun k => H1 ≤ k ∧ k < H2) wr (.sl (C.map D.ints)) [cv]
  sz : H2 ≤ wr.heap.size

set_option maxHeartbeats 2000000 in
set_option maxRecDepth 100000 in
theorem pathsE : ∀ (m : Nat) (t : Tree) (v : Value) (w : World), (nodes t).length ≤ m → Rd AnyB w (.sl (t.kids.map Tree.d)) [v] → (nodes t).length ≤ 1099511627776 →
    Calls Try.prog 25 #[.agg #[.int .i64 t.rule, .int .i64 t.term, v]] w (PathsPost (paths t) w) := by
  intro m
  induction m with
  | zero => intro t v w hm; have := nodes_pos t; omega
  | succ m ih =>
  intro t v w hm hv hN
  obtain ⟨a, nk, cap, rfl⟩ := treeBox hv
  have HV := Lib.hid hv
  have IH := Lib.hid ih
  have HM := Lib.hid hm
  have HN := Lib.hid hN
  have HNK : Hid (t.kids.length = nk) := by show _ = _; have := hv.bounds.1; simpa using this.symm
  have hcap : nk ≤ 9223372036854775807 := by have := hv.bounds; unfold maxLen at this; omega
  obtain ⟨r, HRr⟩ := nameIt t.rule
  obtain ⟨tm, HRt⟩ := nameIt t.term
  rw [HRr.out, HRt.out]
  obtain ⟨w0, HW0⟩ := nameIt ((w.alloc (.cells #[.int .i64 r, .int .i64 tm, .slice a nk cap] 43)).alloc (.cells #[.slice none 0 0] 22))
  have X0 : Hid (w0.heap[w.heap.size]? = some (.cells #[.int .i64 r, .int .i64 tm, .slice a nk cap] 43 (0, 0))) := by
    rw [← HW0.out]; exact bx_keep (bx_new _ _ _ rfl) ((Below.refl _ _).alloc (Nat.le_refl _) _)
  have HR0 : Hid (RowP w [[]] (.slice (some ⟨w.heap.size + 1, 0, none⟩) 1 1) w0) := by
    rw [← HW0.out]
    refine ⟨⟨[.slice none 0 0], own_lit (n := 1) (by simp) (by simp) rfl (by simp [maxLen]), RdAll.one ?_⟩, ((Below.refl _ _).alloc (Nat.le_refl _) _).alloc (by simp) _⟩
    exact rd_nil _ _
  obtain ⟨x0, x1, x2⟩ := bx_cells3 X0.out
  clear hv ih hm hN
  go_enter Try.func25, Try.ntmps25
  by_cases hr : r = -1
  · have hrb : (r == -1) = true := by simpa using hr
    have HE : Hid (paths t = [[]]) := by show _ = _; rw [paths_eq, kidsOf, HRr.out, if_pos hr]; simp [pathsL]
    clear hr
    go_upto_region 2 with fail
    rw [HW0.out]
    go_wp2_with fail
    go_ret
    refine ⟨_, rfl, ?_, HR0.out.bel⟩
    rw [HE.out]
    exact HR0.out.rd
  · have hrb : (r == -1) = false := by simpa using hr
    have HKE : Hid (kidsOf t = t.kids) := by show _ = _; rw [kidsOf, HRr.out, if_neg hr]
    have HCR : Hid (t.rule ≠ -1) := by show _ ≠ _; rw [HRr.out]; exact hr
    have HS0 : Hid (RowP w ([] :: pathsL 0 (t.kids.take 0)) (.slice (some ⟨w.heap.size + 1, 0, none⟩) 1 1) w0) := by show RowP _ _ _ _; simpa [pathsL] using HR0.out
    clear hr
    go_upto_region 2 with fail
    rw [HW0.out]
    go_wp2_with fail
    go_loopg [3, 16] nk (fun gg v3 v16 wr => ∃ i : Nat, i ≤ nk ∧ nk - i ≤ gg ∧ v16 = .int .i64 i ∧ Hid (RowP w ([] :: pathsL 0 (t.kids.take i)) v3 wr))
    case atStart => exact ⟨0, by omega, by omega, rfl, HS0⟩
    case round =>
      clear HS0 HR0 x0 x1 x2 X0 HW0
      obtain ⟨wo, rfl⟩ : ∃ wo : World, wo = wr := ⟨_, rfl⟩
      obtain ⟨i, hi, hg, rfl, HR⟩ := hrel
      obtain ⟨a3, c3, rfl, hc1, hc2, hc3⟩ := HR.out.form
      have HOL := Lib.hid hc3
      unfold maxLen at hc2
      clear hc3
      by_cases hlt : i < nk
      · have hlt' : (i : Int) < (nk : Int) := by omega
        have hik : i < t.kids.length := by rw [HNK.out]; exact hlt
        obtain ⟨b, off, v, hae, -, hbl, k0, k1, k2, hkid⟩ := HV.out.kid hik
        obtain ⟨av, nv, cv, rfl⟩ := treeBox hkid
        have e0 := (HR.out.bel.cell (p := ⟨b, off + i * 3, none⟩) hbl).trans k0
        have e1 := (HR.out.bel.cell (p := ⟨b, off + i * 3 + 1, none⟩) hbl).trans k1
        have e2 := (HR.out.bel.cell (p := ⟨b, off + i * 3 + 2, none⟩) hbl).trans k2
        have hnk := kid_nodes_lt' HCR.out hik
        have HT := Lib.hid (pathsL_take hik)
        have HLN : Hid ((pathsL 0 (t.kids.take (i + 1))).length + 1 ≤ 1099511627776) := by
          show _ ≤ _
          have h1 := HN.out
          rw [nodes_eq, HKE.out] at h1
          have h2 := nodesL_take_le t.kids (i + 1)
          rw [pathsL_len]
          simp at h1; omega
        obtain ⟨x, HX⟩ := nameIt (t.kids[i]'hik)
        rw [HX.out] at e0 e1 hkid HT hnk
        obtain ⟨q0, HQ0⟩ := nameIt x.rule
        obtain ⟨q1, HQ1⟩ := nameIt x.term
        have hb3 := (Below.refl wo.heap.size wo).alloc (Nat.le_refl _) (.cells #[.int .i64 q0, .int .i64 q1, .slice av nv cv] 43)
        have hlc := IH.out x _ _ (by have := HM.out; omega) ((hkid.below HR.out.bel).below hb3) (by have := HN.out; omega)
        rw [HQ0.out] at e0 hlc
        rw [HQ1.out] at e1 hlc
        have HLC := Lib.hid hlc
        have HB3 := Lib.hid hb3
        have HPX : Hid (∀ p ∈ paths x, p.length + 1 ≤ 1099511627776) := fun p hp => by
          have h1 := path_le x p hp
          have h2 := HN.out
          omega
        have hxn : (paths x).length ≤ 1099511627776 := by rw [paths_len]; have := HN.out; omega
        obtain ⟨L, HL⟩ := nameIt ([] :: pathsL 0 (t.kids.take i))
        obtain ⟨C, HC⟩ := nameIt (paths x)
        rw [HC.out] at HLC HT HPX hxn
        rw [HL.out] at HR HOL hc1
        rw [HL.out]
        have HLC2 : Hid (L.length + C.length ≤ 1099511627776) := by
          show _ ≤ _
          have h1 := HLN.out
          rw [HT.out] at h1
          rw [← HL.out]
          simp at h1 ⊢; omega
        subst hae
        clear k0 k1 k2 hkid hlc hb3 hnk HLN
        go_wp2_with fail
        refine HLC.out.mono ?_
        rintro e w1 ⟨v1, rfl, hr1, hb1⟩
        obtain ⟨a1, c1, rfl, hd1, hd2⟩ := hr1.form
        rw [List.length_map] at hr1 hd1
        rw [List.length_map]
        unfold maxLen at hd2
        obtain ⟨H1, HH1⟩ : ∃ h, Hid (wo.heap.size + 1 = h) := ⟨_, rfl⟩
        obtain ⟨H2, HH2⟩ : ∃ h, Hid (w1.heap.size = h) := ⟨_, rfl⟩
        have HI0 : Hid (InRel w (L ++ (C.take 0).map (fun p => (i : Int) :: p)) C H1 H2 (.slice a3 L.length c3) (.slice a1 C.length c1) w1) := by
          have hbb := HB3.out.trans (hb1.mono HB3.out.size)
          refine ⟨by simpa using HR.out.keep hbb, fun k e => .inl (by have := (HOL.out k e).2; have := HH1.out; omega), hr1.mono fun k hk hlt => ⟨by have := HH1.out; simp at hk; omega, by have := HH2.out; omega⟩, by have := HH2.out; omega⟩
        have HBI : Hid (Below w.heap.size w w1) := HI0.out.row.bel
        clear hr1 hb1 HLC e0 e1 e2 HB3 HR HOL
        go_wp2_with fail
        go_loopg [3, 24] C.length (fun gg' v3 v24 wr => ∃ j : Nat, j ≤ C.length ∧ C.length - j ≤ gg' ∧ v24 = .int .i64 j ∧ Hid (InRel w (L ++ (C.take j).map (fun p => (i : Int) :: p)) C H1 H2 v3 (.slice a1 C.length c1) wr))
        case atStart => exact ⟨0, by omega, by omega, rfl, HI0⟩
        case round =>
          clear HI0 HBI
          obtain ⟨j, hj, hgj, rfl, HJ⟩ := hrel
          by_cases hjl : j < C.length
          · have hjl' : (j : Int) < (C.length : Int) := by omega
            obtain ⟨b1, off1, cs, hae1, hb1S, hb1l, hcs, hcl, hcc⟩ := HJ.out.kid.at (intsD_cells C) (by decide) (i := j) (by simpa using hjl)
            rw [List.getElem_map] at hcs
            obtain ⟨pv, rfl⟩ := List.length_eq_one_iff.1 hcl
            have d0 := hcc 0 (by simp)
            simp only [Nat.mul_one, Nat.add_zero, List.getElem_cons_zero] at d0
            have hpl := HPX.out C[j] (List.getElem_mem hjl)
            have HTJ : Hid (L ++ (C.take (j + 1)).map (fun p => (i : Int) :: p) = (L ++ (C.take j).map (fun p => (i : Int) :: p)) ++ [(i : Int) :: C[j]]) := by
              show _ = _
              rw [List.take_succ_eq_append_getElem hjl, List.map_append, List.append_assoc]; rfl
            have HJL : Hid ((L ++ (C.take j).map (fun p => (i : Int) :: p)).length + 1 ≤ 1099511627776) := by
              show _ ≤ _
              have := HLC2.out
              simp; omega
            have hsl := sl_rd hcs
            obtain ⟨ap, cp, rfl⟩ := hsl.form
            rw [ints_len] at hsl d0
            obtain ⟨p, HP⟩ := nameIt (C[j]'hjl)
            rw [HP.out] at hsl d0 HTJ hpl
            obtain ⟨M, HMM⟩ := nameIt (L ++ (C.take j).map (fun p => (i : Int) :: p))
            rw [HMM.out] at HJ HTJ HJL
            have hML := HJL.out
            have HRow := HJ.out.row.own
            obtain ⟨xs, ho1, ho2⟩ := HRow
            have HO1 := Lib.hid ho1
            have HO2 := Lib.hid ho2
            obtain ⟨am, cm, rfl, hm1, hm2⟩ := own_len ho1
            unfold maxLen at hm2
            have hsz := HJ.out.row.bel.size
            have HSL := Lib.hid (hsl.keep ((Below.refl wr.heap.size wr).alloc (Nat.le_refl _) (.cells #[.int .i64 (i : Int)] 3)))
            have HLT1 := Lib.hid ho1.lt
            subst hae1
            clear hcs hcl hcc hsl ho1 ho2
            go_wp2_with (at_builtin; refine wp_appS elInt rfl _ _ rfl (own_lit (B := wr.heap.size) (n := 1) rfl (Nat.le_refl _) rfl (by simp [maxLen])) rfl HSL.out rfl (ints_one p) (by rw [ints_len]; omega) (by rw [ints_len]; unfold maxLen; omega) (by simp) ?_)
            intro v5 w5 ho5 hg5
            obtain ⟨g5, c5, rfl⟩ := own_form ho5 (by omega)
            have hg5l := ho5.lt g5 rfl
            have HB5 : Hid (Below wr.heap.size wr w5) := ((Below.refl wr.heap.size wr).alloc (Nat.le_refl _) (.cells #[.int .i64 (i : Int)] 3)).grown hg5 (by simp) (fun k e => by simp [Value.ownBlock] at e; omega)
            have HRP : Hid (Rd (fun k => k = g5) w5 (D.ints ((i : Int) :: p)) [.slice (some ⟨g5, 0, none⟩) (1 + (ints p).length) c5]) := by
              refine rd_of_own ho5 ((rdAll_ints ((i : Int) :: p) _).2 rfl) (by simp [ints]; omega) (fun k e => ?_)
              simp [Value.ownBlock] at e
              exact e.symm
            obtain ⟨N5, HN5⟩ := nameIt (1 + (ints p).length)
            rw [HN5.out] at HRP
            rw [HN5.out]
            have hs5 : wr.heap.size ≤ w5.heap.size := HB5.out.size
            clear ho5 hg5
            go_wp2_with (at_builtin; refine wp_app1at elInts rfl _ _ rfl (own_keep HO1.out HB5.out) rfl rfl (by simp) rfl rfl (by omega) (by unfold maxLen; omega) (by omega) ?_)
            intro v' w' ho hg2 hat
            have HJ' : Hid (InRel w (M ++ [(i : Int) :: p]) C H1 H2 v' (.slice (some ⟨b1, off1, none⟩) C.length c1) w') := by
              have hst := RowP.step hg5l.1 HO1.out HO2.out HJ.out.row.bel HB5.out HRP.out ho hg2 hat
              refine ⟨hst, fun k e => ?_, ?_, ?_⟩
              · rcases hat with h | ⟨z, h, hz⟩
                · exact HJ.out.apart k (by rw [← h]; exact e)
                · rw [h] at e; cases e
                  have := HJ.out.sz
                  exact .inr (by omega)
              · refine Rd.keep (fun k hk hkl => ⟨hk, ?_⟩) _ _ HJ.out.kid
                rw [hg2.block k (by omega) (fun e => by have := HJ.out.apart k e.symm; omega), HB5.out.block k hkl]
              · have := HJ.out.sz
                have := hg2.size
                omega
            obtain ⟨a', c', rfl, -, -⟩ := own_len ho
            rw [← HTJ.out] at HJ'
            clear ho hg2 hat
            go_wp2_with fail
            go_roundg (C.length - (j + 1))
            case measure => omega
            case rel => exact ⟨j + 1, by omega, by omega, by go_num, HJ'⟩
          · have hjl' : ¬ (j : Int) < (C.length : Int) := by omega
            have HE : Hid (L ++ (C.take j).map (fun p => (i : Int) :: p) = [] :: pathsL 0 (t.kids.take (i + 1))) := by
              show _ = _
              rw [List.take_of_length_le (by omega), HT.out, ← HL.out]; simp
            have HRR := Lib.hid HJ.out.row
            rw [HE.out] at HRR
            go_wp2_with fail
            go_roundg (nk - (i + 1))
            case measure => omega
            case rel => exact ⟨i + 1, by omega, by omega, by go_num, HRR⟩
      · have hlt' : ¬ (i : Int) < (nk : Int) := by omega
        have HPE : Hid (paths t = [] :: pathsL 0 (t.kids.take i)) := by
          show _ = _
          rw [paths_eq, HKE.out, List.take_of_length_le (by have := HNK.out; omega)]
        obtain ⟨L, HL⟩ := nameIt ([] :: pathsL 0 (t.kids.take i))
        rw [HL.out] at HR HPE
        rw [HL.out]
        clear HOL hc1
        go_wp2_with fail
        go_ret
        refine ⟨_, rfl, ?_, HR.out.bel⟩
        rw [HPE.out]
        exact HR.out.rd
end Go.Proofs.Ytjehmleckcmilaa
