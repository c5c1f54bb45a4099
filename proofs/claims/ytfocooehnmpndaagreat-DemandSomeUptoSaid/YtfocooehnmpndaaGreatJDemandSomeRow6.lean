/- The contracts of leaves and faulty; what the law's own systems are. Plain: the two lists of occurrences are the same; what a checked system's expressions are. Plain: what the numbered nodes of a valid tree are; instances have equations; values are unique. Plain: the equations of a valid tree's instances, and what they mention. Plain: places of occurrences; values are unique, none on a circle; a closed set of values is whole. Keys of rules, as RuleFault makes them: plain law. Maps of one-cell values in memory, by what they have at a key: strings or numbers as keys. Aligned words, in plain Lean: the distance by a table, and by all ways; the operations. The maps of demand.Table and of the reference's World: equations by occurrence, numbers by instance. The contracts of tree.kids and tree.walk. The contract of tree.Size. -/
import Derived.Test.YtfocooehnmpndaaGreatJDemandSomeRow5
import Derived.Test.YtfocooehnmpndaaGreatJDemandSomeRow3
import Derived.Test.YtfocooehnmpndaaGreatJDemandSomeRow1
import Derived.Test.YtfocooehnmpndaaGreatJDemandSomeRow4
import Derived.WalkKit
import Derived.DeepKeys4
import Derived.Maps.OwnSet
import Derived.Maps.Views
import Derived.Deep.LoopGhost
import Derived.Deep.Cut
import Derived.Shelf.Abstract
namespace Go.Proofs.YtfocooehnmpndaaGreat
open Go.RowKit
namespace At
def oneX : Expr := .node 0 1 ⟨0, 0⟩ []
def addX : Expr := .node 2 0 ⟨0, 0⟩ [.node 1 0 ⟨1, 0⟩ [], oneX]
def leavesS : Sys := ⟨[⟨0, false⟩], [⟨0, ⟨0, 0⟩, addX⟩, ⟨1, ⟨0, 0⟩, oneX⟩]⟩
def SysPost (s : Sys) (w : World) (e : Ending) (w' : World) : Prop := ∃ u u', e = .returned (.agg #[u, u']) ∧ Rd AnyB w' (.sl (s.attrs.map Attr.d)) [u] ∧ Rd AnyB w' (.sl (s.eqs.map Eqn.d)) [u'] ∧ Below w.heap.size w w'
theorem list_ok : checkG listG = 0 := by decide
theorem leaves_attrs : attrsErr listG leavesS.attrs = 0 := by decide
theorem leaves_eqs : eqsFrom listG leavesS 0 leavesS.eqs = 0 := by decide
theorem leaves_ok : checkS listG leavesS = 0 := by
  rw [checkS_sys list_ok]
  refine sysErr_z leaves_attrs (by decide) leaves_eqs ?_
  rintro ⟨i, k, a, h1, h2, h3, h4⟩
  have h5 : i < 2 := h1
  have h6 : a < 1 := h3
  obtain rfl : a = 0 := by omega
  have : i = 0 ∨ i = 1 := by omega
  rcases this with rfl | rfl
  · have h7 : k < 3 := h2
    have : k = 0 ∨ k = 1 ∨ k = 2 := by omega
    rcases this with rfl | rfl | rfl
    · exact absurd (show lacksAt leavesS 0 ⟨0, [⟨false, 0⟩, ⟨true, 0⟩]⟩ 0 0 = true from h4) (by decide)
    · exact absurd (show lacksAt leavesS 0 ⟨0, [⟨false, 0⟩, ⟨true, 0⟩]⟩ 1 0 = true from h4) (by decide)
    · exact absurd (show lacksAt leavesS 0 ⟨0, [⟨false, 0⟩, ⟨true, 0⟩]⟩ 2 0 = true from h4) (by decide)
  · have h7 : k < 2 := h2
    have : k = 0 ∨ k = 1 := by omega
    rcases this with rfl | rfl
    · exact absurd (show lacksAt leavesS 1 ⟨0, [⟨true, 0⟩]⟩ 0 0 = true from h4) (by decide)
    · exact absurd (show lacksAt leavesS 1 ⟨0, [⟨true, 0⟩]⟩ 1 0 = true from h4) (by decide)
set_option maxHeartbeats 2000000 in
set_option maxRecDepth 100000 in
theorem leavesE (w : World) : Calls Tryz.prog 8 #[] w (SysPost leavesS w) := by
  go_enter Tryz.func8, Tryz.ntmps8
  go_wp2_with fail
  refine bodyPost_ret (v := .agg #[.slice (some ⟨w.heap.size + 1 + 1 + 1 + 1, 0, none⟩) 1 1, .slice (some ⟨w.heap.size + 1 + 1 + 1 + 1 + 1, 0, none⟩) 2 2]) (by simp [results, Tryz.results8, go_sem]) rfl ?_
  have hn : ∀ W, Rd AnyB W (.sl ((oneX.args).map Expr.d)) [.slice none 0 0] := fun W => ⟨none, 0, [], rfl, by simp [oneX, Expr.args], by simp [maxLen], fun _ => rfl, fun i hi => by simp at hi, rfl⟩
  have h1 : ∀ W, Rd AnyB W oneX.d [.int .i64 0, .int .i64 1, .int .i64 0, .int .i64 0, .slice none 0 0] := fun W => rd_expr (x := oneX) (hn W)
  have h2 : ∀ W, Rd AnyB W (Expr.node 1 0 ⟨1, 0⟩ []).d [.int .i64 1, .int .i64 0, .int .i64 1, .int .i64 0, .slice none 0 0] := fun W => rd_expr (x := .node 1 0 ⟨1, 0⟩ []) (hn W)
  refine ⟨_, _, rfl, ?_, ?_, ?_⟩
  · refine rd_of_own (own_of_block (bx_keep (bx_new _ _ _ (by simp)) ((Below.refl _ _).alloc (Nat.le_refl _) _)) (n := 1) (size := 2) rfl (by simp [maxLen])) ?_ rfl (fun _ _ => trivial)
    exact RdAll.one ⟨[.int .i64 0], [.bool false], rfl, rfl, RdAll.one rfl⟩
  · refine rd_of_own (own_of_block (bx_new _ _ _ (by simp)) (n := 2) (size := 8) rfl (by simp [maxLen])) ?_ rfl (fun _ _ => trivial)
    refine ⟨[.int .i64 0, .int .i64 0, .int .i64 0, .int .i64 2, .int .i64 0, .int .i64 0, .int .i64 0, .slice (some ⟨w.heap.size + 1 + 1, 0, none⟩) 2 2], [.int .i64 1, .int .i64 0, .int .i64 0, .int .i64 0, .int .i64 1, .int .i64 0, .int .i64 0, .slice none 0 0], rfl, ?_, RdAll.one ?_⟩
    · refine ⟨[.int .i64 0], _, rfl, rfl, [.int .i64 0, .int .i64 0], _, rfl, rd_ref ⟨0, 0⟩, RdAll.one (rd_expr (x := addX) ?_)⟩
      refine rd_of_own (own_of_block (bx_keep (bx_keep (bx_keep (bx_new _ _ _ (by simp)) ((Below.refl _ _).alloc (Nat.le_refl _) _)) ((Below.refl _ _).alloc (Nat.le_refl _) _)) ((Below.refl _ _).alloc (Nat.le_refl _) _)) (n := 2) (size := 5) rfl (by simp [maxLen])) ?_ rfl (fun _ _ => trivial)
      exact ⟨[.int .i64 1, .int .i64 0, .int .i64 1, .int .i64 0, .slice none 0 0], [.int .i64 0, .int .i64 1, .int .i64 0, .int .i64 0, .slice none 0 0], rfl, h2 _, RdAll.one (h1 _)⟩
    · exact ⟨[.int .i64 1], _, rfl, rfl, [.int .i64 0, .int .i64 0], _, rfl, rd_ref ⟨0, 0⟩, RdAll.one (h1 _)⟩
  · exact ((((((Below.refl _ _).alloc (Nat.le_refl _) _).alloc (by simp) _).alloc (by simp; omega) _).alloc (by simp; omega) _).alloc (by simp; omega) _).alloc (by simp; omega) _
set_option maxHeartbeats 2000000 in
set_option maxRecDepth 100000 in
theorem faultyE (g : Gram) (s : Sys) (ar aa ae : Option Addr) (cr ca ce : Nat) (w : World) (hsz : ∀ q ∈ s.eqs, q.is'.size ≤ 1048576) (hR : Rd AnyB w (.sl (g.rules.map Rule.d)) [.slice ar g.rules.length cr]) (hA : Rd AnyB w (.sl (s.attrs.map Attr.d)) [.slice aa s.attrs.length ca]) (hE : Rd AnyB w (.sl (s.eqs.map Eqn.d)) [.slice ae s.eqs.length ce]) :
    Calls Tryz.prog 11 #[.agg #[.int .i64 g.terms, .int .i64 g.nons, .int .i64 g.start, .slice ar g.rules.length cr], .agg #[.slice aa s.attrs.length ca, .slice ae s.eqs.length ce]] w (fun e w' => e = .returned (.int .i64 (checkS g s)) ∧ Below w.heap.size w w') := by
  obtain ⟨w0, HW0⟩ := nameIt ((w.alloc (.cells #[.int .i64 g.terms, .int .i64 g.nons, .int .i64 g.start, .slice ar g.rules.length cr] 24)).alloc (.cells #[.slice aa s.attrs.length ca, .slice ae s.eqs.length ce] 28))
  have HB0 : Hid (Below w.heap.size w w0) := by rw [← HW0.out]; exact ((Below.refl _ _).alloc (Nat.le_refl _) _).alloc (by simp) _
  have X1 : Hid (w0.heap[w.heap.size]? = some (.cells #[.int .i64 g.terms, .int .i64 g.nons, .int .i64 g.start, .slice ar g.rules.length cr] 24 (0, 0))) := by
    rw [← HW0.out]; exact bx_keep (bx_new _ _ _ rfl) ((Below.refl _ _).alloc (Nat.le_refl _) _)
  have X2 : Hid (w0.heap[w.heap.size + 1]? = some (.cells #[.slice aa s.attrs.length ca, .slice ae s.eqs.length ce] 28 (0, 0))) := by
    rw [← HW0.out]; exact bx_new _ _ _ (by simp)
  have HCE := Lib.hid (checkE g ar cr w0 (hR.below HB0.out))
  have HSF := Lib.hid (fun (h : checkG g = 0) (W : World) (hb : Below w.heap.size w W) => sysFaultE g s h ar aa ae cr ca ce W hsz (hR.below hb) (hA.below hb) (hE.below hb))
  have HSG := Lib.hid (@checkS_g g s)
  have HSS := Lib.hid (@checkS_sys g s)
  obtain ⟨cs, HCS⟩ := nameIt (checkS g s)
  obtain ⟨cg, HCG⟩ := nameIt (checkG g)
  obtain ⟨ss, HSSS⟩ := nameIt (sysErr g s)
  obtain ⟨tm, HTM⟩ := nameIt g.terms
  obtain ⟨no, HNO⟩ := nameIt g.nons
  obtain ⟨st, HST⟩ := nameIt g.start
  obtain ⟨m, HM⟩ := nameIt g.rules.length
  obtain ⟨al, HAL⟩ := nameIt s.attrs.length
  obtain ⟨n, HN⟩ := nameIt s.eqs.length
  rw [HCS.out, HCG.out] at HSG
  rw [HCS.out, HCG.out, HSSS.out] at HSS
  rw [HTM.out, HNO.out, HST.out, HM.out, HCG.out] at HCE
  simp only [HTM.out, HNO.out, HST.out, HM.out, HAL.out, HN.out, HCG.out, HSSS.out] at HSF
  rw [HTM.out, HNO.out, HST.out, HM.out, HAL.out, HN.out] at HW0
  rw [HTM.out, HNO.out, HST.out, HM.out] at X1
  rw [HAL.out, HN.out] at X2
  rw [HTM.out, HNO.out, HST.out, HM.out, HAL.out, HN.out, HCS.out]
  obtain ⟨x0, x1, x2, x3⟩ := bx_cells4 X1.out
  clear hR hA hE hsz
  go_enter Tryz.func11, Tryz.ntmps11
  go_upto_region 1 with fail
  rw [HW0.out]
  go_wp2_with fail
  refine HCE.out.mono ?_
  rintro e w1 ⟨rfl, hb1⟩
  have HB1 : Hid (Below w.heap.size w w1) := HB0.out.trans (hb1.mono HB0.out.size)
  have Y1 := Lib.hid (bx_keep X1.out hb1)
  have Y2 := Lib.hid (bx_keep X2.out hb1)
  clear x0 x1 x2 x3 hb1
  by_cases hz : cg = 0
  · have HC := Lib.hid (HSF.out hz w1 HB1.out)
    have HE := Lib.hid (HSS.out hz)
    subst hz
    obtain ⟨x0, x1, x2, x3⟩ := bx_cells4 Y1.out
    obtain ⟨y0, y1⟩ := bx_cells2 Y2.out
    go_upto_region 4 with fail
    go_wp2_with fail
    refine HC.out.mono ?_
    rintro e w2 ⟨rfl, hb2⟩
    have HB2 := Lib.hid hb2
    clear hb2
    go_wp2_with fail
    go_ret
    exact ⟨by rw [HE.out]; rfl, HB1.out.trans (HB2.out.mono HB1.out.size)⟩
  · have hzb : (cg != 0) = true := by simpa using hz
    have HE := Lib.hid (HSG.out hz)
    clear hz
    go_wp2_with fail
    go_ret
    exact ⟨by rw [HE.out]; rfl, HB1.out⟩
end At
end Go.Proofs.YtfocooehnmpndaaGreat
namespace Go.Proofs.YtfocooehnmpndaaGreat
open Go.RowKit
namespace At
open Go.Lib (compactUpTo keeps)
theorem ltR_eq (x y : Ref) : ltR x y = ltOf cmpRef x y := by rw [cmpRef_lt]; rfl
theorem ltR_irr (x : Ref) : ltR x x = false := by rw [ltR_eq]; exact swoRef.irrefl x
theorem ltR_trans {x y z : Ref} (h1 : ltR x y = true) (h2 : ltR y z = true) : ltR x z = true := by rw [ltR_eq] at *; exact swoRef.trans x y z h1 h2
theorem ltR_tot {x y : Ref} (h1 : ltR x y = false) (h2 : x ≠ y) : ltR y x = true := by
  cases h : ltR y x with
  | true => rfl
  | false => exact absurd (totRef x y (by rw [← ltR_eq]; exact h1) (by rw [← ltR_eq]; exact h)) h2
def Asc (l : List Ref) : Prop := l.Pairwise fun x y => ltR x y = true
theorem asc_unique : ∀ {l m : List Ref}, Asc l → Asc m → (∀ x, x ∈ l ↔ x ∈ m) → l = m
  | [], [], _, _, _ => rfl
  | [], y :: m, _, _, h => absurd ((h y).2 List.mem_cons_self) (by simp)
  | x :: l, [], _, _, h => absurd ((h x).1 List.mem_cons_self) (by simp)
  | x :: l, y :: m, hl, hm, h => by
    obtain ⟨hl1, hl2⟩ := List.pairwise_cons.1 hl
    obtain ⟨hm1, hm2⟩ := List.pairwise_cons.1 hm
    have hxy : x = y := by
      rcases List.mem_cons.1 ((h x).1 List.mem_cons_self) with e | e
      · exact e
      · rcases List.mem_cons.1 ((h y).2 List.mem_cons_self) with e2 | e2
        · exact e2.symm
        · have h1 := hm1 x e
          have h2 := hl1 y e2
          have h3 := ltR_trans h1 h2
          rw [ltR_irr] at h3
          cases h3
    subst hxy
    congr 1
    refine asc_unique hl2 hm2 fun z => ⟨fun hz => ?_, fun hz => ?_⟩
    · rcases List.mem_cons.1 ((h z).1 (List.mem_cons_of_mem _ hz)) with e | e
      · have h1 := hl1 z hz
        rw [e, ltR_irr] at h1
        cases h1
      · exact e
    · rcases List.mem_cons.1 ((h z).2 (List.mem_cons_of_mem _ hz)) with e | e
      · have h1 := hm1 z hz
        rw [e, ltR_irr] at h1
        cases h1
      · exact e
theorem insR_mem (L : List Ref) (r x : Ref) : x ∈ insR L r ↔ x = r ∨ x ∈ L := by
  unfold insR
  rw [List.mem_append, List.mem_cons]
  have h : x ∈ L ↔ x ∈ L.take (posR L r) ∨ x ∈ L.drop (posR L r) := by
    conv => lhs; rw [← List.take_append_drop (posR L r) L, List.mem_append]
  rw [h]
  constructor
  · rintro (h | h | h)
    · exact .inr (.inl h)
    · exact .inl h
    · exact .inr (.inr h)
  · rintro (h | h | h)
    · exact .inr (.inl h)
    · exact .inl h
    · exact .inr (.inr h)
theorem insR_asc {L : List Ref} {r : Ref} (hL : Asc L) (hr : r ∉ L) : Asc (insR L r) := by
  have h1 : ∀ z ∈ L.take (posR L r), ltR z r = true := by
    intro z hz
    obtain ⟨j, hj, rfl⟩ := List.getElem_of_mem hz
    have hj2 : j < posR L r := by rw [List.length_take] at hj; omega
    have := List.not_of_lt_findIdx (p := fun z => !ltR z r) (xs := L) hj2
    rw [List.getElem_take]
    simpa using this
  have h2 : ∀ z ∈ L.drop (posR L r), ltR r z = true := by
    intro z hz
    have hne : z ≠ r := fun e => hr (by rw [← e]; exact List.mem_of_mem_drop hz)
    rcases Nat.lt_or_ge (posR L r) L.length with hlt | hge
    · have hp : ltR (L[posR L r]'hlt) r = false := by
        have := List.findIdx_getElem (p := fun z => !ltR z r) (xs := L) (w := hlt)
        have h3 : (!ltR (L[posR L r]'hlt) r) = true := this
        cases h4 : ltR (L[posR L r]'hlt) r with
        | false => rfl
        | true => rw [h4] at h3; cases h3
      have hp2 : ltR r (L[posR L r]'hlt) = true := ltR_tot hp (fun e => hr (by rw [← e]; exact List.getElem_mem hlt))
      rw [List.drop_eq_getElem_cons hlt] at hz
      rcases List.mem_cons.1 hz with e | e
      · rw [e]; exact hp2
      · have hd : Asc (L.drop (posR L r)) := List.Pairwise.sublist (List.drop_sublist _ _) hL
        rw [List.drop_eq_getElem_cons hlt] at hd
        exact ltR_trans hp2 ((List.pairwise_cons.1 hd).1 z e)
    · rw [List.drop_of_length_le hge] at hz; cases hz
  unfold insR Asc
  rw [List.pairwise_append, List.pairwise_cons]
  refine ⟨List.Pairwise.sublist (List.take_sublist _ _) hL, ⟨h2, List.Pairwise.sublist (List.drop_sublist _ _) hL⟩, fun a ha b hb => ?_⟩
  rcases List.mem_cons.1 hb with e | e
  · rw [e]; exact h1 a ha
  · exact ltR_trans (h1 a ha) (h2 b e)
theorem ment_fold : ∀ (N : List Expr) (L : List Ref), Asc L → Asc (N.foldl mentStep L) ∧ ∀ x, x ∈ N.foldl mentStep L ↔ x ∈ L ∨ x ∈ (N.filter fun y => y.kind == 1).map Expr.ref
  | [], L, h => ⟨h, fun x => by simp⟩
  | y :: N, L, h => by
    rw [List.foldl_cons]
    have hs : Asc (mentStep L y) ∧ ∀ x, x ∈ mentStep L y ↔ x ∈ L ∨ (y.kind = 1 ∧ x = y.ref) := by
      unfold mentStep
      by_cases hk : y.kind = 1
      · by_cases hm : y.ref ∈ L
        · rw [if_pos (.inr hm)]
          exact ⟨h, fun x => ⟨.inl, fun h => by rcases h with h | ⟨_, rfl⟩ <;> assumption⟩⟩
        · rw [if_neg (by simp [hk, hm])]
          refine ⟨insR_asc h hm, fun x => ?_⟩
          rw [insR_mem]
          constructor
          · rintro (h | h)
            · exact .inr ⟨hk, h⟩
            · exact .inl h
          · rintro (h | ⟨_, h⟩)
            · exact .inr h
            · exact .inl h
      · rw [if_pos (.inl hk)]
        exact ⟨h, fun x => ⟨.inl, fun h => by rcases h with h | ⟨h, _⟩ <;> first | assumption | exact absurd h hk⟩⟩
    obtain ⟨h1, h2⟩ := ment_fold N _ hs.1
    refine ⟨h1, fun x => ?_⟩
    rw [h2, hs.2, List.filter_cons]
    by_cases hk : y.kind = 1
    · simp [hk]
      constructor
      · rintro ((h | h) | h)
        · exact .inl h
        · exact .inr (.inl h)
        · exact .inr (.inr h)
      · rintro (h | h | h)
        · exact .inl (.inl h)
        · exact .inl (.inr h)
        · exact .inr h
    · simp [hk]
theorem mentS_spec (x : Expr) : Asc (mentS x) ∧ ∀ r, r ∈ mentS x ↔ r ∈ refsOf x := by
  obtain ⟨h1, h2⟩ := ment_fold (enodes x) [] List.Pairwise.nil
  exact ⟨h1, fun r => by unfold mentS refsOf; rw [h2]; simp⟩
theorem sortR_mem (l : List Ref) (x : Ref) : x ∈ sortR l ↔ x ∈ l := by unfold sortR; exact List.mem_mergeSort
theorem sortR_sorted (l : List Ref) : (sortR l).Pairwise fun x y => ltR y x = false := by
  have h := List.pairwise_mergeSort (le := fun x y => !(ltOf cmpRef) y x) (fun a b c h1 h2 => by
    simp only [Bool.not_eq_true'] at *
    exact swoRef.ntrans _ _ _ h2 h1) (fun a b => by
    cases h : ltOf cmpRef b a with
    | false => simp
    | true =>
      cases h2 : ltOf cmpRef a b with
      | false => simp
      | true => exact absurd (swoRef.trans _ _ _ h h2) (by rw [swoRef.irrefl]; simp)) l
  unfold sortR
  refine h.imp ?_
  intro a b hab
  rw [ltR_eq]
  simpa using hab
theorem compactUp_spec {l : List Ref} (hs : l.Pairwise fun x y => ltR y x = false) : ∀ m, m ≤ l.length → Asc (compactUpTo l.toArray m) ∧ (∀ x, x ∈ compactUpTo l.toArray m ↔ x ∈ l.take m)
  | 0, _ => ⟨by simp [compactUpTo, Asc], fun x => by simp [compactUpTo]⟩
  | m + 1, hm => by
    obtain ⟨h1, h2⟩ := compactUp_spec hs m (by omega)
    have hlt : m < l.length := by omega
    have hd : l.toArray[m]! = l[m] := by rw [getElem!_pos _ _ (by simpa using hlt)]; simp
    rw [Lib.compactUpTo_succ, List.take_succ_eq_append_getElem hlt, hd]
    have hle : ∀ z ∈ l.take m, ltR l[m] z = false := by
      intro z hz
      obtain ⟨j, hj, rfl⟩ := List.getElem_of_mem hz
      rw [List.length_take] at hj
      rw [List.getElem_take]
      exact List.pairwise_iff_getElem.1 hs j m (by omega) hlt (by omega)
    cases hk : keeps l.toArray m with
    | true =>
      rw [if_pos rfl]
      have hnew : ∀ z ∈ l.take m, ltR z l[m] = true := by
        intro z hz
        refine ltR_tot (hle z hz) (fun e => ?_)
        unfold keeps at hk
        simp only [decide_eq_true_eq] at hk
        rcases hk with rfl | hk
        · simp at hz
        · have hm1 : m ≠ 0 := by rintro rfl; simp at hz
          have hlt2 : m - 1 < l.length := by omega
          have hd2 : l.toArray[m - 1]! = l[m - 1] := by rw [getElem!_pos _ _ (by simpa using hlt2)]; simp
          rw [hd, hd2] at hk
          obtain ⟨j, hj, rfl⟩ := List.getElem_of_mem hz
          rw [List.length_take] at hj
          rw [List.getElem_take] at e
          have h3 : ltR l[m - 1] l[m] = true := ltR_tot (List.pairwise_iff_getElem.1 hs (m - 1) m hlt2 hlt (by omega)) hk
          by_cases ej : j = m - 1
          · subst ej; exact hk e
          · have h4 := List.pairwise_iff_getElem.1 hs j (m - 1) (by omega) hlt2 (by omega)
            rw [← e] at h4
            rw [h4] at h3
            cases h3
      refine ⟨?_, fun x => by rw [List.mem_append, List.mem_append, h2]⟩
      unfold Asc
      rw [List.pairwise_append]
      refine ⟨h1, List.pairwise_singleton _ _, fun a ha b hb => ?_⟩
      rw [List.mem_singleton] at hb
      rw [hb]
      exact hnew a ((h2 a).1 ha)
    | false =>
      rw [if_neg (by simp), List.append_nil]
      refine ⟨h1, fun x => ?_⟩
      rw [h2, List.mem_append]
      refine ⟨.inl, fun h => ?_⟩
      rcases h with h | h
      · exact h
      · rw [List.mem_singleton] at h
        unfold keeps at hk
        simp only [decide_eq_false_iff_not, not_or, Classical.not_not] at hk
        have hlt2 : m - 1 < l.length := by omega
        have hd2 : l.toArray[m - 1]! = l[m - 1] := by rw [getElem!_pos _ _ (by simpa using hlt2)]; simp
        rw [hd, hd2] at hk
        rw [h, hk.2]
        have hm1 := hk.1
        exact List.mem_take_iff_getElem.2 ⟨m - 1, by omega, rfl⟩
theorem refs_same (x : Expr) : refsS x = mentS x := by
  obtain ⟨h1, h2⟩ := mentS_spec x
  obtain ⟨h3, h4⟩ := compactUp_spec (sortR_sorted (refsOf x)) _ (Nat.le_refl _)
  refine asc_unique h3 h1 fun r => ?_
  rw [h2]
  show r ∈ compactUpTo (sortR (refsOf x)).toArray (sortR (refsOf x)).length ↔ _
  rw [h4, List.take_length, sortR_mem]
theorem eqsFrom_zero {g : Gram} {s : Sys} : ∀ {l : List Eqn} {i : Nat}, eqsFrom g s i l = 0 → ∀ q ∈ l, ∃ j, eqErr g s j q = 0
  | [], _, _, q, hq => by simp at hq
  | x :: l, i, h, q, hq => by
    rw [eqsFrom] at h
    by_cases h0 : eqErr g s i x = 0
    · rw [if_neg (by simpa using h0)] at h
      rcases List.mem_cons.1 hq with rfl | hq
      · exact ⟨i, h0⟩
      · exact eqsFrom_zero h q hq
    · rw [if_pos h0] at h
      exact absurd h h0
theorem checked {g : Gram} {s : Sys} (h : checkS g s = 0) (hal : s.attrs.length ≤ 2000000) : ∀ q ∈ s.eqs, q.is'.size ≤ 30 ∧ okX okRefV q.is' := by
  intro q hq
  unfold checkS at h
  by_cases hg : checkG g = 0
  · rw [if_neg (by simpa using hg)] at h
    unfold sysErr at h
    by_cases ha : attrsErr g s.attrs = 0
    · rw [if_neg (by simpa using ha)] at h
      by_cases h200 : 200 < s.eqs.length
      · rw [if_pos h200] at h; simp at h
      · rw [if_neg h200] at h
        by_cases he : eqsFrom g s 0 s.eqs = 0
        · obtain ⟨j, hj⟩ := eqsFrom_zero he q hq
          unfold eqErr at hj
          cases hr : g.rules[q.rule.toNat]? with
          | none => rw [hr] at hj; simp at hj
          | some r =>
            rw [hr] at hj
            simp only at hj
            by_cases h1 : q.rule < 0
            · rw [if_pos h1] at hj; simp at hj
            · rw [if_neg h1] at hj
              by_cases h2 : 30 < q.is'.size
              · rw [if_pos h2] at hj; simp at hj
              · rw [if_neg h2] at hj
                by_cases h3 : defs s.attrs r q.to' = false ∨ valid s.attrs r q.is' = false
                · rw [if_pos h3] at hj; simp at hj
                · have hv : valid s.attrs r q.is' = true := by
                    cases e : valid s.attrs r q.is' with
                    | true => rfl
                    | false => exact absurd (.inr e) h3
                  refine ⟨by omega, fun y hy => ?_⟩
                  have hn : okNode s.attrs r y = true := by
                    unfold valid at hv
                    exact List.all_eq_true.1 hv y hy
                  unfold okNode at hn
                  simp only [Bool.and_eq_true] at hn
                  obtain ⟨⟨n1, n2⟩, n3⟩ := hn
                  have hr4 := ((checkG_zero hg).2.2 r (List.mem_of_getElem? hr)).2.2.1
                  refine ⟨n1, fun hk => ?_, fun hk => ?_⟩
                  · rw [if_pos hk] at n2
                    simpa [inM] using n2
                  · rw [if_pos hk] at n3
                    obtain ⟨t1, t2, t3, t4⟩ := there_range n3
                    exact ⟨t3, by omega, t1, by omega⟩
        · rw [if_pos he] at h
          exact absurd h he
    · rw [if_pos ha] at h
      exact absurd h ha
  · rw [if_pos hg] at h
    exact absurd h hg
end At
end Go.Proofs.YtfocooehnmpndaaGreat
namespace Go.Proofs.YtfocooehnmpndaaGreat
open Go.RowKit
namespace Dm
open At (Ref worth worthL enodes refsS)
def Seg (L : List Nd) (n : Nat) (M : List Nd) : Prop := ∀ j (h : j < M.length), L[n + j]? = some M[j]
theorem seg_cons {L : List Nd} {n : Nat} {x : Nd} {M : List Nd} (h : Seg L n (x :: M)) : L[n]? = some x ∧ Seg L (n + 1) M := by
  refine ⟨h 0 (by simp), fun j hj => ?_⟩
  have := h (j + 1) (by simpa using hj)
  rw [show n + 1 + j = n + (j + 1) by omega]
  exact this
theorem seg_app {L : List Nd} {n : Nat} {A B : List Nd} (h : Seg L n (A ++ B)) : Seg L n A ∧ Seg L (n + A.length) B := by
  refine ⟨fun j hj => ?_, fun j hj => ?_⟩
  · have := h j (by rw [List.length_append]; omega)
    rw [List.getElem_append_left hj] at this
    exact this
  · have := h (A.length + j) (by rw [List.length_append]; omega)
    rw [List.getElem_append_right (by omega)] at this
    rw [Nat.add_assoc]
    simpa using this
theorem seg_self (L : List Nd) : Seg L 0 L := fun j hj => by rw [Nat.zero_add, List.getElem?_eq_getElem hj]
def GoodT (L : List Nd) (n : Nat) (t : Tree) (up pos : Int) : Prop := Seg L n (numT t n up pos)
theorem good_node {L : List Nd} {n : Nat} {t : Tree} {up pos : Int} (h : GoodT L n t up pos) : L[n]? = some ⟨t.rule, up, pos, starts (n + 1) t.kids⟩ ∧ Seg L (n + 1) (numL t.kids (n + 1) n 1) := by
  cases t with
  | node r tm ks =>
    unfold GoodT at h
    rw [numT] at h
    exact seg_cons h
theorem goodL_kid {L : List Nd} : ∀ {ks : List Tree} {n : Nat} {up pos : Int}, Seg L n (numL ks n up pos) → ∀ k (hk : k < ks.length), GoodT L (n + tszL (ks.take k)) ks[k] up (pos + k)
  | [], _, _, _, _, k, hk => by simp at hk
  | x :: ks, n, up, pos, h, 0, _ => by
    rw [numL] at h
    have h1 := (seg_app h).1
    rw [List.take_zero, tszL, Nat.add_zero]
    show GoodT L n x up (pos + ((0 : Nat) : Int))
    rw [show pos + ((0 : Nat) : Int) = pos by simp]
    exact h1
  | x :: ks, n, up, pos, h, k + 1, hk => by
    rw [numL] at h
    have h1 := (seg_app h).2
    rw [numT_len] at h1
    have h2 := goodL_kid h1 k (by simpa using hk)
    rw [List.take_succ_cons, tszL, ← Nat.add_assoc]
    rw [show pos + ((k + 1 : Nat) : Int) = pos + 1 + (k : Int) by omega]
    exact h2
theorem starts_len : ∀ (ks : List Tree) (s : Nat), (starts s ks).length = ks.length
  | [], _ => rfl
  | k :: ks, s => by rw [starts, List.length_cons, List.length_cons, starts_len ks]
theorem starts_get : ∀ (ks : List Tree) (s k : Nat), k < ks.length → (starts s ks)[k]? = some ((s + tszL (ks.take k) : Nat) : Int)
  | [], _, _, h => by simp at h
  | x :: ks, s, 0, _ => by rw [starts]; rfl
  | x :: ks, s, k + 1, h => by
    rw [starts, List.getElem?_cons_succ, starts_get ks _ k (by simpa using h), List.take_succ_cons, tszL, Nat.add_assoc]
theorem good_kid {L : List Nd} {n : Nat} {t : Tree} {up pos : Int} (h : GoodT L n t up pos) {k : Nat} (hk : k < t.kids.length) : GoodT L (n + 1 + tszL (t.kids.take k)) t.kids[k] n (k + 1) := by
  have := goodL_kid (good_node h).2 k hk
  rwa [show (1 : Int) + (k : Int) = (k : Int) + 1 by omega] at this
theorem in_kid : ∀ (ks : List Tree) (n i : Nat), n ≤ i → i < n + tszL ks → ∃ k, ∃ hk : k < ks.length, n + tszL (ks.take k) ≤ i ∧ i < n + tszL (ks.take k) + tsz ks[k]
  | [], n, i, h1, h2 => by rw [tszL] at h2; omega
  | x :: ks, n, i, h1, h2 => by
    rw [tszL] at h2
    by_cases h : i < n + tsz x
    · exact ⟨0, by simp, by rw [List.take_zero, tszL]; omega, by rw [List.take_zero, tszL]; exact h⟩
    · obtain ⟨k, hk, h3, h4⟩ := in_kid ks (n + tsz x) i (by omega) (by omega)
      refine ⟨k + 1, by simpa using hk, ?_, ?_⟩
      · rw [List.take_succ_cons, tszL]; omega
      · rw [List.take_succ_cons, tszL]
        show i < _ + tsz ks[k]
        omega
theorem tsz_kid {t : Tree} {k : Nat} (hk : k < t.kids.length) : tsz t.kids[k] < tsz t := by
  rw [tsz_eq t]
  have h := tszL_append (t.kids.take k) (t.kids.drop k)
  rw [List.take_append_drop, List.drop_eq_getElem_cons hk, tszL] at h
  omega
def Known (T : Tree) (L : List Nd) (i : Nat) (x : Tree) (u p : Int) : Prop := GoodT L i x u p ∧ x ∈ nodes T
theorem every {g : Gram} {T : Tree} (hv : validT g T = true) {L : List Nd} : ∀ (m : Nat) (t : Tree) (n : Nat) (up pos : Int), tsz t ≤ m → Known T L n t up pos → ∀ i, n ≤ i → i < n + tsz t → (i = n) ∨ ∃ b y u p k, ∃ hk : k < y.kids.length, Known T L b y u p ∧ y.rule ≠ -1 ∧ n ≤ b ∧ b < n + tsz t ∧ Known T L i y.kids[k] b (k + 1) ∧ i = b + 1 + tszL (y.kids.take k) := by
  intro m
  induction m with
  | zero => intro t n up pos hm; rw [tsz_eq] at hm; omega
  | succ m ih =>
    intro t n up pos hm hK i h1 h2
    by_cases e : i = n
    · exact .inl e
    · right
      have h2' := h2
      rw [tsz_eq] at h2'
      obtain ⟨k, hk, h3, h4⟩ := in_kid t.kids (n + 1) i (by omega) (by omega)
      have hr : t.rule ≠ -1 := by
        intro hr
        have h5 := List.all_eq_true.1 hv t hK.2
        unfold nodeOk at h5
        rw [if_pos hr] at h5
        simp at h5
        rw [h5.2.2] at hk; simp at hk
      have hKk : Known T L (n + 1 + tszL (t.kids.take k)) t.kids[k] n (k + 1) := ⟨good_kid hK.1 hk, kid_node T t _ hK.2 hr (List.getElem_mem hk)⟩
      have hle : n + 1 + tszL (t.kids.take k) + tsz t.kids[k] ≤ n + tsz t := by
        rw [tsz_eq t]
        have h := tszL_append (t.kids.take k) (t.kids.drop k)
        rw [List.take_append_drop, List.drop_eq_getElem_cons hk, tszL] at h
        omega
      rcases ih t.kids[k] _ _ _ (by have := tsz_kid hk; omega) hKk i h3 h4 with e2 | ⟨b, y, u, p, k', hk', h5, h6, h7, h8, h9, h10⟩
      · subst e2
        exact ⟨n, t, up, pos, k, hk, hK, hr, Nat.le_refl _, by rw [tsz_eq]; omega, hKk, rfl⟩
      · exact ⟨b, y, u, p, k', hk', h5, h6, by omega, by omega, h9, h10⟩
def tabT (t : Tree) : List Nd := numT t 0 (-1) 0
theorem tab_len (t : Tree) : (tabT t).length = tsz t := numT_len t _ _ _
theorem known_root (T : Tree) : Known T (tabT T) 0 T (-1) 0 := ⟨seg_self _, by rw [nodes_eq]; exact List.mem_cons_self⟩
theorem known_all {g : Gram} {T : Tree} (hv : validT g T = true) {i : Nat} (hi : i < tsz T) : ∃ x u p, Known T (tabT T) i x u p := by
  rcases every hv (tsz T) T 0 (-1) 0 (Nat.le_refl _) (known_root T) i (by omega) (by omega) with rfl | ⟨b, y, u, p, k, hk, _, _, _, _, h, _⟩
  · exact ⟨T, _, _, known_root T⟩
  · exact ⟨_, _, _, h⟩
end Dm
end Go.Proofs.YtfocooehnmpndaaGreat
namespace Go.Proofs.YtfocooehnmpndaaGreat
open Go.RowKit
namespace Dm
open At (Ref worth worthL enodes refsS)
theorem sys_parts {g : Gram} {s : At.Sys} (h : At.checkS g s = 0) : checkG g = 0 ∧ At.attrsErr g s.attrs = 0 ∧ s.eqs.length ≤ 200 ∧ At.eqsFrom g s 0 s.eqs = 0 ∧ ¬ At.lacks g s := by
  unfold At.checkS at h
  by_cases hg : checkG g = 0
  · rw [if_neg (by simpa using hg)] at h
    unfold At.sysErr at h
    by_cases ha : At.attrsErr g s.attrs = 0
    · rw [if_neg (by simpa using ha)] at h
      by_cases h200 : 200 < s.eqs.length
      · rw [if_pos h200] at h; simp at h
      · rw [if_neg h200] at h
        by_cases he : At.eqsFrom g s 0 s.eqs = 0
        · rw [if_neg (by simpa using he)] at h
          by_cases hl : At.lacks g s
          · rw [if_pos hl] at h; simp at h
          · exact ⟨hg, ha, by omega, he, hl⟩
        · rw [if_pos he] at h; exact absurd h he
    · rw [if_pos ha] at h; exact absurd h ha
  · rw [if_pos hg] at h; exact absurd h hg
theorem eq_facts {g : Gram} {s : At.Sys} (h : At.checkS g s = 0) {q : At.Eqn} (hq : q ∈ s.eqs) : ∃ r, g.rules[q.rule.toNat]? = some r ∧ 0 ≤ q.rule ∧ q.is'.size ≤ 30 ∧ At.defs s.attrs r q.to' = true ∧ At.valid s.attrs r q.is' = true := by
  obtain ⟨_, _, _, he, _⟩ := sys_parts h
  obtain ⟨j, hj⟩ := At.eqsFrom_zero he q hq
  unfold At.eqErr at hj
  cases hr : g.rules[q.rule.toNat]? with
  | none => rw [hr] at hj; simp at hj
  | some r =>
    rw [hr] at hj
    simp only at hj
    by_cases h1 : q.rule < 0
    · rw [if_pos h1] at hj; simp at hj
    · rw [if_neg h1] at hj
      by_cases h2 : 30 < q.is'.size
      · rw [if_pos h2] at hj; simp at hj
      · rw [if_neg h2] at hj
        by_cases h3 : At.defs s.attrs r q.to' = false ∨ At.valid s.attrs r q.is' = false
        · rw [if_pos h3] at hj; simp at hj
        · refine ⟨r, rfl, by omega, by omega, ?_, ?_⟩
          · cases e : At.defs s.attrs r q.to' with
            | true => rfl
            | false => exact absurd (.inl e) h3
          · cases e : At.valid s.attrs r q.is' with
            | true => rfl
            | false => exact absurd (.inr e) h3
theorem has_eq {g : Gram} {s : At.Sys} (h : At.checkS g s = 0) {i k a : Nat} (hi : i < g.rules.length) (hk : k ≤ g.rules[i].right.length) (ha : a < s.attrs.length) (hd : At.defs s.attrs g.rules[i] ⟨(k : Int), (a : Int)⟩ = true) :
    ∃ q ∈ s.eqs, q.rule = (i : Int) ∧ q.to' = ⟨(k : Int), (a : Int)⟩ ∧ eqnOf s (i : Int) ⟨(k : Int), (a : Int)⟩ = q.is' := by
  obtain ⟨_, _, _, _, hl⟩ := sys_parts h
  have h1 : At.had s.eqs (i : Int) ⟨(k : Int), (a : Int)⟩ = true := by
    cases e : At.had s.eqs (i : Int) ⟨(k : Int), (a : Int)⟩ with
    | true => rfl
    | false => exact absurd ⟨i, k, a, hi, by omega, ha, by unfold At.lacksAt; rw [hd, e]; rfl⟩ hl
  unfold At.had at h1
  rw [List.any_eq_true] at h1
  obtain ⟨q, hq, h2⟩ := h1
  unfold eqnOf
  cases hf : s.eqs.find? (fun q => decide (q.rule = (i : Int) ∧ q.to' = ⟨(k : Int), (a : Int)⟩)) with
  | none =>
    have := List.find?_eq_none.1 hf q hq
    exact absurd h2 this
  | some q' =>
    have h3 := List.find?_some hf
    have h4 := of_decide_eq_true h3
    exact ⟨q', List.mem_of_find?_eq_some hf, h4.1, h4.2, rfl⟩
theorem mem_refsS {x : At.Expr} {r : Ref} : r ∈ refsS x ↔ ∃ y ∈ enodes x, y.kind = 1 ∧ y.ref = r := by
  rw [At.refs_same, (At.mentS_spec x).2]
  unfold At.refsOf
  rw [List.mem_map]
  constructor
  · rintro ⟨y, hy, rfl⟩
    rw [List.mem_filter] at hy
    exact ⟨y, hy.1, by simpa using hy.2, rfl⟩
  · rintro ⟨y, hy, hk, rfl⟩
    exact ⟨y, List.mem_filter.2 ⟨hy, by simpa using hk⟩, rfl⟩
theorem ref_there {al : List At.Attr} {r : Rule} {x : At.Expr} (hv : At.valid al r x = true) {y : At.Expr} (hy : y ∈ enodes x) (hk : y.kind = 1) : At.there al r y.ref = true := by
  unfold At.valid at hv
  have hn := List.all_eq_true.1 hv y hy
  unfold At.okNode at hn
  simp only [Bool.and_eq_true] at hn
  obtain ⟨_, n3⟩ := hn
  rwa [if_pos hk] at n3
theorem there_parts {al : List At.Attr} {r : Rule} {x : Ref} (h : At.there al r x = true) : ∃ a : Nat, x.attr = (a : Int) ∧ ∃ ha : a < al.length, ∃ k : Nat, x.at' = (k : Int) ∧ k ≤ r.right.length ∧ (k = 0 → al[a].non = r.left) ∧ (0 < k → r.right[k - 1]? = some ⟨false, al[a].non⟩) := by
  unfold At.there at h
  rw [Bool.and_eq_true, decide_eq_true_eq] at h
  obtain ⟨⟨h1, h2, h3, h4⟩, h5⟩ := h
  refine ⟨x.attr.toNat, by omega, by omega, x.at'.toNat, by omega, by omega, ?_, ?_⟩
  · intro hk
    rw [List.getElem?_eq_getElem (show x.attr.toNat < al.length by omega)] at h5
    simp only at h5
    rw [if_pos (by omega)] at h5
    exact of_decide_eq_true h5
  · intro hk
    rw [List.getElem?_eq_getElem (show x.attr.toNat < al.length by omega)] at h5
    simp only at h5
    rw [if_neg (by omega)] at h5
    have h6 := of_decide_eq_true h5
    rwa [show (x.at' - 1).toNat = x.at'.toNat - 1 by omega] at h6
theorem node_rule {g : Gram} {T x : Tree} (hv : validT g T = true) (hx : x ∈ nodes T) (hr : x.rule ≠ -1) : ∃ ri : Nat, x.rule = (ri : Int) ∧ ∃ h : ri < g.rules.length, x.kids.length = g.rules[ri].right.length ∧ ∀ k (hk : k < x.kids.length) (hk2 : k < g.rules[ri].right.length), -1 ≤ x.kids[k].rule ∧ rootS g x.kids[k] = g.rules[ri].right[k] := by
  have h5 := List.all_eq_true.1 hv x hx
  unfold nodeOk at h5
  rw [if_neg hr] at h5
  by_cases h0 : x.rule < 0
  · rw [if_pos h0] at h5; cases h5
  · rw [if_neg h0] at h5
    cases hrr : g.rules[x.rule.toNat]? with
    | none => rw [hrr] at h5; cases h5
    | some r =>
      rw [hrr] at h5
      simp only [Bool.and_eq_true] at h5
      obtain ⟨hlt, he⟩ := List.getElem?_eq_some_iff.1 hrr
      refine ⟨x.rule.toNat, by omega, hlt, ?_, ?_⟩
      · have := h5.2
        unfold kidsOk at this
        rw [Bool.and_eq_true, decide_eq_true_eq] at this
        rw [he]; exact this.1
      · intro k hk hk2
        have := h5.2
        unfold kidsOk at this
        rw [Bool.and_eq_true] at this
        have h6 := List.all_eq_true.1 this.2
        have h7 : (x.kids[k], r.right[k]'(by rw [← he]; exact hk2)) ∈ List.zip x.kids r.right := by
          rw [List.mem_iff_getElem]
          refine ⟨k, by rw [List.length_zip]; rw [he] at hk2; omega, ?_⟩
          rw [List.getElem_zip]
        have h8 := h6 _ h7
        unfold kidOk at h8
        simp only [Bool.and_eq_true, decide_eq_true_eq] at h8
        refine ⟨h8.1, ?_⟩
        rw [h8.2.2]
        simp only [he]
theorem root_non {g : Gram} {x : Tree} {A : Int} (h : rootS g x = ⟨false, A⟩) : ∃ ri : Nat, x.rule = (ri : Int) ∧ ∃ h : ri < g.rules.length, g.rules[ri].left = A := by
  unfold rootS at h
  by_cases h0 : x.rule < 0
  · rw [if_pos h0] at h; cases h
  · rw [if_neg h0] at h
    cases hr : g.rules[x.rule.toNat]? with
    | none => rw [hr] at h; cases h
    | some r =>
      rw [hr] at h
      simp only [Sym.mk.injEq, true_and] at h
      obtain ⟨hlt, he⟩ := List.getElem?_eq_some_iff.1 hr
      exact ⟨x.rule.toNat, by omega, hlt, by rw [he]; exact h⟩
theorem ndAt_known {T : Tree} {i : Nat} {x : Tree} {u p : Int} (h : Known T (tabT T) i x u p) : ndAt (tabT T) i = ⟨x.rule, u, p, starts (i + 1) x.kids⟩ := by
  unfold ndAt
  rw [(good_node h.1).1]; rfl
theorem leftOf_at {g : Gram} {ri : Nat} (h : ri < g.rules.length) : leftOf g (ri : Int) = g.rules[ri].left := by
  unfold leftOf
  rw [Int.toNat_natCast, List.getElem?_eq_getElem h]; rfl
theorem mem_attrsOf {al : List At.Attr} {non : Int} {a : Nat} : a ∈ attrsOf al non ↔ ∃ h : a < al.length, al[a].non = non := by
  unfold attrsOf
  rw [List.mem_filter, List.mem_range]
  constructor
  · rintro ⟨h1, h2⟩
    rw [List.getElem?_eq_getElem h1] at h2
    exact ⟨h1, by simpa using h2⟩
  · rintro ⟨h1, h2⟩
    refine ⟨h1, ?_⟩
    rw [List.getElem?_eq_getElem h1]
    simpa using h2
theorem known_lt {T : Tree} {i : Nat} {x : Tree} {u p : Int} (h : Known T (tabT T) i x u p) : i < tsz T := by
  have := (List.getElem?_eq_some_iff.1 (good_node h.1).1).1
  rwa [tab_len] at this
theorem mem_all {g : Gram} {s : At.Sys} {T : Tree} {n a : Nat} : (n, a) ∈ allI g s (tabT T) ↔ n < tsz T ∧ a ∈ attrsAt g s (tabT T) n := by
  unfold allI
  rw [List.mem_flatMap]
  constructor
  · rintro ⟨m, hm, h⟩
    rw [List.mem_range, tab_len] at hm
    obtain ⟨b, hb, e⟩ := List.mem_map.1 h
    cases e
    exact ⟨hm, hb⟩
  · rintro ⟨h1, h2⟩
    exact ⟨n, by rw [List.mem_range, tab_len]; exact h1, List.mem_map.2 ⟨a, h2, rfl⟩⟩
theorem all_of {g : Gram} {s : At.Sys} {T x : Tree} {n a ri : Nat} {u p : Int} (hK : Known T (tabT T) n x u p) (hr : x.rule = (ri : Int)) (hri : ri < g.rules.length) (ha : a < s.attrs.length) (h : s.attrs[a].non = g.rules[ri].left) : (n, a) ∈ allI g s (tabT T) := by
  rw [mem_all]
  refine ⟨known_lt hK, ?_⟩
  unfold attrsAt
  rw [ndAt_known hK]
  simp only
  rw [if_neg (by omega), hr, leftOf_at hri, mem_attrsOf]
  exact ⟨ha, h⟩
structure InstOk (g : Gram) (s : At.Sys) (T : Tree) (i : Inst) where
  ex : ∃ (o : Nat) (y : Tree) (u p : Int) (ri : Nat) (k : Nat), Known T (tabT T) o y u p ∧ y.rule = (ri : Int) ∧ ownerI s (tabT T) i = o ∧ occI s (tabT T) i = ⟨(k : Int), (i.2 : Int)⟩ ∧ ∃ hri : ri < g.rules.length, k ≤ g.rules[ri].right.length ∧
    ∃ q ∈ s.eqs, q.rule = (ri : Int) ∧ q.to' = ⟨(k : Int), (i.2 : Int)⟩ ∧ exprI s (tabT T) i = q.is' ∧ (inhA s.attrs i.2 = true → (ndAt (tabT T) i.1).up = (o : Int))
theorem inst_ok {g : Gram} {s : At.Sys} {T : Tree} (hs : At.checkS g s = 0) (hv : validT g T = true) (hroot : rootS g T = ⟨false, g.start⟩) {n a : Nat} (hm : (n, a) ∈ allI g s (tabT T)) : InstOk g s T (n, a) := by
  obtain ⟨hn, ha⟩ := mem_all.1 hm
  obtain ⟨x, u, p, hK⟩ := known_all hv hn
  unfold attrsAt at ha
  rw [ndAt_known hK] at ha
  simp only at ha
  by_cases hr : x.rule < 0
  · rw [if_pos hr] at ha; cases ha
  rw [if_neg hr, mem_attrsOf] at ha
  obtain ⟨hal, hnon⟩ := ha
  obtain ⟨ri, hri, hrl, hkl, hkk⟩ := node_rule hv hK.2 (by omega)
  rw [hri, leftOf_at hrl] at hnon
  by_cases hi : s.attrs[a].inh = true
  · -- inherited: the equation of the parent's rule
    have hin : inhA s.attrs a = true := by unfold inhA; rw [List.getElem?_eq_getElem hal]; simpa using hi
    rcases every hv (tsz T) T 0 (-1) 0 (Nat.le_refl _) (known_root T) n (by omega) (by omega) with rfl | ⟨b, y, u', p', k, hk, hKb, hyr, _, _, hKk, hnum⟩
    · exfalso
      have h1 := (good_node hK.1).1
      have h2 := (good_node (known_root T).1).1
      rw [h2] at h1
      have h3 : T.rule = x.rule := by have := Option.some.inj h1; injection this
      have h4 := (sys_parts hs).2.1
      unfold At.attrsErr at h4
      have h5 : ∀ {l : List At.Attr} {i : Nat}, At.attrsFrom g s.attrs i l = 0 → ∀ x ∈ l, ¬ (x.inh = true ∧ x.non = g.start) := by
        intro l
        induction l with
        | nil => intro i _ x hx; cases hx
        | cons y l ih =>
          intro i h x hx
          rw [At.attrsFrom] at h
          by_cases h0 : At.attrErr g s.attrs i y = 0
          · rw [if_neg (by simpa using h0)] at h
            rcases List.mem_cons.1 hx with rfl | hx
            · unfold At.attrErr at h0
              intro hc
              by_cases h1 : x.non < 0 ∨ g.nons ≤ x.non
              · rw [if_pos h1] at h0; simp at h0
              · rw [if_neg h1, if_pos hc] at h0; simp at h0
            · exact ih h x hx
          · rw [if_pos h0] at h; exact absurd h h0
      obtain ⟨rj, hrj, hrjl, hst⟩ := root_non hroot
      have h6 : rj = ri := by omega
      subst h6
      exact h5 h4 _ (List.getElem_mem hal) ⟨hi, by rw [hnon, hst]⟩
    · obtain ⟨rb, hrb, hrbl, hybl, hybk⟩ := node_rule hv hKb.2 hyr
      have hk2 : k < g.rules[rb].right.length := by rw [← hybl]; exact hk
      obtain ⟨_, hroot2⟩ := hybk k hk hk2
      -- the node of the kid is the node x
      have hnd : ndAt (tabT T) n = ⟨x.rule, u, p, starts (n + 1) x.kids⟩ := ndAt_known hK
      have hnd2 := ndAt_known hKk
      have hxr : y.kids[k].rule = x.rule := by rw [hnd] at hnd2; injection hnd2 with e1 _ _ _; exact e1.symm
      have hu : u = (b : Int) ∧ p = ((k + 1 : Nat) : Int) := by rw [hnd] at hnd2; injection hnd2 with _ e2 e3 _; exact ⟨e2, by rw [e3]; rfl⟩
      have hsym : g.rules[rb].right[k] = ⟨false, s.attrs[a].non⟩ := by
        rw [← hroot2]
        unfold rootS
        rw [hxr, hri, if_neg (by omega), Int.toNat_natCast, List.getElem?_eq_getElem hrl]
        simp only
        rw [hnon]
      have hown : ownerI s (tabT T) (n, a) = b := by
        unfold ownerI
        simp only [hin, if_true]
        rw [hnd, hu.1]
        simp
      have hocc : occI s (tabT T) (n, a) = ⟨((k + 1 : Nat) : Int), (a : Int)⟩ := by
        unfold occI
        simp only [hin, if_true]
        rw [hnd, hu.2]
      have hdef : At.defs s.attrs g.rules[rb] ⟨((k + 1 : Nat) : Int), (a : Int)⟩ = true := by
        unfold At.defs At.there At.inhAt
        simp only [Int.toNat_natCast]
        rw [List.getElem?_eq_getElem hal]
        simp only
        rw [hi, if_neg (by omega), show (((k + 1 : Nat) : Int) - 1).toNat = k by omega, List.getElem?_eq_getElem hk2, hsym]
        simp
        omega
      obtain ⟨q, hq, hq1, hq2, hq3⟩ := has_eq hs hrbl (show k + 1 ≤ _ by omega) hal hdef
      refine ⟨b, y, u', p', rb, k + 1, hKb, hrb, hown, hocc, hrbl, by omega, q, hq, hq1, hq2, ?_, fun _ => by rw [hnd, hu.1]⟩
      unfold exprI
      rw [hown, hocc, ndAt_known hKb]
      simp only
      rw [hrb]
      exact hq3
  · have hi' : s.attrs[a].inh = false := by simpa using hi
    have hin : inhA s.attrs a = false := by unfold inhA; rw [List.getElem?_eq_getElem hal]; simpa using hi'
    have hown : ownerI s (tabT T) (n, a) = n := by unfold ownerI; simp [hin]
    have hocc : occI s (tabT T) (n, a) = ⟨((0 : Nat) : Int), (a : Int)⟩ := by unfold occI; simp [hin]
    have hdef : At.defs s.attrs g.rules[ri] ⟨((0 : Nat) : Int), (a : Int)⟩ = true := by
      unfold At.defs At.there At.inhAt
      simp only [Int.toNat_natCast]
      rw [List.getElem?_eq_getElem hal]
      simp [hi', hnon]
      omega
    obtain ⟨q, hq, hq1, hq2, hq3⟩ := has_eq hs hrl (show 0 ≤ _ by omega) hal hdef
    refine ⟨n, x, u, p, ri, 0, hK, hri, hown, hocc, hrl, by omega, q, hq, hq1, hq2, ?_, fun h => (by rw [hin] at h; cases h)⟩
    unfold exprI
    rw [hown, hocc, ndAt_known hK]
    simp only
    rw [hri]
    exact hq3
end Dm
end Go.Proofs.YtfocooehnmpndaaGreat
namespace Go.Proofs.YtfocooehnmpndaaGreat
open Go.RowKit
namespace Dm
open At (Ref worth worthL enodes refsS inM)
theorem place_there {g : Gram} {s : At.Sys} {T y : Tree} (hv : validT g T = true) {o ri : Nat} {u p : Int} (hK : Known T (tabT T) o y u p) (hr : y.rule = (ri : Int)) (hri : ri < g.rules.length) {r : Ref} (ht : At.there s.attrs g.rules[ri] r = true) :
    placeI (tabT T) o r ∈ allI g s (tabT T) ∧ ∃ a : Nat, r.attr = (a : Int) ∧ a < s.attrs.length ∧ (r.at' = 0 ∧ placeI (tabT T) o r = (o, a) ∨ ∃ k m : Nat, r.at' = ((k + 1 : Nat) : Int) ∧ k < y.kids.length ∧ (starts (o + 1) y.kids)[k]? = some (m : Int) ∧ placeI (tabT T) o r = (m, a) ∧ m < tsz T) := by
  obtain ⟨a, ha, hal, k, hk, hkl, h0, h1⟩ := there_parts ht
  have hnd := ndAt_known hK
  cases k with
  | zero =>
    have e : placeI (tabT T) o r = (o, a) := by unfold placeI; rw [if_pos (by omega), ha]; simp
    refine ⟨?_, a, ha, hal, .inl ⟨by omega, e⟩⟩
    rw [e]
    exact all_of hK hr hri hal (h0 rfl)
  | succ k =>
    obtain ⟨ri', hri', hrl', hkl', hkk⟩ := node_rule hv hK.2 (by omega)
    have e1 : ri' = ri := by omega
    subst e1
    have hkk2 : k < y.kids.length := by omega
    have h2 := h1 (by omega)
    obtain ⟨hlt, h3⟩ := List.getElem?_eq_some_iff.1 h2
    simp only [Nat.add_sub_cancel] at hlt h3
    have h4 := (hkk k hkk2 hlt).2
    rw [h3] at h4
    obtain ⟨rk, hrk, hrkl, hleft⟩ := root_non h4
    have hKk : Known T (tabT T) (o + 1 + tszL (y.kids.take k)) y.kids[k] o (k + 1) := ⟨good_kid hK.1 hkk2, kid_node T y _ hK.2 (by omega) (List.getElem_mem hkk2)⟩
    have hst := starts_get y.kids (o + 1) k hkk2
    have e : placeI (tabT T) o r = (o + 1 + tszL (y.kids.take k), a) := by
      unfold placeI
      rw [if_neg (by omega), hnd]
      simp only
      rw [show (r.at' - 1).toNat = k by omega, hst, ha]
      simp
      omega
    refine ⟨?_, a, ha, hal, .inr ⟨k, _, by omega, hkk2, hst, e, known_lt hKk⟩⟩
    rw [e]
    exact all_of hKk hrk hrkl hal hleft.symm
section
variable {g : Gram} {s : At.Sys} {T : Tree}
theorem needs_all (hs : At.checkS g s = 0) (hv : validT g T = true) (hroot : rootS g T = ⟨false, g.start⟩) {i j : Inst} (hi : i ∈ allI g s (tabT T)) (hj : j ∈ needsI s (tabT T) i) : j ∈ allI g s (tabT T) := by
  obtain ⟨n, a⟩ := i
  obtain ⟨o, y, u, p, ri, k, hK, hr, ho, hc, hri, _, q, hq, hq1, hq2, hx, -⟩ := (inst_ok hs hv hroot hi).ex
  unfold needsI at hj
  rw [ho, hx] at hj
  obtain ⟨r, hr2, rfl⟩ := List.mem_map.1 hj
  obtain ⟨z, hz, hzk, rfl⟩ := mem_refsS.1 hr2
  obtain ⟨rr, e1, _, _, _, hval⟩ := eq_facts hs hq
  rw [hq1, Int.toNat_natCast, List.getElem?_eq_getElem hri] at e1
  cases e1
  exact (place_there hv hK hr hri (ref_there hval hz hzk)).1
end
section
variable {s : At.Sys} {L : List Nd}
theorem Vl.inv {i : Inst} {v : Int} (h : Vl s L i v) : ∃ f : Inst → Int, (∀ j ∈ needsI s L i, Vl s L j (f j)) ∧ v = worth (fun r => f (placeI L (ownerI s L i) r)) (exprI s L i) := by
  cases h with
  | mk _ f h => exact ⟨f, h, rfl⟩
theorem worth_needs {i : Inst} {f f' : Inst → Int} (h : ∀ j ∈ needsI s L i, f j = f' j) : worth (fun r => f (placeI L (ownerI s L i) r)) (exprI s L i) = worth (fun r => f' (placeI L (ownerI s L i) r)) (exprI s L i) := by
  refine worth_congr _ fun y hy hk => ?_
  refine h _ ?_
  unfold needsI
  exact List.mem_map.2 ⟨y.ref, mem_refsS.2 ⟨y, hy, hk, rfl⟩, rfl⟩
theorem Vl.unique {i : Inst} {v : Int} (h : Vl s L i v) : ∀ {v' : Int}, Vl s L i v' → v = v' := by
  induction h with
  | mk i f h ih =>
    intro v' h'
    obtain ⟨f', h1, rfl⟩ := h'.inv
    exact worth_needs fun j hj => ih j hj (h1 j hj)
inductive Rch (s : At.Sys) (L : List Nd) : Inst → Inst → Prop where
  | one {i j : Inst} : j ∈ needsI s L i → Rch s L i j
  | more {i j k : Inst} : Rch s L i j → k ∈ needsI s L j → Rch s L i k
theorem Rch.trans {i j k : Inst} (h : Rch s L i j) (h2 : Rch s L j k) : Rch s L i k := by
  induction h2 with
  | one h3 => exact .more h h3
  | more _ h3 ih => exact .more ih h3
theorem Rch.first {i k : Inst} (h : Rch s L i k) : ∃ j ∈ needsI s L i, j = k ∨ Rch s L j k := by
  induction h with
  | one h3 => exact ⟨_, h3, .inl rfl⟩
  | more _ h3 ih =>
    obtain ⟨j, hj, h4⟩ := ih
    rcases h4 with rfl | h4
    · exact ⟨_, hj, .inr (.one h3)⟩
    · exact ⟨j, hj, .inr (.more h4 h3)⟩
theorem Vl.no_circle {i : Inst} {v : Int} (h : Vl s L i v) : ¬ Rch s L i i := by
  induction h with
  | mk i f h ih =>
    intro hr
    obtain ⟨j, hj, h4⟩ := hr.first
    rcases h4 with rfl | h4
    · exact ih j hj hr
    · exact ih j hj (h4.trans (.one hj))
theorem Vl.needs {i j : Inst} {v : Int} (h : Vl s L i v) (hj : j ∈ needsI s L i) : ∃ v', Vl s L j v' := by
  obtain ⟨f, h1, _⟩ := h.inv
  exact ⟨f j, h1 j hj⟩
def SoundV (s : At.Sys) (L : List Nd) (H : Inst → Option Int) : Prop := ∀ i v, H i = some v → Vl s L i v
def readyV (s : At.Sys) (L : List Nd) (H : Inst → Option Int) (i : Inst) : Prop := ∀ j ∈ needsI s L i, (H j).isSome = true
def valV (s : At.Sys) (L : List Nd) (H : Inst → Option Int) (i : Inst) : Int := worth (fun r => (H (placeI L (ownerI s L i) r)).getD 0) (exprI s L i)
theorem SoundV.next {H : Inst → Option Int} (h : SoundV s L H) {i : Inst} (hr : readyV s L H i) : Vl s L i (valV s L H i) := by
  refine Vl.mk i (fun j => (H j).getD 0) fun j hj => ?_
  have := hr j hj
  cases e : H j with
  | none => rw [e] at this; cases this
  | some v => exact h j v e
theorem SoundV.put {H : Inst → Option Int} (h : SoundV s L H) {i : Inst} (hr : readyV s L H i) : SoundV s L (fun j => if j = i then some (valV s L H i) else H j) := by
  intro j v e
  dsimp only at e
  by_cases ej : j = i
  · rw [if_pos ej] at e; cases e; rw [ej]; exact h.next hr
  · rw [if_neg ej] at e; exact h j v e
theorem whole {H : Inst → Option Int} (hs : SoundV s L H) {A : Inst → Prop} (hA : ∀ i j, A i → j ∈ needsI s L i → A j) (hc : ∀ i, A i → readyV s L H i → (H i).isSome = true) {i : Inst} {v : Int} (h : Vl s L i v) : A i → H i = some v := by
  induction h with
  | mk i f h ih =>
    intro hi
    have hr : readyV s L H i := fun j hj => by rw [ih j hj (hA i j hi hj)]; rfl
    have h1 := hc i hi hr
    cases e : H i with
    | none => rw [e] at h1; cases h1
    | some v => rw [(hs i v e).unique (Vl.mk i f h)]
end
structure GetS where
  st : Inst → Nat
  va : Inst → Int
structure GetI (s : At.Sys) (L : List Nd) (A S : Inst → Prop) (X : GetS) : Prop where
  one : ∀ i, X.st i = 1 ↔ S i
  two : ∀ i, X.st i = 2 → Vl s L i (X.va i)
  three : ∀ i, X.st i = 3 → ∀ v, ¬ Vl s L i v
  le : ∀ i, X.st i ≤ 3
  dom : ∀ i, X.st i ≠ 0 → A i
def GetS.upto (X Y : GetS) : Prop := ∀ i, X.st i ≠ 0 → Y.st i = X.st i ∧ (X.st i = 2 → Y.va i = X.va i)
theorem GetS.upto_refl (X : GetS) : X.upto X := fun _ _ => ⟨rfl, fun _ => rfl⟩
theorem GetS.upto_trans {X Y Z : GetS} (h : X.upto Y) (k : Y.upto Z) : X.upto Z := fun i hi => by
  obtain ⟨h1, h2⟩ := h i hi
  obtain ⟨k1, k2⟩ := k i (by rw [h1]; exact hi)
  exact ⟨k1.trans h1, fun e => (k2 (h1.trans e)).trans (h2 e)⟩
def GetS.mark (X : GetS) (p : Inst) (c : Nat) : GetS := ⟨fun i => if i = p then c else X.st i, X.va⟩
def GetS.val (X : GetS) (p : Inst) (v : Int) : GetS := ⟨X.st, fun i => if i = p then v else X.va i⟩
section
variable {s : At.Sys} {L : List Nd} {A S : Inst → Prop} {X : GetS} {p : Inst}
theorem GetI.begin (h : GetI s L A S X) (hp : A p) (h0 : X.st p = 0) : GetI s L A (fun i => S i ∨ i = p) (X.mark p 1) := by
  refine ⟨fun i => ?_, fun i e => ?_, fun i e => ?_, fun i => ?_, fun i e => ?_⟩ <;> simp only [GetS.mark] at *
  · by_cases ei : i = p
    · rw [if_pos ei]; simp [ei]
    · rw [if_neg ei]; simp [ei, h.one i]
  · by_cases ei : i = p
    · rw [if_pos ei] at e; omega
    · rw [if_neg ei] at e; exact h.two i e
  · by_cases ei : i = p
    · rw [if_pos ei] at e; omega
    · rw [if_neg ei] at e; exact h.three i e
  · by_cases ei : i = p
    · rw [if_pos ei]; omega
    · rw [if_neg ei]; exact h.le i
  · by_cases ei : i = p
    · rw [ei]; exact hp
    · rw [if_neg ei] at e; exact h.dom i e
theorem mark_upto (h0 : X.st p = 0) (c : Nat) : X.upto (X.mark p c) := fun i hi => by
  unfold GetS.mark
  by_cases ei : i = p
  · rw [ei, h0] at hi; exact absurd rfl hi
  · simp [ei]
theorem GetI.stop {Y : GetS} (h : GetI s L A (fun i => S i ∨ i = p) Y) (hS : ¬ S p) (hn : ∀ v, ¬ Vl s L p v) : GetI s L A S (Y.mark p 3) := by
  have hp1 : Y.st p = 1 := (h.one p).2 (.inr rfl)
  refine ⟨fun i => ?_, fun i e => ?_, fun i e => ?_, fun i => ?_, fun i e => ?_⟩ <;> simp only [GetS.mark] at *
  · by_cases ei : i = p
    · rw [if_pos ei, ei]; exact ⟨fun e => by omega, fun e => absurd e hS⟩
    · rw [if_neg ei, h.one i]; simp [ei]
  · by_cases ei : i = p
    · rw [if_pos ei] at e; omega
    · rw [if_neg ei] at e; exact h.two i e
  · by_cases ei : i = p
    · rw [ei]; exact hn
    · rw [if_neg ei] at e; exact h.three i e
  · by_cases ei : i = p
    · rw [if_pos ei]; omega
    · rw [if_neg ei]; exact h.le i
  · by_cases ei : i = p
    · rw [ei]; exact h.dom p (by omega)
    · rw [if_neg ei] at e; exact h.dom i e
theorem GetI.done {Y : GetS} (h : GetI s L A (fun i => S i ∨ i = p) Y) (hS : ¬ S p) (hn : ∀ j ∈ needsI s L p, Y.st j = 2) : GetI s L A S ((Y.val p (worth (fun r => Y.va (placeI L (ownerI s L p) r)) (exprI s L p))).mark p 2) := by
  have hp1 : Y.st p = 1 := (h.one p).2 (.inr rfl)
  refine ⟨fun i => ?_, fun i e => ?_, fun i e => ?_, fun i => ?_, fun i e => ?_⟩ <;> simp only [GetS.mark, GetS.val] at *
  · by_cases ei : i = p
    · rw [if_pos ei, ei]; exact ⟨fun e => by omega, fun e => absurd e hS⟩
    · rw [if_neg ei, h.one i]; simp [ei]
  · by_cases ei : i = p
    · rw [if_pos ei, ei]; exact Vl.mk p Y.va fun j hj => h.two j (hn j hj)
    · rw [if_neg ei] at e ⊢; exact h.two i e
  · by_cases ei : i = p
    · rw [if_pos ei] at e; omega
    · rw [if_neg ei] at e; exact h.three i e
  · by_cases ei : i = p
    · rw [if_pos ei]; omega
    · rw [if_neg ei]; exact h.le i
  · by_cases ei : i = p
    · rw [ei]; exact h.dom p (by omega)
    · rw [if_neg ei] at e; exact h.dom i e
end
def cnt0 (l : List Inst) (X : GetS) : Nat := l.countP fun i => X.st i == 0
theorem cnt0_upto {l : List Inst} {X Y : GetS} (h : X.upto Y) : cnt0 l Y ≤ cnt0 l X := by
  unfold cnt0
  refine List.countP_mono_left fun i _ hi => ?_
  by_cases e : X.st i = 0
  · simpa using e
  · have := (h i e).1
    simp only [beq_iff_eq] at hi ⊢
    omega
theorem cnt0_mark {X : GetS} {p : Inst} {c : Nat} (hc : c ≠ 0) (h0 : X.st p = 0) : ∀ {l : List Inst}, p ∈ l → cnt0 l (X.mark p c) < cnt0 l X
  | [], h => by cases h
  | a :: l, h => by
    unfold cnt0
    rw [List.countP_cons, List.countP_cons]
    have hle : cnt0 l (X.mark p c) ≤ cnt0 l X := cnt0_upto (mark_upto h0 c)
    by_cases ea : a = p
    · subst ea
      have e1 : ((X.mark a c).st a == 0) = false := by simp [GetS.mark, hc]
      have e2 : (X.st a == 0) = true := by simpa using h0
      rw [e1, e2]
      unfold cnt0 at hle
      simp; omega
    · have h2 := cnt0_mark hc h0 (List.mem_of_ne_of_mem (fun e => ea e.symm) h)
      have e1 : ((X.mark p c).st a == 0) = (X.st a == 0) := by simp [GetS.mark, ea]
      rw [e1]
      unfold cnt0 at h2
      omega
end Dm
end Go.Proofs.YtfocooehnmpndaaGreat
namespace Go.Proofs.YtfocooehnmpndaaGreat
open Go.RowKit
def Bts (s : ByteArray) (l : List UInt8) : Prop := s.data.toList = l
theorem Bts.app {s t : ByteArray} {l m : List UInt8} (h : Bts s l) (k : Bts t m) : Bts (s ++ t) (l ++ m) := by
  unfold Bts at *
  rw [ByteArray.data_append, Array.toList_append, h, k]
theorem Bts.size {s : ByteArray} {l : List UInt8} (h : Bts s l) : s.size = l.length := by
  unfold Bts at h
  rw [← h]; rfl
end Go.Proofs.YtfocooehnmpndaaGreat
namespace Go.Proofs.YtfocooehnmpndaaGreat
open Go.RowKit
namespace Km
theorem zInt (w : World) : (zeroValue 3).run Tryz.prog w = .ok (.int .i64 0) w := by
  obtain ⟨i, hi, hz, _⟩ := info_parts (show (Tryz.prog.info? 3).map (fun i => (i.zero, i.size, i.bytes)) = some (some (.int .i64 0), 1, 8) by kernel_rfl)
  simp [zeroValue, typeInfo, hi, hz]
def KMap (k e : TypeId) (b : Nat) (F : Lit → Option Lit) (c : Nat) (w : World) : Prop :=
  ∃ D : DataW Unit, w.ownsMap Tryz.prog k (plainElem Tryz.prog e) b c D ∧ Maps.size D = c ∧ (∀ l, Maps.has D l = (F l).isSome) ∧ ∀ l x, F l = some x → ∀ zd, D.atKey l zd = .lit x
open Classical in
noncomputable def put (F : Lit → Option Lit) (l x : Lit) : Lit → Option Lit := fun l' => if l' = l then some x else F l'
theorem put_same (F : Lit → Option Lit) (l x : Lit) : put F l x l = some x := by unfold put; rw [if_pos rfl]
theorem put_other (F : Lit → Option Lit) {l l' : Lit} (x : Lit) (h : l' ≠ l) : put F l x l' = F l' := by unfold put; rw [if_neg h]
section
variable {k e t : TypeId} {b c : Nat} {F F' : Lit → Option Lit} {w w' : World}
theorem KMap.kept {row : Option Nat} (h : KMap k e b F c w) (hg : w.grownBy w' row) (hne : some b ≠ row) : KMap k e b F c w' := by
  obtain ⟨D, h1, h2⟩ := h
  exact ⟨D, h1.kept hg hne, h2⟩
theorem KMap.keep (h : KMap k e b F c w) (hb : Below w.heap.size w w') : KMap k e b F c w' := h.kept (grown_below hb none) (by simp)
theorem KMap.setCell (h : KMap k e b F c w) {a : Addr} (ha : b ≠ a.block) (u : Value) : KMap k e b F c (w.setCell a u) := by
  obtain ⟨D, h1, h2⟩ := h
  exact ⟨D, h1.setCell ha u, h2⟩
theorem KMap.lt (h : KMap k e b F c w) : b < w.heap.size := by obtain ⟨D, h1, _⟩ := h; exact h1.lt
theorem KMap.eq (h : KMap k e b F c w) (e1 : ∀ l, F l = F' l) : KMap k e b F' c w := by rw [show F' = F from funext fun l => (e1 l).symm]; exact h
theorem KMap.start (w : World) {b : Nat} (hb : b = w.heap.size) : KMap k e b (fun _ => none) 0 (w.alloc (.map #[] 0)) := by
  subst hb
  exact ⟨.map [], World.ownsMap_made w _ _ _, rfl, fun l => by simp [Maps.has], fun l x h => by cases h⟩
theorem KMap.len (h : KMap k e b F c w) (ht : Tryz.prog.underlying t = some (.map k e)) (ty : TypeId) : (Builtin.len_ #[t] ty #[.map (some b)]).run Tryz.prog w = .ok (.int .i64 c) w := by
  obtain ⟨D, h1, h2, _⟩ := h
  have := h1.len ht ty
  rw [h2] at this
  exact this
theorem KMap.look (h : KMap k 3 b F c w) (hK : Maps.Keyed Tryz.prog k) (ht : Tryz.prog.underlying t = some (.map k 3)) {key : Value} {l : Lit} (hkey : keyOf Tryz.prog k key = some l) :
    (∀ x : Int, F l = some (.int .i64 x) → (Instr.lookup t (.map (some b)) key true).run Tryz.prog w = .ok (.tuple #[.int .i64 x, .bool true]) w ∧ (Instr.lookup t (.map (some b)) key false).run Tryz.prog w = .ok (.int .i64 x) w) ∧
    (F l = none → (Instr.lookup t (.map (some b)) key true).run Tryz.prog w = .ok (.tuple #[.int .i64 0, .bool false]) w) := by
  obtain ⟨D, h1, h2, h3, h4⟩ := h
  obtain ⟨v, ps, hrun, hv⟩ := h1.look_ok hK ht (zInt w) (plainElem_int Tryz.underlying3 (by decide)) hkey
  obtain ⟨v', ps', hrun', hv'⟩ := h1.lookup hK ht (zInt w) (plainElem_int Tryz.underlying3 (by decide)) hkey
  obtain ⟨n, rfl, hn, _⟩ := plainElem_int_inv Tryz.underlying3 hv
  obtain ⟨n', rfl, hn', _⟩ := plainElem_int_inv Tryz.underlying3 hv'
  rw [h3 l] at hrun
  constructor
  · intro x hx
    rw [hx] at hrun
    rw [h4 l _ hx] at hn hn'
    simp at hn hn'
    rw [← hn.1] at hrun
    rw [← hn'.1] at hrun'
    exact ⟨hrun, hrun'⟩
  · intro hx
    rw [hx] at hrun
    have hh : Maps.has D l = false := by rw [h3, hx]; rfl
    rw [Maps.atKey_of_not_has hh] at hn
    simp at hn
    rw [← hn.1] at hrun
    exact hrun
theorem KMap.store (h : KMap k e b F c w) (hK : Maps.Keyed Tryz.prog k) (ht : Tryz.prog.underlying t = some (.map k e)) (hc : c < maxLen) {key v : Value} {l x : Lit} (hkey : keyOf Tryz.prog k key = some l) (hv : plainElem (H := Unit) Tryz.prog e v = some (.lit x, [])) :
    ∃ w', (Instr.mapUpdate t (.map (some b)) key v).run Tryz.prog w = .ok () w' ∧ KMap k e b (put F l x) (if (F l).isSome then c else c + 1) w' ∧ w.grownBy w' (some b) := by
  obtain ⟨D, h1, h2, h3, h4⟩ := h
  obtain ⟨w', hrun, ho, htn⟩ := h1.store hK ht hc hkey hv
  have hm := h1.isMap
  have hkk := hK.key hkey
  have hty := h1.tidy hK
  have hsz := Maps.size_put (k := l) hty (.lit x)
  rw [h3 l, h2] at hsz
  refine ⟨w', hrun, ⟨_, ?_, hsz, fun l' => ?_, fun l' y hy zd => ?_⟩, htn.grown⟩
  · obtain ⟨es, ck, a1, a2, a3, a4⟩ := ho
    refine ⟨es, ck, a1, a2, ?_, a4⟩
    rw [← hsz, a4]
    show es.size ≤ _
    rw [Maps.size_eq, length_read]; exact Nat.le_refl _
  · by_cases el : l' = l
    · subst el
      rw [Maps.has_put_same hm hkk, put_same]; rfl
    · rw [Maps.has_put_other el, h3, put_other _ _ el]
  · by_cases el : l' = l
    · subst el
      rw [put_same] at hy
      cases hy
      exact Maps.atKey_put_same hm hkk _ _
    · rw [put_other _ _ el] at hy
      rw [Maps.atKey_put_other el]
      exact h4 l' y hy zd
end
theorem velInt {n : Int} (h : (Lit.int .i64 n).wf = true) : plainElem (H := Unit) Tryz.prog 3 (.int .i64 n) = some (.lit (.int .i64 n), []) := plainElem_int Tryz.underlying3 h
theorem velBool (x : Bool) : plainElem (H := Unit) Tryz.prog 4 (.bool x) = some (.lit (.bool x), []) := plainElem_bool Tryz.underlying4 x
end Km
end Go.Proofs.YtfocooehnmpndaaGreat
namespace Go.Proofs.YtfocooehnmpndaaGreat
namespace Al
def al (c0 c1 c2 : Int) : List Int → List Int → Int
  | [], v => (v.length : Int) * c0
  | _ :: w, [] => ((w.length : Int) + 1) * c1
  | x :: w, y :: v => if x = y then al c0 c1 c2 w v else min (min (al c0 c1 c2 w v + c2) (al c0 c1 c2 w (y :: v) + c1)) (al c0 c1 c2 (x :: w) v + c0)
termination_by w v => w.length + v.length
section
variable {c0 c1 c2 : Int}
end
structure Op where
  kind : Int
  at' : Int
  term : Int
  deriving DecidableEq
def ops (c0 c1 c2 : Int) : Nat → List Int → List Int → List Op
  | _, [], [] => []
  | i, x :: w, [] => ⟨2, i, x⟩ :: ops c0 c1 c2 (i + 1) w []
  | i, [], y :: v => ⟨1, i, y⟩ :: ops c0 c1 c2 i [] v
  | i, x :: w, y :: v => if x = y then ⟨0, i, x⟩ :: ops c0 c1 c2 (i + 1) w v
    else if al c0 c1 c2 w v + c2 = al c0 c1 c2 (x :: w) (y :: v) then ⟨3, i, y⟩ :: ops c0 c1 c2 (i + 1) w v
    else if al c0 c1 c2 w (y :: v) + c1 = al c0 c1 c2 (x :: w) (y :: v) then ⟨2, i, x⟩ :: ops c0 c1 c2 (i + 1) w (y :: v)
    else ⟨1, i, y⟩ :: ops c0 c1 c2 i (x :: w) v
termination_by _ w v => w.length + v.length
def run : List Int → Nat → List Op → Option (List Int)
  | rest, _, [] => if rest = [] then some [] else none
  | rest, i, o :: l => if o.at' ≠ i ∨ o.kind < 0 ∨ 3 < o.kind ∨ (o.kind ≠ 1 ∧ rest = []) then none
    else if o.kind = 1 then (run rest i l).map fun t => o.term :: t
    else match rest with
      | [] => none
      | x :: r => (run r (i + 1) l).map fun t => (if o.kind = 0 then [x] else if o.kind = 3 then [o.term] else []) ++ t
end Al
end Go.Proofs.YtfocooehnmpndaaGreat
namespace Go.Proofs.YtfocooehnmpndaaGreat
open Go.RowKit
namespace Dm
open At (Ref)
theorem wfS {n : Int} (h : 0 ≤ n ∧ n ≤ 100000000) : (Lit.int .i64 n).wf = true := by
  simp [Lit.wf, IntKind.min, IntKind.max, IntKind.signed, IntKind.bits]; omega
def okS (n : Int) : Prop := 0 ≤ n ∧ n ≤ 100000000
theorem dmLaid : laidOutB Tryz.prog = true := by kernel_rfl
-- keys of equations
theorem kyRow : (134 : TypeId) < Tryz.prog.types.size := of_decide_eq_true (by kernel_rfl)
theorem kyWide : (match Tryz.prog.underlying 134 with | some (.array _ _) | some (.struct _) => true | _ => false) = true := by kernel_rfl
theorem kyAt : Tryz.prog.keyTypeAt 3 134 = true := by kernel_rfl
set_option maxRecDepth 100000 in
theorem kyLaw : WideMaps.KeyLaw Tryz.prog 134 := deep_law_laid dmLaid (m := 3) (by omega) kyRow kyAt kyWide
theorem kyK : Go.Maps.Keyed Tryz.prog 134 := .of_law kyLaw
def kyL (a b c : Int) : Lit := .string (keyBytes [.int .i64 a, .int .i64 b, .int .i64 c])
theorem kyKey {a b c : Int} (ha : okS a) (hb : okS b) (hc : okS c) : keyOf Tryz.prog 134 (.agg #[.int .i64 a, .int .i64 b, .int .i64 c]) = some (kyL a b c) := by
  have ha := wfS ha
  have hb := wfS hb
  have hc := wfS hc
  have h1 : Tryz.prog.keyType 134 = true := by kernel_rfl
  have h3 : Tryz.prog.cellsOf 134 = 3 := by kernel_rfl
  have h4 : Tryz.prog.cellsOf 3 = 1 := by kernel_rfl
  have h6 : Tryz.prog.cellsOf 83 = 2 := by kernel_rfl
  have h2 : (Value.agg #[Value.int .i64 a, Value.int .i64 b, Value.int .i64 c]).formed Tryz.prog 134 = true := by simp [Value.formed, Tryz.underlying134, h3]
  obtain ⟨m, hm⟩ : ∃ m, Tryz.prog.types.size = m + 1 + 1 := ⟨Tryz.prog.types.size - 2, by have h : 1 < Tryz.prog.types.size := of_decide_eq_true (by kernel_rfl); omega⟩
  have h5 : Tryz.prog.keyLits (Tryz.prog.types.size + 1) 134 [.int .i64 a, .int .i64 b, .int .i64 c] = some [.int .i64 a, .int .i64 b, .int .i64 c] := by
    rw [hm]
    simp [Program.keyLits, Tryz.underlying134, Tryz.underlying83, h3, h4, h6, Tryz.underlying3, ha, hb, hc]
    rw [if_pos (fun i x => by match i, x with | 0, _ => simp | 1, _ => simp | n + 2, h => exact absurd h (by omega))]
    rfl
  unfold keyOf
  simp only [Tryz.underlying134, h1, h2, Bool.and_self, if_true]
  show Option.map _ (Tryz.prog.keyLits _ _ [.int .i64 a, .int .i64 b, .int .i64 c]) = _
  rw [h5]
  rfl
theorem kyL_inj {a b c a' b' c' : Int} (ha : okS a) (hb : okS b) (hc : okS c) (ha' : okS a') (hb' : okS b') (hc' : okS c') (h : kyL a b c = kyL a' b' c') : a = a' ∧ b = b' ∧ c = c' := by
  have h1 := kyKey ha hb hc
  have h2 := kyKey ha' hb' hc'
  rw [← h] at h2
  have := kyK.inj h1 h2
  simpa using this
-- keys of instances
def piL (a b : Int) : Lit := .string (keyBytes [.int .i64 a, .int .i64 b])
theorem piRow : (104 : TypeId) < Tryz.prog.types.size := of_decide_eq_true (by kernel_rfl)
theorem piWide : (match Tryz.prog.underlying 104 with | some (.array _ _) | some (.struct _) => true | _ => false) = true := by kernel_rfl
theorem piAt : Tryz.prog.keyTypeAt 3 104 = true := by kernel_rfl
set_option maxRecDepth 100000 in
theorem piLaw : WideMaps.KeyLaw Tryz.prog 104 := deep_law_laid dmLaid (m := 3) (by omega) piRow piAt piWide
theorem piK : Go.Maps.Keyed Tryz.prog 104 := .of_law piLaw
theorem piKey {a b : Int} (ha : okS a) (hb : okS b) : keyOf Tryz.prog 104 (.agg #[.int .i64 a, .int .i64 b]) = some (piL a b) := by
  have ha := wfS ha
  have hb := wfS hb
  have h1 : Tryz.prog.keyType 104 = true := by kernel_rfl
  have h3 : Tryz.prog.cellsOf 104 = 2 := by kernel_rfl
  have h4 : Tryz.prog.cellsOf 3 = 1 := by kernel_rfl
  have h2 : (Value.agg #[Value.int .i64 a, Value.int .i64 b]).formed Tryz.prog 104 = true := by simp [Value.formed, Tryz.underlying104, h3]
  have h5 : Tryz.prog.keyLits (Tryz.prog.types.size + 1) 104 [.int .i64 a, .int .i64 b] = some [.int .i64 a, .int .i64 b] := by
    obtain ⟨m, hm⟩ : ∃ m, Tryz.prog.types.size = m + 1 := ⟨Tryz.prog.types.size - 1, by have h : 1 < Tryz.prog.types.size := of_decide_eq_true (by kernel_rfl); omega⟩
    rw [hm]
    simp [Program.keyLits, Tryz.underlying104, h3, h4, Tryz.underlying3, ha, hb]
  unfold keyOf
  simp only [Tryz.underlying104, h1, h2, Bool.and_self, if_true]
  show Option.map _ (Tryz.prog.keyLits _ _ [.int .i64 a, .int .i64 b]) = _
  rw [h5]
  rfl
theorem piL_inj {a b a' b' : Int} (ha : okS a) (hb : okS b) (ha' : okS a') (hb' : okS b') (h : piL a b = piL a' b') : a = a' ∧ b = b' := by
  have h1 := piKey ha hb
  have h2 := piKey ha' hb'
  rw [← h] at h2
  have := piK.inj h1 h2
  simpa using this
theorem inRow : (59 : TypeId) < Tryz.prog.types.size := of_decide_eq_true (by kernel_rfl)
theorem inWide : (match Tryz.prog.underlying 59 with | some (.array _ _) | some (.struct _) => true | _ => false) = true := by kernel_rfl
theorem inAt : Tryz.prog.keyTypeAt 3 59 = true := by kernel_rfl
set_option maxRecDepth 100000 in
theorem inLaw : WideMaps.KeyLaw Tryz.prog 59 := deep_law_laid dmLaid (m := 3) (by omega) inRow inAt inWide
theorem inK : Go.Maps.Keyed Tryz.prog 59 := .of_law inLaw
theorem inKey {a b : Int} (ha : okS a) (hb : okS b) : keyOf Tryz.prog 59 (.agg #[.int .i64 a, .int .i64 b]) = some (piL a b) := by
  have ha := wfS ha
  have hb := wfS hb
  have h1 : Tryz.prog.keyType 59 = true := by kernel_rfl
  have h3 : Tryz.prog.cellsOf 59 = 2 := by kernel_rfl
  have h4 : Tryz.prog.cellsOf 3 = 1 := by kernel_rfl
  have h2 : (Value.agg #[Value.int .i64 a, Value.int .i64 b]).formed Tryz.prog 59 = true := by simp [Value.formed, Tryz.underlying59, h3]
  have h5 : Tryz.prog.keyLits (Tryz.prog.types.size + 1) 59 [.int .i64 a, .int .i64 b] = some [.int .i64 a, .int .i64 b] := by
    obtain ⟨m, hm⟩ : ∃ m, Tryz.prog.types.size = m + 1 := ⟨Tryz.prog.types.size - 1, by have h : 1 < Tryz.prog.types.size := of_decide_eq_true (by kernel_rfl); omega⟩
    rw [hm]
    simp [Program.keyLits, Tryz.underlying59, h3, h4, Tryz.underlying3, ha, hb]
  unfold keyOf
  simp only [Tryz.underlying59, h1, h2, Bool.and_self, if_true]
  show Option.map _ (Tryz.prog.keyLits _ _ [.int .i64 a, .int .i64 b]) = _
  rw [h5]
  rfl
end Dm
end Go.Proofs.YtfocooehnmpndaaGreat
namespace Go.Proofs.YtfocooehnmpndaaGreat
open Go.RowKit
def KidsPost (w0 : World) (t : Tree) (w : World) (e : Ending) (w' : World) : Prop :=
  ∃ a cap, e = .returned (.slice a (kidsOf t).length cap) ∧ Rd AnyB w0 (.sl ((kidsOf t).map Tree.d)) [.slice a (kidsOf t).length cap] ∧ Below w.heap.size w w'
theorem rd_nil (S : Nat → Prop) (w : World) : Rd S w (.sl []) [.slice none 0 0] := ⟨none, 0, [], rfl, by simp, by simp [maxLen], fun _ => rfl, fun i hi => by simp at hi, rfl⟩
set_option maxHeartbeats 400000 in
theorem kidsE (w0 : World) (t : Tree) (v : Value) (w : World) (hv : Rd AnyB w0 (.sl (t.kids.map Tree.d)) [v]) :
    Calls Tryz.prog 130 #[.agg #[.int .i64 t.rule, .int .i64 t.term, v]] w (KidsPost w0 t w) := by
  obtain ⟨a, cap, rfl, hc1, hc2⟩ := hv.form
  have HV := Lib.hid hv
  clear hv hc1 hc2
  cases t with
  | node r tm ks =>
  simp only [Tree.rule, Tree.term, Tree.kids, List.length_map] at HV ⊢
  by_cases hr : r = -1
  · subst hr
    go_enter Tryz.func130, Tryz.ntmps130
    go_wp2
    go_ret
    exact ⟨none, 0, rfl, rd_nil _ _, (Below.refl _ _).alloc (Nat.le_refl _) _⟩
  · have hr' : (r == -1) = false := by simpa using hr
    have HR := Lib.hid hr
    clear hr
    go_enter Tryz.func130, Tryz.ntmps130
    go_wp2
    go_ret
    refine ⟨a, cap, ?_, ?_, (Below.refl _ _).alloc (Nat.le_refl _) _⟩
    · simp [kidsOf, Tree.rule, Tree.kids, HR.out]
    · have e : kidsOf (.node r tm ks) = ks := by simp [kidsOf, Tree.rule, Tree.kids, HR.out]
      rw [e]; exact HV.out
structure NodeFn (g : Nat) (lb : Array Value) (w0 : World) (p : Tree → Bool) (N : Nat) (I : List Tree → (Nat → Prop) → World → Prop) : Prop where
  below : ∀ {s S W}, I s S W → Below w0.heap.size w0 W
  own : ∀ {s S W}, I s S W → ∀ k, S k → w0.heap.size ≤ k ∧ k < W.heap.size
  keep : ∀ {s S W W'}, I s S W → Below W.heap.size W W' → I s S W'
  call : ∀ s S W (t : Tree) (v : Value), I s S W → Rd AnyB w0 (.sl (t.kids.map Tree.d)) [v] → s.length < N →
    Calls Tryz.prog g (#[.agg #[.int .i64 t.rule, .int .i64 t.term, v]] ++ lb) W fun e W' => ∃ S', e = .returned (.bool (p t)) ∧ I (s ++ [t]) S' W' ∧ Keeps S W W' ∧ ∀ k, S' k → S k ∨ W.heap.size ≤ k
def WalkPost (p : Tree → Bool) (I : List Tree → (Nat → Prop) → World → Prop) (t : Tree) (s : List Tree) (S : Nat → Prop) (W : World) (e : Ending) (W' : World) : Prop :=
  ∃ S', e = .returned (.bool ((nodes t).all p)) ∧ I (s ++ upTo p (nodes t)) S' W' ∧ Keeps S W W' ∧ ∀ k, S' k → S k ∨ W.heap.size ≤ k
structure WalkRel (p : Tree → Bool) (I : List Tree → (Nat → Prop) → World → Prop) (t : Tree) (s : List Tree) (S : Nat → Prop) (W : World) (i : Nat) (S' : Nat → Prop) (W' : World) : Prop where
  inv : I (s ++ t :: nodesL ((kidsOf t).take i)) S' W'
  kps : Keeps S W W'
  sub : ∀ k, S' k → S k ∨ W.heap.size ≤ k
  all : (t :: nodesL ((kidsOf t).take i)).all p = true
set_option maxHeartbeats 2000000 in
set_option maxRecDepth 100000 in
theorem walkE (g : Nat) (lb : Array Value) (w0 : World) (p : Tree → Bool) (N : Nat) (I : List Tree → (Nat → Prop) → World → Prop) (eg : ∀ args w, (callFunc g args).run Tryz.prog w = .ok (.enter g args) w) (hF : NodeFn g lb w0 p N I) :
    ∀ (m : Nat) (t : Tree) (v : Value) (s : List Tree) (S : Nat → Prop) (W : World), (nodes t).length ≤ m → I s S W → Rd AnyB w0 (.sl (t.kids.map Tree.d)) [v] → s.length + (nodes t).length ≤ N →
      Calls Tryz.prog 133 #[.agg #[.int .i64 t.rule, .int .i64 t.term, v], .func (.func g) #[] lb] W (WalkPost p I t s S W) := by
  intro m
  induction m with
  | zero => intro t v s S W hm; have := nodes_pos t; omega
  | succ m ih =>
  intro t v s S W hm hI hv hN
  obtain ⟨a, cap, rfl, hc1, hc2⟩ := hv.form
  have HV := Lib.hid hv
  have HI := Lib.hid hI
  have HF := Lib.hid hF
  have IH := Lib.hid ih
  have HM := Lib.hid hm
  have HN := Lib.hid hN
  have hn0 := nodes_pos t
  have hsl : s.length < N := by omega
  clear hv hI hF ih hc1 hc2 hm hN hn0
  obtain ⟨r, HRr⟩ := nameIt t.rule
  obtain ⟨tm, HRt⟩ := nameIt t.term
  obtain ⟨nk, HRn⟩ := nameIt (t.kids.map Tree.d).length
  have hk := fun W => kidsE w0 t _ W HV.out
  have hcall := fun W h => HF.out.call s S W t _ h HV.out hsl
  rw [HRr.out, HRt.out, HRn.out] at hk hcall
  rw [HRr.out, HRt.out, HRn.out]
  have HK := Lib.hid hk
  have HC := Lib.hid hcall
  clear hk hcall
  go_enter Tryz.func133, Tryz.ntmps133
  go_wp2_with fail
  refine (HC.out _ (HF.out.keep HI.out ((Below.refl _ _).alloc (Nat.le_refl _) _))).mono ?_
  rintro e W1 ⟨S1, rfl, hI1, hk1, hs1⟩
  have hx := hk1.cells (bx_new W _ W.heap.size rfl) (fun h => by have := (HF.out.own HI.out _ h).2; omega)
  have HI1 := Lib.hid hI1
  have HK1 : Hid (Keeps S W W1) := (Below.keeps (S := S) ((Below.refl W.heap.size W).alloc (Nat.le_refl _) (.cells #[.int .i64 r, .int .i64 tm, .slice a nk cap] 31))).trans hk1 (fun k h => .inl h)
  have HS1 : Hid (∀ k, S1 k → S k ∨ W.heap.size ≤ k) := fun k h => (hs1 k h).elim .inl (fun h => .inr (by simp at h; omega))
  obtain ⟨x0, x1, x2⟩ := bx_cells3 hx
  clear hI1 hk1 hs1 hx
  cases hp : p t with
  | false =>
    have HP := Lib.hid hp
    clear hp
    go_wp2
    go_ret
    refine ⟨S1, ?_, ?_, HK1.out, HS1.out⟩
    · rw [nodes_eq, List.all_cons, HP.out]; rfl
    · rw [nodes_eq, upTo, HP.out, if_neg (by decide)]; exact HI1.out
  | true =>
    have HP := Lib.hid hp
    clear hp
    go_wp2_with fail
    refine (HK.out W1).mono ?_
    rintro e W2 ⟨ak, ck, rfl, hrk, hb2⟩
    have HRK := Lib.hid hrk
    have HR : Hid (WalkRel p I t s S W 0 S1 W2) := ⟨by simpa [nodesL] using HF.out.keep HI1.out hb2, HK1.out.trans (Below.keeps (S := S1) hb2) HS1.out, HS1.out, by simpa [nodesL] using HP.out⟩
    obtain ⟨K, HKN⟩ := nameIt (kidsOf t)
    have hkl := hrk.bounds
    rw [HKN.out] at hkl
    rw [HKN.out] at HRK
    rw [HKN.out]
    unfold maxLen at hkl
    obtain ⟨-, hkl1, hkl2⟩ := hkl
    clear hrk hb2 x0 x1 x2 HI1 HK1 HS1 HK HC HI HRn
    go_wp2_with fail
    go_loopg [14] K.length (fun gg v14 wr => ∃ (i : Nat) (S' : Nat → Prop), i ≤ K.length ∧ K.length - i ≤ gg ∧ v14 = .int .i64 i ∧ Hid (WalkRel p I t s S W i S' wr))
    case atStart => exact ⟨0, S1, by omega, by omega, rfl, HR⟩
    case round =>
      clear HR
      obtain ⟨i, S', hi, hg, rfl, HR⟩ := hrel
      by_cases hlt : i < K.length
      · have hlt' : (i : Int) < (K.length : Int) := by omega
        obtain ⟨b, off, v, hae, -, hbl, c0, c1, c2, hkid⟩ := HRK.out.kid hlt
        obtain ⟨av, cv, rfl, -, -⟩ := hkid.form
        obtain ⟨nv, HNV⟩ := nameIt (K[i].kids.map Tree.d).length
        rw [HNV.out] at c2 hkid
        have hbel := HF.out.below HR.out.inv
        have e0 := (hbel.cell (p := ⟨b, off + i * 3, none⟩) hbl).trans c0
        have e1 := (hbel.cell (p := ⟨b, off + i * 3 + 1, none⟩) hbl).trans c1
        have e2 := (hbel.cell (p := ⟨b, off + i * 3 + 2, none⟩) hbl).trans c2
        have hme : (nodes K[i]).length ≤ m := by
          have h1 := HM.out
          rw [nodes_eq, HKN.out] at h1
          have h2 := nodesL_kid hlt
          simp at h1; omega
        have hne : (s ++ t :: nodesL (K.take i)).length + (nodes K[i]).length ≤ N := by
          have h1 := HN.out
          rw [nodes_eq, HKN.out] at h1
          have h2 := nodesL_kid hlt
          simp at h1 ⊢; omega
        have hinv := HR.out.inv
        rw [HKN.out] at hinv
        have hih := IH.out K[i] _ _ S' _ hme (HF.out.keep hinv ((Below.refl _ _).alloc (Nat.le_refl _) (.cells #[.int .i64 K[i].rule, .int .i64 K[i].term, .slice av nv cv] 31))) hkid hne
        obtain ⟨q0, HQ0⟩ := nameIt K[i].rule
        obtain ⟨q1, HQ1⟩ := nameIt K[i].term
        rw [HQ0.out] at e0 hih
        rw [HQ1.out] at e1 hih
        have HIH := Lib.hid hih
        subst hae
        clear hbel c0 c1 c2 hme hne hinv hih hkid
        go_wp2_with fail
        refine HIH.out.mono ?_
        rintro e W3 ⟨S3, rfl, hI3, hk3, hs3⟩
        have HI3 := Lib.hid hI3
        have hbb := (Below.refl wr.heap.size wr).alloc (Nat.le_refl _) (.cells #[.int .i64 q0,   .int .i64 q1, .slice av nv cv] 31)
        have HK3 : Hid (Keeps S W W3) := (HR.out.kps.trans (Below.keeps (S := S') hbb) HR.out.sub).trans hk3 HR.out.sub
        have HS3 : Hid (∀ k, S3 k → S k ∨ W.heap.size ≤ k) := fun k h => (hs3 k h).elim (HR.out.sub k) (fun h => .inr (by have := HR.out.kps.size; simp at h; omega))
        clear hI3 hk3 hs3 hbb HIH e0 e1 e2
        cases hp : (nodes K[i]).all p with
        | false =>
          have HP' := Lib.hid hp
          clear hp
          go_wp2
          go_ret
          have h1 := HR.out.all
          rw [HKN.out] at h1
          have h2 : nodes t = (t :: nodesL (K.take i)) ++ (nodes K[i] ++ nodesL (K.drop (i + 1))) := by rw [nodes_eq, HKN.out, nodesL_split hlt]; rfl
          refine ⟨S3, ?_, ?_, HK3.out, HS3.out⟩
          · rw [h2, List.all_append, List.all_append, HP'.out]; simp
          · rw [h2, upTo_append h1, upTo_stop HP'.out]
            have := HI3.out
            simpa using this
        | true =>
          have HR' : Hid (WalkRel p I t s S W (i + 1) S3 W3) := by
            refine ⟨?_, HK3.out, HS3.out, ?_⟩
            · rw [HKN.out, nodesL_take hlt]
              have := HI3.out
              rw [upTo_all hp] at this
              simpa using this
            · have h1 := HR.out.all
              rw [HKN.out] at h1
              rw [HKN.out, nodesL_take hlt]
              rw [← List.cons_append, List.all_append, h1, hp]; rfl
          clear hp
          go_wp2
          go_roundg (K.length - (i + 1))
          case measure => omega
          case rel => exact ⟨i + 1, S3, by omega, by omega, by go_num, HR'⟩
      · have hlt' : ¬ (i : Int) < (K.length : Int) := by omega
        go_wp2
        go_ret
        have h1 := HR.out.all
        have h3 := HR.out.inv
        rw [HKN.out, List.take_of_length_le (by omega)] at h1 h3
        have h2 : nodes t = t :: nodesL K := by rw [nodes_eq, HKN.out]
        refine ⟨S', ?_, ?_, HR.out.kps, HR.out.sub⟩
        · rw [h2, h1]; rfl
        · rw [h2, upTo_all h1]; exact h3
end Go.Proofs.YtfocooehnmpndaaGreat
namespace Go.Proofs.YtfocooehnmpndaaGreat
open Go.RowKit
theorem treeBox {w0 : World} {t : Tree} {v : Value} (hv : Rd AnyB w0 (.sl (t.kids.map Tree.d)) [v]) : ∃ a n cap, v = .slice a n cap := by
  obtain ⟨a, cap, rfl, _⟩ := hv.form; exact ⟨a, _, cap, rfl⟩
def SizeI (w0 : World) (nb : Nat) (s : List Tree) (S : Nat → Prop) (W : World) : Prop :=
  Below w0.heap.size w0 W ∧ w0.heap.size ≤ nb ∧ W.heap[nb]? = some (.cells #[.int .i64 s.length] 3 (0, 0)) ∧ ∀ k, S k ↔ k = nb
set_option maxHeartbeats 400000 in
theorem sizeF (w0 : World) (nb N : Nat) (hN : N ≤ 4611686018427387904) : NodeFn 134 #[.pointer (some ⟨nb, 0, none⟩)] w0 (fun _ => true) N (SizeI w0 nb) where
  below := fun h => h.1
  own := fun {s S W} h k hk => by
    obtain ⟨h1, h2, h3, h4⟩ := h
    rw [h4] at hk
    subst hk
    exact ⟨h2, (Array.getElem?_eq_some_iff.1 h3).1⟩
  keep := fun {s S W W'} h hb => ⟨h.1.trans (hb.mono h.1.size), h.2.1, bx_keep h.2.2.1 hb, h.2.2.2⟩
  call := by
    intro s S W t v h hv hs
    obtain ⟨a, n, cap, rfl⟩ := treeBox hv
    obtain ⟨h1, h2, h3, h4⟩ := h
    have H1 := Lib.hid h1
    have H3 := Lib.hid h3
    have H4 := Lib.hid h4
    have c0 := bx_cells1 h3
    have f0 := bx_free1 h3
    have hlt := (Array.getElem?_eq_some_iff.1 h3).1
    obtain ⟨m, HM⟩ := nameIt s.length
    rw [HM.out] at c0 hs
    clear h1 h3 h4 hv
    go_enter Tryz.func134, Tryz.ntmps134
    go_wp2
    go_ret
    obtain ⟨W', HW⟩ := nameIt (W.setCell ⟨nb, 0, none⟩ (.int .i64 (m + 1)))
    rw [HW.out]
    have hb := (Below.refl W'.heap.size W').alloc (Nat.le_refl _) (.cells #[.int .i64 t.rule, .int .i64 t.term, .slice a n cap] 31)
    have h3 := bx_set H3.out 0 (.int .i64 (m + 1))
    have h1 := H1.out.setCell (p := ⟨nb, 0, none⟩) h2 (.int .i64 (m + 1))
    rw [HW.out] at h3 h1
    refine ⟨S, rfl, ⟨h1.trans (hb.mono h1.size), h2, ?_, H4.out⟩, ?_, fun k h => .inl h⟩
    · rw [bx_keep h3 hb]; simp [HM.out]
    · have hk : Keeps S W W' := by
        rw [← HW.out]
        exact ⟨rfl, rfl, rfl, by simp [World.setCell], fun k hk hn => Below.heap_setCell _ _ _ _ (fun e => hn ((H4.out k).2 e))⟩
      exact hk.trans (Below.keeps (S := S) hb) (fun k h => .inl h)
set_option maxHeartbeats 400000 in
theorem sizeE (t : Tree) (v : Value) (w : World) (hv : Rd AnyB w (.sl (t.kids.map Tree.d)) [v]) (hN : (nodes t).length ≤ 4611686018427387904) :
    Calls Tryz.prog 120 #[.agg #[.int .i64 t.rule, .int .i64 t.term, v]] w fun e w' => e = .returned (.int .i64 (nodes t).length) ∧ Below w.heap.size w w' := by
  obtain ⟨a, n, cap, rfl⟩ := treeBox hv
  have HV := Lib.hid hv
  have hI : SizeI w (w.heap.size + 1) [] (fun k => k = w.heap.size + 1) ((w.alloc (.cells #[.int .i64 t.rule, .int .i64 t.term, .slice a n cap] 31)).alloc (.cells #[.int .i64 0] 3)) :=
    ⟨((Below.refl _ _).alloc (Nat.le_refl _) _).alloc (by simp) _, by omega, bx_new _ _ _ (by simp), fun _ => Iff.rfl⟩
  have hw := walkE 134 #[.pointer (some ⟨w.heap.size + 1, 0, none⟩)] w (fun _ => true) (nodes t).length _ (fun _ _ => by kernel_rfl) (sizeF w (w.heap.size + 1) (nodes t).length hN) (nodes t).length t _ [] _ _ (Nat.le_refl _) hI hv (by simp)
  have HW := Lib.hid hw
  clear hw hI hv hN
  go_enter Tryz.func120, Tryz.ntmps120
  go_wp2_with fail
  refine HW.out.mono ?_
  rintro e w1 ⟨S', rfl, ⟨h1, h2, h3, h4⟩, h5, h6⟩
  rw [upTo_all (by simp)] at h3
  simp only [List.nil_append] at h3
  have c0 := bx_cells1 h3
  have HB := Lib.hid h1
  clear h1 h2 h3 h4 h5 h6
  go_wp2
  go_ret
  exact ⟨rfl, HB.out⟩
end Go.Proofs.YtfocooehnmpndaaGreat
