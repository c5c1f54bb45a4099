/- demand.NewTable$1: the visit of a tree makes its nodes. demand.NewTable. The contract of attr.Check. -/
import Derived.Test.YtfocooehnmpndaaGreatJDemandSomeRow9
import Derived.Test.YtfocooehnmpndaaGreatJDemandSomeRow7
import Derived.Test.YtfocooehnmpndaaGreatJDemandSomeRow4
namespace Go.Proofs.YtfocooehnmpndaaGreat
open Go.RowKit
namespace Dm
theorem elNode : ElemT Tryz.prog 130 137 4 48 := ElemT.mk' (z := .agg #[.int .i64 0, .int .i64 0, .int .i64 0, .slice none 0 0]) (by kernel_rfl) (by kernel_rfl) rfl (by decide)
theorem elIntN : ElemT Tryz.prog 40 3 1 8 := ElemT.mk' (z := .int .i64 0) (by kernel_rfl) (by kernel_rfl) rfl (by decide)
theorem modify_left {α : Type} (f : α → α) (M : List α) : ∀ (L : List α) (p : Nat), p < L.length → (L ++ M).modify p f = L.modify p f ++ M
  | [], p, h => by simp at h
  | x :: L, 0, h => by rw [List.cons_append, List.modify_zero_cons, List.modify_zero_cons, List.cons_append]
  | x :: L, p + 1, h => by rw [List.cons_append, List.modify_succ_cons, List.modify_succ_cons, List.cons_append, modify_left f M L p (by simpa using h)]
theorem addK_app {L : List Nd} {x : Nd} {p n : Nat} (hp : p < L.length) : addK (L ++ [x]) (p : Int) n = addK L (p : Int) n ++ [x] := by
  unfold addK
  rw [if_pos (by omega), if_pos (by omega), Int.toNat_natCast]
  exact modify_left _ _ L p hp
theorem addK_neg (L : List Nd) (n : Nat) : addK L (-1) n = L := by unfold addK; rw [if_neg (by omega)]
theorem tszL_take {ks : List Tree} {i : Nat} (h : i < ks.length) : tszL (ks.take i) + tsz ks[i] ≤ tszL ks := by
  have h1 := tszL_append (ks.take i) (ks.drop i)
  rw [List.take_append_drop, List.drop_eq_getElem_cons h, tszL] at h1
  omega
theorem kids_le : ∀ (ks : List Tree), ks.length ≤ tszL ks
  | [] => by simp
  | k :: ks => by rw [List.length_cons, tszL, tsz_eq k]; have := kids_le ks; omega
theorem grcell {w w' : World} {row : Option Nat} {b i : Nat} {v : Value} (hg : w.grownBy w' row) (hb : b < w.heap.size) (hne : row ≠ some b) (h : w.cell? ⟨b, i, none⟩ = some v) : w'.cell? ⟨b, i, none⟩ = some v := by
  rw [← h]
  simp only [World.cell?, hg.block b hb (fun e => hne e.symm)]
theorem ndAt_part (L : List Nd) (r up pos : Int) (ks : List Tree) : ndAt (part L r up pos ks) L.length = ⟨r, up, pos, starts (L.length + 1) ks⟩ := by
  unfold ndAt part
  rw [List.getElem?_append_right (Nat.le_refl _), Nat.sub_self]
  rfl
structure VisI (B tb : Nat) (hd : Hd) (O : Nat → Prop) (w0 : World) (L : List Nd) (wr : World) : Prop where
  ex : ∃ vs val, NB B tb hd L vs val wr ∧ Stq O (OwN tb vs L.length val) w0 wr
def VisPost (B tb : Nat) (hd : Hd) (O : Nat → Prop) (L : List Nd) (W : World) (e : Ending) (w' : World) : Prop := e = .returned (.tuple #[]) ∧ VisI B tb hd O W L w'
set_option maxHeartbeats 16000000 in
set_option maxRecDepth 100000 in
theorem visitE (B tb xb fb : Nat) (hd : Hd) (hxb : xb < B) (hfb : fb < B) (hxt : xb ≠ tb) (hft : fb ≠ tb) : ∀ (m : Nat) (t : Tree) (up pos : Int) (v : Value) (L : List Nd) (vs : Value) (val : Nat → Value) (W : World), tsz t ≤ m → L.length + tsz t ≤ 1000000 → NB B tb hd L vs val W → (up = -1 ∨ ∃ p : Nat, up = (p : Int) ∧ p < L.length ∧ (ndAt L p).kids.length ≤ 1000000) →
    Rd (fun k => k < B ∧ k ≠ tb) W (.sl (t.kids.map Tree.d)) [v] → W.heap[xb]? = some (.cells #[.pointer (some ⟨tb, 0, none⟩)] 75 (0, 0)) → W.heap[fb]? = some (.cells #[.func (.func 62) #[] #[.pointer (some ⟨xb, 0, none⟩), .pointer (some ⟨fb, 0, none⟩)]] 135 (0, 0)) →
    Calls Tryz.prog 62 #[.agg #[.int .i64 t.rule, .int .i64 t.term, v], .int .i64 up, .int .i64 pos, .pointer (some ⟨xb, 0, none⟩), .pointer (some ⟨fb, 0, none⟩)] W (VisPost B tb hd (OwN tb vs L.length val) (addK L up L.length ++ numT t L.length up pos) W) := by
  intro m
  induction m with
  | zero => intro t up pos v L vs val W hm; rw [tsz_eq] at hm; omega
  | succ m IH =>
  intro t up pos v L vs val W hm hsz hN hup hv hx hf
  obtain ⟨av, nk, cv, rfl⟩ := treeBox hv.any
  have HV := Lib.hid hv
  have HNK : Hid (t.kids.length = nk) := by show _ = _; have := hv.bounds.1; simpa using this.symm
  have hcap : nk ≤ 9223372036854775807 := by have := hv.bounds; unfold maxLen at this; omega
  have hcv : nk ≤ cv ∧ cv ≤ 9223372036854775807 := by have := hv.bounds; unfold maxLen at this; omega
  have HM : Hid (tsz t ≤ m + 1) := hm
  have HSZ : Hid (L.length + tsz t ≤ 1000000) := hsz
  have HIH := Lib.hid IH
  have HUP := Lib.hid hup
  have HTS : Hid (tsz t = 1 + tszL t.kids) := tsz_eq t
  have HKIDS : Hid (∀ i (h : i < t.kids.length), tszL (t.kids.take i) + tsz t.kids[i] ≤ tszL t.kids) := fun i h => tszL_take h
  obtain ⟨O, HO⟩ := nameIt (OwN tb vs L.length val)
  have HOW : Hid (∀ k, O k → (k = tb ∨ B ≤ k) ∧ k < W.heap.size) := fun k hk => by rw [← HO.out] at hk; exact hN.own hk
  obtain ⟨r, HR⟩ := nameIt t.rule
  obtain ⟨tm, HTM⟩ := nameIt t.term
  obtain ⟨PST, HP⟩ := nameIt (VisPost B tb hd O (addK L up L.length ++ numT t L.length up pos) W)
  have HFIN : Hid (∀ w', VisI B tb hd O W (part (addK L up L.length) r up pos t.kids) w' → PST (.returned (.tuple #[])) w') := fun w' h => by
    rw [← HP.out]
    refine ⟨rfl, ?_⟩
    rw [← HR.out, part_all, addK_len] at h
    exact h
  rw [HO.out, HP.out, HR.out, HTM.out]
  obtain ⟨w0, HW0⟩ := nameIt (W.alloc (.cells #[.int .i64 r, .int .i64 tm, .slice av nk cv] 31))
  have HB0 : Hid (Below W.heap.size W w0) := by rw [← HW0.out]; exact (Below.refl _ _).alloc (Nat.le_refl _) _
  obtain ⟨bt, HBT⟩ := nameIt W.heap.size
  have X0 : Hid (w0.heap[bt]? = some (.cells #[.int .i64 r, .int .i64 tm, .slice av nk cv] 31 (0, 0))) := by rw [← HW0.out, ← HBT.out]; exact bx_new _ _ _ rfl
  have HN0 := Lib.hid (hN.keep HB0.out)
  have HS0 : Hid (Stq O O W w0) := Stq.below HB0.out
  have HXO : Hid (¬ O xb) := fun h => by rcases (HOW.out xb h).1 with h | h <;> omega
  have HFO : Hid (¬ O fb) := fun h => by rcases (HOW.out fb h).1 with h | h <;> omega
  have HTO : Hid (¬ O bt) := fun h => by have h1 := (HOW.out bt h).2; rw [HBT.out] at h1; omega
  have HX := Lib.hid hx
  have HF := Lib.hid hf
  obtain ⟨n, HNl⟩ := nameIt L.length
  have hn : n ≤ 1000000 := by rw [← HNl.out]; omega
  have y0 := bx_cells1 (bx_keep hx HB0.out)
  obtain ⟨x0, x1, x2⟩ := bx_cells3 X0.out
  have hl0 : bt < w0.heap.size := (Array.getElem?_eq_some_iff.1 X0.out).1
  have HTB : Hid (tb < w0.heap.size) := (Array.getElem?_eq_some_iff.1 HN0.out.hdr).1
  obtain ⟨sa, cs, rfl, hcs1, hcs2⟩ := own_len HN0.out.row
  rw [HNl.out] at hcs1
  have HVS : Hid (∀ q, (Value.slice sa n cs).ownBlock = some q → O q) := fun q e => by rw [← HO.out]; exact .inr (.inl (by rw [HNl.out]; exact e))
  have hz6 : w0.cell? ⟨tb, 0 + 6, none⟩ = some (.slice sa n cs) := by have h := HN0.out.hdr; rw [HNl.out] at h; simp [World.cell?, h, Hd.cells]
  unfold maxLen at hcs2
  clear hv hm hsz hup hN IH HP hx hf
  go_enter Tryz.func62, Tryz.ntmps62
  go_upto_region 1 with fail
  rw [HW0.out]
  try rw [HBT.out]
  clear HW0
  go_upto_region 2 with fail
  obtain ⟨w4, HW4⟩ := nameIt (w0.alloc (.cells #[.int .i64 r, .int .i64 up, .int .i64 pos, .slice none 0 0] 137)).drew
  have hb4 : Below w0.heap.size w0 w4 := by rw [← HW4.out]; exact ((Below.refl w0.heap.size w0).alloc (Nat.le_refl _) _).drew
  have X4 : Hid (w4.heap[w0.heap.size]? = some (.cells #[.int .i64 r, .int .i64 up, .int .i64 pos, .slice none 0 0] 137 (0, 0))) := by rw [← HW4.out]; exact bx_new w0 _ _ rfl
  have HB04 := Lib.hid hb4
  have HN4 := Lib.hid (HN0.out.keep hb4)
  have hrow4 := HN4.out.row
  rw [HNl.out] at hrow4
  have HRW4 := Lib.hid hrow4
  have HBW4 : Hid (B ≤ w4.heap.size) := HN4.out.le
  have hbw4 : B ≤ w4.heap.size := HBW4.out
  obtain ⟨q4, HQ4⟩ := nameIt w0.heap.size
  rw [HQ4.out] at X4
  have HCS : Hid (∀ w', Below w0.heap.size w0 w' → (fun w' : World => w'.cell? ⟨xb, 0, none⟩ = some (.pointer (some ⟨tb, 0, none⟩)) ∧ w'.cell? ⟨tb, 0 + 6, none⟩ = some (.slice sa n cs) ∧ w'.cell? ⟨bt, 0, none⟩ = some (.int .i64 r)) w') := fun w' hb => ⟨(hb.cell (lt_of_cell y0)).trans y0, (hb.cell (lt_of_cell hz6)).trans hz6, (bx_cells3 (bx_keep X0.out hb)).1⟩
  rw [HQ4.out] at HB04 HCS
  have hwz4 : W.heap.size ≤ w4.heap.size := Nat.le_trans HB0.out.size HB04.out.size
  have hbz4 : bt < w4.heap.size := by have := HB04.out.size; omega
  have HBR : Hid (Below q4 w0 w0.drew) := (Below.refl _ _).drew
  clear hb4 hrow4 y0 x0 x1 x2 hz6
  refine wp_region_M (S := (fun w' : World => w'.cell? ⟨xb, 0, none⟩ = some (.pointer (some ⟨tb, 0, none⟩)) ∧ w'.cell? ⟨tb, 0 + 6, none⟩ = some (.slice sa n cs) ∧ w'.cell? ⟨bt, 0, none⟩ = some (.int .i64 r))) 12 (by kernel_rfl) ?_
  refine wpU_takeM (i := 0) (v := .pointer (some ⟨tb, 0, none⟩)) rfl rfl (by kernel_rfl) (by kernel_rfl) (by kernel_rfl) (by kernel_rfl) (by kernel_rfl) (fun _ _ _ h => h) (Or.inl ⟨by rfl, fun w' hw' => ?_⟩) (HCS.out _ HBR.out) ?_
  · obtain ⟨h0, h1, h2⟩ := hw'
    go_simp
  try simp only [Act.put, List.setIfInBounds_toArray, List.set_cons_zero, List.set_cons_succ]
  refine wpU_takeM (i := 1) (v := .pointer (some ⟨tb, 0, none⟩)) rfl rfl (by kernel_rfl) (by kernel_rfl) (by kernel_rfl) (by kernel_rfl) (by kernel_rfl) (fun _ _ _ h => h) (Or.inl ⟨by rfl, fun w' hw' => ?_⟩) (HCS.out _ HBR.out) ?_
  · obtain ⟨h0, h1, h2⟩ := hw'
    go_simp
  try simp only [Act.put, List.setIfInBounds_toArray, List.set_cons_zero, List.set_cons_succ]
  refine wpU_takeF (i := 2) (v := .pointer (some ⟨tb, 0, none⟩)) rfl rfl (by kernel_rfl) (by kernel_rfl) (by kernel_rfl) (fun _ _ _ h => h) (Or.inl ⟨by rfl, fun w' hw' => ?_⟩) (fun _ => (HCS.out _ HBR.out)) ?_
  · clear hw'
    go_simp
  try simp only [Act.put, List.setIfInBounds_toArray, List.set_cons_zero, List.set_cons_succ]
  refine wpU_takeF (i := 3) (v := .pointer (some ⟨tb, 0 + 6, none⟩)) rfl rfl (by kernel_rfl) (by kernel_rfl) (by kernel_rfl) (fun _ _ _ h => h) (Or.inl ⟨by rfl, fun w' hw' => ?_⟩) (fun _ => (HCS.out _ HBR.out)) ?_
  · clear hw'
    go_simp
  try simp only [Act.put, List.setIfInBounds_toArray, List.set_cons_zero, List.set_cons_succ]
  refine wpU_takeM (i := 4) (v := .slice sa n cs) rfl rfl (by kernel_rfl) (by kernel_rfl) (by kernel_rfl) (by kernel_rfl) (by kernel_rfl) (fun _ _ _ h => h) (Or.inl ⟨by rfl, fun w' hw' => ?_⟩) (HCS.out _ HBR.out) ?_
  · obtain ⟨h0, h1, h2⟩ := hw'
    go_simp
  try simp only [Act.put, List.setIfInBounds_toArray, List.set_cons_zero, List.set_cons_succ]
  refine wpU_takeF (i := 5) (v := .pointer (some ⟨bt, 0, none⟩)) rfl rfl (by kernel_rfl) (by kernel_rfl) (by kernel_rfl) (fun _ _ _ h => h) (Or.inl ⟨by rfl, fun w' hw' => ?_⟩) (fun _ => (HCS.out _ HBR.out)) ?_
  · clear hw'
    go_simp
  try simp only [Act.put, List.setIfInBounds_toArray, List.set_cons_zero, List.set_cons_succ]
  refine wpU_takeM (i := 6) (v := .int .i64 r) rfl rfl (by kernel_rfl) (by kernel_rfl) (by kernel_rfl) (by kernel_rfl) (by kernel_rfl) (fun _ _ _ h => h) (Or.inl ⟨by rfl, fun w' hw' => ?_⟩) (HCS.out _ HBR.out) ?_
  · obtain ⟨h0, h1, h2⟩ := hw'
    go_simp
  try simp only [Act.put, List.setIfInBounds_toArray, List.set_cons_zero, List.set_cons_succ]
  refine wpU_takeF (i := 7) (v := .int .i64 up) rfl rfl (by kernel_rfl) (by kernel_rfl) (by kernel_rfl) (fun _ _ _ h => h) (Or.inl ⟨by rfl, fun w' hw' => ?_⟩) (fun _ => (HCS.out _ HBR.out)) ?_
  · clear hw'
    go_simp
  try simp only [Act.put, List.setIfInBounds_toArray, List.set_cons_zero, List.set_cons_succ]
  refine wpU_takeF (i := 8) (v := .int .i64 pos) rfl rfl (by kernel_rfl) (by kernel_rfl) (by kernel_rfl) (fun _ _ _ h => h) (Or.inl ⟨by rfl, fun w' hw' => ?_⟩) (fun _ => (HCS.out _ HBR.out)) ?_
  · clear hw'
    go_simp
  try simp only [Act.put, List.setIfInBounds_toArray, List.set_cons_zero, List.set_cons_succ]
  refine wpU_takeF (i := 9) (v := .agg #[.int .i64 r, .int .i64 up, .int .i64 pos, .slice none 0 0]) rfl rfl (by kernel_rfl) (by kernel_rfl) (by kernel_rfl) (fun _ _ _ h => h) (Or.inl ⟨by rfl, fun w' hw' => ?_⟩) (fun _ => (HCS.out _ HBR.out)) ?_
  · clear hw'
    go_simp
  try simp only [Act.put, List.setIfInBounds_toArray, List.set_cons_zero, List.set_cons_succ]
  refine wpU_one (i := 10) (by kernel_rfl) rfl (fun K hK => ?_)
  go_simp
  rw [HW4.out, HQ4.out]
  refine hK.out _ _ (fun _ => HCS.out _ HB04.out) ?_
  clear hK K
  try simp only [Act.put, List.setIfInBounds_toArray, List.set_cons_zero, List.set_cons_succ]
  refine wpU_one (i := 11) (by kernel_rfl) rfl (fun K hK => ?_)
  refine step_appB elNode (by rfl) _ _ (by rfl) HRW4.out (by rfl) (by rfl) X4.out (by rfl) (by rfl) (by omega) (by unfold maxLen; omega) hbw4 ?_
  intro g5 c5 w5 ho5 hg5 hat5 hlt5
  obtain ⟨a1, a2, a3, a4⟩ := HN4.out.app (vs' := .slice (some ⟨g5, 0, none⟩) (n + 1) c5) (x := ⟨r, up, pos, []⟩) rfl (by rw [HNl.out]; exact ho5) (by rw [HNl.out]; exact hg5) (by rw [HNl.out]; exact at_lies hat5)
  rw [HNl.out] at a1 a4
  have HS5 : Hid ((fun w' : World => w'.cell? ⟨xb, 0, none⟩ = some (.pointer (some ⟨tb, 0, none⟩)) ∧ w'.cell? ⟨tb, 0 + 6, none⟩ = some (.slice sa n cs) ∧ w'.cell? ⟨bt, 0, none⟩ = some (.int .i64 r)) w5) := ⟨grcell hg5 (Nat.lt_of_lt_of_le (Array.getElem?_eq_some_iff.1 HX.out).1 hwz4) (fun e => HXO.out (HVS.out _ e)) (HCS.out _ HB04.out).1, a1, grcell hg5 hbz4 (fun e => HTO.out (HVS.out _ e)) (HCS.out _ HB04.out).2.2⟩
  have HA1 := Lib.hid a1
  have HA2 := Lib.hid a2
  have HA3 := Lib.hid a3
  have HA4 := Lib.hid a4
  have HG5 := Lib.hid hg5
  have HHAT := Lib.hid hat5
  clear a1 a2 a3 a4 ho5 hg5 hat5 hlt5
  refine hK.out _ _ (fun _ => HS5.out) ?_
  clear hK K
  try simp only [Act.put, List.setIfInBounds_toArray, List.set_cons_zero, List.set_cons_succ]
  refine wpU_one (i := 12) (by kernel_rfl) rfl (fun K hK => ?_)
  go_simp
  refine hK.out _ _ (fun h => absurd (show true = false from h) (by decide)) ?_
  clear hK K
  try simp only [Act.put, List.setIfInBounds_toArray, List.set_cons_zero, List.set_cons_succ]
  refine wpU_one (i := 13) (by kernel_rfl) rfl (fun K hK => ?_)
  go_simp
  refine hK.out _ _ (fun h => absurd (show true = false from h) (by decide)) ?_
  clear hK K
  try simp only [Act.put, List.setIfInBounds_toArray, List.set_cons_zero, List.set_cons_succ]
  have d1 := HA1.out
  have d2 := HA2.out
  refine wpU_one (i := 14) (by kernel_rfl) rfl (fun K hK => ?_)
  go_simp
  refine hK.out _ _ (fun h => absurd (show true = false from h) (by decide)) ?_
  clear hK K
  try simp only [Act.put, List.setIfInBounds_toArray, List.set_cons_zero, List.set_cons_succ]
  refine wpU_done (by kernel_rfl) ?_ _
  obtain ⟨w6, HW6⟩ := nameIt (w5.setCell ⟨tb, 0 + 6, none⟩ (.slice (some ⟨g5, 0, none⟩) (n + 1) c5))
  rw [HW6.out] at HA3 HA4
  try rw [HW6.out]
  obtain ⟨L1, HL1⟩ := nameIt (addK L up n)
  have HL1n : Hid (L1.length = n) := by show _ = _; rw [← HL1.out, addK_len]; exact HNl.out
  rw [HNl.out, HL1.out] at HFIN
  have HS6 : Hid (Stq O (OwN tb (.slice (some ⟨g5, 0, none⟩) (n + 1) c5) (L ++ [(⟨r, up, pos, []⟩ : Nd)]).length (fun k => if k = n then .slice none 0 0 else val k)) w0 w6) := Stq.trans (Stq.below (by rw [HQ4.out]; exact HB04.out)) (by rw [← HO.out, HNl.out]; exact HA4.out)
  have HN6 : Hid (NB B tb hd (L ++ [⟨r, up, pos, []⟩]) (.slice (some ⟨g5, 0, none⟩) (n + 1) c5) (fun k => if k = n then .slice none 0 0 else val k) w6) := by have h := HA3.out; rw [HNl.out] at h; exact h
  clear HA1 HA2 HA3 HA4 HS5 X4 HW4 HCS hbw4 hbz4 hwz4 d1 d2
  go_upto_if 31 with fail
  go_cut [8] (fun v8 wx => v8 = .int .i64 n ∧ Hid (VisI B tb hd O w0 (part L1 r up pos []) wx))
  case first =>
    rcases HUP.out with e | ⟨p, e, hp, hpk⟩
    · have HVI : Hid (VisI B tb hd O w0 (part L1 r up pos []) w6) := by
        have e1 : part L1 r up pos [] = L ++ [⟨r, up, pos, []⟩] := by rw [part_nil, ← HL1.out]; congr 1; rw [e, addK_neg]
        rw [e1]
        exact ⟨_, _, HN6.out, HS6.out⟩
      subst e
      go_wp2_with fail
      go_meet
      exact ⟨rfl, HVI⟩
    · have hpn : p < n := by rw [← HNl.out]; exact hp
      have hpL : p < (L ++ [(⟨r, up, pos, []⟩ : Nd)]).length := by rw [List.length_append]; omega
      obtain ⟨val6, HV6⟩ := nameIt (fun k => if k = n then Value.slice none 0 0 else val k)
      obtain ⟨LL, HLL⟩ := nameIt (L ++ [(⟨r, up, pos, []⟩ : Nd)])
      have HLLn : Hid (LL.length = n + 1) := by show _ = _; rw [← HLL.out, List.length_append, HNl.out]; rfl
      have HN7 := HN6
      have HS7 := HS6
      rw [HV6.out, HLL.out] at HN7 HS7
      rw [HLL.out] at hpL
      obtain ⟨nb, cap, he, hcp1, hcp2, hnl, hnB, hc6, hck⟩ := HN7.out.cells hpL
      simp only [Value.slice.injEq, Option.some.injEq, Addr.mk.injEq] at he
      obtain ⟨⟨rfl, -⟩, -, rfl⟩ := he
      have hkid := HN7.out.kid p hpL
      have HKK : Hid ((ndAt LL p).kids.length ≤ 1000000) := by
        show _ ≤ _
        rw [← HLL.out, ndAt_app, if_pos hp]
        exact hpk
      obtain ⟨NK, HNKl⟩ := nameIt (ndAt LL p).kids
      rw [HNKl.out] at hkid HKK
      obtain ⟨ap, cp, hvp, hcp3, hcp4⟩ := own_len hkid
      rw [hvp] at hkid hck
      have HVP := Lib.hid hvp
      obtain ⟨kl, HKL⟩ := nameIt NK.length
      rw [HKL.out] at hck hkid hcp3 HKK HVP
      have HPU : Hid (part L1 r up pos [] = addK LL (p : Int) n) := by
        show _ = _
        rw [part_nil, ← HL1.out, ← HLL.out, e, addK_app hp]
      have y0 : w6.cell? ⟨xb, 0, none⟩ = some (.pointer (some ⟨tb, 0, none⟩)) := bx_cells1 (HS6.out.box (bx_keep HX.out HB0.out) HXO.out).1
      have HXO6 : Hid (¬ OwN tb (.slice (some ⟨g5, 0, none⟩) (n + 1) c5) LL.length val6 xb) := (HS7.out.box (bx_keep HX.out HB0.out) HXO.out).2
      have hsz6 : xb < w6.heap.size := lt_of_cell y0
      have hkl : kl ≤ 1000000 := HKK.out
      have hpz : (0 : Int) ≤ (p : Int) := by omega
      have hpn1 : (p : Int) < (n : Int) + 1 := by omega
      have hpn2 : ¬ ((n : Int) + 1 ≤ (p : Int)) := by omega
      have hpc : (p : Int) ≤ (c5 : Int) := by omega
      obtain ⟨w8, HW8⟩ := nameIt (w6.alloc (.cells #[.int .i64 (n : Int)] 3)).drew
      have hb8 : Below w6.heap.size w6 w8 := by rw [← HW8.out]; exact ((Below.refl w6.heap.size w6).alloc (Nat.le_refl _) _).drew
      have X8 : Hid (w8.heap[w6.heap.size]? = some (.cells #[.int .i64 (n : Int)] 3 (0, 0))) := by rw [← HW8.out]; exact bx_new w6 _ _ rfl
      have HB68 := Lib.hid hb8
      have HN8 := Lib.hid (HN7.out.keep hb8)
      have HRW8 := Lib.hid (own_keep hkid hb8)
      have hbw8 : B ≤ w8.heap.size := HN8.out.le
      have hsz8 : xb < w8.heap.size := Nat.lt_of_lt_of_le hsz6 hb8.size
      obtain ⟨q8, HQ8⟩ := nameIt w6.heap.size
      have HCS : Hid (∀ w', Below q8 w6 w' → (fun w' : World => w'.cell? ⟨xb, 0, none⟩ = some (.pointer (some ⟨tb, 0, none⟩)) ∧ w'.cell? ⟨tb, 0 + 6, none⟩ = some (.slice (some ⟨g5, 0, none⟩) (n + 1) c5) ∧ w'.cell? ⟨g5, p * 4 + 3, none⟩ = some (.slice ap kl cp)) w') := fun w' hb => by
        rw [← HQ8.out] at hb
        exact ⟨(hb.cell (lt_of_cell y0)).trans y0, (hb.cell (lt_of_cell hc6)).trans hc6, (hb.cell (lt_of_cell hck)).trans hck⟩
      rw [HQ8.out] at X8 HB68
      have HBR6 : Hid (Below q8 w6 w6.drew) := (Below.refl _ _).drew
      subst e
      clear hb8 hkid hck y0 hc6 hvp
      go_upto_region 4 with fail
      refine wp_region_M (S := (fun w' : World => w'.cell? ⟨xb, 0, none⟩ = some (.pointer (some ⟨tb, 0, none⟩)) ∧ w'.cell? ⟨tb, 0 + 6, none⟩ = some (.slice (some ⟨g5, 0, none⟩) (n + 1) c5) ∧ w'.cell? ⟨g5, p * 4 + 3, none⟩ = some (.slice ap kl cp))) 16 (by kernel_rfl) ?_
      refine wpU_takeM (i := 0) (v := .pointer (some ⟨tb, 0, none⟩)) rfl rfl (by kernel_rfl) (by kernel_rfl) (by kernel_rfl) (by kernel_rfl) (by kernel_rfl) (fun _ _ _ h => h) (Or.inl ⟨by rfl, fun w' hw' => ?_⟩) (HCS.out _ HBR6.out) ?_
      · obtain ⟨h0, h1, h2⟩ := hw'
        go_simp
      try simp only [Act.put, List.setIfInBounds_toArray, List.set_cons_zero, List.set_cons_succ]
      refine wpU_takeF (i := 1) (v := .pointer (some ⟨tb, 0, none⟩)) rfl rfl (by kernel_rfl) (by kernel_rfl) (by kernel_rfl) (fun _ _ _ h => h) (Or.inl ⟨by rfl, fun w' hw' => ?_⟩) (fun _ => (HCS.out _ HBR6.out)) ?_
      · clear hw'
        go_simp
      try simp only [Act.put, List.setIfInBounds_toArray, List.set_cons_zero, List.set_cons_succ]
      refine wpU_takeF (i := 2) (v := .pointer (some ⟨tb, 0 + 6, none⟩)) rfl rfl (by kernel_rfl) (by kernel_rfl) (by kernel_rfl) (fun _ _ _ h => h) (Or.inl ⟨by rfl, fun w' hw' => ?_⟩) (fun _ => (HCS.out _ HBR6.out)) ?_
      · clear hw'
        go_simp
      try simp only [Act.put, List.setIfInBounds_toArray, List.set_cons_zero, List.set_cons_succ]
      refine wpU_takeM (i := 3) (v := .slice (some ⟨g5, 0, none⟩) (n + 1) c5) rfl rfl (by kernel_rfl) (by kernel_rfl) (by kernel_rfl) (by kernel_rfl) (by kernel_rfl) (fun _ _ _ h => h) (Or.inl ⟨by rfl, fun w' hw' => ?_⟩) (HCS.out _ HBR6.out) ?_
      · obtain ⟨h0, h1, h2⟩ := hw'
        go_simp
      try simp only [Act.put, List.setIfInBounds_toArray, List.set_cons_zero, List.set_cons_succ]
      refine wpU_takeF (i := 4) (v := .int .i64 (p : Int)) rfl rfl (by kernel_rfl) (by kernel_rfl) (by kernel_rfl) (fun _ _ _ h => h) (Or.inl ⟨by rfl, fun w' hw' => ?_⟩) (fun _ => (HCS.out _ HBR6.out)) ?_
      · clear hw'
        go_simp
      try simp only [Act.put, List.setIfInBounds_toArray, List.set_cons_zero, List.set_cons_succ]
      refine wpU_takeM (i := 5) (v := .pointer (some ⟨tb, 0, none⟩)) rfl rfl (by kernel_rfl) (by kernel_rfl) (by kernel_rfl) (by kernel_rfl) (by kernel_rfl) (fun _ _ _ h => h) (Or.inl ⟨by rfl, fun w' hw' => ?_⟩) (HCS.out _ HBR6.out) ?_
      · obtain ⟨h0, h1, h2⟩ := hw'
        go_simp
      try simp only [Act.put, List.setIfInBounds_toArray, List.set_cons_zero, List.set_cons_succ]
      refine wpU_takeF (i := 6) (v := .pointer (some ⟨tb, 0, none⟩)) rfl rfl (by kernel_rfl) (by kernel_rfl) (by kernel_rfl) (fun _ _ _ h => h) (Or.inl ⟨by rfl, fun w' hw' => ?_⟩) (fun _ => (HCS.out _ HBR6.out)) ?_
      · clear hw'
        go_simp
      try simp only [Act.put, List.setIfInBounds_toArray, List.set_cons_zero, List.set_cons_succ]
      refine wpU_takeF (i := 7) (v := .pointer (some ⟨tb, 0 + 6, none⟩)) rfl rfl (by kernel_rfl) (by kernel_rfl) (by kernel_rfl) (fun _ _ _ h => h) (Or.inl ⟨by rfl, fun w' hw' => ?_⟩) (fun _ => (HCS.out _ HBR6.out)) ?_
      · clear hw'
        go_simp
      try simp only [Act.put, List.setIfInBounds_toArray, List.set_cons_zero, List.set_cons_succ]
      refine wpU_takeM (i := 8) (v := .slice (some ⟨g5, 0, none⟩) (n + 1) c5) rfl rfl (by kernel_rfl) (by kernel_rfl) (by kernel_rfl) (by kernel_rfl) (by kernel_rfl) (fun _ _ _ h => h) (Or.inl ⟨by rfl, fun w' hw' => ?_⟩) (HCS.out _ HBR6.out) ?_
      · obtain ⟨h0, h1, h2⟩ := hw'
        go_simp
      try simp only [Act.put, List.setIfInBounds_toArray, List.set_cons_zero, List.set_cons_succ]
      refine wpU_takeF (i := 9) (v := .int .i64 (p : Int)) rfl rfl (by kernel_rfl) (by kernel_rfl) (by kernel_rfl) (fun _ _ _ h => h) (Or.inl ⟨by rfl, fun w' hw' => ?_⟩) (fun _ => (HCS.out _ HBR6.out)) ?_
      · clear hw'
        go_simp
      try simp only [Act.put, List.setIfInBounds_toArray, List.set_cons_zero, List.set_cons_succ]
      refine wpU_takeF (i := 10) (v := .pointer (some ⟨g5, p * 4, none⟩)) rfl rfl (by kernel_rfl) (by kernel_rfl) (by kernel_rfl) (fun _ _ _ h => h) (Or.inl ⟨by rfl, fun w' hw' => ?_⟩) (fun _ => (HCS.out _ HBR6.out)) ?_
      · clear hw'
        go_simp
      try simp only [Act.put, List.setIfInBounds_toArray, List.set_cons_zero, List.set_cons_succ]
      refine wpU_takeF (i := 11) (v := .pointer (some ⟨g5, p * 4 + 3, none⟩)) rfl rfl (by kernel_rfl) (by kernel_rfl) (by kernel_rfl) (fun _ _ _ h => h) (Or.inl ⟨by rfl, fun w' hw' => ?_⟩) (fun _ => (HCS.out _ HBR6.out)) ?_
      · clear hw'
        go_simp
      try simp only [Act.put, List.setIfInBounds_toArray, List.set_cons_zero, List.set_cons_succ]
      refine wpU_takeM (i := 12) (v := .slice ap kl cp) rfl rfl (by kernel_rfl) (by kernel_rfl) (by kernel_rfl) (by kernel_rfl) (by kernel_rfl) (fun _ _ _ h => h) (Or.inl ⟨by rfl, fun w' hw' => ?_⟩) (HCS.out _ HBR6.out) ?_
      · obtain ⟨h0, h1, h2⟩ := hw'
        go_simp
      try simp only [Act.put, List.setIfInBounds_toArray, List.set_cons_zero, List.set_cons_succ]
      refine wpU_takeF (i := 13) (v := .int .i64 (n : Int)) rfl rfl (by kernel_rfl) (by kernel_rfl) (by kernel_rfl) (fun _ _ _ h => h) (Or.inl ⟨by rfl, fun w' hw' => ?_⟩) (fun _ => (HCS.out _ HBR6.out)) ?_
      · clear hw'
        go_simp
      try simp only [Act.put, List.setIfInBounds_toArray, List.set_cons_zero, List.set_cons_succ]
      refine wpU_one (i := 14) (by kernel_rfl) rfl (fun K hK => ?_)
      go_simp
      rw [HW8.out, HQ8.out]
      refine hK.out _ _ (fun _ => HCS.out _ HB68.out) ?_
      clear hK K
      try simp only [Act.put, List.setIfInBounds_toArray, List.set_cons_zero, List.set_cons_succ]
      refine wpU_one (i := 15) (by kernel_rfl) rfl (fun K hK => ?_)
      refine step_appB elIntN (by rfl) _ _ (by rfl) HRW8.out (by rfl) (by rfl) X8.out (by rfl) (by rfl) (by omega) (by unfold maxLen; omega) hbw8 ?_
      intro g9 c9 w9 ho9 hg9 hat9 hlt9
      obtain ⟨a1, a2, a3, a4, a5⟩ := HN8.out.addk (n := n) hpL (v' := .slice (some ⟨g9, 0, none⟩) (kl + 1) c9) (by rw [HNKl.out, HKL.out]; exact ho9) (by rw [HVP.out]; exact hg9) (by rw [HVP.out]; exact at_lies hat9) (nb := g5) (cap := c5) (by rw [HLLn.out])
      rw [HVP.out] at a2
      have HS9 : Hid ((fun w' : World => w'.cell? ⟨xb, 0, none⟩ = some (.pointer (some ⟨tb, 0, none⟩)) ∧ w'.cell? ⟨tb, 0 + 6, none⟩ = some (.slice (some ⟨g5, 0, none⟩) (n + 1) c5) ∧ w'.cell? ⟨g5, p * 4 + 3, none⟩ = some (.slice ap kl cp)) w9) := ⟨grcell hg9 hsz8 (fun e => HXO6.out (.inr (.inr ⟨p, hpL, by rw [HVP.out]; exact e⟩))) (HCS.out _ HB68.out).1, a1, a2⟩
      have HA1 := Lib.hid a1
      have HA2 := Lib.hid a2
      have HA3 := Lib.hid a3
      have HA4 := Lib.hid a4
      have HA5 := Lib.hid a5
      clear a1 a2 a3 a4 a5 ho9 hg9 hat9
      refine hK.out _ _ (fun _ => HS9.out) ?_
      clear hK K
      try simp only [Act.put, List.setIfInBounds_toArray, List.set_cons_zero, List.set_cons_succ]
      refine wpU_one (i := 16) (by kernel_rfl) rfl (fun K hK => ?_)
      go_simp
      refine hK.out _ _ (fun h => absurd (show true = false from h) (by decide)) ?_
      clear hK K
      try simp only [Act.put, List.setIfInBounds_toArray, List.set_cons_zero, List.set_cons_succ]
      refine wpU_one (i := 17) (by kernel_rfl) rfl (fun K hK => ?_)
      go_simp
      refine hK.out _ _ (fun h => absurd (show true = false from h) (by decide)) ?_
      clear hK K
      try simp only [Act.put, List.setIfInBounds_toArray, List.set_cons_zero, List.set_cons_succ]
      have d1 := HA2.out
      have d2 := HA3.out
      refine wpU_one (i := 18) (by kernel_rfl) rfl (fun K hK => ?_)
      go_simp
      refine hK.out _ _ (fun h => absurd (show true = false from h) (by decide)) ?_
      clear hK K
      try simp only [Act.put, List.setIfInBounds_toArray, List.set_cons_zero, List.set_cons_succ]
      refine wpU_done (by kernel_rfl) ?_ _
      have HVI : Hid (VisI B tb hd O w0 (part L1 r (p : Int) pos []) (w9.setCell ⟨g5, p * 4 + 3, none⟩ (.slice (some ⟨g9, 0, none⟩) (kl + 1) c9))) := by
        rw [HPU.out]
        exact ⟨_, _, HA4.out, HS7.out.trans ((Stq.below (by rw [HQ8.out]; exact HB68.out)).trans HA5.out)⟩
      clear d1 d2 HA1 HA2 HA3 HA4 HA5
      go_wp2_with fail
      go_meet
      exact ⟨rfl, HVI⟩
  case rest =>
    obtain ⟨rfl, HVC⟩ := hcut
    clear HN6 HS6 HW6
    have HL0 : Hid (VisI B tb hd O w0 (part L1 r up pos (t.kids.take 0)) _) := HVC
    have HBX : Hid (∀ i w', VisI B tb hd O w0 (part L1 r up pos (t.kids.take i)) w' → w'.heap[bt]? = some (.cells #[.int .i64 r, .int .i64 tm, .slice av nk cv] 31 (0, 0))) := fun i w' h => by
      obtain ⟨vs1, val1, hN1, hS1⟩ := h.ex
      exact (hS1.box X0.out HTO.out).1
    obtain ⟨x0, x1, x2⟩ := bx_cells3 (HBX.out 0 _ HL0.out)
    go_wp2_with fail
    clear x0 x1 x2 HVC
    go_loopg [9, 10, 53] nk (fun gg v9 v10 v53 wr => ∃ i : Nat, i ≤ nk ∧ nk - i ≤ gg ∧ v53 = .int .i64 i ∧ Hid (VisI B tb hd O w0 (part L1 r up pos (t.kids.take i)) wr))
    case atStart => exact ⟨0, by omega, by omega, rfl, HL0⟩
    case round =>
      obtain ⟨i, hi, hg, rfl, HVI⟩ := hrel
      clear HL0
      by_cases hlt : i < nk
      · have hlt' : (i : Int) < (nk : Int) := by omega
        have hik : i < t.kids.length := by rw [HNK.out]; exact hlt
        have hic : (i : Int) ≤ (cv : Int) := by omega
        obtain ⟨vs1, val1, hN1, hS1⟩ := HVI.out.ex
        have HN1 := Lib.hid hN1
        have HS1 := Lib.hid hS1
        have HBI := Lib.hid (HBX.out i wr HVI.out)
        have HSW : Hid (Stq O (OwN tb vs1 (part L1 r up pos (t.kids.take i)).length val1) W wr) := HS0.out.trans hS1
        have HKR : Hid (Rd (fun k => k < B ∧ k ≠ tb) wr (.sl (t.kids.map Tree.d)) [.slice av nk cv]) := HV.out.keep (fun k hk hl => ⟨hk, HSW.out.same k hl (fun h => by rcases (HOW.out k h).1 with h | h <;> omega)⟩)
        obtain ⟨b, off, v, hae, -, hbl, k0, k1, k2, hkid⟩ := HKR.out.kid hik
        obtain ⟨a2, n2, c2, rfl⟩ := treeBox hkid.any
        have hms := HKIDS.out i hik
        have HTK : Hid (t.kids.take (i + 1) = t.kids.take i ++ [t.kids[i]]) := List.take_succ_eq_append_getElem hik
        have hpl : (part L1 r up pos (t.kids.take i)).length = n + 1 + tszL (t.kids.take i) := by rw [part_len, HL1n.out]
        have HNDI : Hid (ndAt (part L1 r up pos (t.kids.take i)) n = ⟨r, up, pos, starts (n + 1) (t.kids.take i)⟩) := by
          have h := ndAt_part L1 r up pos (t.kids.take i)
          rw [HL1n.out] at h
          exact h
        have HKL1 : Hid (t.kids.length ≤ tszL t.kids) := kids_le _
        have HPS : Hid (part L1 r up pos (t.kids.take (i + 1)) = addK (part L1 r up pos (t.kids.take i)) n (part L1 r up pos (t.kids.take i)).length ++ numT t.kids[i] (part L1 r up pos (t.kids.take i)).length n ((i : Int) + 1)) := by
          show _ = _
          rw [HTK.out, part_snoc, HL1n.out]
          congr 2
          rw [List.length_take, HNK.out, Nat.min_eq_left hi]
        obtain ⟨LI, HLI⟩ := nameIt (part L1 r up pos (t.kids.take i))
        rw [HLI.out] at hpl HNDI HPS HN1 HS1 HSW
        obtain ⟨x, HXn⟩ := nameIt (t.kids[i]'hik)
        rw [HXn.out] at k0 k1 hkid hms HPS
        obtain ⟨q0, HQ0⟩ := nameIt x.rule
        obtain ⟨q1, HQ1⟩ := nameIt x.term
        obtain ⟨w7, HW7⟩ := nameIt (wr.alloc (.cells #[.int .i64 q0, .int .i64 q1, .slice a2 n2 c2] 31))
        have HB7 : Hid (Below wr.heap.size wr w7) := by rw [← HW7.out]; exact (Below.refl _ _).alloc (Nat.le_refl _) _
        have X7 : Hid (w7.heap[wr.heap.size]? = some (.cells #[.int .i64 q0, .int .i64 q1, .slice a2 n2 c2] 31 (0, 0))) := by rw [← HW7.out]; exact bx_new _ _ _ rfl
        have HXW := Lib.hid (HSW.out.box HX.out HXO.out).1
        have HFW := Lib.hid (HSW.out.box HF.out HFO.out).1
        have HCALL := Lib.hid (HIH.out x (n : Int) ((i : Int) + 1) _ LI vs1 val1 w7 (by have h1 := HM.out; have h2 := HTS.out; omega) (by have h1 := HSZ.out; have h2 := HTS.out; rw [HNl.out] at h1; omega) (HN1.out.keep HB7.out) (.inr ⟨n, rfl, by omega, by
          rw [HNDI.out, starts_len, List.length_take]
          have h1 := HKL1.out
          have h2 := HSZ.out
          have h3 := HTS.out
          omega⟩) (hkid.below HB7.out) (bx_keep HXW.out HB7.out) (bx_keep HFW.out HB7.out))
        rw [HQ0.out] at k0 HCALL
        rw [HQ1.out] at k1 HCALL
        have y0 := bx_cells1 (bx_keep HFW.out HB7.out)
        obtain ⟨z0, z1, z2⟩ := bx_cells3 X7.out
        have hl7 : wr.heap.size < w7.heap.size := (Array.getElem?_eq_some_iff.1 X7.out).1
        subst hae
        clear hkid hms hN1 hS1
        go_upto_region 8 with fail
        rw [HW7.out]
        clear HW7 k0 k1 k2 hbl
        go_wp2_with (refine HCALL.out.mono ?_)
        rintro e8 w8 ⟨rfl, hV8⟩
        obtain ⟨vs8, val8, hN8, hS8⟩ := hV8.ex
        have HV8 : Hid (VisI B tb hd O w0 (part L1 r up pos (t.kids.take (i + 1))) w8) := by
          rw [HPS.out]
          exact ⟨_, _, hN8, HS1.out.trans ((Stq.below HB7.out).trans hS8)⟩
        clear hV8 hN8 hS8 y0 z0 z1 z2 HCALL
        go_wp2_with fail
        go_roundg (nk - (i + 1))
        case measure => omega
        case rel => exact ⟨i + 1, by omega, by omega, by go_num, HV8⟩
      · have hend : i = nk := by omega
        have hlt' : ¬ (i : Int) < (nk : Int) := by omega
        have HE : Hid (PST (.returned (.tuple #[])) wr) := by
          refine HFIN.out _ ?_
          have h := HVI.out
          rw [hend, ← HNK.out, List.take_length] at h
          obtain ⟨vs1, val1, hN1, hS1⟩ := h.ex
          exact ⟨_, _, hN1, HS0.out.trans hS1⟩
        go_wp2_with fail
        first | exact HE.out | exact bodyPost_end (results_none Tryz.results62 _ _ _) rfl HE.out
end Dm
end Go.Proofs.YtfocooehnmpndaaGreat
namespace Go.Proofs.YtfocooehnmpndaaGreat
open Go.RowKit
namespace Dm
open At (Ref)
theorem eqsFrom_index {g : Gram} {s : At.Sys} : ∀ {l : List At.Eqn} {k : Nat}, At.eqsFrom g s k l = 0 → ∀ j (h : j < l.length), At.eqErr g s (k + j) l[j] = 0
  | [], _, _, j, h => by simp at h
  | q :: l, k, h, j, hj => by
    rw [At.eqsFrom] at h
    by_cases h0 : At.eqErr g s k q = 0
    · rw [if_neg (by simpa using h0)] at h
      cases j with
      | zero => exact h0
      | succ j =>
        have := eqsFrom_index h j (by simpa using hj)
        rw [show k + (j + 1) = k + 1 + j by omega]
        exact this
    · rw [if_pos h0] at h; exact absurd h h0
theorem eqs_apart {g : Gram} {s : At.Sys} (h : At.checkS g s = 0) {i : Nat} (hi : i < s.eqs.length) : ∀ z ∈ s.eqs.take i, ¬ (z.rule = s.eqs[i].rule ∧ z.to' = s.eqs[i].to') := by
  obtain ⟨_, _, _, he, _⟩ := sys_parts h
  have hj := eqsFrom_index he i hi
  rw [Nat.zero_add] at hj
  unfold At.eqErr at hj
  cases hr : g.rules[s.eqs[i].rule.toNat]? with
  | none => rw [hr] at hj; simp at hj
  | some r =>
    rw [hr] at hj
    simp only at hj
    by_cases h1 : s.eqs[i].rule < 0
    · rw [if_pos h1] at hj; simp at hj
    · rw [if_neg h1] at hj
      by_cases h2 : 30 < s.eqs[i].is'.size
      · rw [if_pos h2] at hj; simp at hj
      · rw [if_neg h2] at hj
        by_cases h3 : At.defs s.attrs r s.eqs[i].to' = false ∨ At.valid s.attrs r s.eqs[i].is' = false
        · rw [if_pos h3] at hj; simp at hj
        · rw [if_neg h3] at hj
          intro z hz hzz
          have h4 : At.had (s.eqs.take i) s.eqs[i].rule s.eqs[i].to' = true := List.any_eq_true.2 ⟨z, hz, by simpa using hzz⟩
          rw [h4] at hj
          simp at hj
theorem okq_all {g : Gram} {s : At.Sys} (h : At.checkS g s = 0) (hal : s.attrs.length ≤ 2000000) {q : At.Eqn} (hq : q ∈ s.eqs) : okQ q := by
  obtain ⟨r, e1, h0, _, hdef, _⟩ := eq_facts h hq
  obtain ⟨hlt, e2⟩ := List.getElem?_eq_some_iff.1 e1
  have hz := checkG_zero (sys_parts h).1
  unfold At.defs at hdef
  rw [Bool.and_eq_true] at hdef
  obtain ⟨a, ha, hal2, k, hk, hkr, -⟩ := there_parts hdef.1
  have hr := (hz.2.2 _ (by rw [← e2]; exact List.getElem_mem hlt : r ∈ g.rules)).2.2.1
  refine ⟨⟨h0, ?_⟩, ⟨by omega, ?_⟩, ⟨by omega, ?_⟩⟩
  · have := hz.2.1; omega
  · omega
  · omega
theorem EqM.monoP {P P' : Nat → Prop} {eb : Nat} {K : List At.Eqn} {w : World} (h : EqM P eb K w) (hP : ∀ k, P k → P' k) : EqM P' eb K w := by
  obtain ⟨D, h1, h2⟩ := h
  refine ⟨D, h1, fun q hq => ?_⟩
  obtain ⟨v, h3, h4⟩ := h2 q hq
  exact ⟨v, h3, h4.mono fun k hk _ => hP k hk⟩
theorem bx_cells8e {w : World} {b : Nat} {x0 x1 x2 x3 x4 x5 x6 x7 : Value} {T : TypeId} (h : w.heap[b]? = some (.cells #[x0, x1, x2, x3, x4, x5, x6, x7] T (0, 0))) :
    w.cell? ⟨b, 0, none⟩ = some x0 ∧ w.cell? ⟨b, 0 + 1, none⟩ = some x1 ∧ w.cell? ⟨b, 0 + 2, none⟩ = some x2 ∧ w.cell? ⟨b, 0 + 3, none⟩ = some x3 ∧ w.cell? ⟨b, 0 + 4, none⟩ = some x4 ∧ w.cell? ⟨b, 0 + 5, none⟩ = some x5 ∧ w.cell? ⟨b, 0 + 6, none⟩ = some x6 ∧ w.cell? ⟨b, 0 + 7, none⟩ = some x7 := by
  refine ⟨?_, ?_, ?_, ?_, ?_, ?_, ?_, ?_⟩ <;> simp [World.cell?, h]
structure EqL (eb : Nat) (w1 : World) (K : List At.Eqn) (wr : World) : Prop where
  eq : EqM (fun k => k < eb) eb K wr
  keep : Keeps (fun k => k = eb) w1 wr
def NewPost (g : Gram) (s : At.Sys) (T : Tree) (W : World) (e : Ending) (w' : World) : Prop :=
  ∃ tb eb vb sb, e = .returned (.pointer (some ⟨tb, 0, none⟩)) ∧ TbS g s (tabT T) tb eb vb sb w' ∧ NumM vb (fun _ => 0) 0 w' ∧ NumM sb (fun _ => 0) 0 w' ∧ Below W.heap.size W w' ∧ W.heap.size ≤ vb ∧ W.heap.size ≤ sb ∧ W.heap.size ≤ eb
set_option maxHeartbeats 8000000 in
set_option maxRecDepth 100000 in
theorem newTableE (g : Gram) (s : At.Sys) (T : Tree) (hs : At.checkS g s = 0) (hal : s.attrs.length ≤ 2000000) (hsz : tsz T ≤ 1000000) (ra aa qa : Option Addr) (rc ac qc : Nat) (v : Value) (W : World)
    (hr : Rd AnyB W (.sl (g.rules.map Rule.d)) [.slice ra g.rules.length rc]) (ha : Rd AnyB W (.sl (s.attrs.map At.Attr.d)) [.slice aa s.attrs.length ac]) (hq : Rd AnyB W (.sl (s.eqs.map At.Eqn.d)) [.slice qa s.eqs.length qc]) (ht : Rd AnyB W (.sl (T.kids.map Tree.d)) [v]) :
    Calls Tryz.prog 26 #[.agg #[.int .i64 g.terms, .int .i64 g.nons, .int .i64 g.start, .slice ra g.rules.length rc], .agg #[.slice aa s.attrs.length ac, .slice qa s.eqs.length qc], .agg #[.int .i64 T.rule, .int .i64 T.term, v]] W (NewPost g s T W) := by
  obtain ⟨av, nk, cv, rfl⟩ := treeBox ht
  obtain ⟨PST, HP⟩ := nameIt (NewPost g s T W)
  have HPN := HP
  rw [HP.out]
  clear HP
  have HR := Lib.hid hr
  have HA := Lib.hid ha
  have HQ := Lib.hid hq
  have HT := Lib.hid ht
  have HEQS := Lib.hid (fun (i : Nat) (hi : i < s.eqs.length) => eqs_apart hs hi)
  have HOKQ := Lib.hid (fun (q : At.Eqn) (hq : q ∈ s.eqs) => okq_all hs hal hq)
  have HSZ := Lib.hid hsz
  have HQL : Hid (s.eqs.length ≤ 200) := (sys_parts hs).2.2.1
  obtain ⟨hq1, hq2⟩ := hq.bounds.2
  unfold maxLen at hq2
  obtain ⟨rl, HRL⟩ := nameIt g.rules.length
  obtain ⟨al, HAL⟩ := nameIt s.attrs.length
  obtain ⟨ql, HQLn⟩ := nameIt s.eqs.length
  obtain ⟨gt, HGT⟩ := nameIt g.terms
  obtain ⟨gn, HGN⟩ := nameIt g.nons
  obtain ⟨gs, HGS⟩ := nameIt g.start
  obtain ⟨tr, HTR⟩ := nameIt T.rule
  obtain ⟨tm, HTM⟩ := nameIt T.term
  rw [HRL.out, HAL.out, HQLn.out, HGT.out, HGN.out, HGS.out, HTR.out, HTM.out]
  rw [HQLn.out] at hq1
  obtain ⟨w0, HW0⟩ := nameIt (((W.alloc (.cells #[.int .i64 gt, .int .i64 gn, .int .i64 gs, .slice ra rl rc] 24)).alloc (.cells #[.slice aa al ac, .slice qa ql qc] 28)).alloc (.cells #[.int .i64 tr, .int .i64 tm, .slice av nk cv] 31))
  have b1 : Below W.heap.size W (W.alloc (.cells #[.int .i64 gt, .int .i64 gn, .int .i64 gs, .slice ra rl rc] 24)) := (Below.refl _ _).alloc (Nat.le_refl _) _
  have b2 := b1.alloc (by simp) (.cells #[.slice aa al ac, .slice qa ql qc] 28)
  have hb0 : Below W.heap.size W w0 := by rw [← HW0.out]; exact b2.alloc (by simp; omega) _
  have X0 : Hid (w0.heap[W.heap.size]? = some (.cells #[.int .i64 gt, .int .i64 gn, .int .i64 gs, .slice ra rl rc] 24 (0, 0))) := by
    rw [← HW0.out]; exact bx_keep (bx_keep (bx_new _ _ _ rfl) ((Below.refl _ _).alloc (Nat.le_refl _) _)) ((Below.refl _ _).alloc (Nat.le_refl _) _)
  have X1 : Hid (w0.heap[W.heap.size + 1]? = some (.cells #[.slice aa al ac, .slice qa ql qc] 28 (0, 0))) := by
    rw [← HW0.out]; exact bx_keep (bx_new _ _ _ (by simp)) ((Below.refl _ _).alloc (Nat.le_refl _) _)
  have X2 : Hid (w0.heap[W.heap.size + 1 + 1]? = some (.cells #[.int .i64 tr, .int .i64 tm, .slice av nk cv] 31 (0, 0))) := by
    rw [← HW0.out]; exact bx_new _ _ _ (by simp)
  have HB0 := Lib.hid hb0
  clear b1 b2 hb0 hr ha hq ht hs hal hsz
  have hmk1 : ∀ W : World, (Instr.makeMap 128 none).run Tryz.prog W = .ok (.map (some W.heap.size)) (W.alloc (.map #[] 0)) := fun W => by
    simp [Instr.makeMap, run_underlying Tryz.underlying128]; try rfl
  have hmk2 : ∀ W : World, (Instr.makeMap 129 none).run Tryz.prog W = .ok (.map (some W.heap.size)) (W.alloc (.map #[] 0)) := fun W => by
    simp [Instr.makeMap, run_underlying Tryz.underlying129]; try rfl
  obtain ⟨x0, x1, x2, x3⟩ := bx_cells4 X0.out
  obtain ⟨y0, y1⟩ := bx_cells2 X1.out
  go_enter Tryz.func26, Tryz.ntmps26
  go_upto_region 1 with fail
  rw [HW0.out]
  clear HW0
  go_upto_region 2 with fail
  obtain ⟨eb, HEB⟩ := nameIt w0.heap.size
  have HWE : Hid (W.heap.size + 2 < eb) := by show _ < _; rw [← HEB.out]; exact (Array.getElem?_eq_some_iff.1 X2.out).1
  obtain ⟨w1, HW1⟩ := nameIt (((((w0.alloc (.map #[] 0)).alloc (.map #[] 0)).alloc (.map #[] 0)).alloc (.cells #[.int .i64 gt, .int .i64 gn, .int .i64 gs, .slice ra rl rc, .slice aa al ac, .slice qa ql qc, .slice none 0 0, .map (some w0.heap.size), .map (some (w0.heap.size + 1)), .map (some (w0.heap.size + 1 + 1))] 132)).alloc (.cells #[.pointer (some ⟨w0.heap.size + 1 + 1 + 1, 0, none⟩)] 75))
  have HB1 : Hid (Below w0.heap.size w0 w1) := by
    show Below _ _ _
    rw [← HW1.out]
    exact (((((Below.refl _ _).alloc (Nat.le_refl _) _).alloc (by simp) _).alloc (by simp; omega) _).alloc (by simp; omega) _).alloc (by simp; omega) _
  have ba : ∀ (w : World) (o : Obj), Below w.heap.size w (w.alloc o) := fun w o => (Below.refl _ _).alloc (Nat.le_refl _) _
  have hE0 : EqM (fun k => k < eb) eb [] w1 := by
    rw [← HW1.out]
    have h1 : EqM (fun k => k < eb) eb [] (w0.alloc (.map #[] 0)) := EqM.start _ _ HEB.out.symm
    have hk : ∀ {wa wb : World}, EqM (fun k => k < eb) eb [] wa → Below wa.heap.size wa wb → EqM (fun k => k < eb) eb [] wb := fun h hb => h.keeps (S := fun _ => False) (Below.keeps hb) id (fun _ _ => id)
    exact hk (hk (hk (hk h1 (ba _ _)) (ba _ _)) (ba _ _)) (ba _ _)
  have HN1 : Hid (NumM (eb + 1) (fun _ => 0) 0 w1) := by
    show NumM _ _ _ _
    rw [← HW1.out]
    exact (((NumM.start (w0.alloc (.map #[] 0)) (by simp [HEB.out])).keep (ba _ _)).keep (ba _ _)).keep (ba _ _)
  have HN2 : Hid (NumM (eb + 1 + 1) (fun _ => 0) 0 w1) := by
    show NumM _ _ _ _
    rw [← HW1.out]
    exact ((NumM.start ((w0.alloc (.map #[] 0)).alloc (.map #[] 0)) (by simp [HEB.out])).keep (ba _ _)).keep (ba _ _)
  have X3 : Hid (w1.heap[eb + 1 + 1 + 1]? = some (.cells #[.int .i64 gt, .int .i64 gn, .int .i64 gs, .slice ra rl rc, .slice aa al ac, .slice qa ql qc, .slice none 0 0, .map (some eb), .map (some (eb + 1)), .map (some (eb + 1 + 1))] 132 (0, 0))) := by
    show _ = _
    rw [← HW1.out, ← HEB.out]
    exact bx_keep (bx_new _ _ _ (by simp)) (ba _ _)
  have X4 : Hid (w1.heap[eb + 1 + 1 + 1 + 1]? = some (.cells #[.pointer (some ⟨eb + 1 + 1 + 1, 0, none⟩)] 75 (0, 0))) := by
    show _ = _
    rw [← HW1.out, ← HEB.out]
    exact bx_new _ _ _ (by simp)
  rw [HW1.out]
  simp only [HEB.out]
  rw [HEB.out] at HB1
  have HBW1 : Hid (Below W.heap.size W w1) := HB0.out.trans (HB1.out.mono (Nat.le_of_lt (Nat.lt_of_le_of_lt (Nat.le_add_right _ _) HWE.out)))
  have HSZ1 : Hid (eb + 1 + 1 + 1 + 1 < w1.heap.size) := (Array.getElem?_eq_some_iff.1 X4.out).1
  have HQ1 : Hid (Rd (fun k => k < eb) w1 (.sl (s.eqs.map At.Eqn.d)) [.slice qa s.eqs.length qc]) := HQ.out.keep (fun k _ hl => ⟨by have := HWE.out; omega, HBW1.out.block k hl⟩)
  rw [HQLn.out] at HQ1
  have HI0 : Hid (EqL eb w1 (s.eqs.take 0) w1) := ⟨hE0, Below.keeps (Below.refl _ _)⟩
  have z0 : w1.cell? ⟨W.heap.size + 1, 0, none⟩ = some (.slice aa al ac) := by have := (bx_cells2 (bx_keep X1.out (HB1.out.mono (Nat.le_of_eq HEB.out)))).1; exact this
  have z1 : w1.cell? ⟨W.heap.size + 1, 0 + 1, none⟩ = some (.slice qa ql qc) := (bx_cells2 (bx_keep X1.out (HB1.out.mono (Nat.le_of_eq HEB.out)))).2
  clear x0 x1 x2 x3 y0 y1 hE0 HW1 ba hmk1 hmk2
  go_wp2_with fail
  clear z0 z1
  go_loopg [9, 21] ql (fun gg v9 v21 wr => ∃ i : Nat, i ≤ ql ∧ ql - i ≤ gg ∧ v21 = .int .i64 i ∧ Hid (EqL eb w1 (s.eqs.take i) wr))
  case atStart => exact ⟨0, by omega, by omega, rfl, HI0⟩
  case round =>
    obtain ⟨i, hi, hg, rfl, HI⟩ := hrel
    clear HI0
    by_cases hlt : i < ql
    · have hlt' : (i : Int) < (ql : Int) := by omega
      have hic : (i : Int) ≤ (qc : Int) := by omega
      have hil : i < s.eqs.length := by rw [HQLn.out]; exact hlt
      have HQR : Hid (Rd (fun k => k < eb) wr (.sl (s.eqs.map At.Eqn.d)) [.slice qa ql qc]) := HQ1.out.keep (fun k hk hl => ⟨hk, HI.out.keep.block k hl (by show ¬ k = eb; omega)⟩)
      obtain ⟨b, off, ve, hae, -, hbl, e0, e1, e2, e3, e4, e5, e6, e7, hargs⟩ := At.Rd.eqn_at HQR.out hil
      obtain ⟨va, vl, vc, rfl⟩ : ∃ x y z, ve = .slice x y z := (by obtain ⟨x, y, e, -, -⟩ := hargs.form; exact ⟨_, _, _, e⟩)
      have HTK : Hid (s.eqs.take (i + 1) = s.eqs.take i ++ [s.eqs[i]]) := List.take_succ_eq_append_getElem hil
      have HAP := Lib.hid (HEQS.out i hil)
      have HOK := Lib.hid (HOKQ.out _ (List.getElem_mem hil))
      have HOKT : Hid (∀ z ∈ s.eqs.take i, okQ z) := fun z hz => HOKQ.out z (List.mem_of_mem_take hz)
      have HTL : Hid ((s.eqs.take i).length ≤ 1000000) := by show _ ≤ _; have := HQL.out; rw [List.length_take]; omega
      obtain ⟨q, HQn⟩ := nameIt (s.eqs[i]'hil)
      rw [HQn.out] at e0 e1 e2 e3 e4 e5 e6 hargs HTK HAP HOK
      have HARG := Lib.hid hargs
      obtain ⟨n0, HN_0⟩ := nameIt q.rule
      obtain ⟨n1, HN_1⟩ := nameIt q.to'.at'
      obtain ⟨n2, HN_2⟩ := nameIt q.to'.attr
      obtain ⟨n3, HN_3⟩ := nameIt q.is'.kind
      obtain ⟨n4, HN_4⟩ := nameIt q.is'.n
      obtain ⟨n5, HN_5⟩ := nameIt q.is'.ref.at'
      obtain ⟨n6, HN_6⟩ := nameIt q.is'.ref.attr
      rw [HN_0.out] at e0
      rw [HN_1.out] at e1
      rw [HN_2.out] at e2
      rw [HN_3.out] at e3
      rw [HN_4.out] at e4
      rw [HN_5.out] at e5
      rw [HN_6.out] at e6
      obtain ⟨w2, HW2⟩ := nameIt (wr.alloc (.cells #[.int .i64 n0, .int .i64 n1, .int .i64 n2, .int .i64 n3, .int .i64 n4, .int .i64 n5, .int .i64 n6, .slice va vl vc] 90))
      have HB2 : Hid (Below wr.heap.size wr w2) := by show Below _ _ _; rw [← HW2.out]; exact (Below.refl _ _).alloc (Nat.le_refl _) _
      have X5 : Hid (w2.heap[wr.heap.size]? = some (.cells #[.int .i64 n0, .int .i64 n1, .int .i64 n2, .int .i64 n3, .int .i64 n4, .int .i64 n5, .int .i64 n6, .slice va vl vc] 90 (0, 0))) := by show _ = _; rw [← HW2.out]; exact bx_new _ _ _ rfl
      have HK2 : Hid (Keeps (fun k => k = eb) w1 w2) := Keeps.more HI.out.keep (Below.keeps HB2.out)
      obtain ⟨x0, x1, x2, x3, x4, x5, x6, x7, x8, x9⟩ := bx_cells10 (HK2.out.cells X3.out (by show ¬ _ = eb; omega))
      have ax7 := aft_cell x7
      have ay0 := aft_cell (bx_cells1 (HK2.out.cells X4.out (by show ¬ _ = eb; omega)))
      obtain ⟨f0, f1, f2, f3, f4, f5, f6, f7⟩ := bx_cells8e X5.out
      have af0 := aft_cell f0
      have af1 := aft_cell f1
      have af2 := aft_cell f2
      have af3 := aft_cell f3
      have af4 := aft_cell f4
      have af5 := aft_cell f5
      have af6 := aft_cell f6
      have af7 := aft_cell f7
      subst hae
      clear x0 x1 x2 x3 x4 x5 x6 x7 x8 x9 f0 f1 f2 f3 f4 f5 f6 f7
      go_upto_region 5 with fail
      rw [HW2.out]
      clear HW2 e0 e1 e2 e3 e4 e5 e6 e7 hargs
      refine wp_region_after_tail (w0 := w2) 11 (by kernel_rfl) (by kernel_rfl) ?_
      simp only [List.take_succ_cons, List.take_zero, List.drop_succ_cons, List.drop_zero]
      repeat (go_big_quiet_step (fail))
      refine wpQuiet_nil ?_
      rintro w3 ⟨⟨_, hb3⟩, rfl⟩
      have HE3 : Hid (EqM (fun k => k < eb) eb (s.eqs.take i) w3) := (HI.out.eq.keeps (S := fun _ => False) (Below.keeps (HB2.out.trans (hb3.mono HB2.out.size))) id (fun _ _ => id))
      have HARG3 : Hid (Rd (fun k => k < eb) w3 (.sl (q.is'.args.map At.Expr.d)) [.slice va vl vc]) := (HARG.out.below HB2.out).below hb3
      obtain ⟨w4, hrun, hE4, hg4⟩ := HE3.out.store HOK.out HOKT.out HAP.out HTL.out (Nat.lt_irrefl _) HARG3.out
      have HI4 : Hid (EqL eb w1 (s.eqs.take (i + 1)) w4) := by
        rw [HTK.out]
        exact ⟨hE4, Keeps.more HK2.out (Keeps.more (Below.keeps hb3) (keeps_grown hg4 rfl))⟩
      simp only [HN_0.out, HN_1.out, HN_2.out, HN_3.out, HN_4.out, HN_5.out, HN_6.out] at hrun
      clear hb3 hE4 hg4 ax7 ay0 af0 af1 af2 af3 af4 af5 af6 af7
      go_wp2_with fail
      go_roundg (ql - (i + 1))
      case measure => omega
      case rel => exact ⟨i + 1, by omega, by omega, by go_num, HI4⟩
    · have hend : i = ql := by omega
      have hlt' : ¬ (i : Int) < (ql : Int) := by omega
      have HEQ : Hid (EqM (fun k => k < eb) eb s.eqs wr) := by
        have h := HI.out.eq
        rw [hend, ← HQLn.out, List.take_length] at h
        exact h
      have HKR := Lib.hid HI.out.keep
      have hwr : eb + 1 + 1 + 1 + 1 < wr.heap.size := Nat.lt_of_lt_of_le HSZ1.out HKR.out.size
      obtain ⟨fb, HFB⟩ := nameIt wr.heap.size
      obtain ⟨w5, HW5⟩ := nameIt (wr.alloc (.cells #[.func (.func 62) #[] #[.pointer (some ⟨eb + 1 + 1 + 1 + 1, 0, none⟩), .pointer (some ⟨wr.heap.size, 0, none⟩)]] 135))
      have HB5 : Hid (Below wr.heap.size wr w5) := by show Below _ _ _; rw [← HW5.out]; exact (Below.refl _ _).alloc (Nat.le_refl _) _
      have X5 : Hid (w5.heap[wr.heap.size]? = some (.cells #[.func (.func 62) #[] #[.pointer (some ⟨eb + 1 + 1 + 1 + 1, 0, none⟩), .pointer (some ⟨wr.heap.size, 0, none⟩)]] 135 (0, 0))) := by show _ = _; rw [← HW5.out]; exact bx_new _ _ _ rfl
      have HK5 : Hid (Keeps (fun k => k = eb) w1 w5) := Keeps.more HKR.out (Below.keeps HB5.out)
      have HT5 := Lib.hid (HK5.out.cells X3.out (by show ¬ _ = eb; omega))
      have HX5 := Lib.hid (HK5.out.cells X4.out (by show ¬ _ = eb; omega))
      have h5s : wr.heap.size < w5.heap.size := (Array.getElem?_eq_some_iff.1 X5.out).1
      have HKW : Hid (Keeps (fun k => W.heap.size ≤ k) W w5) := Keeps.trans (Below.keeps HBW1.out) HK5.out (fun k hk => .inl (by have := HWE.out; show W.heap.size ≤ k; omega))
      have HBS : Hid (eb + 1 + 1 + 1 + 1 < w5.heap.size) := Nat.lt_trans hwr h5s
      obtain ⟨B, HBn⟩ := nameIt w5.heap.size
      rw [HBn.out] at HBS
      obtain ⟨hd, HHD⟩ := nameIt (Hd.mk (.int .i64 gt) (.int .i64 gn) (.int .i64 gs) (.slice ra rl rc) (.slice aa al ac) (.slice qa ql qc) (.map (some eb)) (.map (some (eb + 1))) (.map (some (eb + 1 + 1))))
      have HNB : Hid (NB B (eb + 1 + 1 + 1) hd [] (.slice none 0 0) (fun _ => .slice none 0 0) w5) := by
        refine ⟨?_, World.ownsRow_nil _ _ _ _, fun k hk => by simp at hk, fun k k' hk => by simp at hk, by rw [← HBn.out]; omega, by rw [HBn.out]; exact Nat.le_refl _⟩
        rw [← HHD.out]
        exact HT5.out
      have HTK : Hid (Rd (fun k => k < B ∧ k ≠ eb + 1 + 1 + 1) w5 (.sl (T.kids.map Tree.d)) [.slice av nk cv]) := by
        refine HT.out.keep (fun k _ hl => ⟨⟨?_, ?_⟩, HKW.out.block k hl (by show ¬ W.heap.size ≤ k; omega)⟩)
        · have := HKW.out.size; rw [HBn.out] at this; omega
        · have := HWE.out; omega
      have HVIS := Lib.hid (visitE B (eb + 1 + 1 + 1) (eb + 1 + 1 + 1 + 1) wr.heap.size hd (by rw [← HBn.out]; omega) (by rw [← HBn.out]; exact h5s) (by omega) (by omega) (tsz T) T (-1) 0 (.slice av nk cv) [] _ _ w5 (Nat.le_refl _) (by simpa using HSZ.out) HNB.out (.inl rfl) HTK.out HX5.out X5.out)
      rw [addK_neg, List.nil_append, List.length_nil, HTR.out, HTM.out, HFB.out] at HVIS
      rw [HFB.out] at X5 HW5 h5s
      have y0 := bx_cells1 X5.out
      have hX2 : w5.heap[W.heap.size + 1 + 1]? = some (.cells #[.int .i64 tr, .int .i64 tm, .slice av nk cv] 31 (0, 0)) := HK5.out.cells (bx_keep X2.out (HB1.out.mono (Nat.le_of_eq HEB.out))) (by have := HWE.out; show ¬ _ = eb; omega)
      obtain ⟨z0, z1, z2⟩ := bx_cells3 hX2
      go_upto_region 9 with fail
      simp only [HFB.out]
      rw [HW5.out]
      clear HW5 hX2
      go_wp2_with (refine HVIS.out.mono ?_)
      rintro e6 w6 ⟨rfl, hV6⟩
      obtain ⟨vs6, val6, hN6, hS6⟩ := hV6.ex
      obtain ⟨sa, sc, hvs, -, -⟩ := own_len hN6.row
      subst hvs
      have hS6o : ∀ k, ¬ k = eb + 1 + 1 + 1 → ¬ OwN (eb + 1 + 1 + 1) (.slice none 0 0) ([] : List Nd).length (fun _ => .slice none 0 0) k := fun k hk h => by
        rcases h with h | h | ⟨i, hi, -⟩
        · exact hk h
        · cases h
        · simp at hi
      have HK6 : Hid (Keeps (fun k => k = eb + 1 + 1 + 1) w5 w6) := ⟨hS6.os, hS6.tape, hS6.output, hS6.size, fun k hk hn => hS6.same k hk (hS6o k hn)⟩
      have HX6 := Lib.hid (HK6.out.cells HX5.out (by show ¬ _ = eb + 1 + 1 + 1; omega))
      have HE : Hid (∀ wz, wz = w6 → PST (.returned (.pointer (some ⟨eb + 1 + 1 + 1, 0, none⟩))) wz) := fun wz hz => by
        rw [hz, ← HPN.out]
        have hBs : eb + 1 + 1 + 1 + 1 < B := HBS.out
        have hkw6 : Keeps (fun k => W.heap.size ≤ k) W w6 := Keeps.trans HKW.out HK6.out (fun k hk => .inl (by have := HWE.out; show W.heap.size ≤ k; omega))
        have hrd : ∀ {d : D} {cs : List Value}, Rd AnyB W d cs → Rd (PT (eb + 1) (eb + 1 + 1)) w6 d cs := fun h => h.keep (fun k _ hl => ⟨by have := HWE.out; unfold PT; omega, hkw6.block k hl (by show ¬ W.heap.size ≤ k; omega)⟩)
        refine ⟨eb + 1 + 1 + 1, eb, eb + 1, eb + 1 + 1, rfl, ⟨?_, ?_, by omega⟩, ?_, ?_, Keeps.below hkw6 (fun k h => h) (Nat.le_refl _), by have := HWE.out; omega, by have := HWE.out; omega, by have := HWE.out; omega⟩
        · refine ⟨ra, rc, aa, ac, qa, ql, qc, sa, sc, ?_, hrd HR.out, hrd HA.out, ?_⟩
          · have h := hN6.hdr
            rw [← HHD.out] at h
            rw [HRL.out, HAL.out, HGT.out, HGN.out, HGS.out]
            exact h
          · exact hN6.rd.mono fun k hk _ => by unfold PT; omega
        · refine EqM.monoP ((HEQ.out.keeps (S := fun _ => False) (Below.keeps HB5.out) id (fun _ _ => id)).keeps HK6.out (by show ¬ _ = eb + 1 + 1 + 1; omega) (fun k hk => by show ¬ k = eb + 1 + 1 + 1; omega)) (fun k hk => by unfold PT; omega)
        · exact (HN1.out.keeps HK5.out (by show ¬ _ = eb; omega)).keeps HK6.out (by show ¬ _ = eb + 1 + 1 + 1; omega)
        · exact (HN2.out.keeps HK5.out (by show ¬ _ = eb; omega)).keeps HK6.out (by show ¬ _ = eb + 1 + 1 + 1; omega)
      have y1 := bx_cells1 HX6.out
      have HEF := Lib.hid (HE.out w6 rfl)
      clear hN6 hS6 hV6 hS6o y0 z0 z1 z2 HVIS
      go_wp2_with fail
      exact HEF.out
end Dm
end Go.Proofs.YtfocooehnmpndaaGreat
namespace Go.Proofs.YtfocooehnmpndaaGreat
open Go.RowKit
namespace At
theorem nn_true : ∀ {a b : Bool}, (!a || !b) = true → a = false ∨ b = false := by decide
theorem nn_false : ∀ {a b : Bool}, (!a || !b) = false → ¬ (a = false ∨ b = false) := by decide
set_option maxHeartbeats 8000000 in
set_option maxRecDepth 100000 in
theorem attrCheckE (g : Gram) (s : Sys) (ar aa ae : Option Addr) (cr ca ce : Nat) (w : World) (hok : ∀ q ∈ s.eqs, okEqK q) (hR : Rd AnyB w (.sl (g.rules.map Rule.d)) [.slice ar g.rules.length cr]) (hA : Rd AnyB w (.sl (s.attrs.map Attr.d)) [.slice aa s.attrs.length ca]) (hE : Rd AnyB w (.sl (s.eqs.map Eqn.d)) [.slice ae s.eqs.length ce]) :
    Calls Tryz.prog 59 #[.agg #[.int .i64 g.terms, .int .i64 g.nons, .int .i64 g.start, .slice ar g.rules.length cr], .agg #[.slice aa s.attrs.length ca, .slice ae s.eqs.length ce]] w (fun e w' => e = .returned (.int .i64 (checkS g s)) ∧ Below w.heap.size w w') := by
  have hr1 := hR.bounds.2
  have ha1 := hA.bounds.2
  have he1 := hE.bounds.2
  unfold maxLen at hr1 ha1 he1
  obtain ⟨hr1, hr2⟩ := hr1
  obtain ⟨ha1, ha2⟩ := ha1
  obtain ⟨he1, he2⟩ := he1
  obtain ⟨w0, HW0⟩ := nameIt ((w.alloc (.cells #[.int .i64 g.terms, .int .i64 g.nons, .int .i64 g.start, .slice ar g.rules.length cr] 24)).alloc (.cells #[.slice aa s.attrs.length ca, .slice ae s.eqs.length ce] 28))
  have HB0 : Hid (Below w.heap.size w w0) := by rw [← HW0.out]; exact ((Below.refl _ _).alloc (Nat.le_refl _) _).alloc (by simp) _
  have X1 : Hid (w0.heap[w.heap.size]? = some (.cells #[.int .i64 g.terms, .int .i64 g.nons, .int .i64 g.start, .slice ar g.rules.length cr] 24 (0, 0))) := by
    rw [← HW0.out]; exact bx_keep (bx_new _ _ _ rfl) ((Below.refl _ _).alloc (Nat.le_refl _) _)
  have X2 : Hid (w0.heap[w.heap.size + 1]? = some (.cells #[.slice aa s.attrs.length ca, .slice ae s.eqs.length ce] 28 (0, 0))) := by
    rw [← HW0.out]; exact bx_new _ _ _ (by simp)
  have HR := Lib.hid hR
  have HA := Lib.hid hA
  have HE := Lib.hid hE
  have HOK := Lib.hid hok
  have HSG := Lib.hid (@checkS_g g s)
  have HSS := Lib.hid (@checkS_sys g s)
  have HSA := Lib.hid (@sysErr_a g s)
  have HSL := Lib.hid (@sysErr_l g s)
  have HSE := Lib.hid (@sysErr_e g s)
  have HSN := Lib.hid (@sysErr_n g s)
  have HSZ := Lib.hid (@sysErr_z g s)
  have HZG := Lib.hid (@checkG_zero g)
  have HCE := Lib.hid (checkE g ar cr w0 (hR.below HB0.out))
  have HAE := Lib.hid (fun (W : World) (hb : Below w.heap.size w W) (hn : 1 ≤ g.nons ∧ g.nons ≤ 10) => attrsE g s.attrs hn ar aa ae g.rules.length cr ca s.eqs.length ce W (hA.below hb))
  have HDE := Lib.hid (fun (r : Rule) (x : Ref) (av : Option Addr) (cv : Nat) (W : World) (hb : Below w.heap.size w W) (h : Rd AnyB W (.sl (r.right.map Sym.d)) [.slice av r.right.length cv]) => definesE s.attrs r x aa ae av ca s.eqs.length ce cv W (hA.below hb) h)
  have HVE := Lib.hid (fun (r : Rule) (x : Expr) (v : Value) (av : Option Addr) (cv : Nat) (W : World) (hb : Below w.heap.size w W) (h : Rd AnyB W (.sl (r.right.map Sym.d)) [.slice av r.right.length cv]) (h2 : Rd AnyB W (.sl (x.args.map Expr.d)) [v]) => validE s.attrs r aa ae av ca s.eqs.length ce cv x.size x v W (Nat.le_refl _) (hA.below hb) h h2)
  have HSI := Lib.hid (fun (x : Expr) (v : Value) (W : World) (h : Rd AnyB W (.sl (x.args.map Expr.d)) [v]) => sizeE x.size x v W (Nat.le_refl _) h)
  obtain ⟨cs, HCS⟩ := nameIt (checkS g s)
  obtain ⟨cg, HCG⟩ := nameIt (checkG g)
  obtain ⟨ss, HSSS⟩ := nameIt (sysErr g s)
  obtain ⟨ass, HAS⟩ := nameIt (attrsErr g s.attrs)
  obtain ⟨tm, HTM⟩ := nameIt g.terms
  obtain ⟨no, HNO⟩ := nameIt g.nons
  obtain ⟨st, HST⟩ := nameIt g.start
  obtain ⟨m, HM⟩ := nameIt g.rules.length
  obtain ⟨al, HAL⟩ := nameIt s.attrs.length
  obtain ⟨n, HN⟩ := nameIt s.eqs.length
  have HM' := Lib.hid HM.out
  have HN' := Lib.hid HN.out
  have HAL' := Lib.hid HAL.out
  rw [HCS.out, HCG.out] at HSG
  rw [HCS.out, HCG.out, HSSS.out] at HSS
  rw [HSSS.out, HAS.out] at HSA
  rw [HSSS.out, HAS.out, HN.out] at HSL
  rw [HSSS.out, HAS.out, HN.out] at HSE
  rw [HSSS.out, HAS.out, HN.out] at HSN
  rw [HSSS.out, HAS.out, HN.out] at HSZ
  rw [HCG.out] at HZG
  rw [HTM.out, HNO.out, HST.out, HM.out, HCG.out] at HCE
  simp only [HTM.out, HNO.out, HST.out, HM.out, HAL.out, HN.out, HAS.out] at HAE
  simp only [HAL.out, HN.out] at HDE HVE
  rw [HTM.out, HNO.out, HST.out, HM.out, HAL.out, HN.out] at HW0
  rw [HTM.out, HNO.out, HST.out, HM.out] at X1
  rw [HAL.out, HN.out] at X2
  rw [HM.out] at HR hr1
  rw [HAL.out] at HA ha1
  rw [HN.out] at HE he1
  rw [HTM.out, HNO.out, HST.out, HM.out, HAL.out, HN.out, HCS.out]
  have hmk : ∀ W : World, (Instr.makeMap 172 none).run Tryz.prog W = .ok (.map (some W.heap.size)) (W.alloc (.map #[] 0)) := fun W => by
    simp [Instr.makeMap, run_underlying Tryz.underlying172]; try rfl
  obtain ⟨x0, x1, x2, x3⟩ := bx_cells4 X1.out
  obtain ⟨y0, y1⟩ := bx_cells2 X2.out
  clear hR hA hE hok
  go_enter Tryz.func59, Tryz.ntmps59
  go_upto_region 1 with fail
  rw [HW0.out]
  go_wp2_with fail
  refine HCE.out.mono ?_
  rintro e w1 ⟨rfl, hb1⟩
  have HB1 : Hid (Below w.heap.size w w1) := HB0.out.trans (hb1.mono HB0.out.size)
  have Y1 := Lib.hid (bx_keep X1.out hb1)
  have Y2 := Lib.hid (bx_keep X2.out hb1)
  clear x0 x1 x2 x3 y0 y1 hb1
  by_cases hz : cg = 0
  · have HZ := Lib.hid (HZG.out hz)
    have HZS := Lib.hid (HSS.out hz)
    subst hz
    obtain ⟨k0, k1, k2, k3⟩ := bx_cells4 Y1.out
    obtain ⟨l0, l1⟩ := bx_cells2 Y2.out
    go_upto_region 4 with fail
    go_wp2_with fail
    refine (HAE.out w1 HB1.out ⟨HNO.out ▸ HZ.out.1.2.2.1, HNO.out ▸ HZ.out.1.2.2.2.1⟩).mono ?_
    rintro e w2 ⟨rfl, hb2⟩
    have HB2 : Hid (Below w.heap.size w w2) := HB1.out.trans (hb2.mono HB1.out.size)
    have Z1 := Lib.hid (bx_keep Y1.out hb2)
    have Z2 := Lib.hid (bx_keep Y2.out hb2)
    clear k0 k1 k2 k3 l0 l1 hb2
    by_cases ha : ass = 0
    · have HASS := HAS
      subst ha
      obtain ⟨k0, k1, k2, k3⟩ := bx_cells4 Z1.out
      obtain ⟨l0, l1⟩ := bx_cells2 Z2.out
      by_cases hbig : 200 < n
      · have hbig' : (200 : Int) < (n : Int) := by omega
        have HF : Hid (cs = 2) := by show _ = _; rw [HZS.out]; exact HSL.out (by simp) hbig
        go_wp2_with fail
        go_ret
        exact ⟨by rw [HF.out]; rfl, HB2.out⟩
      · have hbig' : ¬ (200 : Int) < (n : Int) := by omega
        have HNB := Lib.hid hbig
        obtain ⟨mb, HMB⟩ := nameIt w2.heap.size
        obtain ⟨w3, HW3⟩ := nameIt (w2.alloc (.map #[] 0))
        have HI0 : Hid (CkI w mb #[.int .i64 tm, .int .i64 no, .int .i64 st, .slice ar m cr] #[.slice aa al ca, .slice ae n ce] (s.eqs.take 0) w3) := by
          have hb : Below w2.heap.size w2 w3 := by rw [← HW3.out]; exact (Below.refl _ _).alloc (Nat.le_refl _) _
          refine ⟨bx_keep Z1.out hb, bx_keep Z2.out hb, ⟨0, ?_, by simp⟩, HB2.out.trans (hb.mono HB2.out.size), ?_⟩
          · rw [← HW3.out]; exact SetM.start Tryz.prog 177 4 w2 HMB.out.symm (fun l => rfl)
          · rw [← HMB.out]; exact (Array.getElem?_eq_some_iff.1 Z2.out).1
        have HER0 : Hid (eqsFrom g s 0 s.eqs = eqsFrom g s 0 (s.eqs.drop 0)) := rfl
        have HEA := Lib.hid (fun (i : Nat) (h : i < s.eqs.length) => @eqsFrom_at g s i h)
        obtain ⟨er, HER⟩ := nameIt (eqsFrom g s 0 s.eqs)
        rw [HER.out] at HER0 HSE HSN HSZ
        go_upto_region 10 with fail
        rw [HMB.out, HW3.out]
        clear k0 k1 k2 k3 l0 l1 hmk
        obtain ⟨k0, k1, k2, k3⟩ := bx_cells4 HI0.out.b1
        obtain ⟨l0, l1⟩ := bx_cells2 HI0.out.b2
        go_wp2_with fail
        clear k0 k1 k2 k3 l0 l1
        go_loopg [34] n (fun gg v34 wr => ∃ i : Nat, i ≤ n ∧ n - i ≤ gg ∧ v34 = .int .i64 i ∧ Hid (er = eqsFrom g s i (s.eqs.drop i)) ∧ Hid (CkI w mb #[.int .i64 tm, .int .i64 no, .int .i64 st, .slice ar m cr] #[.slice aa al ca, .slice ae n ce] (s.eqs.take i) wr))
        case atStart => exact ⟨0, by omega, by omega, rfl, HER0, HI0⟩
        case round =>
          clear HI0 HER0
          obtain ⟨i, hi, hg, rfl, HEI, HI⟩ := hrel
          by_cases hlt : i < n
          · have hlt' : (i : Int) < (n : Int) := by omega
            have hltE : i < s.eqs.length := by rw [HN.out]; exact hlt
            obtain ⟨b, off, v, hae, -, hbl, c0, c1, c2, c3, c4, c5, c6, c7, hkid⟩ := Rd.eqn_at (HE.out.below HI.out.bel) hltE
            obtain ⟨av, cv, rfl, -, -⟩ := hkid.form
            rw [List.length_map] at c7 hkid
            have HATI := Lib.hid (HEA.out i hltE)
            have HOKQ := Lib.hid (HOK.out _ (List.getElem_mem hltE))
            have HTK : Hid (s.eqs.take (i + 1) = s.eqs.take i ++ [s.eqs[i]'hltE]) := List.take_succ_eq_append_getElem hltE
            obtain ⟨q, HQ⟩ := nameIt (s.eqs[i]'hltE)
            rw [HQ.out] at c0 c1 c2 c3 c4 c5 c6 c7 hkid HATI HOKQ HTK
            have HRET : Hid (∀ z, z ≠ 0 → eqErr g s i q = z → cs = z) := by
              intro z hz h
              have h1 : er = z := by rw [HEI.out, HATI.out, h, if_pos hz]
              rw [HZS.out, ← h1]
              exact HSE.out (by simp) HNB.out (by rw [h1]; exact hz)
            have HNEXT : Hid (eqErr g s i q = 0 → er = eqsFrom g s (i + 1) (s.eqs.drop (i + 1))) := by
              intro h
              rw [HEI.out, HATI.out, h, if_neg (by simp)]
            have HEIN := Lib.hid (fun (j : Nat) (hj : j < g.rules.length) (h : q.rule = (j : Int)) => eqErr_in (s := s) (i := i) hj h)
            have HEOUT : Hid (q.rule < 0 ∨ (m : Int) ≤ q.rule → eqErr g s i q = 1) := by
              intro h
              exact eqErr_out (by rw [HM.out]; exact h)
            have HLK := Lib.hid (fun (W : World) (h : CkI w mb #[.int .i64 tm, .int .i64 no, .int .i64 st, .slice ar m cr] #[.slice aa al ca, .slice ae n ce] (s.eqs.take i) W) => h.look (fun q hq => HOK.out q (List.mem_of_mem_take hq)) HOKQ.out.1 HOKQ.out.2)
            have HADD := Lib.hid (fun (W : World) (h : CkI w mb #[.int .i64 tm, .int .i64 no, .int .i64 st, .slice ar m cr] #[.slice aa al ca, .slice ae n ce] (s.eqs.take i) W) => h.add (by unfold maxLen; simp; omega) HOKQ.out)
            rw [← HTK.out] at HADD
            have hkk := hkid
            obtain ⟨w4, HW4⟩ := nameIt (wr.alloc (.cells #[.int .i64 q.rule, .int .i64 q.to'.at', .int .i64 q.to'.attr, .int .i64 q.is'.kind, .int .i64 q.is'.n, .int .i64 q.is'.ref.at', .int .i64 q.is'.ref.attr, .slice av q.is'.args.length cv] 90))
            have hb4 : Below wr.heap.size wr w4 := by rw [← HW4.out]; exact (Below.refl _ _).alloc (Nat.le_refl _) _
            have XQ : Hid (w4.heap[wr.heap.size]? = some (.cells #[.int .i64 q.rule, .int .i64 q.to'.at', .int .i64 q.to'.attr, .int .i64 q.is'.kind, .int .i64 q.is'.n, .int .i64 q.is'.ref.at', .int .i64 q.is'.ref.attr, .slice av q.is'.args.length cv] 90 (0, 0))) := by rw [← HW4.out]; exact bx_new _ _ _ rfl
            have HKID := Lib.hid (hkid.below hb4)
            have HSQ := Lib.hid (HSI.out q.is' _ w4 HKID.out)
            have HI4 := Lib.hid (HI.out.keep hb4)
            have HVQ := Lib.hid (fun (r : Rule) (av' : Option Addr) (cv' : Nat) (W : World) (hb : Below w4.heap.size w4 W) (h : Rd AnyB W (.sl (r.right.map Sym.d)) [.slice av' r.right.length cv']) => HVE.out r q.is' _ av' cv' W (HI4.out.bel.trans (hb.mono HI4.out.bel.size)) h (HKID.out.below hb))
            have HDQ := Lib.hid (fun (r : Rule) (av' : Option Addr) (cv' : Nat) (W : World) (hb : Below w4.heap.size w4 W) (h : Rd AnyB W (.sl (r.right.map Sym.d)) [.slice av' r.right.length cv']) => HDE.out r q.to' av' cv' W (HI4.out.bel.trans (hb.mono HI4.out.bel.size)) h)
            obtain ⟨qr, HQR⟩ := nameIt q.rule
            obtain ⟨t1, HT1⟩ := nameIt q.to'.at'
            obtain ⟨t2, HT2⟩ := nameIt q.to'.attr
            obtain ⟨e0, HE0⟩ := nameIt q.is'.kind
            obtain ⟨e1, HE1⟩ := nameIt q.is'.n
            obtain ⟨e2, HE2⟩ := nameIt q.is'.ref.at'
            obtain ⟨e3, HE3⟩ := nameIt q.is'.ref.attr
            obtain ⟨qn, HQN⟩ := nameIt q.is'.args.length
            obtain ⟨hd, HHD⟩ := nameIt (had (s.eqs.take i) q.rule q.to')
            simp only [HHD.out] at HEIN
            simp only [HHD.out] at HLK
            simp only [HQR.out] at HEIN HEOUT
            rw [HQR.out] at c0
            rw [HQR.out, HT1.out, HT2.out, HE0.out, HE1.out, HE2.out, HE3.out, HQN.out] at XQ HW4
            rw [HT1.out] at c1
            rw [HT2.out] at c2
            rw [HE0.out] at c3
            rw [HE1.out] at c4
            rw [HE2.out] at c5
            rw [HE3.out] at c6
            rw [HQN.out] at c7
            rw [HE0.out, HE1.out, HE2.out, HE3.out, HQN.out] at HSQ
            simp only [HE0.out, HE1.out, HE2.out, HE3.out, HQN.out] at HVQ
            simp only [HT1.out, HT2.out] at HDQ
            simp only [HQR.out, HT1.out, HT2.out] at HLK HADD
            subst hae
            obtain ⟨g0, g1, g2, g3⟩ := bx_cells4 HI4.out.b1
            obtain ⟨l0, l1⟩ := bx_cells2 HI4.out.b2
            obtain ⟨z0, z1, z2, z3, z4, z5, z6, z7⟩ := bx_cells8 XQ.out
            clear hb4 hkid hkk
            go_upto_region 13 with fail
            rw [HW4.out]
            clear c0 c1 c2 c3 c4 c5 c6 c7
            by_cases h1 : qr < 0
            · have h1' : decide (qr < 0) = true := by simpa using h1
              have HF : Hid (cs = 1) := HRET.out 1 (by decide) (HEOUT.out (.inl h1))
              clear h1
              go_wp2_with fail
              go_ret
              exact ⟨by rw [HF.out]; rfl, HI4.out.bel⟩
            · have h1' : decide (qr < 0) = false := by simpa using h1
              obtain ⟨j, hj⟩ : ∃ j : Nat, qr = (j : Int) := ⟨qr.toNat, by omega⟩
              subst hj
              by_cases h2 : m ≤ j
              · have h2' : decide ((m : Int) ≤ (j : Int)) = true := by simpa using h2
                have HF : Hid (cs = 1) := HRET.out 1 (by decide) (HEOUT.out (.inr (by omega)))
                clear h1
                go_wp2_with fail
                go_ret
                exact ⟨by rw [HF.out]; rfl, HI4.out.bel⟩
              · have h2' : decide ((m : Int) ≤ (j : Int)) = false := by simp; omega
                have hjm : j < m := by omega
                have hj1 : (j : Int) < (m : Int) := by omega
                have hj0 : (0 : Int) ≤ (j : Int) := by omega
                have hjR : j < g.rules.length := by rw [HM.out]; exact hjm
                have HEJ := Lib.hid (HEIN.out j hjR rfl)
                clear h1
                go_upto_region 15 with fail
                go_wp2_with fail
                refine HSQ.out.mono ?_
                rintro e w5 ⟨rfl, hb5⟩
                have HB5 := Lib.hid hb5
                obtain ⟨sz, HSZE⟩ := nameIt (min q.is'.size 31)
                rw [HSZE.out]
                have HI5 := Lib.hid (HI4.out.keep hb5)
                have XQ5 := Lib.hid (bx_keep XQ.out hb5)
                obtain ⟨b6, off6, vr6, hae6, -, hbl6, d0, d1, hkr6⟩ := (HR.out.below HI5.out.bel).rule_at hjR
                obtain ⟨ar6, cr6, rfl, -, -⟩ := hkr6.form
                rw [List.length_map] at d1 hkr6
                obtain ⟨ru, HRU⟩ := nameIt (g.rules[j]'hjR)
                rw [HRU.out] at d0 d1 hkr6 HEJ
                have HDR := Lib.hid (fun (W : World) (hb : Below w5.heap.size w5 W) => HDQ.out ru ar6 cr6 W (HB5.out.trans (hb.mono HB5.out.size)) (hkr6.below hb))
                have HVR := Lib.hid (fun (W : World) (hb : Below w5.heap.size w5 W) => HVQ.out ru ar6 cr6 W (HB5.out.trans (hb.mono HB5.out.size)) (hkr6.below hb))
                obtain ⟨lf, HLF⟩ := nameIt ru.left
                obtain ⟨rn, HRN⟩ := nameIt ru.right.length
                obtain ⟨df, HDF⟩ := nameIt (defs s.attrs ru q.to')
                obtain ⟨vl, HVL⟩ := nameIt (valid s.attrs ru q.is')
                rw [HDF.out, HVL.out] at HEJ
                rw [HLF.out] at d0
                rw [HRN.out] at d1
                simp only [HLF.out, HRN.out, HDF.out] at HDR
                simp only [HLF.out, HRN.out, HVL.out] at HVR
                clear g0 g1 g2 g3 l0 l1 z0 z1 z2 z3 z4 z5 z6 z7 hb5 hkr6
                by_cases hbs : 30 < sz
                · have hbs' : (30 : Int) < (sz : Int) := by omega
                  have HF : Hid (cs = 2) := HRET.out 2 (by decide) (by rw [HEJ.out, if_pos (by have := HSZE.out; omega)])
                  go_wp2_with fail
                  go_ret
                  exact ⟨by rw [HF.out]; rfl, HI5.out.bel⟩
                · have hbs' : ¬ (30 : Int) < (sz : Int) := by omega
                  have HEL : Hid (eqErr g s i q = if df = false ∨ vl = false then 3 else if hd then 6 else 0) := by
                    show _ = _
                    rw [HEJ.out, if_neg (by have := HSZE.out; omega)]
                  subst hae6
                  obtain ⟨g0, g1, g2, g3⟩ := bx_cells4 HI5.out.b1
                  obtain ⟨l0, l1⟩ := bx_cells2 HI5.out.b2
                  obtain ⟨z0, z1, z2, z3, z4, z5, z6, z7⟩ := bx_cells8 XQ5.out
                  have k0 := aft_cell g3
                  have k1 := aft_cell l0
                  have k2 := aft_cell l1
                  have k3 := aft_cell z0
                  have k4 := aft_cell z1
                  have k5 := aft_cell z2
                  have k6 := aft_cell z3
                  have k7 := aft_cell z4
                  have k8 := aft_cell z5
                  have k9 := aft_cell z6
                  have k10 := aft_cell z7
                  have k11 := aft_cell d0
                  have k12 := aft_cell d1
                  clear g0 g1 g2 g3 l0 l1 z0 z1 z2 z3 z4 z5 z6 z7 d0 d1
                  go_upto_region 17 with fail
                  go_cut [55] (fun t55 wx => t55 = .bool (!df || !vl) ∧ Hid (Below w5.heap.size w5 wx))
                  case first =>
                    cases df with
                    | false =>
                      refine wp_region_after (by kernel_rfl) (by kernel_rfl) ?_
                      repeat (go_big_quiet_step (first | exact Calls.after (HDR.out _ (Aft.bel _)) | exact Calls.after (HVR.out _ (Aft.bel _))))
                      refine wpQuiet_nil ?_
                      rintro _ ⟨⟨w7, hb7⟩, rfl⟩
                      have HB7 := Lib.hid hb7
                      clear hb7 k0 k1 k2 k3 k4 k5 k6 k7 k8 k9 k10 k11 k12
                      go_wp2_with fail
                      go_meet
                      exact ⟨rfl, HB7⟩
                    | true =>
                      refine wp_region_after (by kernel_rfl) (by kernel_rfl) ?_
                      repeat (go_big_quiet_step (first | exact Calls.after (HDR.out _ (Aft.bel _)) | exact Calls.after (HVR.out _ (Aft.bel _))))
                      refine wpQuiet_nil ?_
                      rintro _ ⟨⟨w7, hb7⟩, rfl⟩
                      have HB7 := Lib.hid hb7
                      clear hb7 k0 k1 k2 k3 k4 k5 k6 k7 k8 k9 k10 k11 k12
                      go_wp2_with fail
                      go_meet
                      exact ⟨rfl, HB7⟩
                  case rest =>
                    obtain ⟨rfl, HB7⟩ := hcut
                    obtain ⟨w7, rfl⟩ : ∃ ww : World, ww = wc := ⟨_, rfl⟩
                    clear k0 k1 k2 k3 k4 k5 k6 k7 k8 k9 k10 k11 k12
                    have HI7 := Lib.hid (HI5.out.keep HB7.out)
                    have XQ7 := Lib.hid (bx_keep XQ5.out HB7.out)
                    obtain ⟨dv, HDV⟩ := nameIt (!df || !vl)
                    rw [HDV.out]
                    cases dv with
                    | true =>
                      have HF : Hid (cs = 3) := HRET.out 3 (by decide) (by rw [HEL.out, if_pos (nn_true HDV.out)])
                      go_wp2_with fail
                      go_ret
                      exact ⟨by rw [HF.out]; rfl, HI7.out.bel⟩
                    | false =>
                      have HEM : Hid (eqErr g s i q = if hd then 6 else 0) := by
                        show _ = _
                        rw [HEL.out, if_neg (nn_false HDV.out)]
                      obtain ⟨z0, z1, z2, z3, z4, z5, z6, z7⟩ := bx_cells8 XQ7.out
                      have hlk := HLK.out w7 HI7.out
                      cases hd with
                      | true =>
                        have HF : Hid (cs = 6) := HRET.out 6 (by decide) (by rw [HEM.out]; rfl)
                        go_wp2_with fail
                        go_ret
                        exact ⟨by rw [HF.out]; rfl, HI7.out.bel⟩
                      | false =>
                        have HF := Lib.hid (HNEXT.out (by rw [HEM.out]; rfl))
                        obtain ⟨w8, hup, hi8⟩ := HADD.out w7 HI7.out
                        have HI8 := Lib.hid hi8
                        clear hi8
                        go_wp2_with fail
                        go_roundg (n - (i + 1))
                        case measure => omega
                        case rel => exact ⟨i + 1, by omega, by omega, by go_num, HF, HI8⟩
          · have hlt' : ¬ (i : Int) < (n : Int) := by omega
            have hin : i = n := by omega
            have HEZ : Hid (er = 0) := by
              show _ = _
              rw [HEI.out, List.drop_of_length_le (by rw [HN.out]; omega)]
              rfl
            have hie := HI.out
            rw [List.take_of_length_le (by rw [HN.out]; omega)] at hie
            have HIE := Lib.hid hie
            have HFZ := Lib.hid (fun h => HZS.out.trans (HSZ.out (by simp) HNB.out HEZ.out h))
            have HFN := Lib.hid (fun h => HZS.out.trans (HSN.out (by simp) HNB.out HEZ.out h))
            have HN0 := Lib.hid (noL_start g s)
            have HLKE := Lib.hid (fun (W : World) (h : CkI w mb #[.int .i64 tm, .int .i64 no, .int .i64 st, .slice ar m cr] #[.slice aa al ca, .slice ae n ce] s.eqs W) (r : Int) (x : Ref) (h1 : i64 r) (h2 : okRefI x) => h.look HOK.out h1 h2)
            have HI' := HI
            obtain ⟨g0, g1, g2, g3⟩ := bx_cells4 HIE.out.b1
            clear hie HI'
            go_wp2_with fail
            clear g0 g1 g2 g3
            go_loopg [98] m (fun gg v98 wr => ∃ i : Nat, i ≤ m ∧ m - i ≤ gg ∧ v98 = .int .i64 i ∧ Hid (NoL g s i 0 0) ∧ Hid (CkI w mb #[.int .i64 tm, .int .i64 no, .int .i64 st, .slice ar m cr] #[.slice aa al ca, .slice ae n ce] s.eqs wr))
            case atStart => exact ⟨0, by omega, by omega, rfl, HN0, HIE⟩
            case round =>
              clear HN0 HIE HI HEI
              obtain ⟨wb, rfl⟩ : ∃ ww : World, ww = wr := ⟨_, rfl⟩
              obtain ⟨i, hi, hg, rfl, HNL, HI⟩ := hrel
              by_cases him : i < m
              · have him' : (i : Int) < (m : Int) := by omega
                have hiR : i < g.rules.length := by rw [HM.out]; exact him
                obtain ⟨b6, off6, vr6, hae6, -, hbl6, d0, d1, hkr6⟩ := (HR.out.below HI.out.bel).rule_at hiR
                obtain ⟨ar6, cr6, rfl, -, -⟩ := hkr6.form
                rw [List.length_map] at d1 hkr6
                have HNK := Lib.hid (fun (a k : Nat) (h : NoL g s i a k) => h.k hiR)
                have HNA := Lib.hid (fun (a k : Nat) (h : NoL g s i a k) => h.a hiR)
                have HNI := Lib.hid (fun (a : Nat) (h : NoL g s i a 0) => h.i)
                have HLAK : Hid (∀ a k : Nat, k < g.rules[i].right.length + 1 → a < al → lacksAt s i g.rules[i] k a = true → lacks g s) := fun a k h1 h2 h3 => ⟨i, k, a, hiR, h1, by rw [HAL.out]; exact h2, h3⟩
                obtain ⟨ru, HRU⟩ := nameIt (g.rules[i]'hiR)
                simp only [HRU.out] at HNK HNA HLAK
                rw [HRU.out] at d0 d1 hkr6
                obtain ⟨w4, HW4⟩ := nameIt (wb.alloc (.cells #[.int .i64 ru.left, .slice ar6 ru.right.length cr6] 81))
                have hb4 : Below wb.heap.size wb w4 := by rw [← HW4.out]; exact (Below.refl _ _).alloc (Nat.le_refl _) _
                have XR : Hid (w4.heap[wb.heap.size]? = some (.cells #[.int .i64 ru.left, .slice ar6 ru.right.length cr6] 81 (0, 0))) := by rw [← HW4.out]; exact bx_new _ _ _ rfl
                have HDX := Lib.hid (fun (x : Ref) (W : World) (hb : Below w4.heap.size w4 W) => HDE.out ru x ar6 cr6 W ((HI.out.bel.trans (hb4.mono HI.out.bel.size)).trans (hb.mono (HI.out.bel.trans (hb4.mono HI.out.bel.size)).size)) ((hkr6.below hb4).below hb))
                have HI4 := Lib.hid (HI.out.keep hb4)
                have hrn := (HZ.out.2.2 _ (List.getElem_mem hiR)).2.2.1
                rw [HRU.out] at hrn
                obtain ⟨lf, HLF⟩ := nameIt ru.left
                obtain ⟨rn, HRN⟩ := nameIt ru.right.length
                rw [HLF.out] at d0 HW4 XR
                rw [HRN.out] at d1 HW4 XR hrn
                simp only [HLF.out, HRN.out] at HDX
                simp only [HRN.out] at HNA HLAK
                subst hae6
                have HB4 := Lib.hid (Below.refl w4.heap.size w4)
                clear hb4 hkr6
                go_upto_region 26 with fail
                rw [HW4.out]
                clear d0 d1
                obtain ⟨l0, l1⟩ := bx_cells2 HI4.out.b2
                go_wp2_with fail
                clear l0 l1
                go_loopg [106] al (fun gg v106 wr => ∃ a : Nat, a ≤ al ∧ al - a ≤ gg ∧ v106 = .int .i64 a ∧ Hid (NoL g s i a 0) ∧ Hid (CkI w mb #[.int .i64 tm, .int .i64 no, .int .i64 st, .slice (some ⟨b6, off6, none⟩) m cr] #[.slice aa al ca, .slice ae n ce] s.eqs wr) ∧ Hid (Below w4.heap.size w4 wr))
                case atStart => exact ⟨0, by omega, by omega, rfl, HNL, HI4, HB4⟩
                case round =>
                  obtain ⟨wd, rfl⟩ : ∃ ww : World, ww = wr := ⟨_, rfl⟩
                  clear HI4 HB4 HNL
                  obtain ⟨a, ha, hga, rfl, HNL, HIA, HBA⟩ := hrel
                  by_cases haa : a < al
                  · have haa' : (a : Int) < (al : Int) := by omega
                    have XRA := Lib.hid (bx_keep XR.out HBA.out)
                    obtain ⟨r0, r1⟩ := bx_cells2 XRA.out
                    go_wp2_with fail
                    clear r0 r1
                    go_loopg [113] (rn + 1) (fun gg v113 wr => ∃ k : Nat, k ≤ rn + 1 ∧ rn + 1 - k ≤ gg ∧ v113 = .int .i64 k ∧ Hid (NoL g s i a k) ∧ Hid (CkI w mb #[.int .i64 tm, .int .i64 no, .int .i64 st, .slice (some ⟨b6, off6, none⟩) m cr] #[.slice aa al ca, .slice ae n ce] s.eqs wr) ∧ Hid (Below w4.heap.size w4 wr))
                    case atStart => exact ⟨0, by omega, by omega, rfl, HNL, HIA, HBA⟩
                    case round =>
                      obtain ⟨we, rfl⟩ : ∃ ww : World, ww = wr := ⟨_, rfl⟩
                      clear HIA HBA HNL XRA
                      obtain ⟨k, hk, hgk, rfl, HNL, HIK, HBK⟩ := hrel
                      by_cases hkr : k < rn + 1
                      · have hkr' : (k : Int) < (rn : Int) + 1 := by omega
                        obtain ⟨w5, HW5⟩ := nameIt (we.alloc (.cells #[.int .i64 (k : Int), .int .i64 (a : Int)] 83))
                        have hb5 : Below we.heap.size we w5 := by rw [← HW5.out]; exact (Below.refl _ _).alloc (Nat.le_refl _) _
                        have XF : Hid (w5.heap[we.heap.size]? = some (.cells #[.int .i64 (k : Int), .int .i64 (a : Int)] 83 (0, 0))) := by rw [← HW5.out]; exact bx_new _ _ _ rfl
                        have HI5 := Lib.hid (HIK.out.keep hb5)
                        have HB5 : Hid (Below w4.heap.size w4 w5) := HBK.out.trans (hb5.mono HBK.out.size)
                        have XR5 := Lib.hid (bx_keep XR.out HB5.out)
                        have hdx := HDX.out ⟨k, a⟩ w5 HB5.out
                        have hok : okRefI ⟨(k : Int), (a : Int)⟩ := ⟨by unfold i64; simp only; omega, by unfold i64; simp only; omega⟩
                        have hii : i64 (i : Int) := by unfold i64; omega
                        have HLW := Lib.hid (fun (W : World) (h : CkI w mb #[.int .i64 tm, .int .i64 no, .int .i64 st, .slice (some ⟨b6, off6, none⟩) m cr] #[.slice aa al ca, .slice ae n ce] s.eqs W) => HLKE.out W h (i : Int) ⟨k, a⟩ hii hok)
                        have HLA : Hid (lacksAt s i ru k a = (defs s.attrs ru ⟨k, a⟩ && !had s.eqs i ⟨k, a⟩)) := rfl
                        have HLB := Lib.hid (HLAK.out a k hkr haa)
                        have HNN := Lib.hid (fun h => HNK.out a k HNL.out h)
                        obtain ⟨dd, HDD⟩ := nameIt (defs s.attrs ru ⟨k, a⟩)
                        obtain ⟨hh, HHH⟩ := nameIt (had s.eqs i ⟨k, a⟩)
                        obtain ⟨la, HLAA⟩ := nameIt (lacksAt s i ru k a)
                        rw [HDD.out, HHH.out, HLAA.out] at HLA
                        rw [HLAA.out] at HLB
                        simp only [HLAA.out] at HNN
                        rw [HDD.out] at hdx
                        simp only [HHH.out] at HLW
                        have HDC := Lib.hid hdx
                        obtain ⟨l0, l1⟩ := bx_cells2 HI5.out.b2
                        obtain ⟨r0, r1⟩ := bx_cells2 XR5.out
                        obtain ⟨f0, f1⟩ := bx_cells2 XF.out
                        clear hb5 hdx hok hii
                        go_upto_region 33 with fail
                        rw [HW5.out]
                        go_wp2_with fail
                        refine HDC.out.mono ?_
                        rintro e w6 ⟨rfl, hb6⟩
                        have HI6 := Lib.hid (HI5.out.keep hb6)
                        have HB6 : Hid (Below w4.heap.size w4 w6) := HB5.out.trans (hb6.mono HB5.out.size)
                        obtain ⟨f2, f3⟩ := bx_cells2 (bx_keep XF.out hb6)
                        have hlk := HLW.out w6 HI6.out
                        clear l0 l1 r0 r1 f0 f1 hb6
                        cases dd with
                        | false =>
                          have HNX := Lib.hid (HNN.out HLA.out)
                          go_wp2_with fail
                          go_roundg (rn + 1 - (k + 1))
                          case measure => omega
                          case rel => exact ⟨k + 1, by omega, by omega, by go_num, HNX, HI6, HB6⟩
                        | true =>
                          cases hh with
                          | true =>
                            have HNX := Lib.hid (HNN.out HLA.out)
                            go_wp2_with fail
                            go_roundg (rn + 1 - (k + 1))
                            case measure => omega
                            case rel => exact ⟨k + 1, by omega, by omega, by go_num, HNX, HI6, HB6⟩
                          | false =>
                            have HF : Hid (cs = 5) := HFN.out (HLB.out HLA.out)
                            go_wp2_with fail
                            go_ret
                            exact ⟨by rw [HF.out]; rfl, HI6.out.bel⟩
                      · have hkr' : ¬ (k : Int) < (rn : Int) + 1 := by omega
                        have HNN := Lib.hid (HNA.out a k HNL.out (by omega))
                        go_wp2_with fail
                        go_roundg (al - (a + 1))
                        case measure => omega
                        case rel => exact ⟨a + 1, by omega, by omega, by go_num, HNN, HIK, HBK⟩
                  · have haa' : ¬ (a : Int) < (al : Int) := by omega
                    have HNN := Lib.hid (HNI.out a HNL.out (by rw [HAL.out]; omega))
                    go_wp2_with fail
                    go_roundg (m - (i + 1))
                    case measure => omega
                    case rel => exact ⟨i + 1, by omega, by omega, by go_num, HNN, HIA⟩
              · have him' : ¬ (i : Int) < (m : Int) := by omega
                have HF : Hid (cs = 0) := HFZ.out (HNL.out.fin (by rw [HM.out]; omega))
                go_wp2_with fail
                go_ret
                exact ⟨by rw [HF.out]; rfl, HI.out.bel⟩
    · have hab : (ass != 0) = true := by simpa using ha
      have HF : Hid (cs = ass) := by show _ = _; rw [HZS.out]; exact HSA.out ha
      clear ha
      go_wp2_with fail
      go_ret
      exact ⟨by rw [HF.out]; rfl, HB2.out⟩
  · have hzb : (cg != 0) = true := by simpa using hz
    have HF := Lib.hid (HSG.out hz)
    clear hz
    go_wp2_with fail
    go_ret
    exact ⟨by rw [HF.out]; rfl, HB1.out⟩
end At
end Go.Proofs.YtfocooehnmpndaaGreat
