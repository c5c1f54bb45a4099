/- parlref4.Attributes$1: the visit of a tree makes its world. -/
import Derived.Test.YtfocooehnmpndaaGreatJDemandSomeRow12
import Derived.Test.YtfocooehnmpndaaGreatJDemandSomeRow9
import Derived.Test.YtfocooehnmpndaaGreatJDemandSomeRow13
import Derived.Deep.CutBlock
namespace Go.Proofs.YtfocooehnmpndaaGreat
open Go.RowKit
namespace Dm
theorem elTreeW : ElemT Tryz.prog 29 31 3 40 := ElemT.mk' (z := .agg #[.int .i64 0, .int .i64 0, .slice none 0 0]) (by kernel_rfl) (by kernel_rfl) rfl (by decide)
theorem elInstW : ElemT Tryz.prog 62 59 2 16 := ElemT.mk' (z := .agg #[.int .i64 0, .int .i64 0]) (by kernel_rfl) (by kernel_rfl) rfl (by decide)
theorem attrsAt_le (g : Gram) (s : At.Sys) (L : List Nd) (n : Nat) : (attrsAt g s L n).length ≤ s.attrs.length := by
  unfold attrsAt attrsOf
  split
  · exact Nat.zero_le _
  · exact Nat.le_trans (List.length_filter_le _ _) (by rw [List.length_range]; exact Nat.le_refl _)
theorem allI_le (g : Gram) (s : At.Sys) (L : List Nd) : (allI g s L).length ≤ L.length * s.attrs.length := by
  unfold allI
  have h : ∀ n, ((List.range n).flatMap fun n => (attrsAt g s L n).map fun a => (n, a)).length ≤ n * s.attrs.length := fun n => by
    induction n with
    | zero => simp
    | succ n ih =>
      rw [List.range_succ, List.flatMap_append, List.length_append, Nat.succ_mul]
      have h2 := attrsAt_le g s L n
      rw [List.flatMap_cons, List.flatMap_nil, List.append_nil, List.length_map]
      omega
  exact h _
theorem allI_app (g : Gram) (s : At.Sys) (L : List Nd) (x : Nd) : allI g s (L ++ [x]) = allI g s L ++ (attrsAt g s (L ++ [x]) L.length).map fun a => (L.length, a) := by
  unfold allI
  rw [List.length_append, show L.length + [x].length = L.length + 1 from rfl, List.range_succ, List.flatMap_append]
  congr 1
  · have h : ∀ (l : List Nat), (∀ n ∈ l, n < L.length) → (l.flatMap fun n => (attrsAt g s (L ++ [x]) n).map fun a => (n, a)) = l.flatMap fun n => (attrsAt g s L n).map fun a => (n, a) := by
      intro l
      induction l with
      | nil => intro _; rfl
      | cons n l ih =>
        intro hl
        rw [List.flatMap_cons, List.flatMap_cons, ih (fun m hm => hl m (List.mem_cons_of_mem _ hm))]
        congr 1
        unfold attrsAt
        rw [ndAt_app, if_pos (hl n List.mem_cons_self)]
    exact h _ fun n hn => List.mem_range.1 hn
  · simp
theorem allI_addK (g : Gram) (s : At.Sys) {L : List Nd} {p n : Nat} (hp : p < L.length) : allI g s (addK L (p : Int) n) = allI g s L := by
  unfold allI
  rw [addK_len]
  have h : ∀ (l : List Nat), (l.flatMap fun n_1 => (attrsAt g s (addK L (p : Int) n) n_1).map fun a => (n_1, a)) = l.flatMap fun n => (attrsAt g s L n).map fun a => (n, a) := by
    intro l
    induction l with
    | nil => rfl
    | cons k l ih =>
      rw [List.flatMap_cons, List.flatMap_cons, ih]
      congr 1
      unfold attrsAt
      rw [ndAt_addK hp]
      by_cases e : k = p
      · subst e; simp
      · simp [e]
  exact h _
structure EnW (g : Gram) (s : At.Sys) (B wb xb sx gx fb : Nat) (ra aa : Option Addr) (rc ac : Nat) (vq : Value) (w : World) : Prop where
  bx : w.heap[xb]? = some (.cells #[.pointer (some ⟨wb, 0, none⟩)] 44 (0, 0))
  bs : w.heap[sx]? = some (.cells #[.slice aa s.attrs.length ac, vq] 28 (0, 0))
  bg : w.heap[gx]? = some (.cells #[.int .i64 g.terms, .int .i64 g.nons, .int .i64 g.start, .slice ra g.rules.length rc] 24 (0, 0))
  bf : w.heap[fb]? = some (.cells #[.func (.func 35) #[] #[.pointer (some ⟨xb, 0, none⟩), .pointer (some ⟨sx, 0, none⟩), .pointer (some ⟨gx, 0, none⟩), .pointer (some ⟨fb, 0, none⟩)]] 96 (0, 0))
  rules : Rd (fun k => k < B ∧ k ≠ wb) w (.sl (g.rules.map Rule.d)) [.slice ra g.rules.length rc]
  attrs : Rd (fun k => k < B ∧ k ≠ wb) w (.sl (s.attrs.map At.Attr.d)) [.slice aa s.attrs.length ac]
theorem EnW.stq {g : Gram} {s : At.Sys} {B wb xb sx gx fb : Nat} {ra aa : Option Addr} {rc ac : Nat} {vq : Value} {w w' : World} {O O' : Nat → Prop} (h : EnW g s B wb xb sx gx fb ra aa rc ac vq w) (hs : Stq O O' w w') (hO : ∀ k, O k → k = wb ∨ B ≤ k) (hlt : xb < B ∧ sx < B ∧ gx < B ∧ fb < B) (hne : xb ≠ wb ∧ sx ≠ wb ∧ gx ≠ wb ∧ fb ≠ wb) : EnW g s B wb xb sx gx fb ra aa rc ac vq w' := by
  have hn : ∀ k, k < B → k ≠ wb → ¬ O k := fun k h1 h2 h3 => by rcases hO k h3 with h | h <;> omega
  have hk : ∀ k, (k < B ∧ k ≠ wb) → k < w.heap.size → (k < B ∧ k ≠ wb) ∧ w'.heap[k]? = w.heap[k]? := fun k h1 h2 => ⟨h1, hs.same k h2 (hn k h1.1 h1.2)⟩
  exact ⟨(hs.box h.bx (hn _ hlt.1 hne.1)).1, (hs.box h.bs (hn _ hlt.2.1 hne.2.1)).1, (hs.box h.bg (hn _ hlt.2.2.1 hne.2.2.1)).1, (hs.box h.bf (hn _ hlt.2.2.2 hne.2.2.2)).1, h.rules.keep hk, h.attrs.keep hk⟩
def AddPost (g : Gram) (s : At.Sys) (B wb : Nat) (hd : Hw) (n : Nat) (L : List Nd) (O : Nat → Prop) (W : World) (e : Ending) (w' : World) : Prop := e = .returned (.int .i64 n) ∧ ∃ O', WI B wb hd L (allI g s L) O' w' ∧ Stq O O' W w'
theorem okW_all : ∀ (b9 c1 b16 c2 b23 c3 b29 : Bool), okW b9 c1 b16 c2 b23 c3 b29 true = true → b9 = true ∧ c1 = true ∧ b16 = true ∧ c2 = true ∧ b23 = true ∧ c3 = true ∧ b29 = true := by
  intro b9 c1 b16 c2 b23 c3 b29
  unfold okW
  cases b9 <;> cases c1 <;> cases b16 <;> cases c2 <;> cases b23 <;> cases c3 <;> cases b29 <;> simp
theorem attrsTo_all (al : List At.Attr) (non : Int) : attrsTo al non al.length = attrsOf al non := rfl
theorem leaf_kids {g : Gram} {T t : Tree} (hv : validT g T = true) (ht : t ∈ nodes T) (hr : t.rule = -1) : t.kids = [] := by
  have h5 := List.all_eq_true.1 hv t ht
  unfold nodeOk at h5
  rw [if_pos hr] at h5
  simp at h5
  exact h5.2.2
theorem Stq.to {O O' O2 : Nat → Prop} {w w' : World} (h : Stq O O' w w') (hO : ∀ k, O2 k → O' k) : Stq O O2 w w' := ⟨h.os, h.tape, h.output, h.size, h.same, fun k hk => h.own k (hO k hk)⟩
theorem WR.keep {B wb : Nat} {hd : Hw} {L : List Nd} {al : List Inst} {vn vk va : Value} {iv : Nat → Value} {tr : Nat → Value × Value} {w w' : World} (h : WR B wb hd L al vn vk va iv tr w) (hb : Below w.heap.size w w') : WR B wb hd L al vn vk va iv tr w' := ⟨h.w4.keep hb, bx_keep h.hdr hb, h.nil, h.lt⟩
abbrev WaI (B wb : Nat) (hd : Hw) (O : Nat → Prop) (w0 : World) (L : List Nd) (al : List Inst) (w : World) : Prop := WaX B wb hd L al O w0 w
theorem bx_cells11 {w : World} {b : Nat} {x0 x1 x2 x3 x4 x5 x6 x7 x8 x9 x10 : Value} {T : TypeId} (h : w.heap[b]? = some (.cells #[x0, x1, x2, x3, x4, x5, x6, x7, x8, x9, x10] T (0, 0))) :
    w.cell? ⟨b, 0 + 6, none⟩ = some x6 ∧ w.cell? ⟨b, 0 + 7, none⟩ = some x7 ∧ w.cell? ⟨b, 0 + 8, none⟩ = some x8 ∧ w.cell? ⟨b, 0 + 9, none⟩ = some x9 ∧ w.cell? ⟨b, 0 + 10, none⟩ = some x10 := by
  refine ⟨?_, ?_, ?_, ?_, ?_⟩ <;> simp [World.cell?, h]
def actW (r tm up pos : Int) (av : Option Addr) (nk cv xb sx gx fb bt wb n : Nat) (na ua pa ka : Option Addr) (nc uc pc kc : Nat) (x31 x32 x38 x39 x45 x46 x51 x52 : Value) : Act := ⟨#[.agg #[.int .i64 r, .int .i64 tm, .slice av nk cv], .int .i64 up, .int .i64 pos, .pointer (some ⟨xb, 0, none⟩), .pointer (some ⟨sx, 0, none⟩), .pointer (some ⟨gx, 0, none⟩), .pointer (some ⟨fb, 0, none⟩), .pointer (some ⟨bt, 0, none⟩), undef, undef, .int .i64 0, .int .i64 (n : Int), undef, undef, undef, undef, undef, .pointer (some ⟨wb, 0, none⟩), .pointer (some ⟨wb, 0, none⟩), .pointer (some ⟨wb, 6, none⟩), .slice na n nc, .int .i64 (n : Int), .pointer (some ⟨wb, 0, none⟩), .pointer (some ⟨wb, 0, none⟩), .pointer (some ⟨wb, 0, none⟩), .pointer (some ⟨wb, 0, none⟩), .pointer (some ⟨wb, 0, none⟩), .pointer (some ⟨wb, 0, none⟩), .pointer (some ⟨wb, 0 + 6, none⟩), .slice na n nc, .agg #[.int .i64 r, .int .i64 tm, .slice av nk cv], x31, x32, .pointer (some ⟨wb, 0, none⟩), .pointer (some ⟨wb, 0, none⟩), .pointer (some ⟨wb, 0 + 7, none⟩), .slice ua n uc, .int .i64 up, x38, x39, .pointer (some ⟨wb, 0, none⟩), .pointer (some ⟨wb, 0, none⟩), .pointer (some ⟨wb, 0 + 8, none⟩), .slice pa n pc, .int .i64 pos, x45, x46, .pointer (some ⟨wb, 0, none⟩), .pointer (some ⟨wb, 0, none⟩), .pointer (some ⟨wb, 0 + 9, none⟩), .slice ka n kc, x51, x52, undef, undef, undef, undef, undef, undef, undef, undef, undef, undef, undef, undef, undef, undef, undef, undef, undef, undef, undef, undef, undef, undef, undef, undef, undef, undef, undef, undef, undef, undef, undef, undef, undef, undef, undef, undef, undef, undef, undef, undef, undef, undef, undef, undef, undef, undef, undef, undef, undef, undef, undef, undef, undef, undef, undef, undef, undef, undef, undef, undef, undef, undef, undef, undef, undef, undef, undef, undef, undef, undef, undef, undef, undef, undef, undef], []⟩
-- DEFS
set_option maxHeartbeats 16000000 in
set_option maxRecDepth 100000 in
theorem addE (g : Gram) (s : At.Sys) (T : Tree) (hv : validT g T = true) (hal : s.attrs.length ≤ 2000000) (B wb xb sx gx fb : Nat) (hd : Hw) (hlt : xb < B ∧ sx < B ∧ gx < B ∧ fb < B) (hne : xb ≠ wb ∧ sx ≠ wb ∧ gx ≠ wb ∧ fb ≠ wb) (ra aa : Option Addr) (rc ac : Nat) (vq : Value) :
    ∀ (m : Nat) (t : Tree) (up pos : Int) (v : Value) (L : List Nd) (O : Nat → Prop) (W : World), tsz t ≤ m → t ∈ nodes T → L.length + tsz t ≤ 1000000 → WI B wb hd L (allI g s L) O W → Rd (fun k => k < B ∧ k ≠ wb) W (.sl (t.kids.map Tree.d)) [v] → EnW g s B wb xb sx gx fb ra aa rc ac vq W →
    Calls Tryz.prog 35 #[.agg #[.int .i64 t.rule, .int .i64 t.term, v], .int .i64 up, .int .i64 pos, .pointer (some ⟨xb, 0, none⟩), .pointer (some ⟨sx, 0, none⟩), .pointer (some ⟨gx, 0, none⟩), .pointer (some ⟨fb, 0, none⟩)] W (AddPost g s B wb hd L.length (L ++ numT t L.length up pos) O W) := by
  intro m
  induction m with
  | zero => intro t up pos v L O W hm; rw [tsz_eq] at hm; omega
  | succ m IH =>
  intro t up pos v L O W hm htn hsz hW hk hE
  obtain ⟨av, nk, cv, rfl⟩ := treeBox hk.any
  have HK := Lib.hid hk
  have HNK : Hid (t.kids.length = nk) := by show _ = _; have := hk.bounds.1; simpa using this.symm
  have hcv : nk ≤ cv ∧ cv ≤ 9223372036854775807 := by have := hk.bounds; unfold maxLen at this; omega
  have HM : Hid (tsz t ≤ m + 1) := hm
  have HSZ : Hid (L.length + tsz t ≤ 1000000) := hsz
  have HIH := Lib.hid IH
  have HTN : Hid (t ∈ nodes T) := htn
  have HTS : Hid (tsz t = 1 + tszL t.kids) := tsz_eq t
  have HKIDS : Hid (∀ i (h : i < t.kids.length), tszL (t.kids.take i) + tsz t.kids[i] ≤ tszL t.kids) := fun i h => tszL_take h
  have HV := Lib.hid hv
  have HALB := Lib.hid hal
  have HLTB := Lib.hid hlt
  have HNEB := Lib.hid hne
  have HOW : Hid (∀ k, O k → (k = wb ∨ B ≤ k) ∧ k < W.heap.size) := fun k hk => hW.own hk
  have HE := Lib.hid hE
  obtain ⟨r, HR⟩ := nameIt t.rule
  obtain ⟨tm, HTM⟩ := nameIt t.term
  obtain ⟨PST, HP⟩ := nameIt (AddPost g s B wb hd L.length (L ++ numT t L.length up pos) O W)
  have HPN := HP
  rw [HP.out, HR.out, HTM.out]
  clear HP
  obtain ⟨w0, HW0⟩ := nameIt (W.alloc (.cells #[.int .i64 r, .int .i64 tm, .slice av nk cv] 31))
  have HB0 : Hid (Below W.heap.size W w0) := by rw [← HW0.out]; exact (Below.refl _ _).alloc (Nat.le_refl _) _
  obtain ⟨bt, HBT⟩ := nameIt W.heap.size
  have X0 : Hid (w0.heap[bt]? = some (.cells #[.int .i64 r, .int .i64 tm, .slice av nk cv] 31 (0, 0))) := by rw [← HW0.out, ← HBT.out]; exact bx_new _ _ _ rfl
  have HS0 : Hid (Stq O O W w0) := Stq.below HB0.out
  have HTO : Hid (¬ O bt) := fun h => by have h1 := (HOW.out bt h).2; rw [HBT.out] at h1; omega
  have HE0 : Hid (EnW g s B wb xb sx gx fb ra aa rc ac vq w0) := hE.stq HS0.out (fun k h => (HOW.out k h).1) hlt hne
  obtain ⟨vn, vk, va, iv, tr, hWR, hO⟩ := hW.keep HB0.out
  have HO := Lib.hid hO
  have HWR := Lib.hid hWR
  obtain ⟨n, HN⟩ := nameIt L.length
  have hn : n + 1 ≤ 1000000 := by rw [← HN.out]; have := tsz_eq t; omega
  obtain ⟨na, nc, rfl, hnc1, hnc2⟩ := own_len hWR.w4.nod
  obtain ⟨ka, kc, rfl, hkc1, hkc2⟩ := own_len hWR.w4.out
  obtain ⟨la, lc, rfl, hlc1, hlc2⟩ := own_len hWR.w4.all
  have hup := hWR.w4.int 0 (by omega)
  have hpo := hWR.w4.int 1 (by omega)
  have hil0 : ilW L 0 = L.map Nd.up := rfl
  have hil1 : ilW L 1 = L.map Nd.pos := rfl
  rw [hil0, List.length_map] at hup
  rw [hil1, List.length_map] at hpo
  obtain ⟨ua, uc, hiv0, huc1, huc2⟩ := own_len hup
  obtain ⟨pa, pc, hiv1, hpc1, hpc2⟩ := own_len hpo
  unfold maxLen at hnc2 hkc2 hlc2 huc2 hpc2
  have HIV0 := Lib.hid hiv0
  have HIV1 := Lib.hid hiv1
  rw [HN.out] at hnc1 hkc1 huc1 hpc1 HIV0 HIV1
  have HDR : Hid (w0.heap[wb]? = some (.cells #[hd.c0, hd.c1, hd.c2, hd.c3, hd.c4, hd.c5, .slice na n nc, .slice ua n uc, .slice pa n pc, .slice ka n kc, .slice la (allI g s L).length lc] 64 (0, 0))) := by
    have h := hWR.hdr
    rw [HIV0.out, HIV1.out, HN.out] at h
    exact h
  obtain ⟨z6, z7, z8, z9, z10⟩ := bx_cells11 HDR.out
  have y0 := bx_cells1 HE0.out.bx
  obtain ⟨x0, x1, x2⟩ := bx_cells3 X0.out
  have hl0 : bt < w0.heap.size := (Array.getElem?_eq_some_iff.1 X0.out).1
  clear hk hm hsz IH htn hv hal hlt hne hE hW hO hWR hup hpo hil0 hil1 hiv0 hiv1
  go_enter Tryz.func35, Tryz.ntmps35
  go_upto_region 1 with fail
  rw [HW0.out]
  try rw [HBT.out]
  clear HW0
  go_upto_region 2 with fail
  have HCS : Hid (∀ (l : Array Bool) w', Below w0.heap.size w0 w' → (fun (l : Array Bool) (w' : World) => (w'.cell? ⟨xb, 0, none⟩ = some (.pointer (some ⟨wb, 0, none⟩)) ∧ w'.cell? ⟨bt, 0, none⟩ = some (.int .i64 r) ∧ w'.cell? ⟨bt, 0 + 1, none⟩ = some (.int .i64 tm) ∧ w'.cell? ⟨bt, 0 + 2, none⟩ = some (.slice av nk cv)) ∧ (l.getD 33 false = false → w'.cell? ⟨wb, 0 + 6, none⟩ = some (.slice na n nc) ∧ w'.cell? ⟨wb, 0 + 7, none⟩ = some (.slice ua n uc) ∧ w'.cell? ⟨wb, 0 + 8, none⟩ = some (.slice pa n pc) ∧ w'.cell? ⟨wb, 0 + 9, none⟩ = some (.slice ka n kc))) l w') := fun l w' hb =>
    ⟨⟨(hb.cell (lt_of_cell y0)).trans y0, (hb.cell (lt_of_cell x0)).trans x0, (hb.cell (lt_of_cell x1)).trans x1, (hb.cell (lt_of_cell x2)).trans x2⟩, fun _ => ⟨(hb.cell (lt_of_cell z6)).trans z6, (hb.cell (lt_of_cell z7)).trans z7, (hb.cell (lt_of_cell z8)).trans z8, (hb.cell (lt_of_cell z9)).trans z9⟩⟩
  have HBR : Hid (Below w0.heap.size w0 w0.drew) := (Below.refl _ _).drew
  have HNB : Hid (∀ q, OwW (.slice na n nc) (.slice ka n kc) (.slice la (allI g s L).length lc) (n + 2) iv q → O q ∧ B ≤ q) := fun q hq => by
    have h4 := HWR.out.w4
    rw [HN.out] at h4
    exact ⟨(HO.out q).2 (.inr (by rw [HN.out]; exact hq)), (h4.own hq).1⟩
  have HFR : Hid (∀ (w' : World) (O' : Nat → Prop), Stq (OwW (.slice na n nc) (.slice ka n kc) (.slice la (allI g s L).length lc) (n + 2) iv) O' w0 w' → w'.heap[xb]? = some (.cells #[.pointer (some ⟨wb, 0, none⟩)] 44 (0, 0)) ∧ w'.heap[bt]? = some (.cells #[.int .i64 r, .int .i64 tm, .slice av nk cv] 31 (0, 0)) ∧ w'.heap[wb]? = some (.cells #[hd.c0, hd.c1, hd.c2, hd.c3, hd.c4, hd.c5, .slice na n nc, .slice ua n uc, .slice pa n pc, .slice ka n kc, .slice la (allI g s L).length lc] 64 (0, 0))) := fun w' O' hs =>
    ⟨(hs.box HE0.out.bx (fun e => by have h1 := (HNB.out _ e).2; have h2 := HLTB.out.1; omega)).1, (hs.box X0.out (fun e => HTO.out (HNB.out _ e).1)).1, (hs.box HDR.out (fun e => by have h1 := (HNB.out _ e).2; have h2 := HWR.out.lt; omega)).1⟩
  have HSJ : Hid (∀ (w' : World) (O' : Nat → Prop), Stq (OwW (.slice na n nc) (.slice ka n kc) (.slice la (allI g s L).length lc) (n + 2) iv) O' w0 w' → ∀ l : Array Bool, (fun (l : Array Bool) (w' : World) => (w'.cell? ⟨xb, 0, none⟩ = some (.pointer (some ⟨wb, 0, none⟩)) ∧ w'.cell? ⟨bt, 0, none⟩ = some (.int .i64 r) ∧ w'.cell? ⟨bt, 0 + 1, none⟩ = some (.int .i64 tm) ∧ w'.cell? ⟨bt, 0 + 2, none⟩ = some (.slice av nk cv)) ∧ (l.getD 33 false = false → w'.cell? ⟨wb, 0 + 6, none⟩ = some (.slice na n nc) ∧ w'.cell? ⟨wb, 0 + 7, none⟩ = some (.slice ua n uc) ∧ w'.cell? ⟨wb, 0 + 8, none⟩ = some (.slice pa n pc) ∧ w'.cell? ⟨wb, 0 + 9, none⟩ = some (.slice ka n kc))) l w') := fun w' O' hs l => by
    obtain ⟨h1, h2, h3⟩ := HFR.out w' O' hs
    obtain ⟨z6, z7, z8, z9, -⟩ := bx_cells11 h3
    obtain ⟨x0, x1, x2⟩ := bx_cells3 h2
    exact ⟨⟨bx_cells1 h1, x0, x1, x2⟩, fun _ => ⟨z6, z7, z8, z9⟩⟩
  have HJ0 : Hid (JF (KW.mk B (trC L tr) n ((List.range n).map fun j => iv (j + 2)) (allI g s L) (.slice la (allI g s L).length lc) iv L up pos #[.int .i64 r, .int .i64 tm, .slice av nk cv] w0 (OwW (.slice na n nc) (.slice ka n kc) (.slice la (allI g s L).length lc) (n + 2) iv) (.slice na n nc) (.slice ua n uc) (.slice pa n pc) (.slice ka n kc)) false false false false false false false false (.slice na n nc) (.slice ka n kc) iv undef undef undef undef undef undef undef undef 0 0 0 0 w0.drew) := by
    have h4 := HWR.out.w4
    rw [HN.out] at h4
    exact ⟨rfl, h4.keep HBR.out, Stq.below HBR.out, fun e => (by cases e), fun e => (by cases e), fun e => (by cases e), fun e => (by cases e), fun _ => rfl, fun e => (by cases e), fun _ => HIV0.out, fun e => (by cases e), fun _ => HIV1.out, fun e => (by cases e), fun _ => rfl, fun e => (by cases e), fun _ _ => rfl⟩
  have HPN0 : Hid (L.map Nd.up = L.map Nd.up ∧ (L.map Nd.up).length = n ∧ (L.map Nd.pos).length = n) := ⟨rfl, by rw [List.length_map]; exact HN.out, by rw [List.length_map]; exact HN.out⟩
  clear y0 x0 x1 x2 z6 z7 z8 z9 z10
  refine wp_region_V (S := (fun (l : Array Bool) (w' : World) => (w'.cell? ⟨xb, 0, none⟩ = some (.pointer (some ⟨wb, 0, none⟩)) ∧ w'.cell? ⟨bt, 0, none⟩ = some (.int .i64 r) ∧ w'.cell? ⟨bt, 0 + 1, none⟩ = some (.int .i64 tm) ∧ w'.cell? ⟨bt, 0 + 2, none⟩ = some (.slice av nk cv)) ∧ (l.getD 33 false = false → w'.cell? ⟨wb, 0 + 6, none⟩ = some (.slice na n nc) ∧ w'.cell? ⟨wb, 0 + 7, none⟩ = some (.slice ua n uc) ∧ w'.cell? ⟨wb, 0 + 8, none⟩ = some (.slice pa n pc) ∧ w'.cell? ⟨wb, 0 + 9, none⟩ = some (.slice ka n kc)))) (by kernel_rfl) (fun hcl => ?_)
  refine wpV_take (i := 0) (v := .pointer (some ⟨wb, 0, none⟩)) (T := (fun w' : World => w'.cell? ⟨xb, 0, none⟩ = some (.pointer (some ⟨wb, 0, none⟩)) ∧ w'.cell? ⟨bt, 0, none⟩ = some (.int .i64 r) ∧ w'.cell? ⟨bt, 0 + 1, none⟩ = some (.int .i64 tm) ∧ w'.cell? ⟨bt, 0 + 2, none⟩ = some (.slice av nk cv))) rfl hcl (by kernel_rfl) (by kernel_rfl) (by kernel_rfl) (fun _ _ _ h => h) (fun l w h => ⟨h.1, fun h33 => h.2 (by rw [getD_set_ne false (by decide)]; exact h33)⟩) (fun l w _ _ h => h.1) (Or.inl ⟨by rfl, fun w' hw' => ?_⟩) (HCS.out _ _ HBR.out) (fun hcl => ?_)
  · obtain ⟨h0, h1, h2, h3⟩ := hw'
    go_simp
  try simp only [Act.put, List.setIfInBounds_toArray, List.set_cons_zero, List.set_cons_succ]
  refine wpV_take (i := 1) (v := .pointer (some ⟨wb, 0, none⟩)) (T := (fun w' : World => w'.cell? ⟨xb, 0, none⟩ = some (.pointer (some ⟨wb, 0, none⟩)) ∧ w'.cell? ⟨bt, 0, none⟩ = some (.int .i64 r) ∧ w'.cell? ⟨bt, 0 + 1, none⟩ = some (.int .i64 tm) ∧ w'.cell? ⟨bt, 0 + 2, none⟩ = some (.slice av nk cv))) rfl hcl (by kernel_rfl) (by kernel_rfl) (by kernel_rfl) (fun _ _ _ h => h) (fun l w h => ⟨h.1, fun h33 => h.2 (by rw [getD_set_ne false (by decide)]; exact h33)⟩) (fun l w _ _ h => h.1) (Or.inl ⟨by rfl, fun w' hw' => ?_⟩) (HCS.out _ _ HBR.out) (fun hcl => ?_)
  · obtain ⟨h0, h1, h2, h3⟩ := hw'
    go_simp
  try simp only [Act.put, List.setIfInBounds_toArray, List.set_cons_zero, List.set_cons_succ]
  refine wpV_take (i := 2) (v := .pointer (some ⟨wb, 0, none⟩)) (T := (fun w' : World => w'.cell? ⟨xb, 0, none⟩ = some (.pointer (some ⟨wb, 0, none⟩)) ∧ w'.cell? ⟨bt, 0, none⟩ = some (.int .i64 r) ∧ w'.cell? ⟨bt, 0 + 1, none⟩ = some (.int .i64 tm) ∧ w'.cell? ⟨bt, 0 + 2, none⟩ = some (.slice av nk cv))) rfl hcl (by kernel_rfl) (by kernel_rfl) (by kernel_rfl) (fun _ _ _ h => h) (fun l w h => ⟨h.1, fun h33 => h.2 (by rw [getD_set_ne false (by decide)]; exact h33)⟩) (fun l w _ _ h => h.1) (Or.inl ⟨by rfl, fun w' hw' => ?_⟩) (HCS.out _ _ HBR.out) (fun hcl => ?_)
  · obtain ⟨h0, h1, h2, h3⟩ := hw'
    go_simp
  try simp only [Act.put, List.setIfInBounds_toArray, List.set_cons_zero, List.set_cons_succ]
  refine wpV_take (i := 3) (v := .pointer (some ⟨wb, 0, none⟩)) (T := (fun w' : World => w'.cell? ⟨xb, 0, none⟩ = some (.pointer (some ⟨wb, 0, none⟩)) ∧ w'.cell? ⟨bt, 0, none⟩ = some (.int .i64 r) ∧ w'.cell? ⟨bt, 0 + 1, none⟩ = some (.int .i64 tm) ∧ w'.cell? ⟨bt, 0 + 2, none⟩ = some (.slice av nk cv))) rfl hcl (by kernel_rfl) (by kernel_rfl) (by kernel_rfl) (fun _ _ _ h => h) (fun l w h => ⟨h.1, fun h33 => h.2 (by rw [getD_set_ne false (by decide)]; exact h33)⟩) (fun l w _ _ h => h.1) (Or.inl ⟨by rfl, fun w' hw' => ?_⟩) (HCS.out _ _ HBR.out) (fun hcl => ?_)
  · obtain ⟨h0, h1, h2, h3⟩ := hw'
    go_simp
  try simp only [Act.put, List.setIfInBounds_toArray, List.set_cons_zero, List.set_cons_succ]
  refine wpV_take (i := 4) (v := .pointer (some ⟨wb, 0, none⟩)) (T := (fun w' : World => w'.cell? ⟨xb, 0, none⟩ = some (.pointer (some ⟨wb, 0, none⟩)) ∧ w'.cell? ⟨bt, 0, none⟩ = some (.int .i64 r) ∧ w'.cell? ⟨bt, 0 + 1, none⟩ = some (.int .i64 tm) ∧ w'.cell? ⟨bt, 0 + 2, none⟩ = some (.slice av nk cv))) rfl hcl (by kernel_rfl) (by kernel_rfl) (by kernel_rfl) (fun _ _ _ h => h) (fun l w h => ⟨h.1, fun h33 => h.2 (by rw [getD_set_ne false (by decide)]; exact h33)⟩) (fun l w _ _ h => h.1) (Or.inl ⟨by rfl, fun w' hw' => ?_⟩) (HCS.out _ _ HBR.out) (fun hcl => ?_)
  · obtain ⟨h0, h1, h2, h3⟩ := hw'
    go_simp
  try simp only [Act.put, List.setIfInBounds_toArray, List.set_cons_zero, List.set_cons_succ]
  refine wpV_take (i := 5) (v := .pointer (some ⟨wb, 0, none⟩)) (T := (fun _ : World => True)) rfl hcl (by kernel_rfl) (by kernel_rfl) (by kernel_rfl) (fun _ _ _ h => h) (fun l w h => ⟨h.1, fun h33 => h.2 (by rw [getD_set_ne false (by decide)]; exact h33)⟩) (fun _ _ _ _ _ => trivial) (Or.inl ⟨by rfl, fun w' hw' => ?_⟩) (HCS.out _ _ HBR.out) (fun hcl => ?_)
  · clear hw'
    go_simp
  try simp only [Act.put, List.setIfInBounds_toArray, List.set_cons_zero, List.set_cons_succ]
  refine wpV_take (i := 6) (v := .pointer (some ⟨wb, 0 + 6, none⟩)) (T := (fun _ : World => True)) rfl hcl (by kernel_rfl) (by kernel_rfl) (by kernel_rfl) (fun _ _ _ h => h) (fun l w h => ⟨h.1, fun h33 => h.2 (by rw [getD_set_ne false (by decide)]; exact h33)⟩) (fun _ _ _ _ _ => trivial) (Or.inl ⟨by rfl, fun w' hw' => ?_⟩) (HCS.out _ _ HBR.out) (fun hcl => ?_)
  · clear hw'
    go_simp
  try simp only [Act.put, List.setIfInBounds_toArray, List.set_cons_zero, List.set_cons_succ]
  refine wpV_take (i := 7) (v := .slice na n nc) (T := (fun w' : World => w'.cell? ⟨wb, 0 + 6, none⟩ = some (.slice na n nc) ∧ w'.cell? ⟨wb, 0 + 7, none⟩ = some (.slice ua n uc) ∧ w'.cell? ⟨wb, 0 + 8, none⟩ = some (.slice pa n pc) ∧ w'.cell? ⟨wb, 0 + 9, none⟩ = some (.slice ka n kc))) rfl hcl (by kernel_rfl) (by kernel_rfl) (by kernel_rfl) (fun _ _ _ h => h) (fun l w h => ⟨h.1, fun h33 => h.2 (by rw [getD_set_ne false (by decide)]; exact h33)⟩) (fun l w hc hu h => h.2 (waits_un hc (by kernel_rfl) hu)) (Or.inl ⟨by rfl, fun w' hw' => ?_⟩) (HCS.out _ _ HBR.out) (fun hcl => ?_)
  · obtain ⟨h0, h1, h2, h3⟩ := hw'
    go_simp
  try simp only [Act.put, List.setIfInBounds_toArray, List.set_cons_zero, List.set_cons_succ]
  refine wpV_take (i := 8) (v := .agg #[.int .i64 r, .int .i64 tm, .slice av nk cv]) (T := (fun w' : World => w'.cell? ⟨xb, 0, none⟩ = some (.pointer (some ⟨wb, 0, none⟩)) ∧ w'.cell? ⟨bt, 0, none⟩ = some (.int .i64 r) ∧ w'.cell? ⟨bt, 0 + 1, none⟩ = some (.int .i64 tm) ∧ w'.cell? ⟨bt, 0 + 2, none⟩ = some (.slice av nk cv))) rfl hcl (by kernel_rfl) (by kernel_rfl) (by kernel_rfl) (fun _ _ _ h => h) (fun l w h => ⟨h.1, fun h33 => h.2 (by rw [getD_set_ne false (by decide)]; exact h33)⟩) (fun l w _ _ h => h.1) (Or.inl ⟨by rfl, fun w' hw' => ?_⟩) (HCS.out _ _ HBR.out) (fun hcl => ?_)
  · obtain ⟨h0, h1, h2, h3⟩ := hw'
    go_simp
  try simp only [Act.put, List.setIfInBounds_toArray, List.set_cons_zero, List.set_cons_succ]
  refine wpV_take (i := 11) (v := .pointer (some ⟨wb, 0, none⟩)) (T := (fun w' : World => w'.cell? ⟨xb, 0, none⟩ = some (.pointer (some ⟨wb, 0, none⟩)) ∧ w'.cell? ⟨bt, 0, none⟩ = some (.int .i64 r) ∧ w'.cell? ⟨bt, 0 + 1, none⟩ = some (.int .i64 tm) ∧ w'.cell? ⟨bt, 0 + 2, none⟩ = some (.slice av nk cv))) rfl hcl (by kernel_rfl) (by kernel_rfl) (by kernel_rfl) (fun _ _ _ h => h) (fun l w h => ⟨h.1, fun h33 => h.2 (by rw [getD_set_ne false (by decide)]; exact h33)⟩) (fun l w _ _ h => h.1) (Or.inl ⟨by rfl, fun w' hw' => ?_⟩) (HCS.out _ _ HBR.out) (fun hcl => ?_)
  · obtain ⟨h0, h1, h2, h3⟩ := hw'
    go_simp
  try simp only [Act.put, List.setIfInBounds_toArray, List.set_cons_zero, List.set_cons_succ]
  refine wpV_take (i := 12) (v := .pointer (some ⟨wb, 0, none⟩)) (T := (fun _ : World => True)) rfl hcl (by kernel_rfl) (by kernel_rfl) (by kernel_rfl) (fun _ _ _ h => h) (fun l w h => ⟨h.1, fun h33 => h.2 (by rw [getD_set_ne false (by decide)]; exact h33)⟩) (fun _ _ _ _ _ => trivial) (Or.inl ⟨by rfl, fun w' hw' => ?_⟩) (HCS.out _ _ HBR.out) (fun hcl => ?_)
  · clear hw'
    go_simp
  try simp only [Act.put, List.setIfInBounds_toArray, List.set_cons_zero, List.set_cons_succ]
  refine wpV_take (i := 13) (v := .pointer (some ⟨wb, 0 + 7, none⟩)) (T := (fun _ : World => True)) rfl hcl (by kernel_rfl) (by kernel_rfl) (by kernel_rfl) (fun _ _ _ h => h) (fun l w h => ⟨h.1, fun h33 => h.2 (by rw [getD_set_ne false (by decide)]; exact h33)⟩) (fun _ _ _ _ _ => trivial) (Or.inl ⟨by rfl, fun w' hw' => ?_⟩) (HCS.out _ _ HBR.out) (fun hcl => ?_)
  · clear hw'
    go_simp
  try simp only [Act.put, List.setIfInBounds_toArray, List.set_cons_zero, List.set_cons_succ]
  refine wpV_take (i := 14) (v := .slice ua n uc) (T := (fun w' : World => w'.cell? ⟨wb, 0 + 6, none⟩ = some (.slice na n nc) ∧ w'.cell? ⟨wb, 0 + 7, none⟩ = some (.slice ua n uc) ∧ w'.cell? ⟨wb, 0 + 8, none⟩ = some (.slice pa n pc) ∧ w'.cell? ⟨wb, 0 + 9, none⟩ = some (.slice ka n kc))) rfl hcl (by kernel_rfl) (by kernel_rfl) (by kernel_rfl) (fun _ _ _ h => h) (fun l w h => ⟨h.1, fun h33 => h.2 (by rw [getD_set_ne false (by decide)]; exact h33)⟩) (fun l w hc hu h => h.2 (waits_un hc (by kernel_rfl) hu)) (Or.inl ⟨by rfl, fun w' hw' => ?_⟩) (HCS.out _ _ HBR.out) (fun hcl => ?_)
  · obtain ⟨h0, h1, h2, h3⟩ := hw'
    go_simp
  try simp only [Act.put, List.setIfInBounds_toArray, List.set_cons_zero, List.set_cons_succ]
  refine wpV_take (i := 15) (v := .int .i64 up) (T := (fun _ : World => True)) rfl hcl (by kernel_rfl) (by kernel_rfl) (by kernel_rfl) (fun _ _ _ h => h) (fun l w h => ⟨h.1, fun h33 => h.2 (by rw [getD_set_ne false (by decide)]; exact h33)⟩) (fun _ _ _ _ _ => trivial) (Or.inl ⟨by rfl, fun w' hw' => ?_⟩) (HCS.out _ _ HBR.out) (fun hcl => ?_)
  · clear hw'
    go_simp
  try simp only [Act.put, List.setIfInBounds_toArray, List.set_cons_zero, List.set_cons_succ]
  refine wpV_take (i := 18) (v := .pointer (some ⟨wb, 0, none⟩)) (T := (fun w' : World => w'.cell? ⟨xb, 0, none⟩ = some (.pointer (some ⟨wb, 0, none⟩)) ∧ w'.cell? ⟨bt, 0, none⟩ = some (.int .i64 r) ∧ w'.cell? ⟨bt, 0 + 1, none⟩ = some (.int .i64 tm) ∧ w'.cell? ⟨bt, 0 + 2, none⟩ = some (.slice av nk cv))) rfl hcl (by kernel_rfl) (by kernel_rfl) (by kernel_rfl) (fun _ _ _ h => h) (fun l w h => ⟨h.1, fun h33 => h.2 (by rw [getD_set_ne false (by decide)]; exact h33)⟩) (fun l w _ _ h => h.1) (Or.inl ⟨by rfl, fun w' hw' => ?_⟩) (HCS.out _ _ HBR.out) (fun hcl => ?_)
  · obtain ⟨h0, h1, h2, h3⟩ := hw'
    go_simp
  try simp only [Act.put, List.setIfInBounds_toArray, List.set_cons_zero, List.set_cons_succ]
  refine wpV_take (i := 19) (v := .pointer (some ⟨wb, 0, none⟩)) (T := (fun _ : World => True)) rfl hcl (by kernel_rfl) (by kernel_rfl) (by kernel_rfl) (fun _ _ _ h => h) (fun l w h => ⟨h.1, fun h33 => h.2 (by rw [getD_set_ne false (by decide)]; exact h33)⟩) (fun _ _ _ _ _ => trivial) (Or.inl ⟨by rfl, fun w' hw' => ?_⟩) (HCS.out _ _ HBR.out) (fun hcl => ?_)
  · clear hw'
    go_simp
  try simp only [Act.put, List.setIfInBounds_toArray, List.set_cons_zero, List.set_cons_succ]
  refine wpV_take (i := 20) (v := .pointer (some ⟨wb, 0 + 8, none⟩)) (T := (fun _ : World => True)) rfl hcl (by kernel_rfl) (by kernel_rfl) (by kernel_rfl) (fun _ _ _ h => h) (fun l w h => ⟨h.1, fun h33 => h.2 (by rw [getD_set_ne false (by decide)]; exact h33)⟩) (fun _ _ _ _ _ => trivial) (Or.inl ⟨by rfl, fun w' hw' => ?_⟩) (HCS.out _ _ HBR.out) (fun hcl => ?_)
  · clear hw'
    go_simp
  try simp only [Act.put, List.setIfInBounds_toArray, List.set_cons_zero, List.set_cons_succ]
  refine wpV_take (i := 21) (v := .slice pa n pc) (T := (fun w' : World => w'.cell? ⟨wb, 0 + 6, none⟩ = some (.slice na n nc) ∧ w'.cell? ⟨wb, 0 + 7, none⟩ = some (.slice ua n uc) ∧ w'.cell? ⟨wb, 0 + 8, none⟩ = some (.slice pa n pc) ∧ w'.cell? ⟨wb, 0 + 9, none⟩ = some (.slice ka n kc))) rfl hcl (by kernel_rfl) (by kernel_rfl) (by kernel_rfl) (fun _ _ _ h => h) (fun l w h => ⟨h.1, fun h33 => h.2 (by rw [getD_set_ne false (by decide)]; exact h33)⟩) (fun l w hc hu h => h.2 (waits_un hc (by kernel_rfl) hu)) (Or.inl ⟨by rfl, fun w' hw' => ?_⟩) (HCS.out _ _ HBR.out) (fun hcl => ?_)
  · obtain ⟨h0, h1, h2, h3⟩ := hw'
    go_simp
  try simp only [Act.put, List.setIfInBounds_toArray, List.set_cons_zero, List.set_cons_succ]
  refine wpV_take (i := 22) (v := .int .i64 pos) (T := (fun _ : World => True)) rfl hcl (by kernel_rfl) (by kernel_rfl) (by kernel_rfl) (fun _ _ _ h => h) (fun l w h => ⟨h.1, fun h33 => h.2 (by rw [getD_set_ne false (by decide)]; exact h33)⟩) (fun _ _ _ _ _ => trivial) (Or.inl ⟨by rfl, fun w' hw' => ?_⟩) (HCS.out _ _ HBR.out) (fun hcl => ?_)
  · clear hw'
    go_simp
  try simp only [Act.put, List.setIfInBounds_toArray, List.set_cons_zero, List.set_cons_succ]
  refine wpV_take (i := 25) (v := .pointer (some ⟨wb, 0, none⟩)) (T := (fun w' : World => w'.cell? ⟨xb, 0, none⟩ = some (.pointer (some ⟨wb, 0, none⟩)) ∧ w'.cell? ⟨bt, 0, none⟩ = some (.int .i64 r) ∧ w'.cell? ⟨bt, 0 + 1, none⟩ = some (.int .i64 tm) ∧ w'.cell? ⟨bt, 0 + 2, none⟩ = some (.slice av nk cv))) rfl hcl (by kernel_rfl) (by kernel_rfl) (by kernel_rfl) (fun _ _ _ h => h) (fun l w h => ⟨h.1, fun h33 => h.2 (by rw [getD_set_ne false (by decide)]; exact h33)⟩) (fun l w _ _ h => h.1) (Or.inl ⟨by rfl, fun w' hw' => ?_⟩) (HCS.out _ _ HBR.out) (fun hcl => ?_)
  · obtain ⟨h0, h1, h2, h3⟩ := hw'
    go_simp
  try simp only [Act.put, List.setIfInBounds_toArray, List.set_cons_zero, List.set_cons_succ]
  refine wpV_take (i := 26) (v := .pointer (some ⟨wb, 0, none⟩)) (T := (fun _ : World => True)) rfl hcl (by kernel_rfl) (by kernel_rfl) (by kernel_rfl) (fun _ _ _ h => h) (fun l w h => ⟨h.1, fun h33 => h.2 (by rw [getD_set_ne false (by decide)]; exact h33)⟩) (fun _ _ _ _ _ => trivial) (Or.inl ⟨by rfl, fun w' hw' => ?_⟩) (HCS.out _ _ HBR.out) (fun hcl => ?_)
  · clear hw'
    go_simp
  try simp only [Act.put, List.setIfInBounds_toArray, List.set_cons_zero, List.set_cons_succ]
  refine wpV_take (i := 27) (v := .pointer (some ⟨wb, 0 + 9, none⟩)) (T := (fun _ : World => True)) rfl hcl (by kernel_rfl) (by kernel_rfl) (by kernel_rfl) (fun _ _ _ h => h) (fun l w h => ⟨h.1, fun h33 => h.2 (by rw [getD_set_ne false (by decide)]; exact h33)⟩) (fun _ _ _ _ _ => trivial) (Or.inl ⟨by rfl, fun w' hw' => ?_⟩) (HCS.out _ _ HBR.out) (fun hcl => ?_)
  · clear hw'
    go_simp
  try simp only [Act.put, List.setIfInBounds_toArray, List.set_cons_zero, List.set_cons_succ]
  refine wpV_take (i := 28) (v := .slice ka n kc) (T := (fun w' : World => w'.cell? ⟨wb, 0 + 6, none⟩ = some (.slice na n nc) ∧ w'.cell? ⟨wb, 0 + 7, none⟩ = some (.slice ua n uc) ∧ w'.cell? ⟨wb, 0 + 8, none⟩ = some (.slice pa n pc) ∧ w'.cell? ⟨wb, 0 + 9, none⟩ = some (.slice ka n kc))) rfl hcl (by kernel_rfl) (by kernel_rfl) (by kernel_rfl) (fun _ _ _ h => h) (fun l w h => ⟨h.1, fun h33 => h.2 (by rw [getD_set_ne false (by decide)]; exact h33)⟩) (fun l w hc hu h => h.2 (waits_un hc (by kernel_rfl) hu)) (Or.inl ⟨by rfl, fun w' hw' => ?_⟩) (HCS.out _ _ HBR.out) (fun hcl => ?_)
  · obtain ⟨h0, h1, h2, h3⟩ := hw'
    go_simp
  try simp only [Act.put, List.setIfInBounds_toArray, List.set_cons_zero, List.set_cons_succ]
  refine wpV_inv (J := (fun (f : Nat) (l : Array Bool) (a : Act) (w : World) => ∃ (b9 c1 b16 c2 b23 c3 b29 c4 : Bool) (un uk : Value) (iv' : Nat → Value) (x31 x32 x38 x39 x45 x46 x51 x52 : Value) (g9 g16 g23 g29 : Nat), l = lstW b9 c1 b16 c2 b23 c3 b29 c4 ∧ f = 12 + ((!b9).toNat + (!c1).toNat + (!b16).toNat + (!c2).toNat + (!b23).toNat + (!c3).toNat + (!b29).toNat + (!c4).toNat) ∧ a = actW r tm up pos av nk cv xb sx gx fb bt wb n na ua pa ka nc uc pc kc x31 x32 x38 x39 x45 x46 x51 x52 ∧ JF (KW.mk B (trC L tr) n ((List.range n).map fun j => iv (j + 2)) (allI g s L) (.slice la (allI g s L).length lc) iv L up pos #[.int .i64 r, .int .i64 tm, .slice av nk cv] w0 (OwW (.slice na n nc) (.slice ka n kc) (.slice la (allI g s L).length lc) (n + 2) iv) (.slice na n nc) (.slice ua n uc) (.slice pa n pc) (.slice ka n kc)) b9 c1 b16 c2 b23 c3 b29 c4 un uk iv' x31 x32 x38 x39 x45 x46 x51 x52 g9 g16 g23 g29 w)) ?_ _ _ _ _ ?_
  rotate_left
  · exact ⟨false, false, false, false, false, false, false, false, _, _, _, undef, undef, undef, undef, undef, undef, undef, undef, 0, 0, 0, 0, by kernel_rfl, by kernel_rfl, by kernel_rfl, HJ0.out⟩
  · rintro f l a w ⟨b9, c1, b16, c2, b23, c3, b29, c4, un, uk, iv', x31, x32, x38, x39, x45, x46, x51, x52, g9, g16, g23, g29, rfl, rfl, rfl, hj⟩
    have HJ := Lib.hid hj
    cases c4 with
    | true =>
      left
      obtain ⟨rfl, rfl, rfl, rfl, rfl, rfl, rfl⟩ := okW_all _ _ _ _ _ _ _ hj.ok
      obtain rfl := hj.n1 rfl
      have e39 := hj.u1 rfl
      have e46 := hj.p1 rfl
      obtain rfl := hj.k1 rfl
      have h4 := hj.w4
      simp only [if_true] at h4
      obtain ⟨a1, d1, rfl, -, -⟩ := own_len h4.nod
      obtain ⟨a4, d4, rfl, -, -⟩ := own_len h4.out
      have h41 := h4.int 0 (show 0 < n + 2 by omega)
      rw [show ilF L up pos true true 0 = L.map Nd.up ++ [up] from rfl, List.length_append, HPN0.out.2.1] at h41
      obtain ⟨a2, d2, e2, -, -⟩ := own_len h41
      have h42 := h4.int 1 (show 1 < n + 2 by omega)
      rw [show ilF L up pos true true 1 = L.map Nd.pos ++ [pos] from rfl, List.length_append, HPN0.out.2.2] at h42
      obtain ⟨a3, d3, e3, -, -⟩ := own_len h42
      rw [e2] at e39
      rw [e3] at e46
      simp only [List.length_singleton] at e39 e46 e2 e3
      subst e39 e46
      have hf := HFR.out w _ hj.st
      have hfin := JF.fin hj (wb := wb) (hd := hd) (tr := tr) (r := r) (u := .int .i64 tm) (v := .slice av nk cv) (O := O) rfl HN.out.symm rfl (fun j hj2 => HWR.out.nil j (by rw [HN.out]; exact hj2)) rfl hf.2.2 HWR.out.lt (fun q => by have h := HO.out q; rw [HN.out] at h; exact h) rfl
      rw [e2, e3] at hfin
      have HFIN := Lib.hid hfin
      have hs0 := HSJ.out w _ hj.st
      have HS0 := Lib.hid hs0
      have HWN : Hid (xb ≠ wb ∧ bt ≠ wb) := ⟨HNEB.out.1, fun e => HTO.out ((HO.out bt).2 (.inl e))⟩
      have HSET : Hid (∀ (w' : World) (j : Nat) (v : Value) (l : Array Bool), l.getD 33 false = true → (∀ l, (fun (l : Array Bool) (w' : World) => (w'.cell? ⟨xb, 0, none⟩ = some (.pointer (some ⟨wb, 0, none⟩)) ∧ w'.cell? ⟨bt, 0, none⟩ = some (.int .i64 r) ∧ w'.cell? ⟨bt, 0 + 1, none⟩ = some (.int .i64 tm) ∧ w'.cell? ⟨bt, 0 + 2, none⟩ = some (.slice av nk cv)) ∧ (l.getD 33 false = false → w'.cell? ⟨wb, 0 + 6, none⟩ = some (.slice na n nc) ∧ w'.cell? ⟨wb, 0 + 7, none⟩ = some (.slice ua n uc) ∧ w'.cell? ⟨wb, 0 + 8, none⟩ = some (.slice pa n pc) ∧ w'.cell? ⟨wb, 0 + 9, none⟩ = some (.slice ka n kc))) l w') ∨ (w'.cell? ⟨xb, 0, none⟩ = some (.pointer (some ⟨wb, 0, none⟩)) ∧ w'.cell? ⟨bt, 0, none⟩ = some (.int .i64 r) ∧ w'.cell? ⟨bt, 0 + 1, none⟩ = some (.int .i64 tm) ∧ w'.cell? ⟨bt, 0 + 2, none⟩ = some (.slice av nk cv)) → (fun (l : Array Bool) (w' : World) => (w'.cell? ⟨xb, 0, none⟩ = some (.pointer (some ⟨wb, 0, none⟩)) ∧ w'.cell? ⟨bt, 0, none⟩ = some (.int .i64 r) ∧ w'.cell? ⟨bt, 0 + 1, none⟩ = some (.int .i64 tm) ∧ w'.cell? ⟨bt, 0 + 2, none⟩ = some (.slice av nk cv)) ∧ (l.getD 33 false = false → w'.cell? ⟨wb, 0 + 6, none⟩ = some (.slice na n nc) ∧ w'.cell? ⟨wb, 0 + 7, none⟩ = some (.slice ua n uc) ∧ w'.cell? ⟨wb, 0 + 8, none⟩ = some (.slice pa n pc) ∧ w'.cell? ⟨wb, 0 + 9, none⟩ = some (.slice ka n kc))) l (w'.setCell ⟨wb, j, none⟩ v)) := fun w' j v l h33 h => by
        have h1 : w'.cell? ⟨xb, 0, none⟩ = some (.pointer (some ⟨wb, 0, none⟩)) ∧ w'.cell? ⟨bt, 0, none⟩ = some (.int .i64 r) ∧ w'.cell? ⟨bt, 0 + 1, none⟩ = some (.int .i64 tm) ∧ w'.cell? ⟨bt, 0 + 2, none⟩ = some (.slice av nk cv) := by rcases h with h | h; exact (h l).1; exact h
        refine ⟨?_, fun h => by rw [h33] at h; cases h⟩
        rw [cell_set_ne HWN.out.1, cell_set_ne HWN.out.2, cell_set_ne HWN.out.2, cell_set_ne HWN.out.2]
        exact h1
      have hh0 := hf.2.2
      have HH0 := Lib.hid hh0
      obtain ⟨w1, HW1⟩ := nameIt (w.setCell ⟨wb, 0 + 6, none⟩ (.slice a1 (n + 1) d1))
      have HH1 : Hid (w1.heap[wb]? = some (.cells #[hd.c0, hd.c1, hd.c2, hd.c3, hd.c4, hd.c5, .slice a1 (n + 1) d1, .slice ua n uc, .slice pa n pc, .slice ka n kc, .slice la (allI g s L).length lc] 64 (0, 0))) := by show _ = _; rw [← HW1.out]; exact bx_set hh0 6 _
      obtain ⟨w2, HW2⟩ := nameIt (w1.setCell ⟨wb, 0 + 7, none⟩ (.slice a2 (n + 1) d2))
      have HH2 : Hid (w2.heap[wb]? = some (.cells #[hd.c0, hd.c1, hd.c2, hd.c3, hd.c4, hd.c5, .slice a1 (n + 1) d1, .slice a2 (n + 1) d2, .slice pa n pc, .slice ka n kc, .slice la (allI g s L).length lc] 64 (0, 0))) := by show _ = _; rw [← HW2.out]; exact bx_set HH1.out 7 _
      obtain ⟨w3, HW3⟩ := nameIt (w2.setCell ⟨wb, 0 + 8, none⟩ (.slice a3 (n + 1) d3))
      have HH3 : Hid (w3.heap[wb]? = some (.cells #[hd.c0, hd.c1, hd.c2, hd.c3, hd.c4, hd.c5, .slice a1 (n + 1) d1, .slice a2 (n + 1) d2, .slice a3 (n + 1) d3, .slice ka n kc, .slice la (allI g s L).length lc] 64 (0, 0))) := by show _ = _; rw [← HW3.out]; exact bx_set HH2.out 8 _
      obtain ⟨w4, HW4⟩ := nameIt (w3.setCell ⟨wb, 0 + 9, none⟩ (.slice a4 (n + 1) d4))
      have HV4 : Hid (WaI B wb hd O w0 (L ++ [⟨r, up, pos, []⟩]) (allI g s L) w4) := by
        show WaI _ _ _ _ _ _ _ _
        rw [← HW4.out, ← HW3.out, ← HW2.out, ← HW1.out]
        exact ⟨_, HFIN.out.1, HFIN.out.2⟩
      have HSA : Hid (∀ l, (fun (l : Array Bool) (w' : World) => (w'.cell? ⟨xb, 0, none⟩ = some (.pointer (some ⟨wb, 0, none⟩)) ∧ w'.cell? ⟨bt, 0, none⟩ = some (.int .i64 r) ∧ w'.cell? ⟨bt, 0 + 1, none⟩ = some (.int .i64 tm) ∧ w'.cell? ⟨bt, 0 + 2, none⟩ = some (.slice av nk cv)) ∧ (l.getD 33 false = false → w'.cell? ⟨wb, 0 + 6, none⟩ = some (.slice na n nc) ∧ w'.cell? ⟨wb, 0 + 7, none⟩ = some (.slice ua n uc) ∧ w'.cell? ⟨wb, 0 + 8, none⟩ = some (.slice pa n pc) ∧ w'.cell? ⟨wb, 0 + 9, none⟩ = some (.slice ka n kc))) l w) := HS0.out
      have HSB1 : Hid (w1.cell? ⟨xb, 0, none⟩ = some (.pointer (some ⟨wb, 0, none⟩)) ∧ w1.cell? ⟨bt, 0, none⟩ = some (.int .i64 r) ∧ w1.cell? ⟨bt, 0 + 1, none⟩ = some (.int .i64 tm) ∧ w1.cell? ⟨bt, 0 + 2, none⟩ = some (.slice av nk cv)) := by have h := (HSET.out w (0 + 6) (.slice a1 (n + 1) d1) (Array.replicate 43 true) (by kernel_rfl) (.inl HS0.out)).1; rw [HW1.out] at h; exact h
      have HSB2 : Hid (w2.cell? ⟨xb, 0, none⟩ = some (.pointer (some ⟨wb, 0, none⟩)) ∧ w2.cell? ⟨bt, 0, none⟩ = some (.int .i64 r) ∧ w2.cell? ⟨bt, 0 + 1, none⟩ = some (.int .i64 tm) ∧ w2.cell? ⟨bt, 0 + 2, none⟩ = some (.slice av nk cv)) := by have h := (HSET.out w1 (0 + 7) (.slice a2 (n + 1) d2) (Array.replicate 43 true) (by kernel_rfl) (.inr HSB1.out)).1; rw [HW2.out] at h; exact h
      have HSB3 : Hid (w3.cell? ⟨xb, 0, none⟩ = some (.pointer (some ⟨wb, 0, none⟩)) ∧ w3.cell? ⟨bt, 0, none⟩ = some (.int .i64 r) ∧ w3.cell? ⟨bt, 0 + 1, none⟩ = some (.int .i64 tm) ∧ w3.cell? ⟨bt, 0 + 2, none⟩ = some (.slice av nk cv)) := by have h := (HSET.out w2 (0 + 8) (.slice a3 (n + 1) d3) (Array.replicate 43 true) (by kernel_rfl) (.inr HSB2.out)).1; rw [HW3.out] at h; exact h
      have HSB4 : Hid (w4.cell? ⟨xb, 0, none⟩ = some (.pointer (some ⟨wb, 0, none⟩)) ∧ w4.cell? ⟨bt, 0, none⟩ = some (.int .i64 r) ∧ w4.cell? ⟨bt, 0 + 1, none⟩ = some (.int .i64 tm) ∧ w4.cell? ⟨bt, 0 + 2, none⟩ = some (.slice av nk cv)) := by have h := (HSET.out w3 (0 + 9) (.slice a4 (n + 1) d4) (Array.replicate 43 true) (by kernel_rfl) (.inr HSB3.out)).1; rw [HW4.out] at h; exact h
      clear hj h4 h41 h42 e2 e3 hf hfin hs0 hh0
      change wpV _ _ _ _ _ 12 _ _ _
      simp only [actW]
      refine wpV_one (i := 31) (by kernel_rfl) rfl (fun K hK => ?_)
      go_simp
      refine hK.out _ _ (HSA.out _) ?_
      clear hK K
      try simp only [Act.put, List.setIfInBounds_toArray, List.set_cons_zero, List.set_cons_succ]
      refine wpV_one (i := 32) (by kernel_rfl) rfl (fun K hK => ?_)
      go_simp
      refine hK.out _ _ (HSA.out _) ?_
      clear hK K
      try simp only [Act.put, List.setIfInBounds_toArray, List.set_cons_zero, List.set_cons_succ]
      have d1 := bx_cells11 HH0.out
      have d2 : w.frozen? ⟨wb, 0 + 6, none⟩ = false := by simp [World.frozen?, HH0.out]
      obtain ⟨k6, k7, k8, k9, -⟩ := d1
      refine wpV_one (i := 33) (by kernel_rfl) rfl (fun K hK => ?_)
      go_simp
      rw [HW1.out]
      clear k6 k7 k8 k9 d2
      refine hK.out _ _ ⟨HSB1.out, fun h => absurd (show true = false from h) (by decide)⟩ ?_
      clear hK K
      try simp only [Act.put, List.setIfInBounds_toArray, List.set_cons_zero, List.set_cons_succ]
      refine wpV_one (i := 34) (by kernel_rfl) rfl (fun K hK => ?_)
      go_simp
      refine hK.out _ _ ⟨HSB1.out, fun h => absurd (show true = false from h) (by decide)⟩ ?_
      clear hK K
      try simp only [Act.put, List.setIfInBounds_toArray, List.set_cons_zero, List.set_cons_succ]
      refine wpV_one (i := 35) (by kernel_rfl) rfl (fun K hK => ?_)
      go_simp
      refine hK.out _ _ ⟨HSB1.out, fun h => absurd (show true = false from h) (by decide)⟩ ?_
      clear hK K
      try simp only [Act.put, List.setIfInBounds_toArray, List.set_cons_zero, List.set_cons_succ]
      have d1 := bx_cells11 HH1.out
      have d2 : w1.frozen? ⟨wb, 0 + 7, none⟩ = false := by simp [World.frozen?, HH1.out]
      obtain ⟨k6, k7, k8, k9, -⟩ := d1
      refine wpV_one (i := 36) (by kernel_rfl) rfl (fun K hK => ?_)
      go_simp
      rw [HW2.out]
      clear k6 k7 k8 k9 d2
      refine hK.out _ _ ⟨HSB2.out, fun h => absurd (show true = false from h) (by decide)⟩ ?_
      clear hK K
      try simp only [Act.put, List.setIfInBounds_toArray, List.set_cons_zero, List.set_cons_succ]
      refine wpV_one (i := 37) (by kernel_rfl) rfl (fun K hK => ?_)
      go_simp
      refine hK.out _ _ ⟨HSB2.out, fun h => absurd (show true = false from h) (by decide)⟩ ?_
      clear hK K
      try simp only [Act.put, List.setIfInBounds_toArray, List.set_cons_zero, List.set_cons_succ]
      refine wpV_one (i := 38) (by kernel_rfl) rfl (fun K hK => ?_)
      go_simp
      refine hK.out _ _ ⟨HSB2.out, fun h => absurd (show true = false from h) (by decide)⟩ ?_
      clear hK K
      try simp only [Act.put, List.setIfInBounds_toArray, List.set_cons_zero, List.set_cons_succ]
      have d1 := bx_cells11 HH2.out
      have d2 : w2.frozen? ⟨wb, 0 + 8, none⟩ = false := by simp [World.frozen?, HH2.out]
      obtain ⟨k6, k7, k8, k9, -⟩ := d1
      refine wpV_one (i := 39) (by kernel_rfl) rfl (fun K hK => ?_)
      go_simp
      rw [HW3.out]
      clear k6 k7 k8 k9 d2
      refine hK.out _ _ ⟨HSB3.out, fun h => absurd (show true = false from h) (by decide)⟩ ?_
      clear hK K
      try simp only [Act.put, List.setIfInBounds_toArray, List.set_cons_zero, List.set_cons_succ]
      refine wpV_one (i := 40) (by kernel_rfl) rfl (fun K hK => ?_)
      go_simp
      refine hK.out _ _ ⟨HSB3.out, fun h => absurd (show true = false from h) (by decide)⟩ ?_
      clear hK K
      try simp only [Act.put, List.setIfInBounds_toArray, List.set_cons_zero, List.set_cons_succ]
      refine wpV_one (i := 41) (by kernel_rfl) rfl (fun K hK => ?_)
      go_simp
      refine hK.out _ _ ⟨HSB3.out, fun h => absurd (show true = false from h) (by decide)⟩ ?_
      clear hK K
      try simp only [Act.put, List.setIfInBounds_toArray, List.set_cons_zero, List.set_cons_succ]
      have d1 := bx_cells11 HH3.out
      have d2 : w3.frozen? ⟨wb, 0 + 9, none⟩ = false := by simp [World.frozen?, HH3.out]
      obtain ⟨k6, k7, k8, k9, -⟩ := d1
      refine wpV_one (i := 42) (by kernel_rfl) rfl (fun K hK => ?_)
      go_simp
      rw [HW4.out]
      clear k6 k7 k8 k9 d2
      refine hK.out _ _ ⟨HSB4.out, fun h => absurd (show true = false from h) (by decide)⟩ ?_
      clear hK K
      try simp only [Act.put, List.setIfInBounds_toArray, List.set_cons_zero, List.set_cons_succ]
      refine wpV_done (by kernel_rfl) ?_ _
      clear HFIN HSET HSA HSB1 HSB2 HSB3 HSB4 HH0 HH1 HH2 HH3 HS0 HW1 HW2 HW3 HW4 HJ
      have HWA : Hid (∀ (w' : World) (L' : List Nd) (al' : List Inst), WaI B wb hd O w0 L' al' w' → EnW g s B wb xb sx gx fb ra aa rc ac vq w' ∧ w'.heap[bt]? = some (.cells #[.int .i64 r, .int .i64 tm, .slice av nk cv] 31 (0, 0))) := fun w' L' al' h => by
        obtain ⟨O', h1, h2⟩ := h
        exact ⟨HE0.out.stq h2 (fun k hk => (HOW.out k hk).1) HLTB.out HNEB.out, (h2.box X0.out HTO.out).1⟩
      have HFIN : Hid (∀ w', WaI B wb hd O w0 (part L r up pos t.kids) (allI g s (part L r up pos t.kids)) w' → PST (.returned (.int .i64 (n : Int))) w') := fun w' h => by
        rw [← HPN.out]
        rw [← HR.out, part_all] at h
        obtain ⟨O', h1, h2⟩ := h
        exact ⟨by rw [HN.out], O', h1, HS0.out.trans h2⟩
      have HBX := Lib.hid (HWA.out _ _ _ HV4.out)
      obtain ⟨x0, x1, x2⟩ := bx_cells3 HBX.out.2
      clear HCS HJ0 HSJ HFR HNB
      by_cases hleaf : r = -1
      · have hr1 : (r == -1) = true := by simpa using hleaf
        have HE : Hid (PST (.returned (.int .i64 (n : Int))) w4) := by
          refine HFIN.out _ ?_
          rw [leaf_kids HV.out HTN.out (HR.out.trans hleaf), part_nil]
          have h1 : allI g s (L ++ [⟨r, up, pos, []⟩]) = allI g s L := by
            rw [allI_app]
            have h2 : attrsAt g s (L ++ [(⟨r, up, pos, []⟩ : Nd)]) L.length = [] := by
              unfold attrsAt
              rw [ndAt_app, if_neg (Nat.lt_irrefl _), if_pos rfl]
              simp only
              rw [if_pos (by omega)]
            rw [h2]; simp
          rw [h1]
          exact HV4.out
        clear hleaf
        go_wp2_with fail
        exact HE.out
      · have hr1 : (r == -1) = false := by simpa using hleaf
        obtain ⟨ri, hri, hrl, hkl, -⟩ := node_rule HV.out HTN.out (by rw [HR.out]; exact hleaf)
        have HRI : Hid (r = (ri : Int)) := HR.out.symm.trans hri
        have HRL : Hid (ri < g.rules.length) := hrl
        obtain ⟨lf, HLF⟩ := nameIt (g.rules[ri]'hrl).left
        have HALL : Hid (allI g s (part L r up pos []) = allI g s L ++ ((attrsTo s.attrs lf s.attrs.length).map fun a => (n, a))) := by
          show _ = _
          rw [part_nil, allI_app, attrsTo_all, HN.out]
          have h2 : attrsAt g s (L ++ [(⟨r, up, pos, []⟩ : Nd)]) n = attrsOf s.attrs lf := by
            have hnd : ndAt (L ++ [(⟨r, up, pos, []⟩ : Nd)]) n = ⟨r, up, pos, []⟩ := by rw [ndAt_app, if_neg (by rw [HN.out]; exact Nat.lt_irrefl _), if_pos HN.out.symm]
            unfold attrsAt
            rw [hnd]
            simp only
            rw [if_neg (by rw [HRI.out]; omega), HRI.out, leftOf_at hrl, HLF.out]
          rw [h2]
        have HVP : Hid (WaI B wb hd O w0 (part L r up pos []) (allI g s L ++ ((attrsTo s.attrs lf 0).map fun a => (n, a))) w4) := by
          have e : attrsTo s.attrs lf 0 = [] := rfl
          rw [e, part_nil, List.map_nil, List.append_nil]
          exact HV4.out
        obtain ⟨s0, s1⟩ := bx_cells2 HBX.out.1.bs
        obtain ⟨han1, han2⟩ := HE0.out.attrs.bounds.2
        unfold maxLen at han2
        obtain ⟨hrc1, hrc2⟩ := HE0.out.rules.bounds.2
        unfold maxLen at hrc2
        have HATR : Hid (∀ (w' : World) (L' : List Nd) (al' : List Inst), WaI B wb hd O w0 L' al' w' → Rd (fun k => k < B ∧ k ≠ wb) w' (.sl (s.attrs.map At.Attr.d)) [.slice aa s.attrs.length ac]) := fun w' L' al' h => (HWA.out w' L' al' h).1.attrs
        have HRUL : Hid (∀ (w' : World) (L' : List Nd) (al' : List Inst), WaI B wb hd O w0 L' al' w' → Rd (fun k => k < B ∧ k ≠ wb) w' (.sl (g.rules.map Rule.d)) [.slice ra g.rules.length rc]) := fun w' L' al' h => (HWA.out w' L' al' h).1.rules
        have HSBX : Hid (∀ (w' : World) (L' : List Nd) (al' : List Inst), WaI B wb hd O w0 L' al' w' → w'.heap[sx]? = some (.cells #[.slice aa s.attrs.length ac, vq] 28 (0, 0)) ∧ w'.heap[gx]? = some (.cells #[.int .i64 g.terms, .int .i64 g.nons, .int .i64 g.start, .slice ra g.rules.length rc] 24 (0, 0))) := fun w' L' al' h => ⟨(HWA.out w' L' al' h).1.bs, (HWA.out w' L' al' h).1.bg⟩
        obtain ⟨an, HAN⟩ := nameIt s.attrs.length
        rw [HAN.out] at s0 han1
        obtain ⟨rl, HRLn⟩ := nameIt g.rules.length
        rw [HRLn.out] at hrc1
        have hrir : (ri : Int) < (rl : Int) := by rw [← HRLn.out]; omega
        have hrirc : (ri : Int) ≤ (rc : Int) := by omega
        have HANB : Hid (an ≤ 2000000) := by rw [← HAN.out]; exact HALB.out
        clear hleaf hri hkl
        go_wp2_with fail
        clear x0 x1 x2 s0 s1
        have HNA : Hid (∀ i, i ≤ an → ((allI g s L ++ ((attrsTo s.attrs lf i).map fun a => (n, a))) : List Inst).length ≤ 4000000000000) := fun i hi => by
          rw [List.length_append, List.length_map]
          have h1 := allI_le g s L
          have h2 : L.length * s.attrs.length ≤ 1000000 * 2000000 := Nat.mul_le_mul (by rw [HN.out]; omega) HALB.out
          have h3 := attrsTo_le s.attrs lf i
          have h4 := HANB.out
          omega
        go_loopg [12, 13, 68] an (fun gg v12 v13 v68 wr => ∃ i : Nat, i ≤ an ∧ an - i ≤ gg ∧ v68 = .int .i64 i ∧ Hid (WaI B wb hd O w0 (part L r up pos []) (allI g s L ++ ((attrsTo s.attrs lf i).map fun a => (n, a))) wr))
        case atStart => exact ⟨0, by omega, by omega, rfl, HVP⟩
        case round =>
          obtain ⟨i, hi, hg, rfl, HVI⟩ := hrel
          clear HVP HV4
          by_cases hlt : i < an
          · have hlt' : (i : Int) < (an : Int) := by omega
            have hic : (i : Int) ≤ (ac : Int) := by omega
            have hil : i < s.attrs.length := by rw [HAN.out]; exact hlt
            obtain ⟨b, off, hae, -, hbl, e0, e1⟩ := At.Rd.attr_at (HATR.out _ _ _ HVI.out) hil
            have HNX : Hid ((attrsTo s.attrs lf (i + 1)) = attrsTo s.attrs lf i ++ (if s.attrs[i].non == lf then [i] else [])) := attrsTo_succ hil
            obtain ⟨qn, HQN⟩ := nameIt (s.attrs[i]'hil).non
            obtain ⟨qi, HQI⟩ := nameIt (s.attrs[i]'hil).inh
            rw [HQN.out] at e0 HNX
            rw [HQI.out] at e1
            obtain ⟨w5, HW5⟩ := nameIt (wr.alloc (.cells #[.int .i64 qn, .bool qi] 88))
            have hb5 : Below wr.heap.size wr w5 := by rw [← HW5.out]; exact (Below.refl _ _).alloc (Nat.le_refl _) _
            have X5 : Hid (w5.heap[wr.heap.size]? = some (.cells #[.int .i64 qn, .bool qi] 88 (0, 0))) := by rw [← HW5.out]; exact bx_new _ _ _ rfl
            have HV5 : Hid (WaI B wb hd O w0 (part L r up pos []) (allI g s L ++ ((attrsTo s.attrs lf i).map fun a => (n, a))) w5) := by
              obtain ⟨O', h1, h2⟩ := HVI.out
              exact ⟨O', h1.keep hb5, h2.trans (Stq.below hb5)⟩
            have HB5 := HWA.out _ _ _ HV5.out
            obtain ⟨rb, ro, rv, hre, -, hrb, r0, -, -⟩ := (HRUL.out _ _ _ HV5.out).rule_at HRL.out
            rw [HLF.out] at r0
            obtain ⟨g0, g1, g2, g3⟩ := bx_cells4 (HSBX.out _ _ _ HV5.out).2
            rw [HRLn.out] at g3
            obtain ⟨f0, f1⟩ := bx_cells2 X5.out
            obtain ⟨x0, x1, x2⟩ := bx_cells3 HB5.2
            have ag3 := aft_cell g3
            have af0 := aft_cell f0
            have ax0 := aft_cell x0
            have ar0 := aft_cell r0
            obtain ⟨eb, HEB⟩ : ∃ b : Bool, (qn == lf) = b := ⟨_, rfl⟩
            rw [HEB] at HNX
            obtain rfl := HRI.out
            subst hae hre
            clear HB5 g0 g1 g2 g3 f0 f1 x0 x1 x2 r0 hb5
            go_upto_region 8 with fail
            rw [HW5.out]
            clear HW5 e0 e1 hbl
            refine wp_region_after (w0 := w5) (by kernel_rfl) (by kernel_rfl) ?_
            repeat (go_big_quiet_step (fail))
            refine wpQuiet_nil ?_
            rintro w6 ⟨⟨_, hb6⟩, rfl⟩
            have HV6 : Hid (WaI B wb hd O w0 (part L (ri : Int) up pos []) (allI g s L ++ ((attrsTo s.attrs lf i).map fun a => (n, a))) w6) := by
              obtain ⟨O', h1, h2⟩ := HV5.out
              exact ⟨O', h1.keep hb6, h2.trans (Stq.below hb6)⟩
            clear hb6 ag3 af0 ax0 ar0
            cases eb with
            | false =>
              have HV7 : Hid (WaI B wb hd O w0 (part L (ri : Int) up pos []) (allI g s L ++ ((attrsTo s.attrs lf (i + 1)).map fun a => (n, a))) w6) := by
                rw [HNX.out]
                simp only [Bool.false_eq_true, if_false, List.append_nil]
                exact HV6.out
              clear HNX
              go_wp2_with fail
              go_roundg (an - (i + 1))
              case measure => omega
              case rel => exact ⟨i + 1, by omega, by omega, by go_num, HV7⟩
            | true =>
              obtain ⟨O6, ⟨vn6, vk6, va6, iv6, tr6, hWR6, hO6⟩, hS6⟩ := HV6.out
              have hlb := HNA.out i (Nat.le_of_lt hlt)
              have HNX2 : Hid (allI g s L ++ ((attrsTo s.attrs lf (i + 1)).map fun a => (n, a)) = (allI g s L ++ ((attrsTo s.attrs lf i).map fun a => (n, a))) ++ [(n, i)]) := by
                show _ = _
                rw [HNX.out]
                simp only [if_true, List.map_append, List.append_assoc]
                rfl
              obtain ⟨AL, HALn⟩ := nameIt (allI g s L ++ ((attrsTo s.attrs lf i).map fun a => (n, a)))
              rw [HALn.out] at hWR6 hlb HNX2
              obtain ⟨a6, d6, rfl, hd61, hd62⟩ := own_len hWR6.w4.all
              unfold maxLen at hd62
              obtain ⟨ln, HLNn⟩ := nameIt AL.length
              have HWR6 := Lib.hid hWR6
              rw [HLNn.out] at hlb hd61
              have HS6 : Hid (Stq O (OwX wb vn6 vk6 (.slice a6 AL.length d6) ((part L (ri : Int) up pos []).length + 2) iv6) w0 w6) := hS6.to (fun k hk => (hO6 k).2 hk)
              rw [HLNn.out] at HWR6 HS6
              have hz := bx_cells11 (show w6.heap[wb]? = some (.cells #[hd.c0, hd.c1, hd.c2, hd.c3, hd.c4, hd.c5, vn6, iv6 0, iv6 1, vk6, .slice a6 ln d6] 64 (0, 0)) from HWR6.out.hdr)
              obtain ⟨-, -, -, -, z10⟩ := hz
              have y0 := bx_cells1 (HWA.out _ _ _ HV6.out).1.bx
              obtain ⟨w8, HW8⟩ := nameIt (w6.alloc (.cells #[.int .i64 (n : Int), .int .i64 (i : Int)] 59)).drew
              have hb8 : Below w6.heap.size w6 w8 := by rw [← HW8.out]; exact ((Below.refl w6.heap.size w6).alloc (Nat.le_refl _) _).drew
              have X8 : Hid (w8.heap[w6.heap.size]? = some (.cells #[.int .i64 (n : Int), .int .i64 (i : Int)] 59 (0, 0))) := by rw [← HW8.out]; exact bx_new w6 _ _ rfl
              have HB68 := Lib.hid hb8
              have HWR8 := Lib.hid (HWR6.out.keep hb8)
              have hrow8 := HWR8.out.w4.all
              rw [HLNn.out] at hrow8
              have HRW8 := Lib.hid hrow8
              have hbw8 : B ≤ w8.heap.size := HWR8.out.w4.le
              have hx8 : xb < w8.heap.size := Nat.lt_of_lt_of_le (lt_of_cell y0) hb8.size
              have hx9 : ∀ k, (Value.slice a6 ln d6).ownBlock = some k → B ≤ k := fun k e => (HRW8.out.lt k e).1
              have hxB := HLTB.out.1
              obtain ⟨q8, HQ8⟩ := nameIt w6.heap.size
              have HCS9 : Hid (∀ w', Below q8 w6 w' → (fun w' : World => w'.cell? ⟨xb, 0, none⟩ = some (.pointer (some ⟨wb, 0, none⟩)) ∧ w'.cell? ⟨wb, 0 + 10, none⟩ = some (.slice a6 ln d6)) w') := fun w' hb => by
                rw [← HQ8.out] at hb
                exact ⟨(hb.cell (lt_of_cell y0)).trans y0, (hb.cell (lt_of_cell z10)).trans z10⟩
              rw [HQ8.out] at X8 HB68
              have HBR6 : Hid (Below q8 w6 w6.drew) := (Below.refl _ _).drew
              clear hb8 hrow8 y0 z10 hWR6 hO6 hS6
              go_upto_region 9 with fail
              refine wp_region_M (S := (fun w' : World => w'.cell? ⟨xb, 0, none⟩ = some (.pointer (some ⟨wb, 0, none⟩)) ∧ w'.cell? ⟨wb, 0 + 10, none⟩ = some (.slice a6 ln d6))) 10 (by kernel_rfl) ?_
              refine wpU_takeM (i := 0) (v := .pointer (some ⟨wb, 0, none⟩)) rfl rfl (by kernel_rfl) (by kernel_rfl) (by kernel_rfl) (by kernel_rfl) (by kernel_rfl) (fun _ _ _ h => h) (Or.inl ⟨by rfl, fun w' hw' => ?_⟩) (HCS9.out _ HBR6.out) ?_
              · obtain ⟨h0, h1⟩ := hw'
                go_simp
              try simp only [Act.put, List.setIfInBounds_toArray, List.set_cons_zero, List.set_cons_succ]
              refine wpU_takeM (i := 1) (v := .pointer (some ⟨wb, 0, none⟩)) rfl rfl (by kernel_rfl) (by kernel_rfl) (by kernel_rfl) (by kernel_rfl) (by kernel_rfl) (fun _ _ _ h => h) (Or.inl ⟨by rfl, fun w' hw' => ?_⟩) (HCS9.out _ HBR6.out) ?_
              · obtain ⟨h0, h1⟩ := hw'
                go_simp
              try simp only [Act.put, List.setIfInBounds_toArray, List.set_cons_zero, List.set_cons_succ]
              refine wpU_takeF (i := 2) (v := .pointer (some ⟨wb, 0, none⟩)) rfl rfl (by kernel_rfl) (by kernel_rfl) (by kernel_rfl) (fun _ _ _ h => h) (Or.inl ⟨by rfl, fun w' hw' => ?_⟩) (fun _ => (HCS9.out _ HBR6.out)) ?_
              · clear hw'
                go_simp
              try simp only [Act.put, List.setIfInBounds_toArray, List.set_cons_zero, List.set_cons_succ]
              refine wpU_takeF (i := 3) (v := .pointer (some ⟨wb, 0 + 10, none⟩)) rfl rfl (by kernel_rfl) (by kernel_rfl) (by kernel_rfl) (fun _ _ _ h => h) (Or.inl ⟨by rfl, fun w' hw' => ?_⟩) (fun _ => (HCS9.out _ HBR6.out)) ?_
              · clear hw'
                go_simp
              try simp only [Act.put, List.setIfInBounds_toArray, List.set_cons_zero, List.set_cons_succ]
              refine wpU_takeM (i := 4) (v := .slice a6 ln d6) rfl rfl (by kernel_rfl) (by kernel_rfl) (by kernel_rfl) (by kernel_rfl) (by kernel_rfl) (fun _ _ _ h => h) (Or.inl ⟨by rfl, fun w' hw' => ?_⟩) (HCS9.out _ HBR6.out) ?_
              · obtain ⟨h0, h1⟩ := hw'
                go_simp
              try simp only [Act.put, List.setIfInBounds_toArray, List.set_cons_zero, List.set_cons_succ]
              refine wpU_takeF (i := 5) (v := .int .i64 (n : Int)) rfl rfl (by kernel_rfl) (by kernel_rfl) (by kernel_rfl) (fun _ _ _ h => h) (Or.inl ⟨by rfl, fun w' hw' => ?_⟩) (fun _ => (HCS9.out _ HBR6.out)) ?_
              · clear hw'
                go_simp
              try simp only [Act.put, List.setIfInBounds_toArray, List.set_cons_zero, List.set_cons_succ]
              refine wpU_takeF (i := 6) (v := .int .i64 (i : Int)) rfl rfl (by kernel_rfl) (by kernel_rfl) (by kernel_rfl) (fun _ _ _ h => h) (Or.inl ⟨by rfl, fun w' hw' => ?_⟩) (fun _ => (HCS9.out _ HBR6.out)) ?_
              · clear hw'
                go_simp
              try simp only [Act.put, List.setIfInBounds_toArray, List.set_cons_zero, List.set_cons_succ]
              refine wpU_takeF (i := 7) (v := .agg #[.int .i64 (n : Int), .int .i64 (i : Int)]) rfl rfl (by kernel_rfl) (by kernel_rfl) (by kernel_rfl) (fun _ _ _ h => h) (Or.inl ⟨by rfl, fun w' hw' => ?_⟩) (fun _ => (HCS9.out _ HBR6.out)) ?_
              · clear hw'
                go_simp
              try simp only [Act.put, List.setIfInBounds_toArray, List.set_cons_zero, List.set_cons_succ]
              refine wpU_one (i := 8) (by kernel_rfl) rfl (fun K hK => ?_)
              go_simp
              rw [HW8.out, HQ8.out]
              refine hK.out _ _ (fun _ => HCS9.out _ HB68.out) ?_
              clear hK K
              try simp only [Act.put, List.setIfInBounds_toArray, List.set_cons_zero, List.set_cons_succ]
              refine wpU_one (i := 9) (by kernel_rfl) rfl (fun K hK => ?_)
              refine step_appB elInstW (by rfl) _ _ (by rfl) HRW8.out (by rfl) (by rfl) X8.out (by rfl) (by rfl) (by omega) (by unfold maxLen; omega) hbw8 ?_
              intro g9 c9 w9 ho9 hg9 hat9 hlt9
              obtain ⟨p1, p2, p3, p4⟩ := HWR8.out.appA (v' := .slice (some ⟨g9, 0, none⟩) (ln + 1) c9) (i := (n, i)) (by rw [HLNn.out]; exact ho9) hg9 (at_lies hat9)
              have HS9 : Hid ((fun w' : World => w'.cell? ⟨xb, 0, none⟩ = some (.pointer (some ⟨wb, 0, none⟩)) ∧ w'.cell? ⟨wb, 0 + 10, none⟩ = some (.slice a6 ln d6)) w9) := ⟨grcell hg9 hx8 (fun e => by have := hx9 _ e; omega) (HCS9.out _ HB68.out).1, p1⟩
              have HP1 := Lib.hid p1
              have HP2 := Lib.hid p2
              have HP3 := Lib.hid p3
              have HP4 := Lib.hid p4
              clear p1 p2 p3 p4 ho9 hg9 hat9
              refine hK.out _ _ (fun _ => HS9.out) ?_
              clear hK K
              try simp only [Act.put, List.setIfInBounds_toArray, List.set_cons_zero, List.set_cons_succ]
              refine wpU_one (i := 10) (by kernel_rfl) rfl (fun K hK => ?_)
              go_simp
              refine hK.out _ _ (fun h => absurd (show true = false from h) (by decide)) ?_
              clear hK K
              try simp only [Act.put, List.setIfInBounds_toArray, List.set_cons_zero, List.set_cons_succ]
              refine wpU_one (i := 11) (by kernel_rfl) rfl (fun K hK => ?_)
              go_simp
              refine hK.out _ _ (fun h => absurd (show true = false from h) (by decide)) ?_
              clear hK K
              try simp only [Act.put, List.setIfInBounds_toArray, List.set_cons_zero, List.set_cons_succ]
              have k1 := HP1.out
              have k2 := HP2.out
              refine wpU_one (i := 12) (by kernel_rfl) rfl (fun K hK => ?_)
              go_simp
              refine hK.out _ _ (fun h => absurd (show true = false from h) (by decide)) ?_
              clear hK K
              try simp only [Act.put, List.setIfInBounds_toArray, List.set_cons_zero, List.set_cons_succ]
              refine wpU_done (by kernel_rfl) ?_ _
              have HV7 : Hid (WaI B wb hd O w0 (part L (ri : Int) up pos []) (allI g s L ++ ((attrsTo s.attrs lf (i + 1)).map fun a => (n, a))) (w9.setCell ⟨wb, 0 + 10, none⟩ (.slice (some ⟨g9, 0, none⟩) (ln + 1) c9))) := by
                rw [HNX2.out]
                exact ⟨_, HP3.out, HS6.out.trans ((Stq.below (by rw [HQ8.out]; exact HB68.out)).trans HP4.out)⟩
              clear k1 k2 HP1 HP2 HP3 HP4 HS9 HCS9 HNX HNX2
              go_wp2_with fail
              go_roundg (an - (i + 1))
              case measure => omega
              case rel => exact ⟨i + 1, by omega, by omega, by go_num, HV7⟩
          · have hend : i = an := by omega
            have hlt' : ¬ (i : Int) < (an : Int) := by omega
            have HVK : Hid (WaI B wb hd O w0 (part L r up pos (t.kids.take 0)) (allI g s (part L r up pos (t.kids.take 0))) wr) := by
              show WaI _ _ _ _ _ _ _ _
              rw [List.take_zero, HALL.out, HAN.out, ← hend]
              exact HVI.out
            obtain ⟨x0, x1, x2⟩ := bx_cells3 (HWA.out _ _ _ HVK.out).2
            clear HVI
            go_wp2_with fail
            clear x0 x1 x2
            go_loopg [14, 15, 16, 99] nk (fun gg v14 v15 v16 v99 wr => ∃ i : Nat, i ≤ nk ∧ nk - i ≤ gg ∧ v99 = .int .i64 i ∧ Hid (WaI B wb hd O w0 (part L r up pos (t.kids.take i)) (allI g s (part L r up pos (t.kids.take i))) wr))
            case atStart => exact ⟨0, by omega, by omega, rfl, HVK⟩
            case round =>
              obtain ⟨j, hj, hgj, rfl, HVI⟩ := hrel
              clear HVK
              by_cases hjt : j < nk
              · have hjt' : (j : Int) < (nk : Int) := by omega
                have hjc : (j : Int) ≤ (cv : Int) := by omega
                have hjk : j < t.kids.length := by rw [HNK.out]; exact hjt
                obtain ⟨O1, hW1, hS1⟩ := HVI.out
                have HS1 := Lib.hid hS1
                have HSW : Hid (Stq O O1 W wr) := HS0.out.trans hS1
                have HKR : Hid (Rd (fun k => k < B ∧ k ≠ wb) wr (.sl (t.kids.map Tree.d)) [.slice av nk cv]) := HK.out.keep (fun k hk hl => ⟨hk, HSW.out.same k hl (fun h => by rcases (HOW.out k h).1 with h | h <;> omega)⟩)
                obtain ⟨b, off, v, hae, -, hbl, k0, k1, k2, hkid⟩ := HKR.out.kid hjk
                obtain ⟨a2, n2, c2, rfl⟩ := treeBox hkid.any
                have hms := HKIDS.out j hjk
                have HXN : Hid (t.kids[j] ∈ nodes T) := kid_node T t _ HTN.out (by rw [HR.out, HRI.out]; omega) (List.getElem_mem hjk)
                have HTK : Hid (t.kids.take (j + 1) = t.kids.take j ++ [t.kids[j]]) := List.take_succ_eq_append_getElem hjk
                have hpl : (part L r up pos (t.kids.take j)).length = n + 1 + tszL (t.kids.take j) := by rw [part_len, HN.out]
                have HNDI : Hid (ndAt (part L r up pos (t.kids.take j)) n = ⟨r, up, pos, starts (n + 1) (t.kids.take j)⟩) := by
                  have h := ndAt_part L r up pos (t.kids.take j)
                  rw [HN.out] at h
                  exact h
                have HKL1 : Hid (t.kids.length ≤ tszL t.kids) := kids_le _
                have HPS : Hid (part L r up pos (t.kids.take (j + 1)) = addK (part L r up pos (t.kids.take j) ++ numT t.kids[j] (part L r up pos (t.kids.take j)).length n ((j : Int) + 1)) n (part L r up pos (t.kids.take j)).length) := by
                  show _ = _
                  have e1 : part L r up pos (t.kids.take (j + 1)) = addK (part L r up pos (t.kids.take j)) n (part L r up pos (t.kids.take j)).length ++ numT t.kids[j] (part L r up pos (t.kids.take j)).length n ((j : Int) + 1) := by
                    rw [HTK.out, part_snoc, HN.out]
                    congr 2
                    rw [List.length_take, HNK.out, Nat.min_eq_left hj]
                  rw [e1]
                  unfold addK
                  rw [if_pos (by omega), if_pos (by omega), Int.toNat_natCast]
                  exact (modify_left _ _ _ n (by rw [hpl]; omega)).symm
                obtain ⟨LI, HLI⟩ := nameIt (part L r up pos (t.kids.take j))
                rw [HLI.out] at hpl HNDI HPS hW1
                obtain ⟨x, HXn⟩ := nameIt (t.kids[j]'hjk)
                rw [HXn.out] at k0 k1 hkid hms HPS HXN
                obtain ⟨q0, HQ0⟩ := nameIt x.rule
                obtain ⟨q1, HQ1⟩ := nameIt x.term
                obtain ⟨w7, HW7⟩ := nameIt (wr.alloc (.cells #[.int .i64 q0, .int .i64 q1, .slice a2 n2 c2] 31))
                have HB7 : Hid (Below wr.heap.size wr w7) := by rw [← HW7.out]; exact (Below.refl _ _).alloc (Nat.le_refl _) _
                have X7 : Hid (w7.heap[wr.heap.size]? = some (.cells #[.int .i64 q0, .int .i64 q1, .slice a2 n2 c2] 31 (0, 0))) := by rw [← HW7.out]; exact bx_new _ _ _ rfl
                have HEW := Lib.hid (HWA.out _ _ _ HVI.out).1
                have HE7 : Hid (EnW g s B wb xb sx gx fb ra aa rc ac vq w7) := HEW.out.stq (Stq.below (O := fun k => k = wb) HB7.out) (fun k h => .inl h) HLTB.out HNEB.out
                have hszk : LI.length + tsz x ≤ 1000000 := by have h1 := HSZ.out; have h2 := HTS.out; rw [HN.out] at h1; omega
                have HCALL := Lib.hid (HIH.out x (n : Int) ((j : Int) + 1) _ LI O1 w7 (by have h1 := HM.out; have h2 := HTS.out; omega) HXN.out hszk (hW1.keep HB7.out) (hkid.below HB7.out) HE7.out)
                rw [HQ0.out] at k0 HCALL
                rw [HQ1.out] at k1 HCALL
                obtain ⟨li, HLIn⟩ := nameIt LI.length
                rw [HLIn.out] at HCALL hpl HPS
                have y0 := bx_cells1 HE7.out.bf
                obtain ⟨z0, z1, z2⟩ := bx_cells3 X7.out
                have hl7 : wr.heap.size < w7.heap.size := (Array.getElem?_eq_some_iff.1 X7.out).1
                have hnl : n < LI.length := by rw [HLIn.out]; omega
                have HNL : Hid (n < LI.length) := hnl
                have HKN : Hid ((starts (n + 1) (t.kids.take j)).length ≤ 1000000) := by
                  show _ ≤ _
                  rw [starts_len, List.length_take]
                  have h1 := HKL1.out
                  have h2 := HSZ.out
                  have h3 := HTS.out
                  omega
                subst hae
                clear hkid hms hW1 hS1 hpl hszk
                go_upto_region 14 with fail
                rw [HW7.out]
                clear HW7 k0 k1 k2 hbl
                go_wp2_with (refine HCALL.out.mono ?_)
                rintro e8 w8 ⟨rfl, O8, hW8, hS8⟩
                have HS8 : Hid (Stq O O8 w0 w8) := HS1.out.trans ((Stq.below HB7.out).trans hS8)
                obtain ⟨L8, HL8⟩ := nameIt (LI ++ numT x li (n : Int) ((j : Int) + 1))
                have HND8 : Hid (ndAt L8 n = ⟨r, up, pos, starts (n + 1) (t.kids.take j)⟩) := by
                  rw [← HL8.out]
                  show ndAt _ _ = _
                  unfold ndAt
                  rw [List.getElem?_append_left HNL.out]
                  exact HNDI.out
                have hn8 : n < L8.length := by rw [← HL8.out, List.length_append]; have := HNL.out; omega
                rw [HL8.out] at hW8 HPS
                obtain ⟨vn8, vk8, va8, iv8, tr8, hWR8, hO8⟩ := hW8
                have HS8x : Hid (Stq O (OwX wb vn8 vk8 va8 (L8.length + 2) iv8) w0 w8) := HS8.out.to (fun k hk => (hO8 k).2 hk)
                have HWR8 := Lib.hid hWR8
                obtain ⟨kb, kc, rfl, hkc1, hkc2, hkbB, hkbl, hkcell, hkfr⟩ := hWR8.kids hn8
                unfold maxLen at hkc2
                have hkrow := hWR8.w4.int (n + 2) (by omega)
                have hilk : ilW L8 (n + 2) = starts (n + 1) (t.kids.take j) := by
                  unfold ilW
                  rw [if_neg (by omega), if_neg (by omega), Nat.add_sub_cancel, HND8.out]
                rw [hilk] at hkrow
                obtain ⟨ap, cp, hvp, hcp1, hcp2⟩ := own_len hkrow
                obtain ⟨SK, HSK⟩ := nameIt (starts (n + 1) (t.kids.take j))
                rw [HSK.out] at hkrow hvp hcp1 HKN HND8
                obtain ⟨kl, HKL⟩ := nameIt SK.length
                rw [HKL.out] at hvp hcp1 HKN
                rw [hvp] at hkcell hkrow
                rw [HKL.out] at hkrow
                have HVP8 := Lib.hid hvp
                obtain ⟨l8, HL8n⟩ := nameIt L8.length
                have hkc1' : l8 ≤ kc := by rw [← HL8n.out]; exact hkc1
                have hn8' : (n : Int) < (l8 : Int) := by rw [HL8n.out] at hn8; omega
                have hn8c : (n : Int) ≤ (kc : Int) := by omega
                have hn8'' : ¬ ((l8 : Int) ≤ (n : Int)) := by omega
                have hz := bx_cells11 (show w8.heap[wb]? = some (.cells #[hd.c0, hd.c1, hd.c2, hd.c3, hd.c4, hd.c5, vn8, iv8 0, iv8 1, .slice (some ⟨kb, 0, none⟩) L8.length kc, va8] 64 (0, 0)) from hWR8.hdr)
                obtain ⟨-, -, -, z9, -⟩ := hz
                rw [HL8n.out] at z9
                have y0 := bx_cells1 (HE7.out.stq hS8 (fun k hk => by
                  have h1 := HS1.out.own k hk
                  rcases h1 with h1 | h1
                  · exact (HOW.out k h1).1
                  · exact .inr (Nat.le_trans HWR.out.w4.le h1)) HLTB.out HNEB.out).bx
                obtain ⟨wA, HWA8⟩ := nameIt (w8.alloc (.cells #[.int .i64 (li : Int)] 3)).drew
                have hbA : Below w8.heap.size w8 wA := by rw [← HWA8.out]; exact ((Below.refl w8.heap.size w8).alloc (Nat.le_refl _) _).drew
                have XA : Hid (wA.heap[w8.heap.size]? = some (.cells #[.int .i64 (li : Int)] 3 (0, 0))) := by rw [← HWA8.out]; exact bx_new w8 _ _ rfl
                have HBA := Lib.hid hbA
                have HWRA := Lib.hid (hWR8.keep hbA)
                have HRWA := Lib.hid (own_keep hkrow hbA)
                have hbwA : B ≤ wA.heap.size := HWRA.out.w4.le
                have hxA : xb < wA.heap.size := Nat.lt_of_lt_of_le (lt_of_cell y0) hbA.size
                have hx9 : ∀ k, (Value.slice ap kl cp).ownBlock = some k → B ≤ k := fun k e => (hkrow.lt k e).1
                have hxB := HLTB.out.1
                have hkln : kl ≤ 1000000 := HKN.out
                obtain ⟨qA, HQA⟩ := nameIt w8.heap.size
                have HCSA : Hid (∀ w', Below qA w8 w' → (fun w' : World => w'.cell? ⟨xb, 0, none⟩ = some (.pointer (some ⟨wb, 0, none⟩)) ∧ w'.cell? ⟨wb, 0 + 9, none⟩ = some (.slice (some ⟨kb, 0, none⟩) l8 kc) ∧ w'.cell? ⟨kb, n, none⟩ = some (.slice ap kl cp)) w') := fun w' hb => by
                  rw [← HQA.out] at hb
                  exact ⟨(hb.cell (lt_of_cell y0)).trans y0, (hb.cell (lt_of_cell z9)).trans z9, (hb.cell (lt_of_cell hkcell)).trans hkcell⟩
                rw [HQA.out] at XA HBA
                have HBRA : Hid (Below qA w8 w8.drew) := (Below.refl _ _).drew
                have hn8L : n < L8.length := by rw [HL8n.out]; omega
                clear hbA hkrow y0 z9 hkcell hWR8 hO8 hS8 HCALL z0 z1 z2 hvp hkfr hilk
                go_upto_region 15 with fail
                refine wp_region_M (S := (fun w' : World => w'.cell? ⟨xb, 0, none⟩ = some (.pointer (some ⟨wb, 0, none⟩)) ∧ w'.cell? ⟨wb, 0 + 9, none⟩ = some (.slice (some ⟨kb, 0, none⟩) l8 kc) ∧ w'.cell? ⟨kb, n, none⟩ = some (.slice ap kl cp))) 15 (by kernel_rfl) ?_
                refine wpU_takeM (i := 0) (v := .pointer (some ⟨wb, 0, none⟩)) rfl rfl (by kernel_rfl) (by kernel_rfl) (by kernel_rfl) (by kernel_rfl) (by kernel_rfl) (fun _ _ _ h => h) (Or.inl ⟨by rfl, fun w' hw' => ?_⟩) (HCSA.out _ HBRA.out) ?_
                · obtain ⟨h0, h1, h2⟩ := hw'
                  go_simp
                try simp only [Act.put, List.setIfInBounds_toArray, List.set_cons_zero, List.set_cons_succ]
                refine wpU_takeF (i := 1) (v := .pointer (some ⟨wb, 0, none⟩)) rfl rfl (by kernel_rfl) (by kernel_rfl) (by kernel_rfl) (fun _ _ _ h => h) (Or.inl ⟨by rfl, fun w' hw' => ?_⟩) (fun _ => (HCSA.out _ HBRA.out)) ?_
                · clear hw'
                  go_simp
                try simp only [Act.put, List.setIfInBounds_toArray, List.set_cons_zero, List.set_cons_succ]
                refine wpU_takeF (i := 2) (v := .pointer (some ⟨wb, 0 + 9, none⟩)) rfl rfl (by kernel_rfl) (by kernel_rfl) (by kernel_rfl) (fun _ _ _ h => h) (Or.inl ⟨by rfl, fun w' hw' => ?_⟩) (fun _ => (HCSA.out _ HBRA.out)) ?_
                · clear hw'
                  go_simp
                try simp only [Act.put, List.setIfInBounds_toArray, List.set_cons_zero, List.set_cons_succ]
                refine wpU_takeM (i := 3) (v := .slice (some ⟨kb, 0, none⟩) l8 kc) rfl rfl (by kernel_rfl) (by kernel_rfl) (by kernel_rfl) (by kernel_rfl) (by kernel_rfl) (fun _ _ _ h => h) (Or.inl ⟨by rfl, fun w' hw' => ?_⟩) (HCSA.out _ HBRA.out) ?_
                · obtain ⟨h0, h1, h2⟩ := hw'
                  go_simp
                try simp only [Act.put, List.setIfInBounds_toArray, List.set_cons_zero, List.set_cons_succ]
                refine wpU_takeF (i := 4) (v := .int .i64 (n : Int)) rfl rfl (by kernel_rfl) (by kernel_rfl) (by kernel_rfl) (fun _ _ _ h => h) (Or.inl ⟨by rfl, fun w' hw' => ?_⟩) (fun _ => (HCSA.out _ HBRA.out)) ?_
                · clear hw'
                  go_simp
                try simp only [Act.put, List.setIfInBounds_toArray, List.set_cons_zero, List.set_cons_succ]
                refine wpU_takeM (i := 5) (v := .pointer (some ⟨wb, 0, none⟩)) rfl rfl (by kernel_rfl) (by kernel_rfl) (by kernel_rfl) (by kernel_rfl) (by kernel_rfl) (fun _ _ _ h => h) (Or.inl ⟨by rfl, fun w' hw' => ?_⟩) (HCSA.out _ HBRA.out) ?_
                · obtain ⟨h0, h1, h2⟩ := hw'
                  go_simp
                try simp only [Act.put, List.setIfInBounds_toArray, List.set_cons_zero, List.set_cons_succ]
                refine wpU_takeF (i := 6) (v := .pointer (some ⟨wb, 0, none⟩)) rfl rfl (by kernel_rfl) (by kernel_rfl) (by kernel_rfl) (fun _ _ _ h => h) (Or.inl ⟨by rfl, fun w' hw' => ?_⟩) (fun _ => (HCSA.out _ HBRA.out)) ?_
                · clear hw'
                  go_simp
                try simp only [Act.put, List.setIfInBounds_toArray, List.set_cons_zero, List.set_cons_succ]
                refine wpU_takeF (i := 7) (v := .pointer (some ⟨wb, 0 + 9, none⟩)) rfl rfl (by kernel_rfl) (by kernel_rfl) (by kernel_rfl) (fun _ _ _ h => h) (Or.inl ⟨by rfl, fun w' hw' => ?_⟩) (fun _ => (HCSA.out _ HBRA.out)) ?_
                · clear hw'
                  go_simp
                try simp only [Act.put, List.setIfInBounds_toArray, List.set_cons_zero, List.set_cons_succ]
                refine wpU_takeM (i := 8) (v := .slice (some ⟨kb, 0, none⟩) l8 kc) rfl rfl (by kernel_rfl) (by kernel_rfl) (by kernel_rfl) (by kernel_rfl) (by kernel_rfl) (fun _ _ _ h => h) (Or.inl ⟨by rfl, fun w' hw' => ?_⟩) (HCSA.out _ HBRA.out) ?_
                · obtain ⟨h0, h1, h2⟩ := hw'
                  go_simp
                try simp only [Act.put, List.setIfInBounds_toArray, List.set_cons_zero, List.set_cons_succ]
                refine wpU_takeF (i := 9) (v := .int .i64 (n : Int)) rfl rfl (by kernel_rfl) (by kernel_rfl) (by kernel_rfl) (fun _ _ _ h => h) (Or.inl ⟨by rfl, fun w' hw' => ?_⟩) (fun _ => (HCSA.out _ HBRA.out)) ?_
                · clear hw'
                  go_simp
                try simp only [Act.put, List.setIfInBounds_toArray, List.set_cons_zero, List.set_cons_succ]
                refine wpU_takeF (i := 10) (v := .pointer (some ⟨kb, n, none⟩)) rfl rfl (by kernel_rfl) (by kernel_rfl) (by kernel_rfl) (fun _ _ _ h => h) (Or.inl ⟨by rfl, fun w' hw' => ?_⟩) (fun _ => (HCSA.out _ HBRA.out)) ?_
                · clear hw'
                  go_simp
                try simp only [Act.put, List.setIfInBounds_toArray, List.set_cons_zero, List.set_cons_succ]
                refine wpU_takeM (i := 11) (v := .slice ap kl cp) rfl rfl (by kernel_rfl) (by kernel_rfl) (by kernel_rfl) (by kernel_rfl) (by kernel_rfl) (fun _ _ _ h => h) (Or.inl ⟨by rfl, fun w' hw' => ?_⟩) (HCSA.out _ HBRA.out) ?_
                · obtain ⟨h0, h1, h2⟩ := hw'
                  go_simp
                try simp only [Act.put, List.setIfInBounds_toArray, List.set_cons_zero, List.set_cons_succ]
                refine wpU_takeF (i := 12) (v := .int .i64 (li : Int)) rfl rfl (by kernel_rfl) (by kernel_rfl) (by kernel_rfl) (fun _ _ _ h => h) (Or.inl ⟨by rfl, fun w' hw' => ?_⟩) (fun _ => (HCSA.out _ HBRA.out)) ?_
                · clear hw'
                  go_simp
                try simp only [Act.put, List.setIfInBounds_toArray, List.set_cons_zero, List.set_cons_succ]
                refine wpU_one (i := 13) (by kernel_rfl) rfl (fun K hK => ?_)
                go_simp
                rw [HWA8.out, HQA.out]
                refine hK.out _ _ (fun _ => HCSA.out _ HBA.out) ?_
                clear hK K
                try simp only [Act.put, List.setIfInBounds_toArray, List.set_cons_zero, List.set_cons_succ]
                refine wpU_one (i := 14) (by kernel_rfl) rfl (fun K hK => ?_)
                refine step_appB elIntN (by rfl) _ _ (by rfl) HRWA.out (by rfl) (by rfl) XA.out (by rfl) (by rfl) (by omega) (by unfold maxLen; omega) hbwA ?_
                intro g9 c9 w9 ho9 hg9 hat9 hlt9
                obtain ⟨p1, p2, p3, p4⟩ := HWRA.out.addk (x := li) hn8L (v' := .slice (some ⟨g9, 0, none⟩) (kl + 1) c9) (by rw [HND8.out]; simp only; rw [HKL.out]; exact ho9) (by rw [HVP8.out]; exact hg9) (by rw [HVP8.out]; exact at_lies hat9) rfl
                rw [HVP8.out] at p1
                rw [HL8n.out] at p3
                have HS9 : Hid ((fun w' : World => w'.cell? ⟨xb, 0, none⟩ = some (.pointer (some ⟨wb, 0, none⟩)) ∧ w'.cell? ⟨wb, 0 + 9, none⟩ = some (.slice (some ⟨kb, 0, none⟩) l8 kc) ∧ w'.cell? ⟨kb, n, none⟩ = some (.slice ap kl cp)) w9) := ⟨grcell hg9 hxA (fun e => by have := hx9 _ e; omega) (HCSA.out _ HBA.out).1, p3, p1⟩
                have HP1 := Lib.hid p1
                have HP2 := Lib.hid p2
                have HP4 := Lib.hid p4
                clear p1 p2 p3 p4 ho9 hg9 hat9
                refine hK.out _ _ (fun _ => HS9.out) ?_
                clear hK K
                try simp only [Act.put, List.setIfInBounds_toArray, List.set_cons_zero, List.set_cons_succ]
                refine wpU_one (i := 15) (by kernel_rfl) rfl (fun K hK => ?_)
                go_simp
                refine hK.out _ _ (fun h => absurd (show true = false from h) (by decide)) ?_
                clear hK K
                try simp only [Act.put, List.setIfInBounds_toArray, List.set_cons_zero, List.set_cons_succ]
                have k1 := HP1.out
                have k2 := HP2.out
                refine wpU_one (i := 16) (by kernel_rfl) rfl (fun K hK => ?_)
                go_simp
                refine hK.out _ _ (fun h => absurd (show true = false from h) (by decide)) ?_
                clear hK K
                try simp only [Act.put, List.setIfInBounds_toArray, List.set_cons_zero, List.set_cons_succ]
                refine wpU_done (by kernel_rfl) ?_ _
                have HVN : Hid (WaI B wb hd O w0 (part L r up pos (t.kids.take (j + 1))) (allI g s (part L r up pos (t.kids.take (j + 1)))) (w9.setCell ⟨kb, n, none⟩ (.slice (some ⟨g9, 0, none⟩) (kl + 1) c9))) := by
                  obtain ⟨OZ, h1, h2⟩ := HP4.out
                  show WaI _ _ _ _ _ _ _ _
                  rw [HPS.out, allI_addK g s hn8L]
                  exact ⟨OZ, h1, HS8x.out.trans ((Stq.below (by rw [HQA.out]; exact HBA.out)).trans h2)⟩
                clear k1 k2 HP1 HP2 HP4 HS9 HCSA HPS HNDI HND8
                go_wp2_with fail
                go_roundg (nk - (j + 1))
                case measure => omega
                case rel => exact ⟨j + 1, by omega, by omega, by go_num, HVN⟩
              · have hend : j = nk := by omega
                have hjt' : ¬ (j : Int) < (nk : Int) := by omega
                have HE : Hid (PST (.returned (.int .i64 (n : Int))) wr) := by
                  refine HFIN.out _ ?_
                  have h := HVI.out
                  rw [hend, ← HNK.out, List.take_length] at h
                  exact h
                go_wp2_with fail
                exact HE.out
    | false =>
      right
      refine ⟨12 + ((!b9).toNat + (!c1).toNat + (!b16).toNat + (!c2).toNat + (!b23).toNat + (!c3).toNat + (!b29).toNat), by simp only [Bool.not_false, Bool.toNat_true]; omega, ?_, ?_⟩
      · refine ne_nil_of ?_
        clear hj HJ
        cases b9 <;> cases c1 <;> cases b16 <;> cases c2 <;> cases b23 <;> cases c3 <;> cases b29 <;> kernel_rfl
      · intro i hi
        have hc := ready_of hi (c := [9, 10, 16, 17, 23, 24, 29, 30, 31, 32, 33, 34, 35, 36, 37, 38, 39, 40, 41, 42]) (by kernel_rfl)
        have hun := (mem_ready.1 hi).1
        simp only [List.mem_cons, List.not_mem_nil, or_false] at hc
        rcases hc with rfl | rfl | rfl | rfl | rfl | rfl | rfl | rfl | rfl | rfl | rfl | rfl | rfl | rfl | rfl | rfl | rfl | rfl | rfl | rfl
        rotate_right 12
        iterate 12 exact absurd (show false = true from ready_has hi (i := 30) (by kernel_rfl)) (by decide)
        · obtain rfl : b9 = false := hun
          refine ⟨_, rfl, fun K hK => ?_⟩
          simp only [actW]
          go_simp
          have hj2 := hj.lit9
          refine hK _ _ (HSJ.out _ _ hj2.st _) ⟨true, c1, b16, c2, b23, c3, b29, false, _, _, _, _, _, _, _, _, _, _, _, _, _, _, _, by kernel_rfl, by simp only [Bool.not_false, Bool.not_true, Bool.toNat_true, Bool.toNat_false] <;> omega, by kernel_rfl, hj2⟩
        · obtain rfl : c1 = false := hun
          obtain rfl : b9 = true := ready_has hi (i := 9) (by kernel_rfl)
          obtain ⟨rfl, hbx, hno⟩ := hj.l9 rfl
          obtain rfl := hj.n0 rfl
          have hown := hj.w4.nod
          simp only [Bool.false_eq_true, if_false] at hown
          refine ⟨_, rfl, fun K hK => ?_⟩
          refine step_appB elTreeW (by rfl) _ _ (by rfl) hown (by rfl) (by rfl) hbx (by rfl) (by rfl) (by omega) (by unfold maxLen; omega) hj.w4.le ?_
          intro gq cq wq hoq hgq hatq hltq
          have hj2 := hj.app10 hoq hgq (at_lies hatq)
          refine hK _ _ (HSJ.out _ _ hj2.st _) ⟨true, true, b16, c2, b23, c3, b29, false, _, _, _, _, _, _, _, _, _, _, _, _, _, _, _, by kernel_rfl, by simp only [Bool.not_false, Bool.not_true, Bool.toNat_true, Bool.toNat_false] <;> omega, by kernel_rfl, hj2⟩
        · obtain rfl : b16 = false := hun
          refine ⟨_, rfl, fun K hK => ?_⟩
          simp only [actW]
          go_simp
          have hj2 := hj.lit16
          refine hK _ _ (HSJ.out _ _ hj2.st _) ⟨b9, c1, true, c2, b23, c3, b29, false, _, _, _, _, _, _, _, _, _, _, _, _, _, _, _, by kernel_rfl, by simp only [Bool.not_false, Bool.not_true, Bool.toNat_true, Bool.toNat_false] <;> omega, by kernel_rfl, hj2⟩
        · obtain rfl : c2 = false := hun
          obtain rfl : b16 = true := ready_has hi (i := 16) (by kernel_rfl)
          obtain rfl : c1 = true := ready_has hi (i := 10) (by kernel_rfl)
          obtain ⟨rfl, hbx, hno⟩ := hj.l16 rfl
          have hiv : iv' 0 = .slice ua n uc := hj.u0 rfl
          have hown := hj.w4.int 0 (show 0 < n + 2 by omega)
          rw [show ilF L up pos false c3 0 = L.map Nd.up from rfl, HPN0.out.2.1, hiv] at hown
          refine ⟨_, rfl, fun K hK => ?_⟩
          refine step_appB elIntN (by rfl) _ _ (by rfl) hown (by rfl) (by rfl) hbx (by rfl) (by rfl) (by omega) (by unfold maxLen; omega) hj.w4.le ?_
          intro gq cq wq hoq hgq hatq hltq
          have hj2 := hj.app17 (v' := .slice (some ⟨gq, 0, none⟩) (n + 1) cq) (by rw [HPN0.out.2.1]; exact hoq) (by rw [hiv]; exact hgq) (by rw [hiv]; exact at_lies hatq)
          refine hK _ _ (HSJ.out _ _ hj2.st _) ⟨b9, true, true, true, b23, c3, b29, false, _, _, _, _, _, _, _, _, _, _, _, _, _, _, _, by kernel_rfl, by simp only [Bool.not_false, Bool.not_true, Bool.toNat_true, Bool.toNat_false] <;> omega, by kernel_rfl, hj2⟩
        · obtain rfl : b23 = false := hun
          refine ⟨_, rfl, fun K hK => ?_⟩
          simp only [actW]
          go_simp
          have hj2 := hj.lit23
          refine hK _ _ (HSJ.out _ _ hj2.st _) ⟨b9, c1, b16, c2, true, c3, b29, false, _, _, _, _, _, _, _, _, _, _, _, _, _, _, _, by kernel_rfl, by simp only [Bool.not_false, Bool.not_true, Bool.toNat_true, Bool.toNat_false] <;> omega, by kernel_rfl, hj2⟩
        · obtain rfl : c3 = false := hun
          obtain rfl : b23 = true := ready_has hi (i := 23) (by kernel_rfl)
          obtain rfl : c2 = true := ready_has hi (i := 17) (by kernel_rfl)
          obtain ⟨rfl, hbx, hno⟩ := hj.l23 rfl
          have hiv : iv' 1 = .slice pa n pc := hj.p0 rfl
          have hown := hj.w4.int 1 (show 1 < n + 2 by omega)
          rw [show ilF L up pos true false 1 = L.map Nd.pos from rfl, HPN0.out.2.2, hiv] at hown
          refine ⟨_, rfl, fun K hK => ?_⟩
          refine step_appB elIntN (by rfl) _ _ (by rfl) hown (by rfl) (by rfl) hbx (by rfl) (by rfl) (by omega) (by unfold maxLen; omega) hj.w4.le ?_
          intro gq cq wq hoq hgq hatq hltq
          have hj2 := hj.app24 (v' := .slice (some ⟨gq, 0, none⟩) (n + 1) cq) (by rw [HPN0.out.2.2]; exact hoq) (by rw [hiv]; exact hgq) (by rw [hiv]; exact at_lies hatq)
          refine hK _ _ (HSJ.out _ _ hj2.st _) ⟨b9, c1, b16, true, true, true, b29, false, _, _, _, _, _, _, _, _, _, _, _, _, _, _, _, by kernel_rfl, by simp only [Bool.not_false, Bool.not_true, Bool.toNat_true, Bool.toNat_false] <;> omega, by kernel_rfl, hj2⟩
        · obtain rfl : b29 = false := hun
          refine ⟨_, rfl, fun K hK => ?_⟩
          simp only [actW]
          go_simp
          have hj2 := hj.lit29
          refine hK _ _ (HSJ.out _ _ hj2.st _) ⟨b9, c1, b16, c2, b23, c3, true, false, _, _, _, _, _, _, _, _, _, _, _, _, _, _, _, by kernel_rfl, by simp only [Bool.not_false, Bool.not_true, Bool.toNat_true, Bool.toNat_false] <;> omega, by kernel_rfl, hj2⟩
        · clear hun
          obtain rfl : b29 = true := ready_has hi (i := 29) (by kernel_rfl)
          obtain rfl : c3 = true := ready_has hi (i := 24) (by kernel_rfl)
          obtain ⟨rfl, hbx, hno⟩ := hj.l29 rfl
          obtain rfl := hj.k0 rfl
          have hown := hj.w4.out
          simp only [Bool.false_eq_true, if_false] at hown
          refine ⟨_, rfl, fun K hK => ?_⟩
          refine step_appB elIntsA (by rfl) _ _ (by rfl) hown (by rfl) (by rfl) hbx (by rfl) (by rfl) (by omega) (by unfold maxLen; omega) hj.w4.le ?_
          intro gq cq wq hoq hgq hatq hltq
          have hj2 := hj.app30 hoq hgq (at_lies hatq)
          refine hK _ _ (HSJ.out _ _ hj2.st _) ⟨b9, c1, b16, c2, b23, true, true, true, _, _, _, _, _, _, _, _, _, _, _, _, _, _, _, by kernel_rfl, by simp only [Bool.not_false, Bool.not_true, Bool.toNat_true, Bool.toNat_false] <;> omega, by kernel_rfl, hj2⟩
end Dm
end Go.Proofs.YtfocooehnmpndaaGreat
