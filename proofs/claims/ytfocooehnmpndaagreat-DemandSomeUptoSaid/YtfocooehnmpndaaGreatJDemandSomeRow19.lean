/- For every input of bulk at most 1048576 the law DemandSome returns true, and its arguments read afterwards as before. Condition: the bulk of the arguments. -/
import Derived.Test.YtfocooehnmpndaaGreatJDemandSomeRow16
import Derived.Test.YtfocooehnmpndaaGreatJDemandSomeRow18
import Derived.Test.YtfocooehnmpndaaGreatJDemandSomeRow4
import Derived.Test.YtfocooehnmpndaaGreatJDemandSomeRow1
import Derived.Lib.SmallJoins
import Derived.Test.YtfocooehnmpndaaGreatJDemandSomeRow11
import Derived.SizedLaws
import Derived.OpenShut
import Derived.ChangeOld
import Derived.Carry
import Derived.JoinedCond
namespace Go.Proofs.YtfocooehnmpndaaGreat
open Go.RowKit
namespace Dm
open At (Ref leavesS)
theorem inKeyW {a b : Int} (ha : i64 a) (hb : i64 b) : keyOf Tryz.prog 59 (.agg #[.int .i64 a, .int .i64 b]) = some (piL a b) := by
  have ha : (Lit.int .i64 a).wf = true := by unfold i64 at ha; simp [Lit.wf, IntKind.min, IntKind.max, IntKind.signed, IntKind.bits]; omega
  have hb : (Lit.int .i64 b).wf = true := by unfold i64 at hb; simp [Lit.wf, IntKind.min, IntKind.max, IntKind.signed, IntKind.bits]; omega
  have h1 : Tryz.prog.keyType 59 = true := by kernel_rfl
  have h3 : Tryz.prog.cellsOf 59 = 2 := by kernel_rfl
  have h4 : Tryz.prog.cellsOf 3 = 1 := by kernel_rfl
  have h2 : (Value.agg #[Value.int .i64 a, Value.int .i64 b]).formed Tryz.prog 59 = true := by simp [Value.formed, Tryz.underlying59, h3]
  have h5 : Tryz.prog.keyLits (Tryz.prog.types.size + 1) 59 [.int .i64 a, .int .i64 b] = some [.int .i64 a, .int .i64 b] := by
    obtain ⟨m, hm⟩ : ∃ m, Tryz.prog.types.size = m + 1 := ⟨Tryz.prog.types.size - 1, by have h : 1 < Tryz.prog.types.size := of_decide_eq_true (by kernel_rfl); omega⟩
    rw [hm]
    simp [Program.keyLits, Tryz.underlying59, h3, h4, Tryz.underlying3, ha, hb]
  unfold keyOf
  simp only [Tryz.underlying59, h1, h2, Bool.and_self, if_true]
  show Option.map _ (Tryz.prog.keyLits _ _ [.int .i64 a, .int .i64 b]) = _
  rw [h5]
  rfl
theorem HvM.lookAny {b c : Nat} {H : Inst → Option Int} {w : World} (h : HvM b H c w) {n a : Int} (hn : i64 n) (ha : i64 a) : ∃ v ok, (Instr.lookup 54 (.map (some b)) (.agg #[.int .i64 n, .int .i64 a]) true).run Tryz.prog w = .ok (.tuple #[.int .i64 v, .bool ok]) w := by
  obtain ⟨F, ⟨D, h1, h2⟩, hF⟩ := h
  obtain ⟨v, ps, hrun, hv⟩ := h1.look_ok inK Tryz.underlying54 (Km.zInt w) (plainElem_int Tryz.underlying3 (by decide)) (inKeyW hn ha)
  obtain ⟨n, rfl, hn, _⟩ := plainElem_int_inv Tryz.underlying3 hv
  exact ⟨_, _, hrun⟩
theorem two_inst : instOf listG leavesS (tabT twoT) [] 0 (0, 0) := ⟨by simp [atI, atN], rfl, by rw [two_all]; simp⟩
theorem two_cnt {C : Inst → Bool} {c : Nat} (h : CnS (allI listG leavesS (tabT twoT)) C c) (hC : ∀ j, C j = true ↔ (fun _ : Inst => false) j = true ∨ Rs leavesS (tabT twoT) (0, 0) j) : c = 2 := by
  have e : needsI leavesS (tabT twoT) (0, 0) = [(1, 0)] := by
    unfold needsI
    rw [At.refs_same]
    rfl
  have h0 : C (0, 0) = true := (hC _).2 (.inr (.inl rfl))
  have h1 : C (1, 0) = true := (hC _).2 (.inr (.inr (.one (by rw [e]; simp))))
  have h2 := h.cnt
  rw [two_all] at h2
  simp [h0, h1] at h2
  exact h2
structure DsF (ev vb sb cb hb nb : Nat) (wc : World) : Prop where
  e1 : ev < wc.heap.size
  v1 : vb < wc.heap.size
  s1 : sb < wc.heap.size
  c1 : cb < wc.heap.size
  h1 : wc.heap.size ≤ hb
  n1 : wc.heap.size ≤ nb
  ne : hb ≠ nb
structure DsJ (g : Gram) (s : At.Sys) (L : List Nd) (ev tb eb vb sb cb : Nat) (wc : World) (wb hb : Nat) (H : Inst → Option Int) (ch nb : Nat) (C : Inst → Bool) (c : Nat) (X : GetS) (C2 : Inst → Bool) (c2 : Nat) (w : World) : Prop where
  ev : EvS g s L ev tb eb vb sb cb wc C c X w
  nw : SetN nb C2 c2 w
  cn : CnS (allI g s L) C2 c2
  wd : WdS g s L wb w
  hv : HvM hb H ch w
def DsI (g : Gram) (s : At.Sys) (L : List Nd) (ev tb eb vb sb cb : Nat) (wc : World) (wb hb : Nat) (H : Inst → Option Int) (ch nb : Nat) (w : World) : Prop :=
  ∃ C c X C2, DsJ g s L ev tb eb vb sb cb wc wb hb H ch nb C c X C2 c w ∧ ∀ j, C2 j = true ↔ C j = true
section
variable {g : Gram} {s : At.Sys} {L : List Nd} {ev tb eb vb sb cb wb hb ch nb c c2 : Nat} {wc w w' : World} {H : Inst → Option Int} {C C2 : Inst → Bool} {X : GetS}
theorem DsJ.below (h : DsJ g s L ev tb eb vb sb cb wc wb hb H ch nb C c X C2 c2 w) (hb' : Below w.heap.size w w') : DsJ g s L ev tb eb vb sb cb wc wb hb H ch nb C c X C2 c2 w' :=
  ⟨h.ev.below hb', h.nw.keep hb', h.cn, h.wd.below hb', h.hv.keep hb'⟩
theorem DsI.below (h : DsI g s L ev tb eb vb sb cb wc wb hb H ch nb w) (hb' : Below w.heap.size w w') : DsI g s L ev tb eb vb sb cb wc wb hb H ch nb w' := by
  obtain ⟨C, c, X, C2, h1, h2⟩ := h
  exact ⟨C, c, X, C2, h1.below hb', h2⟩
theorem DsJ.value {C' : Inst → Bool} {c' : Nat} {Y : GetS} (h : DsJ g s L ev tb eb vb sb cb wc wb hb H ch nb C c X C2 c2 w) (hF : DsF ev vb sb cb hb nb wc) (he : EvS g s L ev tb eb vb sb cb wc C' c' Y w') (hk : Keeps (fun k => k = vb ∨ k = sb ∨ k = cb) w w') : DsJ g s L ev tb eb vb sb cb wc wb hb H ch nb C' c' Y C2 c2 w' := by
  have k1 := hF.v1
  have k2 := hF.s1
  have k3 := hF.c1
  have k4 := hF.h1
  have k5 := hF.n1
  exact ⟨he, h.nw.blk (hk.block nb h.nw.lt (by omega)), h.cn, h.wd.maps hk h.ev.areMaps, h.hv.blk (hk.block hb h.hv.lt (by omega))⟩
theorem DsJ.seen {C3 : Inst → Bool} {c3 : Nat} (h : DsJ g s L ev tb eb vb sb cb wc wb hb H ch nb C c X C2 c2 w) (hF : DsF ev vb sb cb hb nb wc) (hk : Keeps (fun k => k = nb) w w') (hs : SetN nb C3 c3 w') (hc : CnS (allI g s L) C3 c3) : DsJ g s L ev tb eb vb sb cb wc wb hb H ch nb C c X C3 c3 w' := by
  have k0 := hF.e1
  have k1 := hF.v1
  have k2 := hF.s1
  have k3 := hF.c1
  have k4 := hF.h1
  have k5 := hF.n1
  have k6 := hF.ne
  have hm : ∃ es ck, w.heap[nb]? = some (.map es ck) := by
    obtain ⟨FF, ⟨D, ⟨es, ck, h1, _⟩, _⟩, _⟩ := h.nw
    exact ⟨es, ck, h1⟩
  exact ⟨⟨Keeps.trans h.ev.keep hk (fun k e => .inr (by omega)), h.ev.inv, h.ev.mem.keepsS hk (by omega) (by omega), h.ev.set.blk (hk.block cb h.ev.set.lt (by omega)), h.ev.cn, h.ev.cl, hk.cells h.ev.box (by omega)⟩, hs, hc, h.wd.maps hk (fun b e => by subst e; exact hm), h.hv.blk (hk.block hb h.hv.lt (by omega))⟩
end
theorem atI_i64 {L : List Nd} (hK : KidsOk L) (h0 : 0 < L.length) (hl : L.length ≤ 1000000) (p : List Int) : i64 (atI L p) := by
  unfold atI i64
  cases e : atN L 0 p with
  | none => simp only; omega
  | some m =>
    simp only
    have := atN_lt hK p 0 m h0 e
    omega
theorem seen_next {C2 C3 CB : Inst → Bool} {Lf : Inst → Prop} {u : Inst} (h : ∀ j, C3 j = true ↔ C2 j = true ∨ (CB j = true ∧ ¬ Lf j)) (hu : CB u = true) : ∀ j, putC C3 u j = true ↔ C2 j = true ∨ (CB j = true ∧ ¬ rmvI Lf u j) := fun j => by
  unfold putC rmvI
  by_cases e : j = u
  · subst e
    rw [if_pos rfl]
    exact ⟨fun _ => .inr ⟨hu, fun h1 => h1.2 rfl⟩, fun _ => rfl⟩
  · rw [if_neg e, h j]
    constructor
    · rintro (h1 | ⟨h1, h2⟩)
      · exact .inl h1
      · exact .inr ⟨h1, fun h3 => h2 h3.1⟩
    · rintro (h1 | ⟨h1, h2⟩)
      · exact .inl h1
      · exact .inr ⟨h1, fun h3 => h2 ⟨h3, e⟩⟩
end Dm
end Go.Proofs.YtfocooehnmpndaaGreat
namespace Go.Proofs.YtfocooehnmpndaaGreat
open Go.RowKit
namespace Dm
open At (Ref okEqK checkS leavesS)
set_option maxHeartbeats 8000000 in
set_option maxRecDepth 100000 in
theorem lawDS (g : Gram) (s : At.Sys) (T : Tree) (paths : List (List Int)) (attrs : List Int) (vr va vq vk vp vt : Value) (w : World) (hok : ∀ q ∈ s.eqs, okEqK q) (hsz : ∀ q ∈ s.eqs, q.is'.size ≤ 1048576) (hal : s.attrs.length ≤ 2000000) (hN : (nodes T).length ≤ 1099511627776) (hi : ∀ a ∈ attrs, i64 a)
    (hR : Rd AnyB w (.sl (g.rules.map Rule.d)) [vr]) (hA : Rd AnyB w (.sl (s.attrs.map At.Attr.d)) [va]) (hQ : Rd AnyB w (.sl (s.eqs.map At.Eqn.d)) [vq]) (hT : Rd AnyB w (.sl (T.kids.map Tree.d)) [vk]) (hP : Rd AnyB w (.sl (paths.map D.ints)) [vp]) (hB : Sl w vt (ints attrs)) :
    Calls Tryz.prog 4 #[.agg #[.int .i64 g.terms, .int .i64 g.nons, .int .i64 g.start, vr], .agg #[va, vq], .agg #[.int .i64 T.rule, .int .i64 T.term, vk], vp, vt] w (fun e w' => e = .returned (.bool true) ∧ Below w.heap.size w w') := by
  obtain ⟨ra, rc, rfl, -, -⟩ := hR.form
  obtain ⟨aa, ac, rfl, -, -⟩ := hA.form
  obtain ⟨qa, qc, rfl, -, -⟩ := hQ.form
  obtain ⟨ta, tc, rfl, -, -⟩ := hT.form
  obtain ⟨pa, pc, rfl, hpc1, hpc2⟩ := hP.form
  have HPC : Hid (paths.length ≤ 9223372036854775807) := by rw [List.length_map] at hpc1; unfold maxLen at hpc2; show _ ≤ _; omega
  clear hpc1 hpc2
  obtain ⟨ba, bc, rfl⟩ := hB.form
  rw [List.length_map] at hR hA hQ hT hP
  rw [ints_len] at hB
  simp only [List.length_map, ints_len]
  obtain ⟨w0, HW0⟩ := nameIt (((w.alloc (.cells #[.int .i64 g.terms, .int .i64 g.nons, .int .i64 g.start, .slice ra g.rules.length rc] 24)).alloc (.cells #[.slice aa s.attrs.length ac, .slice qa s.eqs.length qc] 28)).alloc (.cells #[.int .i64 T.rule, .int .i64 T.term, .slice ta T.kids.length tc] 31))
  have HB0 : Hid (Below w.heap.size w w0) := by rw [← HW0.out]; exact (((Below.refl _ _).alloc (Nat.le_refl _) _).alloc (by simp) _).alloc (by simp; omega) _
  have X0 : Hid (w0.heap[w.heap.size]? = some (.cells #[.int .i64 g.terms, .int .i64 g.nons, .int .i64 g.start, .slice ra g.rules.length rc] 24 (0, 0))) := by
    rw [← HW0.out]; exact bx_keep (bx_keep (bx_new _ _ _ rfl) ((Below.refl _ _).alloc (Nat.le_refl _) _)) ((Below.refl _ _).alloc (Nat.le_refl _) _)
  have X1 : Hid (w0.heap[w.heap.size + 1]? = some (.cells #[.slice aa s.attrs.length ac, .slice qa s.eqs.length qc] 28 (0, 0))) := by
    rw [← HW0.out]; exact bx_keep (bx_new _ _ _ (by simp)) ((Below.refl _ _).alloc (Nat.le_refl _) _)
  have X2 : Hid (w0.heap[w.heap.size + 1 + 1]? = some (.cells #[.int .i64 T.rule, .int .i64 T.term, .slice ta T.kids.length tc] 31 (0, 0))) := by
    rw [← HW0.out]; exact bx_new _ _ _ (by simp)
  have HPW := Lib.hid (fun (W : World) (hb : Below w.heap.size w W) => hP.below hb)
  have HBW := Lib.hid (fun (W : World) (hb : Below w.heap.size w W) => hB.keep hb)
  have HI64 := Lib.hid hi
  have CN := Lib.hid (fun (W : World) (hb : Below w.heap.size w W) => newDE g s T hok hal hN ra aa qa ta rc ac qc tc W (hR.below hb) (hA.below hb) (hQ.below hb) (hT.below hb))
  have CFA := Lib.hid (fun (W : World) (hb : Below w.heap.size w W) => At.faultyE g s ra aa qa rc ac qc W hsz (hR.below hb) (hA.below hb) (hQ.below hb))
  have CSF := Lib.hid (fun (W : World) (hb : Below w.heap.size w W) => startFaultE g T hN ra ta rc tc W (hR.below hb) (hT.below hb))
  have CAT : Hid (∀ W : World, Below w.heap.size w W → chkD g s T = 0 → Calls Tryz.prog 13 #[.agg #[.int .i64 g.terms, .int .i64 g.nons, .int .i64 g.start, .slice ra g.rules.length rc], .agg #[.slice aa s.attrs.length ac, .slice qa s.eqs.length qc], .agg #[.int .i64 T.rule, .int .i64 T.term, .slice ta T.kids.length tc]] W (WnPost g s T W)) := fun W hb h => attributesE g s T (chk_ok h).2.1 hal (chk_size h) ra aa qa rc ac qc _ W (hR.below hb) (hA.below hb) (hQ.below hb) (hT.below hb)
  have CVL : Hid (∀ (W : World) (wb : Nat), chkD g s T = 0 → WdS g s (tabT T) wb W → Calls Tryz.prog 18 #[.pointer (some ⟨wb, 0, none⟩)] W (VlPostF g s (tabT T) W)) := fun W wb h h1 => valsFE g s T (chk_ok h).1 (chk_ok h).2.1 (chk_ok h).2.2.1 hal (chk_size h) wb W h1
  have CVA := Lib.hid (fun (h : chkD g s T = 0) => valueE g s T (chk_ok h).1 (chk_ok h).2.1 (chk_ok h).2.2.1 hal (chk_size h))
  have CBL := Lib.hid (fun (h : chkD g s T = 0) => belowE g s T (chk_ok h).1 (chk_ok h).2.1 (chk_ok h).2.2.1 hal (chk_size h))
  have COW := Lib.hid (fun (h : chkD g s T = 0) => ownerE g s (tabT T) (kids_ok (chk_ok h).2.1) (by rw [tab_len, tsz_eq]; omega))
  have HWH : Hid (chkD g s T = 0 → ∀ H c, VlS g s (tabT T) H c → ClosedV g s (tabT T) H → ∀ i ∈ allI g s (tabT T), ∀ v, Vl s (tabT T) i v → H i = some v) := fun h H c h1 h2 i hi v hv => whole h1.sound (A := fun i => i ∈ allI g s (tabT T)) (fun i j h3 h4 => needs_all (chk_ok h).1 (chk_ok h).2.1 (chk_ok h).2.2.1 h3 h4) h2 hv hi
  have HOKI : Hid (chkD g s T = 0 → ∀ i ∈ allI g s (tabT T), okI i) := fun h i hi => okI_of (chk_ok h).1 (chk_ok h).2.1 (chk_ok h).2.2.1 hal (chk_size h) hi
  have HNDA : Hid (allI g s (tabT T)).Nodup := allI_nodup g s (tabT T)
  have HLEN : Hid (chkD g s T = 0 → (allI g s (tabT T)).length ≤ 10000000000 ∧ (tabT T).length ≤ 1000000) := fun h => by
    have h0 : (tabT T).length ≤ 5000 := by rw [tab_len, tsz_nodes T (chk_ok h).2.1]; exact (chk_ok h).2.2.2
    exact ⟨Nat.le_trans (allI_leX g s (tabT T)) (Nat.mul_le_mul h0 hal), by omega⟩
  have HKO : Hid (chkD g s T = 0 → KidsOk (tabT T) ∧ 0 < (tabT T).length) := fun h => ⟨kids_ok (chk_ok h).2.1, by rw [tab_len, tsz_eq]; omega⟩
  have HWANT : Hid (chkD g s T = if checkS g s ≠ 0 then checkS g s else stF g T) := chk_want g s T
  obtain ⟨Z, HZ⟩ := nameIt (chkD g s T)
  obtain ⟨C, HC⟩ := nameIt (checkS g s)
  obtain ⟨S, HS⟩ := nameIt (stF g T)
  obtain ⟨L, HL⟩ := nameIt (tabT T)
  have CNP : Hid (∀ W : World, Below w.heap.size w W → ∀ e w', NewDPost g s T W e w' → ∃ v er, e = .returned (.tuple #[v, .int .i64 er]) ∧ Below W.heap.size W w' ∧ (Z ≠ 0 → er = Z ∧ v = .pointer none) ∧
      (Z = 0 → er = 0 ∧ ∃ ev tb eb vb sb cb, v = .pointer (some ⟨ev, 0, none⟩) ∧ EvB g s L ev tb eb vb sb cb w' ∧ EvS g s L ev tb eb vb sb cb w' (fun _ => false) 0 ⟨fun _ => 0, fun _ => 0⟩ w' ∧ W.heap.size ≤ vb ∧ W.heap.size ≤ sb ∧ W.heap.size ≤ cb ∧ W.heap.size ≤ ev)) := fun W hb e w' h => by
    obtain ⟨v, er, h1, h2, h3, h4⟩ := h
    rw [HZ.out] at h3 h4
    rw [HL.out] at h4
    exact ⟨v, er, h1, h2, h3, h4⟩
  have CATP : Hid (∀ (W : World) e w', WnPost g s T W e w' → ∃ wb, e = .returned (.pointer (some ⟨wb, 0, none⟩)) ∧ WdS g s L wb w' ∧ Below W.heap.size W w') := fun W e w' h => by
    obtain ⟨wb, h1, h2, h3⟩ := h
    rw [HL.out] at h2
    exact ⟨wb, h1, h2, h3⟩
  simp only [HZ.out] at CAT CVL CVA CBL COW HWH HOKI HLEN HKO
  simp only [HL.out] at CVL CVA CBL COW HWH HOKI HLEN HKO HNDA
  rw [HZ.out, HC.out, HS.out] at HWANT
  simp only [HC.out] at CFA
  simp only [HS.out] at CSF
  obtain ⟨rl, HRL⟩ := nameIt g.rules.length
  obtain ⟨al, HAL⟩ := nameIt s.attrs.length
  obtain ⟨ql, HQLn⟩ := nameIt s.eqs.length
  obtain ⟨gt, HGT⟩ := nameIt g.terms
  obtain ⟨gn, HGN⟩ := nameIt g.nons
  obtain ⟨gs, HGS⟩ := nameIt g.start
  obtain ⟨tr, HTR⟩ := nameIt T.rule
  obtain ⟨tm, HTM⟩ := nameIt T.term
  obtain ⟨nk, HNK⟩ := nameIt T.kids.length
  obtain ⟨pl, HPL⟩ := nameIt paths.length
  obtain ⟨bl, HBL⟩ := nameIt attrs.length
  rw [HRL.out, HAL.out, HQLn.out, HGT.out, HGN.out, HGS.out, HTR.out, HTM.out, HNK.out, HPL.out, HBL.out]
  rw [HRL.out, HAL.out, HQLn.out, HGT.out, HGN.out, HGS.out, HTR.out, HTM.out, HNK.out] at HW0
  rw [HRL.out, HGT.out, HGN.out, HGS.out] at X0
  rw [HAL.out, HQLn.out] at X1
  rw [HTR.out, HTM.out, HNK.out] at X2
  simp only [HRL.out, HAL.out, HQLn.out, HGT.out, HGN.out, HGS.out, HTR.out, HTM.out, HNK.out] at CN CAT
  simp only [HRL.out, HAL.out, HQLn.out, HGT.out, HGN.out, HGS.out] at CFA
  simp only [HRL.out, HGT.out, HGN.out, HGS.out, HTR.out, HTM.out, HNK.out] at CSF
  simp only [HPL.out] at HPW
  rw [HPL.out] at HPC
  simp only [HBL.out] at HBW
  have CLI := Lib.hid (listE w0)
  clear hok hsz hal hN hR hA hQ hT hP hB hi
  go_enter Tryz.func4, Tryz.ntmps4
  go_upto_region 1 with fail
  rw [HW0.out]
  clear HW0
  go_wp2_with (refine CLI.out.mono ?_)
  rintro e1 w1 ⟨v1, rfl, hr1, hb1⟩
  have HB1 : Hid (Below w0.heap.size w0 w1) := hb1
  have HR1 := Lib.hid hr1
  obtain ⟨fa, fc, rfl, -, -⟩ := hr1.form
  have CLE := Lib.hid (At.leavesE w1)
  clear hr1 hb1 CLI
  go_wp2_with (refine CLE.out.mono ?_)
  rintro e2 w2 ⟨u, u', rfl, ha2, hq2, hb2⟩
  have HB2 : Hid (Below w0.heap.size w0 w2) := HB1.out.trans (hb2.mono HB1.out.size)
  have HR2 := Lib.hid (HR1.out.below hb2)
  have HA2 := Lib.hid ha2
  have HQ2 := Lib.hid hq2
  obtain ⟨ga, gc, rfl, -, -⟩ := ha2.form
  obtain ⟨ha', hc', rfl, -, -⟩ := hq2.form
  have CTW := Lib.hid (twoE w2)
  clear ha2 hq2 hb2 CLE
  go_wp2_with (refine CTW.out.mono ?_)
  rintro e3 w3 ⟨v3, rfl, ht3, hb3⟩
  obtain ⟨ka, kc, rfl, -, -⟩ := ht3.form
  have HB3 : Hid (Below w0.heap.size w0 w3) := HB2.out.trans (hb3.mono HB2.out.size)
  have CFX := Lib.hid (newDE listG leavesS twoT At.leaves_okK (by decide) (by decide) fa ga ha' ka fc gc hc' kc w3 (HR2.out.below hb3) (HA2.out.below hb3) (HQ2.out.below hb3) ht3)
  clear ht3 hb3 CTW HR1 HR2 HA2 HQ2
  go_wp2_with (refine CFX.out.mono ?_)
  rintro e4 w4 ⟨v4, er, rfl, hb4, -, h4⟩
  obtain ⟨rfl, ev, tb, eb, vb, sb, cb, rfl, hE4, hS4, k1, k2, k3, k4⟩ := h4 two_chk
  have CV4 := Lib.hid (valueE listG leavesS twoT (chk_ok two_chk).1 (chk_ok two_chk).2.1 (chk_ok two_chk).2.2.1 (by decide) (chk_size two_chk) ev tb eb vb sb cb w4 hE4 (fun _ => false) 0 ⟨fun _ => 0, fun _ => 0⟩ [] 0 (.slice none 0 0) w4 hS4 (sl_of_own (B := 0) (e := 3) (World.ownsRow_nil _ _ _ _)))
  clear h4 hE4 hS4 CFX
  go_wp2_with (refine CV4.out.mono ?_)
  rintro e5 w5 ⟨r5, er5, C5, c5, Y5, rfl, hS5, hK5, -, -, h5⟩
  obtain ⟨rfl, rfl, hC5⟩ := h5 (0, 0) 2 two_inst two_vl0
  obtain rfl := two_cnt hS5.cn hC5
  have CC5 := Lib.hid (evCountE listG leavesS (tabT twoT) ev tb eb vb sb cb w4 C5 2 Y5 w5 hS5)
  have hb45 : Below w3.heap.size w3 w5 := hb4.trans (hK5.below (fun k hk => by rcases hk with rfl | rfl | rfl <;> assumption) hb4.size)
  have HB5 : Hid (Below w0.heap.size w0 w5) := HB3.out.trans (hb45.mono HB3.out.size)
  clear hb4 hb45 hS5 hK5 h5 hC5 k1 k2 k3 k4 CV4
  go_wp2_with (refine CC5.out.mono ?_)
  rintro e6 w6 ⟨rfl, hb6⟩
  have HB6 : Hid (Below w0.heap.size w0 w6) := HB5.out.trans (hb6.mono HB5.out.size)
  have HBW6 : Hid (Below w.heap.size w w6) := HB0.out.trans (HB6.out.mono HB0.out.size)
  have CF6 := Lib.hid (CFA.out w6 HBW6.out)
  clear hb6 CC5 HB1 HB2 HB3 HB5
  obtain ⟨x0, x1, x2, x3⟩ := bx_cells4 (bx_keep X0.out HB6.out)
  obtain ⟨y0, y1⟩ := bx_cells2 (bx_keep X1.out HB6.out)
  go_wp2_with (refine CF6.out.mono ?_)
  rintro e7 w7 ⟨rfl, hb7⟩
  have HB7 : Hid (Below w0.heap.size w0 w7) := HB6.out.trans (hb7.mono HB6.out.size)
  have HBW7 : Hid (Below w.heap.size w w7) := HB0.out.trans (HB7.out.mono HB0.out.size)
  clear hb7 x0 x1 x2 x3 y0 y1 CF6
  by_cases hC : C = 0
  · have hC1 : (C == 0) = true := by simpa using hC
    have HZS : Hid (Z = S) := by show _ = _; rw [HWANT.out, if_neg (by simpa using hC)]
    have CS7 := Lib.hid (CSF.out w7 HBW7.out)
    obtain ⟨x0, x1, x2, x3⟩ := bx_cells4 (bx_keep X0.out HB7.out)
    obtain ⟨z0, z1, z2⟩ := bx_cells3 (bx_keep X2.out HB7.out)
    clear hC HWANT
    go_wp2_with (refine CS7.out.mono ?_)
    rintro e8 w8 ⟨rfl, hb8⟩
    have HB8 : Hid (Below w0.heap.size w0 w8) := HB7.out.trans (hb8.mono HB7.out.size)
    have HBW8 : Hid (Below w.heap.size w w8) := HB0.out.trans (HB8.out.mono HB0.out.size)
    clear hb8 x0 x1 x2 x3 z0 z1 z2 CS7
    have CN8 := Lib.hid (CN.out w8 HBW8.out)
    obtain ⟨x0, x1, x2, x3⟩ := bx_cells4 (bx_keep X0.out HB8.out)
    obtain ⟨y0, y1⟩ := bx_cells2 (bx_keep X1.out HB8.out)
    obtain ⟨z0, z1, z2⟩ := bx_cells3 (bx_keep X2.out HB8.out)
    by_cases hS : S = 0
    · have HZ0 : Hid (Z = 0) := HZS.out.trans hS
      have HS0 : Hid (S = 0) := hS
      clear hS
      go_wp2_with (refine CN8.out.mono ?_)
      rintro e9 w9 h9
      obtain ⟨v9, er, rfl, hb9, -, h9'⟩ := CNP.out w8 HBW8.out e9 w9 h9
      obtain ⟨rfl, ev, tb, eb, vb, sb, cb, rfl, hE9, hS9, k1, k2, k3, k4⟩ := h9' HZ0.out
      have HB9 : Hid (Below w0.heap.size w0 w9) := HB8.out.trans (hb9.mono HB8.out.size)
      have HBW9 : Hid (Below w.heap.size w w9) := HB0.out.trans (HB9.out.mono HB0.out.size)
      have HE9 := Lib.hid hE9
      have HS9 := Lib.hid hS9
      have HGE : Hid (w.heap.size ≤ vb ∧ w.heap.size ≤ sb ∧ w.heap.size ≤ cb) := by have h1 := HBW8.out.size; exact ⟨by omega, by omega, by omega⟩
      have CA9 := Lib.hid (CAT.out w9 HBW9.out HZ0.out)
      clear h9 hb9 h9' hE9 hS9 k1 k2 k3 k4 CN8 x0 x1 x2 x3 y0 y1 z0 z1 z2
      obtain ⟨x0, x1, x2, x3⟩ := bx_cells4 (bx_keep X0.out HB9.out)
      obtain ⟨y0, y1⟩ := bx_cells2 (bx_keep X1.out HB9.out)
      obtain ⟨z0, z1, z2⟩ := bx_cells3 (bx_keep X2.out HB9.out)
      obtain rfl := HS0.out
      go_wp2_with (refine CA9.out.mono ?_)
      rintro eA wA hA
      obtain ⟨wb, rfl, hWA, hbA⟩ := CATP.out w9 eA wA hA
      have CL9 := Lib.hid (CVL.out wA wb HZ0.out hWA)
      have HWA := Lib.hid hWA
      have HBA : Hid (Below w9.heap.size w9 wA) := hbA
      clear hA hWA hbA CA9 x0 x1 x2 x3 y0 y1 z0 z1 z2
      go_wp2_with (refine CL9.out.mono ?_)
      rintro eB wB ⟨hb, H, ch, rfl, hV, hH, hcl, hbB, hge⟩
      have HBB : Hid (Below w9.heap.size w9 wB) := HBA.out.trans (hbB.mono HBA.out.size)
      obtain ⟨wC, HWC⟩ := nameIt (wB.alloc (.map #[] 0))
      have hbC : Below wB.heap.size wB wC := by rw [← HWC.out]; exact (Below.refl _ _).alloc (Nat.le_refl _) _
      have HBC : Hid (Below w9.heap.size w9 wC) := HBB.out.trans (hbC.mono HBB.out.size)
      obtain ⟨nb, HNB⟩ := nameIt wB.heap.size
      have HNN : Hid (SetN nb (fun _ => false) 0 wC) := by rw [← HWC.out]; exact SetN.start _ HNB.out.symm
      have HF : Hid (DsF ev vb sb cb hb nb w9) := ⟨(Array.getElem?_eq_some_iff.1 HS9.out.box).1, HE9.out.hvb, HE9.out.hsb, HS9.out.set.lt, Nat.le_trans HBA.out.size hge, by rw [← HNB.out]; exact HBB.out.size, by have h1 := hH.lt; have h2 : wB.heap.size = nb := HNB.out; omega⟩
      have HDI : Hid (DsI g s L ev tb eb vb sb cb w9 wb hb H ch nb wC) := ⟨fun _ => false, 0, ⟨fun _ => 0, fun _ => 0⟩, fun _ => false, ⟨HS9.out.below HBC.out, HNN.out, CnS.start _, HWA.out.below ((hbB.trans (hbC.mono hbB.size))), hH.keep hbC⟩, fun _ => Iff.rfl⟩
      have HBWC : Hid (Below w.heap.size w wC) := HBW9.out.trans (HBC.out.mono HBW9.out.size)
      have HVH := Lib.hid (HWH.out HZ0.out H ch hV hcl)
      have HVS : Hid (SoundV s L H) := hV.sound
      have hmm := @run_makeMap Tryz.prog
      clear hV hH hcl hbB hge hbC CL9 HNN
      go_upto_region 15 with fail
      rw [HWC.out]
      try rw [HNB.out]
      clear HWC hmm
      go_wp2_with fail
      go_loopg [101] pl (fun gg v101 wr => ∃ i : Nat, i ≤ pl ∧ pl - i ≤ gg ∧ v101 = .int .i64 i ∧ Hid (DsI g s L ev tb eb vb sb cb w9 wb hb H ch nb wr) ∧ Hid (Below w.heap.size w wr))
      case atStart => exact ⟨0, by omega, by omega, rfl, HDI, HBWC⟩
      case round =>
        clear HDI HBWC X0 X1 X2
        obtain ⟨i, hi, hg, rfl, HI, HBR⟩ := hrel
        by_cases hlt : i < pl
        · have hlt' : (i : Int) < (pl : Int) := by omega
          have hi0 : (0 : Int) ≤ (i : Int) := by omega
          have hpl := HPC.out
          obtain ⟨pb, off, pv, hae, pcell, hsl⟩ := rowsI_at (HPW.out wr HBR.out) (i := i) (by rw [HPL.out]; exact hlt)
          obtain ⟨p, HPI⟩ := nameIt (paths[i]'(by rw [HPL.out]; exact hlt))
          rw [HPI.out] at hsl
          obtain ⟨qa', qc', rfl⟩ := hsl.form
          obtain ⟨qn, HQN⟩ := nameIt (ints p).length
          rw [HQN.out] at hsl pcell
          have HSL := Lib.hid hsl
          subst hae
          clear hsl
          have hbs := HBW.out wr HBR.out
          obtain ⟨a, HAa⟩ := nameIt (if h : i < attrs.length then attrs[i] else 0)
          have HA64 : Hid (i64 a) := by
            show i64 a
            rw [← HAa.out]
            by_cases h : i < attrs.length
            · rw [dif_pos h]; exact HI64.out _ (List.getElem_mem h)
            · rw [dif_neg h]; unfold i64; omega
          have HBS := Lib.hid hbs
          obtain ⟨tst, HTST⟩ := nameIt (decide ((i : Int) < (bl : Int)))
          have htst := HTST.out
          clear hbs
          go_upto_if 109 with fail
          clear htst
          go_cut [23] (fun t23 wx => t23 = .int .i64 a ∧ Hid (wr = wx))
          case first =>
            cases tst with
            | true =>
              have hlb : i < bl := by have h1 := HTST.out; simp at h1; exact h1
              have hlb' : (i : Int) < (bl : Int) := by omega
              obtain ⟨ab, ao, hae2, hcl2⟩ := HBS.out.at hlb
              have hcell2 := hcl2 i (by rw [ints_len, HBL.out]; exact hlb)
              have hai : (ints attrs)[i]'(by rw [ints_len, HBL.out]; exact hlb) = .int .i64 a := by
                rw [← HAa.out, dif_pos (by rw [HBL.out]; exact hlb)]
                simp [ints]
              rw [hai] at hcell2
              subst hae2
              clear hai hcl2
              go_wp2_with fail
              go_meet
              exact ⟨rfl, Lib.hid rfl⟩
            | false =>
              have hlb : ¬ i < bl := by have h1 := HTST.out; simp at h1; omega
              have ha0 : a = 0 := by rw [← HAa.out, dif_neg (by rw [HBL.out]; exact hlb)]
              subst ha0
              go_wp2_with fail
              go_meet
              exact ⟨rfl, Lib.hid rfl⟩
          case rest =>
            obtain ⟨rfl, HWX⟩ := hcut
            obtain rfl := HWX.out
            clear HWX HTST HAa
            obtain ⟨C1, c1, X1, C2, HJ', HEQ'⟩ := HI.out
            have HJ := Lib.hid HJ'
            have HEQ : Hid (∀ j, C2 j = true ↔ C1 j = true) := HEQ'
            have CO := Lib.hid (COW.out HZ0.out wb p _ wr HJ'.wd HSL.out)
            clear HJ' HEQ'
            obtain ⟨nd, HND⟩ := nameIt (atI L p)
            rw [HND.out] at CO
            go_wp2_with (refine CO.out.mono ?_)
            rintro e3 w3 ⟨rfl, hb3⟩
            obtain ⟨w4, HW4⟩ := nameIt (w3.alloc (.cells #[.int .i64 nd, .int .i64 a] 59))
            have hb4 : Below w3.heap.size w3 w4 := by rw [← HW4.out]; exact (Below.refl _ _).alloc (Nat.le_refl _) _
            have hb34 : Below wr.heap.size wr w4 := hb3.trans (hb4.mono hb3.size)
            have X4 : Hid (w4.heap[w3.heap.size]? = some (.cells #[.int .i64 nd, .int .i64 a] 59 (0, 0))) := by rw [← HW4.out]; exact bx_new _ _ _ rfl
            have HXG : Hid (w9.heap.size ≤ w3.heap.size) := Nat.le_trans HJ.out.ev.keep.size hb3.size
            obtain ⟨xb, HXB⟩ := nameIt w3.heap.size
            rw [HXB.out] at X4 HXG
            have HJ4 := Lib.hid (HJ.out.below hb34)
            have HB4 : Hid (Below w.heap.size w w4) := HBR.out.trans (hb34.mono HBR.out.size)
            have CV4 := Lib.hid (CVA.out HZ0.out ev tb eb vb sb cb w9 HE9.out C1 c1 X1 p a _ w4 HJ4.out.ev (HSL.out.keep hb34))
            clear hb3 hb4 hb34 CO
            go_upto_region 22 with fail
            rw [HW4.out]
            try rw [HXB.out]
            clear HW4
            go_wp2_with (refine CV4.out.mono ?_)
            rintro e5 w5 ⟨r, er, C5, c5, Y5, rfl, hS5, hK5, h5a, h5b, h5c⟩
            have HJ5 := Lib.hid (HJ4.out.value HF.out hS5 hK5)
            have HB5 : Hid (Below w.heap.size w w5) := HB4.out.trans (hK5.below (fun k hk => by have h1 := HGE.out; rcases hk with rfl | rfl | rfl; exact h1.1; exact h1.2.1; exact h1.2.2) HB4.out.size)
            have X5 : Hid (w5.heap[xb]? = some (.cells #[.int .i64 nd, .int .i64 a] 59 (0, 0))) := hK5.cells X4.out (fun hk => by have h1 := HF.out.v1; have h2 := HF.out.s1; have h3 := HF.out.c1; have h4 := HXG.out; omega)
            have H5A : Hid ((∀ i, ¬ instOf g s L p a i) → r = 0 ∧ er = 5 ∧ C5 = C1 ∧ c5 = c1) := h5a
            have H5B : Hid (∀ i, instOf g s L p a i → (∀ v, ¬ Vl s L i v) → r = 0 ∧ er = 9 ∧ C5 = C1 ∧ c5 = c1) := h5b
            have H5C : Hid (∀ i v, instOf g s L p a i → Vl s L i v → r = v ∧ er = 0 ∧ ∀ j, C5 j = true ↔ C1 j = true ∨ Rs s L i j) := h5c
            clear hS5 hK5 h5a h5b h5c CV4 X4 HJ4 HJ
            obtain ⟨q0, q1, q2, q3, aa', qa2, na, ua, pa', ka', la, ac', qc2, nc, uc, pc', kc', lc, hRD⟩ := HJ5.out.wd.read
            have CCO : Hid (∀ W, Below w5.heap.size w5 W → Calls Tryz.prog 20 #[.slice la (allI g s L).length lc, .agg #[.int .i64 nd, .int .i64 a]] W fun e w' => e = .returned (.bool (decide ((⟨nd, a⟩ : Ref) ∈ (allI g s L).map toR))) ∧ Below W.heap.size W w') := fun W hb => by
              have h1 := containsIn ((allI g s L).map toR) ⟨nd, a⟩ la lc W (by rw [List.length_map]; exact hRD.all.below hb)
              rw [List.length_map] at h1
              exact h1
            obtain ⟨AN, HAN⟩ := nameIt (allI g s L).length
            rw [HAN.out] at CCO
            have hhd := hRD.hdr
            rw [HAN.out] at hhd
            have hcap := hRD.caps
            rw [HAN.out] at hcap
            obtain ⟨⟨-, -, -, -, hc1⟩, -, -, -, -, hc2⟩ := hcap
            unfold maxLen at hc2
            obtain ⟨LN, HLN⟩ := nameIt L.length
            rw [HLN.out] at hhd
            obtain ⟨AT, HATn⟩ := nameIt s.attrs.length
            obtain ⟨QN, HQNn⟩ := nameIt s.eqs.length
            rw [HATn.out, HQNn.out] at hhd
            obtain ⟨x4, x5, x6, x7, x8, x9, x10⟩ := bx_cells11w hhd
            obtain ⟨z0, z1⟩ := bx_cells2 X5.out
            by_cases hx : ∃ n x : Nat, nd = (n : Int) ∧ a = (x : Int) ∧ (n, x) ∈ allI g s L
            · obtain ⟨n, x, rfl, rfl, hin⟩ := hx
              have HINST : Hid (instOf g s L p (x : Int) (n, x)) := ⟨HND.out, rfl, hin⟩
              have htrue : decide ((⟨(n : Int), (x : Int)⟩ : Ref) ∈ (allI g s L).map toR) = true := by
                rw [decide_eq_true_iff]
                exact List.mem_map.2 ⟨(n, x), hin, rfl⟩
              rw [htrue] at CCO
              have HOK : Hid (okI (n, x)) := HOKI.out HZ0.out _ hin
              have hlook := (HJ5.out.hv.look HOK.out).1
              have HIN := Lib.hid hin
              clear htrue hhd hRD hin
              cases eH : H (n, x) with
              | none =>
                have HNV : Hid (∀ v, ¬ Vl s L (n, x) v) := fun v hv => by
                  have h1 := HVH.out _ HIN.out v hv
                  rw [eH] at h1
                  cases h1
                obtain ⟨rfl, rfl, rfl, rfl⟩ := H5B.out _ HINST.out HNV.out
                rw [eH] at hlook
                clear eH
                simp only [Option.getD_none, Option.isSome_none] at hlook
                go_upto_region 30 with fail
                have ax10 := aft_cell x10
                have az0 := aft_cell z0
                have az1 := aft_cell z1
                clear x4 x5 x6 x7 x8 x9 x10 z0 z1 hlook
                refine wp_region_after (w0 := w5) (by kernel_rfl) (by kernel_rfl) ?_
                repeat (go_big_quiet_step (with_reducible exact Calls.after (CCO.out _ (Aft.bel _))))
                refine wpQuiet_nil ?_
                rintro w6 ⟨⟨_, hb6⟩, rfl⟩
                have HJ6 := Lib.hid (HJ5.out.below hb6)
                have HB6 : Hid (Below w.heap.size w w6) := HB5.out.trans (hb6.mono HB5.out.size)
                have X6 := Lib.hid (bx_keep X5.out hb6)
                clear hb6 ax10 az0 az1 HJ5 HB5 X5 CCO
                clear H5A H5B H5C
                have CCZ := Lib.hid (evCountE g s L ev tb eb vb sb cb w9 _ _ _ w6 HJ6.out.ev)
                have HEQZ := HEQ
                go_wp2_with (refine CCZ.out.mono ?_)
                rintro eZ wZ ⟨rfl, hbZ⟩
                have HJZ := Lib.hid (HJ6.out.below hbZ)
                have HBZ : Hid (Below w.heap.size w wZ) := HB6.out.trans (hbZ.mono HB6.out.size)
                have hlen := HJZ.out.nw.len 3
                clear hbZ CCZ
                go_upto_region 38 with fail
                clear hlen
                go_wp2_with fail
                go_roundg (pl - (i + 1))
                case measure => omega
                case rel => exact ⟨i + 1, by omega, by omega, by go_num, ⟨_, _, _, _, HJZ.out, HEQZ.out⟩, HBZ⟩
              | some val =>
                have HVV : Hid (Vl s L (n, x) val) := HVS.out _ _ eH
                obtain ⟨rfl, rfl, hC5⟩ := H5C.out _ _ HINST.out HVV.out
                have HC5 : Hid (∀ j, C5 j = true ↔ C1 j = true ∨ Rs s L (n, x) j) := hC5
                rw [eH] at hlook
                clear eH hC5
                simp only [Option.getD_some, Option.isSome_some] at hlook
                go_upto_region 30 with fail
                have ax10 := aft_cell x10
                have az0 := aft_cell z0
                have az1 := aft_cell z1
                clear x4 x5 x6 x7 x8 x9 x10 z0 z1 hlook
                refine wp_region_after (w0 := w5) (by kernel_rfl) (by kernel_rfl) ?_
                repeat (go_big_quiet_step (with_reducible exact Calls.after (CCO.out _ (Aft.bel _))))
                refine wpQuiet_nil ?_
                rintro w6 ⟨⟨_, hb6⟩, rfl⟩
                have HJ6 := Lib.hid (HJ5.out.below hb6)
                have HB6 : Hid (Below w.heap.size w w6) := HB5.out.trans (hb6.mono HB5.out.size)
                have X6 := Lib.hid (bx_keep X5.out hb6)
                clear hb6 ax10 az0 az1 HJ5 HB5 X5 CCO
                clear H5A H5B H5C
                have CBE := Lib.hid (CBL.out HZ0.out (HLEN.out HZ0.out).1 wb n x w6 HJ6.out.wd HIN.out)
                obtain ⟨z0, z1⟩ := bx_cells2 X6.out
                go_wp2_with (refine CBE.out.mono ?_)
                rintro eQ w7 ⟨ob, CB, cB, rfl, hCB, hcB, hRs, hb7, hob⟩
                have HK7 : Hid (Keeps (fun k => k = nb) w6 w7) := Below.keeps hb7
                have HCB := Lib.hid hCB
                have HRS : Hid (∀ j, CB j = true ↔ Rs s L (n, x) j) := hRs
                have HCD : Hid (∀ j, CB j = true → j ∈ allI g s L) := fun j hj => hcB.dom j hj
                have HN7 := Lib.hid (HJ6.out.nw.keep hb7)
                obtain ⟨rg, HRGN⟩ := nameIt w7.heap.size
                have HRL : Hid (nb < w6.heap.size ∧ w6.heap.size ≤ ob ∧ ob < rg ∧ w6.heap.size ≤ rg) := by
                  rw [← HRGN.out]
                  exact ⟨HJ6.out.nw.lt, hob, hCB.lt, hb7.size⟩
                clear hCB hcB hRs hb7 hob z0 z1 CBE
                go_wp2_with (first
                  | (at_range; refine wpList_range_in _ rfl _ rfl rfl HCB.out ?_; intro w8 hrg0 hb8 hs8)
                  | fail)
                try go_frame
                rw [HRGN.out] at hrg0
                rw [HRGN.out]
                have HRG := Lib.hid hrg0
                have HN8 := Lib.hid (HN7.out.keep hb8)
                have HK8 : Hid (Keeps (fun k => k = nb) w6 w8) := Keeps.more HK7.out (Below.keeps hb8)
                have HCN0 := Lib.hid HJ6.out.cn
                have HST0 : Hid (∀ j, C2 j = true ↔ C2 j = true ∨ (CB j = true ∧ ¬ CB j = true)) := fun j => ⟨.inl, fun h => by rcases h with h | ⟨h1, h2⟩; exact h; exact absurd h1 h2⟩
                clear hrg0 hb8 hs8 HN7 HK7 HCB
                go_loopg [143] cB (fun gg v143 wr => ∃ (Lf : Inst → Prop) (cnt : Nat) (C3 : Inst → Bool) (c3 : Nat), cnt ≤ gg ∧ Hid (RgN ob rg CB Lf cnt wr) ∧ Hid (SetN nb C3 c3 wr) ∧ Hid (CnS (allI g s L) C3 c3) ∧ Hid (∀ j, C3 j = true ↔ C2 j = true ∨ (CB j = true ∧ ¬ Lf j)) ∧ Hid (Keeps (fun k => k = nb) w6 wr))
                case atStart => exact ⟨_, cB, C2, _, Nat.le_refl _, HRG, HN8, HCN0, HST0, HK8⟩
                case round =>
                  clear HRG HN8 HCN0 HST0 HK8
                  obtain ⟨Lf, cnt, C3, c3, hcg, HRG, HN, HCN, HST, HK⟩ := hrel
                  obtain ⟨w8', rfl⟩ : ∃ ww : World, ww = wr := ⟨_, rfl⟩
                  go_wp2_with (first
                    | (at_next; refine wpList_next_in _ rfl _ rfl rfl HRG.out ?_ ?_)
                    | fail)
                  · intro hl0
                    have HJE := Lib.hid (HJ6.out.seen HF.out HK.out HN.out HCN.out)
                    have HBE : Hid (Below w.heap.size w w8') := HB6.out.trans (HK.out.below (fun k hk => by have h1 := HF.out.n1; have h2 := HBW9.out.size; omega) HB6.out.size)
                    have HEQE : Hid (∀ j, C3 j = true ↔ C5 j = true) := fun j => by
                      rw [HST.out, HC5.out, HEQ.out, ← HRS.out]
                      constructor
                      · rintro (h | h)
                        · exact .inl h
                        · exact .inr h.1
                      · rintro (h | h)
                        · exact .inl h
                        · exact .inr ⟨h, hl0 j.1 j.2 (HOKI.out HZ0.out j (HCD.out j h))⟩
                    obtain rfl := CnS.same HCN.out HJ6.out.ev.cn HEQE.out
                    clear HRG HN HCN HST HK hl0
                    have CCZ := Lib.hid (evCountE g s L ev tb eb vb sb cb w9 _ _ _ w8' HJE.out.ev)
                    have HEQZ := HEQE
                    go_wp2_with (refine CCZ.out.mono ?_)
                    rintro eZ wZ ⟨rfl, hbZ⟩
                    have HJZ := Lib.hid (HJE.out.below hbZ)
                    have HBZ : Hid (Below w.heap.size w wZ) := HBE.out.trans (hbZ.mono HBE.out.size)
                    have hlen := HJZ.out.nw.len 3
                    clear hbZ CCZ
                    go_upto_region 38 with fail
                    clear hlen
                    go_wp2_with fail
                    go_roundg (pl - (i + 1))
                    case measure => omega
                    case rel => exact ⟨i + 1, by omega, by omega, by go_num, ⟨_, _, _, _, HJZ.out, HEQZ.out⟩, HBZ⟩
                  · intro un ua' w9' cnt1 hu hCu hLu hrg1 hlt1 hg1 hs1 hen
                    try simp only at hen
                    have HU : Hid (okI (un, ua')) := hu
                    have HN9 := Lib.hid (HN.out.kept hg1 (fun e => by cases e; have h1 := HRL.out; omega))
                    have HK9 : Hid (Keeps (fun k => k = nb) w6 w9') := Keeps.trans HK.out (keeps_grown hg1 (S := fun k => k = rg) rfl) (fun k e => by subst e; exact .inr HRL.out.2.2.2)
                    have HRG9 := Lib.hid hrg1
                    have HCU : Hid (CB (un, ua') = true) := hCu
                    obtain ⟨w10, HW10⟩ := nameIt (w9'.alloc (.cells #[.int .i64 (un : Int), .int .i64 (ua' : Int)] 59))
                    have hb10 : Below w9'.heap.size w9' w10 := by rw [← HW10.out]; exact (Below.refl _ _).alloc (Nat.le_refl _) _
                    have HN10 := Lib.hid (HN9.out.keep hb10)
                    have HRG10 := Lib.hid (HRG9.out.kept (grown_below hb10 none) (by simp) (by simp))
                    have HK10 : Hid (Keeps (fun k => k = nb) w6 w10) := Keeps.more HK9.out (Below.keeps hb10)
                    have Y10 : Hid (w10.heap[w9'.heap.size]? = some (.cells #[.int .i64 (un : Int), .int .i64 (ua' : Int)] 59 (0, 0))) := by rw [← HW10.out]; exact bx_new _ _ _ rfl
                    obtain ⟨eb', HEB⟩ := nameIt w9'.heap.size
                    rw [HEB.out] at Y10
                    clear hu hCu hLu hrg1 hg1 hs1 hb10 HRG9 HRG HN HN9 HK HK9
                    go_upto_region 29 with fail
                    rw [HW10.out, HEB.out]
                    clear hen HW10
                    obtain ⟨y0, y1⟩ := bx_cells2 Y10.out
                    have hc3 : c3 ≤ 1000000000000000 := by have h1 := HCN.out.le; have h2 := (HLEN.out HZ0.out).1; omega
                    obtain ⟨w11, hrun, hS11, hg11⟩ := HN10.out.add hc3 HU.out
                    have HN11 := Lib.hid hS11
                    have HCN11 := Lib.hid (HCN.out.add HNDA.out (HCD.out _ HCU.out))
                    have HST11 := Lib.hid (seen_next HST.out HCU.out)
                    have HRG11 := Lib.hid (HRG10.out.kept hg11 (fun e => by cases e; have h1 := HRL.out; omega) (fun e => by cases e; have h1 := HRL.out; omega))
                    have HK11 : Hid (Keeps (fun k => k = nb) w6 w11) := Keeps.more HK10.out (keeps_grown hg11 rfl)
                    obtain ⟨c4, HC4⟩ := nameIt (if C3 (un, ua') = true then c3 else c3 + 1)
                    rw [HC4.out] at HN11 HCN11
                    clear hS11 hg11 hc3 HN10 HCN HST HRG10 HK10
                    go_wp2_with fail
                    go_roundg cnt1
                    case measure => omega
                    case rel => exact ⟨_, cnt1, _, c4, Nat.le_refl _, HRG11, HN11, HCN11, HST11, HK11⟩
            · have HNO : Hid (∀ i, ¬ instOf g s L p a i) := fun i hi => hx ⟨i.1, i.2, by rw [← HND.out]; exact hi.1, hi.2.1, hi.2.2⟩
              obtain ⟨rfl, rfl, rfl, rfl⟩ := H5A.out HNO.out
              have hfalse : decide ((⟨nd, a⟩ : Ref) ∈ (allI g s L).map toR) = false := by
                rw [decide_eq_false_iff_not]
                intro h
                obtain ⟨u, hu, e⟩ := List.mem_map.1 h
                unfold toR at e
                injection e with e1 e2
                exact hx ⟨u.1, u.2, e1.symm, e2.symm, hu⟩
              rw [hfalse] at CCO
              have HND64 : Hid (i64 nd) := by show i64 nd; rw [← HND.out]; exact atI_i64 (HKO.out HZ0.out).1 (HKO.out HZ0.out).2 (HLEN.out HZ0.out).2 p
              obtain ⟨lv, lok, hlook⟩ := HJ5.out.hv.lookAny HND64.out HA64.out
              clear hx hfalse hhd hRD
              go_upto_region 30 with fail
              have ax10 := aft_cell x10
              have az0 := aft_cell z0
              have az1 := aft_cell z1
              clear x4 x5 x6 x7 x8 x9 x10 z0 z1 hlook
              refine wp_region_after (w0 := w5) (by kernel_rfl) (by kernel_rfl) ?_
              repeat (go_big_quiet_step (with_reducible exact Calls.after (CCO.out _ (Aft.bel _))))
              refine wpQuiet_nil ?_
              rintro w6 ⟨⟨_, hb6⟩, rfl⟩
              have HJ6 := Lib.hid (HJ5.out.below hb6)
              have HB6 : Hid (Below w.heap.size w w6) := HB5.out.trans (hb6.mono HB5.out.size)
              have X6 := Lib.hid (bx_keep X5.out hb6)
              clear hb6 ax10 az0 az1 HJ5 HB5 X5 CCO
              clear H5A H5B H5C
              have CCZ := Lib.hid (evCountE g s L ev tb eb vb sb cb w9 _ _ _ w6 HJ6.out.ev)
              have HEQZ := HEQ
              go_wp2_with (refine CCZ.out.mono ?_)
              rintro eZ wZ ⟨rfl, hbZ⟩
              have HJZ := Lib.hid (HJ6.out.below hbZ)
              have HBZ : Hid (Below w.heap.size w wZ) := HB6.out.trans (hbZ.mono HB6.out.size)
              have hlen := HJZ.out.nw.len 3
              clear hbZ CCZ
              go_upto_region 38 with fail
              clear hlen
              go_wp2_with fail
              go_roundg (pl - (i + 1))
              case measure => omega
              case rel => exact ⟨i + 1, by omega, by omega, by go_num, ⟨_, _, _, _, HJZ.out, HEQZ.out⟩, HBZ⟩
        · have hlt' : ¬ (i : Int) < (pl : Int) := by omega
          go_wp2_with fail
          go_ret
          exact ⟨rfl, HBR.out⟩
    · have HZN : Hid (Z ≠ 0) := fun e => hS (HZS.out.symm.trans e)
      have hS1 : (S == 0) = false := by simpa using hS
      clear hS
      go_wp2_with (refine CN8.out.mono ?_)
      rintro e9 w9 h9
      obtain ⟨v9, er, rfl, hb9, h9', -⟩ := CNP.out w8 HBW8.out e9 w9 h9
      obtain ⟨rfl, rfl⟩ := h9' HZN.out
      have HBD : Hid (Below w.heap.size w w9) := HBW8.out.trans (hb9.mono HBW8.out.size)
      have hzs : (er == S) = true := by rw [HZS.out]; simp
      clear h9 hb9 h9' x0 x1 x2 x3 y0 y1 z0 z1 z2 CN8
      go_wp2_with fail
      all_goals (go_ret; exact ⟨rfl, HBD.out⟩)
  · have hC1 : (C == 0) = false := by simpa using hC
    have HZC : Hid (Z = C) := by show _ = _; rw [HWANT.out, if_pos (by simpa using hC)]
    have HZN : Hid (Z ≠ 0) := fun e => hC (HZC.out.symm.trans e)
    have CN7 := Lib.hid (CN.out w7 HBW7.out)
    obtain ⟨x0, x1, x2, x3⟩ := bx_cells4 (bx_keep X0.out HB7.out)
    obtain ⟨y0, y1⟩ := bx_cells2 (bx_keep X1.out HB7.out)
    obtain ⟨z0, z1, z2⟩ := bx_cells3 (bx_keep X2.out HB7.out)
    clear hC HWANT
    go_wp2_with (refine CN7.out.mono ?_)
    rintro e9 w9 h9
    obtain ⟨v9, er, rfl, hb9, h9', -⟩ := CNP.out w7 HBW7.out e9 w9 h9
    obtain ⟨rfl, rfl⟩ := h9' HZN.out
    have HBD : Hid (Below w.heap.size w w9) := HBW7.out.trans (hb9.mono HBW7.out.size)
    have hzs : (er == C) = true := by rw [HZC.out]; simp
    clear h9 hb9 h9' x0 x1 x2 x3 y0 y1 z0 z1 z2 CN7
    go_wp2_with fail
    all_goals (go_ret; exact ⟨rfl, HBD.out⟩)
end Dm
end Go.Proofs.YtfocooehnmpndaaGreat
namespace Go.Proofs.YtfocooehnmpndaaGreat
open Go.RowKit Go.ChangeShapes Go.WideShapes Go.Deep Go.Joins
namespace At
def okAttr (a : Attr) : Prop := i64 a.non
def szEq (q : Eqn) : Nat := q.is'.size
def szSys (s : Sys) : Nat := slSz szEq s.eqs
def okSys (s : Sys) : Prop := ∀ q ∈ s.eqs, okEqK q
def Sys.d (s : Sys) : D := .agg [.sl (s.attrs.map Attr.d), .sl (s.eqs.map Eqn.d)]
theorem szSys_all {s : Sys} {b : Nat} (h : szSys s ≤ b) : ∀ q ∈ s.eqs, q.is'.size ≤ b := by
  unfold szSys slSz at h
  intro q hq
  have h1 : ∀ (l : List Eqn), q ∈ l → q.is'.size ≤ (l.map szEq).sum := by
    intro l
    induction l with
    | nil => intro h; cases h
    | cons y l ih =>
      intro h
      rw [List.map_cons, List.sum_cons]
      rcases List.mem_cons.1 h with rfl | h
      · unfold szEq; omega
      · have := ih h; omega
  have := h1 _ hq
  omega
set_option maxRecDepth 100000 in
theorem opens_refF (N : Nat) : OpensF Tryz.prog 83 Ref.d one okRefI any (N + 1) :=
  opens_struct2 (c0 := 1) (c1 := 1) (fun a b => Ref.mk a b) Tryz.underlying83 ⟨rfl, rfl, by kernel_rfl, by kernel_rfl, by kernel_rfl⟩ (opens_int Tryz.underlying3 N) (opens_int Tryz.underlying3 N)
    (fun _ _ => rfl) (fun _ _ => by simp [one]) (fun _ _ h k => ⟨h, k⟩) (fun _ _ _ _ => trivial)
theorem opens_ref : Opens Tryz.prog 83 Ref.d one okRefI any := by
  intro N H enc w n cs x hn h
  exact opens_refF N H enc w n cs x (by omega) h
set_option maxRecDepth 100000 in
theorem opens_attrF (N : Nat) : OpensF Tryz.prog 88 Attr.d one okAttr any (N + 1) :=
  opens_struct2 (c0 := 1) (c1 := 1) (fun a b => Attr.mk a b) Tryz.underlying88 ⟨rfl, rfl, by kernel_rfl, by kernel_rfl, by kernel_rfl⟩ (opens_int Tryz.underlying3 N) (opens_bool Tryz.underlying4 N)
    (fun _ _ => rfl) (fun _ _ => by simp [one]) (fun _ _ h _ => h) (fun _ _ _ _ => trivial)
theorem opens_attr : Opens Tryz.prog 88 Attr.d one okAttr any := by
  intro N H enc w n cs x hn h
  exact opens_attrF N H enc w n cs x (by omega) h
theorem slSz_exprs (l : List Expr) : slSz Expr.size l = sizeL l + 1 := by
  induction l with
  | nil => simp [slSz, sizeL]
  | cons k ks ih => simp [slSz, sizeL] at ih ⊢; omega
set_option maxRecDepth 100000 in
theorem opens_exprF : ∀ N, OpensF Tryz.prog 86 Expr.d Expr.size any any N := by
  intro N
  induction N with
  | zero =>
    intro H enc w n cs x hn h
    obtain rfl : n = 0 := by omega
    simp [DataW.trod] at h
  | succ N ih =>
    exact opens_struct4 (c0 := 1) (c1 := 1) (c2 := 2) (c3 := 1) (fun a b c d => Expr.node a b c d) Tryz.underlying86 ⟨rfl, rfl, rfl, rfl, by kernel_rfl, by kernel_rfl, by kernel_rfl, by kernel_rfl, by kernel_rfl⟩ (opens_int Tryz.underlying3 N) (opens_int Tryz.underlying3 N) (opens_ref N)
      (opens_slice Tryz.underlying84 (b := 56) (by kernel_rfl) ih) (fun a b c d => by rw [Expr.d_eq]; rfl) (fun a b c d => by rw [Expr.size_eq, slSz_exprs]; simp [one, Expr.args]; omega) (fun _ _ _ _ _ _ _ _ => trivial) (fun _ _ _ _ _ _ _ _ => trivial)
theorem opens_expr : Opens Tryz.prog 86 Expr.d Expr.size any any := opens_exprF
set_option maxRecDepth 100000 in
theorem opens_eqF (N : Nat) : OpensF Tryz.prog 90 Eqn.d szEq okEqK any (N + 1) :=
  opens_struct3 (c0 := 1) (c1 := 2) (c2 := 5) (fun a b c => Eqn.mk a b c) Tryz.underlying90 ⟨rfl, rfl, rfl, by kernel_rfl, by kernel_rfl, by kernel_rfl, by kernel_rfl⟩ (opens_int Tryz.underlying3 N) (opens_ref N) (opens_expr N)
    (fun _ _ _ => rfl) (fun _ _ _ => by simp [szEq]; omega) (fun _ _ _ h k _ => ⟨h, k⟩) (fun _ _ _ _ _ _ => trivial)
theorem opens_eq : Opens Tryz.prog 90 Eqn.d szEq okEqK any := by
  intro N H enc w n cs x hn h
  exact opens_eqF N H enc w n cs x (by omega) h
set_option maxRecDepth 100000 in
theorem open_sysV {W : World} {base : Nat} {v : Value} {s : Sys} (hv : Value.okWide Tryz.prog W .any base 28 v) (h : Rd AnyB W s.d v.cells.toList) : ∃ u u', v = .agg #[u, u'] ∧ Rd AnyB W (.sl (s.attrs.map Attr.d)) [u] ∧ Rd AnyB W (.sl (s.eqs.map Eqn.d)) [u'] := by
  obtain ⟨cs, rfl, hsz⟩ := okWide_struct Tryz.underlying28 hv
  obtain ⟨c1, c2, e1, h1, h2⟩ := h
  rw [RdAll.one_iff] at h2
  have h3 := h1
  have h4 := h2
  obtain ⟨a, cap, L, e, _⟩ := h1
  obtain ⟨a', cap', L', e', _⟩ := h2
  subst e e'
  refine ⟨_, _, ?_, h3, h4⟩
  congr 1
  exact Array.toList_inj.1 e1
end At
end Go.Proofs.YtfocooehnmpndaaGreat
namespace Go.Proofs.YtfocooehnmpndaaGreat
open Go.RowKit Go.ChangeShapes Go.WideShapes Go.Deep Go.Joins
namespace At
theorem slSz_ones {α : Type} (l : List α) : slSz one l = l.length + 1 := by
  induction l with
  | nil => simp [slSz]
  | cons x l ih => simp [slSz, one] at ih ⊢; omega
def szSysT (s : Sys) : Nat := s.attrs.length + slSz szEq s.eqs
set_option maxRecDepth 100000 in
theorem opens_sysTF (N : Nat) : OpensF Tryz.prog 28 Sys.d szSysT okSys any (N + 1) :=
  opens_struct2 (c0 := 1) (c1 := 1) (fun a b => Sys.mk a b) Tryz.underlying28 ⟨rfl, rfl, by kernel_rfl, by kernel_rfl, by kernel_rfl⟩ (opens_slice Tryz.underlying25 (b := 16) (by kernel_rfl) (opens_attr N)) (opens_slice Tryz.underlying26 (b := 80) (by kernel_rfl) (opens_eq N))
    (fun _ _ => rfl) (fun a b => by have h := slSz_ones a; simp only [szSysT]; omega) (fun _ _ _ k => k) (fun _ _ _ _ => trivial)
theorem opens_sysT : Opens Tryz.prog 28 Sys.d szSysT okSys any := by
  intro N H enc w n cs x hn h
  exact opens_sysTF N H enc w n cs x (by omega) h
theorem szSysT_all {s : Sys} {b : Nat} (h : szSysT s ≤ b) : (∀ q ∈ s.eqs, q.is'.size ≤ b) ∧ s.attrs.length ≤ b := by
  unfold szSysT at h
  exact ⟨szSys_all (by unfold szSys; omega), by omega⟩
end At
end Go.Proofs.YtfocooehnmpndaaGreat
namespace Go.Proofs.YtfocooehnmpndaaGreat
open Go.RowKit Go.ChangeShapes Go.WideShapes Go.Deep Go.Joins
def okSym (s : Sym) : Prop := i64 s.n
def okRule (r : Rule) : Prop := i64 r.left ∧ ∀ s ∈ r.right, okSym s
def okGram (g : Gram) : Prop := i64 g.terms ∧ i64 g.nons ∧ i64 g.start ∧ ∀ r ∈ g.rules, okRule r
def szSym (_ : Sym) : Nat := 1
def szRule (r : Rule) : Nat := slSz szSym r.right
def szGram (g : Gram) : Nat := slSz szRule g.rules
set_option maxRecDepth 100000 in
theorem opens_symF (N : Nat) : OpensF Tryz.prog 78 Sym.d szSym okSym any (N + 1) :=
  opens_struct2 (c0 := 1) (c1 := 1) (fun a b => Sym.mk a b) Tryz.underlying78 ⟨rfl, rfl, by kernel_rfl, by kernel_rfl, by kernel_rfl⟩ (opens_bool Tryz.underlying4 N) (opens_int Tryz.underlying3 N)
    (fun _ _ => rfl) (fun _ _ => by simp [szSym]) (fun _ _ _ h => h) (fun _ _ _ _ => trivial)
set_option maxRecDepth 100000 in
theorem opens_ruleF (N : Nat) : OpensF Tryz.prog 81 Rule.d szRule okRule any (N + 1 + 1) :=
  opens_struct2 (c0 := 1) (c1 := 1) (fun a b => Rule.mk a b) Tryz.underlying81 ⟨rfl, rfl, by kernel_rfl, by kernel_rfl, by kernel_rfl⟩ (opens_int Tryz.underlying3 (N + 1)) (opens_slice Tryz.underlying79 (b := 16) (by kernel_rfl) (opens_symF N))
    (fun _ _ => rfl) (fun _ _ => by simp [szRule]; omega) (fun _ _ h k => ⟨h, k⟩) (fun _ _ _ _ => trivial)
set_option maxRecDepth 100000 in
theorem opens_gramF (N : Nat) : OpensF Tryz.prog 24 Gram.d szGram okGram any (N + 1 + 1 + 1) :=
  opens_struct4 (c0 := 1) (c1 := 1) (c2 := 1) (c3 := 1) (fun a b c d => Gram.mk a b c d) Tryz.underlying24 ⟨rfl, rfl, rfl, rfl, by kernel_rfl, by kernel_rfl, by kernel_rfl, by kernel_rfl, by kernel_rfl⟩ (opens_int Tryz.underlying3 (N + 1 + 1)) (opens_int Tryz.underlying3 (N + 1 + 1)) (opens_int Tryz.underlying3 (N + 1 + 1)) (opens_slice Tryz.underlying22 (b := 32) (by kernel_rfl) (opens_ruleF N))
    (fun _ _ _ _ => rfl) (fun _ _ _ _ => by simp [szGram]; omega) (fun _ _ _ _ h1 h2 h3 h4 => ⟨h1, h2, h3, h4⟩) (fun _ _ _ _ _ _ _ _ => trivial)
theorem opens_gram : Opens Tryz.prog 24 Gram.d szGram okGram any := by
  intro N H enc w n cs x hn h
  exact opens_gramF N H enc w n cs x (by omega) h
set_option maxRecDepth 100000 in
theorem open_gramV {W : World} {base : Nat} {v : Value} {g : Gram} (hv : Value.okWide Tryz.prog W .any base 24 v) (h : Rd AnyB W g.d v.cells.toList) : ∃ u, v = .agg #[.int .i64 g.terms, .int .i64 g.nons, .int .i64 g.start, u] ∧ Rd AnyB W (.sl (g.rules.map Rule.d)) [u] := by
  obtain ⟨cs, rfl, hsz⟩ := okWide_struct Tryz.underlying24 hv
  obtain ⟨c1, r1, e1, h1, h2⟩ := h
  obtain ⟨c2, r2, rfl, h2, h3⟩ := h2
  obtain ⟨c3, r3, rfl, h3, h4⟩ := h3
  rw [RdAll.one_iff] at h4
  simp [Rd] at h1 h2 h3
  subst h1 h2 h3
  have h5 := h4
  obtain ⟨a, cap, L, e, _⟩ := h4
  subst e
  refine ⟨_, ?_, h5⟩
  congr 1
  exact Array.toList_inj.1 e1
end Go.Proofs.YtfocooehnmpndaaGreat
namespace Go.Proofs.YtfocooehnmpndaaGreat
open Go.RowKit Go.ChangeShapes Go.WideShapes Go.Deep Go.Joins
theorem opens_ints : Opens Tryz.prog 40 (slD D.int) (slSz one) (slOk i64) (slLim 8 any) := fun N => opens_slice Tryz.underlying40 (by kernel_rfl) (opens_int Tryz.underlying3 N)
theorem slSz_one {α : Type} (l : List α) : slSz one l = l.length + 1 := by
  induction l with
  | nil => simp [slSz]
  | cons x l ih => simp [slSz, one] at ih ⊢; omega
theorem sl_slD {w : World} {v : Value} {l : List Int} (h : Rd AnyB w (slD D.int l) [v]) : Sl w v (ints l) := sl_rd h
theorem slSz_size (ks : List Tree) : slSz Tree.size ks = sizeL ks + 1 := by
  induction ks with
  | nil => simp [slSz, sizeL]
  | cons k ks ih => simp [slSz, sizeL] at ih ⊢; omega
set_option maxRecDepth 100000 in
theorem opens_treeF : ∀ N, OpensF Tryz.prog 31 Tree.d Tree.size any any N := by
  intro N
  induction N with
  | zero =>
    intro H enc w n cs x hn h
    obtain rfl : n = 0 := by omega
    simp [DataW.trod] at h
  | succ N ih =>
    exact opens_struct3 (c0 := 1) (c1 := 1) (c2 := 1) (fun r t ks => Tree.node r t ks) Tryz.underlying31 ⟨rfl, rfl, rfl, by kernel_rfl, by kernel_rfl, by kernel_rfl, by kernel_rfl⟩ (opens_int Tryz.underlying3 N) (opens_int Tryz.underlying3 N)
      (opens_slice Tryz.underlying29 (b := 40) (by kernel_rfl) ih) (fun a b c => by rw [Tree.d_eq]; rfl) (fun a b c => by rw [Tree.size, slSz_size]; simp [one]; omega) (fun _ _ _ _ _ _ => trivial) (fun _ _ _ _ _ _ => trivial)
theorem opens_tree : Opens Tryz.prog 31 Tree.d Tree.size any any := opens_treeF
set_option maxRecDepth 100000 in
theorem open_treeV {W : World} {base : Nat} {v : Value} {t : Tree} (hv : Value.okWide Tryz.prog W .any base 31 v) (h : Rd AnyB W t.d v.cells.toList) : ∃ u, v = .agg #[.int .i64 t.rule, .int .i64 t.term, u] ∧ Rd AnyB W (.sl (t.kids.map Tree.d)) [u] := by
  obtain ⟨cs, rfl, hsz⟩ := okWide_struct Tryz.underlying31 hv
  obtain ⟨u, e, hu⟩ := h.tree
  refine ⟨u, ?_, hu⟩
  have e' : cs.toList = [.int .i64 t.rule, .int .i64 t.term, u] := e
  congr 1
  exact Array.toList_inj.1 e'
end Go.Proofs.YtfocooehnmpndaaGreat
namespace Go.Proofs.YtfocooehnmpndaaGreat
open Go.RowKit
namespace Gs
theorem opens_intsW : Opens Tryz.prog 40 (slD D.int) (slSz one) (slOk i64) (slLim 8 any) := fun N => opens_slice Tryz.underlying40 (by kernel_rfl) (opens_int Tryz.underlying3 N)
theorem opens_words : Opens Tryz.prog 32 (slD (slD D.int)) (slSz (slSz one)) (slOk (slOk i64)) (slLim 24 (slLim 8 any)) := fun N => opens_slice Tryz.underlying32 (by kernel_rfl) (opens_intsW N)
theorem open_wordsV {w : World} {v : Value} {L : List (List Int)} (h : Rd AnyB w (slD (slD D.int) L) [v]) : ∃ a c, v = .slice a L.length c ∧ Rd AnyB w (.sl (L.map D.ints)) [.slice a L.length c] := by
  have h2 : Rd AnyB w (.sl (L.map D.ints)) [v] := h
  obtain ⟨a, c, rfl, _⟩ := h2.form
  rw [List.length_map] at h2
  exact ⟨a, c, by rw [List.length_map], h2⟩
end Gs
end Go.Proofs.YtfocooehnmpndaaGreat
namespace Go.Proofs.YtfocooehnmpndaaGreat.RowDemandSome
open Go.ChangeShapes Go.WideShapes Go.ChangeAt Go.RowKit
theorem own : ownKnob Tryz.prog.godebug = none := by kernel_rfl
theorem laidOut : laidOutB Tryz.prog = true := by kernel_rfl
set_option maxRecDepth 100000 in
theorem contract (H : Type) (enc : TypeId × Value → H) (W : World) (base : Nat) (args : Array Value) (ds gs : List (DataW H)) (before : List MemPlace)
    (hval0 : ∀ (j : Nat) t v, Tryz.f4.params[j]? = some t → args[j]? = some v → Value.okWide Tryz.prog W .any base t v)
    (hW : DataW.Whole enc Tryz.prog Tryz.f4.params.toList Rows.demandSomeSpec.vars false W args.toList ds gs before)
    (hk : Rows.uptoSmall H (ds ++ gs) = true) :
    Calls Tryz.prog 4 args W fun e W' => ∃ v, e = .returned v ∧ Rows.demandSomeSpec.post enc Tryz.prog Tryz.f4 false true false false W args v W' := by
  have hval : ∀ (j : Nat) t v, Tryz.f4.params[j]? = some t → args[j]? = some v → Value.okWide Tryz.prog W .any base t v := hval0
  have hW' := hW
  obtain ⟨p, q, hA0, hV, rfl, hfz, hnd⟩ := hW
  have hA : DataW.TrodAll enc Tryz.prog W 0 (fun _ => true) true Tryz.f4.params.toList args.toList ds p := hA0
  rw [Tryz.params4] at hA hval
  obtain ⟨v0, vs0, d0, ds0, p0, q0, hargs, rfl, rfl, h0, r0'⟩ := trodAll_cons hA
  obtain ⟨v1, vs1, d1, ds1, p1, q1, rfl, rfl, rfl, h1, r1'⟩ := trodAll_cons r0'
  obtain ⟨v2, vs2, d2, ds2, p2, q2, rfl, rfl, rfl, h2, r2'⟩ := trodAll_cons r1'
  obtain ⟨v3, vs3, d3, ds3, p3, q3, rfl, rfl, rfl, h3, r3'⟩ := trodAll_cons r2'
  obtain ⟨v4, vs4, d4, ds4, p4, q4, rfl, rfl, rfl, h4, r4'⟩ := trodAll_cons r3'
  obtain ⟨rfl, rfl, rfl⟩ := trodAll_nil r4'
  obtain rfl : args = #[v0, v1, v2, v3, v4] := by cases args; simp_all
  obtain ⟨rfl, rfl⟩ := trodVars_none hV
  have lt0 : ∀ x ∈ p0, x.block < W.heap.size := by obtain ⟨m, hm⟩ := h0; exact DataW.trod_lt m _ _ _ hm
  have tr0 := h0
  have lt1 : ∀ x ∈ p1, x.block < W.heap.size := by obtain ⟨m, hm⟩ := h1; exact DataW.trod_lt m _ _ _ hm
  have tr1 := h1
  have lt2 : ∀ x ∈ p2, x.block < W.heap.size := by obtain ⟨m, hm⟩ := h2; exact DataW.trod_lt m _ _ _ hm
  have tr2 := h2
  have lt3 : ∀ x ∈ p3, x.block < W.heap.size := by obtain ⟨m, hm⟩ := h3; exact DataW.trod_lt m _ _ _ hm
  have tr3 := h3
  have lt4 : ∀ x ∈ p4, x.block < W.heap.size := by obtain ⟨m, hm⟩ := h4; exact DataW.trod_lt m _ _ _ hm
  have tr4 := h4
  have hbulk : Rows.uptoBulk d0 + (Rows.uptoBulk d1 + (Rows.uptoBulk d2 + (Rows.uptoBulk d3 + (Rows.uptoBulk d4 + 0)))) ≤ 1048576 := by
    have h := of_decide_eq_true hk
    simpa only [Rows.uptoBulkAll, List.append_nil] using h
  obtain ⟨a0, rd0, sz0, k0, li0⟩ := open_arg opens_gram h0
  obtain ⟨u0, rfl, r0⟩ := open_gramV (hval 0 24 v0 rfl rfl) rd0
  obtain ⟨a1, rd1, sz1, k1, li1⟩ := open_arg At.opens_sysT h1
  obtain ⟨u1, x1, rfl, y1, z1⟩ := At.open_sysV (hval 1 28 v1 rfl rfl) rd1
  obtain ⟨t2, rd2, sz2, _, _⟩ := open_arg opens_tree h2
  obtain ⟨u2, rfl, r2⟩ := open_treeV (hval 2 31 v2 rfl rfl) rd2
  have z2 : t2.size ≤ 1048576 := by omega
  obtain ⟨a3, rd3, sz3, k3, li3⟩ := open_arg Gs.opens_words h3
  obtain ⟨ad3, len3, cap3, hv3⟩ := okWide_slice Tryz.underlying32 (hval 3 32 v3 rfl rfl)
  have rq3 : Rd AnyB W (slD (slD D.int) a3) [v3] := by rw [hv3] at rd3 ⊢; exact rd3
  clear hv3 rd3
  obtain ⟨pa3, pc3, rfl, r3⟩ := Gs.open_wordsV rq3
  obtain ⟨ad4, len4, cap4, hv4⟩ := okWide_slice Tryz.underlying40 (hval 4 40 v4 rfl rfl)
  obtain ⟨l4, rd4, sz4, k4, li4⟩ := open_arg opens_ints h4
  have s4 : Sl W v4 (ints l4) := sl_slD (by rw [hv4] at rd4 ⊢; exact rd4)
  rw [slSz_one] at sz4
  have n4 : l4.length ≤ 1048576 := by omega
  clear hA0 hval0
  refine (Dm.lawDS a0 a1 t2 a3 l4 _ _ _ _ _ _ W k1 (At.szSysT_all (b := 1048576) (by omega)).1 (Nat.le_trans (At.szSysT_all (b := 1048576) (by omega)).2 (by omega)) (by have := nodes_size t2; omega) k4 r0 y1 z1 r2 r3 s4).mono fun e W' ⟨he, bel⟩ => ?_
  subst he
  exact ⟨_, rfl, _, _, _, [], _, [], hW', trodAll_mk1 (shut_bool Tryz.underlying4 _), (trodAll_cons_mk (Below.trod laidOut (by kernel_rfl) (of_decide_eq_true (by kernel_rfl)) tr0 bel lt0) (trodAll_cons_mk (Below.trod laidOut (by kernel_rfl) (of_decide_eq_true (by kernel_rfl)) tr1 bel lt1) (trodAll_cons_mk (Below.trod laidOut (by kernel_rfl) (of_decide_eq_true (by kernel_rfl)) tr2 bel lt2) (trodAll_cons_mk (Below.trod laidOut (by kernel_rfl) (of_decide_eq_true (by kernel_rfl)) tr3 bel lt3) (trodAll_cons_mk (Below.trod laidOut (by kernel_rfl) (of_decide_eq_true (by kernel_rfl)) tr4 bel lt4) trodAll_mk0))))), rfl, bel.frame _, fun h => by cases h⟩
set_option maxRecDepth 100000 in
theorem lifted (os : Os) (started : os.Started) (H : Type) (enc : TypeId × Value → H) (F : Stop.Interp) :
    ReturnsInHanded {} Tryz.checked os 4 .any ((Rows.OpenSpec.upto Rows.demandSomeSpec).pre6 enc Tryz.prog Tryz.f4 Rows.demandSomeUptoRow.domain false) (((Rows.OpenSpec.upto Rows.demandSomeSpec).at F).post enc Tryz.prog Tryz.f4 false true false false) := by
  refine returnsInHanded_of_cond (C := Tryz.checked) (s := Rows.OpenSpec.upto Rows.demandSomeSpec) (k := Rows.uptoSmall) rfl own started (by kernel_rfl) Tryz.func4
    (OpenSpec.witness (enc := enc) (C := Tryz.checked) (s := Rows.OpenSpec.upto Rows.demandSomeSpec) (k := Rows.uptoSmall) rfl false ⟨#[], #[.agg #[.int .i64 0, .int .i64 0, .int .i64 0, .slice none 0 0], .agg #[.slice none 0 0, .slice none 0 0], .agg #[.int .i64 0, .int .i64 0, .slice none 0 0], .slice none 0 0, .slice none 0 0], []⟩ 8 (by kernel_rfl) (by kernel_rfl) (by kernel_rfl)
      (x := ([.agg [.lit (.int .i64 0), .lit (.int .i64 0), .lit (.int .i64 0), .nil], .agg [.nil, .nil], .agg [.lit (.int .i64 0), .lit (.int .i64 0), .nil], .nil, .nil], [], [])) (by kernel_rfl) rfl (by kernel_rfl)) ?_
  intro W base args ds gs before hval hW _ hk _
  exact contract H enc W base args ds gs before hval hW hk
theorem over : Rows.demandSomeUptoRow.holds Tryz.pinned (Rows.OpenSpec.upto Rows.demandSomeSpec) :=
  OpenClaim.holds_of_cond 4 Tryz.f4 rfl rfl rfl rfl rfl rfl rfl ⟨rfl, rfl, rfl, rfl, rfl⟩ rfl rfl rfl rfl rfl (by kernel_rfl) Tryz.func4 (by kernel_rfl)
    (of_decide_eq_true (by kernel_rfl)) (by unfold Func.isWrapper; first | (rw [if_pos (by decide +kernel)]; kernel_rfl) | (rw [if_neg (by decide +kernel)]; exact ⟨rfl, rfl⟩))
    (fun os started H enc _ F => lifted os started H enc F)
end Go.Proofs.YtfocooehnmpndaaGreat.RowDemandSome
namespace Go.Proofs.YtfocooehnmpndaaGreat
theorem demandSomeUpto_holds : Rows.DemandSomeUptoSaid := RowDemandSome.over
#print axioms demandSomeUpto_holds
end Go.Proofs.YtfocooehnmpndaaGreat
