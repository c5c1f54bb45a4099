/- repair.Best of valid arguments. repair.Best of arguments that it refuses. The function values of parlref4.Nearest. -/
import Derived.Test.YtjpmebppdcclbaaJRepairBestRow5
import Derived.Test.YtjpmebppdcclbaaJRepairBestRow7
import Derived.Deep.CutBlock
import Derived.Deep.CutRange
import Derived.Test.YtjpmebppdcclbaaJRepairBestRow6
import Derived.Test.YtjpmebppdcclbaaJRepairBestRow4
import Derived.BigQuiet
namespace Go.Proofs.Ytjpmebppdcclbaa
open Go.RowKit
namespace Rp
open Al

/-- the table, the corrector and the grammar in memory -/
structure MT (W : World) (gt : Int) (N st : Nat) (gr : Value) (cb bk hi bb : Nat) (ra : Nat → Nat) (rb : Nat → Nat → Nat) (c : Co) (w : List Int) (T : Tb) (wr : World) : Prop where
  bel : Below W.heap.size W wr
  gbox : wr.heap[W.heap.size]? = some (.cells #[.int .i64 gt, .int .i64 (N : Int), .int .i64 (st : Int), gr] 24 (0, 0))
  cm : CM cb gt N st gr (.slice (some ⟨bb, 0, none⟩) N bk) c w wr
  bt : BT (fun k => hi ≤ k) 0 bb ra rb N w.length T wr
  lt : ∀ a i, a < N → i ≤ w.length → rb a i < hi ∧ cb < rb a i ∧ W.heap.size + 1 < rb a i
  le : hi ≤ wr.heap.size
theorem MT.keep {W : World} {gt : Int} {N st : Nat} {gr : Value} {cb bk hi bb : Nat} {ra : Nat → Nat} {rb : Nat → Nat → Nat} {c : Co} {w : List Int} {T : Tb} {wr w' : World} (h : MT W gt N st gr cb bk hi bb ra rb c w T wr) (hb : Below wr.heap.size wr w') : MT W gt N st gr cb bk hi bb ra rb c w T w' :=
  ⟨h.bel.trans (hb.mono h.bel.size), bx_keep h.gbox hb, h.cm.keep hb, h.bt.keep hb, h.lt, Nat.le_trans h.le hb.size⟩
theorem MT.set {W : World} {gt : Int} {N st : Nat} {gr : Value} {cb bk hi bb : Nat} {ra : Nat → Nat} {rb : Nat → Nat → Nat} {c : Co} {w : List Int} {T : Tb} {wr : World} (h : MT W gt N st gr cb bk hi bb ra rb c w T wr) {a i j : Nat} (ha : a < N) (hi' : i ≤ w.length) (hj : j ≤ w.length) {o : Option Val} {u : Value} (hu : Rd (fun k => hi ≤ k) wr (D.ints (oW o)) [u]) :
    MT W gt N st gr cb bk hi bb ra rb c w (upd T (a : Int) i j o) ((((wr.setCell ⟨rb a i, j * 4, none⟩ (.int .i64 (oC o))).setCell ⟨rb a i, j * 4 + 1, none⟩ (.int .i64 (oN o))).setCell ⟨rb a i, j * 4 + 2, none⟩ u).setCell ⟨rb a i, j * 4 + 3, none⟩ (.bool o.isSome)) := by
  have hg := grown_cellsAt wr (rb a i) (j * 4) (j * 4 + 1) (j * 4 + 2) (j * 4 + 3) (.int .i64 (oC o)) (.int .i64 (oN o)) u (.bool o.isSome)
  obtain ⟨h1, h2, h3⟩ := h.lt a i ha hi'
  refine ⟨h.bel.grown hg h.bel.size (fun k e => by cases e; omega), (hg.block _ (Array.getElem?_eq_some_iff.1 h.gbox).1 (by simp; omega)).trans h.gbox, h.cm.grown hg (fun k e => by cases e; exact h2), h.bt.set ha hi' hj hu, h.lt, Nat.le_trans h.le hg.size⟩
theorem BU.mt {W : World} {gt : Int} {N st : Nat} {gr : Value} {cb : Nat} {c : Co} {w : List Int} {n1 : Nat} {ra : Nat → Nat} {bv : Value} {wr : World} (h : BU W gt N st gr cb c w n1 N ra bv wr) (hn1 : n1 = w.length + 1) (hN : 0 < N) (hW : W.heap.size + 1 < cb) :
    ∃ bb bk, MT W gt N st gr cb bk wr.heap.size bb ra (fun a i => ra a + 1 + i) c w (fun _ _ _ => none) wr := by
  subst hn1
  have hsl := sl_of_own h.own
  obtain ⟨g, k, hbv, _, _⟩ := h.own.form hN
  subst hbv
  have hob := h.ob g rfl
  refine ⟨g, k, h.bel, h.gbox, h.cm, ⟨fun a ha => ?_, fun a ha i hi => h.mid a ha i (by omega), fun a ha i hi => (h.row a ha i (by omega)).mono (fun _ h _ => h.elim), fun _ _ _ _ => Nat.zero_le _, fun a a' i i' ha ha' hi hi' e => ?_, fun a i ha hi => ⟨?_, fun a' ha' => ?_⟩, fun a i ha hi hh => ?_⟩, fun a i ha hi => ⟨?_, ?_, ?_⟩, Nat.le_refl _⟩
  · obtain ⟨bb, oo, hae, hcc⟩ := hsl.at (k := a) ha
    have := hcc a (by simpa using ha)
    cases hae
    simpa using this
  · rcases Nat.lt_trichotomy a a' with h1 | h1 | h1
    · have := h.sep a a' h1 ha'; omega
    · subst h1; exact ⟨rfl, by omega⟩
    · have := h.sep a' a h1 ha; omega
  · have := hob a ha; omega
  · rcases Nat.lt_trichotomy a a' with h1 | h1 | h1
    · have := h.sep a a' h1 ha'; omega
    · subst h1; omega
    · have := h.sep a' a h1 ha; omega
  · have := (h.lb a ha).2
    omega
  · have := (h.lb a ha).2; omega
  · have := (h.lb a ha).1; omega
  · have := (h.lb a ha).1; omega
def BestPost (o : Option Val) (W : World) (e : Ending) (w' : World) : Prop :=
  ∃ n v z, e = .returned (.tuple #[.int .i64 n, v, .int .i64 z]) ∧ Below W.heap.size W w' ∧
    match o with
    | none => n = 0 ∧ v = .slice none 0 0 ∧ z = 5
    | some x => if 2000 < x.n then n = 0 ∧ v = .slice none 0 0 ∧ z = 2 else n = (x.c : Int) ∧ Sl w' v (ints x.w) ∧ z = 0
set_option maxHeartbeats 16000000 in
set_option maxRecDepth 100000 in
theorem bestE (g : Gram) (c : Co) (hc : c.ok) (w : List Int) (hw : w.length ≤ 12) (hck : checkG g = 0) (hwe : wordErr g.terms w 12 = 0) (N : Nat) (hN : g.nons = (N : Int)) (hN1 : N ≤ 10) (st : Nat) (hst : g.start = (st : Int)) (hsN : st < N)
    (hK : ∀ r ∈ g.rules, 0 ≤ r.left ∧ r.left < N ∧ r.right.length ≤ 4 ∧ ∀ s ∈ r.right, s.term = false → 0 ≤ s.n ∧ s.n < N) (M : Nat) (hM : M ≤ 288230376151711744) (Inv : Nat → Nat → Tb → Prop) (mu : Tb → Nat)
    (PL : Plan2 g.rules c w w.length (fun s => s.term = false → 0 ≤ s.n ∧ s.n < N) M Inv mu) (ga : Option Addr) (gcap : Nat) (wa : Option Addr) (wk : Nat) (W : World) (hgr : Rd AnyB W (.sl (g.rules.map Rule.d)) [.slice ga g.rules.length gcap]) (hwv : Sl W (.slice wa w.length wk) (ints w)) :
    Calls Try.prog 7 #[.agg #[.int .i64 g.terms, .int .i64 g.nons, .int .i64 g.start, .slice ga g.rules.length gcap], .slice wa w.length wk, .agg #[.int .i64 (c.c0 : Int), .int .i64 (c.c1 : Int), .int .i64 (c.c2 : Int)]] W fun e w' =>
      ∃ T, Inv 0 0 T ∧ ClosedR g.rules c w w.length T ∧ BestPost (T (st : Int) 0 w.length) W e w' := by
  have hgb := hgr.bounds.2
  unfold maxLen at hgb
  obtain ⟨hgc1, hgc2⟩ := hgb
  have hwl := hwv.len.2
  unfold maxLen at hwl
  obtain ⟨hwc1, hwc2⟩ := hwl
  obtain ⟨w0, HW0⟩ := nameIt ((W.alloc (.cells #[.int .i64 g.terms, .int .i64 g.nons, .int .i64 g.start, .slice ga g.rules.length gcap] 24)).alloc (.cells #[.int .i64 (c.c0 : Int), .int .i64 (c.c1 : Int), .int .i64 (c.c2 : Int)] 26))
  have hw0 : Below W.heap.size W w0 := by
    rw [← HW0.out]
    exact ((Below.refl _ _).alloc (Nat.le_refl _) _).alloc (by simp) _
  have hsz0 : w0.heap.size = W.heap.size + 1 + 1 := by rw [← HW0.out]; simp
  have HSZ0 := Lib.hid hsz0
  have HG0 : Hid (w0.heap[W.heap.size]? = some (.cells #[.int .i64 g.terms, .int .i64 g.nons, .int .i64 g.start, .slice ga g.rules.length gcap] 24 (0, 0))) := by
    rw [← HW0.out]; exact bx_keep (bx_new _ _ _ rfl) ((Below.refl _ _).alloc (Nat.le_refl _) _)
  have HC0 : Hid (w0.heap[W.heap.size + 1]? = some (.cells #[.int .i64 (c.c0 : Int), .int .i64 (c.c1 : Int), .int .i64 (c.c2 : Int)] 26 (0, 0))) := by
    rw [← HW0.out]; exact bx_new _ _ _ (by simp)
  have HCK : Hid (∀ W', Below w0.heap.size w0 W' → Calls Try.prog 10 #[.agg #[.int .i64 g.terms, .int .i64 g.nons, .int .i64 g.start, .slice ga g.rules.length gcap]] W' fun e w' => e = .returned (.int .i64 0) ∧ Below W'.heap.size W' w') := fun W' hb => by
    have := checkE g ga gcap W' (hgr.below (hw0.trans (hb.mono hw0.size)))
    rw [hck] at this
    exact this
  have HWD : Hid (∀ W', Below w0.heap.size w0 W' → Calls Try.prog 11 #[.agg #[.int .i64 g.terms, .int .i64 g.nons, .int .i64 g.start, .slice ga g.rules.length gcap], .slice wa w.length wk, .int .i64 12] W' fun e w' => e = .returned (.int .i64 0) ∧ Below W'.heap.size W' w') := fun W' hb => by
    have := wordE g (.slice ga g.rules.length gcap) w w.length 12 rfl (by decide) wa wk W' (hwv.keep (hw0.trans (hb.mono hw0.size)))
    rw [hwe] at this
    exact this
  have HCF : Hid (∀ W', Below w0.heap.size w0 W' → Calls Try.prog 27 #[.slice (some ⟨W.heap.size + 1, 0, none⟩) 3 3, .func (.func 28) #[] #[]] W' fun e w' => e = .returned (.bool false) ∧ Below W'.heap.size W' w') := fun W' hb => by
    have hs : Sl W' (.slice (some ⟨W.heap.size + 1, 0, none⟩) 3 3) (ints [(c.c0 : Int), (c.c1 : Int), (c.c2 : Int)]) := by
      obtain ⟨h1, h2, h3⟩ := bx_cells3 (bx_keep HC0.out hb)
      refine ⟨_, _, rfl, by simp [ints], by simp [maxLen], (fun e => by cases e), fun i hi => ⟨_, rfl, ?_⟩⟩
      rw [add_at]
      simp [ints] at hi
      match i, hi with
      | 0, _ => exact h1
      | 1, _ => exact h2
      | 2, _ => exact h3
    have := containsFunc 28 #[] badC (some ⟨W.heap.size + 1, 0, none⟩) 3 [(c.c0 : Int), (c.c1 : Int), (c.c2 : Int)] W' (fun _ _ => by kernel_rfl) (fun W x _ _ => badB x W) hs
    have e : [(c.c0 : Int), (c.c1 : Int), (c.c2 : Int)].any badC = false := by
      obtain ⟨a1, a2, a3, a4, a5, a6⟩ := hc
      simp [badC]; omega
    rw [e] at this
    exact this
  obtain ⟨n, HNN⟩ := nameIt w.length
  obtain ⟨gt, HGT⟩ := nameIt g.terms
  obtain ⟨kn, HKN⟩ := nameIt g.rules.length
  have hgb0 := hgr.below hw0
  have hwv0 := hwv.keep hw0
  rw [HGT.out, hN, hst, HKN.out] at HG0 HCK HWD
  rw [HNN.out] at HWD
  rw [HNN.out] at hw hwv0
  rw [HKN.out] at hgb0
  rw [HGT.out, hN, hst, HKN.out] at HW0
  obtain ⟨c0, HCC0⟩ := nameIt c.c0
  obtain ⟨c1, HCC1⟩ := nameIt c.c1
  obtain ⟨c2, HCC2⟩ := nameIt c.c2
  rw [HCC0.out, HCC1.out, HCC2.out] at HW0 HC0
  obtain ⟨PST, HP⟩ := nameIt (fun (e : Ending) (w' : World) => ∃ T, Inv 0 0 T ∧ ClosedR g.rules c w w.length T ∧ BestPost (T (st : Int) 0 w.length) W e w')
  rw [HP.out, HGT.out, hN, hst, HKN.out, HNN.out, HCC0.out, HCC1.out, HCC2.out]
  have HGR := Lib.hid (hgr.mono (S' := fun k => k < W.heap.size) (fun k _ hl => hl))
  rw [HKN.out] at HGR
  have HWV := Lib.hid hwv0
  have PL' := PL
  rw [HNN.out] at PL'
  have HB0 := Lib.hid hw0
  have hfun : ∀ a w, (callFunc 28 a).run Try.prog w = .ok (.enter 28 a) w := fun _ _ => by kernel_rfl
  obtain ⟨x0, x1, x2, x3⟩ := bx_cells4 HG0.out
  obtain ⟨y0, y1, y2⟩ := bx_cells3 HC0.out
  clear hgr hwv hgb0 hwv0 hfun hck hwe
  go_enter Try.func7, Try.ntmps7
  go_upto_region 1 with fail
  rw [HW0.out]
  clear HW0
  go_wp2_with fail
  refine (HCK.out w0 (Below.refl _ _)).mono ?_
  rintro e w1 ⟨rfl, hb1⟩
  obtain ⟨x0, x1, x2, x3⟩ := bx_cells4 (bx_keep HG0.out hb1)
  have HB1 := Lib.hid hb1
  clear hb1
  go_wp2_with fail
  refine (HWD.out w1 HB1.out).mono ?_
  rintro e w2 ⟨rfl, hb2⟩
  have HB2 := Lib.hid (HB1.out.trans (hb2.mono HB1.out.size))
  obtain ⟨y0, y1, y2⟩ := bx_cells3 (bx_keep HC0.out HB2.out)
  clear hb2
  go_wp2_with fail
  refine (HCF.out w2 HB2.out).mono ?_
  rintro e w3 ⟨rfl, hb3⟩
  have HB3 := Lib.hid (HB2.out.trans (hb3.mono HB2.out.size))
  clear hb3
  obtain ⟨x0, x1, x2, x3⟩ := bx_cells4 (bx_keep HG0.out HB3.out)
  obtain ⟨y0, y1, y2⟩ := bx_cells3 (bx_keep HC0.out HB3.out)
  obtain ⟨w4, HW4⟩ := nameIt (w3.alloc (.cells #[.int .i64 gt, .int .i64 (N : Int), .int .i64 (st : Int), .slice ga kn gcap, .slice wa n wk, .int .i64 (c0 : Int), .int .i64 (c1 : Int), .int .i64 (c2 : Int), .slice none 0 0] 65))
  have hw4 : Below w3.heap.size w3 w4 := by rw [← HW4.out]; exact (Below.refl _ _).alloc (Nat.le_refl _) _
  have HCB : Hid (w4.heap[w3.heap.size]? = some (.cells #[.int .i64 gt, .int .i64 (N : Int), .int .i64 (st : Int), .slice ga kn gcap, .slice wa n wk, .int .i64 (c0 : Int), .int .i64 (c1 : Int), .int .i64 (c2 : Int), .slice none 0 0] 65 (0, 0))) := by rw [← HW4.out]; exact bx_new _ _ _ rfl
  have HSZ4 : Hid (w4.heap.size = w3.heap.size + 1) := by show _ = _; rw [← HW4.out]; simp
  obtain ⟨cb, HCBN⟩ := nameIt w3.heap.size
  rw [HCBN.out] at HCB HSZ4
  have HB4' := Lib.hid (HB3.out.trans (hw4.mono HB3.out.size))
  have HB4 := Lib.hid (HB0.out.trans (HB4'.out.mono HB0.out.size))
  have HCBL : Hid (w0.heap.size ≤ cb) := by show _ ≤ _; rw [← HCBN.out]; exact HB3.out.size
  have hx1 : w4.cell? ⟨W.heap.size, 0 + 1, none⟩ = some (.int .i64 (N : Int)) := (bx_cells4 (bx_keep HG0.out HB4'.out)).2.1
  clear hw4
  go_upto_region 10 with fail
  rw [HW4.out, HCBN.out]
  clear HW4 x0 x1 x2 x3 y0 y1 y2
  go_upto_block 0 with fail
  go_cut [12, 13] from 41 to 70 (fun t12 t13 wx => ∃ bk hi bb ra rb, Hid (MT W gt N st (.slice ga kn gcap) cb bk hi bb ra rb c w (fun _ _ _ => none) wx))
  case first =>
    obtain ⟨n1, HN1⟩ := nameIt (n + 1)
    have hwn1 : IntKind.i64.wrap ((n : Int) + 1) = (n1 : Int) := by have := HN1.out; rw [IntWalk.i64_in _ (by omega)]; omega
    have hn13 : n1 ≤ 13 := by have := HN1.out; omega
    have hmkR : ∀ W : World, (Instr.makeSlice 66 (.int .i64 (n1 : Int)) (.int .i64 (n1 : Int))).run Try.prog W = .ok (.slice (some ⟨W.heap.size, 0, none⟩) n1 n1) (W.alloc (.cells (madeCells #[.slice none 0 0] n1) 67)) := fun W => by
      have := HN1.out
      have := run_make_row' (P := Try.prog) 66 67 (.slice none 0 0) 24 Try.underlying66 (by kernel_rfl) rfl .i64 .i64 n1 (by omega) (by omega) W
      simpa using this
    have hmkW : ∀ W : World, (Instr.makeSlice 67 (.int .i64 (n1 : Int)) (.int .i64 (n1 : Int))).run Try.prog W = .ok (.slice (some ⟨W.heap.size, 0, none⟩) n1 n1) (W.alloc (.cells (madeCells #[.int .i64 0, .int .i64 0, .slice none 0 0, .bool false] (n1 * 4)) 72)) := fun W => by
      obtain ⟨ti, h1, h2, h3, h4⟩ := info_parts (show (Try.prog.info? 72).map (fun i => (i.zero, i.size, i.bytes)) = some (some (.agg #[.int .i64 0, .int .i64 0, .slice none 0 0, .bool false]), 4, 48) by kernel_rfl)
      have := HN1.out
      have := run_makeSlice W 67 72 ti _ Try.underlying67 h1 h2 .i64 .i64 (n1 : Int) (n1 : Int) (by omega) (by omega) (by rw [h3]; omega) (by rw [h4]; omega) (by omega)
      simpa [h3, Value.cells] using this
    have HBU0 : Hid (BU W gt N st (.slice ga kn gcap) cb c w n1 0 (fun _ => 0) (.slice none 0 0) w4) := by
      have hrw := rd_sl HWV.out
      refine ⟨HB4.out, bx_keep HG0.out HB4'.out, ⟨wa, wk, ?_, ?_⟩, World.ownsRow_nil _ _ _ _, fun a' ha => (by omega), fun a' ha => (by omega), fun a' ha => (by omega), fun a' a'' _ ha => (by omega), fun k e => (by cases e)⟩
      · rw [HCC0.out, HCC1.out, HCC2.out, HNN.out]; exact HCB.out
      · rw [HNN.out]
        exact (hrw.mono (S' := fun k => k < cb) (fun k _ hl => Nat.lt_of_lt_of_le hl HCBL.out)).below HB4'.out
    have HMKR := Lib.hid hmkR
    have HMKW := Lib.hid hmkW
    clear hmkR hmkW
    go_wp2_with fail
    go_loopg [12, 13, 41] N (fun gg v12 v13 v41 wr => ∃ (a : Nat) (ra : Nat → Nat) (bv : Value), a ≤ N ∧ N - a ≤ gg ∧ v41 = .int .i64 (a : Nat) ∧ Hid (BU W gt N st (.slice ga kn gcap) cb c w n1 a ra bv wr))
    case atStart => exact ⟨0, _, _, by omega, by omega, rfl, HBU0⟩
    case round =>
      clear HBU0 HB1 HB2 HB3 HB4 HB4' HCB HSZ4 HCK HWD HCF hx1
      obtain ⟨a, ra, bv, haN, hgg, rfl, HBU⟩ := hrel
      obtain ⟨w5, rfl⟩ : ∃ wo : World, wo = wr := ⟨_, rfl⟩
      by_cases hlt : a < N
      · have hlt' : (a : Int) < (N : Int) := by omega
        obtain ⟨w6, HW6⟩ := nameIt (w5.alloc (.cells (madeCells #[.slice none 0 0] n1) 67))
        have hw6 : Below w5.heap.size w5 w6 := by rw [← HW6.out]; exact (Below.refl _ _).alloc (Nat.le_refl _) _
        have HRU0 : Hid (RU n1 w5.heap.size 0 w6) := by
          refine ⟨by rw [← HW6.out]; simp, ?_, fun x hx => by omega⟩
          rw [← HW6.out]
          exact (vrow_new w5 _ (.slice none 0 0) n1 rfl).eq (fun k _ => by rw [if_neg (by omega)])
        have HB6 := Lib.hid hw6
        have hmr := HMKR.out w5
        clear hw6
        obtain ⟨R, HRN⟩ := nameIt w5.heap.size
        rw [HRN.out] at HRU0
        go_upto_region 13 with fail
        rw [HW6.out, HRN.out]
        clear HW6 hmr
        go_wp2_with fail
        go_loopg [13, 49] n1 (fun gg v13 v49 wr => ∃ i : Nat, i ≤ n1 ∧ n1 - i ≤ gg ∧ v49 = .int .i64 (i : Nat) ∧ Hid (Below w5.heap.size w5 wr) ∧ Hid (RU n1 R i wr))
        case atStart => exact ⟨0, by omega, by omega, rfl, HB6, HRU0⟩
        case round =>
          clear HRU0 HB6 w6
          obtain ⟨i, hin, hgg2, rfl, HB6, HRU⟩ := hrel
          obtain ⟨w6, rfl⟩ : ∃ wo : World, wo = wr := ⟨_, rfl⟩
          by_cases hi1 : i < n1
          · have hi1' : (i : Int) < (n1 : Int) := by omega
            have hal : Below w6.heap.size w6 (w6.alloc (.cells (madeCells #[.int .i64 0, .int .i64 0, .slice none 0 0, .bool false] (n1 * 4)) 72)) := (Below.refl _ _).alloc (Nat.le_refl _) _
            have hrow := HRU.out.rows.keep hal
            have v0 := hrow.cell hi1
            have f0 := hrow.free i
            have hmw := HMKW.out w6
            have hsz := HRU.out.sz
            have hRl := HRU.out.rows.lt
            have hst := HRU.out.step hi1
            rw [← hsz] at hst
            have HST := Lib.hid hst
            have HB7 : Hid (Below w5.heap.size w5 ((w6.alloc (.cells (madeCells #[.int .i64 0, .int .i64 0, .slice none 0 0, .bool false] (n1 * 4)) 72)).setCell ⟨R, i, none⟩ (.slice (some ⟨w6.heap.size, 0, none⟩) n1 n1))) := by
              have h1 := HB6.out.trans (hal.mono HB6.out.size)
              exact h1.setCell (p := ⟨R, i, none⟩) (by show w5.heap.size ≤ R; rw [HRN.out]; exact Nat.le_refl _) _
            clear hal hrow hst hsz hRl
            go_wp2_with fail
            go_roundg (n1 - (i + 1))
            case measure => omega
            case rel => exact ⟨i + 1, by omega, by omega, by go_num, HB7, HST⟩
          · have hi1' : ¬ (i : Int) < (n1 : Int) := by omega
            obtain rfl : i = n1 := by omega
            have HBU7 := Lib.hid (HBU.out.keep HB6.out)
            obtain ⟨ab, kb, hbv, hbc1, hbc2⟩ := own_len HBU.out.own
            subst hbv
            have hcm := HBU7.out.cm
            obtain ⟨wa', wk', hbx, -⟩ := hcm.box
            obtain ⟨-, -, -, -, s8⟩ := bx_cells9r hbx
            have HBX := Lib.hid hbx
            have hcbl := HBU.out.cm.lt
            have hcb7 := HBU7.out.cm.lt
            have HOWN := Lib.hid HBU7.out.own
            have hn1 := HN1.out
            clear hcm hbx
            go_wp2_with (at_builtin; refine wp_app1at elTab rfl _ _ rfl HOWN.out rfl rfl rfl rfl rfl (by omega) (by unfold maxLen; omega) (by omega) ?_)
            intro v' wz hoz hgz hatz
            rw [← HRN.out] at hoz
            have happ := HBU.out.app HB6.out (by rw [HRN.out]; exact HRU.out) hoz hgz hatz (by have := HCBL.out; have := HSZ0.out; omega)
            have HAPP := Lib.hid happ
            obtain ⟨az, kz, rfl, -, -⟩ := own_len hoz
            have hne : ∀ k, (Value.slice ab a kb).ownBlock = some k → cb ≠ k := fun k e => by have := (HBU.out.own.lt k e).1; omega
            have hcz := (hgz.block cb hcb7 (fun e => hne cb e.symm rfl)).trans HBX.out
            obtain ⟨-, -, -, -, s8z⟩ := bx_cells9r hcz
            have fz : wz.frozen? ⟨cb, 0 + 8, none⟩ = false := by simp [World.frozen?, hcz]
            clear hoz hgz hatz happ hcz
            go_wp2_with fail
            go_roundg (N - (a + 1))
            case measure => omega
            case rel => exact ⟨a + 1, _, _, by omega, by omega, by go_num, HAPP⟩
      · have hlt' : ¬ (a : Int) < (N : Int) := by omega
        obtain rfl : a = N := by omega
        obtain ⟨bb, bk, hmt⟩ := HBU.out.mt (by rw [HNN.out]; exact HN1.out.symm) (by omega) (by have := HCBL.out; have := HSZ0.out; omega)
        have HMT := Lib.hid hmt
        clear hmt
        go_wp2_with fail
        go_meet
        exact ⟨bk, _, bb, ra, _, HMT⟩
  case rest =>
    obtain ⟨bk, hi, bb, ra, rb, HMT⟩ := hcut
    obtain ⟨w5, HW5⟩ := nameIt wc
    rw [HW5.out] at HMT ⊢
    clear HW5 HCK HWD HCF HG0 HC0 HB0 HB1 HB2 HB3 HB4 HB4' HCB HSZ4 HCBL hx1
    obtain ⟨fuel, HFU⟩ := nameIt (mu (fun _ _ _ => none))
    have HPL := Lib.hid PL'
    have HKK := Lib.hid hK
    have HCO := Lib.hid hc
    clear PL PL' hK hc
    go_wp2_with fail
    go_loopg [14, 16, 17, 18, 19] (fuel + 1) (fun gg v14 v16 v17 v18 v19 wr => ∃ (b : Bool) (T : Tb), v14 = .bool b ∧ Hid (MT W gt N st (.slice ga kn gcap) cb bk hi bb ra rb c w T wr) ∧ Hid (Inv 0 0 T) ∧ Hid (b = true → mu T + 1 ≤ gg) ∧ Hid (b = false → ClosedR g.rules c w n T))
    case atStart => exact ⟨true, _, rfl, HMT, HPL.out.start, fun _ => by rw [HFU.out]; exact Nat.le_refl _, fun e => by cases e⟩
    case round =>
      clear HMT HFU fuel
      obtain ⟨b, T0, rfl, HMT, HIN, HLE, HCL⟩ := hrel
      obtain ⟨wo, rfl⟩ : ∃ wo : World, wo = wr := ⟨_, rfl⟩
      cases b with
      | false =>
        have HFT : Hid (∀ e w', BestPost (T0 (st : Int) 0 n) W e w' → PST e w') := by
          intro e w' h
          rw [← HP.out]
          exact ⟨T0, HIN.out, by rw [HNN.out]; exact HCL.out rfl, by rw [HNN.out]; exact h⟩
        have hbt := HMT.out.bt
        obtain ⟨wa', wk', hbx, -⟩ := HMT.out.cm.box
        have t0 := hbt.top st hsN
        have t1 := hbt.mid st hsN 0 (by omega)
        obtain ⟨ac, mc, kc, hgc, hvc⟩ := (hbt.row st hsN 0 (by omega)).get (j := n) (by rw [HNN.out]; omega)
        have hrl := (hbt.row st hsN 0 (by omega)).lt
        obtain ⟨n1, HN1⟩ := nameIt (n + 1)
        rw [HNN.out, HN1.out] at t0 t1
        obtain ⟨o, HO⟩ := nameIt (T0 (st : Int) 0 n)
        rw [HO.out] at hgc hvc HFT
        obtain ⟨A, HA⟩ := nameIt (ra st)
        obtain ⟨B, HBB⟩ := nameIt (rb st 0)
        rw [HA.out] at t0 t1
        rw [HBB.out] at t1 hgc hrl
        obtain ⟨-, -, -, -, s8⟩ := bx_cells9r hbx
        obtain ⟨g0, g1, g2, g3⟩ := bx_cells4 HMT.out.gbox
        obtain ⟨v0, v1, v2, v3⟩ := hgc wo rfl
        have hsN' : (st : Int) < (N : Int) := by omega
        have hn1' : (n : Int) < (n1 : Int) := by have := HN1.out; omega
        have hn10 : (0 : Int) < (n1 : Int) := by omega
        have hn1z : ¬ n1 = 0 := by omega
        have HVC := Lib.hid hvc
        have hwo := HPL.out.wf 0 0 T0 HIN.out (st : Int) 0 n
        rw [HO.out] at hwo
        have HWO := Lib.hid hwo
        have HCS : Hid (∀ w', Below wo.heap.size wo w' → w'.cell? ⟨cb, 0 + 8, none⟩ = some (.slice (some ⟨bb, 0, none⟩) N bk) ∧ w'.cell? ⟨W.heap.size, 0 + 2, none⟩ = some (.int .i64 (st : Int)) ∧ w'.cell? ⟨bb, st, none⟩ = some (.slice (some ⟨A, 0, none⟩) n1 n1) ∧ w'.cell? ⟨A, 0, none⟩ = some (.slice (some ⟨B, 0, none⟩) n1 n1) ∧
            w'.cell? ⟨B, n * 4, none⟩ = some (.int .i64 (oC o)) ∧ w'.cell? ⟨B, n * 4 + 1, none⟩ = some (.int .i64 (oN o)) ∧ w'.cell? ⟨B, n * 4 + 2, none⟩ = some (.slice ac mc kc) ∧ w'.cell? ⟨B, n * 4 + 3, none⟩ = some (.bool o.isSome)) := by
          intro w' hb'
          obtain ⟨k1, k2, k3, k4⟩ := hgc w' (hb'.block B hrl)
          exact ⟨(hb'.cell (lt_of_cell s8)).trans s8, (hb'.cell (lt_of_cell g2)).trans g2, (hb'.cell (lt_of_cell t0)).trans t0, (hb'.cell (lt_of_cell t1)).trans t1, k1, k2, k3, k4⟩
        clear hbt hbx t0 t1 hgc hvc hrl s8 g0 g1 g2 g3 v0 v1 v2 v3 hwo
        go_upto_region 37 with fail
        refine wp_region_U (S := (fun w' => w'.cell? ⟨cb, 0 + 8, none⟩ = some (.slice (some ⟨bb, 0, none⟩) N bk) ∧ w'.cell? ⟨W.heap.size, 0 + 2, none⟩ = some (.int .i64 (st : Int)) ∧ w'.cell? ⟨bb, st, none⟩ = some (.slice (some ⟨A, 0, none⟩) n1 n1) ∧ w'.cell? ⟨A, 0, none⟩ = some (.slice (some ⟨B, 0, none⟩) n1 n1) ∧ w'.cell? ⟨B, n * 4, none⟩ = some (.int .i64 (oC o)) ∧ w'.cell? ⟨B, n * 4 + 1, none⟩ = some (.int .i64 (oN o)) ∧ w'.cell? ⟨B, n * 4 + 2, none⟩ = some (.slice ac mc kc) ∧ w'.cell? ⟨B, n * 4 + 3, none⟩ = some (.bool o.isSome))) 15 (by kernel_rfl) (fun inv => ?_)
        refine wpU_take (i := 0) (v := .pointer (some ⟨cb, 0, none⟩)) rfl inv (by kernel_rfl) (by kernel_rfl) (by decide) (by decide) (by kernel_rfl) (by kernel_rfl) (by kernel_rfl) (fun _ _ _ h => h) (Or.inl ⟨by rfl, fun w' hw' => ?_⟩) (HCS.out _ (Below.refl _ _).drew) (fun inv => ?_)
        · obtain ⟨h0, h1, h2, h3, h4, h5, h6, h7⟩ := hw'
          go_simp
        try simp only [Act.put, List.setIfInBounds_toArray, List.set_cons_zero, List.set_cons_succ]
        refine wpU_take (i := 1) (v := .pointer (some ⟨cb, 0, none⟩)) rfl inv (by kernel_rfl) (by kernel_rfl) (by decide) (by decide) (by kernel_rfl) (by kernel_rfl) (by kernel_rfl) (fun _ _ _ h => h) (Or.inl ⟨by rfl, fun w' hw' => ?_⟩) (HCS.out _ (Below.refl _ _).drew) (fun inv => ?_)
        · obtain ⟨h0, h1, h2, h3, h4, h5, h6, h7⟩ := hw'
          go_simp
        try simp only [Act.put, List.setIfInBounds_toArray, List.set_cons_zero, List.set_cons_succ]
        refine wpU_take (i := 2) (v := .pointer (some ⟨cb, 0 + 8, none⟩)) rfl inv (by kernel_rfl) (by kernel_rfl) (by decide) (by decide) (by kernel_rfl) (by kernel_rfl) (by kernel_rfl) (fun _ _ _ h => h) (Or.inl ⟨by rfl, fun w' hw' => ?_⟩) (HCS.out _ (Below.refl _ _).drew) (fun inv => ?_)
        · obtain ⟨h0, h1, h2, h3, h4, h5, h6, h7⟩ := hw'
          go_simp
        try simp only [Act.put, List.setIfInBounds_toArray, List.set_cons_zero, List.set_cons_succ]
        refine wpU_take (i := 3) (v := .slice (some ⟨bb, 0, none⟩) N bk) rfl inv (by kernel_rfl) (by kernel_rfl) (by decide) (by decide) (by kernel_rfl) (by kernel_rfl) (by kernel_rfl) (fun _ _ _ h => h) (Or.inl ⟨by rfl, fun w' hw' => ?_⟩) (HCS.out _ (Below.refl _ _).drew) (fun inv => ?_)
        · obtain ⟨h0, h1, h2, h3, h4, h5, h6, h7⟩ := hw'
          go_simp
        try simp only [Act.put, List.setIfInBounds_toArray, List.set_cons_zero, List.set_cons_succ]
        refine wpU_take (i := 4) (v := .pointer (some ⟨W.heap.size, 0 + 2, none⟩)) rfl inv (by kernel_rfl) (by kernel_rfl) (by decide) (by decide) (by kernel_rfl) (by kernel_rfl) (by kernel_rfl) (fun _ _ _ h => h) (Or.inl ⟨by rfl, fun w' hw' => ?_⟩) (HCS.out _ (Below.refl _ _).drew) (fun inv => ?_)
        · obtain ⟨h0, h1, h2, h3, h4, h5, h6, h7⟩ := hw'
          go_simp
        try simp only [Act.put, List.setIfInBounds_toArray, List.set_cons_zero, List.set_cons_succ]
        refine wpU_take (i := 5) (v := .int .i64 (st : Int)) rfl inv (by kernel_rfl) (by kernel_rfl) (by decide) (by decide) (by kernel_rfl) (by kernel_rfl) (by kernel_rfl) (fun _ _ _ h => h) (Or.inl ⟨by rfl, fun w' hw' => ?_⟩) (HCS.out _ (Below.refl _ _).drew) (fun inv => ?_)
        · obtain ⟨h0, h1, h2, h3, h4, h5, h6, h7⟩ := hw'
          go_simp
        try simp only [Act.put, List.setIfInBounds_toArray, List.set_cons_zero, List.set_cons_succ]
        refine wpU_take (i := 6) (v := .pointer (some ⟨bb, st, none⟩)) rfl inv (by kernel_rfl) (by kernel_rfl) (by decide) (by decide) (by kernel_rfl) (by kernel_rfl) (by kernel_rfl) (fun _ _ _ h => h) (Or.inl ⟨by rfl, fun w' hw' => ?_⟩) (HCS.out _ (Below.refl _ _).drew) (fun inv => ?_)
        · obtain ⟨h0, h1, h2, h3, h4, h5, h6, h7⟩ := hw'
          go_simp
        try simp only [Act.put, List.setIfInBounds_toArray, List.set_cons_zero, List.set_cons_succ]
        refine wpU_take (i := 7) (v := .slice (some ⟨A, 0, none⟩) n1 n1) rfl inv (by kernel_rfl) (by kernel_rfl) (by decide) (by decide) (by kernel_rfl) (by kernel_rfl) (by kernel_rfl) (fun _ _ _ h => h) (Or.inl ⟨by rfl, fun w' hw' => ?_⟩) (HCS.out _ (Below.refl _ _).drew) (fun inv => ?_)
        · obtain ⟨h0, h1, h2, h3, h4, h5, h6, h7⟩ := hw'
          go_simp
        try simp only [Act.put, List.setIfInBounds_toArray, List.set_cons_zero, List.set_cons_succ]
        refine wpU_take (i := 8) (v := .pointer (some ⟨A, 0, none⟩)) rfl inv (by kernel_rfl) (by kernel_rfl) (by decide) (by decide) (by kernel_rfl) (by kernel_rfl) (by kernel_rfl) (fun _ _ _ h => h) (Or.inl ⟨by rfl, fun w' hw' => ?_⟩) (HCS.out _ (Below.refl _ _).drew) (fun inv => ?_)
        · obtain ⟨h0, h1, h2, h3, h4, h5, h6, h7⟩ := hw'
          go_simp
        try simp only [Act.put, List.setIfInBounds_toArray, List.set_cons_zero, List.set_cons_succ]
        refine wpU_take (i := 9) (v := .slice (some ⟨B, 0, none⟩) n1 n1) rfl inv (by kernel_rfl) (by kernel_rfl) (by decide) (by decide) (by kernel_rfl) (by kernel_rfl) (by kernel_rfl) (fun _ _ _ h => h) (Or.inl ⟨by rfl, fun w' hw' => ?_⟩) (HCS.out _ (Below.refl _ _).drew) (fun inv => ?_)
        · obtain ⟨h0, h1, h2, h3, h4, h5, h6, h7⟩ := hw'
          go_simp
        try simp only [Act.put, List.setIfInBounds_toArray, List.set_cons_zero, List.set_cons_succ]
        refine wpU_take (i := 10) (v := .slice wa n wk) rfl inv (by kernel_rfl) (by kernel_rfl) (by decide) (by decide) (by kernel_rfl) (by kernel_rfl) (by kernel_rfl) (fun _ _ _ h => h) (Or.inl ⟨by rfl, fun w' hw' => ?_⟩) (HCS.out _ (Below.refl _ _).drew) (fun inv => ?_)
        · obtain ⟨h0, h1, h2, h3, h4, h5, h6, h7⟩ := hw'
          go_simp
        try simp only [Act.put, List.setIfInBounds_toArray, List.set_cons_zero, List.set_cons_succ]
        refine wpU_take (i := 11) (v := .int .i64 (n : Nat)) rfl inv (by kernel_rfl) (by kernel_rfl) (by decide) (by decide) (by kernel_rfl) (by kernel_rfl) (by kernel_rfl) (fun _ _ _ h => h) (Or.inl ⟨by rfl, fun w' hw' => ?_⟩) (HCS.out _ (Below.refl _ _).drew) (fun inv => ?_)
        · obtain ⟨h0, h1, h2, h3, h4, h5, h6, h7⟩ := hw'
          go_simp
        try simp only [Act.put, List.setIfInBounds_toArray, List.set_cons_zero, List.set_cons_succ]
        refine wpU_take (i := 12) (v := .pointer (some ⟨B, n * 4, none⟩)) rfl inv (by kernel_rfl) (by kernel_rfl) (by decide) (by decide) (by kernel_rfl) (by kernel_rfl) (by kernel_rfl) (fun _ _ _ h => h) (Or.inl ⟨by rfl, fun w' hw' => ?_⟩) (HCS.out _ (Below.refl _ _).drew) (fun inv => ?_)
        · obtain ⟨h0, h1, h2, h3, h4, h5, h6, h7⟩ := hw'
          go_simp
        try simp only [Act.put, List.setIfInBounds_toArray, List.set_cons_zero, List.set_cons_succ]
        refine wpU_take (i := 13) (v := .agg #[.int .i64 (oC o), .int .i64 (oN o), .slice ac mc kc, .bool o.isSome]) rfl inv (by kernel_rfl) (by kernel_rfl) (by decide) (by decide) (by kernel_rfl) (by kernel_rfl) (by kernel_rfl) (fun _ _ _ h => h) (Or.inl ⟨by rfl, fun w' hw' => ?_⟩) (HCS.out _ (Below.refl _ _).drew) (fun inv => ?_)
        · obtain ⟨h0, h1, h2, h3, h4, h5, h6, h7⟩ := hw'
          go_simp
        try simp only [Act.put, List.setIfInBounds_toArray, List.set_cons_zero, List.set_cons_succ]
        refine wpU_one (i := 14) (by kernel_rfl) rfl (fun K hK => ?_)
        replace inv := inv_setc (i := 14) inv (by kernel_rfl) (by decide)
        go_simp
        refine hK.out _ _ (fun _ => HCS.out _ ((Below.refl wo.heap.size wo).drew.alloc (Nat.le_refl _) _)) ?_
        clear hK K
        try simp only [Act.put, List.setIfInBounds_toArray, List.set_cons_zero, List.set_cons_succ]
        refine wpU_one (i := 15) (by kernel_rfl) rfl (fun K hK => ?_)
        go_simp
        refine hK.out _ _ (fun h => absurd (show true = false from h) (by decide)) ?_
        clear hK K
        try simp only [Act.put, List.setIfInBounds_toArray, List.set_cons_zero, List.set_cons_succ]
        refine wpU_done (by kernel_rfl) ?_ _
        obtain ⟨wf, HWF⟩ := nameIt (wo.alloc (.cells #[.int .i64 (oC o), .int .i64 (oN o), .slice ac mc kc, .bool o.isSome] 72)).drew
        have HXF : Hid (wf.heap[wo.heap.size]? = some (.cells #[.int .i64 (oC o), .int .i64 (oN o), .slice ac mc kc, .bool o.isSome] 72 (0, 0))) := by rw [← HWF.out]; exact bx_new wo _ _ rfl
        have hbf : Below wo.heap.size wo wf := by rw [← HWF.out]; exact ((Below.refl wo.heap.size wo).alloc (Nat.le_refl _) _).drew
        have HBF := Lib.hid (HMT.out.bel.trans (hbf.mono HMT.out.bel.size))
        have HVF := Lib.hid (HVC.out.below hbf)
        rw [HWF.out]
        clear HWF hbf HCS
        obtain ⟨b20, HB20⟩ := nameIt wo.heap.size
        rw [HB20.out] at HXF ⊢
        clear HB20
        obtain ⟨x0, x1, x2, x3⟩ := bx_cells4 HXF.out
        cases o with
        | none =>
          simp only [Option.isSome] at x3
          have HE := Lib.hid (HFT.out _ wf ⟨0, .slice none 0 0, 5, rfl, HBF.out, rfl, rfl, rfl⟩)
          go_wp2_with fail
          exact bodyPost_ret (results_tmp3 Try.results7 _ _ _) rfl HE.out
        | some v =>
          simp only [Option.isSome] at x3
          obtain ⟨vn, HVN⟩ := nameIt (oN (some v))
          rw [HVN.out] at x1
          by_cases hbig : 2000 < vn
          · have hbig' : (2000 : Int) < (vn : Int) := by omega
            have HE := Lib.hid (HFT.out _ wf ⟨0, .slice none 0 0, 2, rfl, HBF.out, by
              have e0 : v.n = vn := HVN.out
              have e : 2000 < v.n := by omega
              simp only [e, if_true, and_self]⟩)
            go_wp2_with fail
            exact bodyPost_ret (results_tmp3 Try.results7 _ _ _) rfl HE.out
          · have hbig' : ¬ (2000 : Int) < (vn : Int) := by omega
            obtain ⟨_, ee, hrd⟩ := HVF.out
            simp at ee
            subst ee
            have hsl := sl_rd hrd
            have hlw : (oW (some v)).length ≤ 2000 := by
              rcases HWO.out v rfl with ⟨h, h2⟩ | ⟨_, h2⟩
              · show v.w.length ≤ 2000; unfold maxL at h; omega
              · show v.w.length ≤ 2000; rw [h2]; simp
            have HCL : Hid (∀ W', Below wf.heap.size wf W' → Calls Try.prog 31 #[.slice ac mc kc] W' (NewInts v.w W')) := fun W' hb => clone_int _ _ W' (hsl.keep hb) (by have : v.w.length ≤ 2000 := hlw; omega)
            have HCS2 : Hid (∀ w', Below wf.heap.size wf w' → w'.cell? ⟨b20, 0, none⟩ = some (.int .i64 (oC (some v))) ∧ w'.cell? ⟨b20, 0 + 2, none⟩ = some (.slice ac mc kc)) := by
              intro w' hb'
              obtain ⟨k1, k2, k3, k4⟩ := bx_cells4 (bx_keep HXF.out hb')
              exact ⟨k1, k3⟩
            clear hrd hsl hlw
            go_upto_region 42 with fail
            refine wp_region_U (S := (fun w' => w'.cell? ⟨b20, 0, none⟩ = some (.int .i64 (oC (some v))) ∧ w'.cell? ⟨b20, 0 + 2, none⟩ = some (.slice ac mc kc))) 5 (by kernel_rfl) (fun inv => ?_)
            refine wpU_take (i := 0) (v := .pointer (some ⟨b20, 0, none⟩)) rfl inv (by kernel_rfl) (by kernel_rfl) (by decide) (by decide) (by kernel_rfl) (by kernel_rfl) (by kernel_rfl) (fun _ _ _ h => h) (Or.inl ⟨by rfl, fun w' hw' => ?_⟩) (HCS2.out _ (Below.refl _ _).drew) (fun inv => ?_)
            · obtain ⟨h0, h1⟩ := hw'
              go_simp
            try simp only [Act.put, List.setIfInBounds_toArray, List.set_cons_zero, List.set_cons_succ]
            refine wpU_take (i := 1) (v := .int .i64 (oC (some v))) rfl inv (by kernel_rfl) (by kernel_rfl) (by decide) (by decide) (by kernel_rfl) (by kernel_rfl) (by kernel_rfl) (fun _ _ _ h => h) (Or.inl ⟨by rfl, fun w' hw' => ?_⟩) (HCS2.out _ (Below.refl _ _).drew) (fun inv => ?_)
            · obtain ⟨h0, h1⟩ := hw'
              go_simp
            try simp only [Act.put, List.setIfInBounds_toArray, List.set_cons_zero, List.set_cons_succ]
            refine wpU_take (i := 2) (v := .pointer (some ⟨b20, 0 + 2, none⟩)) rfl inv (by kernel_rfl) (by kernel_rfl) (by decide) (by decide) (by kernel_rfl) (by kernel_rfl) (by kernel_rfl) (fun _ _ _ h => h) (Or.inl ⟨by rfl, fun w' hw' => ?_⟩) (HCS2.out _ (Below.refl _ _).drew) (fun inv => ?_)
            · obtain ⟨h0, h1⟩ := hw'
              go_simp
            try simp only [Act.put, List.setIfInBounds_toArray, List.set_cons_zero, List.set_cons_succ]
            refine wpU_take (i := 3) (v := .slice ac mc kc) rfl inv (by kernel_rfl) (by kernel_rfl) (by decide) (by decide) (by kernel_rfl) (by kernel_rfl) (by kernel_rfl) (fun _ _ _ h => h) (Or.inl ⟨by rfl, fun w' hw' => ?_⟩) (HCS2.out _ (Below.refl _ _).drew) (fun inv => ?_)
            · obtain ⟨h0, h1⟩ := hw'
              go_simp
            try simp only [Act.put, List.setIfInBounds_toArray, List.set_cons_zero, List.set_cons_succ]
            refine wpU_one (i := 4) (by kernel_rfl) rfl (fun K hK => ?_)
            replace inv := inv_setc (i := 4) inv (by kernel_rfl) (by decide)
            go_simp
            refine (HCL.out _ (Below.refl wf.heap.size wf).drew).mono ?_
            rintro e wg ⟨ag, kg, rfl, hog, hbg⟩
            have HBG : Hid (Below wf.heap.size wf wg) := (Below.refl wf.heap.size wf).drew.trans hbg
            have HSG := Lib.hid (sl_of_own hog)
            obtain ⟨ng, HNG⟩ := nameIt v.w.length
            rw [HNG.out] at HSG ⊢
            clear hog hbg
            refine hK.out _ _ (fun _ => HCS2.out _ HBG.out) ?_
            clear hK K
            try simp only [Act.put, List.setIfInBounds_toArray, List.set_cons_zero, List.set_cons_succ]
            refine wpU_one (i := 5) (by kernel_rfl) rfl (fun K hK => ?_)
            go_simp
            refine hK.out _ _ (fun h => absurd (show true = false from h) (by decide)) ?_
            clear hK K
            try simp only [Act.put, List.setIfInBounds_toArray, List.set_cons_zero, List.set_cons_succ]
            refine wpU_one (i := 6) (by kernel_rfl) rfl (fun K hK => ?_)
            go_simp
            refine hK.out _ _ (fun h => absurd (show true = false from h) (by decide)) ?_
            clear hK K
            try simp only [Act.put, List.setIfInBounds_toArray, List.set_cons_zero, List.set_cons_succ]
            refine wpU_one (i := 7) (by kernel_rfl) rfl (fun K hK => ?_)
            go_simp
            refine hK.out _ _ (fun h => absurd (show true = false from h) (by decide)) ?_
            clear hK K
            try simp only [Act.put, List.setIfInBounds_toArray, List.set_cons_zero, List.set_cons_succ]
            refine wpU_done (by kernel_rfl) ?_ _
            have HE := Lib.hid (HFT.out _ wg ⟨_, _, 0, rfl, HBF.out.trans (HBG.out.mono HBF.out.size), by
              have e0 : v.n = vn := HVN.out
              have e : ¬ 2000 < v.n := by omega
              simp only [e, if_false]
              exact ⟨rfl, HSG.out, trivial⟩⟩)
            go_wp2_with fail
            exact bodyPost_ret (results_tmp3 Try.results7 _ _ _) rfl HE.out
      | true =>
        obtain ⟨m0, HM0⟩ := nameIt (mu T0)
        have hgg : m0 + 1 ≤ gk := by have := HLE.out rfl; rw [HM0.out] at this; exact this
        have HST0 : Hid (St2 g.rules c w n Inv mu m0 0 0 false T0) := by rw [← HM0.out]; exact St2.begin HIN.out
        obtain ⟨g0, g1, g2, g3⟩ := bx_cells4 HMT.out.gbox
        clear HLE HCL HIN HM0
        go_wp2_with fail
        go_loopg [14, 16, 17, 18, 19, 75] kn (fun gg v14 v16 v17 v18 v19 v75 wr => ∃ (a : Nat) (b : Bool) (T : Tb), a ≤ kn ∧ kn - a ≤ gg ∧ v14 = .bool b ∧ v75 = .int .i64 (a : Nat) ∧ Hid (St2 g.rules c w n Inv mu m0 a 0 b T) ∧ Hid (MT W gt N st (.slice ga kn gcap) cb bk hi bb ra rb c w T wr))
        case atStart => exact ⟨0, false, T0, by omega, by omega, rfl, rfl, HST0, HMT⟩
        case round =>
          clear HMT HST0 g0 g1 g2 g3 T0 wo
          obtain ⟨a, b, T0, hakn, hgg2, rfl, rfl, HST, HMT⟩ := hrel
          obtain ⟨w6, rfl⟩ : ∃ wo : World, wo = wr := ⟨_, rfl⟩
          by_cases hlt : a < kn
          · have haK : a < g.rules.length := by rw [HKN.out]; exact hlt
            have hlt' : (a : Int) < (kn : Int) := by omega
            obtain ⟨r, HR⟩ := nameIt (g.rules[a]'haK)
            have HRA : Hid (g.rules[a]? = some r) := by show _ = _; rw [List.getElem?_eq_getElem haK, HR.out]
            have hrm : r ∈ g.rules := by rw [← HR.out]; exact List.getElem_mem haK
            have HRK := Lib.hid (HKK.out r hrm)
            obtain ⟨gb0, go0, rsv, hga, -, -, e0, e1, hrr⟩ := (HGR.out.below HMT.out.bel).rule_at haK
            rw [HR.out] at e0 hrr
            obtain ⟨rsa, rsk, hrf, hrc1, hrc2⟩ := hrr.form
            rw [List.length_map] at hrf hrc1
            subst hrf
            obtain ⟨rn, HRN⟩ := nameIt r.right.length
            rw [HRN.out] at hrr hrc1 e1
            unfold maxLen at hrc2
            obtain ⟨la, hla⟩ : ∃ la : Nat, r.left = (la : Int) := ⟨r.left.toNat, by have := HRK.out.1; omega⟩
            have hlaN : la < N := by have := HRK.out.2.1; omega
            have HLA := Lib.hid hla
            rw [hla] at e0
            obtain ⟨w7, HW7⟩ := nameIt (w6.alloc (.cells #[.int .i64 (la : Int), .slice rsa rn rsk] 69))
            have hw7 : Below w6.heap.size w6 w7 := by rw [← HW7.out]; exact (Below.refl _ _).alloc (Nat.le_refl _) _
            have HRB7 : Hid (w7.heap[w6.heap.size]? = some (.cells #[.int .i64 (la : Int), .slice rsa rn rsk] 69 (0, 0))) := by rw [← HW7.out]; exact bx_new _ _ _ rfl
            have HRR7 := Lib.hid (hrr.below hw7)
            have HMT7 := Lib.hid (HMT.out.keep hw7)
            have HB16L : Hid (hi ≤ w6.heap.size) := HMT.out.le
            obtain ⟨b16, HB16⟩ := nameIt w6.heap.size
            rw [HB16.out] at HRB7 HB16L
            subst hga
            have hwn1 : IntKind.i64.wrap ((n : Int) + 1) = ((n + 1 : Nat) : Int) := by rw [IntWalk.i64_in _ (by omega)]; omega
            obtain ⟨n1, HN1⟩ := nameIt (n + 1)
            rw [HN1.out] at hwn1
            clear hrr hw7 hrm hla
            go_upto_region 26 with fail
            rw [HW7.out, HB16.out]
            clear HW7 HB16 e0 e1
            go_wp2_with fail
            go_loopg [14, 17, 18, 19, 82] (n + 1) (fun gg v14 v17 v18 v19 v82 wr => ∃ (i : Nat) (b : Bool) (T : Tb), i ≤ n + 1 ∧ n + 1 - i ≤ gg ∧ v14 = .bool b ∧ v82 = .int .i64 (i : Nat) ∧ Hid (St2 g.rules c w n Inv mu m0 a i b T) ∧ Hid (MT W gt N st (.slice (some ⟨gb0, go0, none⟩) kn gcap) cb bk hi bb ra rb c w T wr) ∧ Hid (wr.heap[b16]? = some (.cells #[.int .i64 (la : Int), .slice rsa rn rsk] 69 (0, 0))) ∧ Hid (Rd (fun k => k < W.heap.size) wr (.sl (r.right.map Sym.d)) [.slice rsa rn rsk]))
            case atStart => exact ⟨0, b, T0, by omega, by omega, rfl, rfl, HST, HMT7, HRB7, HRR7⟩
            case round =>
              clear HST HMT HMT7 HRB7 HRR7 w6 w7 T0 b
              obtain ⟨i, b, T0, hin1, hgg3, rfl, rfl, HST, HMT, HRB, HRR⟩ := hrel
              obtain ⟨w6, rfl⟩ : ∃ wo : World, wo = wr := ⟨_, rfl⟩
              by_cases hin : i ≤ n
              · have hin' : (i : Int) < (n1 : Int) := by have := HN1.out; omega
                have hru := ruleE cb gt N st (.slice (some ⟨gb0, go0, none⟩) kn gcap) c HCO.out w (by rw [HNN.out]; exact hw) (fun k => hi ≤ k ∧ k < w6.heap.size) 0 bb ra rb N bk (by omega) T0 M hM r HRK.out.2.2.2 HRK.out.2.2.1 (fun s hs k j h1 h2 => HPL.out.bd a i T0 HST.out.inv s (HRK.out.2.2.2 s hs) k j h1 (by rw [← HNN.out]; exact h2)) i (by rw [HNN.out]; exact hin) w6 HMT.out.cm (HMT.out.bt.mono (fun k hk hl => ⟨hk, hl⟩) (fun a i ha hi' h => by have := (HMT.out.lt a i ha hi').1; have := h.1; omega)) (fun k hk => hk.2) (.slice rsa rn rsk) HRR.out.any
                rw [HLA.out, HNN.out, HN1.out] at hru
                have HRU := Lib.hid hru
                obtain ⟨z0, z1⟩ := bx_cells2 HRB.out
                clear hru
                go_wp2_with fail
                refine HRU.out.mono ?_
                rintro e w8 ⟨gr, rfl, hgr, hrow, hb8⟩
                have HROW : Hid (WRow (fun k => hi ≤ k) gr n1 (ruleF (ofT (leafR c w) T0) c r i n) w8) := hrow.mono (fun k hk _ => by
                  have := HMT.out.le
                  rcases hk.1 with h | h
                  · exact h.1
                  · have h2 : w6.heap.size ≤ k := h
                    show hi ≤ k
                    omega)
                have HGRL : Hid (hi ≤ gr) := Nat.le_trans HMT.out.le hgr
                have HMT8 := Lib.hid (HMT.out.keep hb8)
                have HRB8 := Lib.hid (bx_keep HRB.out hb8)
                have HRR8 := Lib.hid (HRR.out.below hb8)
                have HSR : Hid (Sr2 g.rules c w n Inv mu m0 a i T0 r 0 b) := Sr2.begin HST.out r
                have HMT9 : Hid (MT W gt N st (.slice (some ⟨gb0, go0, none⟩) kn gcap) cb bk hi bb ra rb c w (rowU c w n T0 r i 0) w8) := by rw [rowU_zero]; exact HMT8.out
                clear hrow hb8 hgr
                go_wp2_with fail
                go_loopg [14, 18, 19, 90] (n + 1) (fun gg v14 v18 v19 v90 wr => ∃ (j : Nat) (b : Bool), j ≤ n + 1 ∧ n + 1 - j ≤ gg ∧ v14 = .bool b ∧ v90 = .int .i64 (j : Nat) ∧ Hid (Sr2 g.rules c w n Inv mu m0 a i T0 r j b) ∧ Hid (MT W gt N st (.slice (some ⟨gb0, go0, none⟩) kn gcap) cb bk hi bb ra rb c w (rowU c w n T0 r i j) wr) ∧ Hid (wr.heap[b16]? = some (.cells #[.int .i64 (la : Int), .slice rsa rn rsk] 69 (0, 0))) ∧ Hid (Rd (fun k => k < W.heap.size) wr (.sl (r.right.map Sym.d)) [.slice rsa rn rsk]) ∧ Hid (WRow (fun k => hi ≤ k) gr n1 (ruleF (ofT (leafR c w) T0) c r i n) wr))
                case atStart => exact ⟨0, b, by omega, by omega, rfl, rfl, HSR, HMT9, HRB8, HRR8, HROW⟩
                case round =>
                  clear HSR HMT HMT8 HMT9 HRB HRB8 HRR HRR8 HROW HRU HST z0 z1 w6 w8 b
                  obtain ⟨j, b, hjn1, hgg4, rfl, rfl, HSR, HMT, HRB, HRR, HROW⟩ := hrel
                  obtain ⟨w6, rfl⟩ : ∃ wo : World, wo = wr := ⟨_, rfl⟩
                  by_cases hjn : j ≤ n
                  · have hjn' : (j : Int) < (n1 : Int) := by have := HN1.out; omega
                    have hjn1n : j < n1 := by have := HN1.out; omega
                    have hin' : (i : Int) < (n1 : Int) := by have := HN1.out; omega
                    obtain ⟨ad, md, kd, hgd, hvd⟩ := HROW.out.get hjn1n
                    obtain ⟨rv, HRV⟩ := nameIt (ruleF (ofT (leafR c w) T0) c r i n j)
                    rw [HRV.out] at hgd hvd
                    obtain ⟨d0, d1, d2, d3⟩ := hgd w6 rfl
                    have hgrl := HROW.out.lt
                    obtain ⟨w7, HW7⟩ := nameIt (w6.alloc (.cells #[.int .i64 (oC rv), .int .i64 (oN rv), .slice ad md kd, .bool rv.isSome] 72))
                    have hw7 : Below w6.heap.size w6 w7 := by rw [← HW7.out]; exact (Below.refl _ _).alloc (Nat.le_refl _) _
                    have HX7 : Hid (w7.heap[w6.heap.size]? = some (.cells #[.int .i64 (oC rv), .int .i64 (oN rv), .slice ad md kd, .bool rv.isSome] 72 (0, 0))) := by rw [← HW7.out]; exact bx_new _ _ _ rfl
                    have HMT7 := Lib.hid (HMT.out.keep hw7)
                    have HRB7 := Lib.hid (bx_keep HRB.out hw7)
                    have HRR7 := Lib.hid (HRR.out.below hw7)
                    have HROW7 := Lib.hid (HROW.out.keep hw7)
                    have HVD := Lib.hid (hvd.below hw7)
                    have HB67 := Lib.hid hw7
                    obtain ⟨b19, HB19⟩ := nameIt w6.heap.size
                    rw [HB19.out] at HX7
                    have HN19 : Hid (hi ≤ b19 ∧ ¬ b19 = W.heap.size) := by
                      show _ ∧ _
                      rw [← HB19.out]
                      have h1 := HMT.out.le
                      have h2 := (HMT.out.lt la i hlaN (by rw [HNN.out]; exact hin)).1
                      have h3 := (HMT.out.lt la i hlaN (by rw [HNN.out]; exact hin)).2.2
                      exact ⟨h1, by omega⟩
                    go_upto_region 32 with fail
                    rw [HW7.out, HB19.out]
                    clear HW7 HB19 d0 d1 d2 d3 hgd hvd hw7
                    have hbt := HMT7.out.bt
                    have hcm := HMT7.out.cm
                    obtain ⟨wa', wk', hbx, -⟩ := hcm.box
                    have t0 := hbt.top la hlaN
                    have t1 := hbt.mid la hlaN i (by rw [HNN.out]; exact hin)
                    have hrw := hbt.row la hlaN i (by rw [HNN.out]; exact hin)
                    obtain ⟨ac, mc, kc, hgc, hvc⟩ := hrw.get (j := j) (by rw [HNN.out]; omega)
                    have hfr := hrw.free
                    rw [HNN.out, HN1.out] at t0 t1
                    obtain ⟨cv, HCV⟩ := nameIt (rowU c w n T0 r i j (la : Int) i j)
                    rw [HCV.out] at hgc hvc
                    obtain ⟨A, HA⟩ := nameIt (ra la)
                    obtain ⟨B, HBB⟩ := nameIt (rb la i)
                    rw [HA.out] at t0 t1
                    rw [HBB.out] at t1 hgc hfr hrw
                    obtain ⟨p0, p1, p2, p3⟩ := bx_cells4 HX7.out
                    obtain ⟨q0, q1⟩ := bx_cells2 HRB7.out
                    obtain ⟨-, -, -, -, s8⟩ := bx_cells9r hbx
                    obtain ⟨v0, v1, v2, v3⟩ := hgc w7 rfl
                    have hlaN' : (la : Int) < (N : Int) := by omega
                    have hbet : betR c w n T0 r i j = lessB rv cv := by
                      unfold betR
                      rw [HRV.out, ← HCV.out, ← HLA.out, rowU_at]
                    obtain ⟨bb2, HB2⟩ := nameIt (lessB rv cv)
                    have HBET : Hid (betR c w n T0 r i j = bb2) := by show _ = _; rw [hbet, HB2.out]
                    have hwrv : WfO rv := by
                      rw [← HRV.out]
                      exact wf_ruleF hin (fun s hs k j h1 h2 => HPL.out.bd a i T0 HSR.out.inv s (HRK.out.2.2.2 s hs) k j h1 h2) hjn
                    have hwcv : WfO cv := by
                      have h1 := HPL.out.wf a i T0 HSR.out.inv (la : Int) i j
                      have h2 : rowU c w n T0 r i j (la : Int) i j = T0 (la : Int) i j := by rw [← HLA.out]; exact rowU_at
                      rw [← HCV.out, h2]; exact h1
                    have HLS : Hid (∀ W', Below w7.heap.size w7 W' → Calls Try.prog 30 #[.agg #[.int .i64 (oC rv), .int .i64 (oN rv), .slice ad md kd, .bool rv.isSome], .agg #[.int .i64 (oC cv), .int .i64 (oN cv), .slice ac mc kc, .bool cv.isSome]] W' fun e w' => e = .returned (.bool bb2) ∧ Below W'.heap.size W' w') := by
                      intro W' hb'
                      have := wlessE _ _ rv cv _ _ W' (HVD.out.below hb') (hvc.below hb') hwrv hwcv
                      rw [HB2.out] at this
                      exact this
                    have i0 := aft_cell p0
                    have i1 := aft_cell p1
                    have i2 := aft_cell p2
                    have i3 := aft_cell p3
                    have i4 := aft_cell q0
                    have i5 := aft_cell s8
                    have i6 := aft_cell t0
                    have i7 := aft_cell t1
                    have i8 := aft_cell v0
                    have i9 := aft_cell v1
                    have i10 := aft_cell v2
                    have i11 := aft_cell v3
                    have HT0 := Lib.hid t0
                    have HT1 := Lib.hid t1
                    clear p0 p1 p2 p3 q0 q1 s8 t0 t1 v0 v1 v2 v3 hbt hcm hbx hrw hgc hvc hfr hwrv hwcv hbet
                    refine wp_region_after (by kernel_rfl) (by kernel_rfl) ?_
                    repeat (go_big_quiet_step (with_reducible exact Calls.after (HLS.out _ (Aft.bel _))))
                    refine wpQuiet_nil ?_
                    rintro w8 ⟨⟨_, hb8⟩, rfl⟩
                    clear i0 i1 i2 i3 i4 i5 i6 i7 i8 i9 i10 i11
                    have HMT8 := Lib.hid (HMT7.out.keep hb8)
                    have HRB8 := Lib.hid (bx_keep HRB7.out hb8)
                    have HRR8 := Lib.hid (HRR7.out.below hb8)
                    have HROW8 := Lib.hid (HROW7.out.keep hb8)
                    have HX8 := Lib.hid (bx_keep HX7.out hb8)
                    have HVD8 := Lib.hid (HVD.out.below hb8)
                    have h80 := (hb8.cell (lt_of_cell HT0.out)).trans HT0.out
                    have h81 := (hb8.cell (lt_of_cell HT1.out)).trans HT1.out
                    clear hb8
                    cases bb2 with
                    | false =>
                      have HSR2 := Lib.hid (HSR.out.no HBET.out)
                      have HMT9 : Hid (MT W gt N st (.slice (some ⟨gb0, go0, none⟩) kn gcap) cb bk hi bb ra rb c w (rowU c w n T0 r i (j + 1)) w8) := by rw [rowU_no HBET.out]; exact HMT8.out
                      clear h80 h81
                      go_wp2_with fail
                      go_roundg (n + 1 - (j + 1))
                      case measure => omega
                      case rel => exact ⟨j + 1, b, by omega, by omega, rfl, by go_num, HSR2, HMT9, HRB8, HRR8, HROW8⟩
                    | true =>
                      have HSR2 := Lib.hid (HSR.out.yes HPL.out HRA.out hin hjn HBET.out)
                      have hcm := HMT8.out.cm
                      obtain ⟨wa', wk', hbx, -⟩ := hcm.box
                      obtain ⟨-, -, -, -, s8⟩ := bx_cells9r hbx
                      obtain ⟨p0, p1, p2, p3⟩ := bx_cells4 HX8.out
                      obtain ⟨q0, q1⟩ := bx_cells2 HRB8.out
                      have i0 := aft_cell p0
                      have i1 := aft_cell p1
                      have i2 := aft_cell p2
                      have i3 := aft_cell p3
                      have i4 := aft_cell q0
                      have i5 := aft_cell s8
                      have i6 := aft_cell h80
                      have i7 := aft_cell h81
                      have hin1 : (i : Int) < (n1 : Int) := by have := HN1.out; omega
                      clear p0 p1 p2 p3 q0 q1 s8 h80 h81 hcm hbx
                      go_upto_region 33 with fail
                      refine wp_region_after_tail 14 (by kernel_rfl) (by kernel_rfl) ?_
                      simp only [List.take_succ_cons, List.take_zero, List.drop_succ_cons, List.drop_zero]
                      repeat (go_big_quiet_step (fail))
                      refine wpQuiet_nil ?_
                      rintro w9 ⟨⟨_, hb9⟩, rfl⟩
                      clear i0 i1 i2 i3 i4 i5 i6 i7
                      have HMT9 := Lib.hid (HMT8.out.keep hb9)
                      have HROW9 := Lib.hid (HROW8.out.keep hb9)
                      have HRR9 := Lib.hid (HRR8.out.below hb9)
                      have HRB9 := Lib.hid (bx_keep HRB8.out hb9)
                      have hvd9 := HVD8.out.below hb9
                      obtain ⟨u', eu, hrd⟩ := hvd9
                      simp at eu
                      subst eu
                      have hrow9 := HMT9.out.bt.row la hlaN i (by rw [HNN.out]; exact hin)
                      have hfr := hrow9.free
                      obtain ⟨ae, me, ke, hge, -⟩ := hrow9.get (j := j) (by rw [HNN.out]; omega)
                      obtain ⟨v0, v1, v2, v3⟩ := hge w9 rfl
                      rw [HBB.out] at hfr v0 v1 v2 v3
                      have f0 := hfr (j * 4)
                      have f1 := hfr (j * 4 + 1)
                      have f2 := hfr (j * 4 + 2)
                      have f3 := hfr (j * 4 + 3)
                      obtain ⟨hl1, hl2, hl3⟩ := HMT9.out.lt la i hlaN (by rw [HNN.out]; exact hin)
                      have hset := HMT9.out.set hlaN (by rw [HNN.out]; exact hin) (by rw [HNN.out]; exact hjn) hrd
                      have hgrow := grown_cellsAt w9 (rb la i) (j * 4) (j * 4 + 1) (j * 4 + 2) (j * 4 + 3) (.int .i64 (oC rv)) (.int .i64 (oN rv)) (.slice ad md kd) (.bool rv.isSome)
                      have HMTA : Hid (MT W gt N st (.slice (some ⟨gb0, go0, none⟩) kn gcap) cb bk hi bb ra rb c w (rowU c w n T0 r i (j + 1)) ((((w9.setCell ⟨B, j * 4, none⟩ (.int .i64 (oC rv))).setCell ⟨B, j * 4 + 1, none⟩ (.int .i64 (oN rv))).setCell ⟨B, j * 4 + 2, none⟩ (.slice ad md kd)).setCell ⟨B, j * 4 + 3, none⟩ (.bool rv.isSome))) := by
                        rw [rowU_yes HBET.out, HRV.out, HLA.out, ← HBB.out]
                        exact hset
                      rw [HBB.out] at hgrow hl1 hl2 hl3
                      have hgl := HROW9.out.lt
                      have HROWA := Lib.hid (HROW9.out.grown hgrow (by have := HGRL.out; simp; omega) (fun k e h => by cases e; have h2 : hi ≤ B := h; omega))
                      have HRRA := Lib.hid (rd_grown HRR9.out hgrow (fun k e h => by cases e; have h2 : B < W.heap.size := h; omega))
                      have HRBA := Lib.hid ((hgrow.block b16 (Array.getElem?_eq_some_iff.1 HRB9.out).1 (by have := HB16L.out; simp; omega)).trans HRB9.out)
                      clear hb9 hrd hrow9 hfr hge hset hgrow hgl
                      go_wp2_with fail
                      go_roundg (n + 1 - (j + 1))
                      case measure => omega
                      case rel => exact ⟨j + 1, true, by omega, by omega, rfl, by go_num, HSR2, HMTA, HRBA, HRRA, HROWA⟩
                  · have hjn' : ¬ (j : Int) < (n1 : Int) := by have := HN1.out; omega
                    obtain rfl : j = n + 1 := by omega
                    have HST2 := Lib.hid (HSR.out.done HPL.out HRA.out hin)
                    go_wp2_with fail
                    go_roundg (n + 1 - (i + 1))
                    case measure => omega
                    case rel => exact ⟨i + 1, b, _, by omega, by omega, rfl, by go_num, HST2, HMT, HRB, HRR⟩
              · have hin' : ¬ (i : Int) < (n1 : Int) := by have := HN1.out; omega
                obtain rfl : i = n + 1 := by omega
                have HST2 := Lib.hid (HST.out.rule HPL.out)
                clear HST
                go_wp2_with fail
                go_roundg (kn - (a + 1))
                case measure => omega
                case rel => exact ⟨a + 1, b, T0, by omega, by omega, rfl, by go_num, HST2, HMT⟩
          · have hlt' : ¬ (a : Int) < (kn : Int) := by omega
            have hae : a = g.rules.length := by have := HKN.out; omega
            have HST2 : Hid (St2 g.rules c w n Inv mu m0 g.rules.length 0 b T0) := by rw [← hae]; exact HST.out
            clear HST hae
            cases b with
            | true =>
              have hml := HST2.out.lt rfl
              go_wp2_with fail
              go_roundg (mu T0 + 1)
              case measure => omega
              case rel => exact ⟨true, T0, rfl, HMT, HST2.out.again HPL.out, fun _ => Nat.le_refl _, fun e => by cases e⟩
            | false =>
              go_wp2_with fail
              go_roundg 0
              case measure => omega
              case rel => exact ⟨false, T0, rfl, HMT, HST2.out.again HPL.out, (fun e => by cases e), fun _ => HST2.out.closed⟩
end Rp
end Go.Proofs.Ytjpmebppdcclbaa
namespace Go.Proofs.Ytjpmebppdcclbaa
open Go.RowKit
namespace Rp
open Al

set_option maxHeartbeats 4000000 in
set_option maxRecDepth 100000 in
theorem bestBad (g : Gram) (c0 c1 c2 : Int) (w : List Int) (hbad : bestErr g w c0 c1 c2 ≠ 0) (ga : Option Addr) (gk : Nat) (wa : Option Addr) (wk : Nat) (W : World) (hgr : Rd AnyB W (.sl (g.rules.map Rule.d)) [.slice ga g.rules.length gk]) (hwv : Sl W (.slice wa w.length wk) (ints w)) :
    Calls Try.prog 7 #[.agg #[.int .i64 g.terms, .int .i64 g.nons, .int .i64 g.start, .slice ga g.rules.length gk], .slice wa w.length wk, .agg #[.int .i64 c0, .int .i64 c1, .int .i64 c2]] W fun e w' => e = .returned (.tuple #[.int .i64 0, .slice none 0 0, .int .i64 (bestErr g w c0 c1 c2)]) ∧ Below W.heap.size W w' := by
  obtain ⟨w0, HW0⟩ := nameIt ((W.alloc (.cells #[.int .i64 g.terms, .int .i64 g.nons, .int .i64 g.start, .slice ga g.rules.length gk] 24)).alloc (.cells #[.int .i64 c0, .int .i64 c1, .int .i64 c2] 26))
  have hw0 : Below W.heap.size W w0 := by
    rw [← HW0.out]
    exact ((Below.refl _ _).alloc (Nat.le_refl _) _).alloc (by simp) _
  have HG0 : Hid (w0.heap[W.heap.size]? = some (.cells #[.int .i64 g.terms, .int .i64 g.nons, .int .i64 g.start, .slice ga g.rules.length gk] 24 (0, 0))) := by
    rw [← HW0.out]; exact bx_keep (bx_new _ _ _ rfl) ((Below.refl _ _).alloc (Nat.le_refl _) _)
  have HC0 : Hid (w0.heap[W.heap.size + 1]? = some (.cells #[.int .i64 c0, .int .i64 c1, .int .i64 c2] 26 (0, 0))) := by
    rw [← HW0.out]; exact bx_new _ _ _ (by simp)
  have HCK : Hid (∀ W', Below w0.heap.size w0 W' → Calls Try.prog 10 #[.agg #[.int .i64 g.terms, .int .i64 g.nons, .int .i64 g.start, .slice ga g.rules.length gk]] W' fun e w' => e = .returned (.int .i64 (checkG g)) ∧ Below W'.heap.size W' w') := fun W' hb => checkE g ga gk W' (hgr.below (hw0.trans (hb.mono hw0.size)))
  have HWD : Hid (∀ W', Below w0.heap.size w0 W' → Calls Try.prog 11 #[.agg #[.int .i64 g.terms, .int .i64 g.nons, .int .i64 g.start, .slice ga g.rules.length gk], .slice wa w.length wk, .int .i64 12] W' fun e w' => e = .returned (.int .i64 (wordErr g.terms w 12)) ∧ Below W'.heap.size W' w') := fun W' hb => wordE g (.slice ga g.rules.length gk) w w.length 12 rfl (by decide) wa wk W' (hwv.keep (hw0.trans (hb.mono hw0.size)))
  have HCF : Hid (∀ W', Below w0.heap.size w0 W' → Calls Try.prog 27 #[.slice (some ⟨W.heap.size + 1, 0, none⟩) 3 3, .func (.func 28) #[] #[]] W' fun e w' => e = .returned (.bool ([c0, c1, c2].any badC)) ∧ Below W'.heap.size W' w') := fun W' hb => by
    have hs : Sl W' (.slice (some ⟨W.heap.size + 1, 0, none⟩) 3 3) (ints [c0, c1, c2]) := by
      obtain ⟨h1, h2, h3⟩ := bx_cells3 (bx_keep HC0.out hb)
      refine ⟨_, _, rfl, by simp [ints], by simp [maxLen], (fun e => by cases e), fun i hi => ⟨_, rfl, ?_⟩⟩
      rw [add_at]
      simp [ints] at hi
      match i, hi with
      | 0, _ => exact h1
      | 1, _ => exact h2
      | 2, _ => exact h3
    exact containsFunc 28 #[] badC (some ⟨W.heap.size + 1, 0, none⟩) 3 [c0, c1, c2] W' (fun _ _ => by kernel_rfl) (fun W x _ _ => badB x W) hs
  obtain ⟨PST, HP⟩ := nameIt (fun (e : Ending) (w' : World) => e = .returned (.tuple #[.int .i64 0, .slice none 0 0, .int .i64 (bestErr g w c0 c1 c2)]) ∧ Below W.heap.size W w')
  obtain ⟨z, HZ⟩ := nameIt (bestErr g w c0 c1 c2)
  rw [HZ.out] at HP
  have HFIN : Hid (∀ w', Below W.heap.size W w' → PST (.returned (.tuple #[.int .i64 0, .slice none 0 0, .int .i64 z])) w') := by
    intro w' h; rw [← HP.out]; exact ⟨rfl, h⟩
  rw [HZ.out, HP.out]
  rw [HZ.out] at hbad
  obtain ⟨n, HNN⟩ := nameIt w.length
  obtain ⟨gt, HGT⟩ := nameIt g.terms
  obtain ⟨gn, HGN⟩ := nameIt g.nons
  obtain ⟨gs, HGS⟩ := nameIt g.start
  obtain ⟨kn, HKN⟩ := nameIt g.rules.length
  obtain ⟨z1, HZ1⟩ := nameIt (checkG g)
  obtain ⟨z2, HZ2⟩ := nameIt (wordErr g.terms w 12)
  obtain ⟨z3, HZ3⟩ := nameIt ([c0, c1, c2].any badC)
  have HZZ : Hid ((if z1 ≠ 0 then z1 else if z2 ≠ 0 then z2 else if z3 then 1 else 0) = z) := by
    show _ = _
    rw [← HZ.out, ← HZ1.out, ← HZ2.out, ← HZ3.out]; rfl
  rw [HZ2.out] at HWD
  rw [HZ1.out, HGT.out, HGN.out, HGS.out, HKN.out] at HCK
  rw [HGT.out, HGN.out, HGS.out, HKN.out, HNN.out] at HWD
  rw [HGT.out, HGN.out, HGS.out, HKN.out] at HG0 HW0
  rw [HZ3.out] at HCF
  rw [HGT.out, HGN.out, HGS.out, HKN.out, HNN.out]
  have HB0 := Lib.hid hw0
  obtain ⟨x0, x1, x2, x3⟩ := bx_cells4 HG0.out
  clear hgr hwv hw0 HP HZ
  go_enter Try.func7, Try.ntmps7
  go_upto_region 1 with fail
  rw [HW0.out]
  clear HW0
  go_wp2_with fail
  refine (HCK.out w0 (Below.refl _ _)).mono ?_
  rintro e w1 ⟨rfl, hb1⟩
  obtain ⟨x0, x1, x2, x3⟩ := bx_cells4 (bx_keep HG0.out hb1)
  have HB1 := Lib.hid hb1
  clear hb1
  by_cases e1 : z1 = 0
  · subst e1
    go_wp2_with fail
    refine (HWD.out w1 HB1.out).mono ?_
    rintro e w2 ⟨rfl, hb2⟩
    have HB2 := Lib.hid (HB1.out.trans (hb2.mono HB1.out.size))
    clear hb2
    by_cases e2 : z2 = 0
    · subst e2
      go_wp2_with fail
      refine (HCF.out w2 HB2.out).mono ?_
      rintro e w3 ⟨rfl, hb3⟩
      have HB3 := Lib.hid (HB2.out.trans (hb3.mono HB2.out.size))
      clear hb3
      cases z3 with
      | false => exact absurd (by rw [← HZZ.out]; rfl) hbad
      | true =>
        have HZ1' : Hid (z = 1) := by show _ = _; rw [← HZZ.out]; rfl
        have HE := Lib.hid (HFIN.out w3 (HB0.out.trans (HB3.out.mono HB0.out.size)))
        rw [HZ1'.out] at HE
        clear hbad
        go_wp2_with fail
        exact bodyPost_ret (results_tmp3 Try.results7 _ _ _) rfl HE.out
    · have HZ1' : Hid (z = z2) := by show _ = _; rw [← HZZ.out, if_neg (by simp), if_pos e2]
      have HE := Lib.hid (HFIN.out w2 (HB0.out.trans (HB2.out.mono HB0.out.size)))
      rw [HZ1'.out] at HE
      have hne : (z2 != 0) = true := by simp; exact e2
      clear hbad
      go_wp2_with fail
      exact bodyPost_ret (results_tmp3 Try.results7 _ _ _) rfl HE.out
  · have HZ1' : Hid (z = z1) := by show _ = _; rw [← HZZ.out, if_pos e1]
    have HE := Lib.hid (HFIN.out w1 (HB0.out.trans (HB1.out.mono HB0.out.size)))
    rw [HZ1'.out] at HE
    have hne : (z1 != 0) = true := by simp; exact e1
    clear hbad
    go_wp2_with fail
    exact bodyPost_ret (results_tmp3 Try.results7 _ _ _) rfl HE.out
end Rp
end Go.Proofs.Ytjpmebppdcclbaa
namespace Go.Proofs.Ytjpmebppdcclbaa
open Go.RowKit
namespace Rp

/-- the least cost of a terminal over a part, by the places -/
def nearS (c : Co) (w : List Int) (t : Int) (i n : Nat) : Nat → Nat
  | 0 => c.c0 + n * c.c1
  | m + 1 => min (nearS c w t i n m) ((n - 1) * c.c1 + if w.getD (i + m) 0 = t then 0 else c.c2)
theorem nearS_eq (c : Co) (w : List Int) (t : Int) (i n : Nat) : ∀ m, m ≤ n → i + m ≤ w.length → nearS c w t i n m = if m = 0 then c.c0 + n * c.c1 else if ((w.drop i).take m).any (fun y => t == y) then min (min (c.c0 + n * c.c1) (c.c2 + (n - 1) * c.c1)) ((n - 1) * c.c1) else min (c.c0 + n * c.c1) (c.c2 + (n - 1) * c.c1)
  | 0, _, _ => rfl
  | m + 1, h1, h2 => by
    have hl : m < (w.drop i).length := by rw [List.length_drop]; omega
    have hg : w.getD (i + m) 0 = (w.drop i)[m] := by
      rw [List.getElem_drop, List.getD_eq_getElem?_getD, List.getElem?_eq_getElem (by omega)]; rfl
    rw [nearS, nearS_eq c w t i n m (by omega) (by omega), List.take_succ_eq_append_getElem hl, List.any_append, hg]
    obtain ⟨x, hx⟩ : ∃ x, (w.drop i)[m] = x := ⟨_, rfl⟩
    rw [hx, if_neg (show ¬ m + 1 = 0 by omega)]
    have hone : ([x].any fun y => t == y) = decide (x = t) := by
      by_cases e : x = t
      · subst e; simp
      · have : (t == x) = false := by simp; omega
        simp [this, e]
    rw [hone]
    by_cases hm : m = 0
    · subst hm
      by_cases ht : x = t
      · simp [ht] <;> omega
      · simp [ht] <;> omega
    · rw [if_neg hm]
      by_cases ha : ((w.drop i).take m).any (fun y => t == y) = true
      · rw [if_pos ha, ha, Bool.true_or, if_pos rfl]
        split <;> omega
      · have ha' : ((w.drop i).take m).any (fun y => t == y) = false := Bool.eq_false_iff.2 ha
        rw [if_neg ha, ha', Bool.false_or]
        by_cases ht : x = t
        · rw [if_pos ht, if_pos (by simpa using ht)]
          omega
        · rw [if_neg ht, if_neg (by simpa using ht)]
          omega
theorem near_one (c : Co) (w : List Int) (t : Int) (i j : Nat) (hij : i ≤ j) (hj : j ≤ w.length) : nearS c w t i (j - i) (j - i) = oneC c w t i j := by
  rw [nearS_eq c w t i (j - i) (j - i) (Nat.le_refl _) (by omega)]
  unfold oneC oneB
  by_cases h : j - i = 0
  · rw [h]; simp
  · rw [if_neg h, if_neg h]
/-- the captured boxes: the costs, the word -/
structure NB (b5 b4 : Nat) (c : Co) (w : List Int) (W : World) : Prop where
  cost : W.heap[b5]? = some (.cells #[.int .i64 (c.c0 : Int), .int .i64 (c.c1 : Int), .int .i64 (c.c2 : Int)] 26 (0, 0))
  word : ∃ wa wk, W.heap[b4]? = some (.cells #[.slice wa w.length wk] 25 (0, 0)) ∧ Sl W (.slice wa w.length wk) (ints w)
theorem NB.keep {b5 b4 : Nat} {c : Co} {w : List Int} {W W' : World} (h : NB b5 b4 c w W) (hb : Below W.heap.size W W') : NB b5 b4 c w W' := by
  obtain ⟨h1, wa, wk, h2, h3⟩ := h
  exact ⟨bx_keep h1 hb, wa, wk, bx_keep h2 hb, h3.keep hb⟩

set_option maxHeartbeats 2000000 in
set_option maxRecDepth 100000 in
theorem nearEmp (b5 b4 : Nat) (c : Co) (hc : c.ok) (w : List Int) (hw : w.length ≤ 12) (W : World) (h : NB b5 b4 c w W) :
    EmpFn 40 #[.pointer (some ⟨b5, 0, none⟩)] (fun i j => some ⟨(j - i) * c.c1, 0, []⟩) w.length (fun _ => False) W := by
  intro W' i j hij hj hb
  have hcost := bx_keep h.cost hb
  obtain ⟨c0, c1, c2⟩ := c
  simp only [Co.ok] at hc
  simp only at hcost ⊢
  obtain ⟨n, HN⟩ := nameIt (j - i)
  obtain ⟨p, HPP⟩ := nameIt (n * c1)
  have hp : p ≤ 1200 := by rw [← HPP.out, ← HN.out]; exact Nat.le_trans (Nat.mul_le_mul (by omega : j - i ≤ 12) hc.2.2.2.1) (by decide)
  rw [HN.out, HPP.out]
  have hw1 : IntKind.i64.wrap ((j : Int) - (i : Int)) = (n : Int) := by have := HN.out; rw [IntWalk.i64_in _ (by omega)]; omega
  have hw2 : IntKind.i64.wrap ((n : Int) * (c1 : Int)) = (p : Int) := by
    have e : (n : Int) * (c1 : Int) = (p : Int) := by rw [← HPP.out]; simp
    rw [e]; exact IntWalk.i64_in _ (by omega)
  have hbl : b5 < W'.heap.size := (Array.getElem?_eq_some_iff.1 hcost).1
  obtain ⟨k0, k1, k2⟩ := bx_cells3 (bx_keep hcost ((Below.refl W'.heap.size W').alloc (Nat.le_refl _) (.cells #[.bool false, .int .i64 0, .int .i64 0, .slice none 0 0] 36)))
  show Calls _ _ #[.int .i64 (i : Nat), .int .i64 (j : Nat), .pointer (some ⟨b5, 0, none⟩)] _ _
  clear h hc hb hw hj hij hbl
  go_enter Try.func40, Try.ntmps40
  go_wp2
  refine bodyPost_ret (v := .agg #[.bool true, .int .i64 (p : Int), .int .i64 0, .slice none 0 0]) (by simp [results, Try.results40, go_sem]) rfl ?_
  exact ⟨_, rfl, ⟨_, rfl, rd_nil _ _⟩, (Below.refl _ _).alloc (Nat.le_refl _) _⟩

set_option maxHeartbeats 4000000 in
set_option maxRecDepth 100000 in
theorem nearLeaf (b5 b4 : Nat) (c : Co) (hc : c.ok) (w : List Int) (hw : w.length ≤ 12) (W : World) (h : NB b5 b4 c w W) :
    LeafFn 39 #[.pointer (some ⟨b5, 0, none⟩), .pointer (some ⟨b4, 0, none⟩)] (leafR c w) (fun _ => True) w.length (fun _ => False) W := by
  intro W' y i j _ hij hj hb
  have hnb := h.keep hb
  obtain ⟨yt, yn⟩ := y
  show Calls _ _ #[.agg #[.bool yt, .int .i64 yn], .int .i64 (i : Nat), .int .i64 (j : Nat), .pointer (some ⟨b5, 0, none⟩), .pointer (some ⟨b4, 0, none⟩)] _ _
  obtain ⟨o, HO⟩ := nameIt (leafR c w ⟨yt, yn⟩ i j)
  rw [HO.out]
  have ho := HO.out
  clear HO
  unfold leafR at ho
  simp only at ho
  cases yt with
  | false =>
    simp only [Bool.false_eq_true, if_false] at ho
    subst ho
    clear h hnb hb hc hw hij hj
    go_enter Try.func39, Try.ntmps39
    go_wp2
    refine bodyPost_ret (v := .agg #[.bool false, .int .i64 0, .int .i64 0, .slice none 0 0]) (by simp [results, Try.results39, go_sem]) rfl ?_
    exact ⟨_, rfl, VR.none _ _, ((Below.refl _ _).alloc (Nat.le_refl _) _).alloc (by simp) _⟩
  | true =>
    simp only [if_true] at ho
    rw [← near_one c w yn i j hij hj] at ho
    obtain ⟨hcost, wa, wk, hword, hsl⟩ := hnb
    obtain ⟨c0, c1, c2⟩ := c
    simp only [Co.ok] at hc
    simp only at hcost
    obtain ⟨hc0, hc1, hc2, hc3, hc4, hc5⟩ := hc
    obtain ⟨n, HN⟩ := nameIt (j - i)
    rw [HN.out] at ho
    have hn12 : n ≤ 12 := by rw [← HN.out]; omega
    obtain ⟨p, HPP⟩ := nameIt (n * c1)
    obtain ⟨a, HA⟩ := nameIt (c0 + p)
    have hp : p ≤ 1200 := by rw [← HPP.out]; exact Nat.le_trans (Nat.mul_le_mul hn12 hc3) (by decide)
    have hw1 : IntKind.i64.wrap ((j : Int) - (i : Int)) = (n : Int) := by have := HN.out; rw [IntWalk.i64_in _ (by omega)]; omega
    have hw2 : IntKind.i64.wrap ((n : Int) * (c1 : Int)) = (p : Int) := by
      have e : (n : Int) * (c1 : Int) = (p : Int) := by rw [← HPP.out]; simp
      rw [e]; exact IntWalk.i64_in _ (by omega)
    have hw3 : IntKind.i64.wrap ((c0 : Int) + (p : Int)) = (a : Int) := by have := HA.out; rw [IntWalk.i64_in _ (by omega)]; omega
    obtain ⟨wn, HWN⟩ := nameIt w.length
    rw [HWN.out] at hword hsl hj hw
    obtain ⟨-, hwk1, hwk2⟩ := hsl.len
    unfold maxLen at hwk2
    have HSTART : Hid (nearS ⟨c0, c1, c2⟩ w yn i n 0 = a) := by show _ = _; rw [← HA.out, ← HPP.out]; rfl
    obtain ⟨w0, HW⟩ := nameIt ((W'.alloc (.cells #[.bool true, .int .i64 yn] 44)).alloc (.cells #[.bool false, .int .i64 0, .int .i64 0, .slice none 0 0] 36))
    have hw0 : Below W'.heap.size W' w0 := by
      rw [← HW.out]
      exact ((Below.refl _ _).alloc (Nat.le_refl _) _).alloc (by simp) _
    have hy0 : w0.heap[W'.heap.size]? = some (.cells #[.bool true, .int .i64 yn] 44 (0, 0)) := by
      rw [← HW.out]; exact bx_keep (bx_new _ _ _ rfl) ((Below.refl _ _).alloc (Nat.le_refl _) _)
    have hz0 : w0.heap[W'.heap.size + 1]? = some (.cells #[.bool false, .int .i64 0, .int .i64 0, .slice none 0 0] 36 (0, 0)) := by
      rw [← HW.out]; exact bx_new _ _ _ (by simp)
    have HCO := Lib.hid (bx_keep hcost hw0)
    have HWO := Lib.hid (bx_keep hword hw0)
    have HY0 := Lib.hid hy0
    have HZ0 := Lib.hid hz0
    have HRB : Hid (∀ w1, Below w0.heap.size w0 w1 → Below W'.heap.size W' w1) := fun w1 hb => hw0.trans (hb.mono hw0.size)
    obtain ⟨k0, k1, k2⟩ := bx_cells3 HCO.out
    obtain ⟨y0, y1⟩ := bx_cells2 hy0
    have hsl0 := hsl.keep hw0
    have HSL := Lib.hid hsl0
    have HB0 := Lib.hid hw0
    have HHO := Lib.hid ho
    have hi' : (i : Int) ≤ 12 := by omega
    have hj' : (j : Int) ≤ 12 := by omega
    clear h hb hcost hword hsl hsl0 ho hy0 hz0
    go_enter Try.func39, Try.ntmps39
    go_upto_region 1 with fail
    rw [HW.out]
    clear HW hw0
    go_wp2_with fail
    go_loopg [9, 10, 11] n (fun gg v9 v10 v11 wr => ∃ m : Nat, m ≤ n ∧ n - m ≤ gg ∧ v9 = .int .i64 (nearS ⟨c0, c1, c2⟩ w yn i n m : Nat) ∧ v10 = .int .i64 ((i + m : Nat) : Int) ∧ Hid (nearS ⟨c0, c1, c2⟩ w yn i n m ≤ 1300) ∧ Hid (Below w0.heap.size w0 wr))
    case atStart => exact ⟨0, by omega, by omega, by rw [HSTART.out], rfl, (by show nearS _ _ _ _ _ _ ≤ 1300; rw [HSTART.out, ← HA.out]; omega), Below.refl _ _⟩
    case round =>
      clear k0 k1 k2 y0 y1
      obtain ⟨m, hm, hgg, rfl, rfl, HLE, HBR⟩ := hrel
      obtain ⟨w1, rfl⟩ : ∃ wo : World, wo = wr := ⟨_, rfl⟩
      obtain ⟨k0, k1, k2⟩ := bx_cells3 (bx_keep HCO.out HBR.out)
      have q0 := bx_cells1 (bx_keep HWO.out HBR.out)
      obtain ⟨y0, y1⟩ := bx_cells2 (bx_keep HY0.out HBR.out)
      obtain ⟨x, HX⟩ := nameIt (nearS ⟨c0, c1, c2⟩ w yn i n m)
      obtain ⟨k, HK⟩ := nameIt (i + m)
      have hx13 : x ≤ 1300 := by rw [← HX.out]; exact HLE.out
      rw [HX.out, HK.out]
      by_cases hkj : k < j
      · have hkj' : (k : Int) < (j : Int) := by omega
        have hkw : k < w.length := by rw [HWN.out]; omega
        have hkw' : (k : Int) < (wn : Int) := by omega
        obtain ⟨ba, oa, hae, hcc⟩ := (HSL.out.keep HBR.out).at (k := k) (by omega)
        have cw := hcc k (by rw [ints_len]; exact hkw)
        rw [ints_get] at cw
        subst hae
        obtain ⟨wv, HWV⟩ := nameIt (w[k]'hkw)
        rw [HWV.out] at cw
        obtain ⟨n1, HN1⟩ := nameIt (n - 1)
        obtain ⟨p1, HP1⟩ := nameIt (n1 * c1)
        have hp1 : p1 ≤ 1200 := by rw [← HP1.out]; exact Nat.le_trans (Nat.mul_le_mul (by rw [← HN1.out]; omega : n1 ≤ 12) hc3) (by decide)
        obtain ⟨q, HQ⟩ := nameIt (p1 + c2)
        have hn1p : 1 ≤ n := by have := HK.out; have := HN.out; omega
        have hw4 : IntKind.i64.wrap ((n : Int) - 1) = (n1 : Int) := by have := HN1.out; rw [IntWalk.i64_in _ (by omega)]; omega
        have hw5 : IntKind.i64.wrap ((n1 : Int) * (c1 : Int)) = (p1 : Int) := by
          have e : (n1 : Int) * (c1 : Int) = (p1 : Int) := by rw [← HP1.out]; simp
          rw [e]; exact IntWalk.i64_in _ (by omega)
        have hw6 : IntKind.i64.wrap ((p1 : Int) + (c2 : Int)) = (q : Int) := by have := HQ.out; rw [IntWalk.i64_in _ (by omega)]; omega
        have HNEXT : Hid (nearS ⟨c0, c1, c2⟩ w yn i n (m + 1) = min x (if wv = yn then p1 else q)) := by
          show _ = _
          rw [nearS, HX.out, HN1.out, HP1.out, HK.out]
          have : w.getD k 0 = wv := by rw [← HWV.out, List.getD_eq_getElem?_getD, List.getElem?_eq_getElem hkw]; rfl
          rw [this]
          by_cases e : wv = yn
          · rw [if_pos e, if_pos e]; rfl
          · rw [if_neg e, if_neg e, ← HQ.out]
        by_cases e : wv = yn
        · have hne : (wv != yn) = false := by simp [e]
          obtain ⟨z, HZ⟩ := nameIt (min x p1)
          have hmn : min (x : Int) (p1 : Int) = (z : Int) := by have := HZ.out; omega
          have HNX2 : Hid (nearS ⟨c0, c1, c2⟩ w yn i n (m + 1) = z) := by show _ = _; rw [HNEXT.out, if_pos e, HZ.out]
          have hz13 : z ≤ 1300 := by rw [← HZ.out]; omega
          clear e hcc
          go_wp2_with fail
          go_quiet (fail)
          go_wp2_with fail
          go_roundg (n - (m + 1))
          case measure => have := HK.out; have := HN.out; omega
          case rel =>
            have := HK.out
            have := HN.out
            exact ⟨m + 1, by omega, by omega, by rw [HNX2.out], by rw [show i + (m + 1) = k + 1 by omega]; go_num, (by rw [HNX2.out]; exact hz13), (HBR.out.trans ((below_drewN _ _).mono HBR.out.size))⟩
        · have hne : (wv != yn) = true := by simp [e]
          obtain ⟨z, HZ⟩ := nameIt (min x q)
          have hmn : min (x : Int) (q : Int) = (z : Int) := by have := HZ.out; omega
          have HNX2 : Hid (nearS ⟨c0, c1, c2⟩ w yn i n (m + 1) = z) := by show _ = _; rw [HNEXT.out, if_neg e, HZ.out]
          have hz13 : z ≤ 1300 := by rw [← HZ.out]; omega
          clear e hcc
          go_wp2_with fail
          go_quiet (fail)
          obtain ⟨w2, HW2⟩ := nameIt (w1.drewN nq)
          have hb2 : Below w1.heap.size w1 w2 := by rw [← HW2.out]; exact below_drewN _ _
          obtain ⟨k0, k1, k2⟩ := bx_cells3 (bx_keep HCO.out (HBR.out.trans (hb2.mono HBR.out.size)))
          have HB2 := Lib.hid (HBR.out.trans (hb2.mono HBR.out.size))
          rw [HW2.out]
          clear HW2 hb2
          go_wp2_with fail
          go_roundg (n - (m + 1))
          case measure => have := HK.out; have := HN.out; omega
          case rel =>
            have := HK.out
            have := HN.out
            exact ⟨m + 1, by omega, by omega, by rw [HNX2.out], by rw [show i + (m + 1) = k + 1 by omega]; go_num, (by rw [HNX2.out]; exact hz13), HB2⟩
      · have hkj' : ¬ (k : Int) < (j : Int) := by omega
        have hmn : m = n := by have := HK.out; have := HN.out; omega
        have hxo : o = some ⟨x, 1, [yn]⟩ := by rw [← HHO.out, ← HX.out, hmn]
        have hbw := HRB.out w1 HBR.out
        have hal : Below w1.heap.size w1 (w1.alloc (.cells #[.int .i64 yn] 3)) := (Below.refl _ _).alloc (Nat.le_refl _) _
        obtain ⟨z0, z1, z2, z3⟩ := bx_cells4 (bx_keep (bx_keep HZ0.out HBR.out) hal)
        obtain ⟨f0, f1, f2, f3⟩ := bx_free4 (bx_keep (bx_keep HZ0.out HBR.out) hal)
        have HAL := Lib.hid hal
        have HXO := Lib.hid hxo
        have HBW := Lib.hid hbw
        have HZ1 := Lib.hid (bx_keep HZ0.out HBR.out)
        have HZL : Hid (W'.heap.size + 1 < w1.heap.size) := (Array.getElem?_eq_some_iff.1 HZ1.out).1
        clear hmn hxo hbw hal
        go_wp2_with fail
        refine bodyPost_ret (v := .agg #[.bool true, .int .i64 (x : Int), .int .i64 1, .slice (some ⟨w1.heap.size, 0, none⟩) 1 1]) (by simp [results, Try.results39, go_sem, z0, z1, z2, z3]) rfl ?_
        have hg := grown_cell4 (w1.alloc (.cells #[.int .i64 yn] 3)) (W'.heap.size + 1) (.bool true) (.int .i64 (x : Int)) (.int .i64 1) (.slice (some ⟨w1.heap.size, 0, none⟩) 1 1)
        have hzl := HZL.out
        have hrd : Rd (fun k => w1.heap.size ≤ k) (w1.alloc (.cells #[.int .i64 yn] 3)) (D.ints [yn]) [.slice (some ⟨w1.heap.size, 0, none⟩) 1 1] := by
          refine ⟨some ⟨w1.heap.size, 0, none⟩, 1, [.int .i64 yn], rfl, by simp, by simp [maxLen], (fun e => by cases e), fun i hi => ?_, ?_⟩
          · simp at hi
            subst hi
            refine ⟨⟨w1.heap.size, 0, none⟩, rfl, Nat.le_refl _, ?_⟩
            rw [add_at]
            have hn := heap_alloc_new w1 (.cells #[.int .i64 yn] 3)
            simp only [World.cell?, hn]
            rfl
          · simp [RdAll, Rd]
        have hb3 := HBW.out.trans (HAL.out.mono HBW.out.size)
        refine ⟨_, rfl, ⟨.slice (some ⟨w1.heap.size, 0, none⟩) 1 1, ?_, ?_⟩, hb3.grown hg hb3.size ?_⟩
        · rw [HXO.out]; rfl
        · rw [HXO.out]
          refine (rd_grown hrd hg ?_).mono ?_
          · intro k e h
            cases e
            have h2 : w1.heap.size ≤ W'.heap.size + 1 := h
            omega
          · intro k h _
            have h2 : w1.heap.size ≤ k := h
            first | exact Or.inr (by omega) | (show W'.heap.size ≤ k; omega)
        · intro k e
          cases e
          omega

/-- the value of the start symbol over the whole word -/
def nearOf (c : Co) (w : List Int) (T : Tb) (st : Int) : Option Val := ofT (leafR c w) T ⟨false, st⟩ 0 w.length
theorem eg39 : ∀ args w, (callFunc 39 args).run Try.prog w = .ok (.enter 39 args) w := fun _ _ => by kernel_rfl
theorem eg40 : ∀ args w, (callFunc 40 args).run Try.prog w = .ok (.enter 40 args) w := fun _ _ => by kernel_rfl
end Rp
end Go.Proofs.Ytjpmebppdcclbaa
