/- census.Counter.loops. A region that draws its order: loads are taken first where their cells stay as they are until the tail begins. census.Make. The contracts of gram.T and gram.N. -/
import Derived.Test.YtbnpemgmdnghgaaJRankTellsRow4
import Derived.Test.YtbnpemgmdnghgaaJRankTellsRow2
import Derived.StillTailTactics
import Derived.Deep.RegionHeld3
import Derived.Deep.LoopGhost
import Derived.Test.YtbnpemgmdnghgaaJRankTellsRow1
namespace Go.Proofs.Ytbnpemgmdnghgaa
open Go.RowKit
namespace Cs

theorem rd_rest {S0 : Nat → Prop} {w : World} {k : Nat} : ∀ (i : Nat) {ds : List D} {b off n cap : Nat}, Rd S0 w (.sl ds) [.slice (some ⟨b, off, none⟩) n cap] → (∀ d ∈ ds, d.cells = k) → i ≤ n →
    Rd S0 w (.sl (ds.drop i)) [.slice (some ⟨b, if cap = i then off else off + i * k, none⟩) (n - i) (cap - i)] := by
  intro i ds b off n cap h hk hi
  obtain ⟨a', cap', L, e, h1, h2, h3, h4, h5⟩ := h
  simp at e
  obtain ⟨rfl, rfl, rfl⟩ := e
  rw [← List.take_append_drop i ds] at h5
  obtain ⟨c1, c2, rfl, h6, h7⟩ := h5.split
  have hl : c1.length = i * k := by
    rw [RdAll.len _ _ h6, cellsAll_eq (fun d hd => hk d (List.mem_of_mem_take hd)), List.length_take, Nat.min_eq_left (by omega)]
  refine ⟨some ⟨b, if cap = i then off else off + i * k, none⟩, cap - i, c2, by simp, by simp; omega, by omega, (fun e => by cases e), fun j hj => ?_, h7⟩
  have hc2 : c2.length = (ds.length - i) * k := by rw [RdAll.len _ _ h7, cellsAll_eq (fun d hd => hk d (List.mem_of_mem_drop hd)), List.length_drop]
  have hne : cap ≠ i := by
    intro e
    have : ds.length - i = 0 := by omega
    rw [this, Nat.zero_mul] at hc2
    omega
  obtain ⟨x, hx, hS, hc⟩ := h4 (i * k + j) (by simp; omega)
  cases hx
  rw [if_neg hne]
  refine ⟨_, rfl, hS, ?_⟩
  rw [List.getElem_append_right (by omega)] at hc
  rw [add_at] at hc
  rw [add_at]
  have e1 : off + i * k + j = off + (i * k + j) := by omega
  rw [e1, hc]
  congr 2
  omega

/-- the table of edges, beside all that was there -/
structure LI (wB : World) (bt sz : Nat) (rb : Nat → Nat) (B2 : Nat) (F : Nat → Nat → Bool) (wr : World) : Prop where
  tab : Grd 51 4 wB.heap.size bt sz sz sz rb (fun a b => .bool (F a b)) wr
  bel : Below wB.heap.size wB wr
  lo : ∀ a, a < sz → rb a < B2
section
variable {wB : World} {bt sz : Nat} {rb : Nat → Nat} {B2 : Nat} {F : Nat → Nat → Bool} {wr W : World}
theorem LI.keep (h : LI wB bt sz rb B2 F wr) (hb : Below wr.heap.size wr W) : LI wB bt sz rb B2 F W := ⟨h.tab.keep hb, h.bel.trans (hb.mono h.bel.size), h.lo⟩
theorem LI.setv (h : LI wB bt sz rb B2 F wr) {a b : Nat} (ha : a < sz) (hb : b < sz) (x : Bool) : LI wB bt sz rb B2 (fun k l => if k = a ∧ l = b then x else F k l) (wr.setCell ⟨rb a, b, none⟩ (.bool x)) := by
  refine ⟨(h.tab.set ha ha hb (.bool x)).eq (fun k l _ _ _ => ?_), h.bel.setCell (p := ⟨rb a, b, none⟩) (h.tab.ne a ha ha).2 _, h.lo⟩
  show (if k = a ∧ l = b then _ else _) = _
  split <;> rfl
theorem LI.eq {F' : Nat → Nat → Bool} (h : LI wB bt sz rb B2 F wr) (he : ∀ k l, k < sz → l < sz → F k l = F' k l) : LI wB bt sz rb B2 F' wr := ⟨h.tab.eq fun k l hk _ hl => by rw [he k l hk hl], h.bel, h.lo⟩
theorem LI.set (h : LI wB bt sz rb B2 F wr) {a b : Nat} (ha : a < sz) (hb : b < sz) : LI wB bt sz rb B2 (updB F a b) (wr.setCell ⟨rb a, b, none⟩ (.bool true)) := h.setv ha hb true
end
/-- valid rules -/
def okL (N : Nat) (g : Gram) : Prop := ∀ r ∈ g.rules, 0 ≤ r.left ∧ r.left.toNat < N

set_option maxHeartbeats 16000000 in
set_option maxRecDepth 100000 in
theorem loopsE {g : Gram} {ra : Option Addr} {rcap : Nat} {N n : Nat} {d : Cid} {S : Nat → Nat → Bool} {C : Nat → Nat → Int} {w0 : World} (hnons : g.nons = (N : Int)) (hN1 : 1 ≤ N) (hN2 : N ≤ 10) (hn : n ≤ 24) (hg : okR N g) (hlf : okL N g) (hR : Rd AnyB w0 (.sl (g.rules.map Rule.d)) [.slice ra g.rules.length rcap])
    (W : World) (h : CI g (.slice ra g.rules.length rcap) N n d S (fun _ _ => false) C W) (hb0 : Below w0.heap.size w0 W) (hlo : w0.heap.size ≤ d.b1) :
    Calls Try.prog 55 #[.pointer (some ⟨d.cb, 0, none⟩)] W fun e W' => e = .returned (.tuple #[]) ∧ CI g (.slice ra g.rules.length rcap) N n d S (MK g.rules S N n) C W' ∧ Below d.b2 W W' := by
  obtain ⟨PST, HP⟩ := nameIt (fun e W' => e = Ending.returned (.tuple #[]) ∧ CI g (.slice ra g.rules.length rcap) N n d S (MK g.rules S N n) C W' ∧ Below d.b2 W W')
  rw [HP.out]
  have HPST : Hid (∀ W', CI g (.slice ra g.rules.length rcap) N n d S (MK g.rules S N n) C W' → Below d.b2 W W' → PST (.returned (.tuple #[])) W') := by intro W' h1 h2; rw [← HP.out]; exact ⟨rfl, h1, h2⟩
  have HCI := Lib.hid h
  have hdb2 : d.b2 ≤ W.heap.size := h.b2
  have HB0 := Lib.hid hb0
  have HRD := Lib.hid hR
  have HGG := Lib.hid hg
  have HLF := Lib.hid hlf
  obtain ⟨m, HM⟩ := nameIt (n + 1)
  have hm1 : 1 ≤ m := by have := HM.out; omega
  have hm2 : m ≤ 25 := by have := HM.out; omega
  have hmn : n < m := by have := HM.out; omega
  have HMZ : Hid (((n : Int) + 1) = (m : Int)) := by show _ = _; rw [← HM.out]; omega
  have hw1 : IntKind.i64.wrap ((n : Int) + 1) = (m : Int) := by rw [IntWalk.i64_in _ (by omega), HMZ.out]
  obtain ⟨sz, HSZ⟩ := nameIt (N * m)
  have hszz : sz ≤ 250 := by
    have : N * m ≤ 10 * 25 := Nat.mul_le_mul hN2 hm2
    rw [HSZ.out] at this; exact this
  have hsz1 : 1 ≤ sz := by
    have : 1 * 1 ≤ N * m := Nat.mul_le_mul hN1 hm1
    rw [HSZ.out] at this; exact this
  have HSZI : Hid ((N : Int) * (m : Int) = (sz : Int)) := by show _ = _; rw [← HSZ.out]; exact (Int.natCast_mul N m).symm
  have hw2 : IntKind.i64.wrap ((N : Int) * (m : Int)) = (sz : Int) := by rw [HSZI.out, IntWalk.i64_in _ (by omega)]
  have HSK : Hid (sizeK N n = sz) := by show N * (n + 1) = sz; rw [HM.out]; exact HSZ.out
  have HNODE : Hid (∀ A k, A < N → k < m → A * m + k < sz) := by
    intro A k hA hk
    have h1 := node_lt (N := N) (n := n) hA (show k ≤ n by have := HM.out; omega)
    rw [HM.out, HSK.out] at h1
    exact h1
  have hmk1 : ∀ W : World, (Instr.makeSlice 73 (.int .i64 (sz : Int)) (.int .i64 (sz : Int))).run Try.prog W = .ok (.slice (some ⟨W.heap.size, 0, none⟩) sz sz) (W.alloc (.cells (madeCells #[.slice none 0 0] sz) 51)) := fun W => by
    have := run_make_row' (P := Try.prog) 73 51 (.slice none 0 0) 24 Try.underlying73 (by kernel_rfl) rfl .i64 .i64 sz (by omega) (by omega) W
    simpa using this
  have hmk2 : ∀ W : World, (Instr.makeSlice 51 (.int .i64 (sz : Int)) (.int .i64 (sz : Int))).run Try.prog W = .ok (.slice (some ⟨W.heap.size, 0, none⟩) sz sz) (W.alloc (.cells (madeCells #[.bool false] sz) 4)) := fun W => by
    have := run_make_row' (P := Try.prog) 51 4 (.bool false) 1 Try.underlying51 (by kernel_rfl) rfl .i64 .i64 sz (by omega) (by omega) W
    simpa using this
  obtain ⟨TT, hbx⟩ := h.box
  obtain ⟨c0, c1, c2, c3, c4, c5, c6, c7⟩ := bx_cells8c hbx
  rw [hnons] at c1
  have HNON := Lib.hid hnons
  have hrc : rcap ≤ maxLen ∧ g.rules.length ≤ rcap := by obtain ⟨a', cap', L, e, h1, h2, _⟩ := hR; simp at e h1; omega
  unfold maxLen at hrc
  obtain ⟨rl, HRL⟩ := nameIt g.rules.length
  rw [HRL.out] at hrc
  clear h hb0 hR hg hlf hnons hbx
  go_enter Try.func55, Try.ntmps55
  go_wp2_with fail
  go_quiet (fail)
  obtain ⟨wB, HWB⟩ := nameIt (W.drewN nq)
  have HBW : Hid (Below W.heap.size W wB) := by rw [← HWB.out]; exact below_drewN _ _
  have HCB : Hid (CI g (.slice ra g.rules.length rcap) N n d S (fun _ _ => false) C wB) := HCI.out.keep HBW.out
  rw [HWB.out]
  clear c0 c1 c2 c3 c4 c5 c6 c7 HWB HCI
  obtain ⟨bt, HBT⟩ := nameIt wB.heap.size
  have HI0 : Hid (∃ rb, Grd 51 4 wB.heap.size bt sz sz 0 rb (fun _ _ => .bool false) (wB.alloc (.cells (madeCells #[.slice none 0 0] sz) 51)) ∧ Below wB.heap.size wB (wB.alloc (.cells (madeCells #[.slice none 0 0] sz) 51))) :=
    ⟨fun _ => 0, Grd.start _ _ _ HBT.out.symm (Nat.le_refl _), (Below.refl _ _).alloc (Nat.le_refl _) _⟩
  go_wp2_with fail
  rw [HBT.out]
  clear hmk1
  go_loopg [31] sz (fun gg v31 wr => ∃ k : Nat, k ≤ sz ∧ sz - k ≤ gg ∧ v31 = .int .i64 k ∧ Hid (∃ rb, Grd 51 4 wB.heap.size bt sz sz k rb (fun _ _ => .bool false) wr ∧ Below wB.heap.size wB wr))
  case atStart => exact ⟨0, by omega, by omega, rfl, HI0⟩
  case round =>
    clear HI0
    obtain ⟨k, hk, hg, rfl, HI⟩ := hrel
    by_cases hkN : k < sz
    · have hkN' : (k : Int) < (sz : Int) := by omega
      obtain ⟨rb, hd, hbel⟩ := HI.out
      have hbt := hd.lt
      have hbB := hd.bB
      have hsz := hbel.size
      obtain ⟨⟨vc, hc8⟩, hf8⟩ := hd.hcell hkN
      have HT1 : Hid (∃ rb, Grd 51 4 wB.heap.size bt sz sz (k + 1) rb (fun _ _ => .bool false) ((wr.alloc (.cells (madeCells #[.bool false] sz) 4)).setCell ⟨bt, k, none⟩ (.slice (some ⟨wr.heap.size, 0, none⟩) sz sz)) ∧ Below wB.heap.size wB ((wr.alloc (.cells (madeCells #[.bool false] sz) 4)).setCell ⟨bt, k, none⟩ (.slice (some ⟨wr.heap.size, 0, none⟩) sz sz))) :=
        ⟨_, hd.add hkN (by omega), (hbel.alloc (by omega) _).setCell (by show wB.heap.size ≤ bt; omega) _⟩
      have hne8 : ¬ bt = wr.heap.size := by omega
      have hne9 : ¬ wr.heap.size = bt := by omega
      obtain ⟨w2, HW2⟩ := nameIt ((wr.alloc (.cells (madeCells #[.bool false] sz) 4)).setCell ⟨bt, k, none⟩ (.slice (some ⟨wr.heap.size, 0, none⟩) sz sz))
      have hcomm : (wr.setCell ⟨bt, k, none⟩ (.slice (some ⟨wr.heap.size, 0, none⟩) sz sz)).alloc (.cells (madeCells #[.bool false] sz) 4) = w2 := by
        rw [← HW2.out]
        simp [go_sem, hbt]
      have HCM := Lib.hid hcomm
      rw [HW2.out] at HT1
      clear hcomm hd hbel
      go_upto_region 6 with fail
      rw [HCM.out]
      clear hc8 hf8 hne8 hne9
      go_wp2_with fail
      go_roundg (sz - (k + 1))
      case measure => omega
      case rel => exact ⟨k + 1, by omega, by omega, by go_num, HT1⟩
    · have hkN' : ¬ (k : Int) < (sz : Int) := by omega
      have hkk : k = sz := by omega
      have HE := HI.out
      rw [hkk] at HE
      obtain ⟨rb, hgrd, hbl⟩ := HE
      obtain ⟨w3, rfl⟩ : ∃ ww : World, ww = wr := ⟨_, rfl⟩
      have HLI0 : Hid (LI wB bt sz rb w3.heap.size (e5 S n (g.rules.take 0)) w3) := ⟨hgrd, hbl, fun a ha => hgrd.rlt ha ha⟩
      obtain ⟨TT, hbx⟩ := (HCB.out.keep hbl).box
      obtain ⟨c0, c1, c2, c3, c4, c5, c6, c7⟩ := bx_cells8c hbx
      rw [HRL.out] at c3
      obtain ⟨B2, HB2⟩ := nameIt w3.heap.size
      rw [HB2.out] at HLI0
      have hB2 : B2 ≤ w3.heap.size := by rw [HB2.out]; exact Nat.le_refl _
      clear hgrd hbl hkk hbx HI hmk2
      go_wp2_with fail
      clear c0 c1 c2 c3 c4 c5 c6 c7
      go_loopg [46] rl (fun gg v46 wr => ∃ i : Nat, i ≤ rl ∧ rl - i ≤ gg ∧ v46 = .int .i64 i ∧ B2 ≤ wr.heap.size ∧ Hid (LI wB bt sz rb B2 (e5 S n (g.rules.take i)) wr))
      case atStart => exact ⟨0, by omega, by omega, rfl, hB2, HLI0⟩
      case round =>
        clear HLI0 hB2
        obtain ⟨i, hi, hg, rfl, hB2, HLI⟩ := hrel
        obtain ⟨w4, rfl⟩ : ∃ ww : World, ww = wr := ⟨_, rfl⟩
        by_cases hlt : i < rl
        · have hlt' : (i : Int) < (rl : Int) := by omega
          have hi0 : (0 : Int) ≤ (i : Int) := by omega
          have hix : i < g.rules.length := by rw [HRL.out]; exact hlt
          obtain ⟨rbk, ro, rv, hae, -, hrb, r0, r1, hrr⟩ := HRD.out.rule_at hix
          obtain ⟨ar, cr, rfl, hcr1, hcr2⟩ := hrr.form
          rw [List.length_map] at r1 hrr hcr1
          unfold maxLen at hcr2
          have HB4 : Hid (Below w0.heap.size w0 w4) := HB0.out.trans ((HBW.out.trans (HLI.out.bel.mono HBW.out.size)).mono HB0.out.size)
          have HRR := Lib.hid hrr
          have t0 := (HB4.out.cell (lt_of_cell r0)).trans r0
          have t1 := (HB4.out.cell (lt_of_cell r1)).trans r1
          have HF5 : Hid (e5 S n (g.rules.take (i + 1)) = e4 S n g.rules[i] (e5 S n (g.rules.take i)) (n + 1)) := by
            show _ = _; unfold e5; rw [List.take_succ_eq_append_getElem hix, List.foldl_append]; rfl
          have HOKR := Lib.hid (HGG.out _ (List.getElem_mem hix))
          have HOKL := Lib.hid (HLF.out _ (List.getElem_mem hix))
          obtain ⟨r, HRN⟩ := nameIt (g.rules[i]'hix)
          rw [HRN.out] at t0 t1 HF5 HRR HOKR HOKL hcr1
          obtain ⟨rn, HRNL⟩ := nameIt r.right.length
          rw [HRNL.out] at t1 HRR hcr1
          obtain ⟨A, hA⟩ : ∃ A : Nat, r.left = (A : Int) := ⟨r.left.toNat, by have := HOKL.out.1; omega⟩
          have hAN : A < N := by have := HOKL.out.2; rw [hA] at this; simpa using this
          have HAL : Hid (r.left.toNat = A) := by show _ = _; rw [hA]; simp
          rw [hA] at t0
          obtain ⟨F0, HF0⟩ := nameIt (e5 S n (g.rules.take i))
          rw [HF0.out] at HLI HF5
          obtain ⟨w5, HW5⟩ := nameIt (w4.alloc (.cells #[.int .i64 (A : Int), .slice ar rn cr] 48))
          have HLI5 : Hid (LI wB bt sz rb B2 (e4 S n r F0 0) w5) := by rw [← HW5.out]; exact HLI.out.keep ((Below.refl _ _).alloc (Nat.le_refl _) _)
          have Y5 : Hid (w5.heap[w4.heap.size]? = some (.cells #[.int .i64 (A : Int), .slice ar rn cr] 48 (0, 0))) := by rw [← HW5.out]; exact bx_new _ _ _ rfl
          have hB5 : B2 ≤ w5.heap.size := by rw [← HW5.out]; simp; omega
          obtain ⟨rbx, HRBX⟩ := nameIt w4.heap.size
          have hrbx : B2 ≤ rbx := by rw [← HRBX.out]; exact hB2
          rw [HRBX.out] at Y5
          subst hae
          clear hrr r0 r1 hA
          go_upto_region 10 with fail
          rw [HW5.out, HRBX.out]
          clear t0 t1
          obtain ⟨TT, hbx⟩ := (HCB.out.keep HLI5.out.bel).box
          obtain ⟨c0, c1, c2, c3, c4, c5, c6, c7⟩ := bx_cells8c hbx
          clear hbx
          go_wp2_with fail
          clear c0 c1 c2 c3 c4 c5 c6 c7
          go_loopg [55] m (fun gg v55 wr => ∃ k : Nat, k ≤ m ∧ m - k ≤ gg ∧ v55 = .int .i64 k ∧ B2 ≤ wr.heap.size ∧ Hid (LI wB bt sz rb B2 (e4 S n r F0 k) wr) ∧ Hid (wr.heap[rbx]? = some (.cells #[.int .i64 (A : Int), .slice ar rn cr] 48 (0, 0))))
          case atStart => exact ⟨0, by omega, by omega, rfl, hB5, HLI5, Y5⟩
          case round =>
            clear HLI5 Y5 hB5
            obtain ⟨k, hk, hg2, rfl, hB6, HLI6, Y6⟩ := hrel
            obtain ⟨w6, rfl⟩ : ∃ ww : World, ww = wr := ⟨_, rfl⟩
            by_cases hkm : k < m
            · have hkm' : (k : Int) < (m : Int) := by omega
              have hkn : k ≤ n := by have := HM.out; omega
              obtain ⟨F1, HF1⟩ := nameIt (e4 S n r F0 k)
              have HF4 : Hid (e4 S n r F0 (k + 1) = e3 S n r k F1 rn) := by
                show _ = _; rw [← HF1.out, ← HRNL.out]; unfold e4; exact range_fold _ _ _
              rw [HF1.out] at HLI6
              have HLI6' : Hid (LI wB bt sz rb B2 (e3 S n r k F1 0) w6) := HLI6.out
              obtain ⟨y0, y1⟩ := bx_cells2 Y6.out
              go_wp2_with fail
              clear y0 y1
              go_loopg [61] rn (fun gg v61 wr => ∃ p : Nat, p ≤ rn ∧ rn - p ≤ gg ∧ v61 = .int .i64 p ∧ B2 ≤ wr.heap.size ∧ Hid (LI wB bt sz rb B2 (e3 S n r k F1 p) wr) ∧ Hid (wr.heap[rbx]? = some (.cells #[.int .i64 (A : Int), .slice ar rn cr] 48 (0, 0))))
              case atStart => exact ⟨0, by omega, by omega, rfl, hB6, HLI6', Y6⟩
              case round =>
                clear HLI6 HLI6' Y6 hB6
                obtain ⟨p, hp, hg3, rfl, hB7, HLI7, Y7⟩ := hrel
                obtain ⟨w7, rfl⟩ : ∃ ww : World, ww = wr := ⟨_, rfl⟩
                by_cases hpr : p < rn
                · have hpr' : (p : Int) < (rn : Int) := by omega
                  have hp0 : (0 : Int) ≤ (p : Int) := by omega
                  have hpx : p < r.right.length := by rw [HRNL.out]; exact hpr
                  obtain ⟨sb, so, hse, -, hsl, s0, s1⟩ := HRR.out.sym_at hpx
                  have HB7 : Hid (Below w0.heap.size w0 w7) := HB0.out.trans ((HBW.out.trans (HLI7.out.bel.mono HBW.out.size)).mono HB0.out.size)
                  have t0 := (HB7.out.cell (lt_of_cell s0)).trans s0
                  have t1 := (HB7.out.cell (lt_of_cell s1)).trans s1
                  have HGD : Hid (r.right.getD p ⟨true, 0⟩ = r.right[p]) := by show _ = _; rw [List.getD_eq_getElem?_getD, List.getElem?_eq_getElem hpx]; rfl
                  have HOKS := Lib.hid (HOKR.out _ (List.getElem_mem hpx))
                  obtain ⟨⟨st, sn⟩, HSY⟩ := nameIt (r.right[p]'hpx)
                  rw [HSY.out] at t0 t1 HGD HOKS
                  simp only at t0 t1
                  obtain ⟨F2, HF2⟩ := nameIt (e3 S n r k F1 p)
                  have HF3 : Hid (e3 S n r k F1 (p + 1) = if st = true then F2 else e2 S n r k p F2 (k + 1)) := by
                    show _ = _; rw [← HF2.out]; unfold e3; rw [range_fold, HGD.out]
                  rw [HF2.out] at HLI7
                  obtain ⟨w8, HW8⟩ := nameIt (w7.alloc (.cells #[.bool st, .int .i64 sn] 65))
                  have HLI8 : Hid (LI wB bt sz rb B2 F2 w8) := by rw [← HW8.out]; exact HLI7.out.keep ((Below.refl _ _).alloc (Nat.le_refl _) _)
                  have Y8 : Hid (w8.heap[rbx]? = some (.cells #[.int .i64 (A : Int), .slice ar rn cr] 48 (0, 0))) := by rw [← HW8.out]; exact bx_keep Y7.out ((Below.refl _ _).alloc (Nat.le_refl _) _)
                  have Z8 : Hid (w8.heap[w7.heap.size]? = some (.cells #[.bool st, .int .i64 sn] 65 (0, 0))) := by rw [← HW8.out]; exact bx_new _ _ _ rfl
                  have hB8 : B2 ≤ w8.heap.size := by rw [← HW8.out]; simp; omega
                  obtain ⟨sbx, HSBX⟩ := nameIt w7.heap.size
                  have hsbx : B2 ≤ sbx := by rw [← HSBX.out]; exact hB7
                  rw [HSBX.out] at Z8
                  subst hse
                  clear s0 s1
                  go_upto_region 16 with fail
                  rw [HW8.out, HSBX.out]
                  clear t0 t1
                  obtain ⟨z0, z1⟩ := bx_cells2 Z8.out
                  cases st with
                  | true =>
                    have HF9 : Hid (LI wB bt sz rb B2 (e3 S n r k F1 (p + 1)) w8) := by have := HLI8.out; show LI _ _ _ _ _ _ _; rw [HF3.out]; exact this
                    go_wp2_with fail
                    go_roundg (rn - (p + 1))
                    case measure => omega
                    case rel => exact ⟨p + 1, by omega, by omega, by go_num, hB8, HF9, Y8⟩
                  | false =>
                    obtain ⟨hs1, hs2⟩ := HOKS.out rfl
                    simp only at hs1 hs2
                    obtain ⟨Bn, rfl⟩ : ∃ Bn : Nat, sn = (Bn : Int) := ⟨sn.toNat, by omega⟩
                    rw [Int.toNat_natCast] at hs2
                    have HF3' : Hid (e3 S n r k F1 (p + 1) = e2 S n r k p F2 (k + 1)) := HF3.out
                    have HGD2 : Hid ((r.right.getD p ⟨true, 0⟩).n.toNat = Bn) := by show _ = _; rw [HGD.out]; simp
                    have HLI8' : Hid (LI wB bt sz rb B2 (e2 S n r k p F2 0) w8) := HLI8.out
                    have hwk : IntKind.i64.wrap ((k : Int) + 1) = ((k + 1 : Nat) : Int) := by rw [IntWalk.i64_in _ (by omega)]; omega
                    obtain ⟨k1, HK1⟩ := nameIt (k + 1)
                    have hk1m : k1 ≤ m := by have := HK1.out; omega
                    rw [HK1.out] at hwk HF3'
                    go_wp2_with fail
                    clear z0 z1
                    go_loopg [70] k1 (fun gg v70 wr => ∃ j : Nat, j ≤ k1 ∧ k1 - j ≤ gg ∧ v70 = .int .i64 j ∧ B2 ≤ wr.heap.size ∧ Hid (LI wB bt sz rb B2 (e2 S n r k p F2 j) wr) ∧ Hid (wr.heap[rbx]? = some (.cells #[.int .i64 (A : Int), .slice (some ⟨sb, so, none⟩) rn cr] 48 (0, 0))) ∧ Hid (wr.heap[sbx]? = some (.cells #[.bool false, .int .i64 (Bn : Int)] 65 (0, 0))))
                    case atStart => exact ⟨0, by omega, by omega, rfl, hB8, HLI8', Y8, Z8⟩
                    case round =>
                      clear HLI8 HLI8' Y8 Z8 hB8
                      obtain ⟨j, hj, hg4, rfl, hB9, HLI9, Y9, Z9⟩ := hrel
                      obtain ⟨w9, rfl⟩ : ∃ ww : World, ww = wr := ⟨_, rfl⟩
                      by_cases hjk : j < k1
                      · have hjk' : (j : Int) < (k1 : Int) := by omega
                        have hj0 : (0 : Int) ≤ (j : Int) := by omega
                        have hjm : j < m := by omega
                        have hjk2 : j ≤ k := by have := HK1.out; omega
                        have hjn : j < n + 1 := by have := HM.out; omega
                        obtain ⟨F3, HF3n⟩ := nameIt (e2 S n r k p F2 j)
                        have HF2' : Hid (e2 S n r k p F2 (j + 1) = e1 S n r k p F3 j) := by show _ = _; rw [← HF3n.out]; unfold e2; exact range_fold _ _ _
                        rw [HF3n.out] at HLI9
                        have HE1 : Hid (e1 S n r k p F3 j = if (S Bn j && splitK S (r.right.take p) (r.right.drop (p + 1)) (k - j)) = true then updB F3 (A * m + k) (Bn * m + j) else F3) := by
                          show _ = _; unfold e1; rw [HGD2.out, HAL.out, HM.out]
                        rw [HE1.out] at HF2'
                        have HCI9 := Lib.hid (HCB.out.keep HLI9.out.bel)
                        obtain ⟨TT, hbx⟩ := HCI9.out.box
                        obtain ⟨c0, c1, c2, c3, c4, c5, c6, c7⟩ := bx_cells8c hbx
                        obtain ⟨y0, y1⟩ := bx_cells2 Y9.out
                        obtain ⟨z0, z1⟩ := bx_cells2 Z9.out
                        have q0 := HCI9.out.some'.head hs2
                        have q1 := HCI9.out.some'.cell hs2 hjn
                        rw [HM.out] at q0
                        have HB9 : Hid (Below w0.heap.size w0 w9) := HB0.out.trans ((HBW.out.trans (HLI9.out.bel.mono HBW.out.size)).mono HB0.out.size)
                        have hbn1 : (Bn : Int) < (N : Int) := by omega
                        have hbn0 : (0 : Int) ≤ (Bn : Int) := by omega
                        have hjm' : (j : Int) < (m : Int) := by omega
                        have hkj : IntKind.i64.wrap ((k : Int) - (j : Int)) = ((k - j : Nat) : Int) := by rw [IntWalk.i64_in _ (by omega)]; omega
                        have hp1 : IntKind.i64.wrap ((p : Int) + 1) = ((p + 1 : Nat) : Int) := by rw [IntWalk.i64_in _ (by omega)]; omega
                        have hkjn : k - j ≤ n := by omega
                        have HRT := Lib.hid (HRR.out.start (i := p) (by rw [List.length_map]; omega))
                        have HRD2 := Lib.hid (rd_rest (k := 2) (p + 1) HRR.out (syms_cells _) (by omega))
                        rw [← List.map_take] at HRT
                        rw [← List.map_drop] at HRD2
                        have htl : (r.right.take p).length = p := by rw [List.length_take]; omega
                        have hdl : (r.right.drop (p + 1)).length = rn - (p + 1) := by rw [List.length_drop, HRNL.out]
                        have hsplit := fun (W' : World) (hb : Below w9.heap.size w9 W') => splitE (by omega) (r.right.take p) (r.right.drop (p + 1)) (fun s hs => HOKR.out s (List.mem_of_mem_take hs)) (fun s hs => HOKR.out s (List.mem_of_mem_drop hs)) (k - j) hkjn (some ⟨sb, so, none⟩) (some ⟨sb, if cr = p + 1 then so else so + (p + 1) * 2, none⟩) cr (cr - (p + 1)) W' (HCI9.out.keep hb) (by rw [htl]; exact HRT.out.below (HB9.out.trans (hb.mono HB9.out.size))) (by rw [hdl]; exact HRD2.out.below (HB9.out.trans (hb.mono HB9.out.size)))
                        rw [htl, hdl] at hsplit
                        have HSPL := Lib.hid hsplit
                        obtain ⟨kj, HKJ⟩ := nameIt (k - j)
                        rw [HKJ.out] at hkj HSPL HF2'
                        obtain ⟨pv, HPV⟩ := nameIt (splitK S (r.right.take p) (r.right.drop (p + 1)) kj)
                        rw [HPV.out] at HSPL HF2'
                        obtain ⟨sv, HSV⟩ := nameIt (S Bn j)
                        rw [HSV.out] at q1 HF2'
                        have hpc1 : (p : Int) ≤ (cr : Int) := by omega
                        have hpc2 : ((p + 1 : Nat) : Int) ≤ (rn : Int) := by omega
                        have hpc3 : ((p + 1 : Nat) : Int) ≤ (cr : Int) := by omega
                        have hpc0 : (0 : Int) ≤ ((p + 1 : Nat) : Int) := by omega
                        obtain ⟨p1, HP1⟩ := nameIt (p + 1)
                        rw [HP1.out] at hp1 hpc2 hpc3 hpc0 HSPL
                        have k1' := aft_cell c5
                        have k2' := aft_cell y1
                        have k3' := aft_cell z1
                        have k4' := aft_cell q0
                        have k5' := aft_cell q1
                        clear hsplit htl hdl hbx c0 c1 c2 c3 c4 c5 c6 c7 y0 y1 z0 z1 q0 q1 hkjn
                        cases sv with
                        | false =>
                          have HF9 : Hid (e2 S n r k p F2 (j + 1) = F3) := HF2'.out
                          go_upto_region 20 with fail
                          refine wp_region_after (by kernel_rfl) (by kernel_rfl) ?_
                          repeat (go_big_quiet_step (fail))
                          refine wpQuiet_nil ?_
                          rintro w10 ⟨⟨_, hb10⟩, rfl⟩
                          have HL10 : Hid (LI wB bt sz rb B2 (e2 S n r k p F2 (j + 1)) w10) := by show LI _ _ _ _ _ _ _; rw [HF9.out]; exact HLI9.out.keep hb10
                          have Y10 := Lib.hid (bx_keep Y9.out hb10)
                          have Z10 := Lib.hid (bx_keep Z9.out hb10)
                          have hB10 : B2 ≤ w10.heap.size := Nat.le_trans hB9 hb10.size
                          clear hb10 k1' k2' k3' k4' k5'
                          go_wp2_with fail
                          go_roundg (k1 - (j + 1))
                          case measure => omega
                          case rel => exact ⟨j + 1, by omega, by omega, by go_num, hB10, HL10, Y10, Z10⟩
                        | true =>
                          have HFP : Hid (e2 S n r k p F2 (j + 1) = if pv = true then updB F3 (A * m + k) (Bn * m + j) else F3) := HF2'.out
                          by_cases hct : cr = p1
                          all_goals
                            first | (rw [if_pos hct, show rn - p1 = 0 by omega, show cr - p1 = 0 by omega] at HSPL; subst hct) | rw [if_neg hct] at HSPL
                            go_upto_region 20 with fail
                            refine wp_region_after (by kernel_rfl) (by kernel_rfl) ?_
                            repeat (go_big_quiet_step (with_reducible exact Calls.after (HSPL.out _ (Aft.bel _))))
                            refine wpQuiet_nil ?_
                            rintro w10 ⟨⟨_, hb10⟩, rfl⟩
                            have HL10 : Hid (LI wB bt sz rb B2 F3 w10) := HLI9.out.keep hb10
                            have Y10 := Lib.hid (bx_keep Y9.out hb10)
                            have Z10 := Lib.hid (bx_keep Z9.out hb10)
                            have hB10 : B2 ≤ w10.heap.size := Nat.le_trans hB9 hb10.size
                            clear hb10 k1' k2' k3' k4' k5'
                            cases pv with
                            | false =>
                              have HL11 : Hid (LI wB bt sz rb B2 (e2 S n r k p F2 (j + 1)) w10) := by show LI _ _ _ _ _ _ _; rw [HFP.out]; exact HL10.out
                              go_wp2_with fail
                              go_roundg (k1 - (j + 1))
                              case measure => omega
                              case rel => exact ⟨j + 1, by omega, by omega, by go_num, hB10, HL11, Y10, Z10⟩
                            | true =>
                              have HFQ : Hid (e2 S n r k p F2 (j + 1) = updB F3 (A * m + k) (Bn * m + j)) := HFP.out
                              have hu := HNODE.out A k hAN hkm
                              have hv := HNODE.out Bn j hs2 hjm
                              have hAm : A * m ≤ 10 * 25 := Nat.mul_le_mul (by omega) hm2
                              have hBm : Bn * m ≤ 10 * 25 := Nat.mul_le_mul (by omega) hm2
                              have ha1 : IntKind.i64.wrap ((A : Int) * (m : Int)) = ((A * m : Nat) : Int) := by rw [← Int.natCast_mul, IntWalk.i64_in _ (by omega)]
                              have ha2 : IntKind.i64.wrap (((A * m : Nat) : Int) + (k : Int)) = ((A * m + k : Nat) : Int) := by rw [IntWalk.i64_in _ (by omega)]; omega
                              have hc1 : IntKind.i64.wrap ((Bn : Int) * (m : Int)) = ((Bn * m : Nat) : Int) := by rw [← Int.natCast_mul, IntWalk.i64_in _ (by omega)]
                              have hc2 : IntKind.i64.wrap (((Bn * m : Nat) : Int) + (j : Int)) = ((Bn * m + j : Nat) : Int) := by rw [IntWalk.i64_in _ (by omega)]; omega
                              obtain ⟨u, HU⟩ := nameIt (A * m + k)
                              obtain ⟨v, HV⟩ := nameIt (Bn * m + j)
                              rw [HU.out] at hu ha2 HFQ
                              rw [HV.out] at hv hc2 HFQ
                              obtain ⟨am, HAM⟩ := nameIt (A * m)
                              obtain ⟨bm, HBM⟩ := nameIt (Bn * m)
                              rw [HAM.out] at ha1 ha2
                              rw [HBM.out] at hc1 hc2
                              have hu' : (u : Int) < (sz : Int) := by omega
                              have hv' : (v : Int) < (sz : Int) := by omega
                              have hu0 : (0 : Int) ≤ (u : Int) := by omega
                              have hv0 : (0 : Int) ≤ (v : Int) := by omega
                              obtain ⟨TT, hbx⟩ := (HCB.out.keep HL10.out.bel).box
                              obtain ⟨c0, c1, c2, c3, c4, c5, c6, c7⟩ := bx_cells8c hbx
                              obtain ⟨y0, y1⟩ := bx_cells2 Y10.out
                              obtain ⟨z0, z1⟩ := bx_cells2 Z10.out
                              have g0 := HL10.out.tab.hdr hu hu
                              have g1 := HL10.out.tab.cell hu hu hv
                              have gf := HL10.out.tab.free hu hu v
                              have HL11 : Hid (LI wB bt sz rb B2 (e2 S n r k p F2 (j + 1)) (w10.drew.setCell ⟨rb u, v, none⟩ (.bool true))) := by
                                show LI _ _ _ _ _ _ _; rw [HFQ.out]; exact (HL10.out.keep (Below.refl _ _).drew).set hu hv
                              have hlo := HL10.out.lo u hu
                              have Y11 : Hid ((w10.drew.setCell ⟨rb u, v, none⟩ (.bool true)).heap[rbx]? = some (.cells #[.int .i64 (A : Int), .slice (some ⟨sb, so, none⟩) rn _] 48 (0, 0))) := bx_other (bx_keep Y10.out (Below.refl _ _).drew) (by omega) _ _
                              have Z11 : Hid ((w10.drew.setCell ⟨rb u, v, none⟩ (.bool true)).heap[sbx]? = some (.cells #[.bool false, .int .i64 (Bn : Int)] 65 (0, 0))) := bx_other (bx_keep Z10.out (Below.refl _ _).drew) (by omega) _ _
                              have hB11 : B2 ≤ (w10.drew.setCell ⟨rb u, v, none⟩ (.bool true)).heap.size := by simp [World.setCell]; exact hB10
                              clear hbx hAm hBm
                              go_upto_region 21 with fail
                              refine wp_region_still_tail 24 (by kernel_rfl) (by kernel_rfl) ?_
                              simp only [List.take_succ_cons, List.take_zero, List.drop_succ_cons, List.drop_zero]
                              change wpStill _ _ (World.drew _) _ _ _
                              refine still_quiet _ _ ?_
                              repeat (go_big_quiet_step (fail))
                              refine wpQuiet_nil ?_
                              change wpList _ _ _ _ _ (World.drew _)
                              go_wp2_with fail
                              go_roundg (k1 - (j + 1))
                              case measure => omega
                              case rel => exact ⟨j + 1, by omega, by omega, by go_num, hB11, HL11, Y11, Z11⟩
                      · have hjk' : ¬ (j : Int) < (k1 : Int) := by omega
                        have hjj : j = k1 := by omega
                        have HF9 : Hid (LI wB bt sz rb B2 (e3 S n r k F1 (p + 1)) w9) := by have := HLI9.out; rw [hjj, ← HF3'.out] at this; exact this
                        clear hjj
                        go_wp2_with fail
                        go_roundg (rn - (p + 1))
                        case measure => omega
                        case rel => exact ⟨p + 1, by omega, by omega, by go_num, hB9, HF9, Y9⟩
                · have hpr' : ¬ (p : Int) < (rn : Int) := by omega
                  have hpp : p = rn := by omega
                  have HF9 : Hid (LI wB bt sz rb B2 (e4 S n r F0 (k + 1)) w7) := by have := HLI7.out; rw [hpp, ← HF4.out] at this; exact this
                  clear hpp
                  go_wp2_with fail
                  go_roundg (m - (k + 1))
                  case measure => omega
                  case rel => exact ⟨k + 1, by omega, by omega, by go_num, hB7, HF9, Y7⟩
            · have hkm' : ¬ (k : Int) < (m : Int) := by omega
              have hkk : k = n + 1 := by have := HM.out; omega
              have HF9 : Hid (LI wB bt sz rb B2 (e5 S n (g.rules.take (i + 1))) w6) := by have := HLI6.out; rw [hkk, ← HF5.out] at this; exact this
              clear hkk
              go_wp2_with fail
              go_roundg (rl - (i + 1))
              case measure => omega
              case rel => exact ⟨i + 1, by omega, by omega, by go_num, hB6, HF9⟩
        · have hlt' : ¬ (i : Int) < (rl : Int) := by omega
          have hil : i = g.rules.length := by rw [HRL.out]; omega
          have HLF5 : Hid (LI wB bt sz rb B2 (e5 S n g.rules) w4) := by have := HLI.out; rw [hil, List.take_length] at this; exact this
          clear hil HLI
          have HLW : Hid (LI wB bt sz rb B2 (wv (edg sz (e5 S n g.rules)) 0 0 0) w4) := HLF5.out.eq fun a b ha hb => wv_start ha hb
          have HSKE : Hid (clK g.rules S N n = fw (edg sz (e5 S n g.rules)) sz) := by show _ = _; unfold clK; rw [HSK.out]; rfl
          obtain ⟨E, HEE⟩ := nameIt (edg sz (e5 S n g.rules))
          rw [HEE.out] at HLW HSKE
          clear HLF5
          go_wp2_with fail
          go_loopg [129] sz (fun gg v129 wr => ∃ k : Nat, k ≤ sz ∧ sz - k ≤ gg ∧ v129 = .int .i64 k ∧ Hid (LI wB bt sz rb B2 (wv E k 0 0) wr))
          case atStart => exact ⟨0, by omega, by omega, rfl, HLW⟩
          case round =>
            clear HLW hB2
            obtain ⟨k, hk, hg2, rfl, HL5⟩ := hrel
            obtain ⟨w5, rfl⟩ : ∃ ww : World, ww = wr := ⟨_, rfl⟩
            by_cases hks : k < sz
            · have hks' : (k : Int) < (sz : Int) := by omega
              have hk0 : (0 : Int) ≤ (k : Int) := by omega
              go_wp2_with fail
              go_loopg [133] sz (fun gg v133 wr => ∃ i : Nat, i ≤ sz ∧ sz - i ≤ gg ∧ v133 = .int .i64 i ∧ Hid (LI wB bt sz rb B2 (wv E k i 0) wr))
              case atStart => exact ⟨0, by omega, by omega, rfl, HL5⟩
              case round =>
                clear HL5
                obtain ⟨i, hi, hg3, rfl, HL6⟩ := hrel
                obtain ⟨w6, rfl⟩ : ∃ ww : World, ww = wr := ⟨_, rfl⟩
                by_cases his : i < sz
                · have his' : (i : Int) < (sz : Int) := by omega
                  have hi0 : (0 : Int) ≤ (i : Int) := by omega
                  have g0 := HL6.out.tab.hdr his his
                  have g1 := HL6.out.tab.cell his his hks
                  rw [wv_col] at g1
                  obtain ⟨pv, HPV⟩ := nameIt (fw E k i k)
                  rw [HPV.out] at g1
                  cases pv with
                  | false =>
                    have HL7 : Hid (LI wB bt sz rb B2 (wv E k (i + 1) 0) w6) := HL6.out.eq fun a b _ _ => wv_skip HPV.out
                    go_wp2_with fail
                    go_roundg (sz - (i + 1))
                    case measure => omega
                    case rel => exact ⟨i + 1, by omega, by omega, by go_num, HL7⟩
                  | true =>
                    go_wp2_with fail
                    clear g0 g1
                    go_loopg [145] sz (fun gg v145 wr => ∃ j : Nat, j ≤ sz ∧ sz - j ≤ gg ∧ v145 = .int .i64 j ∧ Hid (LI wB bt sz rb B2 (wv E k i j) wr))
                    case atStart => exact ⟨0, by omega, by omega, rfl, HL6⟩
                    case round =>
                      clear HL6
                      obtain ⟨j, hj, hg4, rfl, HL7⟩ := hrel
                      obtain ⟨w7, rfl⟩ : ∃ ww : World, ww = wr := ⟨_, rfl⟩
                      by_cases hjs : j < sz
                      · have hjs' : (j : Int) < (sz : Int) := by omega
                        have hj0 : (0 : Int) ≤ (j : Int) := by omega
                        have g0 := HL7.out.tab.hdr his his
                        have g1 := HL7.out.tab.cell his his hjs
                        have g2 := HL7.out.tab.hdr hks hks
                        have g3 := HL7.out.tab.cell hks hks hjs
                        have gf := HL7.out.tab.free his his j
                        rw [wv_self] at g1
                        rw [wv_row] at g3
                        have HNX : Hid (∀ v, v = (fw E k i j || (fw E k i k && fw E k k j)) → LI wB bt sz rb B2 (wv E k i (j + 1)) (w7.drew.setCell ⟨rb i, j, none⟩ (.bool v))) := fun v hv =>
                          ((HL7.out.keep (Below.refl _ _).drew).setv his hjs v).eq fun a b _ _ => wv_next hv
                        rw [HPV.out] at HNX
                        obtain ⟨xv, HXV⟩ := nameIt (fw E k i j)
                        obtain ⟨yv, HYV⟩ := nameIt (fw E k k j)
                        rw [HXV.out, HYV.out] at HNX
                        rw [HXV.out] at g1
                        rw [HYV.out] at g3
                        cases xv
                        all_goals
                          have HNY := Lib.hid (HNX.out _ rfl)
                          first | rw [show (false || (true && yv)) = yv by simp] at HNY | rw [show (true || (true && yv)) = true by simp] at HNY
                          clear HNX
                          go_upto_region 36 with fail
                          refine wp_region_still_tail 22 (by kernel_rfl) (by kernel_rfl) ?_
                          simp only [List.take_succ_cons, List.take_zero, List.drop_succ_cons, List.drop_zero]
                          change wpStill _ _ (World.drew _) _ _ _
                          refine still_quiet _ _ ?_
                          repeat (go_big_quiet_step (fail))
                          refine wpQuiet_nil ?_
                          change wpList _ _ _ _ _ (World.drew _)
                          go_wp2_with fail
                          go_roundg (sz - (j + 1))
                          case measure => omega
                          case rel => exact ⟨j + 1, by omega, by omega, by go_num, HNY⟩
                      · have hjs' : ¬ (j : Int) < (sz : Int) := by omega
                        have hjj : j = sz := by omega
                        have HL8 : Hid (LI wB bt sz rb B2 (wv E k (i + 1) 0) w7) := by have := HL7.out; rw [hjj] at this; exact this.eq fun a b _ hb => wv_line hb
                        clear hjj
                        go_wp2_with fail
                        go_roundg (sz - (i + 1))
                        case measure => omega
                        case rel => exact ⟨i + 1, by omega, by omega, by go_num, HL8⟩
                · have his' : ¬ (i : Int) < (sz : Int) := by omega
                  have hii : i = sz := by omega
                  have HL7 : Hid (LI wB bt sz rb B2 (wv E (k + 1) 0 0) w6) := by have := HL6.out; rw [hii] at this; exact this.eq fun a b ha _ => wv_end ha
                  clear hii
                  go_wp2_with fail
                  go_roundg (sz - (k + 1))
                  case measure => omega
                  case rel => exact ⟨k + 1, by omega, by omega, by go_num, HL7⟩
            · have hks' : ¬ (k : Int) < (sz : Int) := by omega
              have hkk : k = sz := by omega
              have HLE : Hid (LI wB bt sz rb B2 (clK g.rules S N n) w5) := by
                have := HL5.out; rw [hkk] at this
                exact this.eq fun a b ha hb => by rw [HSKE.out]; unfold wv; rw [if_neg (by omega)]
              obtain ⟨F, HFF⟩ := nameIt (clK g.rules S N n)
              have HLM : Hid (LM g (.slice ra g.rules.length rcap) N n d S C wB bt sz rb F (mv F sz m 0 0) w5) := by
                rw [← HFF.out]
                exact ⟨(HCB.out.keep HLE.out.bel).eqM fun a k _ _ => mv_zero.symm, HLE.out.tab, HLE.out.bel.mono HCB.out.b2, HCB.out.lt⟩
              have HEND : Hid (∀ W', LM g (.slice ra g.rules.length rcap) N n d S C wB bt sz rb F (mv F sz m sz 0) W' → PST (.returned (.tuple #[])) W') := fun W' hh => by
                refine HPST.out W' (hh.ci.eqM fun a k ha hk => ?_) ?_
                · rw [← HFF.out, ← HM.out, ← HSK.out]; exact mv_end ha hk
                · exact (HBW.out.mono hdb2).trans hh.bel
              clear HLE hkk HL5
              go_wp2_with fail
              go_loopg [174] sz (fun gg v174 wr => ∃ i : Nat, i ≤ sz ∧ sz - i ≤ gg ∧ v174 = .int .i64 i ∧ Hid (LM g (.slice ra g.rules.length rcap) N n d S C wB bt sz rb F (mv F sz m i 0) wr))
              case atStart => exact ⟨0, by omega, by omega, rfl, HLM⟩
              case round =>
                clear HLM
                obtain ⟨i, hi, hg3, rfl, HL6⟩ := hrel
                obtain ⟨w6, rfl⟩ : ∃ ww : World, ww = wr := ⟨_, rfl⟩
                by_cases his : i < sz
                · have his' : (i : Int) < (sz : Int) := by omega
                  have hi0 : (0 : Int) ≤ (i : Int) := by omega
                  go_wp2_with fail
                  go_loopg [178] sz (fun gg v178 wr => ∃ j : Nat, j ≤ sz ∧ sz - j ≤ gg ∧ v178 = .int .i64 j ∧ Hid (LM g (.slice ra g.rules.length rcap) N n d S C wB bt sz rb F (mv F sz m i j) wr))
                  case atStart => exact ⟨0, by omega, by omega, rfl, HL6⟩
                  case round =>
                    clear HL6
                    obtain ⟨j, hj, hg4, rfl, HL7⟩ := hrel
                    obtain ⟨w7, rfl⟩ : ∃ ww : World, ww = wr := ⟨_, rfl⟩
                    by_cases hjs : j < sz
                    · have hjs' : (j : Int) < (sz : Int) := by omega
                      have hj0 : (0 : Int) ≤ (j : Int) := by omega
                      have g0 := HL7.out.tab.hdr his his
                      have g1 := HL7.out.tab.cell his his hjs
                      have g2 := HL7.out.tab.hdr hjs hjs
                      have g3 := HL7.out.tab.cell hjs hjs hjs
                      have HMC : Hid (mc F i j = ((i == j || F i j) && F j j)) := rfl
                      obtain ⟨eb, HEB⟩ : ∃ eb : Bool, Hid (((i : Int) == (j : Int)) = eb) := ⟨_, rfl⟩
                      have hebn : (i == j) = eb := by
                        rw [← HEB.out, Bool.eq_iff_iff]; simp; omega
                      rw [hebn] at HMC
                      have hebi := HEB.out
                      obtain ⟨xv, HXV⟩ := nameIt (F i j)
                      obtain ⟨yv, HYV⟩ := nameIt (F j j)
                      rw [HXV.out, HYV.out] at HMC
                      rw [HXV.out] at g1
                      rw [HYV.out] at g3
                      have HN1 : Hid (mc F i j = false → LM g (.slice ra g.rules.length rcap) N n d S C wB bt sz rb F (mv F sz m i (j + 1)) w7) := fun hc =>
                        HL7.out.eqM fun a k _ hk => by
                          have := mv_next (T := F) (sz := sz) (m := m) (i := i) (j := j) (A := a) (k := k) (by have := HM.out; omega)
                          rw [hc] at this
                          simpa using this
                      have him : i / m < N := by
                        have h1 : i < N * m := by rw [HSZ.out]; exact his
                        exact (Nat.div_lt_iff_lt_mul (by omega)).2 h1
                      have hir : i % m < m := Nat.mod_lt _ (by omega)
                      have HN2 : Hid (mc F i j = true → LM g (.slice ra g.rules.length rcap) N n d S C wB bt sz rb F (mv F sz m i (j + 1)) (w7.drew.setCell ⟨d.rm (i / m), i % m, none⟩ (.bool true))) := fun hc =>
                        ((HL7.out.keep (Below.refl _ _).drew).set him (by have := HM.out; omega)).eqM fun a k _ hk => by
                          have := mv_next (T := F) (sz := sz) (m := m) (i := i) (j := j) (A := a) (k := k) (by have := HM.out; omega)
                          rw [hc] at this
                          simpa using this
                      obtain ⟨TT, hbx⟩ := HL7.out.ci.box
                      obtain ⟨c0, c1, c2, c3, c4, c5, c6, c7⟩ := bx_cells8c hbx
                      have hmn1 : m = n + 1 := HM.out.symm
                      have q0 := HL7.out.ci.many.head him
                      have q1 := HL7.out.ci.many.cell him (show i % m < n + 1 by omega)
                      have qf := HL7.out.ci.many.free him (i % m)
                      rw [← hmn1] at q0
                      obtain ⟨xm, HXM⟩ := nameIt (mv F sz m i j (i / m) (i % m))
                      rw [HXM.out] at q1
                      obtain ⟨iq, HIQ⟩ := nameIt (i / m)
                      obtain ⟨ir, HIR⟩ := nameIt (i % m)
                      have hdl := Nat.div_le_self i m
                      rw [HIQ.out] at him HN2 q0 q1 qf hdl
                      rw [HIR.out] at hir HN2 q1 qf
                      have hqu : wrap64 ((i : Int) / (m : Int)) = (iq : Int) := by
                        rw [show (i : Int) / (m : Int) = ((i / m : Nat) : Int) from (Int.natCast_ediv i m).symm, HIQ.out]
                        unfold wrap64; clear hir him; omega
                      have hre : (i : Int) % (m : Int) = (ir : Int) := by
                        rw [show (i : Int) % (m : Int) = ((i % m : Nat) : Int) from (Int.natCast_emod i m).symm, HIR.out]
                      clear hdl
                      have hq0 : (0 : Int) ≤ (iq : Int) := Int.natCast_nonneg _
                      have hq1 : (iq : Int) < (N : Int) := Int.ofNat_lt.2 him
                      have hr0 : (0 : Int) ≤ (ir : Int) := Int.natCast_nonneg _
                      have hr1 : (ir : Int) < (m : Int) := Int.ofNat_lt.2 hir
                      have hm0 : ¬ (m : Int) = 0 := by omega
                      have hm0b : ((m : Int) == 0) = false := by simp; omega
                      clear hbx hmn1 hebn
                      cases eb <;> cases xv <;> cases yv
                      · have HNY := Lib.hid (HN1.out HMC.out)
                        clear HN1 HN2
                        go_wp2_with fail
                        go_roundg (sz - (j + 1))
                        case measure => omega
                        case rel => exact ⟨j + 1, by omega, by omega, by go_num, HNY⟩
                      · have HNY := Lib.hid (HN1.out HMC.out)
                        clear HN1 HN2
                        go_wp2_with fail
                        go_roundg (sz - (j + 1))
                        case measure => omega
                        case rel => exact ⟨j + 1, by omega, by omega, by go_num, HNY⟩
                      · have HNY := Lib.hid (HN1.out HMC.out)
                        clear HN1 HN2
                        go_wp2_with fail
                        go_roundg (sz - (j + 1))
                        case measure => omega
                        case rel => exact ⟨j + 1, by omega, by omega, by go_num, HNY⟩
                      · have HNY := Lib.hid (HN2.out HMC.out)
                        clear HN1 HN2
                        go_upto_region 47 with fail
                        refine wp_region_still_tail 21 (by kernel_rfl) (by kernel_rfl) ?_
                        simp only [List.take_succ_cons, List.take_zero, List.drop_succ_cons, List.drop_zero]
                        change wpStill _ _ (World.drew _) _ _ _
                        refine still_quiet _ _ ?_
                        repeat (go_big_quiet_step (fail))
                        refine wpQuiet_nil ?_
                        change wpList _ _ _ _ _ (World.drew _)
                        go_wp2_with fail
                        go_roundg (sz - (j + 1))
                        case measure => omega
                        case rel => exact ⟨j + 1, by omega, by omega, by go_num, HNY⟩
                      · have HNY := Lib.hid (HN1.out HMC.out)
                        clear HN1 HN2
                        go_wp2_with fail
                        go_roundg (sz - (j + 1))
                        case measure => omega
                        case rel => exact ⟨j + 1, by omega, by omega, by go_num, HNY⟩
                      · have HNY := Lib.hid (HN2.out HMC.out)
                        clear HN1 HN2
                        go_upto_region 47 with fail
                        refine wp_region_still_tail 21 (by kernel_rfl) (by kernel_rfl) ?_
                        simp only [List.take_succ_cons, List.take_zero, List.drop_succ_cons, List.drop_zero]
                        change wpStill _ _ (World.drew _) _ _ _
                        refine still_quiet _ _ ?_
                        repeat (go_big_quiet_step (fail))
                        refine wpQuiet_nil ?_
                        change wpList _ _ _ _ _ (World.drew _)
                        go_wp2_with fail
                        go_roundg (sz - (j + 1))
                        case measure => omega
                        case rel => exact ⟨j + 1, by omega, by omega, by go_num, HNY⟩
                      · have HNY := Lib.hid (HN1.out HMC.out)
                        clear HN1 HN2
                        go_wp2_with fail
                        go_roundg (sz - (j + 1))
                        case measure => omega
                        case rel => exact ⟨j + 1, by omega, by omega, by go_num, HNY⟩
                      · have HNY := Lib.hid (HN2.out HMC.out)
                        clear HN1 HN2
                        go_upto_region 47 with fail
                        refine wp_region_still_tail 21 (by kernel_rfl) (by kernel_rfl) ?_
                        simp only [List.take_succ_cons, List.take_zero, List.drop_succ_cons, List.drop_zero]
                        change wpStill _ _ (World.drew _) _ _ _
                        refine still_quiet _ _ ?_
                        repeat (go_big_quiet_step (fail))
                        refine wpQuiet_nil ?_
                        change wpList _ _ _ _ _ (World.drew _)
                        go_wp2_with fail
                        go_roundg (sz - (j + 1))
                        case measure => omega
                        case rel => exact ⟨j + 1, by omega, by omega, by go_num, HNY⟩
                    · have hjs' : ¬ (j : Int) < (sz : Int) := by omega
                      have hjj : j = sz := by omega
                      have HL8 : Hid (LM g (.slice ra g.rules.length rcap) N n d S C wB bt sz rb F (mv F sz m (i + 1) 0) w7) := by have := HL7.out; rw [hjj] at this; exact this.eqM fun a b _ hb => mv_line
                      clear hjj
                      go_wp2_with fail
                      go_roundg (sz - (i + 1))
                      case measure => omega
                      case rel => exact ⟨i + 1, by omega, by omega, by go_num, HL8⟩
                · have his' : ¬ (i : Int) < (sz : Int) := by omega
                  have hii : i = sz := by omega
                  have HL8 := Lib.hid (HEND.out w6 (by have := HL6.out; rw [hii] at this; exact this))
                  clear hii
                  go_wp2_with fail
                  exact bodyPost_end (results_none Try.results55 _ _ _) rfl HL8.out
end Cs
end Go.Proofs.Ytbnpemgmdnghgaa
namespace Go.Proofs.Ytbnpemgmdnghgaa
open Go.RowKit

section
variable {P : Program} {ops : Array Oper} {Q : Exit → Act → World → Prop} {md : Region.Mode} {S : World → Prop} {n : Nat}
/-- whatever order is picked; S holds behind every operation until number n has come up -/
def wpU (P : Program) (md : Region.Mode) (ops : Array Oper) (Q : Exit → Act → World → Prop) (S : World → Prop) (n : Nat) : Nat → Array Bool → Act → World → Prop
  | 0, listed, a, w => Region.ready md ops listed = [] ∧ Q .normal a w
  | f + 1, listed, a, w =>
    (Region.ready md ops listed = [] → Q .normal a w) ∧
    ∀ i ∈ Region.ready md ops listed, wpOp P ops Q i (fun a' w' => ((listed.setIfInBounds i true).getD n true = false → S w') ∧ wpU P md ops Q S n f (listed.setIfInBounds i true) a' w') a w
theorem wpAny_of_U : ∀ (f : Nat) (listed : Array Bool) (a : Act) (w : World), wpU P md ops Q S n f listed a w → wpAny P md ops Q f listed a w
  | 0, _, _, _, h => h
  | f + 1, _, _, _, h => ⟨h.1, fun i hi => wpOp_mono (fun a' w' h' => wpAny_of_U f _ a' w' h'.2) (h.2 i hi)⟩
theorem wpU_first {i : Nat} {oi : Oper} {v : Value} (hi : ops[i]? = some oi) (hsel : ∀ (j : Nat) (o : Oper) cs b, ops[j]? = some o → o.op ≠ .select cs b)
    (hQ : ∀ c a w, Q (.panic c) (a.put oi.dst v) w → Q (.panic c) a w) (hs : Region.sinkB md ops n = true) (hc : Region.chainB md ops n = true) (hn : n < ops.size) (hin : i < n) :
    ∀ (f : Nat) (listed : Array Bool) (a : Act) (w : World), HeadInv md ops n listed →
      (∀ j oj, ops[j]? = some oj → j ≠ i → listed.getD j true = false → (∀ e ∈ oj.after, Region.binds md e = true → e.on ≠ i) → oi.apart ops oj = true) →
      i ∈ Region.ready md ops listed → YieldsIf P ops S oi v a → S w →
      wpU P md ops Q S n f (listed.setIfInBounds i true) (a.put oi.dst v) w → wpU P md ops Q S n (f + 1) listed a w := by
  intro f
  induction f with
  | zero =>
    intro listed a w inv _ hr hy hS H
    refine ⟨fun h => (by rw [h] at hr; cases hr), fun j hj => ?_⟩
    by_cases hji : j = i
    · subst hji; exact hy.wpOp hi hS ⟨fun _ => hS, H⟩
    · have h1 := ready_mono hj hji
      rw [H.1] at h1
      cases h1
  | succ f ih =>
    intro listed a w inv hfree hr hy hS H
    have hun := (mem_ready.1 hr).1
    refine ⟨fun h => (by rw [h] at hr; cases hr), fun j hj => ?_⟩
    have hjn : j < n := by
      rcases Nat.lt_or_ge j n with h | h
      · exact h
      · exact absurd hj (tail_waits hs hc hn inv _ i rfl hin hun j h)
    by_cases hji : j = i
    · subst hji; exact hy.wpOp hi hS ⟨fun _ => hS, H⟩
    · have h1 := H.2 j (ready_mono hj hji)
      obtain ⟨hjun, oj, hoj, hall⟩ := mem_ready.1 hj
      have hnot : ∀ e ∈ oj.after, Region.binds md e = true → e.on ≠ i := fun e he hb heq => by
        have h1 := hall e he hb
        rw [heq, getD_both hun] at h1
        cases h1
      have h2 := wpOp_putIf hoj (hfree j oj hoj hji hjun hnot) (fun cs b => hsel i oi cs b hi) (fun cs b => hsel j oj cs b hoj) hQ hy h1
      have hfree' : ∀ k ok, ops[k]? = some ok → k ≠ i → (listed.setIfInBounds j true).getD k true = false →
          (∀ e ∈ ok.after, Region.binds md e = true → e.on ≠ i) → oi.apart ops ok = true := fun k ok hk hki hun hno => by
        refine hfree k ok hk hki ?_ hno
        by_cases hjk : j = k
        · subst hjk; exact hjun
        · rw [getD_set_ne true hjk] at hun; exact hun
      have hnn : ((listed.setIfInBounds i true).setIfInBounds j true).getD n true = false := by
        rw [getD_set_ne true (by omega), getD_set_ne true (by omega)]
        exact inv.tail n (Nat.le_refl _) hn
      refine wpOp_mono (fun a' w' h3 => ⟨fun _ => h3.2.1 hnn, ih (listed.setIfInBounds j true) a' w' (inv.set hj hjn) hfree' (ready_mono hr (Ne.symm hji)) h3.1 (h3.2.1 hnn) ?_⟩) h2
      rw [Array.setIfInBounds_comm _ _ hji]
      exact h3.2.2
theorem wpU_take {i : Nat} {oi : Oper} {v : Value} {f : Nat} {listed : Array Bool} {a : Act} {w : World} (hi : ops[i]? = some oi) (inv : HeadInv md ops n listed) (hs : Region.sinkB md ops n = true) (hc : Region.chainB md ops n = true) (hn : n < ops.size) (hin : i < n)
    (hsel : Region.noSelect ops = true) (hf : Region.free md ops listed i = true) (hr : (Region.ready md ops listed).contains i = true)
    (hQ : ∀ c a w, Q (.panic c) (a.put oi.dst v) w → Q (.panic c) a w) (hy : YieldsIf P ops S oi v a) (hS : S w)
    (h : HeadInv md ops n (listed.setIfInBounds i true) → wpU P md ops Q S n f (listed.setIfInBounds i true) (a.put oi.dst v) w) : wpU P md ops Q S n (f + 1) listed a w :=
  wpU_first hi (Region.noSelect_spec hsel) hQ hs hc hn hin f listed a w inv (Region.free_spec hi hf) (by simpa using hr) hy hS (h (inv.set (by simpa using hr) hin))
theorem wp_region_U {id : Nat} {a : Act} {w : World} (n : Nat) (hm : P.follows .mixedOrders = true)
    (h : HeadInv .any ops n (Array.replicate ops.size false) → wpU P .any ops Q S n ops.size (Array.replicate ops.size false) a w.drew) : (Code.region id ops true).wp P Q a w :=
  wp_region_any hm (wpAny_of_U _ _ _ _ (h ⟨by simp, fun j oj _ hl => (by rw [getD_replicate_false] at hl; cases hl), fun t _ ht => getD_in (by simpa using ht) (getD_replicate_false _ _)⟩))
/-- the way on, shut -/
def OnU (P : Program) (md : Region.Mode) (ops : Array Oper) (Q : Exit → Act → World → Prop) (S : World → Prop) (n f : Nat) (listed : Array Bool) (K : Act → World → Prop) : Prop :=
  ∀ a w, (listed.getD n true = false → S w) → wpU P md ops Q S n f listed a w → K a w
theorem OnU.out {f : Nat} {listed : Array Bool} {K : Act → World → Prop} (h : OnU P md ops Q S n f listed K) (a : Act) (w : World) (hS : listed.getD n true = false → S w) (hw : wpU P md ops Q S n f listed a w) : K a w := h a w hS hw
theorem wpU_one {i : Nat} {o : Oper} {f : Nat} {listed : Array Bool} {a : Act} {w : World} (hr : Region.ready md ops listed = [i]) (ho : ops[i]? = some o)
    (h : ∀ K : Act → World → Prop, OnU P md ops Q S n f (listed.setIfInBounds i true) K → if Region.wanted o (yielded ops a.tmps) = true then Oper.wp P o a w K Q else K (a.put o.dst undef) w) : wpU P md ops Q S n (f + 1) listed a w := by
  refine ⟨fun h0 => (by rw [hr] at h0; cases h0), fun j hj => ?_⟩
  rw [hr] at hj
  obtain rfl : j = i := by simpa using hj
  exact wpOp_step ho (fun K hK => h K (fun a w hS hW => hK a w ⟨hS, hW⟩))
theorem wpU_two {i j : Nat} {o o' : Oper} {f : Nat} {listed : Array Bool} {a : Act} {w : World} (hr : Region.ready md ops listed = [i, j]) (ho : ops[i]? = some o) (ho' : ops[j]? = some o')
    (h : ∀ K : Act → World → Prop, OnU P md ops Q S n f (listed.setIfInBounds i true) K → if Region.wanted o (yielded ops a.tmps) = true then Oper.wp P o a w K Q else K (a.put o.dst undef) w)
    (h' : ∀ K : Act → World → Prop, OnU P md ops Q S n f (listed.setIfInBounds j true) K → if Region.wanted o' (yielded ops a.tmps) = true then Oper.wp P o' a w K Q else K (a.put o'.dst undef) w) : wpU P md ops Q S n (f + 1) listed a w := by
  refine ⟨fun h0 => (by rw [hr] at h0; cases h0), fun k hk => ?_⟩
  rw [hr] at hk
  rcases List.mem_cons.1 hk with rfl | hk
  · exact wpOp_step ho (fun K hK => h K (fun a w hS hW => hK a w ⟨hS, hW⟩))
  · obtain rfl : k = j := by simpa using hk
    exact wpOp_step ho' (fun K hK => h' K (fun a w hS hW => hK a w ⟨hS, hW⟩))
theorem wpU_done {listed : Array Bool} {a : Act} {w : World} (hr : Region.ready md ops listed = []) (h : Q .normal a w) : ∀ f, wpU P md ops Q S n f listed a w
  | 0 => ⟨hr, h⟩
  | _ + 1 => ⟨fun _ => h, by rw [hr]; simp⟩
end
end Go.Proofs.Ytbnpemgmdnghgaa
namespace Go.Proofs.Ytbnpemgmdnghgaa
open Go.RowKit
namespace Cs

theorem inv_setc {md : Region.Mode} {ops : Array Oper} {n i : Nat} {listed : Array Bool} (inv : HeadInv md ops n listed) (hr : (Region.ready md ops listed).contains i = true) (hin : i < n) : HeadInv md ops n (listed.setIfInBounds i true) := inv.set (by simpa using hr) hin
/-- a counter made -/
def MadeC (g : Gram) (vr : Value) (N n : Nat) (W : World) (e : Ending) (W' : World) : Prop :=
  ∃ (d : Cid) (S : Nat → Nat → Bool), e = .returned (.pointer (some ⟨d.cb, 0, none⟩)) ∧ (∃ q, S = itP n g.rules q (fun _ _ => false)) ∧ (p3 n g.rules S).2 = false ∧ CI g vr N n d S (MK g.rules S N n) (fun _ _ => -1) W' ∧ Below W.heap.size W W' ∧ W.heap.size ≤ d.b1

set_option maxHeartbeats 16000000 in
set_option maxRecDepth 100000 in
theorem makeE {g : Gram} {ra : Option Addr} {rcap : Nat} {N n : Nat} (hnons : g.nons = (N : Int)) (hN1 : 1 ≤ N) (hN2 : N ≤ 10) (hn : n ≤ 24) (hg : okR N g) (hlf : okL N g) (W : World) (hR : Rd AnyB W (.sl (g.rules.map Rule.d)) [.slice ra g.rules.length rcap]) :
    Calls Try.prog 28 #[.agg #[.int .i64 g.terms, .int .i64 g.nons, .int .i64 g.start, .slice ra g.rules.length rcap], .int .i64 (n : Int)] W (MadeC g (.slice ra g.rules.length rcap) N n W) := by
  obtain ⟨PST, HP⟩ := nameIt (MadeC g (.slice ra g.rules.length rcap) N n W)
  obtain ⟨w0, HW0⟩ := nameIt (W.alloc (.cells #[.int .i64 g.terms, .int .i64 g.nons, .int .i64 g.start, .slice ra g.rules.length rcap] 24))
  have hb0 : Below W.heap.size W w0 := by rw [← HW0.out]; exact (Below.refl _ _).alloc (Nat.le_refl _) _
  have HB0 := Lib.hid hb0
  have X0 : Hid (w0.heap[W.heap.size]? = some (.cells #[.int .i64 g.terms, .int .i64 g.nons, .int .i64 g.start, .slice ra g.rules.length rcap] 24 (0, 0))) := by rw [← HW0.out]; exact bx_new _ _ _ rfl
  have HRD := Lib.hid (hR.below hb0)
  have HFIN : Hid (∀ (d : Cid) (S : Nat → Nat → Bool) (w4 W' : World), (∃ q, S = itP n g.rules q (fun _ _ => false)) → (p3 n g.rules S).2 = false → CI g (.slice ra g.rules.length rcap) N n d S (MK g.rules S N n) (fun _ _ => -1) W' → Below w0.heap.size w0 w4 → Below d.b2 w4 W' → d.b1 = w0.heap.size → PST (.returned (.pointer (some ⟨d.cb, 0, none⟩))) W') := by
    intro d S w4 W' h1 h2 h3 h4 h5 h6
    have p2 := h3.some'.pl
    rw [← HP.out]
    exact ⟨d, S, rfl, h1, h2, h3, (hb0.trans (h4.mono hb0.size)).trans (h5.mono (by have := hb0.size; omega)), by have := hb0.size; omega⟩
  have HGG := Lib.hid hg
  have HLF := Lib.hid hlf
  have HPP : Hid (∀ S0, PP N (n + 1) S0 (p3 n g.rules S0)) := fun S0 => p3_inv fun r hr => (hlf r hr).2
  have HLOOP : Hid (∀ (d : Cid) (S : Nat → Nat → Bool) (w : World), CI g (.slice ra g.rules.length rcap) N n d S (fun _ _ => false) (fun _ _ => -1) w → Below w0.heap.size w0 w → d.b1 = w0.heap.size → Calls Try.prog 55 #[.pointer (some ⟨d.cb, 0, none⟩)] w fun e W' => e = .returned (.tuple #[]) ∧ CI g (.slice ra g.rules.length rcap) N n d S (MK g.rules S N n) (fun _ _ => -1) W' ∧ Below d.b2 w W') := by
    intro d S w h1 h2 h3
    exact loopsE hnons hN1 hN2 hn hg hlf (hR.below hb0) w h1 h2 (by omega)
  have HTB1 : Hid (∀ w, Calls Try.prog 52 #[.agg #[.int .i64 g.terms, .int .i64 g.nons, .int .i64 g.start, .slice ra g.rules.length rcap], .int .i64 (n : Int), .bool false] w (TablePost 4 N (n + 1) (.bool false) w)) := fun w => tableB g _ N n hnons hN1 (by omega) (by omega) false w
  have HTB2 : Hid (∀ w, Calls Try.prog 53 #[.agg #[.int .i64 g.terms, .int .i64 g.nons, .int .i64 g.start, .slice ra g.rules.length rcap], .int .i64 (n : Int), .int .i64 (-1)] w (TablePost 3 N (n + 1) (.int .i64 (-1)) w)) := fun w => tableI g _ N n hnons hN1 (by omega) (by omega) (-1) w
  obtain ⟨c0, c1, c2, c3⟩ := bx_cells4 X0.out
  have HBOX : Hid (∀ (d : Cid) (w : World) (k1 k2 k3 : Nat) T, w.heap[d.cb]? = some (.cells #[.int .i64 g.terms, .int .i64 g.nons, .int .i64 g.start, .slice ra g.rules.length rcap, .int .i64 (n : Int), .slice (some ⟨d.ts, 0, none⟩) N d.ks, .slice (some ⟨d.tm, 0, none⟩) N d.km, .slice (some ⟨d.tc, 0, none⟩) N d.kc] T (0, 0)) →
      Tb 4 d.b1 d.b2 d.ts N (n + 1) d.rs (fun a k => .bool false) w → Tb 4 d.b2 d.b3 d.tm N (n + 1) d.rm (fun a k => .bool false) w → Tb 3 d.b3 d.b4 d.tc N (n + 1) d.rc (fun a k => .int .i64 (-1)) w → d.b4 ≤ d.cb → CI g (.slice ra g.rules.length rcap) N n d (fun _ _ => false) (fun _ _ => false) (fun _ _ => -1) w) := fun d w _ _ _ T h1 h2 h3 h4 h5 => ⟨⟨T, h1⟩, h2, h3, h4, h5⟩
  have hrc : rcap ≤ maxLen ∧ g.rules.length ≤ rcap := by obtain ⟨a', cap', L, e, h1, h2, _⟩ := hR; simp at e h1; omega
  unfold maxLen at hrc
  obtain ⟨rl, HRL⟩ := nameIt g.rules.length
  obtain ⟨gt, HGT⟩ := nameIt g.terms
  obtain ⟨gs, HGS⟩ := nameIt g.start
  rw [HRL.out] at hrc
  rw [HGT.out, HGS.out, HRL.out, hnons] at HW0 X0 HTB1 HTB2 HBOX
  rw [HGT.out] at c0
  rw [hnons] at c1
  rw [HGS.out] at c2
  rw [HRL.out] at c3 HFIN HLOOP
  rw [HP.out, HGT.out, HGS.out, HRL.out, hnons]
  have HRD2 : Hid (Rd AnyB w0 (.sl (g.rules.map Rule.d)) [.slice ra rl rcap]) := by have := HRD.out; rw [HRL.out] at this; exact this
  obtain ⟨m, HM⟩ := nameIt (n + 1)
  have hm1 : 1 ≤ m := by have := HM.out; omega
  have hm2 : m ≤ 25 := by have := HM.out; omega
  have hmn : n < m := by have := HM.out; omega
  have HMZ : Hid (((n : Int) + 1) = (m : Int)) := by show _ = _; rw [← HM.out]; omega
  have hw1 : IntKind.i64.wrap ((n : Int) + 1) = (m : Int) := by rw [IntWalk.i64_in _ (by omega), HMZ.out]
  have HS : Hid (∀ w, Below w0.heap.size w0 w → (fun w' => w'.cell? ⟨W.heap.size, 0, none⟩ = some (.int .i64 gt) ∧ w'.cell? ⟨W.heap.size, 0 + 1, none⟩ = some (.int .i64 (N : Int)) ∧ w'.cell? ⟨W.heap.size, 0 + 2, none⟩ = some (.int .i64 gs) ∧ w'.cell? ⟨W.heap.size, 0 + 3, none⟩ = some (.slice ra rl rcap)) w) := by
    intro w hb
    have hlt : W.heap.size < w0.heap.size := lt_of_cell c0
    exact ⟨(hb.cell (p := ⟨W.heap.size, 0, none⟩) hlt).trans c0, (hb.cell (p := ⟨W.heap.size, 0 + 1, none⟩) hlt).trans c1, (hb.cell (p := ⟨W.heap.size, 0 + 2, none⟩) hlt).trans c2, (hb.cell (p := ⟨W.heap.size, 0 + 3, none⟩) hlt).trans c3⟩
  have TB1 := HTB1
  have TB2 := HTB2
  clear hb0 hR hg hlf c0 c1 c2 c3 HP HRD
  go_enter Try.func28, Try.ntmps28
  go_upto_region 1 with fail
  rw [HW0.out]
  refine wp_region_U (S := (fun w' => w'.cell? ⟨W.heap.size, 0, none⟩ = some (.int .i64 gt) ∧ w'.cell? ⟨W.heap.size, 0 + 1, none⟩ = some (.int .i64 (N : Int)) ∧ w'.cell? ⟨W.heap.size, 0 + 2, none⟩ = some (.int .i64 gs) ∧ w'.cell? ⟨W.heap.size, 0 + 3, none⟩ = some (.slice ra rl rcap))) 13 (by kernel_rfl) (fun inv => ?_)
  refine wpU_take (i := 0) (v := .agg #[.int .i64 gt, .int .i64 (N : Int), .int .i64 gs, .slice ra rl rcap]) rfl inv (by kernel_rfl) (by kernel_rfl) (by decide) (by decide) (by kernel_rfl) (by kernel_rfl) (by kernel_rfl) (fun _ _ _ h => h) (Or.inl ⟨by rfl, fun w' hw' => ?_⟩) (HS.out _ (Below.refl _ _).drew) (fun inv => ?_)
  · obtain ⟨h0, h1, h2, h3⟩ := hw'
    go_simp
  try simp only [Act.put, List.setIfInBounds_toArray, List.set_cons_zero, List.set_cons_succ]
  refine wpU_take (i := 2) (v := .agg #[.int .i64 gt, .int .i64 (N : Int), .int .i64 gs, .slice ra rl rcap]) rfl inv (by kernel_rfl) (by kernel_rfl) (by decide) (by decide) (by kernel_rfl) (by kernel_rfl) (by kernel_rfl) (fun _ _ _ h => h) (Or.inl ⟨by rfl, fun w' hw' => ?_⟩) (HS.out _ (Below.refl _ _).drew) (fun inv => ?_)
  · obtain ⟨h0, h1, h2, h3⟩ := hw'
    go_simp
  try simp only [Act.put, List.setIfInBounds_toArray, List.set_cons_zero, List.set_cons_succ]
  refine wpU_take (i := 5) (v := .agg #[.int .i64 gt, .int .i64 (N : Int), .int .i64 gs, .slice ra rl rcap]) rfl inv (by kernel_rfl) (by kernel_rfl) (by decide) (by decide) (by kernel_rfl) (by kernel_rfl) (by kernel_rfl) (fun _ _ _ h => h) (Or.inl ⟨by rfl, fun w' hw' => ?_⟩) (HS.out _ (Below.refl _ _).drew) (fun inv => ?_)
  · obtain ⟨h0, h1, h2, h3⟩ := hw'
    go_simp
  try simp only [Act.put, List.setIfInBounds_toArray, List.set_cons_zero, List.set_cons_succ]
  refine wpU_take (i := 8) (v := .agg #[.int .i64 gt, .int .i64 (N : Int), .int .i64 gs, .slice ra rl rcap]) rfl inv (by kernel_rfl) (by kernel_rfl) (by decide) (by decide) (by kernel_rfl) (by kernel_rfl) (by kernel_rfl) (fun _ _ _ h => h) (Or.inl ⟨by rfl, fun w' hw' => ?_⟩) (HS.out _ (Below.refl _ _).drew) (fun inv => ?_)
  · obtain ⟨h0, h1, h2, h3⟩ := hw'
    go_simp
  try simp only [Act.put, List.setIfInBounds_toArray, List.set_cons_zero, List.set_cons_succ]
  refine wpU_take (i := 1) (v := .int .i64 (n : Int)) rfl inv (by kernel_rfl) (by kernel_rfl) (by decide) (by decide) (by kernel_rfl) (by kernel_rfl) (by kernel_rfl) (fun _ _ _ h => h) (Or.inl ⟨by rfl, fun w' hw' => ?_⟩) (HS.out _ (Below.refl _ _).drew) (fun inv => ?_)
  · obtain ⟨h0, h1, h2, h3⟩ := hw'
    go_simp
  try simp only [Act.put, List.setIfInBounds_toArray, List.set_cons_zero, List.set_cons_succ]
  refine wpU_take (i := 3) (v := .int .i64 (n : Int)) rfl inv (by kernel_rfl) (by kernel_rfl) (by decide) (by decide) (by kernel_rfl) (by kernel_rfl) (by kernel_rfl) (fun _ _ _ h => h) (Or.inl ⟨by rfl, fun w' hw' => ?_⟩) (HS.out _ (Below.refl _ _).drew) (fun inv => ?_)
  · obtain ⟨h0, h1, h2, h3⟩ := hw'
    go_simp
  try simp only [Act.put, List.setIfInBounds_toArray, List.set_cons_zero, List.set_cons_succ]
  refine wpU_take (i := 6) (v := .int .i64 (n : Int)) rfl inv (by kernel_rfl) (by kernel_rfl) (by decide) (by decide) (by kernel_rfl) (by kernel_rfl) (by kernel_rfl) (fun _ _ _ h => h) (Or.inl ⟨by rfl, fun w' hw' => ?_⟩) (HS.out _ (Below.refl _ _).drew) (fun inv => ?_)
  · obtain ⟨h0, h1, h2, h3⟩ := hw'
    go_simp
  try simp only [Act.put, List.setIfInBounds_toArray, List.set_cons_zero, List.set_cons_succ]
  refine wpU_take (i := 9) (v := .int .i64 (n : Int)) rfl inv (by kernel_rfl) (by kernel_rfl) (by decide) (by decide) (by kernel_rfl) (by kernel_rfl) (by kernel_rfl) (fun _ _ _ h => h) (Or.inl ⟨by rfl, fun w' hw' => ?_⟩) (HS.out _ (Below.refl _ _).drew) (fun inv => ?_)
  · obtain ⟨h0, h1, h2, h3⟩ := hw'
    go_simp
  try simp only [Act.put, List.setIfInBounds_toArray, List.set_cons_zero, List.set_cons_succ]
  refine wpU_one (i := 4) (by kernel_rfl) rfl (fun K hK => ?_)
  replace inv := inv_setc (i := 4) inv (by kernel_rfl) (by decide)
  go_simp
  refine (TB1.out w0.drew).mono ?_
  rintro e w1 ⟨bt1, kp1, rb1, rfl, htb1, hb1⟩
  have HB1 : Hid (Below w0.heap.size w0 w1) := (Below.refl _ _).drew.trans (hb1.mono (Nat.le_refl _))
  refine hK.out _ _ (fun _ => HS.out _ HB1.out) ?_
  clear hK K
  try simp only [Act.put, List.setIfInBounds_toArray, List.set_cons_zero, List.set_cons_succ]
  refine wpU_one (i := 7) (by kernel_rfl) rfl (fun K hK => ?_)
  replace inv := inv_setc (i := 7) inv (by kernel_rfl) (by decide)
  go_simp
  refine (TB1.out w1).mono ?_
  rintro e w2 ⟨bt2, kp2, rb2, rfl, htb2, hb2⟩
  have HB2 : Hid (Below w0.heap.size w0 w2) := HB1.out.trans (hb2.mono HB1.out.size)
  refine hK.out _ _ (fun _ => HS.out _ HB2.out) ?_
  clear hK K
  try simp only [Act.put, List.setIfInBounds_toArray, List.set_cons_zero, List.set_cons_succ]
  refine wpU_one (i := 10) (by kernel_rfl) rfl (fun K hK => ?_)
  replace inv := inv_setc (i := 10) inv (by kernel_rfl) (by decide)
  go_simp
  refine (TB2.out w2).mono ?_
  rintro e w3 ⟨bt3, kp3, rb3, rfl, htb3, hb3⟩
  have HB3 : Hid (Below w0.heap.size w0 w3) := HB2.out.trans (hb3.mono HB2.out.size)
  refine hK.out _ _ (fun _ => HS.out _ HB3.out) ?_
  clear hK K
  try simp only [Act.put, List.setIfInBounds_toArray, List.set_cons_zero, List.set_cons_succ]
  refine wpU_one (i := 11) (by kernel_rfl) rfl (fun K hK => ?_)
  replace inv := inv_setc (i := 11) inv (by kernel_rfl) (by decide)
  go_simp
  refine hK.out _ _ (fun _ => HS.out _ HB3.out) ?_
  clear hK K
  try simp only [Act.put, List.setIfInBounds_toArray, List.set_cons_zero, List.set_cons_succ]
  refine wpU_one (i := 12) (by kernel_rfl) rfl (fun K hK => ?_)
  replace inv := inv_setc (i := 12) inv (by kernel_rfl) (by decide)
  go_simp
  obtain ⟨w4, HW4⟩ := nameIt (w3.alloc (.cells #[.int .i64 gt, .int .i64 (N : Int), .int .i64 gs, .slice ra rl rcap, .int .i64 (n : Int), .slice (some ⟨bt1, 0, none⟩) N kp1, .slice (some ⟨bt2, 0, none⟩) N kp2, .slice (some ⟨bt3, 0, none⟩) N kp3] 102))
  have HB4 : Hid (Below w0.heap.size w0 w4) := by rw [← HW4.out]; exact HB3.out.alloc HB3.out.size _
  rw [HW4.out]
  refine hK.out _ _ (fun _ => HS.out _ HB4.out) ?_
  clear hK K
  try simp only [Act.put, List.setIfInBounds_toArray, List.set_cons_zero, List.set_cons_succ]
  refine wpU_one (i := 13) (by kernel_rfl) rfl (fun K hK => ?_)
  go_simp
  refine hK.out _ _ (fun h => absurd (show true = false from h) (by decide)) ?_
  clear hK K
  try simp only [Act.put, List.setIfInBounds_toArray, List.set_cons_zero, List.set_cons_succ]
  refine wpU_done (by kernel_rfl) ?_ _
  rw [HM.out] at htb1 htb2 htb3
  have HCI0 : Hid (∃ d : Cid, d.b1 = w0.heap.size ∧ d.cb = w3.heap.size ∧ CI g (.slice ra rl rcap) N n d (fun _ _ => false) (fun _ _ => false) (fun _ _ => -1) w4) := by
    rw [← HM.out] at htb1 htb2 htb3
    have hbw : Below w3.heap.size w3 w4 := by rw [← HW4.out]; exact (Below.refl _ _).alloc (Nat.le_refl _) _
    have hbw2 := hb3.trans (hbw.mono hb3.size)
    have hbw1 := hb2.trans (hbw2.mono hb2.size)
    refine ⟨⟨w3.heap.size, w0.heap.size, w1.heap.size, w2.heap.size, w3.heap.size, bt1, bt2, bt3, kp1, kp2, kp3, rb1, rb2, rb3⟩, rfl, rfl, HBOX.out _ w4 0 0 0 102 ?_ ?_ ?_ ?_ (Nat.le_refl _)⟩
    · rw [← HW4.out]; exact bx_new _ _ _ rfl
    · exact htb1.keep (Nat.le_refl _) hbw1
    · exact htb2.keep (Nat.le_refl _) hbw2
    · exact htb3.keep (Nat.le_refl _) hbw
  obtain ⟨d, hd1, hd2, hci⟩ := HCI0.out
  rw [← hd2]
  have HC0 := Lib.hid hci
  have HBB := HB4
  clear htb1 htb2 htb3 hb1 hb2 hb3 HB1 HB2 HB3 HCI0 hci TB1 TB2 HTB1 HTB2 HBOX HW4 HB4 hd2
  go_wp2_with fail
  go_loopg [6] (cf N m (fun _ _ => false) + 1) (fun gg v6 wr => ∃ (ag : Bool) (S : Nat → Nat → Bool), v6 = .bool ag ∧ (ag = true → cf N m S + 1 ≤ gg) ∧ Hid (CI g (.slice ra rl rcap) N n d S (fun _ _ => false) (fun _ _ => -1) wr) ∧ Hid (Below w0.heap.size w0 wr) ∧ Hid (∃ q, S = itP n g.rules q (fun _ _ => false)) ∧ Hid (ag = false → (p3 n g.rules S).2 = false))
  case atStart => exact ⟨true, fun _ _ => false, rfl, (fun _ => Nat.le_refl _), HC0, HBB, ⟨0, rfl⟩, (fun e => by cases e)⟩
  case round =>
    clear HC0 HBB
    obtain ⟨ag, S, rfl, hgg, HCI, HBL, HIT, HAG⟩ := hrel
    obtain ⟨w5, rfl⟩ : ∃ ww : World, ww = wr := ⟨_, rfl⟩
    cases ag with
    | false =>
      have HAG1 := Lib.hid (HAG.out rfl)
      have HLC := Lib.hid (HLOOP.out d S w5 HCI.out HBL.out hd1)
      clear hgg HAG
      go_wp2_with fail
      with_reducible refine HLC.out.mono ?_
      rintro e w6 ⟨rfl, hci6, hb6⟩
      have HE := Lib.hid (HFIN.out d S w5 w6 HIT.out HAG1.out hci6 HBL.out hb6 hd1)
      go_wp2_with fail
      exact HE.out
    | true =>
      have hgg' := hgg rfl
      have HPS := Lib.hid (HPP.out S)
      have HPT : Hid (p3 n g.rules S = (g.rules.take g.rules.length).foldl (p2 n) (S, false)) := by show _ = _; rw [List.take_length]; rfl
      obtain ⟨c5, HC5⟩ := nameIt (cf N m S)
      rw [HC5.out] at hgg'
      obtain ⟨y0, y1, y2, y3⟩ := HS.out _ HBL.out
      have HS0 : Hid (∃ st : (Nat → Nat → Bool) × Bool, st = (g.rules.take 0).foldl (p2 n) (S, false) ∧ st.1 = S ∧ st.2 = false) := ⟨_, rfl, rfl, rfl⟩
      clear hgg HAG
      go_wp2_with fail
      clear y0 y1 y2 y3
      go_loopg [6, 27] rl (fun gg v6 v27 wr => ∃ (i : Nat) (T : Nat → Nat → Bool) (b : Bool), i ≤ rl ∧ rl - i ≤ gg ∧ v6 = .bool b ∧ v27 = .int .i64 i ∧ Hid ((g.rules.take i).foldl (p2 n) (S, false) = (T, b)) ∧ Hid (CI g (.slice ra rl rcap) N n d T (fun _ _ => false) (fun _ _ => -1) wr) ∧ Hid (Below w0.heap.size w0 wr))
      case atStart => exact ⟨0, S, false, by omega, by omega, rfl, rfl, rfl, HCI, HBL⟩
      case round =>
        clear HCI HBL HS0
        obtain ⟨i, T, b, hi, hg2, rfl, rfl, HST, HCI, HBL⟩ := hrel
        obtain ⟨w6, rfl⟩ : ∃ ww : World, ww = wr := ⟨_, rfl⟩
        by_cases hlt : i < rl
        · have hlt' : (i : Int) < (rl : Int) := by omega
          have hi0 : (0 : Int) ≤ (i : Int) := by omega
          have hix : i < g.rules.length := by rw [HRL.out]; exact hlt
          obtain ⟨rbk, ro, rv, hae, -, hrb, r0, r1, hrr⟩ := HRD2.out.rule_at hix
          obtain ⟨ar, cr, rfl, hcr1, hcr2⟩ := hrr.form
          rw [List.length_map] at r1 hrr hcr1
          unfold maxLen at hcr2
          have HRR := Lib.hid hrr
          have t0 := (HBL.out.cell (lt_of_cell r0)).trans r0
          have t1 := (HBL.out.cell (lt_of_cell r1)).trans r1
          have HNXT : Hid ((g.rules.take (i + 1)).foldl (p2 n) (S, false) = (List.range m).foldl (p1 g.rules[i]) (T, b)) := by
            show _ = _; rw [p2_next hix, HST.out, ← HM.out]; rfl
          have HOKR := Lib.hid (HGG.out _ (List.getElem_mem hix))
          have HOKL := Lib.hid (HLF.out _ (List.getElem_mem hix))
          obtain ⟨r, HRN⟩ := nameIt (g.rules[i]'hix)
          rw [HRN.out] at t0 t1 HNXT HRR HOKR HOKL hcr1
          obtain ⟨rn, HRNL⟩ := nameIt r.right.length
          rw [HRNL.out] at t1 HRR hcr1
          obtain ⟨A, hA⟩ : ∃ A : Nat, r.left = (A : Int) := ⟨r.left.toNat, by have := HOKL.out.1; omega⟩
          have hAN : A < N := by have := HOKL.out.2; rw [hA] at this; simpa using this
          have HAL : Hid (r.left.toNat = A) := by show _ = _; rw [hA]; simp
          rw [hA] at t0
          obtain ⟨w7, HW7⟩ := nameIt (w6.alloc (.cells #[.int .i64 (A : Int), .slice ar rn cr] 48))
          have hb67 : Below w6.heap.size w6 w7 := by rw [← HW7.out]; exact (Below.refl _ _).alloc (Nat.le_refl _) _
          have HCI7 := Lib.hid (HCI.out.keep hb67)
          have HBL7 : Hid (Below w0.heap.size w0 w7) := HBL.out.trans (hb67.mono HBL.out.size)
          have Y7 : Hid (w7.heap[w6.heap.size]? = some (.cells #[.int .i64 (A : Int), .slice ar rn cr] 48 (0, 0))) := by rw [← HW7.out]; exact bx_new _ _ _ rfl
          have hcb7 : d.cb < w6.heap.size := HCI.out.lt
          obtain ⟨rbx, HRBX⟩ := nameIt w6.heap.size
          rw [HRBX.out] at Y7 hcb7
          subst hae
          clear hrr r0 r1 hA hb67
          go_upto_region 8 with fail
          rw [HW7.out, HRBX.out]
          clear t0 t1
          go_wp2_with fail
          go_loopg [6, 33] m (fun gg v6 v33 wr => ∃ (k : Nat) (T1 : Nat → Nat → Bool) (b1 : Bool), k ≤ m ∧ m - k ≤ gg ∧ v6 = .bool b1 ∧ v33 = .int .i64 k ∧ Hid ((List.range k).foldl (p1 r) (T, b) = (T1, b1)) ∧ Hid (CI g (.slice (some ⟨rbk, ro, none⟩) rl rcap) N n d T1 (fun _ _ => false) (fun _ _ => -1) wr) ∧ Hid (Below w0.heap.size w0 wr) ∧ Hid (wr.heap[rbx]? = some (.cells #[.int .i64 (A : Int), .slice ar rn cr] 48 (0, 0))))
          case atStart => exact ⟨0, T, b, by omega, by omega, rfl, rfl, rfl, HCI7, HBL7, Y7⟩
          case round =>
            clear HCI7 HBL7 Y7
            obtain ⟨k, T1, b1, hk, hg3, rfl, rfl, HST1, HCI7, HBL7, Y7⟩ := hrel
            obtain ⟨w8, rfl⟩ : ∃ ww : World, ww = wr := ⟨_, rfl⟩
            by_cases hkm : k < m
            · have hkm' : (k : Int) < (m : Int) := by omega
              have hk0 : (0 : Int) ≤ (k : Int) := by omega
              have hkn : k ≤ n := by have := HM.out; omega
              have hkn1 : k < n + 1 := by omega
              have HSTN : Hid ((List.range (k + 1)).foldl (p1 r) (T, b) = if (!T1 A k && canK T1 r.right k) = true then (updB T1 A k, true) else (T1, b1)) := by
                show _ = _; rw [range_fold, HST1.out]; unfold p1; rw [HAL.out]
              obtain ⟨TT, hbx⟩ := HCI7.out.box
              obtain ⟨c0, c1, c2, c3, c4, c5', c6, c7⟩ := bx_cells8c hbx
              obtain ⟨y0, y1⟩ := bx_cells2 Y7.out
              have q0 := HCI7.out.some'.head hAN
              have q1 := HCI7.out.some'.cell hAN hkn1
              rw [HM.out] at q0
              have hAN' : (A : Int) < (N : Int) := by omega
              have hA0 : (0 : Int) ≤ (A : Int) := by omega
              have HCAN : Hid (∀ W', Below w8.heap.size w8 W' → Calls Try.prog 54 #[.pointer (some ⟨d.cb, 0, none⟩), .slice ar rn cr, .int .i64 (k : Int)] W' fun e w' => e = .returned (.bool (canK T1 r.right k)) ∧ Below W'.heap.size W' w') := by
                intro W' hb
                have hrd := HRR.out.below (HBL7.out.trans (hb.mono HBL7.out.size))
                rw [← HRNL.out] at hrd ⊢
                exact canE (by omega) r.right HOKR.out k hkn ar cr W' (HCI7.out.keep hb) hrd
              obtain ⟨cv, HCV⟩ := nameIt (canK T1 r.right k)
              rw [HCV.out] at HCAN HSTN
              obtain ⟨sv, HSV⟩ := nameIt (T1 A k)
              rw [HSV.out] at q1 HSTN
              have k1' := aft_cell c5'
              have k2' := aft_cell y0
              have k3' := aft_cell y1
              have k4' := aft_cell q0
              have k5' := aft_cell q1
              clear hbx c0 c1 c2 c3 c4 c5' c6 c7 y0 y1 q0 q1
              cases sv with
              | true =>
                have HSTM : Hid ((List.range (k + 1)).foldl (p1 r) (T, b) = (T1, b1)) := HSTN.out
                go_upto_region 11 with fail
                refine wp_region_after (by kernel_rfl) (by kernel_rfl) ?_
                repeat (go_big_quiet_step (fail))
                refine wpQuiet_nil ?_
                rintro w9 ⟨⟨_, hb9⟩, rfl⟩
                have HCI9 := Lib.hid (HCI7.out.keep hb9)
                have HBL9 : Hid (Below w0.heap.size w0 w9) := HBL7.out.trans (hb9.mono HBL7.out.size)
                have Y9 := Lib.hid (bx_keep Y7.out hb9)
                clear hb9 k1' k2' k3' k4' k5'
                go_wp2_with fail
                go_roundg (m - (k + 1))
                case measure => omega
                case rel => exact ⟨k + 1, T1, b1, by omega, by omega, rfl, by go_num, HSTM, HCI9, HBL9, Y9⟩
              | false =>
                go_upto_region 11 with fail
                refine wp_region_after (by kernel_rfl) (by kernel_rfl) ?_
                repeat (go_big_quiet_step (with_reducible exact Calls.after (HCAN.out _ (Aft.bel _))))
                refine wpQuiet_nil ?_
                rintro w9 ⟨⟨_, hb9⟩, rfl⟩
                have HCI9 := Lib.hid (HCI7.out.keep hb9)
                have HBL9 : Hid (Below w0.heap.size w0 w9) := HBL7.out.trans (hb9.mono HBL7.out.size)
                have Y9 := Lib.hid (bx_keep Y7.out hb9)
                clear hb9 k1' k2' k3' k4' k5'
                cases cv with
                | false =>
                  have HSTM : Hid ((List.range (k + 1)).foldl (p1 r) (T, b) = (T1, b1)) := HSTN.out
                  go_wp2_with fail
                  go_roundg (m - (k + 1))
                  case measure => omega
                  case rel => exact ⟨k + 1, T1, b1, by omega, by omega, rfl, by go_num, HSTM, HCI9, HBL9, Y9⟩
                | true =>
                  have HSTM : Hid ((List.range (k + 1)).foldl (p1 r) (T, b) = (updB T1 A k, true)) := HSTN.out
                  obtain ⟨TT, hbx⟩ := HCI9.out.box
                  obtain ⟨c0, c1, c2, c3, c4, c5', c6, c7⟩ := bx_cells8c hbx
                  obtain ⟨y0, y1⟩ := bx_cells2 Y9.out
                  have q0 := HCI9.out.some'.head hAN
                  have q1 := HCI9.out.some'.cell hAN hkn1
                  have qf := HCI9.out.some'.free hAN k
                  have qp := HCI9.out.some'.ne A hAN
                  have qc := HCI9.out.le
                  have qm := HCI9.out.many.pl
                  have qn := HCI9.out.cnt.pl
                  rw [HM.out] at q0
                  have HCI10 := Lib.hid ((HCI9.out.keep (Below.refl _ _).drew).setS hAN hkn1)
                  have HBL10 : Hid (Below w0.heap.size w0 (w9.drew.setCell ⟨d.rs A, k, none⟩ (.bool true))) := HBL9.out.drew.setCell (p := ⟨d.rs A, k, none⟩) (by show w0.heap.size ≤ d.rs A; omega) _
                  have Y10 : Hid ((w9.drew.setCell ⟨d.rs A, k, none⟩ (.bool true)).heap[rbx]? = some (.cells #[.int .i64 (A : Int), .slice ar rn cr] 48 (0, 0))) := bx_other (bx_keep Y9.out (Below.refl _ _).drew) (by omega) _ _
                  clear hbx qp qc qm qn
                  go_upto_region 12 with fail
                  refine wp_region_still_tail 10 (by kernel_rfl) (by kernel_rfl) ?_
                  simp only [List.take_succ_cons, List.take_zero, List.drop_succ_cons, List.drop_zero]
                  change wpStill _ _ (World.drew _) _ _ _
                  refine still_quiet _ _ ?_
                  repeat (go_big_quiet_step (fail))
                  refine wpQuiet_nil ?_
                  change wpList _ _ _ _ _ (World.drew _)
                  go_wp2_with fail
                  go_roundg (m - (k + 1))
                  case measure => omega
                  case rel => exact ⟨k + 1, updB T1 A k, true, by omega, by omega, rfl, by go_num, HSTM, HCI10, HBL10, Y10⟩
            · have hkm' : ¬ (k : Int) < (m : Int) := by omega
              have hkk : k = m := by omega
              have HSTM : Hid ((g.rules.take (i + 1)).foldl (p2 n) (S, false) = (T1, b1)) := by show _ = _; rw [HNXT.out, ← hkk]; exact HST1.out
              clear hkk
              go_wp2_with fail
              go_roundg (rl - (i + 1))
              case measure => omega
              case rel => exact ⟨i + 1, T1, b1, by omega, by omega, rfl, by go_num, HSTM, HCI7, HBL7⟩
        · have hlt' : ¬ (i : Int) < (rl : Int) := by omega
          have hil : i = g.rules.length := by rw [HRL.out]; omega
          have hp3 : p3 n g.rules S = (T, b) := by rw [HPT.out, ← hil]; exact HST.out
          have hpp := HPS.out
          rw [hp3, HM.out] at hpp
          obtain ⟨hp1, hp2, hp4⟩ := hpp
          simp only at hp1 hp2 hp4
          have HIT2 : Hid (∃ q, T = itP n g.rules q (fun _ _ => false)) := by
            obtain ⟨q, hq⟩ := HIT.out
            exact ⟨q + 1, by rw [itP_snoc, ← hq, hp3]⟩
          have HAG2 : Hid (b = false → (p3 n g.rules T).2 = false) := fun hb => by
            rw [hp1 hb, hp3]; exact hb
          have HLS : Hid (b = true → cf N m T + 1 ≤ c5) := fun hb => by have := hp4 hb; have := HC5.out; omega
          clear hil hp1 hp2 hp3 hp4
          go_wp2_with fail
          go_roundg c5
          case measure => omega
          case rel => exact ⟨b, T, rfl, (fun e => HLS.out e), HCI, HBL, HIT2, HAG2⟩
end Cs
end Go.Proofs.Ytbnpemgmdnghgaa
namespace Go.Proofs.Ytbnpemgmdnghgaa
open Go.RowKit

set_option maxHeartbeats 400000 in
theorem gramN (x : Int) (w : World) : Calls Try.prog 30 #[.int .i64 x] w fun e w' => e = .returned (.agg #[.bool false, .int .i64 x]) ∧ Below w.heap.size w w' := by
  go_enter Try.func30, Try.ntmps30
  go_wp2
  exact bodyPost_ret (v := .agg #[.bool false, .int .i64 x]) (by simp [results, Try.results30, go_sem]) rfl ⟨rfl, (Below.refl _ _).alloc (Nat.le_refl _) _⟩
end Go.Proofs.Ytbnpemgmdnghgaa
