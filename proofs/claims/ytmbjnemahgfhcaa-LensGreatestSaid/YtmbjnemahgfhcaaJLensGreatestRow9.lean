/- lens.endless. lens.Greatest. slices.Equal over equal rows of truth values; the lengths of parllaw5.plain. The walks of Lens and of the law LensTells. The law LensGreatest. -/
import Derived.Test.YtmbjnemahgfhcaaJLensGreatestRow8
import Derived.Test.YtmbjnemahgfhcaaJLensGreatestRow6
import Derived.Deep.DeepCutAuto
import Derived.Deep.CutBlock
import Derived.Test.YtmbjnemahgfhcaaJLensGreatestRow3
import Derived.Test.YtmbjnemahgfhcaaJLensGreatestRow5
import Derived.Deep.RegionLaw
namespace Go.Proofs.Ytmbjnemahgfhcaa
open Go.RowKit
namespace Gr
open Cs

/-- the start of a slice of data -/
theorem rd_take {S0 : Nat → Prop} {w : World} {ds : List D} {a : Option Addr} {n cap i : Nat} (h : Rd S0 w (.sl ds) [.slice a n cap]) (hi : i ≤ n) : Rd S0 w (.sl (ds.take i)) [.slice a i cap] := by
  obtain ⟨a', cap', L, e, h1, h2, h3, h4, h5⟩ := h
  simp at e
  obtain ⟨rfl, rfl, rfl⟩ := e
  rw [← List.take_append_drop i ds] at h5
  obtain ⟨c1, c2, rfl, h6, h7⟩ := h5.split
  refine ⟨a, cap, c1, by simp; omega, by simp; omega, h2, h3, fun j hj => ?_, h6⟩
  obtain ⟨x, hx, hS, hc⟩ := h4 j (by simp; omega)
  refine ⟨x, hx, hS, ?_⟩
  rw [hc, List.getElem_append_left hj]
def EndPost (K : List Rule) (w : World) (e : Ending) (w' : World) : Prop := ∃ b, e = .returned (.bool b) ∧ (b = true ↔ GrowC K) ∧ Below w.heap.size w w'
set_option maxHeartbeats 16000000 in
set_option maxRecDepth 100000 in
theorem endlessE (g : Gram) (N p : Nat) (G : Nat → Bool) (hok : OkC g N) (hr4 : ∀ r ∈ g.rules, r.right.length ≤ 4) (hG : GrOk g.rules N G) (ra : Option Addr) (rcap : Nat) (w : World) (hr : Rd AnyB w (.sl (g.rules.map Rule.d)) [.slice ra g.rules.length rcap]) (hp : Ln.Brow p N G w) :
    Calls Try.prog 9 #[.agg #[.int .i64 g.terms, .int .i64 g.nons, .int .i64 g.start, .slice ra g.rules.length rcap], .slice (some ⟨p, 0, none⟩) N N] w (EndPost g.rules w) := by
  have hN1 := hok.n1
  have hN2 := hok.n2
  have HGR := Lib.hid hok.r
  have HLF := Lib.hid hok.l
  have HR4 := Lib.hid hr4
  have HKL : Hid (∀ r ∈ g.rules, 0 ≤ r.left) := fun r hr => (hok.l r hr).1
  have HKE : Hid (∀ e ∈ kE g.rules, e.1 < N ∧ e.2 < N) := fun e he => by
    obtain ⟨r, hr, hl, a, s, b, e2, ht, hn⟩ := mem_edge HKL.out (show (e.1, e.2) ∈ kE g.rules from he)
    have h1 := (hok.l r hr).2
    have h2 := (hok.r r hr s (by rw [e2]; simp) ht).2
    omega
  have HME : Hid (∀ A B, ME g.rules G g.rules.length 0 (A, B) ↔ More g.rules A B) := fun A B => me_end HKL.out (fun r hr s hs ht => (hok.r r hr s hs ht).2) hG
  have HTE : Hid (∀ A B, TE g.rules g.rules.length 0 A B ↔ (A, B) ∈ kE g.rules) := fun A B => te_end HKL.out
  have hnn := hok.nons
  rw [hnn]
  obtain ⟨w0, HW0⟩ := nameIt ((w.alloc (.cells #[.int .i64 g.terms, .int .i64 (N : Int), .int .i64 g.start, .slice ra g.rules.length rcap] 24)).alloc (.cells #[.slice (some ⟨p, 0, none⟩) N N] 33))
  have hb0 : Below w.heap.size w w0 := by rw [← HW0.out]; exact ((Below.refl _ _).alloc (Nat.le_refl _) _).alloc (by simp) _
  have X0 : Hid (w0.heap[w.heap.size]? = some (.cells #[.int .i64 g.terms, .int .i64 (N : Int), .int .i64 g.start, .slice ra g.rules.length rcap] 24 (0, 0))) := by rw [← HW0.out]; exact bx_keep (bx_new _ _ _ rfl) ((Below.refl _ _).alloc (Nat.le_refl _) _)
  have HGB : Hid (BoxM (w.heap.size + 1) p N G w0) := ⟨by rw [← HW0.out]; exact bx_new _ _ _ (by simp), hp.keep hb0⟩
  have HRD := Lib.hid (hr.below hb0)
  obtain ⟨PST, HP⟩ := nameIt (EndPost g.rules w)
  rw [HP.out]
  have HFIN : Hid (∀ (b : Bool) w', (b = true ↔ GrowC g.rules) → Below w0.heap.size w0 w' → PST (.returned (.bool b)) w') := by
    intro b w' h1 h2
    rw [← HP.out]
    exact ⟨b, rfl, h1, hb0.trans (h2.mono hb0.size)⟩
  have hbs := hr.bounds.2
  unfold maxLen at hbs
  obtain ⟨hcv1, hcv2⟩ := hbs
  obtain ⟨gt, HGT⟩ := nameIt g.terms
  obtain ⟨gs, HGS⟩ := nameIt g.start
  have hrl32 := hok.len
  obtain ⟨rl, HRL⟩ := nameIt g.rules.length
  rw [HGT.out, HGS.out, HRL.out] at HW0 X0
  rw [HRL.out] at HRD hcv1 HME HTE hrl32
  rw [HGT.out, HGS.out, HRL.out]
  have hmk1 : ∀ W : World, (Instr.makeSlice 44 (.int .i64 (N : Int)) (.int .i64 (N : Int))).run Try.prog W = .ok (.slice (some ⟨W.heap.size, 0, none⟩) N N) (W.alloc (.cells (madeCells #[.slice none 0 0] N) 33)) := fun W => by
    have := run_make_row' (P := Try.prog) 44 33 (.slice none 0 0) 24 Try.underlying44 (by kernel_rfl) rfl .i64 .i64 N (by omega) (by omega) W
    simpa using this
  have hmk2 : ∀ W : World, (Instr.makeSlice 33 (.int .i64 (N : Int)) (.int .i64 (N : Int))).run Try.prog W = .ok (.slice (some ⟨W.heap.size, 0, none⟩) N N) (W.alloc (.cells (madeCells #[.bool false] N) 4)) := fun W => by
    have := run_make_row' (P := Try.prog) 33 4 (.bool false) 1 Try.underlying33 (by kernel_rfl) rfl .i64 .i64 N (by omega) (by omega) W
    simpa using this
  obtain ⟨gb, HGBN⟩ := nameIt w.heap.size
  rw [HGBN.out] at X0 HGB
  have hgb0 : gb + 1 < w0.heap.size := (Array.getElem?_eq_some_iff.1 HGB.out.box).1
  obtain ⟨x0, x1, x2, x3⟩ := bx_cells4 X0.out
  clear hb0 hr HP hok hnn hG hp hr4
  go_enter Try.func9, Try.ntmps9
  go_upto_region 1 with fail
  rw [HW0.out, HGBN.out]
  have hmap : ∀ W : World, (Instr.makeMap 51 none).run Try.prog W = .ok (.map (some W.heap.size)) (W.alloc (.map #[] 0)) := fun W => by
    simp [Instr.makeMap, run_underlying Try.underlying51]; try rfl
  obtain ⟨bt, HBT⟩ := nameIt w0.heap.size
  have HI0 : Hid (∃ rb, Grd 33 4 w0.heap.size bt N N 0 rb (fun _ _ => .bool false) (w0.alloc (.cells (madeCells #[.slice none 0 0] N) 33)) ∧ Below w0.heap.size w0 (w0.alloc (.cells (madeCells #[.slice none 0 0] N) 33))) :=
    ⟨fun _ => 0, Grd.start _ _ _ HBT.out.symm (Nat.le_refl _), (Below.refl _ _).alloc (Nat.le_refl _) _⟩
  go_wp2_with fail
  rw [HBT.out]
  clear hmk1 x0 x1 x2 x3
  go_loopg [24] N (fun gg v24 wr => ∃ k : Nat, k ≤ N ∧ N - k ≤ gg ∧ v24 = .int .i64 k ∧ Hid (∃ rb, Grd 33 4 w0.heap.size bt N N k rb (fun _ _ => .bool false) wr ∧ Below w0.heap.size w0 wr))
  case atStart => exact ⟨0, by omega, by omega, rfl, HI0⟩
  case round =>
    clear HI0
    obtain ⟨k, hk, hg, rfl, HQI⟩ := hrel
    by_cases hkN : k < N
    · have hkN' : (k : Int) < (N : Int) := by omega
      obtain ⟨rb, hd, hbel⟩ := HQI.out
      have hbt := hd.lt
      have hbB := hd.bB
      have hsz := hbel.size
      obtain ⟨⟨vc, hc8⟩, hf8⟩ := hd.hcell hkN
      have HT1 : Hid (∃ rb, Grd 33 4 w0.heap.size bt N N (k + 1) rb (fun _ _ => .bool false) ((wr.alloc (.cells (madeCells #[.bool false] N) 4)).setCell ⟨bt, k, none⟩ (.slice (some ⟨wr.heap.size, 0, none⟩) N N)) ∧ Below w0.heap.size w0 ((wr.alloc (.cells (madeCells #[.bool false] N) 4)).setCell ⟨bt, k, none⟩ (.slice (some ⟨wr.heap.size, 0, none⟩) N N))) :=
        ⟨_, hd.add hkN (by omega), (hbel.alloc (by omega) _).setCell (by show w0.heap.size ≤ bt; omega) _⟩
      have hne8 : ¬ bt = wr.heap.size := by omega
      have hne9 : ¬ wr.heap.size = bt := by omega
      obtain ⟨w2, HW2⟩ := nameIt ((wr.alloc (.cells (madeCells #[.bool false] N) 4)).setCell ⟨bt, k, none⟩ (.slice (some ⟨wr.heap.size, 0, none⟩) N N))
      have hcomm : (wr.setCell ⟨bt, k, none⟩ (.slice (some ⟨wr.heap.size, 0, none⟩) N N)).alloc (.cells (madeCells #[.bool false] N) 4) = w2 := by
        rw [← HW2.out]
        simp [go_sem, hbt]
      have HCM := Lib.hid hcomm
      rw [HW2.out] at HT1
      clear hcomm hd hbel
      go_upto_region 7 with fail
      rw [HCM.out]
      clear hc8 hf8 hne8 hne9
      go_wp2_with fail
      go_roundg (N - (k + 1))
      case measure => omega
      case rel => exact ⟨k + 1, by omega, by omega, by go_num, HT1⟩
    · have hkN' : ¬ (k : Int) < (N : Int) := by omega
      have hkk : k = N := by omega
      have HE := HQI.out
      rw [hkk] at HE
      obtain ⟨rb, hgrd, hbl⟩ := HE
      obtain ⟨w3, rfl⟩ : ∃ ww : World, ww = wr := ⟨_, rfl⟩
      have hli3 : LI w0 bt N rb w3.heap.size (fun _ _ => false) w3 := ⟨hgrd, hbl, fun a ha => hgrd.rlt ha ha⟩
      have hbt3 := hgrd.lt
      obtain ⟨w4, HW4⟩ := nameIt (w3.alloc (.map #[] 0))
      have hb4 : Below w3.heap.size w3 w4 := by rw [← HW4.out]; exact (Below.refl _ _).alloc (Nat.le_refl _) _
      have HEI0 : Hid (∃ T, EI w0 bt N rb w3.heap.size w3.heap.size T (ME g.rules G 0 0) 0 w4 ∧ ∀ A B, A < N → B < N → (T A B = true ↔ TE g.rules 0 0 A B)) :=
        ⟨fun _ _ => false, ⟨hli3.keep hb4, by rw [← HW4.out]; exact EdM.start w3 rfl (fun u _ => me_start), Nat.le_refl _, hbt3, hbl.size⟩, fun A B _ _ => ⟨(fun h => by cases h), fun h => absurd h te_start⟩⟩
      obtain ⟨x0, x1, x2, x3⟩ := bx_cells4 (bx_keep X0.out hbl)
      have hx4 := bx_keep X0.out (hbl.trans (hb4.mono hbl.size))
      have hw3 := hbl.size
      obtain ⟨mb, HMB⟩ := nameIt w3.heap.size
      have HMBL : Hid (w0.heap.size ≤ mb) := by rw [HMB.out] at hw3; exact hw3
      rw [HMB.out] at HEI0
      clear hgrd hbl hkk HQI hmk2 hli3 hb4 hbt3
      go_upto_region 9 with fail
      rw [HW4.out, HMB.out]
      clear x0 x1 x2 x3 hmap
      obtain ⟨x0, x1, x2, x3⟩ := bx_cells4 hx4
      clear hx4
      go_wp2_with fail
      clear x0 x1 x2 x3
      go_loopg [37] rl (fun gg v37 wr => ∃ (i c : Nat), i ≤ rl ∧ rl - i ≤ gg ∧ v37 = .int .i64 i ∧ c ≤ 4 * i ∧ Hid (∃ T, EI w0 bt N rb mb mb T (ME g.rules G i 0) c wr ∧ ∀ A B, A < N → B < N → (T A B = true ↔ TE g.rules i 0 A B)))
      case atStart => exact ⟨0, 0, by omega, by omega, rfl, by omega, HEI0⟩
      case round =>
        clear HEI0 HW4
        obtain ⟨i, c, hi, hg1, rfl, hc, HEI⟩ := hrel
        obtain ⟨wo, rfl⟩ : ∃ ww : World, ww = wr := ⟨_, rfl⟩
        obtain ⟨T, hei, hte⟩ := HEI.out
        have HE1 := Lib.hid hei
        have HT1 := Lib.hid hte
        clear hei hte HEI
        by_cases hit : i < rl
        · have hit' : (i : Int) < (rl : Int) := by omega
          have hi0 : (0 : Int) ≤ (i : Int) := by omega
          have hix : i < g.rules.length := by rw [HRL.out]; exact hit
          obtain ⟨rbk, ro, rv, hae, -, hrb, r0, r1, hrr⟩ := HRD.out.rule_at hix
          obtain ⟨ar, cr, rfl, hcr1, hcr2⟩ := hrr.form
          rw [List.length_map] at r1 hrr hcr1
          unfold maxLen at hcr2
          have HRR := Lib.hid hrr
          have hbw := HE1.out.li.bel
          have t0 := (hbw.cell (lt_of_cell r0)).trans r0
          have t1 := (hbw.cell (lt_of_cell r1)).trans r1
          have hrb' : rbk < wo.heap.size := Nat.lt_of_lt_of_le hrb hbw.size
          have HOKR := Lib.hid (HGR.out _ (List.getElem_mem hix))
          have HOKL := Lib.hid (HLF.out _ (List.getElem_mem hix))
          have hr4 := HR4.out _ (List.getElem_mem hix)
          have HGI : Hid (g.rules[i]? = some g.rules[i]) := List.getElem?_eq_getElem hix
          obtain ⟨r, HRN⟩ := nameIt (g.rules[i]'hix)
          rw [HRN.out] at t0 t1 HRR HOKR HOKL hcr1 HGI hr4
          obtain ⟨A, hA⟩ : ∃ A : Nat, r.left = (A : Int) := ⟨r.left.toNat, by have := HOKL.out.1; omega⟩
          have hAN : A < N := by have := HOKL.out.2; rw [hA] at this; simpa using this
          have HLEFT : Hid (r.left.toNat = A) := by show _ = _; rw [hA]; simp
          rw [hA] at t0
          obtain ⟨rn, HRNL⟩ := nameIt r.right.length
          rw [HRNL.out] at t1 HRR hcr1 hr4
          obtain ⟨w5, HW5⟩ := nameIt (wo.alloc (.cells #[.int .i64 (A : Int), .slice ar rn cr] 32))
          have hb5 : Below wo.heap.size wo w5 := by rw [← HW5.out]; exact (Below.refl _ _).alloc (Nat.le_refl _) _
          have HE5 : Hid (∃ T, EI w0 bt N rb mb mb T (ME g.rules G i 0) c w5 ∧ ∀ A B, A < N → B < N → (T A B = true ↔ TE g.rules i 0 A B)) := ⟨T, HE1.out.keep hb5, HT1.out⟩
          have Y5 : Hid (w5.heap[wo.heap.size]? = some (.cells #[.int .i64 (A : Int), .slice ar rn cr] 32 (0, 0))) := by rw [← HW5.out]; exact bx_new _ _ _ rfl
          have HMW : Hid (mb < wo.heap.size ∧ bt < wo.heap.size ∧ ∀ a, a < N → rb a < wo.heap.size) := ⟨HE1.out.mp.lt, HE1.out.li.tab.lt, fun a ha => HE1.out.li.tab.rlt ha ha⟩
          obtain ⟨rbx, HRBX⟩ := nameIt wo.heap.size
          rw [HRBX.out] at Y5 HMW
          have hA0 : (0 : Int) ≤ (A : Int) := by omega
          have hA1 : (A : Int) < (N : Int) := by omega
          subst hae
          clear hrr r0 r1 hb5 hrb' hbw
          go_upto_region 12 with fail
          rw [HW5.out, HRBX.out]
          clear t0 t1 HW5 HE1 HT1
          obtain ⟨y0, y1⟩ := bx_cells2 Y5.out
          go_wp2_with fail
          clear y0 y1
          go_loopg [44] rn (fun gg v44 wr => ∃ (j c : Nat), j ≤ rn ∧ rn - j ≤ gg ∧ v44 = .int .i64 j ∧ c ≤ 4 * i + j ∧ Hid (∃ T, EI w0 bt N rb mb mb T (ME g.rules G i j) c wr ∧ ∀ A B, A < N → B < N → (T A B = true ↔ TE g.rules i j A B)) ∧ Hid (wr.heap[rbx]? = some (.cells #[.int .i64 (A : Int), .slice ar rn cr] 32 (0, 0))))
          case atStart => exact ⟨0, c, by omega, by omega, rfl, by omega, HE5, Y5⟩
          case round =>
            clear HE5 Y5 hc
            obtain ⟨j, c, hj, hg2, rfl, hc, HE5, Y5⟩ := hrel
            obtain ⟨w6, rfl⟩ : ∃ ww : World, ww = wr := ⟨_, rfl⟩
            obtain ⟨T, hei, hte⟩ := HE5.out
            have HE1 := Lib.hid hei
            have HT1 := Lib.hid hte
            clear hei hte HE5
            by_cases hjm : j < rn
            · have hjm' : (j : Int) < (rn : Int) := by omega
              have hj0 : (0 : Int) ≤ (j : Int) := by omega
              have hjx : j < r.right.length := by rw [HRNL.out]; exact hjm
              obtain ⟨sb, so, hae, -, hsb, s0, s1⟩ := (show Rd AnyB w0 (.sl (r.right.map Sym.d)) [.slice ar r.right.length cr] by rw [HRNL.out]; exact HRR.out).sym_at hjx
              have u0 := (HE1.out.li.bel.cell (lt_of_cell s0)).trans s0
              have u1 := (HE1.out.li.bel.cell (lt_of_cell s1)).trans s1
              have HOS := Lib.hid (HOKR.out _ (List.getElem_mem hjx))
              have HGJ : Hid (r.right[j]? = some r.right[j]) := List.getElem?_eq_getElem hjx
              obtain ⟨⟨st, sn⟩, HSY⟩ := nameIt (r.right[j]'hjx)
              rw [HSY.out] at u0 u1 HOS HGJ
              simp only at u0 u1
              have hsl6 : sb < w6.heap.size := Nat.lt_of_lt_of_le hsb HE1.out.li.bel.size
              obtain ⟨w7, HW7⟩ := nameIt (w6.alloc (.cells #[.bool st, .int .i64 sn] 42))
              have hb7 : Below w6.heap.size w6 w7 := by rw [← HW7.out]; exact (Below.refl _ _).alloc (Nat.le_refl _) _
              have HE7 := Lib.hid (HE1.out.keep hb7)
              have Y7 := Lib.hid (bx_keep Y5.out hb7)
              have S7 : Hid (w7.heap[w6.heap.size]? = some (.cells #[.bool st, .int .i64 sn] 42 (0, 0))) := by rw [← HW7.out]; exact bx_new _ _ _ rfl
              have hrb6 : rbx < w6.heap.size := (Array.getElem?_eq_some_iff.1 Y5.out).1
              obtain ⟨sbx, HSBX⟩ := nameIt w6.heap.size
              rw [HSBX.out] at S7 hrb6
              subst hae
              clear s0 s1 hb7
              go_upto_region 15 with fail
              rw [HW7.out, HSBX.out]
              clear u0 u1 HW7 HE1 Y5
              obtain ⟨z0, z1⟩ := bx_cells2 S7.out
              cases st with
              | true =>
                have HN : Hid (∃ T, EI w0 bt N rb mb mb T (ME g.rules G i (j + 1)) c w7 ∧ ∀ A B, A < N → B < N → (T A B = true ↔ TE g.rules i (j + 1) A B)) :=
                  ⟨T, HE7.out.eq (fun _ _ _ _ => rfl) (fun u _ => by rw [me_next HGI.out HGJ.out]; simp), fun A B hA hB => by rw [te_next HGI.out HGJ.out, HT1.out A B hA hB]; simp⟩
                go_wp2_with fail
                go_roundg (rn - (j + 1))
                case measure => omega
                case rel => exact ⟨j + 1, c, by omega, by omega, by go_num, by omega, HN, Y7⟩
              | false =>
                obtain ⟨hq1, hq2⟩ := HOS.out rfl
                simp only at hq1 hq2
                obtain ⟨B, rfl⟩ : ∃ B : Nat, sn = (B : Int) := ⟨sn.toNat, by omega⟩
                rw [Int.toNat_natCast] at hq2
                have hB0 : (0 : Int) ≤ (B : Int) := by omega
                have hB1 : (B : Int) < (N : Int) := by omega
                have HTN : Hid (∀ A' B', TE g.rules i (j + 1) A' B' ↔ TE g.rules i j A' B' ∨ (A = A' ∧ B = B')) := fun A' B' => by
                  rw [te_next HGI.out HGJ.out, HLEFT.out]; simp
                have HMN : Hid (∀ u, ME g.rules G i (j + 1) u ↔ ME g.rules G i j u ∨ (A = u.1 ∧ B = u.2 ∧ restG G r j = true)) := fun u => by
                  rw [me_next HGI.out HGJ.out, HLEFT.out]; simp
                have g0 := HE7.out.li.tab.hdr hAN hAN
                obtain ⟨y0, y1⟩ := bx_cells2 Y7.out
                have i0 := aft_cell g0
                have i1 := aft_cell y0
                have i2 := aft_cell z1
                go_upto_region 16 with fail
                clear g0 y0 y1 z0 z1
                refine wp_region_after_tail 8 (by kernel_rfl) (by kernel_rfl) ?_
                simp only [List.take_succ_cons, List.take_zero, List.drop_succ_cons, List.drop_zero]
                repeat (go_big_quiet_step (fail))
                refine wpQuiet_nil ?_
                rintro w9 ⟨⟨_, hb9⟩, rfl⟩
                have he9 := HE7.out.keep hb9
                have gf := he9.li.tab.free hAN hAN B
                have gc := he9.li.tab.cell hAN hAN hq2
                have gl := he9.li.tab.rlt hAN hAN
                have HE10 := Lib.hid (he9.set hAN hq2)
                have hraR : rb A < rbx := HMW.out.2.2 A hAN
                have hy9 := bx_other (bx_keep Y7.out hb9) (show rbx ≠ rb A by omega) B (.bool true)
                have hs9 := bx_other (bx_keep S7.out hb9) (show sbx ≠ rb A by omega) B (.bool true)
                obtain ⟨w10, HW10⟩ := nameIt (w9.setCell ⟨rb A, B, none⟩ (.bool true))
                rw [HW10.out] at HE10 hy9 hs9
                have Y10 := Lib.hid hy9
                have S10 := Lib.hid hs9
                have HTU : Hid (∀ A' B', A' < N → B' < N → (updB T A B A' B' = true ↔ TE g.rules i (j + 1) A' B')) := fun A' B' hA' hB' => by
                  rw [HTN.out, ← HT1.out A' B' hA' hB']
                  unfold updB
                  by_cases e : A' = A ∧ B' = B
                  · rw [if_pos e]; simp [e.1, e.2]
                  · rw [if_neg e]
                    constructor
                    · intro h; exact .inl h
                    · rintro (h | ⟨h1, h2⟩)
                      · exact h
                      · exact absurd ⟨h1.symm, h2.symm⟩ e
                clear he9 hb9 hy9 hs9 i0 i1 i2
                go_upto_region 17 with fail
                rw [HW10.out]
                clear gf gc gl HE7 Y7 S7 HW10
                obtain ⟨y0, y1⟩ := bx_cells2 Y10.out
                have i1 := aft_cell y1
                have hw : IntKind.i64.wrap ((j : Int) + 1) = ((j + 1 : Nat) : Int) := by rw [IntWalk.i64_in _ (by omega)]; omega
                have hjr1 : (j : Int) ≤ (cr : Int) := by omega
                have hjr2 : ((j + 1 : Nat) : Int) ≤ (rn : Int) := by omega
                have hjr3 : (0 : Int) ≤ ((j + 1 : Nat) : Int) := by omega
                obtain ⟨j1, HJ1⟩ := nameIt (j + 1)
                rw [HJ1.out] at hw hjr2 hjr3
                have hjr4 : j1 ≤ rn := by omega
                have hjr5 : j ≤ cr := by omega
                have HRE10 := Lib.hid (HRR.out.below HE10.out.li.bel)
                have HRT : Hid (∀ W, Below w10.heap.size w10 W → Rd AnyB W (.sl ((r.right.take j).map Sym.d)) [.slice (some ⟨sb, so, none⟩) j cr]) := fun W hb => by
                  have h := rd_take (HRE10.out.below hb) (show j ≤ rn by omega)
                  rwa [← List.map_take] at h
                have HRS : Hid (∀ W, Below w10.heap.size w10 W → Rd AnyB W (.sl ((r.right.drop j1).map Sym.d)) [.slice (some ⟨sb, if cr = j1 then so else so + j1 * 2, none⟩) (rn - j1) (cr - j1)]) := fun W hb => by
                  have h := rd_rest j1 (HRE10.out.below hb) (syms_cells _) (show j1 ≤ rn by omega)
                  rwa [← List.map_drop] at h
                obtain ⟨so2, HSO⟩ := nameIt (if cr = j1 then so else so + j1 * 2)
                rw [HSO.out] at HRS
                have HR4L : Hid (r.right.length ≤ 4) := by show _ ≤ _; rw [HRNL.out]; exact hr4
                clear y0 y1
                go_cut [13] (fun t wx => Hid (Rd AnyB wx (.sl ((r.right.take j ++ r.right.drop j1).map Sym.d)) [t]) ∧ Hid (Below w10.heap.size w10 wx))
                case first =>
                  refine wp_region_after_tail 9 (by kernel_rfl) (by kernel_rfl) ?_
                  simp only [List.take_succ_cons, List.take_zero, List.drop_succ_cons, List.drop_zero]
                  by_cases hcap : cr = j1
                  · rw [if_pos hcap] at HSO
                    subst hcap
                    have hrc0 : rn - cr = 0 := by omega
                    have HRT2 : Hid (∀ W, Below w10.heap.size w10 W → Rd AnyB W (.sl ((r.right.take j).map Sym.d)) [.slice (some ⟨sb, so, none⟩) j cr]) := HRT.out
                    have HRS2 : Hid (∀ W, Below w10.heap.size w10 W → Rd AnyB W (.sl ((r.right.drop cr).map Sym.d)) [.slice (some ⟨sb, so, none⟩) 0 0]) := fun W hb => by have h := HRS.out W hb; rw [← HSO.out, Nat.sub_self, hrc0] at h; exact h
                    clear HRT HRS hrc0
                    repeat (go_big_quiet_step (fail))
                    refine wpQuiet_nil ?_
                    rintro w11 ⟨⟨_, hb11⟩, rfl⟩
                    clear i1
                    have HB11 := Lib.hid hb11
                    clear hb11
                    go_wp2_with fail
                    have hs12 : Sl (w11.alloc (.cells #[.slice (some ⟨sb, so, none⟩) j cr, .slice (some ⟨sb, so, none⟩) 0 0] 30)) (.slice (some ⟨w11.heap.size, 0, none⟩) 2 2) [.slice (some ⟨sb, so, none⟩) j cr, .slice (some ⟨sb, so, none⟩) 0 0] := by
                      refine ⟨some ⟨w11.heap.size, 0, none⟩, 2, rfl, by simp, by unfold maxLen; omega, (fun h => by cases h), fun q hq => ⟨_, rfl, ?_⟩⟩
                      obtain ⟨cc0, cc1⟩ := bx_cells2 (bx_new w11 _ _ rfl)
                      have hq2 : q = 0 ∨ q = 1 := by simp at hq; omega
                      rcases hq2 with rfl | rfl
                      · rw [add_at]; exact cc0
                      · rw [add_at]; exact cc1
                    have hbw : Below w10.heap.size w10 (w11.alloc (.cells #[.slice (some ⟨sb, so, none⟩) j cr, .slice (some ⟨sb, so, none⟩) 0 0] 30)) := HB11.out.alloc HB11.out.size _
                    have HCC := Lib.hid (concatS (some ⟨w11.heap.size, 0, none⟩) 2 [.slice (some ⟨sb, so, none⟩) j cr, .slice (some ⟨sb, so, none⟩) 0 0] [r.right.take j, r.right.drop cr] (w11.alloc (.cells #[.slice (some ⟨sb, so, none⟩) j cr, .slice (some ⟨sb, so, none⟩) 0 0] 30)) hs12 rfl (fun q hq => by
                      have hq2 : q = 0 ∨ q = 1 := by simp at hq; omega
                      rcases hq2 with rfl | rfl
                      · exact HRT2.out (w11.alloc (.cells #[.slice (some ⟨sb, so, none⟩) j cr, .slice (some ⟨sb, so, none⟩) 0 0] 30)) hbw
                      · exact HRS2.out (w11.alloc (.cells #[.slice (some ⟨sb, so, none⟩) j cr, .slice (some ⟨sb, so, none⟩) 0 0] 30)) hbw) (by
                      have h4 := HR4L.out
                      rw [slens_flatten]
                      simp
                      omega))
                    have HBXX := Lib.hid hbw
                    clear hs12 hbw
                    refine HCC.out.mono ?_
                    rintro e w13 ⟨v3, rfl, hr13, hb13⟩
                    obtain ⟨a13, c13, rfl, -, -⟩ := hr13.form
                    have h13 := hr13.rd.any
                    rw [show ([r.right.take j, r.right.drop cr] : List (List Sym)).flatten = r.right.take j ++ r.right.drop cr by simp] at h13
                    rw [show ([r.right.take j, r.right.drop cr] : List (List Sym)).flatten = r.right.take j ++ r.right.drop cr by simp]
                    obtain ⟨nr, HNR⟩ := nameIt ((r.right.take j ++ r.right.drop cr).map Sym.d).length
                    rw [HNR.out] at h13 ⊢
                    have HR13 := Lib.hid h13
                    have HB13 := Lib.hid (HBXX.out.trans (hb13.mono HBXX.out.size))
                    clear hr13 hb13 h13
                    go_wp2_with fail
                    go_meet
                    exact ⟨HR13.out, HB13.out⟩

                  · rw [if_neg hcap] at HSO
                    have HRS2 : Hid (∀ W, Below w10.heap.size w10 W → Rd AnyB W (.sl ((r.right.drop j1).map Sym.d)) [.slice (some ⟨sb, so + j1 * 2, none⟩) (rn - j1) (cr - j1)]) := fun W hb => by have h := HRS.out W hb; rw [← HSO.out] at h; exact h
                    have HRT2 := HRT
                    clear HRS
                    repeat (go_big_quiet_step (fail))
                    refine wpQuiet_nil ?_
                    rintro w11 ⟨⟨_, hb11⟩, rfl⟩
                    clear i1
                    have HB11 := Lib.hid hb11
                    clear hb11
                    go_wp2_with fail
                    have hs12 : Sl (w11.alloc (.cells #[.slice (some ⟨sb, so, none⟩) j cr, .slice (some ⟨sb, so + j1 * 2, none⟩) (rn - j1) (cr - j1)] 30)) (.slice (some ⟨w11.heap.size, 0, none⟩) 2 2) [.slice (some ⟨sb, so, none⟩) j cr, .slice (some ⟨sb, so + j1 * 2, none⟩) (rn - j1) (cr - j1)] := by
                      refine ⟨some ⟨w11.heap.size, 0, none⟩, 2, rfl, by simp, by unfold maxLen; omega, (fun h => by cases h), fun q hq => ⟨_, rfl, ?_⟩⟩
                      obtain ⟨cc0, cc1⟩ := bx_cells2 (bx_new w11 _ _ rfl)
                      have hq2 : q = 0 ∨ q = 1 := by simp at hq; omega
                      rcases hq2 with rfl | rfl
                      · rw [add_at]; exact cc0
                      · rw [add_at]; exact cc1
                    have hbw : Below w10.heap.size w10 (w11.alloc (.cells #[.slice (some ⟨sb, so, none⟩) j cr, .slice (some ⟨sb, so + j1 * 2, none⟩) (rn - j1) (cr - j1)] 30)) := HB11.out.alloc HB11.out.size _
                    have HCC := Lib.hid (concatS (some ⟨w11.heap.size, 0, none⟩) 2 [.slice (some ⟨sb, so, none⟩) j cr, .slice (some ⟨sb, so + j1 * 2, none⟩) (rn - j1) (cr - j1)] [r.right.take j, r.right.drop j1] (w11.alloc (.cells #[.slice (some ⟨sb, so, none⟩) j cr, .slice (some ⟨sb, so + j1 * 2, none⟩) (rn - j1) (cr - j1)] 30)) hs12 rfl (fun q hq => by
                      have hq2 : q = 0 ∨ q = 1 := by simp at hq; omega
                      rcases hq2 with rfl | rfl
                      · exact HRT2.out (w11.alloc (.cells #[.slice (some ⟨sb, so, none⟩) j cr, .slice (some ⟨sb, so + j1 * 2, none⟩) (rn - j1) (cr - j1)] 30)) hbw
                      · exact HRS2.out (w11.alloc (.cells #[.slice (some ⟨sb, so, none⟩) j cr, .slice (some ⟨sb, so + j1 * 2, none⟩) (rn - j1) (cr - j1)] 30)) hbw) (by
                      have h4 := HR4L.out
                      rw [slens_flatten]
                      simp
                      omega))
                    have HBXX := Lib.hid hbw
                    clear hs12 hbw
                    refine HCC.out.mono ?_
                    rintro e w13 ⟨v3, rfl, hr13, hb13⟩
                    obtain ⟨a13, c13, rfl, -, -⟩ := hr13.form
                    have h13 := hr13.rd.any
                    rw [show ([r.right.take j, r.right.drop j1] : List (List Sym)).flatten = r.right.take j ++ r.right.drop j1 by simp] at h13
                    rw [show ([r.right.take j, r.right.drop j1] : List (List Sym)).flatten = r.right.take j ++ r.right.drop j1 by simp]
                    obtain ⟨nr, HNR⟩ := nameIt ((r.right.take j ++ r.right.drop j1).map Sym.d).length
                    rw [HNR.out] at h13 ⊢
                    have HR13 := Lib.hid h13
                    have HB13 := Lib.hid (HBXX.out.trans (hb13.mono HBXX.out.size))
                    clear hr13 hb13 h13
                    go_wp2_with fail
                    go_meet
                    exact ⟨HR13.out, HB13.out⟩

                case rest =>
                  obtain ⟨HR13, HB13⟩ := hcut
                  trace_state
                  clear i1 HRT HRS HSO hcv1 hcv2
                  obtain ⟨a13, c13, rfl, -, -⟩ := HR13.out.form
                  have HE13 := Lib.hid (HE10.out.keep HB13.out)
                  have Y13 := Lib.hid (bx_keep Y10.out HB13.out)
                  have S13 := Lib.hid (bx_keep S10.out HB13.out)
                  have HCF := Lib.hid (containsFuncSym 19 #[.pointer (some ⟨gb + 1, 0, none⟩)] (growS G) a13 c13 (r.right.take j ++ r.right.drop j1) wc (fun _ _ => by kernel_rfl) (growSymE2 (gb + 1) p N G _ wc (by omega) (HGB.out.keep HE13.out.li.bel) (fun s hs ht => HOKR.out s (by
                    rcases List.mem_append.1 hs with h | h
                    · exact List.mem_of_mem_take h
                    · exact List.mem_of_mem_drop h) ht)) (by have := HR13.out; rwa [List.length_map] at this))
                  have HRG : Hid ((r.right.take j ++ r.right.drop j1).any (growS G) = restG G r j) := by show _ = _; unfold restG; rw [HJ1.out]
                  rw [HRG.out] at HCF
                  rw [List.length_map]
                  obtain ⟨nr, HNR⟩ := nameIt (r.right.take j ++ r.right.drop j1).length
                  rw [HNR.out] at HCF ⊢
                  obtain ⟨an, HAN⟩ := nameIt (restG G r j)
                  rw [HAN.out] at HCF HMN
                  clear HR13 HB13 HE10 Y10 S10 HRE10 HRG HR4L
                  go_wp2_with fail
                  refine HCF.out.mono ?_
                  rintro e w14 ⟨rfl, hb14⟩
                  have HE14 := Lib.hid (HE13.out.keep hb14)
                  have Y14 := Lib.hid (bx_keep Y13.out hb14)
                  have S14 := Lib.hid (bx_keep S13.out hb14)
                  clear hb14 HE13 Y13 S13 HCF
                  cases an with
                  | false =>
                    have HN : Hid (∃ T, EI w0 bt N rb mb mb T (ME g.rules G i (j + 1)) c w14 ∧ ∀ A B, A < N → B < N → (T A B = true ↔ TE g.rules i (j + 1) A B)) :=
                      ⟨_, HE14.out.eq (fun _ _ _ _ => rfl) (fun u _ => by rw [HMN.out]; simp), HTU.out⟩
                    go_wp2_with fail
                    go_roundg (rn - (j + 1))
                    case measure => omega
                    case rel => exact ⟨j + 1, c, by omega, by omega, by first | go_num | rw [HJ1.out], by omega, HN, Y14⟩
                  | true =>
                    obtain ⟨w15, c', hrun, hm15, hg15, hc15⟩ := HE14.out.mp.add (Q' := ME g.rules G i (j + 1)) (u := (A, B)) ⟨by show A ≤ 1000; omega, by show B ≤ 1000; omega⟩ (by unfold maxLen; omega) (fun v _ => by
                      rw [HMN.out]
                      constructor
                      · rintro (h | ⟨h1, h2, _⟩)
                        · exact .inl h
                        · exact .inr (Prod.ext h1.symm h2.symm)
                      · rintro (h | rfl)
                        · exact .inl h
                        · exact .inr ⟨rfl, rfl, rfl⟩)
                    have hrun' : (Instr.mapUpdate 51 (.map (some mb)) (.agg #[.int .i64 (A : Int), .int .i64 (B : Int)]) (.bool true)).run Try.prog w14 = .ok () w15 := hrun
                    have HE15 := Lib.hid (HE14.out.put hg15 hm15)
                    have Y15 := Lib.hid (bx_grownE Y14.out hg15 (fun e => by have := Option.some.inj e; have := HMW.out.1; omega))
                    have HN : Hid (∃ T, EI w0 bt N rb mb mb T (ME g.rules G i (j + 1)) c' w15 ∧ ∀ A B, A < N → B < N → (T A B = true ↔ TE g.rules i (j + 1) A B)) := ⟨_, HE15.out, HTU.out⟩
                    obtain ⟨y0, y1⟩ := bx_cells2 Y14.out
                    obtain ⟨z0, z1⟩ := bx_cells2 S14.out
                    clear hrun hm15 hg15 HE14
                    go_wp2_with fail
                    go_roundg (rn - (j + 1))
                    case measure => omega
                    case rel => exact ⟨j + 1, c', by omega, by omega, by first | go_num | rw [HJ1.out], by omega, HN, Y15⟩
            · have hjm' : ¬ (j : Int) < (rn : Int) := by omega
              have hjr : r.right.length = j := by rw [HRNL.out]; omega
              have HN : Hid (∃ T, EI w0 bt N rb mb mb T (ME g.rules G (i + 1) 0) c w6 ∧ ∀ A B, A < N → B < N → (T A B = true ↔ TE g.rules (i + 1) 0 A B)) :=
                ⟨T, HE1.out.eq (fun _ _ _ _ => rfl) (fun u _ => by rw [me_line HGI.out, hjr]), fun A B hA hB => by rw [te_line HGI.out, hjr, HT1.out A B hA hB]⟩
              clear hjr
              go_wp2_with fail
              go_roundg (rl - (i + 1))
              case measure => omega
              case rel => exact ⟨i + 1, c, by omega, by omega, by go_num, by omega, HN⟩
        · have hit' : ¬ (i : Int) < (rl : Int) := by omega
          have hii : i = rl := by omega
          have HEW : Hid (EI w0 bt N rb mb mb (wv (kE g.rules) 0 0 0) (ME g.rules G rl 0) c wo) := by
            have h1 := HE1.out
            have h2 := HT1.out
            rw [hii] at h1 h2
            refine h1.eq (fun a b ha hb => ?_) (fun _ _ => Iff.rfl)
            unfold wv
            rw [if_neg (by omega), fw, Bool.eq_iff_iff, decide_eq_true_iff, h2 a b ha hb, HTE.out]
          have HQB : Hid (∀ u, ME g.rules G rl 0 u → u.1 < N ∧ u.2 < N) := fun u h => HKE.out u ((HTE.out u.1 u.2).1 (me_te h))
          have HGG : Hid (GrowC g.rules ↔ ∃ u, ME g.rules G rl 0 u ∧ goodE (fw (kE g.rules) N) u = true) := good_grow HKE.out (fun A B => HME.out A B)
          obtain ⟨E, HEE⟩ := nameIt (kE g.rules)
          obtain ⟨Q, HQ⟩ := nameIt (ME g.rules G rl 0)
          rw [HEE.out, HQ.out] at HEW
          rw [HEE.out, HQ.out] at HGG
          rw [HQ.out] at HQB
          clear HE1 HT1 hii
          go_wp2_with fail
          go_loopg [82] N (fun gg v82 wr => ∃ k : Nat, k ≤ N ∧ N - k ≤ gg ∧ v82 = .int .i64 k ∧ Hid (EI w0 bt N rb mb mb (wv E k 0 0) Q c wr))
          case atStart => exact ⟨0, by omega, by omega, rfl, HEW⟩
          case round =>
            clear HEW
            obtain ⟨k, hk, hg2, rfl, HL5⟩ := hrel
            obtain ⟨w5, rfl⟩ : ∃ ww : World, ww = wr := ⟨_, rfl⟩
            by_cases hks : k < N
            · have hks' : (k : Int) < (N : Int) := by omega
              have hk0 : (0 : Int) ≤ (k : Int) := by omega
              go_wp2_with fail
              go_loopg [86] N (fun gg v86 wr => ∃ i : Nat, i ≤ N ∧ N - i ≤ gg ∧ v86 = .int .i64 i ∧ Hid (EI w0 bt N rb mb mb (wv E k i 0) Q c wr))
              case atStart => exact ⟨0, by omega, by omega, rfl, HL5⟩
              case round =>
                clear HL5
                obtain ⟨i, hi, hg3, rfl, HL6⟩ := hrel
                obtain ⟨w6, rfl⟩ : ∃ ww : World, ww = wr := ⟨_, rfl⟩
                by_cases his : i < N
                · have his' : (i : Int) < (N : Int) := by omega
                  have hi0 : (0 : Int) ≤ (i : Int) := by omega
                  go_wp2_with fail
                  go_loopg [90] N (fun gg v90 wr => ∃ j : Nat, j ≤ N ∧ N - j ≤ gg ∧ v90 = .int .i64 j ∧ Hid (EI w0 bt N rb mb mb (wv E k i j) Q c wr))
                  case atStart => exact ⟨0, by omega, by omega, rfl, HL6⟩
                  case round =>
                    clear HL6
                    obtain ⟨j, hj, hg4, rfl, HL7⟩ := hrel
                    obtain ⟨w7, rfl⟩ : ∃ ww : World, ww = wr := ⟨_, rfl⟩
                    by_cases hjs : j < N
                    · have hjs' : (j : Int) < (N : Int) := by omega
                      have hj0 : (0 : Int) ≤ (j : Int) := by omega
                      have g0 := HL7.out.li.tab.hdr his his
                      have g1 := HL7.out.li.tab.cell his his hjs
                      have g2 := HL7.out.li.tab.hdr hks hks
                      have g3 := HL7.out.li.tab.cell hks hks hjs
                      have g4 := HL7.out.li.tab.cell his his hks
                      have gf := HL7.out.li.tab.free his his j
                      rw [wv_self] at g1
                      rw [wv_row] at g3
                      rw [wv_col] at g4
                      have HNX : Hid (∀ v, v = (fw E k i j || (fw E k i k && fw E k k j)) → EI w0 bt N rb mb mb (wv E k i (j + 1)) Q c (w7.drew.setCell ⟨rb i, j, none⟩ (.bool v))) := fun v hv =>
                        ((HL7.out.keep (Below.refl _ _).drew).setv his hjs v).eq (fun a b _ _ => wv_next hv) (fun _ _ => Iff.rfl)
                      obtain ⟨xv, HXV⟩ := nameIt (fw E k i j)
                      obtain ⟨pv, HPV⟩ := nameIt (fw E k i k)
                      obtain ⟨yv, HYV⟩ := nameIt (fw E k k j)
                      rw [HXV.out, HYV.out, HPV.out] at HNX
                      rw [HXV.out] at g1
                      rw [HYV.out] at g3
                      rw [HPV.out] at g4
                      cases xv <;> cases pv
                      all_goals
                        have HNY := Lib.hid (HNX.out _ rfl)
                        simp only [Bool.true_or, Bool.false_or, Bool.true_and, Bool.false_and] at HNY
                        clear HNX
                        go_upto_region 31 with fail
                        refine wp_region_still_tail 31 (by kernel_rfl) (by kernel_rfl) ?_
                        simp only [List.take_succ_cons, List.take_zero, List.drop_succ_cons, List.drop_zero]
                        change wpStill _ _ (World.drew _) _ _ _
                        refine still_quiet _ _ ?_
                        repeat (go_big_quiet_step (fail))
                        refine wpQuiet_nil ?_
                        change wpList _ _ _ _ _ (World.drew _)
                        go_wp2_with fail
                        go_roundg (N - (j + 1))
                        case measure => omega
                        case rel => exact ⟨j + 1, by omega, by omega, by go_num, HNY⟩
                    · have hjs' : ¬ (j : Int) < (N : Int) := by omega
                      have hjj : j = N := by omega
                      have HL8 : Hid (EI w0 bt N rb mb mb (wv E k (i + 1) 0) Q c w7) := by have := HL7.out; rw [hjj] at this; exact this.eq (fun a b _ hb => wv_line hb) (fun _ _ => Iff.rfl)
                      clear hjj
                      go_wp2_with fail
                      go_roundg (N - (i + 1))
                      case measure => omega
                      case rel => exact ⟨i + 1, by omega, by omega, by go_num, HL8⟩
                · have his' : ¬ (i : Int) < (N : Int) := by omega
                  have hii : i = N := by omega
                  have HL7 : Hid (EI w0 bt N rb mb mb (wv E (k + 1) 0 0) Q c w6) := by have := HL6.out; rw [hii] at this; exact this.eq (fun a b ha _ => wv_end ha) (fun _ _ => Iff.rfl)
                  clear hii
                  go_wp2_with fail
                  go_roundg (N - (k + 1))
                  case measure => omega
                  case rel => exact ⟨k + 1, by omega, by omega, by go_num, HL7⟩
            · have hks' : ¬ (k : Int) < (N : Int) := by omega
              have hkk : k = N := by omega
              have HLE : Hid (EI w0 bt N rb mb mb (fw E N) Q c w5) := by
                have := HL5.out; rw [hkk] at this
                exact this.eq (fun a b ha hb => by unfold wv; rw [if_neg (by omega)]) (fun _ _ => Iff.rfl)
              obtain ⟨F, HFF⟩ := nameIt (fw E N)
              rw [HFF.out] at HLE
              rw [HFF.out] at HGG
              have HED := Lib.hid HLE.out.mp
              obtain ⟨rg, HRGN⟩ := nameIt w5.heap.size
              have HRL : Hid (bt < rg ∧ mb < rg ∧ w0.heap.size ≤ rg) := by
                rw [← HRGN.out]
                exact ⟨HLE.out.li.tab.lt, HLE.out.mp.lt, HLE.out.li.bel.size⟩
              clear hkk HL5
              go_wp2_with (first
                | (at_range; refine wpList_range_ed _ rfl _ rfl rfl HED.out ?_; intro w8 hrg0 hb8 hs8)
                | fail)
              try go_frame
              rw [HRGN.out] at hrg0
              rw [HRGN.out]
              have HRG := Lib.hid hrg0
              have HL8 := Lib.hid (HLE.out.li.keep hb8)
              have HNG : Hid (∀ u, okU u → Q u → ¬ Q u → goodE F u = false) := fun u _ h1 h2 => absurd h1 h2
              clear hrg0 hb8 hs8 HLE HED
              go_loopg [129] c (fun gg v129 wr => ∃ (L : Nat × Nat → Prop) (cnt : Nat), cnt ≤ gg ∧ Hid (RgE mb rg Q L cnt wr) ∧ Hid (LI w0 bt N rb mb F wr) ∧ Hid (∀ u, okU u → Q u → ¬ L u → goodE F u = false))
              case atStart => exact ⟨_, c, Nat.le_refl _, HRG, HL8, HNG⟩
              case round =>
                clear HRG HL8 HNG
                obtain ⟨L, cnt, hcg, HRG, HL8, HNG⟩ := hrel
                obtain ⟨w8', rfl⟩ : ∃ ww : World, ww = wr := ⟨_, rfl⟩
                go_wp2_with (first
                  | (at_next; refine wpList_next_ed _ rfl _ rfl rfl HRG.out ?_ ?_)
                  | fail)
                · intro hl0
                  have HEND := Lib.hid (HFIN.out false w8' (by
                    rw [HGG.out]
                    constructor
                    · intro h; cases h
                    · rintro ⟨u, h1, h2⟩
                      obtain ⟨h3, h4⟩ := HQB.out u h1
                      have hu : okU u := ⟨by omega, by omega⟩
                      rw [HNG.out u hu h1 (hl0 u.1 u.2 hu)] at h2
                      cases h2) HL8.out.bel)
                  clear HRG HL8 HNG
                  go_wp2_with fail
                  exact HEND.out
                · intro a b w9 cnt1 hu hQu hLu hrg1 hlt1 hg1 hs1 hen
                  try simp only at hen
                  have HL9 := Lib.hid (LI.grown' HL8.out hg1 HRL.out.1 (by have := HRL.out.2.1; omega) HRL.out.2.2)
                  obtain ⟨ha, hb⟩ := HQB.out _ hQu
                  simp only at ha hb
                  have ha1N : a < N := ha
                  have hb1N : b < N := hb
                  have HRG9 := Lib.hid hrg1
                  have HNGX : Hid (goodE F (a, b) = false → ∀ u, okU u → Q u → ¬ rmvE L (a, b) u → goodE F u = false) := by
                    intro h u h1 h2 h3
                    by_cases e : u = (a, b)
                    · rw [e]; exact h
                    · exact HNG.out u h1 h2 (fun h4 => h3 ⟨h4, e⟩)
                  have HYES : Hid (goodE F (a, b) = true → ∀ W, Below w0.heap.size w0 W → PST (.returned (.bool true)) W) := fun h W hW => HFIN.out true W (by rw [HGG.out]; exact ⟨fun _ => ⟨_, hQu, h⟩, fun _ => rfl⟩) hW
                  have ha0 : (0 : Int) ≤ (a : Int) := by omega
                  have ha1 : (a : Int) < (N : Int) := by omega
                  have hb0 : (0 : Int) ≤ (b : Int) := by omega
                  have hb1 : (b : Int) < (N : Int) := by omega
                  obtain ⟨w10, HW10⟩ := nameIt (w9.alloc (.cells #[.int .i64 (a : Int), .int .i64 (b : Int)] 54))
                  have hb10 : Below w9.heap.size w9 w10 := by rw [← HW10.out]; exact (Below.refl _ _).alloc (Nat.le_refl _) _
                  have HL10 := Lib.hid (HL9.out.keep hb10)
                  have HRG10 := Lib.hid (HRG9.out.keep hb10)
                  have Y10 : Hid (w10.heap[w9.heap.size]? = some (.cells #[.int .i64 (a : Int), .int .i64 (b : Int)] 54 (0, 0))) := by rw [← HW10.out]; exact bx_new _ _ _ rfl
                  obtain ⟨eb, HEB⟩ := nameIt w9.heap.size
                  rw [HEB.out] at Y10
                  clear hu hQu hLu hrg1 hg1 hs1 hb10 HL8 HL9 HRG HRG9 HNG
                  go_upto_region 38 with fail
                  rw [HW10.out, HEB.out]
                  clear hen HW10
                  obtain ⟨y0, y1⟩ := bx_cells2 Y10.out
                  have g0 := HL10.out.tab.hdr hb1N hb1N
                  have g1 := HL10.out.tab.cell hb1N hb1N ha1N
                  obtain ⟨ba, HBA⟩ := nameIt (F b a)
                  rw [HBA.out] at g1
                  by_cases hab : a = b
                  · subst hab
                    have HGY := Lib.hid (HYES.out (by unfold goodE; simp))
                    go_quiet (fail)
                    go_wp2_with fail
                    exact HGY.out _ (HL10.out.bel.trans ((below_drewN _ _).mono HL10.out.bel.size))
                  · have hab' : ((a : Int) == (b : Int)) = false := by simp; omega
                    have hab2 : ¬ (a : Int) = (b : Int) := by omega
                    cases ba with
                    | true =>
                      have HGY := Lib.hid (HYES.out (by unfold goodE; rw [show F (a, b).2 (a, b).1 = true from HBA.out]; simp))
                      go_quiet (fail)
                      go_wp2_with fail
                      exact HGY.out _ (HL10.out.bel.trans ((below_drewN _ _).mono HL10.out.bel.size))
                    | false =>
                      have HNG10 := Lib.hid (HNGX.out (by unfold goodE; rw [show F (a, b).2 (a, b).1 = false from HBA.out]; simpa using hab))
                      clear HYES HNGX HBA
                      go_quiet (fail)
                      go_wp2_with fail
                      go_roundg cnt1
                      case measure => omega
                      case rel => exact ⟨_, cnt1, Nat.le_refl _, HRG10.out.keep (below_drewN _ _), HL10.out.keep (below_drewN _ _), HNG10⟩
end Gr
end Go.Proofs.Ytmbjnemahgfhcaa
namespace Go.Proofs.Ytmbjnemahgfhcaa
open Go.RowKit
namespace Gr
open Cs
set_option maxHeartbeats 8000000 in
set_option maxRecDepth 100000 in
theorem greatestE (g : Gram) (ra : Option Addr) (rcap : Nat) (w : World) (hr : Rd AnyB w (.sl (g.rules.map Rule.d)) [.slice ra g.rules.length rcap]) :
    Calls Try.prog 4 #[.agg #[.int .i64 g.terms, .int .i64 g.nons, .int .i64 g.start, .slice ra g.rules.length rcap]] w (GstPost g w) := by
  obtain ⟨w0, HW0⟩ := nameIt (w.alloc (.cells #[.int .i64 g.terms, .int .i64 g.nons, .int .i64 g.start, .slice ra g.rules.length rcap] 24))
  have hb0 : Below w.heap.size w w0 := by rw [← HW0.out]; exact (Below.refl _ _).alloc (Nat.le_refl _) _
  have X0 : Hid (w0.heap[w.heap.size]? = some (.cells #[.int .i64 g.terms, .int .i64 g.nons, .int .i64 g.start, .slice ra g.rules.length rcap] 24 (0, 0))) := by rw [← HW0.out]; exact bx_new _ _ _ rfl
  have HTR := Lib.hid (trimE g ra rcap w0 (hr.below hb0))
  have HB0 := Lib.hid hb0
  obtain ⟨PST, HP⟩ := nameIt (GstPost g w)
  rw [HP.out]
  have HERR : Hid (∀ w', checkG g ≠ 0 → Below w.heap.size w w' → PST (.returned (.tuple #[.int .i64 0, .int .i64 (checkG g)])) w') := by
    intro w' h1 h2
    rw [← HP.out]
    exact ⟨h2, .inl ⟨h1, rfl⟩⟩
  have HFIN : Hid (∀ (v : Int) w', checkG g = 0 → Grt g v → Below w.heap.size w w' → PST (.returned (.tuple #[.int .i64 v, .int .i64 0])) w') := by
    intro v w' h1 h2 h3
    rw [← HP.out]
    exact ⟨h3, .inr ⟨h1, v, rfl, h2⟩⟩
  obtain ⟨TPS, HTP⟩ := nameIt (TrimPost g w0)
  rw [HTP.out] at HTR
  obtain ⟨gt, HGT⟩ := nameIt g.terms
  obtain ⟨gn, HGN⟩ := nameIt g.nons
  obtain ⟨gs, HGS⟩ := nameIt g.start
  obtain ⟨rl, HRL⟩ := nameIt g.rules.length
  rw [HGT.out, HGN.out, HGS.out, HRL.out] at HW0 X0
  rw [HGT.out, HGN.out, HGS.out, HRL.out] at HTR
  rw [HGT.out, HGN.out, HGS.out, HRL.out]
  obtain ⟨x0, x1, x2, x3⟩ := bx_cells4 X0.out
  obtain ⟨gb, HGB⟩ := nameIt w.heap.size
  rw [HGB.out] at x0 x1 x2 x3
  clear hr hb0 HP
  go_enter Try.func4, Try.ntmps4
  go_upto_region 1 with fail
  rw [HW0.out, HGB.out]
  go_wp2_with fail
  refine HTR.out.mono ?_
  intro e w1 hpost
  rw [← HTP.out] at hpost
  obtain ⟨hb1, hc⟩ := hpost
  have HB1 := Lib.hid (HB0.out.trans (hb1.mono HB0.out.size))
  clear HTR x0 x1 x2 x3
  rcases hc with ⟨h1, rfl⟩ | ⟨h1, h2, rfl⟩ | ⟨h1, N, S, X, I, vr, vn, vl, hT, rfl⟩
  · obtain ⟨w2, HW2⟩ := nameIt (w1.alloc (.cells #[.int .i64 0, .int .i64 0, .int .i64 0, .slice none 0 0] 24))
    have HE := Lib.hid (HERR.out w2 h1 (by rw [← HW2.out]; exact HB1.out.alloc HB1.out.size _))
    have h5 := checkG_ne5 (g := g)
    obtain ⟨ec, HEC⟩ := nameIt (checkG g)
    rw [HEC.out] at h1 h5 HE
    rw [HEC.out]
    have b1 : (ec == 0) = false := by simp; exact h1
    have b2 : (ec == 5) = false := by simp; exact h5
    go_upto_region 2 with fail
    rw [HW2.out]
    go_wp2_with fail
    exact HE.out
  · obtain ⟨w2, HW2⟩ := nameIt (w1.alloc (.cells #[.int .i64 0, .int .i64 0, .int .i64 0, .slice none 0 0] 24))
    have HE := Lib.hid (HFIN.out (-1) w2 h1 (.inl ⟨rfl, h2⟩) (by rw [← HW2.out]; exact HB1.out.alloc HB1.out.size _))
    clear h1 h2
    go_upto_region 2 with fail
    rw [HW2.out]
    go_wp2_with fail
    exact HE.out
  · have HT := Lib.hid hT
    have HC0 := Lib.hid h1
    have HOK := Lib.hid (trim_ok hT)
    have HFU := Lib.hid hT.trm.full
    have HR4 : Hid (∀ r ∈ trimR X I g.rules, r.right.length ≤ 4) := trim_right (fun r hr => ((checkG_zero h1).2.2 r hr).2.2.1)
    obtain ⟨a1, c1, rfl, hcv1, hcv2⟩ := hT.rd.form
    have hrd := hT.rd
    have HSN : Hid (toF I S < ((List.range N).filter I).length) := toF_lt hT.trm.start hT.trm.hS
    have HEND : Hid (GrowC (trimR X I g.rules) → Grt g (-2)) := fun h => grt_endless hT h
    have HMOST : Hid (∀ M : Nat → Nat, SndM (trimR X I g.rules) M → ClM M (trimR X I g.rules) → ¬ GrowC (trimR X I g.rules) → Grt g (M (toF I S) : Int)) := fun M h1 h2 h3 => grt_most hT h1 h2 h3
    have hn1 := HOK.out.n1
    have hn2 := HOK.out.n2
    obtain ⟨g2, HG2⟩ := nameIt (trimG g N S X I)
    have HGTM : Hid (g2.terms = gt) := by rw [← HG2.out, ← HGT.out]; exact rfl
    have HGRL : Hid (trimR X I g.rules = g2.rules) := by rw [← HG2.out]; exact rfl
    have HGST : Hid (g2.start = (toF I S : Nat)) := by rw [← HG2.out]; exact rfl
    rw [HG2.out] at HOK
    rw [HGRL.out] at HFU
    rw [HGRL.out] at HR4
    rw [HGRL.out] at HEND
    rw [HGRL.out] at HMOST
    rw [HGRL.out, List.length_map] at hcv1
    rw [HGRL.out, List.length_map] at hrd
    rw [HGRL.out, List.length_map]
    unfold maxLen at hcv2
    obtain ⟨n, HN⟩ := nameIt ((List.range N).filter I).length
    rw [HN.out] at HOK HSN hn1 hn2
    rw [HN.out, HGT.out]
    obtain ⟨st, HST⟩ := nameIt (toF I S)
    rw [HST.out] at HSN HGST
    rw [HST.out] at HMOST
    rw [HST.out]
    obtain ⟨kl, HKL⟩ := nameIt g2.rules.length
    rw [HKL.out] at hcv1 hrd
    rw [HKL.out]
    have hkl : kl ≤ 32 := by rw [← HKL.out]; exact HOK.out.len
    clear h1 hT
    obtain ⟨w2, HW2⟩ := nameIt (w1.alloc (.cells #[.int .i64 gt, .int .i64 (n : Int), .int .i64 (st : Int), .slice a1 kl c1] 24))
    have hb2 : Below w1.heap.size w1 w2 := by rw [← HW2.out]; exact (Below.refl _ _).alloc (Nat.le_refl _) _
    have HB2 := Lib.hid (HB1.out.trans (hb2.mono HB1.out.size))
    have HRD := Lib.hid (hrd.below hb2)
    have X2 : Hid (w2.heap[w1.heap.size]? = some (.cells #[.int .i64 gt, .int .i64 (n : Int), .int .i64 (st : Int), .slice a1 kl c1] 24 (0, 0))) := by rw [← HW2.out]; exact bx_new _ _ _ rfl
    obtain ⟨xb, HXB⟩ := nameIt w1.heap.size
    rw [HXB.out] at X2
    clear hb2 hrd HB1 HB0
    go_upto_region 2 with fail
    rw [HW2.out, HXB.out]
    go_upto_region 7 with fail
    clear HW2
    have HGW : Hid (∀ W, Below w2.heap.size w2 W → Calls Try.prog 10 #[.agg #[.int .i64 gt, .int .i64 (n : Int), .int .i64 (st : Int), .slice a1 kl c1]] W (GwPost g2.rules n W)) := fun W hb => by
      have h := growsE g2 n HOK.out HFU.out a1 c1 W (by rw [HKL.out]; exact HRD.out.below hb)
      rwa [HGTM.out, HOK.out.nons, HGST.out, HKL.out] at h
    have HEL : Hid (∀ W p G, Below w2.heap.size w2 W → Ln.Brow p n G W → GrOk g2.rules n G → Calls Try.prog 9 #[.agg #[.int .i64 gt, .int .i64 (n : Int), .int .i64 (st : Int), .slice a1 kl c1], .slice (some ⟨p, 0, none⟩) n n] W (EndPost g2.rules W)) := fun W p G hb h1 h2 => by
      have h := endlessE g2 n p G HOK.out HR4.out h2 a1 c1 W (by rw [HKL.out]; exact HRD.out.below hb) h1
      rwa [HGTM.out, HOK.out.nons, HGST.out, HKL.out] at h
    obtain ⟨x0, x1, x2, x3⟩ := bx_cells4 X2.out
    go_cut [31] (fun t wx => ∃ b, t = .bool b ∧ (b = true ↔ GrowC g2.rules) ∧ Hid (Below w2.heap.size w2 wx))
    case first =>
      refine wp_region_U (S := (fun w' => w'.cell? ⟨xb, 0, none⟩ = some (.int .i64 gt) ∧ w'.cell? ⟨xb, 0 + 1, none⟩ = some (.int .i64 (n : Int)) ∧ w'.cell? ⟨xb, 0 + 2, none⟩ = some (.int .i64 (st : Int)) ∧ w'.cell? ⟨xb, 0 + 3, none⟩ = some (.slice a1 kl c1))) 3 (by kernel_rfl) (fun inv => ?_)
      refine wpU_take (i := 0) (v := .agg #[.int .i64 gt, .int .i64 (n : Int), .int .i64 (st : Int), .slice a1 kl c1]) rfl inv (by kernel_rfl) (by kernel_rfl) (by decide) (by decide) (by kernel_rfl) (by kernel_rfl) (by kernel_rfl) (fun _ _ _ h => h) (Or.inl ⟨by rfl, fun w' hw' => ?_⟩) ⟨x0, x1, x2, x3⟩ (fun inv => ?_)
      · obtain ⟨h0, h1, h2, h3⟩ := hw'
        go_simp
      try simp only [Act.put, List.setIfInBounds_toArray, List.set_cons_zero, List.set_cons_succ]
      refine wpU_take (i := 1) (v := .agg #[.int .i64 gt, .int .i64 (n : Int), .int .i64 (st : Int), .slice a1 kl c1]) rfl inv (by kernel_rfl) (by kernel_rfl) (by decide) (by decide) (by kernel_rfl) (by kernel_rfl) (by kernel_rfl) (fun _ _ _ h => h) (Or.inl ⟨by rfl, fun w' hw' => ?_⟩) ⟨x0, x1, x2, x3⟩ (fun inv => ?_)
      · obtain ⟨h0, h1, h2, h3⟩ := hw'
        go_simp
      try simp only [Act.put, List.setIfInBounds_toArray, List.set_cons_zero, List.set_cons_succ]
      refine wpU_one (i := 2) (by kernel_rfl) rfl (fun K hK => ?_)
      go_simp
      refine (HGW.out _ (by first | exact Below.refl _ _ | exact (Below.refl _ _).drew)).mono ?_
      rintro e w3 ⟨p, G, rfl, hp3, hg3, hb3⟩
      have HB3 : Hid (Below w2.heap.size w2 w3) := (Below.refl _ _).drew.trans hb3
      have HP3 := Lib.hid hp3
      have HG3 := Lib.hid hg3
      obtain ⟨x0, x1, x2, x3⟩ := bx_cells4 (bx_keep X2.out HB3.out)
      clear hp3 hg3 hb3
      refine hK.out _ _ (fun _ => ⟨x0, x1, x2, x3⟩) ?_
      clear hK K
      try simp only [Act.put, List.setIfInBounds_toArray, List.set_cons_zero, List.set_cons_succ]
      refine wpU_one (i := 3) (by kernel_rfl) rfl (fun K hK => ?_)
      go_simp
      refine (HEL.out _ p G HB3.out HP3.out HG3.out).mono ?_
      rintro e w4 ⟨b, rfl, hb4, hbl4⟩
      have HB4 : Hid (Below w2.heap.size w2 w4) := HB3.out.trans (hbl4.mono HB3.out.size)
      refine hK.out _ _ (fun h => absurd (show true = false from h) (by decide)) ?_
      clear hK K
      try simp only [Act.put, List.setIfInBounds_toArray, List.set_cons_zero, List.set_cons_succ]
      refine wpU_done (by kernel_rfl) ?_ _
      go_wp2_with fail
      go_meet
      exact ⟨b, rfl, hb4, HB4⟩
    case rest =>
      obtain ⟨b, rfl, hb, HBX⟩ := hcut
      have HBC := Lib.hid (HB2.out.trans (HBX.out.mono HB2.out.size))
      clear x0 x1 x2 x3 HGW HEL
      cases b with
      | true =>
        have HE := Lib.hid (HFIN.out (-2) wc HC0.out (HEND.out (hb.1 rfl)) HBC.out)
        go_wp2_with fail
        exact HE.out
      | false =>
        have HNG : Hid (¬ GrowC g2.rules) := fun h => by cases hb.2 h
        have HRDC := Lib.hid (HRD.out.below HBX.out)
        have XC := Lib.hid (bx_keep X2.out HBX.out)
        clear hb HEND X2 HRD HBX
        have HKK : Hid (∀ r ∈ g2.rules, r.left.toNat < n) := fun r hr => (HOK.out.l r hr).2
        have HBD : Hid (∀ M, SndM g2.rules M → ∀ B, M B ≤ 1048576) := fun M h B => by
          have h1 := sndM_le (d := 4) (by omega) HR4.out HKK.out HNG.out h B
          have h2 : 4 ^ n ≤ 4 ^ 10 := Nat.pow_le_pow_right (by omega) hn2
          exact Nat.le_trans h1 (Nat.le_trans h2 (by decide))
        have hmk : ∀ W : World, (Instr.makeSlice 36 (.int .i64 (n : Int)) (.int .i64 (n : Int))).run Try.prog W = .ok (.slice (some ⟨W.heap.size, 0, none⟩) n n) (W.alloc (.cells (madeCells #[.int .i64 0] n) 3)) := fun W => by
          have := run_make_row' (P := Try.prog) 36 3 (.int .i64 0) 8 Try.underlying36 (by kernel_rfl) rfl .i64 .i64 n (by omega) (by omega) W
          simpa using this
        have HI0 : Hid (MsI g2.rules wc wc.heap.size n (fun _ => 0) (wc.alloc (.cells (madeCells #[.int .i64 0] n) 3))) :=
          ⟨vrow_new _ _ _ _ rfl, fun _ => .inl rfl, (Below.refl _ _).alloc (Nat.le_refl _) _, Nat.le_refl _⟩
        obtain ⟨x0, x1, x2, x3⟩ := bx_cells4 XC.out
        obtain ⟨w5, HW5⟩ := nameIt (wc.alloc (.cells (madeCells #[.int .i64 0] n) 3))
        rw [HW5.out] at HI0
        obtain ⟨p, HPN⟩ := nameIt wc.heap.size
        rw [HPN.out] at HI0
        have hxp : xb < p := by rw [← HPN.out]; exact (Array.getElem?_eq_some_iff.1 XC.out).1
        obtain ⟨T, HTN⟩ := nameIt (n * 1048576)
        have HMT : Hid (∀ M, SndM g2.rules M → muM M n ≤ T) := fun M h => by rw [← HTN.out]; exact muM_le (HBD.out M h) n
        go_upto_region 10 with fail
        rw [HW5.out, HPN.out]
        clear x0 x1 x2 x3 hmk HW5
        go_wp2_with fail
        go_loopg [9] (T + 1) (fun gg v9 wr => ∃ (ag : Bool) (M : Nat → Nat), v9 = .bool ag ∧ (ag = true → T - muM M n + 1 ≤ gg) ∧ Hid (MsI g2.rules wc p n M wr) ∧ Hid (ag = false → ClM M g2.rules))
        case atStart => exact ⟨true, _, rfl, (fun _ => by omega), HI0, (fun e => by cases e)⟩
        case round =>
          clear HI0
          obtain ⟨ag, M, rfl, hgg, HL, HAG⟩ := hrel
          obtain ⟨w6, rfl⟩ : ∃ ww : World, ww = wr := ⟨_, rfl⟩
          obtain ⟨x0, x1, x2, x3⟩ := bx_cells4 (bx_keep XC.out HL.out.bel)
          cases ag with
          | false =>
            have HE := Lib.hid (HFIN.out _ w6 HC0.out (HMOST.out M HL.out.snd (HAG.out rfl) HNG.out) (HBC.out.trans (HL.out.bel.mono HBC.out.size)))
            have q0 := HL.out.row.cell HSN.out
            have hs0 : (0 : Int) ≤ (st : Int) := by omega
            have hsn := HSN.out
            have hs1 : (st : Int) < (n : Int) := by omega
            clear hgg HAG
            go_wp2_with fail
            exact HE.out
          | true =>
            have hgg' := hgg rfl
            have HC1 : Hid (ClM M (g2.rules.take 0)) := fun r hr => by simp at hr
            obtain ⟨mu, HMU⟩ := nameIt (muM M n)
            rw [HMU.out] at hgg'
            clear hgg HAG
            go_wp2_with fail
            clear x0 x1 x2 x3
            go_loopg [9, 39] kl (fun gg v9 v39 wr => ∃ (i : Nat) (J : Nat → Nat) (b : Bool), i ≤ kl ∧ kl - i ≤ gg ∧ v9 = .bool b ∧ v39 = .int .i64 i ∧ Hid (MsI g2.rules wc p n J wr) ∧ Hid (b = false → J = M ∧ ClM M (g2.rules.take i)) ∧ Hid (mu ≤ muM J n) ∧ Hid (b = true → mu < muM J n))
            case atStart => exact ⟨0, M, false, by omega, by omega, rfl, rfl, HL, (fun _ => ⟨rfl, HC1.out⟩), Nat.le_of_eq HMU.out.symm, (fun e => by cases e)⟩
            case round =>
              clear HL HC1
              obtain ⟨i, J, b, hi, hg2, rfl, rfl, HL, HC, HLE, HM⟩ := hrel
              obtain ⟨w7, rfl⟩ : ∃ ww : World, ww = wr := ⟨_, rfl⟩
              by_cases hlt : i < kl
              · have hlt' : (i : Int) < (kl : Int) := by omega
                have hi0 : (0 : Int) ≤ (i : Int) := by omega
                have hix : i < g2.rules.length := by rw [HKL.out]; exact hlt
                obtain ⟨rbk, ro, rv, hae, -, hrb, r0, r1, hrr⟩ := HRDC.out.rule_at hix
                obtain ⟨ar, cr, rfl, hcr1, hcr2⟩ := hrr.form
                rw [List.length_map] at r1 hrr hcr1
                unfold maxLen at hcr2
                have HRR := Lib.hid hrr
                have hbw := HL.out.bel
                have t0 := (hbw.cell (lt_of_cell r0)).trans r0
                have t1 := (hbw.cell (lt_of_cell r1)).trans r1
                have hrb' : rbk < w7.heap.size := Nat.lt_of_lt_of_le hrb hbw.size
                have HMEM := Lib.hid (List.getElem_mem hix)
                have HOKR := Lib.hid (HOK.out.r _ (List.getElem_mem hix))
                have HOKL := Lib.hid (HOK.out.l _ (List.getElem_mem hix))
                have hr4 := HR4.out _ (List.getElem_mem hix)
                have HNX : Hid (ClM M (g2.rules.take i) → nL M g2.rules[i].right ≤ M g2.rules[i].left.toNat → ClM M (g2.rules.take (i + 1))) := fun h1 h2 => clM_next hix h1 h2
                obtain ⟨r, HRN⟩ := nameIt (g2.rules[i]'hix)
                rw [HRN.out] at t0 t1 HRR HOKR HOKL hcr1 HMEM HNX hr4
                obtain ⟨A, hA⟩ : ∃ A : Nat, r.left = (A : Int) := ⟨r.left.toNat, by have := HOKL.out.1; omega⟩
                have hAN : A < n := by have := HOKL.out.2; rw [hA] at this; simpa using this
                have HLEFT : Hid (r.left.toNat = A) := by show _ = _; rw [hA]; simp
                have HLI : Hid (r.left = (A : Int)) := hA
                rw [HLEFT.out] at HNX
                rw [hA] at t0
                obtain ⟨rn, HRNL⟩ := nameIt r.right.length
                rw [HRNL.out] at t1 HRR hcr1 hr4
                obtain ⟨w8, HW8⟩ := nameIt (w7.alloc (.cells #[.int .i64 (A : Int), .slice ar rn cr] 32))
                have hb8 : Below w7.heap.size w7 w8 := by rw [← HW8.out]; exact (Below.refl _ _).alloc (Nat.le_refl _) _
                have HL8 := Lib.hid (HL.out.keep hb8)
                have Y8 : Hid (w8.heap[w7.heap.size]? = some (.cells #[.int .i64 (A : Int), .slice ar rn cr] 32 (0, 0))) := by rw [← HW8.out]; exact bx_new _ _ _ rfl
                have HPW : Hid (p < w7.heap.size) := HL.out.row.lt
                obtain ⟨rbx, HRBX⟩ := nameIt w7.heap.size
                rw [HRBX.out] at Y8 HPW
                have hA0 : (0 : Int) ≤ (A : Int) := by omega
                have hA1 : (A : Int) < (n : Int) := by omega
                have HBJ : Hid (∀ B, J B ≤ 1048576) := HBD.out J HL.out.snd
                have HX0 : Hid (nL J (r.right.take 0) = 0) := by show _ = _; simp [nL]
                subst hae
                clear hrr r0 r1 hb8 hrb' hbw hA
                go_upto_region 16 with fail
                rw [HW8.out, HRBX.out]
                clear t0 t1 HW8 HL
                obtain ⟨y0, y1⟩ := bx_cells2 Y8.out
                go_wp2_with fail
                clear y0 y1
                go_loopg [12, 46] rn (fun gg v12 v46 wr => ∃ (j x : Nat), j ≤ rn ∧ rn - j ≤ gg ∧ v12 = .int .i64 x ∧ v46 = .int .i64 j ∧ x ≤ j * 1048576 ∧ Hid (nL J (r.right.take j) = x) ∧ Hid (MsI g2.rules wc p n J wr) ∧ Hid (wr.heap[rbx]? = some (.cells #[.int .i64 (A : Int), .slice ar rn cr] 32 (0, 0))))
                case atStart => exact ⟨0, 0, by omega, by omega, rfl, rfl, by omega, HX0, HL8, Y8⟩
                case round =>
                  clear HL8 Y8 HX0
                  obtain ⟨j, x, hj, hg3, rfl, rfl, hxj, HX, HL8, Y8⟩ := hrel
                  obtain ⟨w9, rfl⟩ : ∃ ww : World, ww = wr := ⟨_, rfl⟩
                  by_cases hjm : j < rn
                  · have hjm' : (j : Int) < (rn : Int) := by omega
                    have hj0 : (0 : Int) ≤ (j : Int) := by omega
                    have hjx : j < r.right.length := by rw [HRNL.out]; exact hjm
                    obtain ⟨sb, so, hae, -, hsb, s0, s1⟩ := (show Rd AnyB wc (.sl (r.right.map Sym.d)) [.slice ar r.right.length cr] by rw [HRNL.out]; exact HRR.out).sym_at hjx
                    have u0 := (HL8.out.bel.cell (lt_of_cell s0)).trans s0
                    have u1 := (HL8.out.bel.cell (lt_of_cell s1)).trans s1
                    have HOS := Lib.hid (HOKR.out _ (List.getElem_mem hjx))
                    have HXN : Hid (nL J (r.right.take (j + 1)) = x + nS J r.right[j]) := by show _ = _; rw [nL_next hjx, HX.out]
                    obtain ⟨⟨sterm, sn⟩, HSY⟩ := nameIt (r.right[j]'hjx)
                    rw [HSY.out] at u0 u1 HOS HXN
                    simp only at u0 u1
                    have hsl9 : sb < w9.heap.size := Nat.lt_of_lt_of_le hsb HL8.out.bel.size
                    obtain ⟨w10, HW10⟩ := nameIt (w9.alloc (.cells #[.bool sterm, .int .i64 sn] 42))
                    have hb10 : Below w9.heap.size w9 w10 := by rw [← HW10.out]; exact (Below.refl _ _).alloc (Nat.le_refl _) _
                    have HL10 := Lib.hid (HL8.out.keep hb10)
                    have Y10 := Lib.hid (bx_keep Y8.out hb10)
                    have S10 : Hid (w10.heap[w9.heap.size]? = some (.cells #[.bool sterm, .int .i64 sn] 42 (0, 0))) := by rw [← HW10.out]; exact bx_new _ _ _ rfl
                    obtain ⟨sbx, HSBX⟩ := nameIt w9.heap.size
                    rw [HSBX.out] at S10
                    have hxb5 : x ≤ 5 * 1048576 := Nat.le_trans hxj (Nat.mul_le_mul_right _ (by omega))
                    subst hae
                    clear s0 s1 hb10
                    go_upto_region 20 with fail
                    rw [HW10.out, HSBX.out]
                    clear u0 u1 HW10 HL8 Y8
                    obtain ⟨z0, z1⟩ := bx_cells2 S10.out
                    cases sterm with
                    | true =>
                      have HX1 : Hid (nL J (r.right.take (j + 1)) = x + 1) := HXN.out.trans (by simp [nS])
                      have hxj1 : x + 1 ≤ (j + 1) * 1048576 := by omega
                      have hw : IntKind.i64.wrap ((x : Int) + 1) = ((x + 1 : Nat) : Int) := by rw [IntWalk.i64_in _ (by omega)]; omega
                      obtain ⟨x', HXX⟩ := nameIt (x + 1)
                      rw [HXX.out] at HX1 hxj1 hw
                      go_wp2_with fail
                      go_roundg (rn - (j + 1))
                      case measure => omega
                      case rel => exact ⟨j + 1, x', by omega, by omega, rfl, by go_num, hxj1, HX1, HL10, Y10⟩
                    | false =>
                      obtain ⟨hq1, hq2⟩ := HOS.out rfl
                      simp only at hq1 hq2
                      obtain ⟨B, rfl⟩ : ∃ B : Nat, sn = (B : Int) := ⟨sn.toNat, by omega⟩
                      rw [Int.toNat_natCast] at hq2
                      have hB0 : (0 : Int) ≤ (B : Int) := by omega
                      have hB1 : (B : Int) < (n : Int) := by omega
                      have q0 := HL10.out.row.cell hq2
                      have hjb := HBJ.out B
                      have HX1 : Hid (nL J (r.right.take (j + 1)) = x + J B) := HXN.out.trans (by simp [nS])
                      obtain ⟨jb, HJB⟩ := nameIt (J B)
                      rw [HJB.out] at q0 hjb HX1
                      have hxj1 : x + jb ≤ (j + 1) * 1048576 := by omega
                      have hw : IntKind.i64.wrap ((x : Int) + (jb : Int)) = ((x + jb : Nat) : Int) := by rw [IntWalk.i64_in _ (by omega)]; omega
                      obtain ⟨x', HXX⟩ := nameIt (x + jb)
                      rw [HXX.out] at HX1 hxj1 hw
                      go_wp2_with fail
                      go_roundg (rn - (j + 1))
                      case measure => omega
                      case rel => exact ⟨j + 1, x', by omega, by omega, rfl, by go_num, hxj1, HX1, HL10, Y10⟩
                  · have hjm' : ¬ (j : Int) < (rn : Int) := by omega
                    have HXW : Hid (nL J r.right = x) := by
                      have := HX.out
                      rwa [List.take_of_length_le (by rw [HRNL.out]; omega)] at this
                    obtain ⟨y0, y1⟩ := bx_cells2 Y8.out
                    have q0 := HL8.out.row.cell hAN
                    have qf := HL8.out.row.free A
                    by_cases hbig : J A < x
                    · have hbig' : ((J A : Nat) : Int) < (x : Int) := by omega
                      have hset := muM_set (M := J) (x := x) hAN
                      have hsx : SndM g2.rules (updN J A x) := by
                        have h := sndM_set HFU.out HL8.out.snd HMEM.out HLI.out
                        rwa [HXW.out] at h
                      have HL11 := Lib.hid (HL8.out.set hAN hsx)
                      clear hsx
                      have HM3 : Hid (mu < muM (updN J A x) n) := by have := HLE.out; show _ < _; omega
                      have hpw2 := HPW.out
                      have hnp : ¬ p = rbx := by omega
                      have hnp2 : ¬ rbx = p := by omega
                      obtain ⟨ja, HJA⟩ := nameIt (J A)
                      rw [HJA.out] at q0 hbig'
                      clear hset hbig
                      go_wp2_with fail
                      go_roundg (kl - (i + 1))
                      case measure => omega
                      case rel => exact ⟨i + 1, updN J A x, true, by omega, by omega, rfl, by go_num, HL11, (fun e => by cases e), Nat.le_of_lt HM3.out, (fun _ => HM3.out)⟩
                    · have hbig' : ¬ ((J A : Nat) : Int) < (x : Int) := by omega
                      have HC2 : Hid (b = false → J = M ∧ ClM M (g2.rules.take (i + 1))) := by
                        intro e
                        obtain ⟨h1, h2⟩ := HC.out e
                        have h3 := HXW.out
                        have h4 : x ≤ J A := by omega
                        rw [h1] at h3 h4
                        exact ⟨h1, HNX.out h2 (by rw [h3]; exact h4)⟩
                      obtain ⟨ja, HJA⟩ := nameIt (J A)
                      rw [HJA.out] at q0 hbig'
                      clear hbig
                      go_wp2_with fail
                      go_roundg (kl - (i + 1))
                      case measure => omega
                      case rel => exact ⟨i + 1, J, b, by omega, by omega, rfl, by go_num, HL8, HC2, HLE, HM⟩
              · have hlt' : ¬ (i : Int) < (kl : Int) := by omega
                have HCE : Hid (b = false → ClM J g2.rules) := by
                  intro e
                  obtain ⟨h1, h2⟩ := HC.out e
                  rw [List.take_of_length_le (by rw [HKL.out]; omega)] at h2
                  rw [h1]; exact h2
                have HMM : Hid (b = true → T - muM J n + 1 ≤ T - mu) := fun e => by
                  have h1 := HM.out e
                  have h2 := HMT.out J HL.out.snd
                  show _ ≤ _
                  omega
                go_wp2_with fail
                go_roundg (T - mu)
                case measure => omega
                case rel => exact ⟨b, J, rfl, HMM.out, HL, HCE⟩
end Gr
end Go.Proofs.Ytmbjnemahgfhcaa
namespace Go.Proofs.Ytmbjnemahgfhcaa
open Go.RowKit
namespace Ln

end Ln
end Go.Proofs.Ytmbjnemahgfhcaa
namespace Go.Proofs.Ytmbjnemahgfhcaa
open Go.RowKit
namespace Ln

def LensPost (g : Gram) (n : Nat) (w : World) (e : Ending) (w' : World) : Prop :=
  ∃ v, e = .returned v ∧ Sl w' v (bls (lensL g.rules n g.start)) ∧ Below w.heap.size w w'
open Classical in
theorem lens_row {K : List Rule} {n N bt B : Nat} {rb : Nat → Nat} {C : Nat → Nat → Bool} {W : World} {st : Nat} (hst : st < N) (hn : n ≤ 400) (h : Grd 33 4 B bt N (n + 1) N rb (fun i j => .bool (C i j)) W) (hC : ∀ a k, a < N → k ≤ n → (C a k = true ↔ Has K (a : Int) k)) : Sl W (.slice (some ⟨rb st, 0, none⟩) (n + 1) (n + 1)) (bls (lensL K n (st : Int))) := by
  have h1 : Brow (rb st) (n + 1) (C st) W := h.row st hst hst
  have h2 : (List.range (n + 1)).map (C st) = lensL K n (st : Int) := by
    unfold lensL
    refine List.map_congr_left fun k hk => ?_
    have h3 := hC st k hst (by simp at hk; omega)
    cases hH : C st k with
    | true => simp [h3.1 hH]
    | false =>
      have : ¬ Has K (st : Int) k := fun h => by rw [h3.2 h] at hH; cases hH
      simp [this]
  rw [← h2]
  exact sl_brow h1 (by unfold maxLen; omega)

set_option maxHeartbeats 4000000 in
set_option maxRecDepth 100000 in
theorem lensE (g : Gram) (hg : checkG g = 0) (n : Nat) (hn : n ≤ 400) (ar : Option Addr) (cr : Nat) (w : World) (hr : Rd AnyB w (.sl (g.rules.map Rule.d)) [.slice ar g.rules.length cr]) :
    Calls Try.prog 7 #[.agg #[.int .i64 g.terms, .int .i64 g.nons, .int .i64 g.start, .slice ar g.rules.length cr], .int .i64 n] w (LensPost g n w) := by
  obtain ⟨⟨hg1, hg2, hg3, hg4, hg5, hg6⟩, -, -⟩ := checkG_zero hg
  obtain ⟨w0, HW0⟩ := nameIt (w.alloc (.cells #[.int .i64 g.terms, .int .i64 g.nons, .int .i64 g.start, .slice ar g.rules.length cr] 24))
  have HB0 : Hid (Below w.heap.size w w0) := by rw [← HW0.out]; exact (Below.refl _ _).alloc (Nat.le_refl _) _
  have X1 : Hid (w0.heap[w.heap.size]? = some (.cells #[.int .i64 g.terms, .int .i64 g.nons, .int .i64 g.start, .slice ar g.rules.length cr] 24 (0, 0))) := by rw [← HW0.out]; exact bx_new _ _ _ rfl
  have HLE := Lib.hid (fun W (hb : Below w0.heap.size w0 W) => lengthsE g hg n hn ar cr W ((hr.below HB0.out).below hb))
  obtain ⟨N, HN⟩ : ∃ N : Nat, g.nons = (N : Int) := ⟨g.nons.toNat, by omega⟩
  obtain ⟨st, HST⟩ : ∃ s : Nat, g.start = (s : Int) := ⟨g.start.toNat, by omega⟩
  have hstN : st < N := by omega
  have HLP : Hid (∀ W0 e W, LenPost g n W0 e W → ∃ bt rb, e = .returned (.slice (some ⟨bt, 0, none⟩) N N) ∧ W.cell? ⟨bt, st, none⟩ = some (.slice (some ⟨rb, 0, none⟩) (n + 1) (n + 1)) ∧ Sl W (.slice (some ⟨rb, 0, none⟩) (n + 1) (n + 1)) (bls (lensL g.rules n g.start)) ∧ Below W0.heap.size W0 W) := by
    rintro W0 e W ⟨bt, rb, C, h1, h2, h3, h4⟩
    have e : g.nons.toNat = N := by omega
    rw [e] at h1 h2 h3
    refine ⟨bt, rb st, h1, h2.hdr hstN hstN, ?_, h4⟩
    rw [HST]
    exact lens_row hstN hn h2 h3
  have HFIN : Hid (∀ v W, Sl W v (bls (lensL g.rules n g.start)) → Below w.heap.size w W → LensPost g n w (.returned v) W) := fun v W h1 h2 => ⟨v, rfl, h1, h2⟩
  obtain ⟨gt, HGT⟩ := nameIt g.terms
  obtain ⟨nk, HNK⟩ := nameIt g.rules.length
  obtain ⟨LL, HLL⟩ := nameIt (bls (lensL g.rules n g.start))
  rw [HLL.out] at HLP HFIN
  rw [HGT.out, HN, HST, HNK.out] at X1 HW0 HLE
  rw [HGT.out, HN, HST, HNK.out]
  obtain ⟨x0, x1, x2, x3⟩ := bx_cells4 X1.out
  have hst0 : (0 : Int) ≤ (st : Int) := by omega
  have hst1 : (st : Int) < (N : Int) := by omega
  clear hr HN HST hg1 hg2 hg3 hg4 hg5 hg6
  go_enter Try.func7, Try.ntmps7
  go_upto_region 1 with fail
  rw [HW0.out]
  go_region_law
    (first
      | (go_simp; go_at_call 11; (with_reducible refine (HLE.out _ (by first | exact (Below.refl _ _).drew | exact Below.refl _ _)).mono ?_); intro e w7 hpost; obtain ⟨bt, rb, rfl, hcb, hsl, hb7⟩ := HLP.out _ e w7 hpost; have HB7 : Hid (Below w0.heap.size w0 w7) := (Below.refl _ _).drew.trans hb7; have HSL := Lib.hid hsl; have K0 := (HB7.out.cell (p := ⟨w.heap.size, 0, none⟩) (lt_of_cell x0)).trans x0; have K1 := (HB7.out.cell (p := ⟨w.heap.size, 0 + 1, none⟩) (lt_of_cell x1)).trans x1; have K2 := (HB7.out.cell (p := ⟨w.heap.size, 0 + 2, none⟩) (lt_of_cell x2)).trans x2; have K3 := (HB7.out.cell (p := ⟨w.heap.size, 0 + 3, none⟩) (lt_of_cell x3)).trans x3; clear hpost hb7 hsl)
      | fail)
  all_goals
    go_wp2_with fail
    go_ret
    exact HFIN.out _ _ HSL.out (HB0.out.trans (HB7.out.mono HB0.out.size))

theorem lensL_len (K : List Rule) (n : Nat) (a : Int) : (bls (lensL K n a)).length = n + 1 := by simp [bls, lensL]

end Ln
end Go.Proofs.Ytmbjnemahgfhcaa
namespace Go.Proofs.Ytmbjnemahgfhcaa
open Go.RowKit
namespace Gr
open Cs
set_option maxHeartbeats 8000000 in
set_option maxRecDepth 100000 in
theorem lawLG (g : Gram) (u : Value) (w : World) (hr : Rd AnyB w (.sl (g.rules.map Rule.d)) [u]) :
    Calls Try.prog 3 #[.agg #[.int .i64 g.terms, .int .i64 g.nons, .int .i64 g.start, u]] w fun e w' => e = .returned (.bool true) ∧ Below w.heap.size w w' := by
  obtain ⟨ar, cr, rfl, hc1, hc2⟩ := hr.form
  rw [List.length_map] at hr hc1
  rw [List.length_map]
  unfold maxLen at hc2
  obtain ⟨w0, HW0⟩ := nameIt (w.alloc (.cells #[.int .i64 g.terms, .int .i64 g.nons, .int .i64 g.start, .slice ar g.rules.length cr] 24))
  have HB0 : Hid (Below w.heap.size w w0) := by rw [← HW0.out]; exact (Below.refl _ _).alloc (Nat.le_refl _) _
  have X1 : Hid (w0.heap[w.heap.size]? = some (.cells #[.int .i64 g.terms, .int .i64 g.nons, .int .i64 g.start, .slice ar g.rules.length cr] 24 (0, 0))) := by rw [← HW0.out]; exact bx_new _ _ _ rfl
  have HRD := Lib.hid (hr.below HB0.out)
  have HGE := Lib.hid (fun W (hb : Below w0.heap.size w0 W) => greatestE g ar cr W ((hr.below HB0.out).below hb))
  have HRF := Lib.hid (fun W (hb : Below w0.heap.size w0 W) => ruleFault g ar cr W ((hr.below HB0.out).below hb))
  have HLE := Lib.hid (fun (hg : checkG g = 0) W (hb : Below w0.heap.size w0 W) => Ln.lensE g hg 324 (by omega) ar cr W ((hr.below HB0.out).below hb))
  have HAT : Hid (checkG g = 0 → ∀ (k : Nat) (hk : k < (Ln.bls (Ln.lensL g.rules 324 g.start)).length), (Ln.bls (Ln.lensL g.rules 324 g.start))[k] = .bool (fD g k)) := fun hg k hk => lens_at hg hk
  have HGP : Hid (∀ W0 e W, GstPost g W0 e W → GstPost g W0 e W) := fun _ _ _ h => h
  have HFINP : Hid (∀ v, checkG g = 0 → Grt g v → (∀ r ∈ g.rules, g.nons ≤ 4 ∧ r.right.length ≤ 3) → (if 81 < lastT (fD g) 325 then (-2 : Int) else lastT (fD g) 325) = v) := fun v hc h hK => lg_plain hc h hK (fun k _ => fD_iff)
  have HPL := Lib.hid plE
  have HPS := Lib.hid (fun (v : Value) W (h : Rd AnyB W (.sl (plG.rules.map Rule.d)) [v]) => (by
    obtain ⟨a, c, rfl, _⟩ := h.form
    rw [List.length_map] at h
    exact greatestE plG a c W h : Calls Try.prog 4 #[.agg #[.int .i64 plG.terms, .int .i64 plG.nons, .int .i64 plG.start, v]] W (GstPost plG W)))
  obtain ⟨PST, HP⟩ := nameIt (fun (e : Ending) (w' : World) => e = .returned (.bool true) ∧ Below w.heap.size w w')
  rw [HP.out]
  have HYES : Hid (∀ W, Below w0.heap.size w0 W → PST (.returned (.bool true)) W) := fun W hb => by
    rw [← HP.out]
    exact ⟨rfl, HB0.out.trans (hb.mono HB0.out.size)⟩
  obtain ⟨f, HF⟩ := nameIt (fD g)
  rw [HF.out] at HAT
  rw [HF.out] at HFINP
  obtain ⟨gt, HGT⟩ := nameIt g.terms
  obtain ⟨gn, HGN⟩ := nameIt g.nons
  obtain ⟨gs, HGS⟩ := nameIt g.start
  obtain ⟨kl, HKL⟩ := nameIt g.rules.length
  obtain ⟨ck, HC⟩ := nameIt (checkG g)
  obtain ⟨LL, HLL⟩ := nameIt (Ln.bls (Ln.lensL g.rules 324 g.start))
  have HLN : Hid (LL.length = 325) := by rw [← HLL.out]; exact Ln.lensL_len _ _ _
  have HLP : Hid (∀ W0 e W, Ln.LensPost g 324 W0 e W → ∃ v, e = .returned v ∧ Sl W v LL ∧ Below W0.heap.size W0 W) := by
    rintro W0 e W ⟨v, h1, h2, h3⟩
    rw [HLL.out] at h2
    exact ⟨v, h1, h2, h3⟩
  have HAT2 : Hid (ck = 0 → ∀ (k : Nat) (hk : k < LL.length), LL[k] = .bool (f k)) := by
    rw [← HC.out, ← HLL.out]
    exact HAT.out
  have HGQ : Hid (∀ W0 e W, GstPost g W0 e W → Below W0.heap.size W0 W ∧ ((ck ≠ 0 ∧ e = .returned (.tuple #[.int .i64 0, .int .i64 ck])) ∨ (ck = 0 ∧ ∃ v : Int, e = .returned (.tuple #[.int .i64 v, .int .i64 0]) ∧ Grt g v))) := by
    intro W0 e W h
    rw [← HC.out]
    exact h
  rw [HGT.out, HGN.out, HGS.out, HKL.out] at X1 HW0 HGE HRF
  rw [HGT.out, HGN.out, HGS.out, HKL.out] at HLE
  rw [HKL.out] at HRD hc1
  rw [HC.out] at HRF HLE HFINP
  rw [HGN.out] at HFINP
  rw [HGT.out, HGN.out, HGS.out, HKL.out]
  clear hr HP HAT HGP
  go_enter Try.func3, Try.ntmps3
  go_upto_region 1 with fail
  rw [HW0.out]
  go_wp2_with fail
  refine (HPL.out w0).mono ?_
  rintro e w1 ⟨v1, rfl, hv1, hb1⟩
  have HV1 := Lib.hid hv1
  have HB1 := Lib.hid hb1
  obtain ⟨a1, n1, c1, rfl⟩ : ∃ x y z, v1 = Value.slice x y z := by obtain ⟨x, z, e, _⟩ := hv1.form; exact ⟨_, _, _, e⟩
  clear hv1 hb1
  go_wp2_with fail
  refine (HPS.out _ w1 HV1.out).mono ?_
  rintro e w2 ⟨hb2, hc⟩
  rcases hc with ⟨h1, -⟩ | ⟨-, v2, rfl, hv2⟩
  · exact absurd plG_ok h1
  obtain rfl := grt_plain hv2
  have HB2 : Hid (Below w0.heap.size w0 w2) := HB1.out.trans (hb2.mono HB1.out.size)
  obtain ⟨x0, x1, x2, x3⟩ := bx_cells4 (bx_keep X1.out HB2.out)
  clear hv2 hb2
  go_wp2_with fail
  refine (HGE.out w2 HB2.out).mono ?_
  intro e w4 hpost
  obtain ⟨hb4, hc⟩ := HGQ.out w2 e w4 hpost
  have HB4 : Hid (Below w0.heap.size w0 w4) := HB2.out.trans (hb4.mono HB2.out.size)
  clear hpost hb4 x0 x1 x2 x3
  obtain ⟨x0, x1, x2, x3⟩ := bx_cells4 (bx_keep X1.out HB4.out)
  rcases hc with ⟨hz, rfl⟩ | ⟨hz, v, rfl, hv⟩
  · have hzb : (ck == 0) = false := by simpa using hz
    have hzb2 : (ck != 0) = true := by simpa using hz
    have hck : (ck == ck) = true := by simp
    clear hz
    go_wp2_with fail
    refine (HRF.out w4 HB4.out).mono ?_
    rintro e w5 ⟨rfl, hb5⟩
    have HB5 : Hid (Below w0.heap.size w0 w5) := HB4.out.trans (hb5.mono HB4.out.size)
    clear hb5
    go_wp2_with fail
    exact HYES.out _ HB5.out
  · have HV := Lib.hid hv
    have HLE2 := Lib.hid (HLE.out hz)
    have HFP := Lib.hid (fun h => HFINP.out v hz HV.out h)
    have HAT3 := Lib.hid (HAT2.out hz)
    subst hz
    clear hv HLE HFINP
    go_wp2_with fail
    refine (HRF.out w4 HB4.out).mono ?_
    rintro e w5 ⟨rfl, hb5⟩
    have HB5 : Hid (Below w0.heap.size w0 w5) := HB4.out.trans (hb5.mono HB4.out.size)
    clear hb5 x0 x1 x2 x3
    obtain ⟨x0, x1, x2, x3⟩ := bx_cells4 (bx_keep X1.out HB5.out)
    have HQ0 : Hid (∀ r ∈ g.rules.take 0, gn ≤ 4 ∧ r.right.length ≤ 3) := fun r h => by simp at h
    go_wp2_with fail
    clear x0 x1 x2 x3
    go_loopg [46] kl (fun gg v46 wr => ∃ i : Nat, i ≤ kl ∧ kl - i ≤ gg ∧ v46 = .int .i64 i ∧ Hid (Below w0.heap.size w0 wr) ∧ Hid (∀ r ∈ g.rules.take i, gn ≤ 4 ∧ r.right.length ≤ 3))
    case atStart => exact ⟨0, by omega, by omega, rfl, HB5, HQ0⟩
    case round =>
      clear HQ0 HB5
      obtain ⟨i, hi, hg1, rfl, HB5, HQ⟩ := hrel
      obtain ⟨w6, rfl⟩ : ∃ ww : World, ww = wr := ⟨_, rfl⟩
      by_cases hlt : i < kl
      · have hlt' : (i : Int) < (kl : Int) := by omega
        have hi0 : (0 : Int) ≤ (i : Int) := by omega
        have hix : i < g.rules.length := by rw [HKL.out]; exact hlt
        obtain ⟨rbk, ro, rv, hae, -, hrb, r0, r1, hrr⟩ := HRD.out.rule_at hix
        obtain ⟨ar2, cr2, rfl, hcr1, hcr2⟩ := hrr.form
        rw [List.length_map] at r1 hrr hcr1
        unfold maxLen at hcr2
        have t0 := (HB5.out.cell (lt_of_cell r0)).trans r0
        have t1 := (HB5.out.cell (lt_of_cell r1)).trans r1
        have hrb' : rbk < w6.heap.size := Nat.lt_of_lt_of_le hrb HB5.out.size
        have HNQ : Hid (gn ≤ 4 → g.rules[i].right.length ≤ 3 → ∀ r ∈ g.rules.take (i + 1), gn ≤ 4 ∧ r.right.length ≤ 3) := fun h1 h2 r hm => by
          rw [List.take_succ_eq_append_getElem hix] at hm
          rcases List.mem_append.1 hm with h3 | h3
          · exact HQ.out r h3
          · simp at h3; rw [h3]; exact ⟨h1, h2⟩
        obtain ⟨r, HRN⟩ := nameIt (g.rules[i]'hix)
        rw [HRN.out] at t0 t1 hcr1 HNQ
        obtain ⟨rn, HRNL⟩ := nameIt r.right.length
        rw [HRNL.out] at t1 hcr1 HNQ
        obtain ⟨rl, HRL⟩ := nameIt r.left
        rw [HRL.out] at t0
        obtain ⟨w7, HW7⟩ := nameIt (w6.alloc (.cells #[.int .i64 rl, .slice ar2 rn cr2] 32))
        have hb7 : Below w6.heap.size w6 w7 := by rw [← HW7.out]; exact (Below.refl _ _).alloc (Nat.le_refl _) _
        have HB7 : Hid (Below w0.heap.size w0 w7) := HB5.out.trans (hb7.mono HB5.out.size)
        have Y7 : Hid (w7.heap[w6.heap.size]? = some (.cells #[.int .i64 rl, .slice ar2 rn cr2] 32 (0, 0))) := by rw [← HW7.out]; exact bx_new _ _ _ rfl
        obtain ⟨x0, x1, x2, x3⟩ := bx_cells4 (bx_keep X1.out HB5.out)
        obtain ⟨rbx, HRBX⟩ := nameIt w6.heap.size
        rw [HRBX.out] at Y7
        subst hae
        clear hrr r0 r1 hb7
        go_upto_region 13 with fail
        rw [HW7.out, HRBX.out]
        clear t0 t1 HW7 x0 x1 x2 x3
        obtain ⟨x0, x1, x2, x3⟩ := bx_cells4 (bx_keep X1.out HB7.out)
        obtain ⟨y0, y1⟩ := bx_cells2 Y7.out
        by_cases hg4 : 4 < gn
        · have hg4' : decide (4 < gn) = true := by simpa using hg4
          go_wp2_with fail
          exact HYES.out _ HB7.out
        · have hg4' : decide (4 < gn) = false := by simpa using hg4
          by_cases hr3 : 3 < rn
          · have hr3' : decide ((3 : Int) < (rn : Int)) = true := by simp; omega
            go_wp2_with fail
            exact HYES.out _ HB7.out
          · have hr3' : decide ((3 : Int) < (rn : Int)) = false := by simp; omega
            have HN := Lib.hid (HNQ.out (by omega) (by omega))
            go_wp2_with fail
            go_roundg (kl - (i + 1))
            case measure => omega
            case rel => exact ⟨i + 1, by omega, by omega, by go_num, HB7, HN⟩
      · have hlt' : ¬ (i : Int) < (kl : Int) := by omega
        have HQE : Hid (∀ r ∈ g.rules, gn ≤ 4 ∧ r.right.length ≤ 3) := by
          have := HQ.out
          rwa [List.take_of_length_le (by rw [HKL.out]; omega)] at this
        have HFE := Lib.hid (HFP.out HQE.out)
        obtain ⟨x0, x1, x2, x3⟩ := bx_cells4 (bx_keep X1.out HB5.out)
        clear HFP HQ HQE
        go_wp2_with fail
        refine (HLE2.out w6 HB5.out).mono ?_
        intro e w8 hpost
        obtain ⟨v8, rfl, hv8, hb8⟩ := HLP.out w6 e w8 hpost
        have HB8 : Hid (Below w0.heap.size w0 w8) := HB5.out.trans (hb8.mono HB5.out.size)
        obtain ⟨a8, c8, rfl⟩ := hv8.form
        obtain ⟨b8, o8, rfl, hx8⟩ := hv8.at (k := 0) (by rw [HLN.out]; omega)
        have HX8 : Hid (∀ k, k < 325 → w8.cell? ⟨b8, o8 + k, none⟩ = some (.bool (f k))) := fun k hk => by
          have hk2 : k < LL.length := by rw [HLN.out]; exact hk
          rw [hx8 k hk2, HAT3.out k hk2]
        obtain ⟨-, hl1, hl2⟩ := hv8.len
        rw [HLN.out] at hl1 ⊢
        clear hpost hv8 hb8 hx8 x0 x1 x2 x3
        go_wp2_with fail
        go_loopg [11, 64] 325 (fun gg v11 v64 wr => ∃ j : Nat, j ≤ 325 ∧ 325 - j ≤ gg ∧ v11 = .int .i64 (lastT f j) ∧ v64 = .int .i64 j ∧ wr = w8)
        case atStart => exact ⟨0, by omega, by omega, rfl, rfl, rfl⟩
        case round =>
          obtain ⟨j, hj, hg2, rfl, rfl, rfl⟩ := hrel
          by_cases hjl : j < 325
          · have hjl' : (j : Int) < 325 := by omega
            have hj0 : (0 : Int) ≤ (j : Int) := by omega
            have q0 := HX8.out j hjl
            have HST : Hid (lastT f (j + 1) = if f j then (j : Int) else lastT f j) := rfl
            obtain ⟨fj, HFJ⟩ := nameIt (f j)
            rw [HFJ.out] at q0 HST
            obtain ⟨l1, HL1⟩ := nameIt (lastT f (j + 1))
            rw [HL1.out] at HST
            cases fj with
            | true =>
              have hl1 : l1 = (j : Int) := HST.out
              go_wp2_with fail
              go_roundg (325 - (j + 1))
              case measure => omega
              case rel => exact ⟨j + 1, by omega, by omega, by rw [HL1.out, hl1], by go_num, rfl⟩
            | false =>
              have hl1 : l1 = lastT f j := HST.out
              go_wp2_with fail
              go_roundg (325 - (j + 1))
              case measure => omega
              case rel => exact ⟨j + 1, by omega, by omega, by rw [HL1.out, hl1], by go_num, rfl⟩
          · have hjl' : ¬ (j : Int) < 325 := by omega
            obtain rfl : j = 325 := by omega
            have hfe := HFE.out
            obtain ⟨z, HZ⟩ := nameIt (lastT f 325)
            rw [HZ.out] at hfe ⊢
            by_cases hb : 81 < z
            · rw [if_pos hb] at hfe
              subst hfe
              have hzz : ((-2 : Int) == -2) = true := by simp
              go_wp2_with fail
              exact HYES.out _ HB8.out
            · rw [if_neg hb] at hfe
              subst hfe
              have hzz : (z == z) = true := by simp
              go_wp2_with fail
              exact HYES.out _ HB8.out
end Gr
end Go.Proofs.Ytmbjnemahgfhcaa
