/- earley.Chart.Put, earley.Start. earley.Chart.Next. Which nonterminals derive others: two ways to reckon it, in plain Lean. Plain: what a census asks: which lengths lists of symbols can have; why counting ends. Plain: the edges of a census, the passes of its tables; why counting ends. Plain: all trees of a symbol with a length, in order; how many, and which has a number. Plain: which tree has a number: first the rule, then the lengths. A table of numbers in memory, that is being filled. Tables in memory whose rows were appended; the contracts of census.table. The contract of gram.Check. A census counter in memory; its readers: has, can, split. census.Counter.Of and List. census.Counter.Of. A table in memory: rows of one-cell values, made from the first to the last. -/
import Derived.Test.YtjpmebppdcclbaaJRepairPrefixRow10
import Derived.Test.YtjpmebppdcclbaaJRepairPrefixRow2
import Derived.Test.YtjpmebppdcclbaaJRepairPrefixRow1
import Derived.Deep.OwnRows
import Derived.Deep.LoopGhost
import Derived.Deep.DeepCutAuto
import Derived.Test.YtjpmebppdcclbaaJRepairPrefixRow7
import Derived.Test.YtjpmebppdcclbaaJRepairPrefixRow3
import Derived.Test.YtjpmebppdcclbaaJRepairPrefixRow4
import Derived.BigQuiet
import Derived.Deep.RegionHeld3
import Derived.StillTailTactics
import Derived.Lib.MinMax
namespace Go.Proofs.Ytjpmebppdcclbaa
open Go.RowKit
namespace Ea
open Rp Hl
open Ht hiding D
theorem fit_t {t : Int} (ht : 0 ≤ t) (s : Sym) : fitB s ⟨true, t⟩ = (s.term == true && s.n == t) := by
  rw [Bool.eq_iff_iff, Bool.and_eq_true, beq_iff_eq, beq_iff_eq]
  constructor
  · intro h; rw [fit_last ht h]; exact ⟨rfl, rfl⟩
  · rintro ⟨h1, h2⟩
    obtain ⟨a, b⟩ := s
    simp only at h1 h2
    subst h1 h2
    unfold fitB
    simp
def PutPost (B fb : Nat) (gt gn gs : Int) (ra : Option Addr) (rc : Nat) (K : List Rule) (O : Nat → Prop) (n : Nat) (L : Nat → List Itm) (s0 : List Itm) (Q : Itm → Prop) (W : World) (e : Ending) (w' : World) : Prop := e = .returned (.tuple #[]) ∧ ∃ O' c, FC B fb gt gn gs ra rc K O' (n + 1) (upL L n c) w' ∧ Stp O O' W w' ∧ CoI n (upL L n s0) Q c ∧ ∀ x ∈ c, Clo K n (upL L n c) x
set_option maxHeartbeats 16000000 in
set_option maxRecDepth 100000 in
theorem putE {B fb : Nat} {gt gn gs : Int} {ra : Option Addr} {rc : Nat} {K : List Rule} {O : Nat → Prop} {n : Nat} {L : Nat → List Itm} (W : World) (h : FC B fb gt gn gs ra rc K O n L W) (k : Nat) (hk : n = k + 1) (hn : n ≤ 50) (hL : L n = []) (t : Int) (ht : 0 ≤ t) (hkl : K.length ≤ 100) (hr4 : ∀ r ∈ K, r.right.length ≤ 4) (hLL : ∀ j, j ≤ k → (L j).length ≤ 50000) (hLr : ∀ j, j ≤ k → ∀ y ∈ L j, okI K j y) (Q : Itm → Prop) (hQ : QOk K n (upL L n (addF (scP K ⟨true, t⟩) [] (L k))) Q) :
    Calls Try.prog 84 #[.pointer (some ⟨fb, 0, none⟩), .int .i64 t] W (PutPost B fb gt gn gs ra rc K O n L (addF (scP K ⟨true, t⟩) [] (L k)) Q W) := by
  obtain ⟨cell, HCELL⟩ : ∃ cell : Sym, Hid (cell = ⟨true, t⟩) := ⟨_, rfl⟩
  rw [← HCELL.out] at hQ ⊢
  have hkn : k < n := by omega
  obtain ⟨sb, cap, av, cv, c4, hc1, hc2, c5, hv1, hv2, -, hrd⟩ := h.lens hkn
  obtain ⟨PST, HP⟩ := nameIt (PutPost B fb gt gn gs ra rc K O n L (addF (scP K cell) [] (L k)) Q W)
  have HFIN : Hid (∀ O' c w', FC B fb gt gn gs ra rc K O' (n + 1) (upL L n c) w' → Stp O O' W w' → CoI n (upL L n (addF (scP K cell) [] (L k))) Q c → (∀ x ∈ c, Clo K n (upL L n c) x) → PST (.returned (.tuple #[])) w') := by
    intro O' c w' h1 h2 h3 h4
    rw [← HP.out]
    exact ⟨rfl, O', c, h1, h2, h3, h4⟩
  rw [HP.out]
  have HF0 := Lib.hid h
  have HKK := Lib.hid hk
  have HQ := Lib.hid hQ
  have HLJ := Lib.hid hLL
  have HLR := Lib.hid hLr
  have HR4 := Lib.hid hr4
  have HKL := Lib.hid hkl
  have HLN := Lib.hid hL
  have HT0 := Lib.hid ht
  have hll := hLL k (Nat.le_refl _)
  have hkn' : (k : Int) < (n : Int) := by omega
  have hw1 : IntKind.i64.wrap ((n : Int) - 1) = (k : Int) := by rw [IntWalk.i64_in _ (by omega)]; omega
  have HC5 := Lib.hid c5
  have HC4 := Lib.hid c4
  obtain ⟨ol, HOL⟩ := nameIt (L k).length
  rw [HOL.out] at c5 hv1 hll
  unfold maxLen at hc2 hv2
  have i0 := aft_cell c4
  have i1 := aft_cell c5
  clear h hk hL hr4 hLL hLr hQ c4 c5 HP hrd hkl
  go_enter Try.func84, Try.ntmps84
  go_upto_region 0 with fail
  refine wp_region_after (by kernel_rfl) (by kernel_rfl) ?_
  repeat (go_big_quiet_step (fail))
  refine wpQuiet_nil ?_
  rintro w1 ⟨⟨_, hb1⟩, rfl⟩
  have hset := setE w1 (HF0.out.keep hb1) (by omega) HLN.out
  have HSET := Lib.hid hset
  have HB1 := Lib.hid hb1
  clear i0 i1 hb1 hset
  go_wp2_with fail
  refine HSET.out.mono ?_
  rintro e w3 ⟨rfl, O2, hf2, hs2, hfr⟩
  have HSP2 : Hid (Stp O O2 W w3) := (Stp.below HB1.out).trans hs2
  have HIR2 : Hid (Ho.IRow (fun q => ¬ O2 q) w3 av (L k)) := hfr k hkn sb cap av cv ((HB1.out.cell (lt_of_cell HC4.out)).trans HC4.out) ((HB1.out.cell (lt_of_cell HC5.out)).trans HC5.out)
  have HF2 := Lib.hid hf2
  have hLe : L = upL L n (addF (scP K cell) [] ((L k).take 0)) := by
    rw [List.take_zero]
    show L = upL L n []
    rw [← HLN.out, Ho.upL_self]
  rw [hLe] at HF2
  clear hf2 hs2 hfr hLe HSET
  go_wp2_with fail
  go_loopg [6, 7, 8, 25] ol (fun gg v6 v7 v8 v25 wr => ∃ (j : Nat) (O5 : Nat → Prop), j ≤ ol ∧ ol - j ≤ gg ∧ v25 = .int .i64 (j : Int) ∧ Hid (FC B fb gt gn gs ra rc K O5 (n + 1) (upL L n (addF (scP K cell) [] ((L k).take j))) wr) ∧ Hid (Stp O O5 W wr) ∧ Hid (Ho.IRow (fun q => ¬ O5 q) wr av (L k)))
  case atStart => exact ⟨0, O2, by omega, by omega, rfl, HF2, HSP2, HIR2⟩
  case round =>
    clear HF2 HSP2 HIR2
    obtain ⟨j, O5, hj, hgg, rfl, HFY, HSY, HIY⟩ := hrel
    obtain ⟨wy, rfl⟩ : ∃ ww : World, ww = wr := ⟨_, rfl⟩
    by_cases hjl : j < ol
    · have hjl' : (j : Int) < (ol : Int) := by omega
      have hjL : j < (L k).length := by rw [HOL.out]; exact hjl
      obtain ⟨g5, hae5, hOg5, hgl5, q0, q1, q2⟩ := HIY.out j hjL
      have hyk := HLR.out k (Nat.le_refl _) _ (List.getElem_mem hjL)
      have hyr := okI_lt hyk
      have HSMCJ : Hid (∀ z ∈ addF (scP K cell) [] ((L k).take j), smI z) := by
        intro z hz
        rcases mem_addF.1 hz with hz | ⟨y, hy, e⟩
        · cases hz
        · obtain ⟨s, h1, h2, rfl⟩ := scP_some.1 e
          have h4 := okI_sm HKL.out HR4.out (by have := HKK.out; omega) (HLR.out k (Nat.le_refl _) y (List.mem_of_mem_take hy))
          obtain ⟨r9, q1, q2⟩ := nxt_some.1 h1
          have q3 := HR4.out r9 (List.mem_of_getElem? q1)
          have q4 := d_lt q2
          exact ⟨h4.1, by show y.d + 1 ≤ 1000; omega, h4.2.2⟩
      have hsucc := addF_succ (P := scP K cell) (c := []) (ys := L k) (j := j) hjL
      have hcl5 : (addF (scP K cell) [] ((L k).take j)).length ≤ 100000 := by
        refine Nat.le_trans Ho.addF_len ?_
        rw [List.length_take, List.length_nil]; omega
      obtain ⟨y, HYN⟩ := nameIt ((L k)[j]'hjL)
      rw [HYN.out] at q0 q1 q2 hyr hsucc hyk
      obtain ⟨cj, HCJ⟩ := nameIt (addF (scP K cell) [] ((L k).take j))
      rw [HCJ.out] at hsucc hcl5 HFY HSMCJ
      obtain ⟨w6, HW6⟩ := nameIt (wy.alloc (.cells #[.int .i64 (y.r : Int), .int .i64 (y.d : Int), .int .i64 (y.f : Int)] 156))
      have hb6 : Below wy.heap.size wy w6 := by rw [← HW6.out]; exact (Below.refl _ _).alloc (Nat.le_refl _) _
      have X6 : Hid (w6.heap[wy.heap.size]? = some (.cells #[.int .i64 (y.r : Int), .int .i64 (y.d : Int), .int .i64 (y.f : Int)] 156 (0, 0))) := by rw [← HW6.out]; exact bx_new _ _ _ rfl
      have HNB6 : Hid (¬ O5 wy.heap.size) := FC.new HFY.out (Nat.le_refl _)
      have HF6 := Lib.hid (HFY.out.keep hb6)
      have HYSM : Hid (smI y) := okI_sm HKL.out HR4.out (by have := HKK.out; omega) hyk
      have HNX6 := Lib.hid (nextE w6 HF6.out y hyr (okI_dl hyk hyr))
      have HB6 := Lib.hid hb6
      have HSU := Lib.hid hsucc
      have HCL5 := Lib.hid hcl5
      obtain ⟨ns2, HNS2⟩ := nameIt (Ho.nxtV K y)
      have HNV2 : Hid ((nxt K y).isSome = true → nxt K y = some ns2) := by
        intro h
        rw [← HNS2.out]
        unfold Ho.nxtV
        obtain ⟨s, hs⟩ := Option.isSome_iff_exists.1 h
        rw [hs]; rfl
      have HNN2 : Hid ((nxt K y).isSome = false → nxt K y = none) := by
        intro h
        cases e : nxt K y with
        | none => rfl
        | some s => rw [e] at h; cases h
      obtain ⟨okb2, HOKB2⟩ := nameIt (nxt K y).isSome
      rw [HNS2.out, HOKB2.out] at HNX6
      rw [HOKB2.out] at HNV2 HNN2
      obtain ⟨⟨st2, sn2⟩, HNS3⟩ := nameIt ns2
      rw [HNS3.out] at HNX6 HNV2
      dsimp only at HNX6
      obtain ⟨yr, HYRN⟩ := nameIt y.r
      obtain ⟨yd, HYDN⟩ := nameIt y.d
      obtain ⟨yf, HYFN⟩ := nameIt y.f
      rw [HYRN.out] at q0 HW6 X6 HNX6
      rw [HYDN.out] at q1 HW6 X6 HNX6
      rw [HYFN.out] at q2 HW6 X6 HNX6
      obtain ⟨by6, HBY6⟩ := nameIt wy.heap.size
      rw [HBY6.out] at X6 HNB6
      subst hae5
      clear hb6 hyr hsucc hcl5 hOg5 hgl5 hyk
      go_upto_region 5 with fail
      rw [HW6.out, HBY6.out]
      clear HW6 q0 q1 q2
      obtain ⟨y0, y1, y2⟩ := bx_cells3 X6.out
      go_wp2_with fail
      refine HNX6.out.mono ?_
      rintro e w7 ⟨rfl, hb7⟩
      obtain ⟨w8, HW8⟩ := nameIt (w7.alloc (.cells #[.bool st2, .int .i64 sn2] 44))
      have hb8 : Below w7.heap.size w7 w8 := by rw [← HW8.out]; exact (Below.refl _ _).alloc (Nat.le_refl _) _
      have X8 : Hid (w8.heap[w7.heap.size]? = some (.cells #[.bool st2, .int .i64 sn2] 44 (0, 0))) := by rw [← HW8.out]; exact bx_new _ _ _ rfl
      have HB8 : Hid (Below wy.heap.size wy w8) := (HB6.out.trans (hb7.mono HB6.out.size)).trans (hb8.mono (HB6.out.trans (hb7.mono HB6.out.size)).size)
      have X68 := Lib.hid (bx_keep (bx_keep X6.out hb7) hb8)
      have HF8 := Lib.hid (HFY.out.keep HB8.out)
      obtain ⟨bs8, HBS8⟩ := nameIt w7.heap.size
      rw [HBS8.out] at X8
      clear hb7 hb8 y0 y1 y2
      go_upto_region 6 with fail
      rw [HW8.out, HBS8.out]
      clear HW8
      have hfit : Hid (okb2 = true → scP K cell y = if fitB ⟨st2, sn2⟩ cell then some ⟨yr, yd + 1, yf⟩ else none) := by
        intro h
        unfold scP
        rw [HNV2.out h, HYRN.out, HYDN.out, HYFN.out]
        rfl
      have hfno : Hid (okb2 = false → scP K cell y = none) := by
        intro h
        unfold scP
        rw [HNN2.out h]
        rfl
      have HSP8 : Hid (Stp O O5 W w8) := HSY.out.trans (Stp.below HB8.out)
      have HI8 := Lib.hid (HIY.out.below HB8.out)
      have hft := fit_t HT0.out ⟨st2, sn2⟩
      rw [← HCELL.out] at hft
      dsimp only at hft
      rw [hft] at hfit
      have he := symEq st2 true sn2 t
      obtain ⟨bq, HBQ⟩ := nameIt (st2 == true && sn2 == t)
      rw [HBQ.out] at he hfit
      obtain ⟨z0, z1⟩ := bx_cells2 X8.out
      have i0 := aft_cell z0
      have i1 := aft_cell z1
      have HGT : Hid (∀ W2, Below w8.heap.size w8 W2 → Calls Try.prog 51 #[.int .i64 t] W2 fun e w' => e = .returned (.agg #[.bool true, .int .i64 t]) ∧ Below W2.heap.size W2 w') := fun W2 _ => gramT t W2
      clear z0 z1 hft
      cases okb2 with
      | false =>
        refine wp_region_after (by kernel_rfl) (by kernel_rfl) ?_
        repeat (go_big_quiet_step (with_reducible exact Calls.after (HGT.out _ (Aft.bel _))))
        refine wpQuiet_nil ?_
        rintro w9 ⟨⟨_, hb9⟩, rfl⟩
        have HF9 := Lib.hid (HF8.out.keep hb9)
        have HSP9 : Hid (Stp O O5 W w9) := HSP8.out.trans (Stp.below hb9)
        have HI9 := Lib.hid (HI8.out.below hb9)
        have hC : addF (scP K cell) [] ((L k).take (j + 1)) = cj := by rw [HSU.out, hfno.out rfl]; rfl
        have HF10 : Hid (FC B fb gt gn gs ra rc K O5 (n + 1) (upL L n (addF (scP K cell) [] ((L k).take (j + 1)))) w9) := by rw [hC]; exact HF9.out
        clear hC hb9 i0 i1 he
        go_wp2_with fail
        go_roundg (ol - (j + 1))
        case measure => omega
        case rel => exact ⟨j + 1, O5, by omega, by omega, by go_num, HF10, HSP9, HI9⟩
      | true =>
        have hsc := hfit.out rfl
        have HSC := Lib.hid hsc
        refine wp_region_after (by kernel_rfl) (by kernel_rfl) ?_
        repeat (go_big_quiet_step (with_reducible exact Calls.after (HGT.out _ (Aft.bel _))))
        refine wpQuiet_nil ?_
        rintro w9 ⟨⟨_, hb9⟩, rfl⟩
        have HF9 := Lib.hid (HF8.out.keep hb9)
        have HSP9 : Hid (Stp O O5 W w9) := HSP8.out.trans (Stp.below hb9)
        have HI9 := Lib.hid (HI8.out.below hb9)
        have X69 := Lib.hid (bx_keep X68.out hb9)
        clear hb9 i0 i1 he hsc
        cases bq with
        | false =>
          have hC : addF (scP K cell) [] ((L k).take (j + 1)) = cj := by rw [HSU.out, HSC.out]; rfl
          have HF10 : Hid (FC B fb gt gn gs ra rc K O5 (n + 1) (upL L n (addF (scP K cell) [] ((L k).take (j + 1)))) w9) := by rw [hC]; exact HF9.out
          clear hC
          go_wp2_with fail
          go_roundg (ol - (j + 1))
          case measure => omega
          case rel => exact ⟨j + 1, O5, by omega, by omega, by go_num, HF10, HSP9, HI9⟩
        | true =>
          have hyd : yd < 4 := by
            obtain ⟨r9, h1, h2⟩ := nxt_some.1 (HNV2.out (by first | rfl | trivial))
            have h3 := HR4.out r9 (List.mem_of_getElem? h1)
            have h4 := d_lt h2
            rw [HYDN.out] at h4
            omega
          obtain ⟨yd1, HYD1⟩ := nameIt (yd + 1)
          have hwd : IntKind.i64.wrap ((yd : Int) + 1) = (yd1 : Int) := by have := HYD1.out; rw [IntWalk.i64_in _ (by omega)]; omega
          have hC : addF (scP K cell) [] ((L k).take (j + 1)) = addI cj ⟨yr, yd1, yf⟩ := by rw [HSU.out, HSC.out, HYD1.out]; rfl
          have hadd := addE w9 HF9.out n rfl (by omega) ⟨yr, yd1, yf⟩ (by rw [Ho.upL_at]; have := HCL5.out; omega) (by rw [Ho.upL_at]; exact HSMCJ.out) ⟨by have := HYSM.out.1; rw [HYRN.out] at this; exact this, by show yd1 ≤ 1000; have := HYD1.out; omega, by have := HYSM.out.2.2; rw [HYFN.out] at this; exact this⟩
          rw [Ho.upL_at, Ho.upL_up, ← hC] at hadd
          have HAD := Lib.hid hadd
          obtain ⟨y0, y1, y2⟩ := bx_cells3 X69.out
          clear hadd hC hyd
          go_wp2_with fail
          refine HAD.out.mono ?_
          rintro e wz ⟨rfl, O6, hf6, hs6⟩
          have HF10 := Lib.hid hf6
          have HSP10 : Hid (Stp O O6 W wz) := HSP9.out.trans hs6
          have HI10 : Hid (Ho.IRow (fun q => ¬ O6 q) wz (some ⟨g5, 0, none⟩) (L k)) := HI9.out.stp hs6
          clear hf6 hs6 y0 y1 y2
          go_wp2_with fail
          go_roundg (ol - (j + 1))
          case measure => omega
          case rel => exact ⟨j + 1, O6, by omega, by omega, by go_num, HF10, HSP10, HI10⟩
    · have hjl' : ¬ (j : Int) < (ol : Int) := by omega
      have htk : (L k).take j = L k := List.take_of_length_le (by rw [HOL.out]; omega)
      rw [htk] at HFY
      have hcm := completeF wy HFY.out n rfl (by omega) HKL.out HR4.out Q HQ.out (by rw [Ho.upL_at]; exact nodup_addF List.nodup_nil) (fun j hj => by unfold upL; rw [if_neg (by omega)]; exact HLJ.out j (by have := HKK.out; omega)) (fun j hj y hy => by unfold upL at hy; rw [if_neg (by omega)] at hy; exact HLR.out j (by have := HKK.out; omega) y hy)
      have HCM := Lib.hid hcm
      clear hcm htk
      go_wp2_with fail
      refine HCM.out.mono ?_
      rintro e w9 ⟨rfl, O9, c, h1, h2, h3, h4⟩
      rw [Ho.upL_up] at h1
      simp only [Ho.upL_up] at h4
      have HE := Lib.hid (HFIN.out O9 c w9 h1 (HSY.out.trans h2) h3 h4)
      clear h1 h2 h3 h4
      go_wp2_with fail
      first | exact HE.out | exact bodyPost_end (results_none Try.results84 _ _ _) rfl HE.out
def StartPost (B : Nat) (gt gn : Int) (st : Int) (ra : Option Addr) (rc : Nat) (K : List Rule) (lf : Sym → Nat → Prop) (W : World) (e : Ending) (w' : World) : Prop :=
  ∃ fb O L, e = .returned (.pointer (some ⟨fb, 0, none⟩)) ∧ FC B fb gt gn st ra rc K O 1 L w' ∧ NI K lf st 0 L ∧ Below W.heap.size W w' ∧ ∀ k, O k → W.heap.size ≤ k
set_option maxHeartbeats 16000000 in
set_option maxRecDepth 100000 in
theorem startE (B : Nat) (gt gn st : Int) (ra : Option Addr) (rc : Nat) (K : List Rule) (lf : Sym → Nat → Prop) (W : World) (hB : B ≤ W.heap.size) (hrd : Rd (fun k => k < B) W (.sl (K.map Rule.d)) [.slice ra K.length rc]) (hkl : K.length ≤ 100) (hr4 : ∀ r ∈ K, r.right.length ≤ 4) :
    Calls Try.prog 82 #[.agg #[.int .i64 gt, .int .i64 gn, .int .i64 st, .slice ra K.length rc]] W (StartPost B gt gn st ra rc K lf W) := by
  obtain ⟨w0, HW0⟩ := nameIt (W.alloc (.cells #[.int .i64 gt, .int .i64 gn, .int .i64 st, .slice ra K.length rc] 24))
  have hb0 : Below W.heap.size W w0 := by rw [← HW0.out]; exact (Below.refl _ _).alloc (Nat.le_refl _) _
  have X0 : Hid (w0.heap[W.heap.size]? = some (.cells #[.int .i64 gt, .int .i64 gn, .int .i64 st, .slice ra K.length rc] 24 (0, 0))) := by rw [← HW0.out]; exact bx_new _ _ _ rfl
  obtain ⟨w1, HW1⟩ := nameIt (w0.alloc (.cells #[.int .i64 gt, .int .i64 gn, .int .i64 st, .slice ra K.length rc, .slice none 0 0, .slice none 0 0] 153))
  have hb1 : Below w0.heap.size w0 w1 := by rw [← HW1.out]; exact (Below.refl _ _).alloc (Nat.le_refl _) _
  have X1 : Hid (w1.heap[w0.heap.size]? = some (.cells #[.int .i64 gt, .int .i64 gn, .int .i64 st, .slice ra K.length rc, .slice none 0 0, .slice none 0 0] 153 (0, 0))) := by rw [← HW1.out]; exact bx_new _ _ _ rfl
  have hs0 := hb0.size
  have HF1 : Hid (FC B w0.heap.size gt gn st ra rc K (fun k => k = w0.heap.size) 0 (fun _ => []) w1) := by
    refine ⟨.slice none 0 0, .slice none 0 0, fun _ => .slice none 0 0, [], w0.heap.size, [], ⟨World.ownsRow_nil _ _ _ _, fun k hk => by omega, fun k k' hk => by omega, World.ownsRow_nil _ _ _ _, fun k hk => by omega, by omega, X1.out, by omega, (hrd.below hb0).below hb1⟩, .inr rfl, fun k hk => by omega, fun k => ?_⟩
    constructor
    · intro h; exact .inl h
    · rintro (h | h | h | h | ⟨i, hi, h⟩)
      · exact h
      · cases h
      · cases h
      · exact h
      · cases h
  have HB0 := Lib.hid hb0
  have HB1 : Hid (Below W.heap.size W w1) := hb0.trans (hb1.mono hb0.size)
  have HS0 := Lib.hid hs0
  have HG0 := Lib.hid (bx_keep X0.out hb1)
  obtain ⟨PST, HP⟩ := nameIt (StartPost B gt gn st ra rc K lf W)
  have HFIN : Hid (∀ fb O L w', FC B fb gt gn st ra rc K O 1 L w' → NI K lf st 0 L → Below W.heap.size W w' → (∀ k, O k → W.heap.size ≤ k) → PST (.returned (.pointer (some ⟨fb, 0, none⟩))) w') := by
    intro fb O L w' h1 h2 h3 h4
    rw [← HP.out]
    exact ⟨fb, O, L, rfl, h1, h2, h3, h4⟩
  rw [HP.out]
  have HKL := Lib.hid hkl
  have HR4 := Lib.hid hr4
  obtain ⟨kn, HKN⟩ := nameIt K.length
  rw [HKN.out] at HW0 X0 HW1 X1 HG0
  rw [HKN.out]
  obtain ⟨x0, x1, x2, x3⟩ := bx_cells4 X0.out
  obtain ⟨fb, HFB⟩ := nameIt w0.heap.size
  rw [HFB.out] at HF1 X1
  have hfb : W.heap.size ≤ fb ∧ fb < w1.heap.size := ⟨by rw [← HFB.out]; exact hs0, bx_lt X1.out⟩
  have HFBL := Lib.hid hfb
  have hNG : ¬ (fun k => k = fb) W.heap.size := by
    have h1 : W.heap.size < w0.heap.size := bx_lt X0.out
    show ¬ W.heap.size = fb
    rw [← HFB.out]; omega
  have HNG := Lib.hid hNG
  clear hb0 hb1 hrd hkl hr4 hs0 HP hfb hNG
  go_enter Try.func82, Try.ntmps82
  go_upto_region 1 with fail
  rw [HW0.out]
  clear HW0
  go_upto_region 2 with fail
  rw [HW1.out, HFB.out]
  clear HW1 x0 x1 x2 x3
  have HSETC := Lib.hid (setE w1 HF1.out (by omega) rfl)
  go_wp2_with fail
  refine HSETC.out.mono ?_
  rintro e w2 ⟨rfl, O2, hf2, hs2, -⟩
  have HF2 := Lib.hid hf2
  have HS2 := Lib.hid hs2
  obtain ⟨hg2, hn2⟩ := hs2.box HG0.out HNG.out
  have HG2 := Lib.hid hg2
  have HN2 := Lib.hid hn2
  obtain ⟨x0, x1, x2, x3⟩ := bx_cells4 HG2.out
  clear hf2 hs2 hg2 hn2 HSETC
  go_wp2_with fail
  refine (gramN st w2).mono ?_
  rintro e w3 ⟨rfl, hb3⟩
  have HF3 := Lib.hid (HF2.out.keep hb3)
  have HS3 : Hid (Stp (fun k => k = fb) O2 w1 w3) := HS2.out.trans (Stp.below hb3)
  have HPR := Lib.hid (predictE w3 HF3.out 0 rfl (by omega) ⟨false, st⟩ HKL.out (by simp) (fun y hy => by cases hy))
  clear hb3 x0 x1 x2 x3
  go_wp2_with fail
  refine HPR.out.mono ?_
  rintro e w10 ⟨rfl, O10, hf10, hs10⟩
  have HF10 := Lib.hid hf10
  have HS10 : Hid (Stp (fun k => k = fb) O10 w1 w10) := HS3.out.trans hs10
  have HCM := Lib.hid (completeF w10 HF10.out 0 rfl (by omega) HKL.out HR4.out (fun x => Sd K lf st 0 x ∧ x.f ≤ 0) start_qok (by rw [Ho.upL_at]; exact nodup_addF List.nodup_nil) (fun j hj => by omega) (fun j hj => by omega))
  clear hf10 hs10 HPR
  go_wp2_with fail
  refine HCM.out.mono ?_
  rintro e w11 ⟨rfl, O11, c11, hf11, hs11, hc11, hcl11⟩
  rw [Ho.upL_up] at hf11
  simp only [Ho.upL_up] at hcl11
  have HS11 : Hid (Stp (fun k => k = fb) O11 w1 w11) := HS10.out.trans hs11
  have HE := Lib.hid (HFIN.out fb O11 _ w11 hf11 (ni_start hc11 hcl11) (HB1.out.trans (HS11.out.bel HB1.out.size (fun k hk => by have := HFBL.out.1; have h2 : k = fb := hk; omega))) (fun k hk => by
    rcases HS11.out.own k hk with h | h
    · have h2 : k = fb := h
      have := HFBL.out.1
      omega
    · have := HB1.out.size; omega))
  clear hf11 hs11 hc11 hcl11
  go_wp2_with fail
  first | exact HE.out | (go_ret; exact HE.out)
end Ea
end Go.Proofs.Ytjpmebppdcclbaa
namespace Go.Proofs.Ytjpmebppdcclbaa
open Go.RowKit
namespace Ea
open Rp Hl
open Ht hiding D
def bT (K : List Rule) (c : List Itm) (i t : Nat) : Bool := (c.take i).any fun x => decide (nxt K x = some ⟨true, (t : Int)⟩)
theorem bT_succ {K : List Rule} {c : List Itm} {i t : Nat} (hi : i < c.length) : bT K c (i + 1) t = (bT K c i t || decide (nxt K c[i] = some ⟨true, (t : Int)⟩)) := by
  unfold bT
  rw [List.take_succ_eq_append_getElem hi, List.any_append]
  simp
theorem bT_all {K : List Rule} {c : List Itm} {i t : Nat} (hi : c.length ≤ i) : bT K c i t = true ↔ ∃ x ∈ c, nxt K x = some ⟨true, (t : Int)⟩ := by
  unfold bT
  rw [List.take_of_length_le hi, List.any_eq_true]
  simp
def NxPost (K : List Rule) (c : List Itm) (tm : Nat) (W : World) (e : Ending) (w' : World) : Prop :=
  ∃ p, e = .returned (.slice (some ⟨p, 0, none⟩) tm tm) ∧ W.heap.size ≤ p ∧ Vrow 4 p tm (fun t => .bool (bT K c c.length t)) w' ∧ Below W.heap.size W w'
set_option maxHeartbeats 16000000 in
set_option maxRecDepth 100000 in
theorem nextsE {B fb tm N : Nat} {gn gs : Int} {ra : Option Addr} {rc : Nat} {K : List Rule} {O : Nat → Prop} {n : Nat} {L : Nat → List Itm} (wj : World) (h : FC B fb (tm : Int) gn gs ra rc K O n L wj) (j : Nat) (hj : n = j + 1) (hn : n ≤ 100) (htm8 : tm ≤ 8) (hr4 : ∀ r ∈ K, r.right.length ≤ 4) (hKS : ∀ r ∈ K, ∀ s ∈ r.right, Hl.okS N tm s) (hok : ∀ x ∈ L j, okI K j x) :
    Calls Try.prog 83 #[.pointer (some ⟨fb, 0, none⟩)] wj (NxPost K (L j) tm wj) := by
  obtain ⟨PST, HP⟩ := nameIt (NxPost K (L j) tm wj)
  have HFIN : Hid (∀ p w', wj.heap.size ≤ p → Vrow 4 p tm (fun t => .bool (bT K (L j) (L j).length t)) w' → Below wj.heap.size wj w' → PST (.returned (.slice (some ⟨p, 0, none⟩) tm tm)) w') := by
    intro p w' h1 h2 h3
    rw [← HP.out]
    exact ⟨p, rfl, h1, h2, h3⟩
  rw [HP.out]
  have hmk : ∀ W : World, (Instr.makeSlice 54 (.int .i64 (tm : Int)) (.int .i64 (tm : Int))).run Try.prog W = .ok (.slice (some ⟨W.heap.size, 0, none⟩) tm tm) (W.alloc (.cells (madeCells #[.bool false] tm) 4)) := fun W => by
    have := run_make_row' (P := Try.prog) 54 4 (.bool false) 1 Try.underlying54 (by kernel_rfl) rfl .i64 .i64 tm (by omega) (by omega) W
    simpa using this
  obtain ⟨w14, HW14⟩ := nameIt (wj.alloc (.cells (madeCells #[.bool false] tm) 4))
  have hb14 : Below wj.heap.size wj w14 := by rw [← HW14.out]; exact (Below.refl _ _).alloc (Nat.le_refl _) _
  have hjn : j < n := by omega
  obtain ⟨sb, scap, ia, im, c4, hc1, hc2, c5, him1, him2, hir, hird⟩ := h.lens hjn
  unfold maxLen at him2 hc2
  have HF := Lib.hid h
  have HKS := Lib.hid hKS
  have HOK := Lib.hid hok
  obtain ⟨LJ, HLJ⟩ := nameIt (L j)
  rw [HLJ.out] at c5 hir him1 HFIN HOK
  obtain ⟨ln, HLN⟩ := nameIt LJ.length
  rw [HLN.out] at c5 him1 HFIN
  have HR14 : Hid (Vrow 4 wj.heap.size tm (fun t => .bool (bT K LJ 0 t)) w14) := by
    rw [← HW14.out]
    exact (vrow_new wj 4 (.bool false) tm rfl).eq (fun k _ => by simp [bT])
  have HIR := Lib.hid hir
  have x0 := h.terms
  have hc4 : w14.cell? ⟨fb, 0 + 5, none⟩ = some (.slice (some ⟨sb, 0, none⟩) n scap) := (hb14.cell (lt_of_cell c4)).trans c4
  have hc5 : w14.cell? ⟨sb, j, none⟩ = some (.slice ia ln im) := (hb14.cell (lt_of_cell c5)).trans c5
  have HB14 := Lib.hid hb14
  have hw1 : IntKind.i64.wrap ((n : Int) - 1) = (j : Int) := by rw [IntWalk.i64_in _ (by omega)]; omega
  have hjj : (j : Int) < (n : Int) := by omega
  obtain ⟨p, HPN⟩ := nameIt wj.heap.size
  rw [HPN.out] at HR14 HB14 HFIN
  clear hb14 hir hird c4 c5 hKS hok h HP hj
  go_enter Try.func83, Try.ntmps83
  go_upto_region 2 with fail
  rw [HW14.out, HPN.out]
  clear HW14 x0
  have i0 := aft_cell hc4
  have i1 := aft_cell hc5
  clear hc4 hc5
  refine wp_region_after (by kernel_rfl) (by kernel_rfl) ?_
  repeat (go_big_quiet_step (fail))
  refine wpQuiet_nil ?_
  rintro w15 ⟨⟨_, hb15⟩, rfl⟩
  have HR15 := Lib.hid (HR14.out.keep hb15)
  have hp14 : p < w14.heap.size := HR14.out.lt
  have HB15 : Hid (Below p wj w15) := HB14.out.trans (hb15.mono (Nat.le_of_lt hp14))
  clear hb15 i0 i1 HR14 HB14
  go_wp2_with fail
  go_loopg [5, 6, 7, 27] ln (fun gg v5 v6 v7 v27 wr => ∃ i : Nat, i ≤ ln ∧ ln - i ≤ gg ∧ v27 = .int .i64 (i : Int) ∧ Hid (Below p wj wr) ∧ Hid (Vrow 4 p tm (fun t => .bool (bT K LJ i t)) wr))
  case atStart => exact ⟨0, by omega, by omega, rfl, HB15, HR15⟩
  case round =>
    clear HR15 HB15 hw1 hmk
    obtain ⟨i, hi, hg2, rfl, HBI, HRI⟩ := hrel
    obtain ⟨wi, rfl⟩ : ∃ ww : World, ww = wr := ⟨_, rfl⟩
    have HBI2 : Hid (Below wj.heap.size wj wi) := by rw [HPN.out]; exact HBI.out
    by_cases hil : i < ln
    · have hil' : (i : Int) < (ln : Int) := by omega
      have hiL : i < LJ.length := by rw [HLN.out]; exact hil
      obtain ⟨gi, hae, -, hgl, s0, s1, s2⟩ := HIR.out.below HBI2.out i hiL
      have hbs := fun t => bT_succ (K := K) (t := t) hiL
      have hxk := HOK.out _ (List.getElem_mem hiL)
      obtain ⟨x, HX⟩ := nameIt (LJ[i]'hiL)
      rw [HX.out] at s0 s1 s2 hxk
      simp only [HX.out] at hbs
      have hxr := okI_lt hxk
      have HBSU := Lib.hid hbs
      obtain ⟨xr, HXR⟩ := nameIt x.r
      obtain ⟨xd, HXD⟩ := nameIt x.d
      obtain ⟨xf, HXF⟩ := nameIt x.f
      obtain ⟨w16, HW15⟩ := nameIt (wi.alloc (.cells #[.int .i64 (xr : Int), .int .i64 (xd : Int), .int .i64 (xf : Int)] 156))
      have hb15 : Below wi.heap.size wi w16 := by rw [← HW15.out]; exact (Below.refl _ _).alloc (Nat.le_refl _) _
      have X15 : Hid (w16.heap[wi.heap.size]? = some (.cells #[.int .i64 (xr : Int), .int .i64 (xd : Int), .int .i64 (xf : Int)] 156 (0, 0))) := by rw [← HW15.out]; exact bx_new _ _ _ rfl
      have HB15 : Hid (Below wj.heap.size wj w16) := HBI2.out.trans (hb15.mono HBI2.out.size)
      have HR15 := Lib.hid (HRI.out.keep hb15)
      have hnx := nextE w16 (HF.out.keep HB15.out) x hxr (okI_dl hxk hxr)
      have hnok : Hid ((nxt K x).isSome = true → (Ho.nxtV K x).term = true → ∃ t : Nat, (Ho.nxtV K x).n = (t : Int) ∧ t < tm ∧ nxt K x = some ⟨true, (t : Int)⟩) := by
        intro h1 h2
        obtain ⟨s, hs⟩ := Option.isSome_iff_exists.1 h1
        have e : Ho.nxtV K x = s := by unfold Ho.nxtV; rw [hs]; rfl
        rw [e] at h2 ⊢
        obtain ⟨r, q1, q2⟩ := nxt_some.1 hs
        obtain ⟨q3, q4, -⟩ := HKS.out r (List.mem_of_getElem? q1) s (List.mem_of_getElem? q2)
        have q5 := q4 h2
        refine ⟨s.n.toNat, by omega, by omega, ?_⟩
        rw [hs]
        obtain ⟨a, b⟩ := s
        simp only at h2 q3 ⊢
        rw [h2, show ((b.toNat : Nat) : Int) = b by omega]
      have hnno : Hid (((nxt K x).isSome && (Ho.nxtV K x).term) = false → ∀ t : Nat, bT K LJ (i + 1) t = bT K LJ i t) := by
        intro h1 t
        rw [HBSU.out t]
        have : decide (nxt K x = some ⟨true, (t : Int)⟩) = false := by
          rw [decide_eq_false_iff_not]
          intro e
          unfold Ho.nxtV at h1
          rw [e] at h1
          cases h1
        rw [this, Bool.or_false]
      obtain ⟨okb, HOKB⟩ := nameIt (nxt K x).isSome
      obtain ⟨ns, HNSN⟩ := nameIt (Ho.nxtV K x)
      obtain ⟨nt, HNT⟩ := nameIt ns.term
      obtain ⟨nn, HNNN⟩ := nameIt ns.n
      rw [HOKB.out, HNSN.out, HNT.out, HNNN.out, HXR.out, HXD.out, HXF.out] at hnx
      rw [HOKB.out, HNSN.out, HNT.out, HNNN.out] at hnok
      rw [HOKB.out, HNSN.out, HNT.out] at hnno
      rw [HXR.out] at s0
      rw [HXD.out] at s1
      rw [HXF.out] at s2
      have HNX := Lib.hid hnx
      obtain ⟨q15, HQ15⟩ := nameIt wi.heap.size
      rw [HQ15.out] at X15
      subst hae
      clear hb15 hnx hbs hxr hxk
      go_upto_region 5 with fail
      rw [HW15.out, HQ15.out]
      clear HW15 s0 s1 s2
      obtain ⟨y0, y1, y2⟩ := bx_cells3 X15.out
      go_wp2_with fail
      refine HNX.out.mono ?_
      rintro e w17 ⟨rfl, hb16⟩
      have HB16 : Hid (Below wj.heap.size wj w17) := HB15.out.trans (hb16.mono HB15.out.size)
      have HR16 := Lib.hid (HR15.out.keep hb16)
      obtain ⟨w18, HW17⟩ := nameIt (w17.alloc (.cells #[.bool nt, .int .i64 nn] 44))
      have hb17 : Below w17.heap.size w17 w18 := by rw [← HW17.out]; exact (Below.refl _ _).alloc (Nat.le_refl _) _
      have X17 : Hid (w18.heap[w17.heap.size]? = some (.cells #[.bool nt, .int .i64 nn] 44 (0, 0))) := by rw [← HW17.out]; exact bx_new _ _ _ rfl
      have HB17 : Hid (Below wj.heap.size wj w18) := HB16.out.trans (hb17.mono HB16.out.size)
      have HR17 := Lib.hid (HR16.out.keep hb17)
      obtain ⟨q17, HQ17⟩ := nameIt w17.heap.size
      rw [HQ17.out] at X17
      clear hb16 hb17 y0 y1 y2 HNX
      go_upto_region 6 with fail
      rw [HW17.out, HQ17.out]
      clear HW17
      obtain ⟨y0, y1⟩ := bx_cells2 X17.out
      have HB18 : Hid (Below p wj w18) := by rw [← HPN.out]; exact HB17.out
      by_cases hb : (okb && nt) = true
      · rw [Bool.and_eq_true] at hb
        obtain ⟨hb1, hb2⟩ := hb
        subst hb1 hb2
        obtain ⟨t, rfl, htt, ht2⟩ := hnok.out rfl rfl
        have htt' : (t : Int) < (tm : Int) := by omega
        have hcell := HR17.out.cell htt
        have hfree := HR17.out.free t
        have HR18 : Hid (Vrow 4 p tm (fun t => .bool (bT K LJ (i + 1) t)) (w18.setCell ⟨p, t, none⟩ (.bool true))) := by
          refine HR17.out.set htt (fun k hk => ?_)
          rw [HBSU.out k]
          by_cases e : k = t
          · subst e
            rw [if_pos rfl, decide_eq_true ht2, Bool.or_true]
          · rw [if_neg e]
            have : decide (nxt K x = some ⟨true, (k : Int)⟩) = false := by
              rw [decide_eq_false_iff_not, ht2]
              intro e2
              simp at e2
              omega
            rw [this, Bool.or_false]
        have HB19 : Hid (Below p wj (w18.setCell ⟨p, t, none⟩ (.bool true))) := HB18.out.setCell (p := ⟨p, t, none⟩) (Nat.le_refl _) _
        clear hnok hnno
        go_wp2_with fail
        go_roundg (ln - (i + 1))
        case measure => omega
        case rel => exact ⟨i + 1, by omega, by omega, by go_num, HB19, HR18⟩
      · have hb' : (okb && nt) = false := by simpa using hb
        have HEQ := hnno.out hb'
        have HR18 : Hid (Vrow 4 p tm (fun t => .bool (bT K LJ (i + 1) t)) w18) := HR17.out.eq (fun k hk => by rw [HEQ k])
        clear hnok hnno HEQ hb
        cases okb with
        | false =>
          go_wp2_with fail
          go_roundg (ln - (i + 1))
          case measure => omega
          case rel => exact ⟨i + 1, by omega, by omega, by go_num, HB18, HR18⟩
        | true =>
          cases nt with
          | true => cases hb'
          | false =>
            go_wp2_with fail
            go_roundg (ln - (i + 1))
            case measure => omega
            case rel => exact ⟨i + 1, by omega, by omega, by go_num, HB18, HR18⟩
    · have hil' : ¬ (i : Int) < (ln : Int) := by omega
      obtain rfl : i = ln := by omega
      have HE := Lib.hid (HFIN.out p wi (Nat.le_refl _) HRI.out HBI.out)
      go_wp2_with fail
      first | exact HE.out | (go_ret; exact HE.out)
end Ea
end Go.Proofs.Ytjpmebppdcclbaa
namespace Go.Proofs.Ytjpmebppdcclbaa
open Go.RowKit
inductive Pth (E : List (Nat × Nat)) : Nat → Nat → Prop
  | one {i j : Nat} : (i, j) ∈ E → Pth E i j
  | cons {i j k : Nat} : (i, j) ∈ E → Pth E j k → Pth E i k
theorem Pth.trans {E : List (Nat × Nat)} {i j k : Nat} (h : Pth E i j) (h2 : Pth E j k) : Pth E i k := by
  induction h with
  | one h => exact .cons h h2
  | cons h _ ih => exact .cons h (ih h2)
theorem Pth.snoc {E : List (Nat × Nat)} {i j k : Nat} (h : Pth E i j) (h2 : (j, k) ∈ E) : Pth E i k := h.trans (.one h2)
def fw (E : List (Nat × Nat)) : Nat → Nat → Nat → Bool
  | 0, i, j => decide ((i, j) ∈ E)
  | k + 1, i, j => fw E k i j || (fw E k i k && fw E k k j)
def stp (U : Nat → Bool) (e : Nat × Nat) : Nat → Bool := if U e.1 then (fun x => x == e.2 || U x) else U
def cnt (N : Nat) (U : Nat → Bool) : Nat := ((List.range N).filter U).length
theorem filter_lt {l : List Nat} {U V : Nat → Bool} (h : ∀ x ∈ l, U x = true → V x = true) : (l.filter U).length ≤ (l.filter V).length ∧ (∀ x ∈ l, V x = true → U x = false → (l.filter U).length < (l.filter V).length) := by
  induction l with
  | nil => simp
  | cons a l ih =>
    obtain ⟨h1, h2⟩ := ih fun x hx => h x (List.mem_cons_of_mem _ hx)
    have ha := h a List.mem_cons_self
    simp only [List.filter_cons]
    constructor
    · cases hu : U a <;> cases hv : V a <;> simp_all <;> omega
    · intro x hx hv hu
      rcases List.mem_cons.1 hx with rfl | hx
      · rw [hu, hv]; simp; omega
      · have := h2 x hx hv hu
        cases hu' : U a <;> cases hv' : V a <;> simp_all <;> omega
end Go.Proofs.Ytjpmebppdcclbaa
namespace Go.Proofs.Ytjpmebppdcclbaa
open Go.RowKit
namespace Cs
def hasK (S : Nat → Nat → Bool) (s : Sym) (k : Nat) : Bool := if s.term then decide (k = 1) else S s.n.toNat k
def canK (S : Nat → Nat → Bool) : List Sym → Nat → Bool
  | [], k => decide (k = 0)
  | s :: l, k => (List.range (k + 1)).any fun i => hasK S s i && canK S l (k - i)
def splitK (S : Nat → Nat → Bool) (a b : List Sym) (k : Nat) : Bool := (List.range (k + 1)).any fun i => canK S a i && canK S b (k - i)
theorem canK_cons {S : Nat → Nat → Bool} {s : Sym} {l : List Sym} {k : Nat} : canK S (s :: l) k = true ↔ ∃ i, i ≤ k ∧ hasK S s i = true ∧ canK S l (k - i) = true := by
  rw [canK, List.any_eq_true]
  constructor
  · rintro ⟨i, hi, h⟩
    rw [Bool.and_eq_true] at h
    exact ⟨i, by have := List.mem_range.1 hi; omega, h⟩
  · rintro ⟨i, hi, h1, h2⟩
    exact ⟨i, List.mem_range.2 (by omega), by rw [h1, h2]; rfl⟩
def Fine (S : Nat → Nat → Bool) (G : Nat → Nat → Prop) (l : List Sym) (k : Nat) : Prop :=
  ∀ (p : Nat) (s : Sym) (i a : Nat), l[p]? = some s → s.term = false → S s.n.toNat i = true → a + i ≤ k → canK S (l.take p) a = true → canK S (l.drop (p + 1)) (k - a - i) = true → G s.n.toNat i
theorem Fine.tail {S : Nat → Nat → Bool} {G : Nat → Nat → Prop} {s : Sym} {l : List Sym} {k i : Nat} (h : Fine S G (s :: l) k) (hi : i ≤ k) (h1 : hasK S s i = true) : Fine S G l (k - i) := by
  intro p s' j a hp ht hS ha h2 h3
  refine h (p + 1) s' j (i + a) hp ht hS (by omega) ?_ ?_
  · rw [List.take_succ_cons, canK_cons]
    exact ⟨i, by omega, h1, by rw [Nat.add_sub_cancel_left]; exact h2⟩
  · rw [List.drop_succ_cons]
    have : k - (i + a) - j = k - i - a - j := by omega
    rw [this]; exact h3
def reachN (T : Nat → Nat → Bool) (size u : Nat) : Nat := ((List.range size).filter fun v => T u v).length
def edg (size : Nat) (F : Nat → Nat → Bool) : List (Nat × Nat) := (List.range size).flatMap fun i => ((List.range size).filter fun j => F i j).map fun j => (i, j)
def clo (size : Nat) (F : Nat → Nat → Bool) (i j : Nat) : Bool := fw (edg size F) size i j
def manyK (T : Nat → Nat → Bool) (jm u : Nat) : Bool := (List.range jm).any fun j => (u == j || T u j) && T j j
def listStep (cap : Int) (sum o l : Int) : Int := min (IntKind.i64.wrap (sum + IntKind.i64.wrap (o * l))) cap
def listV (S : Nat → Nat → Bool) (cap : Int) (o : Sym → Nat → Int) : List Sym → Nat → Int
  | [], k => if k = 0 then 1 else 0
  | s :: l, k => (List.range (k + 1)).foldl (fun sum i => if (hasK S s i && canK S l (k - i)) = true then listStep cap sum (o s i) (listV S cap o l (k - i)) else sum) 0
def symV (S : Nat → Nat → Bool) (f : Nat → Nat → Int) (s : Sym) (k : Nat) : Int := if hasK S s k = false then 0 else if s.term then 1 else f s.n.toNat k
def ofF (rules : List Rule) (S M : Nat → Nat → Bool) (cap many : Int) : Nat → Nat → Nat → Int
  | 0, _, _ => 0
  | f + 1, A, k => if S A k = false then 0 else if M A k then many else rules.foldl (fun sum r => if r.left = (A : Int) then min (IntKind.i64.wrap (sum + listV S cap (symV S (ofF rules S M cap many f)) r.right k)) cap else sum) 0
def okK (T M : Nat → Nat → Bool) (n size f A k : Nat) : Prop := M A k = true ∨ reachN T size (A * (n + 1) + k) < f
section
variable {rules : List Rule} {S M T : Nat → Nat → Bool} {N n size : Nat} {cap many : Int}
theorem okK.mono {f f' A k : Nat} (h : okK T M n size f A k) (hf : f ≤ f') : okK T M n size f' A k := h.imp id fun h => by omega
def valK (rules : List Rule) (S M : Nat → Nat → Bool) (cap many : Int) (size : Nat) (A k : Nat) : Int := ofF rules S M cap many (size + 2) A k
end
end Cs
end Go.Proofs.Ytjpmebppdcclbaa
namespace Go.Proofs.Ytjpmebppdcclbaa
open Go.RowKit
namespace Cs
def updB (F : Nat → Nat → Bool) (a b : Nat) : Nat → Nat → Bool := fun k l => if k = a ∧ l = b then true else F k l
def e1 (S : Nat → Nat → Bool) (n : Nat) (r : Rule) (k i : Nat) (F : Nat → Nat → Bool) (j : Nat) : Nat → Nat → Bool :=
  if (S ((r.right.getD i ⟨true, 0⟩).n.toNat) j && splitK S (r.right.take i) (r.right.drop (i + 1)) (k - j)) = true then updB F (r.left.toNat * (n + 1) + k) ((r.right.getD i ⟨true, 0⟩).n.toNat * (n + 1) + j) else F
def e2 (S : Nat → Nat → Bool) (n : Nat) (r : Rule) (k i : Nat) (F : Nat → Nat → Bool) (jm : Nat) : Nat → Nat → Bool := (List.range jm).foldl (e1 S n r k i) F
def e3 (S : Nat → Nat → Bool) (n : Nat) (r : Rule) (k : Nat) (F : Nat → Nat → Bool) (im : Nat) : Nat → Nat → Bool := (List.range im).foldl (fun F i => if (r.right.getD i ⟨true, 0⟩).term then F else e2 S n r k i F (k + 1)) F
def e4 (S : Nat → Nat → Bool) (n : Nat) (r : Rule) (F : Nat → Nat → Bool) (km : Nat) : Nat → Nat → Bool := (List.range km).foldl (fun F k => e3 S n r k F r.right.length) F
def e5 (S : Nat → Nat → Bool) (n : Nat) (l : List Rule) : Nat → Nat → Bool := l.foldl (fun F r => e4 S n r F (n + 1)) (fun _ _ => false)
section
variable {S : Nat → Nat → Bool} {n : Nat} {u v : Nat}
end
def sizeK (N n : Nat) : Nat := N * (n + 1)
def clK (rules : List Rule) (S : Nat → Nat → Bool) (N n : Nat) : Nat → Nat → Bool := clo (sizeK N n) (e5 S n rules)
def MK (rules : List Rule) (S : Nat → Nat → Bool) (N n : Nat) : Nat → Nat → Bool := fun A k => manyK (clK rules S N n) (sizeK N n) (A * (n + 1) + k)
def p1 (r : Rule) (st : (Nat → Nat → Bool) × Bool) (k : Nat) : (Nat → Nat → Bool) × Bool := if (!st.1 r.left.toNat k && canK st.1 r.right k) = true then (updB st.1 r.left.toNat k, true) else st
def p2 (n : Nat) (st : (Nat → Nat → Bool) × Bool) (r : Rule) : (Nat → Nat → Bool) × Bool := (List.range (n + 1)).foldl (p1 r) st
def p3 (n : Nat) (l : List Rule) (S : Nat → Nat → Bool) : (Nat → Nat → Bool) × Bool := l.foldl (p2 n) (S, false)
end Cs
end Go.Proofs.Ytjpmebppdcclbaa
namespace Go.Proofs.Ytjpmebppdcclbaa
open Go.RowKit
namespace Cs
def enL (S : Nat → Nat → Bool) (o : Sym → Nat → List Tree) : List Sym → Nat → List (List Tree)
  | [], k => if k = 0 then [[]] else []
  | s :: l, k => (List.range (k + 1)).flatMap fun i => if (hasK S s i && canK S l (k - i)) = true then (o s i).flatMap fun x => (enL S o l (k - i)).map (x :: ·) else []
def symE (S : Nat → Nat → Bool) (e : Nat → Nat → List Tree) (s : Sym) (k : Nat) : List Tree := if hasK S s k = false then [] else if s.term then [.node (-1) s.n []] else e s.n.toNat k
def enR (S : Nat → Nat → Bool) (o : Sym → Nat → List Tree) (A : Int) (k : Nat) : List Rule → Nat → List Tree
  | [], _ => []
  | r :: rs, j => (if r.left = A then (enL S o r.right k).map fun ks => Tree.node (j : Int) 0 ks else []) ++ enR S o A k rs (j + 1)
def enF (rules : List Rule) (S : Nat → Nat → Bool) : Nat → Nat → Nat → List Tree
  | 0, _, _ => []
  | f + 1, A, k => if S A k = false then [] else enR S (symE S (enF rules S f)) (A : Int) k rules 0
def Gd (M T : Nat → Nat → Bool) (N n size f A k : Nat) : Prop := A < N ∧ k ≤ n ∧ M A k = false ∧ reachN T size (A * (n + 1) + k) < f
theorem Fine.mono {S : Nat → Nat → Bool} {G G' : Nat → Nat → Prop} {l : List Sym} {k : Nat} (h : Fine S G l k) (hg : ∀ A i, G A i → G' A i) : Fine S G' l k := fun p s i a h1 h2 h3 h4 h5 h6 => hg _ _ (h p s i a h1 h2 h3 h4 h5 h6)
section
variable {rules : List Rule} {S M T : Nat → Nat → Bool} {N n size : Nat} {cap many : Int}
theorem Gd.mono {f f' A k : Nat} (h : Gd M T N n size f A k) (hf : f ≤ f') : Gd M T N n size f' A k := ⟨h.1, h.2.1, h.2.2.1, Nat.lt_of_lt_of_le h.2.2.2 hf⟩
def EN (rules : List Rule) (S : Nat → Nat → Bool) (size : Nat) : Nat → Nat → List Tree := enF rules S (size + 2)
end
def prodL (xs : List Tree) (ys : List (List Tree)) : List (List Tree) := xs.flatMap fun x => ys.map (x :: ·)
def blk (S : Nat → Nat → Bool) (o : Sym → Nat → List Tree) (s : Sym) (l : List Sym) (k i : Nat) : List (List Tree) := if (hasK S s i && canK S l (k - i)) = true then prodL (o s i) (enL S o l (k - i)) else []
def pre (S : Nat → Nat → Bool) (o : Sym → Nat → List Tree) (s : Sym) (l : List Sym) (k m : Nat) : List (List Tree) := (List.range m).flatMap (blk S o s l k)
section
variable {rules : List Rule} {S M T : Nat → Nat → Bool} {N n size : Nat} {cap many : Int}
end
end Cs
end Go.Proofs.Ytjpmebppdcclbaa
namespace Go.Proofs.Ytjpmebppdcclbaa
open Go.RowKit
namespace Cs
section
variable {rules : List Rule} {S M T : Nat → Nat → Bool} {N n size : Nat} {cap many : Int}
end
end Cs
end Go.Proofs.Ytjpmebppdcclbaa
namespace Go.Proofs.Ytjpmebppdcclbaa
open Go.RowKit
theorem made_at (z : Value) (n j : Nat) (h : j < n) : (madeCells #[z] n)[j]? = some z := by
  simp [madeCells, h, Nat.mod_one]
structure Tab (B bt n m : Nat) (rb : Nat → Nat) (lo : Nat) (val : Nat → Nat → Int) (wr : World) : Prop where
  tb : ∃ cs, wr.heap[bt]? = some (.cells cs 25 (0, 0)) ∧ cs.size = n + 1 ∧ ∀ k, lo ≤ k → k ≤ n → cs[k]? = some (.slice (some ⟨rb k, 0, none⟩) (m + 1) (m + 1))
  row : ∀ k, lo ≤ k → k ≤ n → ∃ cs, wr.heap[rb k]? = some (.cells cs 3 (0, 0)) ∧ cs.size = m + 1 ∧ ∀ j, j ≤ m → cs[j]? = some (.int .i64 (val k j))
  inj : ∀ k k', lo ≤ k → k ≤ n → lo ≤ k' → k' ≤ n → rb k = rb k' → k = k'
  ne : ∀ k, lo ≤ k → k ≤ n → rb k ≠ bt ∧ B ≤ rb k
  bB : B ≤ bt
section
variable {B bt n m : Nat} {rb : Nat → Nat} {lo : Nat} {val : Nat → Nat → Int} {wr w' : World}
theorem Tab.keep (h : Tab B bt n m rb lo val wr) (hb : Below wr.heap.size wr w') : Tab B bt n m rb lo val w' := by
  obtain ⟨⟨cs, h1, h2, h3⟩, h4, h5, h6, h7⟩ := h
  refine ⟨⟨cs, bx_keep h1 hb, h2, h3⟩, fun k hk hn => ?_, h5, h6, h7⟩
  obtain ⟨rs, r1, r2⟩ := h4 k hk hn
  exact ⟨rs, bx_keep r1 hb, r2⟩
theorem Tab.grown {row : Option Nat} (h : Tab B bt n m rb lo val wr) (hg : wr.grownBy w' row) (hr : ∀ k, row = some k → k ≠ bt ∧ ∀ i, lo ≤ i → i ≤ n → rb i ≠ k) : Tab B bt n m rb lo val w' := by
  obtain ⟨⟨cs, h1, h2, h3⟩, h4, h5, h6, h7⟩ := h
  refine ⟨⟨cs, ?_, h2, h3⟩, fun k hk hn => ?_, h5, h6, h7⟩
  · rw [hg.block bt (Array.getElem?_eq_some_iff.1 h1).1 (fun e => (hr bt e.symm).1 rfl)]; exact h1
  · obtain ⟨rs, r1, r2⟩ := h4 k hk hn
    refine ⟨rs, ?_, r2⟩
    rw [hg.block (rb k) (Array.getElem?_eq_some_iff.1 r1).1 (fun e => (hr _ e.symm).2 k hk hn rfl)]; exact r1
theorem Tab.cell (h : Tab B bt n m rb lo val wr) {k j : Nat} (hk : lo ≤ k) (hn : k ≤ n) (hj : j ≤ m) : wr.cell? ⟨rb k, j, none⟩ = some (.int .i64 (val k j)) := by
  obtain ⟨cs, h1, h2, h3⟩ := h.row k hk hn
  simp [World.cell?, h1, h3 j hj]
theorem Tab.free (h : Tab B bt n m rb lo val wr) {k : Nat} (hk : lo ≤ k) (hn : k ≤ n) (j : Nat) : wr.frozen? ⟨rb k, j, none⟩ = false := by
  obtain ⟨cs, h1, h2, h3⟩ := h.row k hk hn
  simp [World.frozen?, h1]
theorem Tab.lt (h : Tab B bt n m rb lo val wr) : bt < wr.heap.size := by
  obtain ⟨cs, h1, _⟩ := h.tb
  exact (Array.getElem?_eq_some_iff.1 h1).1
theorem Tab.rlt (h : Tab B bt n m rb lo val wr) {k : Nat} (hk : lo ≤ k) (hn : k ≤ n) : rb k < wr.heap.size := by
  obtain ⟨cs, h1, _⟩ := h.row k hk hn
  exact (Array.getElem?_eq_some_iff.1 h1).1
theorem Tab.set (h : Tab B bt n m rb lo val wr) {i j : Nat} (hi : lo ≤ i) (hin : i ≤ n) (hj : j ≤ m) (x : Int) : Tab B bt n m rb lo (fun k l => if k = i ∧ l = j then x else val k l) (wr.setCell ⟨rb i, j, none⟩ (.int .i64 x)) := by
  obtain ⟨⟨cs, h1, h2, h3⟩, h4, h5, h6, h7⟩ := h
  refine ⟨⟨cs, bx_other h1 (fun e => (h6 i hi hin).1 e.symm) _ _, h2, h3⟩, fun k hk hn => ?_, h5, h6, h7⟩
  obtain ⟨rs, r1, r2, r3⟩ := h4 k hk hn
  by_cases e : k = i
  · subst e
    refine ⟨rs.setIfInBounds j (.int .i64 x), bx_set r1 _ _, by simpa using r2, fun l hl => ?_⟩
    rw [Array.getElem?_setIfInBounds]
    by_cases e2 : j = l
    · subst e2
      rw [if_pos rfl, if_pos (by omega)]; simp
    · rw [if_neg e2, r3 l hl]
      simp [show ¬ l = j from fun h => e2 h.symm]
  · refine ⟨rs, bx_other r1 (fun e2 => e (h5 k i hk hn hi hin e2)) _ _, r2, fun l hl => ?_⟩
    rw [r3 l hl]; simp [e]
theorem Tab.add {i : Nat} (h : Tab B bt n m rb (i + 1) val wr) (hi : i ≤ n) (hB : B ≤ wr.heap.size) :
    Tab B bt n m (fun k => if k = i then wr.heap.size else rb k) i (fun k l => if k = i then 0 else val k l) ((wr.alloc (.cells (madeCells #[.int .i64 0] (m + 1)) 3)).setCell ⟨bt, i, none⟩ (.slice (some ⟨wr.heap.size, 0, none⟩) (m + 1) (m + 1))) := by
  have hbt := h.lt
  have hrl := fun k hk hn => h.rlt (k := k) hk hn
  obtain ⟨⟨cs, h1, h2, h3⟩, h4, h5, h6, h7⟩ := h
  have hba : Below wr.heap.size wr (wr.alloc (.cells (madeCells #[.int .i64 0] (m + 1)) 3)) := (Below.refl _ _).alloc (Nat.le_refl _) _
  refine ⟨⟨cs.setIfInBounds i (.slice (some ⟨wr.heap.size, 0, none⟩) (m + 1) (m + 1)), bx_set (bx_keep h1 hba) _ _, by simpa using h2, fun k hk hn => ?_⟩, fun k hk hn => ?_, fun k k' hk hn hk' hn' e => ?_, fun k hk hn => ?_, h7⟩
  · rw [Array.getElem?_setIfInBounds]
    by_cases e : i = k
    · subst e
      rw [if_pos rfl, if_pos (by omega)]; simp
    · rw [if_neg e, h3 k (by omega) hn]
      simp [show ¬ k = i from fun h => e h.symm]
  · by_cases e : k = i
    · subst e
      refine ⟨madeCells #[.int .i64 0] (m + 1), ?_, size_madeCells _ _, fun j hj => ?_⟩
      · simp only [if_true]
        exact bx_other (bx_new _ _ _ rfl) (by omega) _ _
      · rw [made_at _ _ _ (by omega)]; simp
    · obtain ⟨rs, r1, r2, r3⟩ := h4 k (by omega) hn
      refine ⟨rs, ?_, r2, fun j hj => by rw [r3 j hj]; simp [e]⟩
      simp only [e, if_false]
      exact bx_other (bx_keep r1 hba) (h6 k (by omega) hn).1 _ _
  · by_cases e1 : k = i <;> by_cases e2 : k' = i <;> simp only [e1, e2, if_true, if_false] at e ⊢
    · have := hrl k' (by omega) hn'; omega
    · have := hrl k (by omega) hn; omega
    · exact h5 k k' (by omega) hn (by omega) hn' e
  · by_cases e : k = i
    · subst e; simp only [if_true]; omega
    · simp only [e, if_false]; exact h6 k (by omega) hn
theorem Tab.eq {val' : Nat → Nat → Int} (h : Tab B bt n m rb lo val wr) (he : ∀ k j, lo ≤ k → k ≤ n → j ≤ m → val k j = val' k j) : Tab B bt n m rb lo val' wr := by
  obtain ⟨h1, h4, h5, h6, h7⟩ := h
  refine ⟨h1, fun k hk hn => ?_, h5, h6, h7⟩
  obtain ⟨rs, r1, r2, r3⟩ := h4 k hk hn
  exact ⟨rs, r1, r2, fun j hj => by rw [r3 j hj, he k j hk hn hj]⟩
end
end Go.Proofs.Ytjpmebppdcclbaa
namespace Go.Proofs.Ytjpmebppdcclbaa
open Go.RowKit
namespace Cs
structure Tb (te : TypeId) (lo hi bt N M : Nat) (rb : Nat → Nat) (val : Nat → Nat → Value) (W : World) : Prop where
  hdr : ∃ cs T, W.heap[bt]? = some (.cells cs T (0, 0)) ∧ ∀ a, a < N → cs[a]? = some (.slice (some ⟨rb a, 0, none⟩) M M)
  row : ∀ a, a < N → ∃ cs, W.heap[rb a]? = some (.cells cs te (0, 0)) ∧ cs.size = M ∧ ∀ k, k < M → cs[k]? = some (val a k)
  inj : ∀ a b, a < N → b < N → rb a = rb b → a = b
  ne : ∀ a, a < N → rb a ≠ bt ∧ lo ≤ rb a ∧ rb a < hi
  pl : lo ≤ bt ∧ bt < hi
section
variable {te : TypeId} {lo hi bt N M : Nat} {rb : Nat → Nat} {val : Nat → Nat → Value} {W W' : World}
theorem Tb.other (h : Tb te lo hi bt N M rb val W) (hs : ∀ k, lo ≤ k → k < hi → W'.heap[k]? = W.heap[k]?) : Tb te lo hi bt N M rb val W' := by
  obtain ⟨⟨cs, T, h1, h2⟩, h3, h4, h5, h6⟩ := h
  refine ⟨⟨cs, T, by rw [hs bt h6.1 h6.2]; exact h1, h2⟩, fun a ha => ?_, h4, h5, h6⟩
  obtain ⟨rs, r1, r2⟩ := h3 a ha
  exact ⟨rs, by rw [hs _ (h5 a ha).2.1 (h5 a ha).2.2]; exact r1, r2⟩
theorem Tb.keep (h : Tb te lo hi bt N M rb val W) (hh : hi ≤ W.heap.size) (hb : Below W.heap.size W W') : Tb te lo hi bt N M rb val W' := h.other fun k _ h2 => hb.block k (by omega)
theorem Tb.cell (h : Tb te lo hi bt N M rb val W) {a k : Nat} (ha : a < N) (hk : k < M) : W.cell? ⟨rb a, k, none⟩ = some (val a k) := by
  obtain ⟨cs, h1, h2, h3⟩ := h.row a ha
  simp [World.cell?, h1, h3 k hk]
theorem Tb.free (h : Tb te lo hi bt N M rb val W) {a : Nat} (ha : a < N) (k : Nat) : W.frozen? ⟨rb a, k, none⟩ = false := by
  obtain ⟨cs, h1, h2, h3⟩ := h.row a ha
  simp [World.frozen?, h1]
theorem Tb.set (h : Tb te lo hi bt N M rb val W) {a k : Nat} (ha : a < N) (hk : k < M) (x : Value) : Tb te lo hi bt N M rb (fun b l => if b = a ∧ l = k then x else val b l) (W.setCell ⟨rb a, k, none⟩ x) := by
  obtain ⟨⟨cs, T, h1, h2⟩, h3, h4, h5, h6⟩ := h
  refine ⟨⟨cs, T, bx_other h1 (fun e => (h5 a ha).1 e.symm) _ _, h2⟩, fun b hb => ?_, h4, h5, h6⟩
  obtain ⟨rs, r1, r2, r3⟩ := h3 b hb
  by_cases e : b = a
  · subst e
    refine ⟨rs.setIfInBounds k x, bx_set r1 _ _, by simpa using r2, fun l hl => ?_⟩
    rw [Array.getElem?_setIfInBounds]
    by_cases e2 : k = l
    · subst e2
      rw [if_pos rfl, if_pos (by omega)]; simp
    · rw [if_neg e2, r3 l hl]
      simp [show ¬ l = k from fun h => e2 h.symm]
  · refine ⟨rs, bx_other r1 (fun e2 => e (h4 b a hb ha e2)) _ _, r2, fun l hl => ?_⟩
    rw [r3 l hl]; simp [e]
theorem Tb.eq {val' : Nat → Nat → Value} (h : Tb te lo hi bt N M rb val W) (he : ∀ a k, a < N → k < M → val a k = val' a k) : Tb te lo hi bt N M rb val' W := by
  obtain ⟨h1, h3, h4, h5, h6⟩ := h
  refine ⟨h1, fun a ha => ?_, h4, h5, h6⟩
  obtain ⟨rs, r1, r2, r3⟩ := h3 a ha
  exact ⟨rs, r1, r2, fun k hk => by rw [r3 k hk, he a k ha hk]⟩
end
structure TbI (te tr : TypeId) (B M : Nat) (x : Value) (L : List Nat) (v : Value) (W : World) : Prop where
  own : W.ownsRow B tr 1 v L.length (L.map fun b => .slice (some ⟨b, 0, none⟩) M M)
  rows : ∀ b ∈ L, B ≤ b ∧ b < W.heap.size ∧ v.ownBlock ≠ some b ∧ ∃ cs, W.heap[b]? = some (.cells cs te (0, 0)) ∧ cs.size = M ∧ ∀ k, k < M → cs[k]? = some x
  nd : L.Nodup
  le : B ≤ W.heap.size
section
variable {te tr : TypeId} {B M : Nat} {x : Value} {L : List Nat} {v : Value} {W W' : World}
theorem TbI.nil (te tr : TypeId) (B M : Nat) (x : Value) (W : World) (h : B ≤ W.heap.size) : TbI te tr B M x [] (.slice none 0 0) W := ⟨World.ownsRow_nil _ _ _ _, (fun b hb => by cases hb), List.nodup_nil, h⟩
theorem TbI.keep (h : TbI te tr B M x L v W) (hb : Below W.heap.size W W') : TbI te tr B M x L v W' := by
  obtain ⟨h1, h2, h3, h4⟩ := h
  refine ⟨own_keep h1 hb, fun b hb' => ?_, h3, Nat.le_trans h4 hb.size⟩
  obtain ⟨k1, k2, k3, cs, k4, k5⟩ := h2 b hb'
  exact ⟨k1, Nat.lt_of_lt_of_le k2 hb.size, k3, cs, bx_keep k4 hb, k5⟩
theorem TbI.add {g : Nat} {v' : Value} {cs : Array Value} (h : TbI te tr B M x L v W) (hg : W.heap[g]? = some (.cells cs te (0, 0))) (hc : cs.size = M) (hx : ∀ k, k < M → cs[k]? = some x) (hgB : B ≤ g) (hgv : v.ownBlock ≠ some g) (hgL : g ∉ L)
    (ho : W'.ownsRow B tr 1 v' (L.length + 1) ((L.map fun b => .slice (some ⟨b, 0, none⟩) M M) ++ [.slice (some ⟨g, 0, none⟩) M M])) (hgr : W.grownBy W' v.ownBlock) (hat : v'.ownBlock = v.ownBlock ∨ ∃ k, v'.ownBlock = some k ∧ W.heap.size ≤ k) : TbI te tr B M x (L ++ [g]) v' W' := by
  obtain ⟨h1, h2, h3, h4⟩ := h
  have hv' : ∀ b, b < W.heap.size → v.ownBlock ≠ some b → v'.ownBlock ≠ some b := by
    intro b hb hv
    rcases hat with e | ⟨j, e, hj⟩
    · rw [e]; exact hv
    · rw [e]; intro e; cases e; omega
  have hgl := (Array.getElem?_eq_some_iff.1 hg).1
  refine ⟨by rw [List.length_append, List.map_append]; exact ho, fun b hb => ?_, ?_, Nat.le_trans h4 hgr.size⟩
  · rcases List.mem_append.1 hb with hb | hb
    · obtain ⟨k1, k2, k3, cs', k4, k5⟩ := h2 b hb
      exact ⟨k1, Nat.lt_of_lt_of_le k2 hgr.size, hv' b k2 k3, cs', (hgr.block b k2 (fun e => k3 e.symm)).trans k4, k5⟩
    · rw [List.mem_singleton] at hb
      subst hb
      exact ⟨hgB, Nat.lt_of_lt_of_le hgl hgr.size, hv' b hgl hgv, cs, (hgr.block b hgl (fun e => hgv e.symm)).trans hg, hc, hx⟩
  · rw [List.nodup_append]
    exact ⟨h3, by simp, fun a ha b hb => by rw [List.mem_singleton] at hb; subst hb; exact fun e => hgL (e ▸ ha)⟩
end
end Cs
end Go.Proofs.Ytjpmebppdcclbaa
namespace Go.Proofs.Ytjpmebppdcclbaa
open Go.RowKit
theorem cells4 {W w' : World} (hb : Below W.heap.size W w') {b1 b2 : Nat} {T : TypeId} {a0 a1 c0 c1 : Value} (h1 : W.heap[b1]? = some (.cells #[a0, a1] T (0, 0))) (h2 : W.heap[b2]? = some (.cells #[c0, c1] T (0, 0))) :
    w'.cell? ⟨b1, 0, none⟩ = some a0 ∧ w'.cell? ⟨b1, 0 + 1, none⟩ = some a1 ∧ w'.cell? ⟨b2, 0, none⟩ = some c0 ∧ w'.cell? ⟨b2, 0 + 1, none⟩ = some c1 := by
  obtain ⟨x1, x2⟩ := bx_cells2 (bx_keep h1 hb)
  obtain ⟨x4, x5⟩ := bx_cells2 (bx_keep h2 hb)
  exact ⟨x1, x2, x4, x5⟩
set_option maxHeartbeats 1000000 in
set_option maxRecDepth 100000 in
theorem compareR (x y : Rule) (a a' : Option Addr) (c c' : Nat) (w : World) (hx : Rd AnyB w (.sl (x.right.map Sym.d)) [.slice a x.right.length c]) (hy : Rd AnyB w (.sl (y.right.map Sym.d)) [.slice a' y.right.length c']) :
    Calls Try.prog 37 #[.agg #[.int .i64 x.left, .slice a x.right.length c], .agg #[.int .i64 y.left, .slice a' y.right.length c']] w fun e w' => e = .returned (.int .i64 (cmpR x y)) ∧ Below w.heap.size w w' := by
  obtain ⟨lx, HLX⟩ := nameIt x.left
  obtain ⟨ly, HLY⟩ := nameIt y.left
  obtain ⟨nx, HNX⟩ := nameIt x.right.length
  obtain ⟨ny, HNY⟩ := nameIt y.right.length
  obtain ⟨w0, HW0⟩ := nameIt ((w.alloc (.cells #[.int .i64 lx, .slice a nx c] 69)).alloc (.cells #[.int .i64 ly, .slice a' ny c'] 69))
  have HB : Hid (Below w.heap.size w w0) := by rw [← HW0.out]; exact ((Below.refl _ _).alloc (Nat.le_refl _) _).alloc (by simp) _
  have X1 : Hid (w0.heap[w.heap.size]? = some (.cells #[.int .i64 lx, .slice a nx c] 69 (0, 0))) := by
    rw [← HW0.out]; exact bx_keep (bx_new _ _ _ rfl) ((Below.refl _ _).alloc (Nat.le_refl _) _)
  have X2 : Hid (w0.heap[w.heap.size + 1]? = some (.cells #[.int .i64 ly, .slice a' ny c'] 69 (0, 0))) := by
    rw [← HW0.out]; exact bx_new _ _ _ (by simp)
  obtain ⟨q1, HQ1⟩ := nameIt (cmp3 lx ly)
  obtain ⟨q2, HQ2⟩ := nameIt (cmpS x.right y.right)
  have C1 := Lib.hid (fun W => compareInt lx ly W)
  have C2 := Lib.hid (fun W (hb : Below w0.heap.size w0 W) => compareSyms a a' c c' x.right y.right W ((hx.below HB.out).below hb) ((hy.below HB.out).below hb))
  rw [HQ1.out] at C1
  rw [HQ2.out, HNX.out, HNY.out] at C2
  have HR : Hid (cmpR x y = orL [q1, q2]) := by show _ = _; unfold cmpR; rw [HLX.out, HLY.out, HQ1.out, HQ2.out]
  rw [HLX.out, HLY.out, HNX.out, HNY.out]
  obtain ⟨x0, x1⟩ := bx_cells2 X1.out
  obtain ⟨y0, y1⟩ := bx_cells2 X2.out
  clear hx hy
  go_enter Try.func37, Try.ntmps37
  go_wp2_with fail
  rw [HW0.out]
  go_region_held3 (fun w' => w'.cell? ⟨w.heap.size, 0, none⟩ = some (.int .i64 lx) ∧ w'.cell? ⟨w.heap.size, 0 + 1, none⟩ = some (.slice a nx c) ∧ w'.cell? ⟨w.heap.size + 1, 0, none⟩ = some (.int .i64 ly) ∧ w'.cell? ⟨w.heap.size + 1, 0 + 1, none⟩ = some (.slice a' ny c'))
    (first | exact cells4 (Below.refl _ _).drew X1.out X2.out | exact cells4 (HB2.out.alloc HB2.out.size _) X1.out X2.out | exact cells4 HB2.out X1.out X2.out | fail)
    (first
      | (go_at_call 71; (with_reducible refine (C1.out _).mono ?_); rintro e w' ⟨rfl, rfl⟩)
      | (go_at_call 75; (with_reducible refine (C2.out _ (Below.refl _ _).drew).mono ?_); rintro e w2 ⟨rfl, hb2⟩; have HB2 : Hid (Below w0.heap.size w0 w2) := (Below.refl _ _).drew.trans hb2; clear hb2)
      | (go_at_call 70; (with_reducible refine (orInt _ [q1, q2] _ (sl_lit (v := #[.int .i64 q1, .int .i64 q2]) rfl (of_decide_eq_true rfl))).mono ?_); rintro e w' ⟨rfl, rfl⟩)
      | fail)
  go_wp2_with fail
  go_ret
  have hB := HB.out.trans (HB2.out.mono HB.out.size)
  exact ⟨by rw [HR.out]; rfl, hB.alloc hB.size _⟩
set_option maxHeartbeats 1000000 in
set_option maxRecDepth 100000 in
theorem hasE (g : Gram) (a : Option Addr) (n c : Nat) (s : Sym) (w : World) :
    Calls Try.prog 34 #[.agg #[.int .i64 g.terms, .int .i64 g.nons, .int .i64 g.start, .slice a n c], .agg #[.bool s.term, .int .i64 s.n]] w fun e w' => e = .returned (.bool (hasS g s)) ∧ Below w.heap.size w w' := by
  obtain ⟨gt, HGT⟩ := nameIt g.terms
  obtain ⟨gn, HGN⟩ := nameIt g.nons
  obtain ⟨gs, HGS⟩ := nameIt g.start
  obtain ⟨st, HST⟩ := nameIt s.term
  obtain ⟨sn, HSN⟩ := nameIt s.n
  obtain ⟨B, HBn⟩ := nameIt (hasS g s)
  have HV : Hid ((decide (0 ≤ sn) && (st && decide (sn < gt) || !st && decide (sn < gn))) = B) := by show _ = _; rw [← HBn.out]; unfold hasS; rw [HGT.out, HGN.out, HST.out, HSN.out]
  rw [HGT.out, HGN.out, HGS.out, HST.out, HSN.out, HBn.out]
  by_cases h0 : 0 ≤ sn
  · have b0 : decide (0 ≤ sn) = true := by simpa using h0
    cases st with
    | true =>
      by_cases h1 : sn < gt
      · have b1 : decide (sn < gt) = true := by simpa using h1
        obtain rfl : B = true := by rw [← HV.out]; simp [h0, h1]
        clear h0 h1
        go_enter Try.func34, Try.ntmps34
        go_wp2_with fail
        go_ret
        exact ⟨rfl, ((Below.refl _ _).alloc (Nat.le_refl _) _).alloc (by simp) _⟩
      · have b1 : decide (sn < gt) = false := by simpa using h1
        obtain rfl : B = false := by rw [← HV.out]; simp [h0, h1]
        clear h0 h1
        go_enter Try.func34, Try.ntmps34
        go_wp2_with fail
        go_ret
        exact ⟨rfl, ((Below.refl _ _).alloc (Nat.le_refl _) _).alloc (by simp) _⟩
    | false =>
      by_cases h1 : sn < gn
      · have b1 : decide (sn < gn) = true := by simpa using h1
        obtain rfl : B = true := by rw [← HV.out]; simp [h0, h1]
        clear h0 h1
        go_enter Try.func34, Try.ntmps34
        go_wp2_with fail
        go_ret
        exact ⟨rfl, ((Below.refl _ _).alloc (Nat.le_refl _) _).alloc (by simp) _⟩
      · have b1 : decide (sn < gn) = false := by simpa using h1
        obtain rfl : B = false := by rw [← HV.out]; simp [h0, h1]
        clear h0 h1
        go_enter Try.func34, Try.ntmps34
        go_wp2_with fail
        go_ret
        exact ⟨rfl, ((Below.refl _ _).alloc (Nat.le_refl _) _).alloc (by simp) _⟩
  · have b0 : decide (0 ≤ sn) = false := by simpa using h0
    obtain rfl : B = false := by rw [← HV.out]; simp [h0]
    clear h0
    go_enter Try.func34, Try.ntmps34
    go_wp2_with fail
    go_ret
    exact ⟨rfl, ((Below.refl _ _).alloc (Nat.le_refl _) _).alloc (by simp) _⟩
set_option maxHeartbeats 1000000 in
theorem hasF (g : Gram) (b : Nat) (a : Option Addr) (n c : Nat) (l : List Sym) (w : World) (hx : w.heap[b]? = some (.cells #[.int .i64 g.terms, .int .i64 g.nons, .int .i64 g.start, .slice a n c] 24 (0, 0))) :
    PredSym 33 #[.pointer (some ⟨b, 0, none⟩)] l (fun s => !hasS g s) w := by
  intro W s _ hb
  have hc := hasE g a n c s
  have hx' := bx_keep hx hb
  obtain ⟨gt, HGT⟩ := nameIt g.terms
  obtain ⟨gn, HGN⟩ := nameIt g.nons
  obtain ⟨gs, HGS⟩ := nameIt g.start
  obtain ⟨st, HST⟩ := nameIt s.term
  obtain ⟨sn, HSN⟩ := nameIt s.n
  obtain ⟨B, HBn⟩ := nameIt (hasS g s)
  rw [HGT.out, HGN.out, HGS.out] at hx'
  rw [HGT.out, HGN.out, HGS.out, HST.out, HSN.out, HBn.out] at hc
  dsimp only
  rw [HST.out, HSN.out, HBn.out]
  obtain ⟨x0, x1, x2, x3⟩ := bx_cells4 hx'
  have hlt := (Array.getElem?_eq_some_iff.1 hx').1
  have HC := Lib.hid hc
  clear hc hx hb hx'
  show Calls _ _ #[_, _] _ _
  go_enter Try.func33, Try.ntmps33
  go_wp2_with fail
  refine (HC.out _).mono ?_
  rintro e w1 ⟨rfl, hb1⟩
  have hB := (Below.refl W.heap.size W).alloc (Nat.le_refl _) (.cells #[.bool st, .int .i64 sn] 44)
  have HB1 := Lib.hid (hB.trans (hb1.mono hB.size))
  clear hb1 hB x0 x1 x2 x3
  cases B
  all_goals
    go_wp2_with fail
    go_ret
    exact ⟨rfl, HB1.out⟩
set_option maxHeartbeats 1000000 in
theorem sameRF (r : Rule) (b : Nat) (ar : Option Addr) (cr : Nat) (l : List Rule) (w : World) (hx : w.heap[b]? = some (.cells #[.int .i64 r.left, .slice ar r.right.length cr] 69 (0, 0))) (hr : Rd AnyB w (.sl (r.right.map Sym.d)) [.slice ar r.right.length cr]) :
    PredRule 36 #[.pointer (some ⟨b, 0, none⟩)] l (fun x => cmpR x r == 0) w := by
  intro W x v _ hb hv
  obtain ⟨av, cv, rfl, -, -⟩ := hv.form
  rw [List.length_map] at hv ⊢
  have hx' := bx_keep hx hb
  have hc := fun W' (h : Below W.heap.size W W') => compareR x r av ar cv cr W' (hv.below h) ((hr.below hb).below h)
  obtain ⟨lx, HLX⟩ := nameIt x.left
  obtain ⟨nx, HNX⟩ := nameIt x.right.length
  obtain ⟨lr, HLR⟩ := nameIt r.left
  obtain ⟨nr, HNR⟩ := nameIt r.right.length
  obtain ⟨q, HQ⟩ := nameIt (cmpR x r)
  rw [HLX.out, HNX.out, HLR.out, HNR.out, HQ.out] at hc
  rw [HLR.out, HNR.out] at hx'
  dsimp only
  rw [HLX.out, HNX.out, HQ.out]
  obtain ⟨x0, x1⟩ := bx_cells2 hx'
  have hlt := (Array.getElem?_eq_some_iff.1 hx').1
  have HC := Lib.hid hc
  clear hc hx hb hx' hv hr
  show Calls _ _ #[_, _] _ _
  go_enter Try.func36, Try.ntmps36
  go_wp2_with fail
  refine (HC.out _ ((Below.refl _ _).alloc (Nat.le_refl _) _)).mono ?_
  rintro e w1 ⟨rfl, hb1⟩
  have hB := (Below.refl W.heap.size W).alloc (Nat.le_refl _) (.cells #[.int .i64 lx, .slice av nx cv] 69)
  have HB1 := Lib.hid (hB.trans (hb1.mono hB.size))
  clear hb1 hB x0 x1
  go_wp2_with fail
  go_ret
  exact ⟨rfl, HB1.out⟩
theorem Rd.start {S : Nat → Prop} {w : World} {ds : List D} {a : Option Addr} {n cap i : Nat} (h : Rd S w (.sl ds) [.slice a n cap]) (hi : i ≤ ds.length) : Rd S w (.sl (ds.take i)) [.slice a i cap] := by
  obtain ⟨a', cap', L, e, h1, h2, h3, h4, h5⟩ := h
  simp at e
  obtain ⟨rfl, rfl, rfl⟩ := e
  rw [← List.take_append_drop i ds] at h5
  obtain ⟨c1, c2, rfl, h6, h7⟩ := h5.split
  refine ⟨a, cap, c1, by simp; omega, by simp; omega, h2, h3, fun j hj => ?_, h6⟩
  have := h4 j (by simp; omega)
  rwa [List.getElem_append_left hj] at this
theorem badHead_cases {g : Gram} (h : badHead g = true) : (decide (g.terms < 1) = true) ∨ (decide (g.terms < 1) = false ∧ decide (8 < g.terms) = true) ∨ (decide (g.terms < 1) = false ∧ decide (8 < g.terms) = false ∧ decide (g.nons < 1) = true) ∨ (decide (g.terms < 1) = false ∧ decide (8 < g.terms) = false ∧ decide (g.nons < 1) = false ∧ decide (10 < g.nons) = true) ∨
    (decide (g.terms < 1) = false ∧ decide (8 < g.terms) = false ∧ decide (g.nons < 1) = false ∧ decide (10 < g.nons) = false ∧ decide (g.start < 0) = true) ∨ (decide (g.terms < 1) = false ∧ decide (8 < g.terms) = false ∧ decide (g.nons < 1) = false ∧ decide (10 < g.nons) = false ∧ decide (g.start < 0) = false ∧ decide (g.nons ≤ g.start) = true) := by
  simp [badHead] at h ⊢
  omega
theorem goodHead {g : Gram} (h : ¬ badHead g = true) : decide (g.terms < 1) = false ∧ decide (8 < g.terms) = false ∧ decide (g.nons < 1) = false ∧ decide (10 < g.nons) = false ∧ decide (g.start < 0) = false ∧ decide (g.nons ≤ g.start) = false := by
  simp [badHead] at h ⊢
  omega
set_option maxHeartbeats 4000000 in
set_option maxRecDepth 100000 in
theorem checkE (g : Gram) (ar : Option Addr) (cr : Nat) (w : World) (hr : Rd AnyB w (.sl (g.rules.map Rule.d)) [.slice ar g.rules.length cr]) :
    Calls Try.prog 10 #[.agg #[.int .i64 g.terms, .int .i64 g.nons, .int .i64 g.start, .slice ar g.rules.length cr]] w fun e w' => e = .returned (.int .i64 (checkG g)) ∧ Below w.heap.size w w' := by
  have hbs := hr.bounds.2
  unfold maxLen at hbs
  obtain ⟨hc1, hc2⟩ := hbs
  obtain ⟨gt, HGT⟩ := nameIt g.terms
  obtain ⟨gn, HGN⟩ := nameIt g.nons
  obtain ⟨gs, HGS⟩ := nameIt g.start
  obtain ⟨K, HK⟩ := nameIt g.rules
  have HBC := Lib.hid (@badHead_cases g)
  have HGH := Lib.hid (@goodHead g)
  rw [HGT.out, HGN.out, HGS.out] at HBC HGH
  obtain ⟨w0, HW0⟩ := nameIt (w.alloc (.cells #[.int .i64 gt, .int .i64 gn, .int .i64 gs, .slice ar K.length cr] 24))
  have HB0 : Hid (Below w.heap.size w w0) := by rw [← HW0.out]; exact (Below.refl _ _).alloc (Nat.le_refl _) _
  have X1 : Hid (w0.heap[w.heap.size]? = some (.cells #[.int .i64 gt, .int .i64 gn, .int .i64 gs, .slice ar K.length cr] 24 (0, 0))) := by rw [← HW0.out]; exact bx_new _ _ _ rfl
  have HR := Lib.hid (hr.below HB0.out)
  rw [HK.out] at HR hc1
  rw [HGT.out, HGN.out, HGS.out, HK.out]
  obtain ⟨x0, x1, x2, x3⟩ := bx_cells4 X1.out
  clear hr
  by_cases hbad : badHead g = true
  · have HE : Hid (checkG g = 1) := by show _ = _; simp [checkG, hbad]
    rcases HBC.out hbad with h1 | ⟨h1, h2⟩ | ⟨h1, h2, h3⟩ | ⟨h1, h2, h3, h4⟩ | ⟨h1, h2, h3, h4, h5⟩ | ⟨h1, h2, h3, h4, h5, h6⟩
    all_goals
      clear hbad
      go_enter Try.func10, Try.ntmps10
      go_upto_region 1 with fail
      rw [HW0.out]
      go_wp2_with fail
      go_ret
      exact ⟨by rw [HE.out]; rfl, HB0.out⟩
  · obtain ⟨h1, h2, h3, h4, h5, h6⟩ := HGH.out hbad
    have HBD := Lib.hid hbad
    clear hbad
    by_cases hlen : 32 < K.length
    · have HE : Hid (checkG g = 2) := by show _ = _; rw [checkG, if_neg HBD.out, HK.out, if_pos hlen]
      have hlen' : (32 : Int) < (K.length : Int) := by omega
      go_enter Try.func10, Try.ntmps10
      go_upto_region 1 with fail
      rw [HW0.out]
      go_wp2_with fail
      go_ret
      exact ⟨by rw [HE.out]; rfl, HB0.out⟩
    · have HE : Hid (checkG g = faultsFrom g 0 K) := by show _ = _; rw [checkG, if_neg HBD.out, HK.out, if_neg hlen]
      have hlen' : ¬ (32 : Int) < (K.length : Int) := by omega
      go_enter Try.func10, Try.ntmps10
      go_upto_region 1 with fail
      rw [HW0.out]
      go_wp2_with fail
      clear h1 h2 h3 h4 h5 h6 x0 x1 x2 x3
      go_loopg [42] K.length (fun gg v42 wr => ∃ i : Nat, i ≤ K.length ∧ K.length - i ≤ gg ∧ v42 = .int .i64 i ∧ Hid (Below w0.heap.size w0 wr) ∧ Hid (faultsFrom g i (K.drop i) = faultsFrom g 0 K))
      case atStart => exact ⟨0, by omega, by omega, rfl, Below.refl _ _, rfl⟩
      case round =>
        obtain ⟨i, hi, hg, rfl, HB, HF⟩ := hrel
        by_cases hlt : i < K.length
        · have hlt' : (i : Int) < (K.length : Int) := by omega
          have hiK : (i : Int) ≤ (cr : Int) := by omega
          obtain ⟨b, off, vr, hae, -, hbl, c0, c1, hkr⟩ := (HR.out.below HB.out).rule_at hlt
          obtain ⟨av, cv, rfl, -, hcv⟩ := hkr.form
          rw [List.length_map] at c1 hkr
          have h1 := HF.out
          have hrl : i < g.rules.length := by rw [HK.out]; exact hlt
          rw [← HK.out, faultsFrom_at hrl] at h1
          simp only [HK.out] at h1
          obtain ⟨r, HRn⟩ := nameIt (K[i]'hlt)
          rw [HRn.out] at c0 c1 hkr h1
          have hbl2 : b < wr.heap.size := hbl
          obtain ⟨w4, HW4⟩ := nameIt (wr.alloc (.cells #[.int .i64 r.left, .slice av r.right.length cv] 69))
          have hb4 : Below wr.heap.size wr w4 := by rw [← HW4.out]; exact (Below.refl _ _).alloc (Nat.le_refl _) _
          have X4 : Hid (w4.heap[wr.heap.size]? = some (.cells #[.int .i64 r.left, .slice av r.right.length cv] 69 (0, 0))) := by rw [← HW4.out]; exact bx_new _ _ _ rfl
          have HB4 := Lib.hid (HB.out.trans (hb4.mono HB.out.size))
          have HKR := Lib.hid (hkr.below hb4)
          have X1' := Lib.hid (bx_keep X1.out HB4.out)
          have HX1 := X1'
          rw [← HGT.out, ← HGN.out, ← HGS.out] at HX1
          have PS := Lib.hid (hasF g w.heap.size ar K.length cr r.right w4 HX1.out)
          have CS := Lib.hid (containsFuncSym 33 #[.pointer (some ⟨w.heap.size, 0, none⟩)] (fun s => !hasS g s) av cv r.right w4 (fun _ _ => by kernel_rfl) PS.out HKR.out)
          have htl : (K.take i).length = i := by simp; omega
          have hst : ∀ W, Below w4.heap.size w4 W → Rd AnyB W (.sl ((K.take i).map Rule.d)) [.slice ar (K.take i).length cr] := by
            intro W hb
            have h2 := (((HR.out.below HB4.out).below hb).start (i := i) (by simp; omega))
            rw [← List.map_take] at h2
            rw [htl]; exact h2
          have CRR := Lib.hid (fun W (hb : Below w4.heap.size w4 W) => containsFuncRule 36 #[.pointer (some ⟨wr.heap.size, 0, none⟩)] (fun x => cmpR x r == 0) ar cr (K.take i) W (fun _ _ => by kernel_rfl) (sameRF r wr.heap.size av cv (K.take i) W (bx_keep X4.out hb) (HKR.out.below hb)) (hst W hb))
          rw [htl] at CRR
          obtain ⟨lf, HLF⟩ := nameIt r.left
          obtain ⟨rn, HRNn⟩ := nameIt r.right.length
          obtain ⟨A1, HA1⟩ := nameIt (r.right.any fun s => !hasS g s)
          obtain ⟨A2, HA2⟩ := nameIt ((K.take i).any fun x => cmpR x r == 0)
          have hfr : faultR g i r = if lf < 0 ∨ gn ≤ lf then 3 else if 4 < rn then 2 else if A1 then 3 else if A2 then 6 else 0 := by
            unfold faultR; rw [HLF.out, HGN.out, HRNn.out, HA1.out, HK.out, HA2.out]
          rw [HLF.out] at c0 HW4
          rw [HRNn.out] at c1 HW4 CS
          rw [HA1.out] at CS
          simp only [HA2.out] at CRR
          have X4' := X4
          rw [HLF.out, HRNn.out] at X4'
          obtain ⟨y0, y1⟩ := bx_cells2 X4'.out
          obtain ⟨x0, x1, x2, x3⟩ := bx_cells4 X1'.out
          have hl4 : wr.heap.size < w4.heap.size := (Array.getElem?_eq_some_iff.1 X4'.out).1
          have hl1 : w.heap.size < w4.heap.size := (Array.getElem?_eq_some_iff.1 X1'.out).1
          have HFR := Lib.hid hfr
          have H1 := Lib.hid h1
          have hrn : (rn : Int) ≤ 9223372036854775807 := by have := HKR.out.bounds.2; rw [HRNn.out] at this; unfold maxLen at this hcv; omega
          subst hae
          clear hkr hb4 h1 hfr htl hst
          by_cases ha : lf < 0 ∨ gn ≤ lf
          · have hf : faultR g i r = 3 := by rw [HFR.out, if_pos ha]
            have HE2 : Hid (faultsFrom g 0 K = 3) := by show _ = _; rw [← H1.out, hf, if_neg (by decide)]
            have ha' : (decide (lf < 0) = true) ∨ (decide (lf < 0) = false ∧ decide (gn ≤ lf) = true) := by simp; omega
            clear hf ha
            rcases ha' with k1 | ⟨k1, k2⟩
            all_goals
              go_upto_region 8 with fail
              rw [HW4.out]
              go_wp2_with fail
              go_ret
              exact ⟨by rw [HE.out, HE2.out]; rfl, HB0.out.trans (HB4.out.mono HB0.out.size)⟩
          · have k1 : decide (lf < 0) = false := by simp; omega
            have k2 : decide (gn ≤ lf) = false := by simp; omega
            have HFa : Hid (faultR g i r = if 4 < rn then 2 else if A1 then 3 else if A2 then 6 else 0) := by show _ = _; rw [HFR.out, if_neg ha]
            clear ha HFR
            by_cases hb : 4 < rn
            · have k3 : (4 : Int) < (rn : Int) := by omega
              have hf : faultR g i r = 2 := by rw [HFa.out, if_pos hb]
              have HE2 : Hid (faultsFrom g 0 K = 2) := by show _ = _; rw [← H1.out, hf, if_neg (by decide)]
              clear hf
              go_upto_region 8 with fail
              rw [HW4.out]
              go_wp2_with fail
              go_ret
              exact ⟨by rw [HE.out, HE2.out]; rfl, HB0.out.trans (HB4.out.mono HB0.out.size)⟩
            · have k3 : ¬ (4 : Int) < (rn : Int) := by omega
              have HFb : Hid (faultR g i r = if A1 then 3 else if A2 then 6 else 0) := by show _ = _; rw [HFa.out, if_neg hb]
              clear HFa
              go_upto_region 8 with fail
              rw [HW4.out]
              go_wp2_with fail
              refine CS.out.mono ?_
              rintro e w5 ⟨rfl, hb5⟩
              have HB45 := Lib.hid hb5
              have HB5 := Lib.hid (HB4.out.trans (hb5.mono HB4.out.size))
              obtain ⟨x0, x1, x2, x3⟩ := bx_cells4 (bx_keep X1'.out hb5)
              have hl15 : w.heap.size < w5.heap.size := (Array.getElem?_eq_some_iff.1 (bx_keep X1'.out hb5)).1
              clear hb5 y0 y1
              cases A1 with
              | true =>
                have hf : faultR g i r = 3 := by rw [HFb.out, if_pos rfl]
                have HE2 : Hid (faultsFrom g 0 K = 3) := by show _ = _; rw [← H1.out, hf, if_neg (by decide)]
                clear hf
                go_wp2_with fail
                go_ret
                exact ⟨by rw [HE.out, HE2.out]; rfl, HB0.out.trans (HB5.out.mono HB0.out.size)⟩
              | false =>
                go_wp2_with fail
                refine (CRR.out _ HB45.out).mono ?_
                rintro e w6 ⟨rfl, hb6⟩
                have HB6 := Lib.hid (HB5.out.trans (hb6.mono HB5.out.size))
                clear hb6 x0 x1 x2 x3
                cases A2 with
                | true =>
                  have hf : faultR g i r = 6 := by rw [HFb.out]; rfl
                  have HE2 : Hid (faultsFrom g 0 K = 6) := by show _ = _; rw [← H1.out, hf, if_neg (by decide)]
                  clear hf
                  go_wp2_with fail
                  go_ret
                  exact ⟨by rw [HE.out, HE2.out]; rfl, HB0.out.trans (HB6.out.mono HB0.out.size)⟩
                | false =>
                  have hf : faultR g i r = 0 := by rw [HFb.out]; rfl
                  have HE2 : Hid (faultsFrom g (i + 1) (K.drop (i + 1)) = faultsFrom g 0 K) := by show _ = _; rw [← H1.out, hf, if_pos rfl]
                  clear hf
                  go_wp2_with fail
                  go_roundg (K.length - (i + 1))
                  case measure => omega
                  case rel => exact ⟨i + 1, by omega, by omega, by go_num, HB6, HE2⟩
        · have hlt' : ¬ (i : Int) < (K.length : Int) := by omega
          have HE2 : Hid (faultsFrom g 0 K = 0) := by show _ = _; rw [← HF.out, List.drop_of_length_le (by omega)]; rfl
          go_wp2_with fail
          go_ret
          exact ⟨by rw [HE.out, HE2.out]; rfl, HB0.out.trans (HB.out.mono HB0.out.size)⟩
end Go.Proofs.Ytjpmebppdcclbaa
namespace Go.Proofs.Ytjpmebppdcclbaa
open Go.RowKit
namespace Cs
structure Cid where
  cb : Nat
  b1 : Nat
  b2 : Nat
  b3 : Nat
  b4 : Nat
  ts : Nat
  tm : Nat
  tc : Nat
  ks : Nat
  km : Nat
  kc : Nat
  rs : Nat → Nat
  rm : Nat → Nat
  rc : Nat → Nat
structure CI (g : Gram) (vr : Value) (N n : Nat) (d : Cid) (S M : Nat → Nat → Bool) (C : Nat → Nat → Int) (W : World) : Prop where
  box : ∃ T, W.heap[d.cb]? = some (.cells #[.int .i64 g.terms, .int .i64 g.nons, .int .i64 g.start, vr, .int .i64 (n : Int), .slice (some ⟨d.ts, 0, none⟩) N d.ks, .slice (some ⟨d.tm, 0, none⟩) N d.km, .slice (some ⟨d.tc, 0, none⟩) N d.kc] T (0, 0))
  some' : Tb 4 d.b1 d.b2 d.ts N (n + 1) d.rs (fun a k => .bool (S a k)) W
  many : Tb 4 d.b2 d.b3 d.tm N (n + 1) d.rm (fun a k => .bool (M a k)) W
  cnt : Tb 3 d.b3 d.b4 d.tc N (n + 1) d.rc (fun a k => .int .i64 (C a k)) W
  le : d.b4 ≤ d.cb
section
variable {g : Gram} {vr : Value} {N n : Nat} {d : Cid} {S M : Nat → Nat → Bool} {C : Nat → Nat → Int} {W W' : World}
theorem CI.lt (h : CI g vr N n d S M C W) : d.cb < W.heap.size := by obtain ⟨T, h⟩ := h.box; exact (Array.getElem?_eq_some_iff.1 h).1
theorem CI.keep (h : CI g vr N n d S M C W) (hb : Below W.heap.size W W') : CI g vr N n d S M C W' := by
  have hlt := h.lt
  obtain ⟨⟨T, h1⟩, h2, h3, h4, h5⟩ := h
  have p2 := h2.pl
  have p3 := h3.pl
  have p4 := h4.pl
  exact ⟨⟨T, bx_keep h1 hb⟩, h2.keep (by omega) hb, h3.keep (by omega) hb, h4.keep (by omega) hb, h5⟩
end
def okS (N : Nat) (s : Sym) : Prop := s.term = false → 0 ≤ s.n ∧ s.n.toNat < N
end Cs
end Go.Proofs.Ytjpmebppdcclbaa
namespace Go.Proofs.Ytjpmebppdcclbaa
open Go.RowKit
namespace Cs
structure Fr (N : Nat) (d : Cid) (W W' : World) : Prop where
  os : W'.os = W.os
  tape : W'.tape = W.tape
  output : W'.output = W.output
  size : W.heap.size ≤ W'.heap.size
  block : ∀ k, k < W.heap.size → (∀ a, a < N → d.rc a ≠ k) → W'.heap[k]? = W.heap[k]?
theorem Fr.refl (N : Nat) (d : Cid) (W : World) : Fr N d W W := ⟨rfl, rfl, rfl, Nat.le_refl _, fun _ _ _ => rfl⟩
theorem Fr.trans {N : Nat} {d : Cid} {a b c : World} (h : Fr N d a b) (k : Fr N d b c) : Fr N d a c :=
  ⟨k.os.trans h.os, k.tape.trans h.tape, k.output.trans h.output, Nat.le_trans h.size k.size, fun i hi hn => (k.block i (Nat.lt_of_lt_of_le hi h.size) hn).trans (h.block i hi hn)⟩
theorem Fr.of {N : Nat} {d : Cid} {W W' : World} (h : Below W.heap.size W W') : Fr N d W W' := ⟨h.os, h.tape, h.output, h.size, fun k hk _ => h.block k hk⟩
theorem Fr.set {N : Nat} {d : Cid} {a k : Nat} (W : World) (ha : a < N) (v : Value) : Fr N d W (W.setCell ⟨d.rc a, k, none⟩ v) :=
  ⟨rfl, rfl, rfl, by simp [World.setCell], fun j _ hn => Below.heap_setCell _ _ _ _ (fun e => hn a ha (by rw [e]))⟩
theorem Fr.below {N : Nat} {d : Cid} {W W' : World} {B : Nat} (h : Fr N d W W') (hB : B ≤ W.heap.size) (hr : ∀ a, a < N → B ≤ d.rc a) : Below B W W' :=
  ⟨h.os, h.tape, h.output, h.size, fun k hk => h.block k (Nat.lt_of_lt_of_le hk hB) (fun a ha e => by have := hr a ha; omega)⟩
structure CS (g : Gram) (vr : Value) (N n : Nat) (d : Cid) (S M : Nat → Nat → Bool) (V : Nat → Nat → Int) (w0 : World) (C : Nat → Nat → Int) (W : World) : Prop where
  ci : CI g vr N n d S M C W
  cv : ∀ a k, a < N → k ≤ n → C a k = -1 ∨ C a k = V a k
  bel : Below w0.heap.size w0 W
  lo : w0.heap.size ≤ d.b1
section
variable {g : Gram} {vr : Value} {N n : Nat} {d : Cid} {S M : Nat → Nat → Bool} {V : Nat → Nat → Int} {w0 : World} {C : Nat → Nat → Int} {W W' : World}
theorem CS.keep (h : CS g vr N n d S M V w0 C W) (hb : Below W.heap.size W W') : CS g vr N n d S M V w0 C W' := ⟨h.ci.keep hb, h.cv, h.bel.trans (hb.mono h.bel.size), h.lo⟩
theorem CS.rc (h : CS g vr N n d S M V w0 C W) : ∀ a, a < N → w0.heap.size ≤ d.rc a ∧ d.rc a < d.cb := fun a ha => by
  have h1 := h.ci.cnt.ne a ha
  have h2 := h.ci.some'.pl
  have h3 := h.ci.many.pl
  have h4 := h.ci.le
  have h5 := h.lo
  omega
theorem CS.store (h : CS g vr N n d S M V w0 C W) {a k : Nat} (ha : a < N) (hk : k ≤ n) : ∃ C', CS g vr N n d S M V w0 C' (W.setCell ⟨d.rc a, k, none⟩ (.int .i64 (V a k))) := by
  refine ⟨fun b l => if b = a ∧ l = k then V a k else C b l, ?_, fun b l hb hl => ?_, ?_, h.lo⟩
  · obtain ⟨⟨T, h1⟩, h2, h3, h4, h5⟩ := h.ci
    have hr := h.rc a ha
    have hne := h4.ne a ha
    have p2 := h2.pl
    have p3 := h3.pl
    refine ⟨⟨T, bx_other h1 (by omega) _ _⟩, h2.other fun j j1 j2 => Below.heap_setCell _ _ _ _ (by show j ≠ d.rc a; omega), h3.other fun j j1 j2 => Below.heap_setCell _ _ _ _ (by show j ≠ d.rc a; omega), ?_, h5⟩
    refine (h4.set ha (show k < n + 1 by omega) (.int .i64 (V a k))).eq fun b l _ _ => ?_
    show (if b = a ∧ l = k then _ else _) = _
    split <;> rfl
  · by_cases e : b = a ∧ l = k
    · rw [if_pos e, e.1, e.2]; exact .inr rfl
    · rw [if_neg e]; exact h.cv b l hb hl
  · exact h.bel.setCell (p := ⟨d.rc a, k, none⟩) (h.rc a ha).1 _
end
def MaxC : Int := 1000000000
end Cs
end Go.Proofs.Ytjpmebppdcclbaa
namespace Go.Proofs.Ytjpmebppdcclbaa
open Go.RowKit
namespace Cs
def okR (N : Nat) (g : Gram) : Prop := ∀ r ∈ g.rules, (∀ s ∈ r.right, okS N s)
end Cs
end Go.Proofs.Ytjpmebppdcclbaa
namespace Go.Proofs.Ytjpmebppdcclbaa
open Go.RowKit
structure Grd (tr te : TypeId) (B bt n m hi : Nat) (rb : Nat → Nat) (val : Nat → Nat → Value) (wr : World) : Prop where
  tb : ∃ cs, wr.heap[bt]? = some (.cells cs tr (0, 0)) ∧ cs.size = n ∧ ∀ k, k < hi → k < n → cs[k]? = some (.slice (some ⟨rb k, 0, none⟩) m m)
  row : ∀ k, k < hi → k < n → ∃ cs, wr.heap[rb k]? = some (.cells cs te (0, 0)) ∧ cs.size = m ∧ ∀ j, j < m → cs[j]? = some (val k j)
  inj : ∀ k k', k < hi → k' < hi → k < n → k' < n → rb k = rb k' → k = k'
  ne : ∀ k, k < hi → k < n → rb k ≠ bt ∧ B ≤ rb k
  bB : B ≤ bt
section
variable {tr te : TypeId} {B bt n m hi : Nat} {rb : Nat → Nat} {val : Nat → Nat → Value} {wr w' : World}
theorem Grd.lt (h : Grd tr te B bt n m hi rb val wr) : bt < wr.heap.size := by
  obtain ⟨cs, h1, _⟩ := h.tb
  exact (Array.getElem?_eq_some_iff.1 h1).1
theorem Grd.rlt (h : Grd tr te B bt n m hi rb val wr) {k : Nat} (hk : k < hi) (hn : k < n) : rb k < wr.heap.size := by
  obtain ⟨cs, h1, _⟩ := h.row k hk hn
  exact (Array.getElem?_eq_some_iff.1 h1).1
theorem Grd.grown {row : Option Nat} (h : Grd tr te B bt n m hi rb val wr) (hg : wr.grownBy w' row) (hr : ∀ k, row = some k → k ≠ bt ∧ ∀ i, i < hi → i < n → rb i ≠ k) : Grd tr te B bt n m hi rb val w' := by
  obtain ⟨⟨cs, h1, h2, h3⟩, h4, h5, h6, h7⟩ := h
  refine ⟨⟨cs, ?_, h2, h3⟩, fun k hk hn => ?_, h5, h6, h7⟩
  · rw [hg.block bt (Array.getElem?_eq_some_iff.1 h1).1 (fun e => (hr bt e.symm).1 rfl)]; exact h1
  · obtain ⟨rs, r1, r2⟩ := h4 k hk hn
    refine ⟨rs, ?_, r2⟩
    rw [hg.block (rb k) (Array.getElem?_eq_some_iff.1 r1).1 (fun e => (hr _ e.symm).2 k hk hn rfl)]; exact r1
theorem Grd.keep (h : Grd tr te B bt n m hi rb val wr) (hb : Below wr.heap.size wr w') : Grd tr te B bt n m hi rb val w' := h.grown (grown_below hb none) (fun k e => by cases e)
theorem Grd.cell (h : Grd tr te B bt n m hi rb val wr) {k j : Nat} (hk : k < hi) (hn : k < n) (hj : j < m) : wr.cell? ⟨rb k, j, none⟩ = some (val k j) := by
  obtain ⟨cs, h1, h2, h3⟩ := h.row k hk hn
  simp [World.cell?, h1, h3 j hj]
theorem Grd.free (h : Grd tr te B bt n m hi rb val wr) {k : Nat} (hk : k < hi) (hn : k < n) (j : Nat) : wr.frozen? ⟨rb k, j, none⟩ = false := by
  obtain ⟨cs, h1, h2, h3⟩ := h.row k hk hn
  simp [World.frozen?, h1]
theorem Grd.set (h : Grd tr te B bt n m hi rb val wr) {i j : Nat} (hi' : i < hi) (hin : i < n) (hj : j < m) (x : Value) : Grd tr te B bt n m hi rb (fun k l => if k = i ∧ l = j then x else val k l) (wr.setCell ⟨rb i, j, none⟩ x) := by
  obtain ⟨⟨cs, h1, h2, h3⟩, h4, h5, h6, h7⟩ := h
  refine ⟨⟨cs, bx_other h1 (fun e => (h6 i hi' hin).1 e.symm) _ _, h2, h3⟩, fun k hk hn => ?_, h5, h6, h7⟩
  obtain ⟨rs, r1, r2, r3⟩ := h4 k hk hn
  by_cases e : k = i
  · subst e
    refine ⟨rs.setIfInBounds j x, bx_set r1 _ _, by simpa using r2, fun l hl => ?_⟩
    rw [Array.getElem?_setIfInBounds]
    by_cases e2 : j = l
    · subst e2
      rw [if_pos rfl, if_pos (by omega)]; simp
    · rw [if_neg e2, r3 l hl]
      simp [show ¬ l = j from fun h => e2 h.symm]
  · refine ⟨rs, bx_other r1 (fun e2 => e (h5 k i hk hi' hn hin e2)) _ _, r2, fun l hl => ?_⟩
    rw [r3 l hl]; simp [e]
theorem Grd.add {z : Value} (h : Grd tr te B bt n m hi rb (fun _ _ => z) wr) (hi' : hi < n) (hB : B ≤ wr.heap.size) :
    Grd tr te B bt n m (hi + 1) (fun k => if k = hi then wr.heap.size else rb k) (fun _ _ => z) ((wr.alloc (.cells (madeCells #[z] m) te)).setCell ⟨bt, hi, none⟩ (.slice (some ⟨wr.heap.size, 0, none⟩) m m)) := by
  have hbt := h.lt
  have hrl := fun k hk hn => h.rlt (k := k) hk hn
  obtain ⟨⟨cs, h1, h2, h3⟩, h4, h5, h6, h7⟩ := h
  have hba : Below wr.heap.size wr (wr.alloc (.cells (madeCells #[z] m) te)) := (Below.refl _ _).alloc (Nat.le_refl _) _
  refine ⟨⟨cs.setIfInBounds hi (.slice (some ⟨wr.heap.size, 0, none⟩) m m), bx_set (bx_keep h1 hba) _ _, by simpa using h2, fun k hk hn => ?_⟩, fun k hk hn => ?_, fun k k' hk hk' hn hn' e => ?_, fun k hk hn => ?_, h7⟩
  · rw [Array.getElem?_setIfInBounds]
    by_cases e : hi = k
    · subst e
      rw [if_pos rfl, if_pos (by omega)]; simp
    · rw [if_neg e, h3 k (by omega) hn]
      simp [show ¬ k = hi from fun h => e h.symm]
  · by_cases e : k = hi
    · subst e
      refine ⟨madeCells #[z] m, ?_, size_madeCells _ _, fun j hj => made_at _ _ _ hj⟩
      simp only [if_true]
      exact bx_other (bx_new _ _ _ rfl) (by omega) _ _
    · obtain ⟨rs, r1, r2, r3⟩ := h4 k (by omega) hn
      refine ⟨rs, ?_, r2, r3⟩
      simp only [e, if_false]
      exact bx_other (bx_keep r1 hba) (h6 k (by omega) hn).1 _ _
  · by_cases e1 : k = hi <;> by_cases e2 : k' = hi <;> simp only [e1, e2, if_true, if_false] at e ⊢
    · have := hrl k' (by omega) hn'; omega
    · have := hrl k (by omega) hn; omega
    · exact h5 k k' (by omega) (by omega) hn hn' e
  · by_cases e : k = hi
    · subst e; simp only [if_true]; omega
    · simp only [e, if_false]; exact h6 k (by omega) hn
theorem Grd.eq {val' : Nat → Nat → Value} (h : Grd tr te B bt n m hi rb val wr) (he : ∀ k j, k < hi → k < n → j < m → val k j = val' k j) : Grd tr te B bt n m hi rb val' wr := by
  obtain ⟨h1, h4, h5, h6, h7⟩ := h
  refine ⟨h1, fun k hk hn => ?_, h5, h6, h7⟩
  obtain ⟨rs, r1, r2, r3⟩ := h4 k hk hn
  exact ⟨rs, r1, r2, fun j hj => by rw [r3 j hj, he k j hk hn hj]⟩
end
theorem Grd.start (tr te : TypeId) {B n m : Nat} {rb : Nat → Nat} {val : Nat → Nat → Value} {z : Value} (w : World) {bt : Nat} (hb : bt = w.heap.size) (hB : B ≤ w.heap.size) : Grd tr te B bt n m 0 rb val (w.alloc (.cells (madeCells #[z] n) tr)) := by
  subst hb
  exact ⟨⟨_, bx_new _ _ _ rfl, size_madeCells _ _, fun k hk => by omega⟩, fun k hk => by omega, fun k k' hk => by omega, fun k hk => by omega, hB⟩
end Go.Proofs.Ytjpmebppdcclbaa
