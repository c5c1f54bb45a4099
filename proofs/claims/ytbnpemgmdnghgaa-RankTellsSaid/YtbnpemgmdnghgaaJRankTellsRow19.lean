/- For every input the law RankTells returns true, and its arguments read afterwards as before. No condition. -/
import Derived.Test.YtbnpemgmdnghgaaJRankTellsRow18
import Derived.Test.YtbnpemgmdnghgaaJRankTellsRow9
import Derived.Test.YtbnpemgmdnghgaaJRankTellsRow13
import Derived.Test.YtbnpemgmdnghgaaRows
import Derived.Test.YtbnpemgmdnghgaaJRankTellsRow1
import Derived.ChangeArms
import Derived.ChangeSame
import Derived.SizedLaws
import Derived.Deep.Slices
import Derived.Lib.SmallJoins
import Derived.OpenShut
import Derived.ChangeOld
import Derived.Carry
import Derived.JoinedCond
namespace Go.Proofs.Ytbnpemgmdnghgaa
open Go.RowKit
namespace Cs

set_option maxHeartbeats 16000000 in
set_option maxRecDepth 100000 in
theorem lawRT (g : Gram) (vr : Value) (nn ii : Int) (w : World) (hr : Rd AnyB w (.sl (g.rules.map Rule.d)) [vr]) :
    Calls Try.prog 6 #[.agg #[.int .i64 g.terms, .int .i64 g.nons, .int .i64 g.start, vr], .int .i64 nn, .int .i64 ii] w fun e w' => e = .returned (.bool true) ∧ Below w.heap.size w w' := by
  obtain ⟨ra, rcap, rfl, hrc1, hrc2⟩ := hr.form
  rw [List.length_map] at hr hrc1
  rw [List.length_map]
  obtain ⟨w0, HW0⟩ := nameIt (w.alloc (.cells #[.int .i64 g.terms, .int .i64 g.nons, .int .i64 g.start, .slice ra g.rules.length rcap] 24))
  have hb0 : Below w.heap.size w w0 := by rw [← HW0.out]; exact (Below.refl _ _).alloc (Nat.le_refl _) _
  have X0 : Hid (w0.heap[w.heap.size]? = some (.cells #[.int .i64 g.terms, .int .i64 g.nons, .int .i64 g.start, .slice ra g.rules.length rcap] 24 (0, 0))) := by rw [← HW0.out]; exact bx_new _ _ _ rfl
  have HR := Lib.hid (hr.below hb0)
  have HPL := Lib.hid (fun W => plE W)
  have HCN : Hid (∀ W, Below w0.heap.size w0 W → Calls Try.prog 17 #[.agg #[.int .i64 g.terms, .int .i64 g.nons, .int .i64 g.start, .slice ra g.rules.length rcap], .int .i64 nn] W (fun e w' => Below W.heap.size W w' ∧ ∃ x y : Int, e = .returned (.tuple #[.int .i64 x, .int .i64 y]) ∧ CV g nn x y)) := fun W hb => (rankCountE g ra rcap nn W (HR.out.below hb)).mono fun _ _ h => cv_of h
  have HTE : Hid (∀ W, Below w0.heap.size w0 W → Calls Try.prog 26 #[.agg #[.int .i64 g.terms, .int .i64 g.nons, .int .i64 g.start, .slice ra g.rules.length rcap], .int .i64 nn, .int .i64 ii] W (RtPost g nn ii W)) := fun W hb => rankTreeE g ra rcap nn ii W (HR.out.below hb)
  have HCE : Hid (∀ W, Below w0.heap.size w0 W → Calls Try.prog 10 #[.agg #[.int .i64 g.terms, .int .i64 g.nons, .int .i64 g.start, .slice ra g.rules.length rcap], .int .i64 nn] W (fun e w' => Below W.heap.size W w' ∧ ∃ (a : Option Addr) (N c : Nat) (h : Int), e = .returned (.tuple #[.slice a N c, .int .i64 h]) ∧ SV g nn a N c h w')) := fun W hb => (census_ok g ra rcap nn W (HR.out.below hb)).mono fun _ _ h => sv_of h
  have HLI : Hid (∀ (N n : Nat) (S : Nat → Nat → Bool) W, Below w0.heap.size w0 W → errC g nn = 0 → OkC g N → nn = (n : Int) → n ≤ 24 → DoneC g n S → Calls Try.prog 24 #[.agg #[.int .i64 g.terms, .int .i64 g.nons, .int .i64 g.start, .slice ra g.rules.length rcap], .int .i64 nn, .int .i64 300, .int .i64 60] W (LsPost (lsT S 300 g.rules 60 ⟨false, g.start⟩ n) W)) := by
    intro N n S W hb he hok hnn h24 hd
    subst hnn
    exact listedE g ra rcap N n 300 60 S hok (errC_check he) h24 hd (by decide) (by decide) (by decide) W (HR.out.below hb)
  have HOF : Hid (∀ (t : Tree) (at' : Option Addr) (m ct : Nat) (W : World), Below w0.heap.size w0 W → Rd AnyB W (.sl (t.kids.map Tree.d)) [.slice at' m ct] → (nodes t).length ≤ 1099511627776 → Calls Try.prog 18 #[.agg #[.int .i64 g.terms, .int .i64 g.nons, .int .i64 g.start, .slice ra g.rules.length rcap], .agg #[.int .i64 t.rule, .int .i64 t.term, .slice at' m ct]] W (RkPost g t W)) := by
    intro t at' m ct W hb hrd hN
    obtain ⟨a', c', e, -, -⟩ := hrd.form
    rw [List.length_map] at e
    cases e
    exact rankOfE g ra rcap t at' ct W (HR.out.below hb) hrd hN
  have HSZ0 : Hid (∀ W, Calls Try.prog 22 #[.agg #[.int .i64 0, .int .i64 0, .slice none 0 0]] W fun e w' => e = .returned (.int .i64 1) ∧ Below W.heap.size W w') := by
    intro W
    have h := sizeE (.node 0 0 []) (.slice none 0 0) W (rd_nil _ _) (by simp [nodes, nodesL])
    have hn : (nodes (.node 0 0 [])).length = 1 := by simp [nodes, nodesL]
    rw [hn] at h
    exact h
  obtain ⟨PST, HP⟩ := nameIt (fun (e : Ending) (w' : World) => e = .returned (.bool true) ∧ Below w.heap.size w w')
  rw [HP.out]
  have HFIN : Hid (∀ w', Below w0.heap.size w0 w' → PST (.returned (.bool true)) w') := by
    intro w' h
    rw [← HP.out]
    exact ⟨rfl, hb0.trans (h.mono hb0.size)⟩
  obtain ⟨gt, HGT⟩ := nameIt g.terms
  obtain ⟨gn, HGN⟩ := nameIt g.nons
  obtain ⟨gs, HGS⟩ := nameIt g.start
  obtain ⟨rl, HRL⟩ := nameIt g.rules.length
  rw [HGT.out, HGN.out, HGS.out, HRL.out] at HW0 X0 HCN HTE HCE
  simp only [HGT.out, HGN.out, HGS.out, HRL.out] at HLI HOF
  rw [HGT.out, HGN.out, HGS.out, HRL.out]
  have HGB : Hid (∀ W', Below w0.heap.size w0 W' → W'.cell? ⟨w.heap.size, 0, none⟩ = some (.int .i64 gt) ∧ W'.cell? ⟨w.heap.size, 0 + 1, none⟩ = some (.int .i64 gn) ∧ W'.cell? ⟨w.heap.size, 0 + 2, none⟩ = some (.int .i64 gs) ∧ W'.cell? ⟨w.heap.size, 0 + 3, none⟩ = some (.slice ra rl rcap)) := fun W' h => bx_cells4 (bx_keep X0.out h)
  obtain ⟨gb, HGBN⟩ := nameIt w.heap.size
  rw [HGBN.out] at HGB
  clear hr hb0 HP X0 hrc1
  go_enter Try.func6, Try.ntmps6
  go_upto_region 1 with fail
  rw [HW0.out, HGBN.out]
  go_wp2_with fail
  refine (HPL.out _).mono ?_
  rintro e w1 ⟨v1, rfl, hr1, hb1⟩
  obtain ⟨a1, c1, rfl, -, -⟩ := hr1.form
  have HPC := Lib.hid (countPlainE a1 c1 w1 hr1)
  have HB1 := Lib.hid hb1
  clear hr1 hb1
  change Hid (Calls _ _ #[.agg #[.int .i64 2, .int .i64 1, .int .i64 0, .slice a1 2 c1], .int .i64 4] w1 _) at HPC
  rw [show plG.terms = 2 from rfl, show plG.nons = 1 from rfl, show plG.start = 0 from rfl, show (plG.rules.map Rule.d).length = 2 from rfl]
  go_wp2_with fail
  refine HPC.out.mono ?_
  rintro e w2 ⟨rfl, hb2⟩
  have HB2 := Lib.hid (HB1.out.trans (hb2.mono HB1.out.size))
  clear hb2 HPC HPL HB1
  obtain ⟨x0, x1, x2, x3⟩ := HGB.out w2 HB2.out
  go_wp2_with fail
  with_reducible refine (HCN.out _ HB2.out).mono ?_
  clear x0 x1 x2 x3
  rintro e w3 ⟨hb3, x, y, rfl, hcv⟩
  have HB3 := Lib.hid (HB2.out.trans (hb3.mono HB2.out.size))
  have HCV := Lib.hid hcv
  clear hb3 hcv
  obtain ⟨x0, x1, x2, x3⟩ := HGB.out w3 HB3.out
  go_wp2_with fail
  with_reducible refine (HTE.out _ HB3.out).mono ?_
  clear x0 x1 x2 x3
  rintro e w4 ⟨hb4, r, tm, v, c, rfl, htv⟩
  have HB4 := Lib.hid (HB3.out.trans (hb4.mono HB3.out.size))
  have HTV := Lib.hid htv
  clear hb4 htv
  obtain ⟨w5, HW5⟩ := nameIt (w4.alloc (.cells #[.int .i64 r, .int .i64 tm, v] 42))
  have HB45 : Hid (Below w4.heap.size w4 w5) := by rw [← HW5.out]; exact (Below.refl _ _).alloc (Nat.le_refl _) _
  have X5 : Hid (w5.heap[w4.heap.size]? = some (.cells #[.int .i64 r, .int .i64 tm, v] 42 (0, 0))) := by rw [← HW5.out]; exact bx_new _ _ _ rfl
  have HB5 := Lib.hid (HB4.out.trans (HB45.out.mono HB4.out.size))
  obtain ⟨tb, HTB⟩ := nameIt w4.heap.size
  rw [HTB.out] at X5
  have hvc : ∃ va vn vc, v = .slice va vn vc := by
    rcases HTV.out with ⟨_, _, _, _, e⟩ | ⟨_, _, _, _, _, _, _, _, ⟨_, _, _, _, e⟩ | ⟨_, _, _, _, _, e⟩ | ⟨_, _, ⟨_, _, _, _, e⟩ | ⟨_, _, _, t, _, _, _, hrd⟩⟩⟩
    · exact ⟨_, _, _, e⟩
    · exact ⟨_, _, _, e⟩
    · exact ⟨_, _, _, e⟩
    · exact ⟨_, _, _, e⟩
    · obtain ⟨a', c', e, -, -⟩ := hrd.form
      exact ⟨_, _, _, e⟩
  obtain ⟨va, vn, vc, rfl⟩ := hvc
  go_upto_region 6 with fail
  rw [HW5.out, HTB.out]
  obtain ⟨x0, x1, x2, x3⟩ := HGB.out w5 HB5.out
  go_wp2_with fail
  with_reducible refine (HCE.out _ HB5.out).mono ?_
  clear x0 x1 x2 x3
  rintro e w6 ⟨hb6, ma, Nm, cm, h, rfl, hsv⟩
  have HB6 := Lib.hid (HB5.out.trans (hb6.mono HB5.out.size))
  have X6 := Lib.hid (bx_keep X5.out hb6)
  have HALL := Lib.hid (rtAll_of HCV.out HTV.out hsv (HB45.out.trans (hb6.mono HB45.out.size)))
  clear hb6 hsv HCV HTV HW5 X5
  obtain ⟨x0, x1, x2, x3⟩ := HGB.out w6 HB6.out
  obtain ⟨z0, z1, z2⟩ := bx_cells3 X6.out
  rcases HALL.out with ⟨hh, rfl, rfl, rfl, rfl, rfl, hvv⟩ | ⟨rfl, N, n, S, F, he, rfl, hok, hn, h24, hdn, hrd, hF, hcase⟩
  · cases hvv
    have b1 : (c != 0) = true := by simpa using hh
    have b2 : (c == c) = true := by simp
    clear HALL hh x0 x1 x2 x3
    go_wp2_with fail
    refine (HSZ0.out _).mono ?_
    rintro e w7 ⟨rfl, hb7⟩
    have X7 := Lib.hid (bx_keep X6.out hb7)
    have HF := Lib.hid (HFIN.out w7 (HB6.out.trans (hb7.mono HB6.out.size)))
    clear z0 z1 z2 hb7
    obtain ⟨z0, z1, z2⟩ := bx_cells3 X7.out
    go_wp2_with fail
    first | exact HF.out | (go_ret; exact HF.out)
  · have hs0 := hok.s0
    have hs1 := hok.s1
    rw [HGS.out] at hs0 hs1
    obtain ⟨st, rfl⟩ := Int.eq_ofNat_of_zero_le hs0
    have hstN : st < Nm := by omega
    have hstt : g.start.toNat = st := by rw [HGS.out]; simp
    rw [hstt] at hF
    obtain ⟨mb, mo, mv, hae, q0, hsl⟩ := rowI_at hrd (i := st) (by rw [tabF_len]; exact hstN)
    have hrow : (tabF F Nm (n + 1))[st]'(by rw [tabF_len]; exact hstN) = (List.range (n + 1)).map (F st) := by simp [tabF]
    rw [hrow] at hsl
    obtain ⟨ar, cr, rfl⟩ := hsl.form
    have hsll := hsl.len
    rw [ints_len, List.length_map, List.length_range] at q0 hsl hsll
    obtain ⟨br, orr, hae2, hcell⟩ := hsl.at (k := n) (by omega)
    have q1 := hcell n (by rw [ints_len]; simp)
    rw [ints_get] at q1
    simp only [List.getElem_map, List.getElem_range] at q1
    rw [hF] at q1
    obtain ⟨m1, HM1⟩ := nameIt (n + 1)
    rw [HM1.out] at q0 hsll
    have hK0 : startC g S Nm n ≠ -1 → startC g S Nm n < MaxC → 0 ≤ startC g S Nm n := fun a b => by have := (start_val hok a b).1; omega
    have HLA : Hid (startC g S Nm n ≠ -1 → startC g S Nm n < MaxC → ∀ L, lsT S 300 g.rules 60 ⟨false, g.start⟩ n = some L → L = SE g S Nm n ⟨false, g.start⟩ n ∧ (L.length : Int) = startC g S Nm n ∧ (0 < L.length → MK g.rules S Nm n g.start.toNat n = false)) := fun a b L h => listed_all hok hdn a b h
    have HOL : Hid (startC g S Nm n ≠ -1 → startC g S Nm n < MaxC → ∀ (i : Nat) (t : Tree) (a b k : Int), (SE g S Nm n ⟨false, g.start⟩ n)[i]? = some t → RkV g t a b k → if 5000 < (nodes t).length then a = 0 ∧ b = 0 ∧ k = 2 else a = (n : Int) ∧ b = (i : Int) ∧ k = 0) := fun h1 h2 i t a b k ht hv => of_listed (errC_check he) (by rw [← hn]; exact he) hok hdn h1 h2 ht hv
    have HND : Hid (MK g.rules S Nm n g.start.toNat n = false → ∀ (t : Tree), t ∈ SE g S Nm n ⟨false, g.start⟩ n → (nodes t).length ≤ 1099511627776) := fun hM t ht => se_nodes hok (errC_check he) h24 hM ht
    have HLX := Lib.hid (HLI.out Nm n S w6 HB6.out he hok hn h24 hdn)
    obtain ⟨spec, HSP⟩ := nameIt (lsT S 300 g.rules 60 ⟨false, g.start⟩ n)
    rw [HSP.out] at HLA
    have hsp2 := HSP.out
    rw [HGS.out] at hsp2
    rw [hsp2] at HLX
    clear hsp2
    obtain ⟨K, HK⟩ := nameIt (startC g S Nm n)
    rw [HK.out] at q1 hcase hK0 HLA HOL
    subst hae hae2
    have hrdb := hrd.bounds
    rw [List.length_map, tabF_len] at hrdb
    obtain ⟨-, hcm1, hcm2⟩ := hrdb
    have hst0 : (0 : Int) ≤ (st : Int) := by omega
    have hst1 : (st : Int) < (Nm : Int) := by omega
    have hn0 : (0 : Int) ≤ (n : Int) := by omega
    have hn1 : (n : Int) < (m1 : Int) := by have := HM1.out; omega
    have HN := Lib.hid hn
    have hMC : MaxC = 1000000000 := rfl
    obtain ⟨hsl1, hsl2, hsl3⟩ := hsll
    unfold maxLen at hsl3 hcm2
    have HROW := Lib.hid hrow
    clear hsl hcell hrow hrd hF HALL hs0 hs1 hstt
    rw [hn] at *
    rcases hcase with ⟨hk, rfl, rfl, rfl, rfl, rfl, hvv⟩ | ⟨hk1, hk, rfl, rfl, rfl, rfl, rfl, hvv⟩ | ⟨hk1, hk2, rfl, rfl, hcase⟩
    · cases hvv
      subst hk
      clear HROW HM1 hn
      go_wp2_with fail
      refine (HSZ0.out _).mono ?_
      rintro e w7 ⟨rfl, hb7⟩
      have X7 := Lib.hid (bx_keep X6.out hb7)
      have HF := Lib.hid (HFIN.out w7 (HB6.out.trans (hb7.mono HB6.out.size)))
      clear z0 z1 z2 hb7
      obtain ⟨z0, z1, z2⟩ := bx_cells3 X7.out
      go_wp2_with fail
      first | exact HF.out | (go_ret; exact HF.out)
    · cases hvv
      have hk' : (1000000000 : Int) ≤ K := by omega
      have hk0 : ¬ K < 0 := by omega
      clear HROW HM1 hn hk hk1
      go_wp2_with fail
      refine (HSZ0.out _).mono ?_
      rintro e w7 ⟨rfl, hb7⟩
      have X7 := Lib.hid (bx_keep X6.out hb7)
      have HF := Lib.hid (HFIN.out w7 (HB6.out.trans (hb7.mono HB6.out.size)))
      clear z0 z1 z2 hb7
      obtain ⟨z0, z1, z2⟩ := bx_cells3 X7.out
      go_wp2_with fail
      first | exact HF.out | (go_ret; exact HF.out)
    · have hk0 : ¬ x < 0 := by have := hK0 hk1 hk2; omega
      have hk9 : ¬ (1000000000 : Int) ≤ x := by omega
      have b4 : (x != x) = false := by simp
      have HLA2 := Lib.hid (HLA.out hk1 hk2)
      have HOL2 := Lib.hid (HOL.out hk1 hk2)
      clear HLA HOL HROW HM1 hn hK0 hk1 HLI HSZ0 HCN HTE HCE HK
      go_wp2_with fail
      with_reducible refine HLX.out.mono ?_
      clear x0 x1 x2 x3 z0 z1 z2 q0 q1
      rintro e w7 ⟨a7, n7, c7, rfl, hb7, hrd7⟩
      have HB7 := Lib.hid (HB6.out.trans (hb7.mono HB6.out.size))
      have X7 := Lib.hid (bx_keep X6.out hb7)
      have HB67 := Lib.hid hb7
      clear hb7 HLX
      cases spec with
      | none =>
        have HF := Lib.hid (HFIN.out w7 HB7.out)
        clear hcase hrd7 HLA2 HOL2
        go_wp2_with fail
        first | exact HF.out | (go_ret; exact HF.out)
      | some L =>
        have hr7 := hrd7 L rfl
        obtain ⟨hLE, hLK, hLM⟩ := HLA2.out L rfl
        have hbb := hr7.bounds
        rw [List.length_map] at hbb
        obtain ⟨rfl, hcb1, hcb2⟩ := hbb
        unfold maxLen at hcb2
        have HLE := Lib.hid hLE
        have HR7 := Lib.hid hr7
        have HLM := Lib.hid hLM
        clear hrd7 HLA2 hLE hr7 hLM
        obtain ⟨ll, HLL⟩ := nameIt L.length
        rw [HLL.out] at hLK hcb1 HLM
        rw [HLL.out]
        subst hLK
        rcases hcase with ⟨hio, rfl, rfl, rfl, hvv⟩ | ⟨hi0, hi1, rfl, t, ht, hrt, htt, hrdt⟩
        · have HF := Lib.hid (HFIN.out w7 HB7.out)
          clear HLM HR7 HLE hvv
          by_cases hneg : ii < 0
          · clear hio
            go_wp2_with fail
            first | exact HF.out | (go_ret; exact HF.out)
          · have hge : (ll : Int) ≤ ii := by omega
            clear hio
            go_wp2_with fail
            first | exact HF.out | (go_ret; exact HF.out)
        · have hneg : decide (ii < 0) = false := by simpa using hi0
          have hge : decide ((ll : Int) ≤ ii) = false := by simpa using hi1
          have HTH := Lib.hid ht
          have HRH := Lib.hid hrdt
          have HI := Lib.hid (show 0 ≤ ii ∧ ii < (ll : Int) from ⟨hi0, hi1⟩)
          have HRT0 := Lib.hid hrt
          have HTT0 := Lib.hid htt
          clear ht hrdt hMC hk2 hk0 hk9 hi0 hi1 hrt htt he hok hdn
          go_wp2_with fail
          have hi0 := HI.out.1
          have hi1 := HI.out.2
          have hrt := HRT0.out
          have htt := HTT0.out
          have ht := HTH.out
          have hrdt := HRH.out
          obtain ⟨i, rfl⟩ := Int.eq_ofNat_of_zero_le hi0
          rw [Int.toNat_natCast] at ht
          have hil : i < ll := by omega
          have hiL : i < L.length := by rw [HLL.out]; exact hil
          have hLi : L[i] = t := by
            rw [← HLE.out, List.getElem?_eq_getElem hiL] at ht
            exact Option.some.inj ht
          have HNT := Lib.hid (HND.out (HLM.out (by omega)) t (List.mem_of_getElem? ht))
          have HOLT := Lib.hid (fun a b k hv => HOL2.out i t a b k ht hv)
          obtain ⟨kb, ko, kv, rfl, -, -, q0, q1, q2, hkk⟩ := HR7.out.kid hiL
          rw [hLi] at q0 q1 hkk
          obtain ⟨kka, kkc, rfl, -, -⟩ := hkk.form
          subst hrt htt
          have HKK := Lib.hid hkk.any
          have HRT := Lib.hid (hrdt.below HB67.out)
          obtain ⟨kn, HKN⟩ := nameIt (t.kids.map Tree.d).length
          rw [HKN.out] at q2 HKK
          have HCM : Hid (∀ W, Below w7.heap.size w7 W → Calls Try.prog 25 #[.agg #[.int .i64 t.rule, .int .i64 t.term, .slice va vn vc], .agg #[.int .i64 t.rule, .int .i64 t.term, .slice kka kn kkc]] W fun e w' => e = .returned (.int .i64 0) ∧ Below W.heap.size W w') := by
            intro W hb
            have h := TreeOrder.compareT t _ t _ W (HRT.out.below hb) (HKK.out.below hb) HNT.out HNT.out
            rw [treeCmp_refl] at h
            exact h
          have HSZ : Hid (∀ W, Below w7.heap.size w7 W → Calls Try.prog 22 #[.agg #[.int .i64 t.rule, .int .i64 t.term, .slice kka kn kkc]] W fun e w' => e = .returned (.int .i64 (nodes t).length) ∧ Below W.heap.size W w') := by
            intro W hb
            exact sizeE t _ W (HKK.out.below hb) (by have := HNT.out; omega)
          have HOFT : Hid (∀ W, Below w7.heap.size w7 W → Calls Try.prog 18 #[.agg #[.int .i64 gt, .int .i64 gn, .int .i64 (st : Int), .slice ra rl rcap], .agg #[.int .i64 t.rule, .int .i64 t.term, .slice kka kn kkc]] W (RkPost g t W)) := by
            intro W hb
            exact HOF.out t kka kn kkc W (HB7.out.trans (hb.mono HB7.out.size)) (HKK.out.below hb) HNT.out
          obtain ⟨tr, HTR⟩ := nameIt t.rule
          obtain ⟨tt, HTT⟩ := nameIt t.term
          obtain ⟨nd, HNDN⟩ := nameIt (nodes t).length
          rw [HTR.out] at q0 X7 HCM HSZ HOFT
          rw [HTT.out] at q1 X7 HCM HSZ HOFT
          rw [HNDN.out] at HSZ HOLT
          rw [HTR.out, HTT.out]
          have hil1 : (i : Int) < (ll : Int) := by omega
          have b6 : ((i : Int) == (i : Int)) = true := by simp
          have b7 : ((n : Int) == (n : Int)) = true := by simp
          clear hkk hrdt ht hLi HOL2 HLM HR7 HLE HNT HND HOF
          by_cases h5 : 5000 < nd
          · have h5' : decide ((5000 : Int) < (nd : Int)) = true := by simp; omega
            have HOFC : Hid (∀ W, Below w7.heap.size w7 W → Calls Try.prog 18 #[.agg #[.int .i64 gt, .int .i64 gn, .int .i64 (st : Int), .slice ra rl rcap], .agg #[.int .i64 tr, .int .i64 tt, .slice kka kn kkc]] W (fun e w' => e = .returned (.tuple #[.int .i64 0, .int .i64 0, .int .i64 2]) ∧ Below W.heap.size W w')) := by
              intro W hb
              refine (HOFT.out W hb).mono ?_
              rintro e w' ⟨hb', a, b, k, rfl, hv⟩
              have := HOLT.out a b k hv
              rw [if_pos h5] at this
              obtain ⟨rfl, rfl, rfl⟩ := this
              exact ⟨rfl, hb'⟩
            clear HOFT HOLT
            obtain ⟨x0, x1, x2, x3⟩ := HGB.out w7 HB7.out
            have k0 := aft_cell x0
            have k1 := aft_cell x1
            have k2 := aft_cell x2
            have k3 := aft_cell x3
            have k4 := aft_cell q0
            have k5 := aft_cell q1
            have k6 := aft_cell q2
            obtain ⟨z0, z1, z2⟩ := bx_cells3 X7.out
            clear x0 x1 x2 x3
            refine wp_region_after (by kernel_rfl) (by kernel_rfl) ?_
            repeat (go_big_quiet_step (with_reducible exact Calls.after (HOFC.out _ (Aft.bel _))))
            refine wpQuiet_nil ?_
            rintro w8 ⟨⟨_, hb8⟩, rfl⟩
            have HB78 := Lib.hid hb8
            have X8 := Lib.hid (bx_keep X7.out hb8)
            have p0 := (hb8.cell (lt_of_cell q0)).trans q0
            have p1 := (hb8.cell (lt_of_cell q1)).trans q1
            have p2 := (hb8.cell (lt_of_cell q2)).trans q2
            have HSZ8 := Lib.hid (HSZ.out w8 HB78.out)
            clear hb8 k0 k1 k2 k3 k4 k5 k6 q0 q1 q2 z0 z1 z2 HOFC HSZ
            go_wp2_with fail
            with_reducible refine HSZ8.out.mono ?_
            rintro e w9 ⟨rfl, hb9⟩
            have HB79 := Lib.hid (HB78.out.trans (hb9.mono HB78.out.size))
            have X9 := Lib.hid (bx_keep X8.out hb9)
            have q0 := (hb9.cell (lt_of_cell p0)).trans p0
            have q1 := (hb9.cell (lt_of_cell p1)).trans p1
            have q2 := (hb9.cell (lt_of_cell p2)).trans p2
            obtain ⟨z0, z1, z2⟩ := bx_cells3 X9.out
            have k0 := aft_cell z0
            have k1 := aft_cell z1
            have k2 := aft_cell z2
            have k3 := aft_cell q0
            have k4 := aft_cell q1
            have k5 := aft_cell q2
            have HCM9 : Hid (∀ W, Below w9.heap.size w9 W → Calls Try.prog 25 #[.agg #[.int .i64 tr, .int .i64 tt, .slice va vn vc], .agg #[.int .i64 tr, .int .i64 tt, .slice kka kn kkc]] W fun e w' => e = .returned (.int .i64 0) ∧ Below W.heap.size W w') := fun W hb => HCM.out W (HB79.out.trans (hb.mono HB79.out.size))
            clear hb9 p0 p1 p2 q0 q1 q2 z0 z1 z2 HSZ8 HCM
            go_upto_region 25 with fail
            refine wp_region_after (by kernel_rfl) (by kernel_rfl) ?_
            repeat (go_big_quiet_step (with_reducible exact Calls.after (HCM9.out _ (Aft.bel _))))
            refine wpQuiet_nil ?_
            rintro w10 ⟨⟨_, hb10⟩, rfl⟩
            have HF := Lib.hid (HFIN.out _ (HB7.out.trans ((HB79.out.trans (hb10.mono HB79.out.size)).mono HB7.out.size)))
            clear hb10 k0 k1 k2 k3 k4 k5
            go_wp2_with fail
            first | exact HF.out | (go_ret; exact HF.out)
          · have h5' : decide ((5000 : Int) < (nd : Int)) = false := by simp; omega
            have HOFC : Hid (∀ W, Below w7.heap.size w7 W → Calls Try.prog 18 #[.agg #[.int .i64 gt, .int .i64 gn, .int .i64 (st : Int), .slice ra rl rcap], .agg #[.int .i64 tr, .int .i64 tt, .slice kka kn kkc]] W (fun e w' => e = .returned (.tuple #[.int .i64 (n : Int), .int .i64 (i : Int), .int .i64 0]) ∧ Below W.heap.size W w')) := by
              intro W hb
              refine (HOFT.out W hb).mono ?_
              rintro e w' ⟨hb', a, b, k, rfl, hv⟩
              have := HOLT.out a b k hv
              rw [if_neg h5] at this
              obtain ⟨rfl, rfl, rfl⟩ := this
              exact ⟨rfl, hb'⟩
            clear HOFT HOLT
            obtain ⟨x0, x1, x2, x3⟩ := HGB.out w7 HB7.out
            have k0 := aft_cell x0
            have k1 := aft_cell x1
            have k2 := aft_cell x2
            have k3 := aft_cell x3
            have k4 := aft_cell q0
            have k5 := aft_cell q1
            have k6 := aft_cell q2
            obtain ⟨z0, z1, z2⟩ := bx_cells3 X7.out
            clear x0 x1 x2 x3
            refine wp_region_after (by kernel_rfl) (by kernel_rfl) ?_
            repeat (go_big_quiet_step (with_reducible exact Calls.after (HOFC.out _ (Aft.bel _))))
            refine wpQuiet_nil ?_
            rintro w8 ⟨⟨_, hb8⟩, rfl⟩
            have HB78 := Lib.hid hb8
            have X8 := Lib.hid (bx_keep X7.out hb8)
            have p0 := (hb8.cell (lt_of_cell q0)).trans q0
            have p1 := (hb8.cell (lt_of_cell q1)).trans q1
            have p2 := (hb8.cell (lt_of_cell q2)).trans q2
            have HSZ8 := Lib.hid (HSZ.out w8 HB78.out)
            clear hb8 k0 k1 k2 k3 k4 k5 k6 q0 q1 q2 z0 z1 z2 HOFC HSZ
            go_wp2_with fail
            with_reducible refine HSZ8.out.mono ?_
            rintro e w9 ⟨rfl, hb9⟩
            have HB79 := Lib.hid (HB78.out.trans (hb9.mono HB78.out.size))
            have X9 := Lib.hid (bx_keep X8.out hb9)
            have q0 := (hb9.cell (lt_of_cell p0)).trans p0
            have q1 := (hb9.cell (lt_of_cell p1)).trans p1
            have q2 := (hb9.cell (lt_of_cell p2)).trans p2
            obtain ⟨z0, z1, z2⟩ := bx_cells3 X9.out
            have k0 := aft_cell z0
            have k1 := aft_cell z1
            have k2 := aft_cell z2
            have k3 := aft_cell q0
            have k4 := aft_cell q1
            have k5 := aft_cell q2
            have HCM9 : Hid (∀ W, Below w9.heap.size w9 W → Calls Try.prog 25 #[.agg #[.int .i64 tr, .int .i64 tt, .slice va vn vc], .agg #[.int .i64 tr, .int .i64 tt, .slice kka kn kkc]] W fun e w' => e = .returned (.int .i64 0) ∧ Below W.heap.size W w') := fun W hb => HCM.out W (HB79.out.trans (hb.mono HB79.out.size))
            clear hb9 p0 p1 p2 q0 q1 q2 z0 z1 z2 HSZ8 HCM
            go_upto_region 26 with fail
            refine wp_region_after (by kernel_rfl) (by kernel_rfl) ?_
            repeat (go_big_quiet_step (with_reducible exact Calls.after (HCM9.out _ (Aft.bel _))))
            refine wpQuiet_nil ?_
            rintro w10 ⟨⟨_, hb10⟩, rfl⟩
            have HF := Lib.hid (HFIN.out _ (HB7.out.trans ((HB79.out.trans (hb10.mono HB79.out.size)).mono HB7.out.size)))
            clear hb10 k0 k1 k2 k3 k4 k5
            go_wp2_with fail
            first | exact HF.out | (go_ret; exact HF.out)
end Cs
end Go.Proofs.Ytbnpemgmdnghgaa
namespace Go.Proofs.Ytbnpemgmdnghgaa
open Go.RowKit Go.ChangeShapes Go.WideShapes Go.Deep

/-- data of a type read as plain data, as far as the fuel N goes: sz: at most its bulk; ok: what its numbers keep; lim: what the reach gives -/
def OpensF {α : Type} (P : Program) (t : TypeId) (e : α → D) (sz : α → Nat) (ok lim : α → Prop) (N : Nat) : Prop :=
  ∀ (H : Type) (enc : TypeId × Value → H) (w : World) (n : Nat) (cs : List Value) (x : DataW H × List MemPlace), n ≤ N → DataW.trod enc P w 0 (fun _ => true) true n t cs = some x →
    ∃ a : α, Rd AnyB w (e a) cs ∧ sz a ≤ Rows.uptoBulk x.1 ∧ ok a ∧ ((∀ y ∈ DataW.weights P t x.1, y ≤ reachBytes) → lim a)
def Opens {α : Type} (P : Program) (t : TypeId) (e : α → D) (sz : α → Nat) (ok lim : α → Prop) : Prop := ∀ N, OpensF P t e sz ok lim N

def i64 (n : Int) : Prop := -9223372036854775808 ≤ n ∧ n ≤ 9223372036854775807
def one {α : Type} (_ : α) : Nat := 1
def any {α : Type} (_ : α) : Prop := True

theorem opens_int {P : Program} {t : TypeId} (ht : P.underlying t = some (.int .i64)) : Opens P t D.int one i64 any := by
  intro N H enc w n cs x _ h
  obtain ⟨z, h1, h2, h3⟩ := DataW.trod_int ht h
  subst h1 h2
  refine ⟨z, rfl, by simp [Rows.uptoBulk, one], ?_, fun _ => trivial⟩
  simpa [Lit.wf, IntKind.min, IntKind.max, IntKind.signed, IntKind.bits, i64] using h3
theorem opens_bool {P : Program} {t : TypeId} (ht : P.underlying t = some .bool) : Opens P t D.bool one any any := by
  intro N H enc w n cs x _ h
  obtain ⟨z, h1, h2⟩ := DataW.trod_bool ht h
  subst h1 h2
  exact ⟨z, rfl, by simp [Rows.uptoBulk, one], trivial, fun _ => trivial⟩

theorem bulkAll_append {H : Type} (l r : List (DataW H)) : Rows.uptoBulkAll (l ++ r) = Rows.uptoBulkAll l + Rows.uptoBulkAll r := by
  induction l with
  | nil => simp [Rows.uptoBulkAll]
  | cons x l ih => simp only [List.cons_append, Rows.uptoBulkAll, ih]; omega
theorem weightsAll_append {H : Type} (P : Program) (e : TypeId) (l r : List (DataW H)) : DataW.weightsAll P e (l ++ r) = DataW.weightsAll P e l ++ DataW.weightsAll P e r := by
  induction l with
  | nil => simp [DataW.weightsAll]
  | cons x l ih => simp [DataW.weightsAll, ih]

def slD {α : Type} (e : α → D) (l : List α) : D := .sl (l.map e)
def slSz {α : Type} (sz : α → Nat) (l : List α) : Nat := (l.map sz).sum + 1
def slOk {α : Type} (ok : α → Prop) (l : List α) : Prop := ∀ a ∈ l, ok a
def slLim {α : Type} (b : Nat) (lim : α → Prop) (l : List α) : Prop := l.length * b ≤ reachBytes ∧ ∀ a ∈ l, lim a

theorem opens_slice {α : Type} {P : Program} {t el : TypeId} {e : α → D} {sz : α → Nat} {ok lim : α → Prop} {N b : Nat} (ht : P.underlying t = some (.slice el)) (hby : P.bytesOf el = b) (ho : OpensF P el e sz ok lim N) :
    OpensF P t (slD e) (slSz sz) (slOk ok) (slLim b lim) N := by
  intro H enc w n cs x hn h
  rcases DataW.trod_slice ht h with ⟨rfl, rfl⟩ | ⟨a, len, cap, elems, rest, n', hf, rfl, rfl, hb, hl, hm, hlen, hel, _, _⟩
  · exact ⟨[], ⟨none, 0, [], rfl, by simp, by simp [maxLen], fun _ => rfl, fun i hi => by simp at hi, rfl⟩, by simp [Rows.uptoBulk, slSz], by simp [slOk], fun _ => ⟨by simp, by simp⟩⟩
  · have key : ∀ k, k ≤ len → ∃ (l : List α) (L : List Value), l.length = k ∧ RdAll AnyB w (l.map e) L ∧ L.length = k * P.cellsOf el ∧ (∀ j (hj : j < L.length), w.cell? (a.add j) = some L[j]) ∧
        (l.map sz).sum ≤ Rows.uptoBulkAll ((elems.take k).map (·.1)) ∧ slOk ok l ∧ ((∀ y ∈ DataW.weightsAll P el ((elems.take k).map (·.1)), y ≤ reachBytes) → ∀ a ∈ l, lim a) := by
      intro k
      induction k with
      | zero => intro _; exact ⟨[], [], rfl, by simp [RdAll], by simp, fun j hj => by simp at hj, by simp, by simp [slOk], fun _ => by simp⟩
      | succ k ih =>
        intro hk
        obtain ⟨l, L, h1, h2, h3, h4, h5, h6, h7⟩ := ih (by omega)
        have hk' : k < elems.length := by omega
        have he := hel k (by omega)
        rw [List.getElem?_eq_getElem hk'] at he
        obtain ⟨cs', hc1, hc2⟩ := Option.bind_eq_some_iff.1 he
        obtain ⟨a', r1, r2, r3, r4⟩ := ho H enc w n' cs' elems[k] (by omega) hc2
        obtain ⟨_, hcl, hcc⟩ := World.cells?_some hc1
        refine ⟨l ++ [a'], L ++ cs', by simp [h1], by rw [List.map_append]; exact RdAll.append h2 (RdAll.one r1), by simp [h3, hcl, Nat.add_mul], ?_, ?_, ?_, ?_⟩
        · intro j hj
          by_cases hjl : j < L.length
          · rw [List.getElem_append_left hjl]; exact h4 j hjl
          · simp at hj
            rw [List.getElem_append_right (by omega)]
            have := hcc (j - L.length) (by omega)
            rw [Deep.add_add, ← h3, show L.length + (j - L.length) = j by omega] at this
            rw [this, List.getElem?_eq_getElem (by omega)]
        · rw [List.take_succ_eq_append_getElem hk', List.map_append, List.map_append, bulkAll_append]
          simp [Rows.uptoBulkAll]
          simp at h5
          omega
        · intro y hy
          rcases List.mem_append.1 hy with h | h
          · exact h6 y h
          · simp at h; subst h; exact r3
        · intro hw y hy
          rw [List.take_succ_eq_append_getElem hk', List.map_append, weightsAll_append] at hw
          rcases List.mem_append.1 hy with h | h
          · exact h7 (fun z hz => hw z (List.mem_append_left _ hz)) y h
          · simp at h; subst h
            exact r4 (fun z hz => hw z (List.mem_append_right _ (by simpa [DataW.weightsAll] using hz)))
    obtain ⟨l, L, h1, h2, h3, h4, h5, h6, h7⟩ := key len (Nat.le_refl _)
    rw [List.take_of_length_le (by omega)] at h5 h7
    refine ⟨l, ⟨some a, cap, L, by simp [h1], by simpa [h1] using hl, hm, (fun h => by cases h), fun i hi => ⟨a, rfl, trivial, h4 i hi⟩, h2⟩, ?_, h6, ?_⟩
    · simp only [Rows.uptoBulk, slSz]; omega
    · intro hw
      simp only [DataW.weights, ht] at hw
      refine ⟨?_, h7 fun y hy => hw y (by simp [hy])⟩
      have := hw ((elems.map (·.1)).length + (rest.map (·.1)).length |>.mul (P.bytesOf el)) (by left)
      rw [h1, ← hlen, ← hby]
      have h8 : elems.length * P.bytesOf el ≤ ((elems.map (·.1)).length + (rest.map (·.1)).length) * P.bytesOf el := Nat.mul_le_mul_right _ (by simp)
      exact Nat.le_trans h8 this

theorem split2 {cs : List Value} {c0 c1 : Nat} (h : cs.length = c0 + c1) : cs = (cs.drop 0).take c0 ++ (cs.drop c0).take c1 := by
  rw [List.drop_zero, List.take_of_length_le (l := cs.drop c0) (by simp; omega), List.take_append_drop]
theorem split3 {cs : List Value} {c0 c1 c2 : Nat} (h : cs.length = c0 + c1 + c2) : cs = (cs.drop 0).take c0 ++ ((cs.drop c0).take c1 ++ (cs.drop (c0 + c1)).take c2) := by
  rw [← List.drop_drop, ← split2' (cs := cs.drop c0) (by simp; omega)]
  simp
where
  split2' {cs : List Value} {c1 c2 : Nat} (h : cs.length = c1 + c2) : cs = cs.take c1 ++ (cs.drop c1).take c2 := by
    have := split2 h
    simpa using this
theorem split4 {cs : List Value} {c0 c1 c2 c3 : Nat} (h : cs.length = c0 + c1 + c2 + c3) : cs = (cs.drop 0).take c0 ++ ((cs.drop c0).take c1 ++ ((cs.drop (c0 + c1)).take c2 ++ (cs.drop (c0 + c1 + c2)).take c3)) := by
  have h3 := split3 (cs := cs.drop c0) (c0 := c1) (c1 := c2) (c2 := c3) (by simp; omega)
  simp only [List.drop_drop, List.drop_zero] at h3 ⊢
  rw [← Nat.add_assoc, Nat.add_zero] at h3
  rw [← h3, List.take_append_drop]

theorem opens_struct2 {α β δ : Type} {P : Program} {t : TypeId} {f0 f1 : Field} {e0 : α → D} {e1 : β → D} {s0 : α → Nat} {s1 : β → Nat} {k0 l0 : α → Prop} {k1 l1 : β → Prop} {N c0 c1 : Nat} (mk : α → β → δ) {e : δ → D} {sz : δ → Nat} {ok lim : δ → Prop}
    (ht : P.underlying t = some (.struct #[f0, f1])) (ho : f0.offset = 0 ∧ f1.offset = c0 ∧ P.cellsOf f0.type = c0 ∧ P.cellsOf f1.type = c1 ∧ P.cellsOf t = c0 + c1)
    (h0 : OpensF P f0.type e0 s0 k0 l0 N) (h1 : OpensF P f1.type e1 s1 k1 l1 N)
    (he : ∀ a b, e (mk a b) = .agg [e0 a, e1 b]) (hs : ∀ a b, sz (mk a b) ≤ s0 a + s1 b + 1) (hk : ∀ a b, k0 a → k1 b → ok (mk a b)) (hl : ∀ a b, l0 a → l1 b → lim (mk a b)) : OpensF P t e sz ok lim (N + 1) := by
  intro H enc w n cs x hn h
  obtain ⟨xs, n', hf, rfl, hcl, hlen, hfs⟩ := DataW.trod_struct ht h
  obtain ⟨o0, o1, p0, p1, p2⟩ := ho
  match xs, hlen with
  | [y0, y1], _ =>
    have g0 : DataW.trod enc P w 0 (fun _ => true) true n' f0.type ((cs.drop f0.offset).take (P.cellsOf f0.type)) = some y0 := by simpa using hfs 0 f0 rfl
    have g1 : DataW.trod enc P w 0 (fun _ => true) true n' f1.type ((cs.drop f1.offset).take (P.cellsOf f1.type)) = some y1 := by simpa using hfs 1 f1 rfl
    obtain ⟨a, r1, r2, r3, r4⟩ := h0 H enc w n' _ _ (by omega) g0
    obtain ⟨b, q1, q2, q3, q4⟩ := h1 H enc w n' _ _ (by omega) g1
    rw [o0, p0] at r1
    rw [o1, p1] at q1
    refine ⟨mk a b, ?_, ?_, hk a b r3 q3, fun hw => ?_⟩
    · rw [he, split2 (hcl.trans p2)]
      exact ⟨_, _, rfl, r1, RdAll.one q1⟩
    · have := hs a b
      simp [Rows.uptoBulk, Rows.uptoBulkAll]; omega
    · simp [DataW.weights, ht, DataW.weightsEach] at hw
      exact hl a b (r4 fun y hy => hw y (by simp [hy])) (q4 fun y hy => hw y (by simp [hy]))

theorem opens_struct4 {α β γ ε δ : Type} {P : Program} {t : TypeId} {f0 f1 f2 f3 : Field} {e0 : α → D} {e1 : β → D} {e2 : γ → D} {e3 : ε → D} {s0 : α → Nat} {s1 : β → Nat} {s2 : γ → Nat} {s3 : ε → Nat} {k0 l0 : α → Prop} {k1 l1 : β → Prop} {k2 l2 : γ → Prop} {k3 l3 : ε → Prop} {N c0 c1 c2 c3 : Nat} (mk : α → β → γ → ε → δ) {e : δ → D} {sz : δ → Nat} {ok lim : δ → Prop}
    (ht : P.underlying t = some (.struct #[f0, f1, f2, f3])) (ho : f0.offset = 0 ∧ f1.offset = c0 ∧ f2.offset = c0 + c1 ∧ f3.offset = c0 + c1 + c2 ∧ P.cellsOf f0.type = c0 ∧ P.cellsOf f1.type = c1 ∧ P.cellsOf f2.type = c2 ∧ P.cellsOf f3.type = c3 ∧ P.cellsOf t = c0 + c1 + c2 + c3)
    (h0 : OpensF P f0.type e0 s0 k0 l0 N) (h1 : OpensF P f1.type e1 s1 k1 l1 N) (h2 : OpensF P f2.type e2 s2 k2 l2 N) (h3 : OpensF P f3.type e3 s3 k3 l3 N)
    (he : ∀ a b c d, e (mk a b c d) = .agg [e0 a, e1 b, e2 c, e3 d]) (hs : ∀ a b c d, sz (mk a b c d) ≤ s0 a + s1 b + s2 c + s3 d + 1) (hk : ∀ a b c d, k0 a → k1 b → k2 c → k3 d → ok (mk a b c d)) (hl : ∀ a b c d, l0 a → l1 b → l2 c → l3 d → lim (mk a b c d)) : OpensF P t e sz ok lim (N + 1) := by
  intro H enc w n cs x hn h
  obtain ⟨xs, n', hf, rfl, hcl, hlen, hfs⟩ := DataW.trod_struct ht h
  obtain ⟨o0, o1, o2, o3, p0, p1, p2, p3, p4⟩ := ho
  match xs, hlen with
  | [y0, y1, y2, y3], _ =>
    have g0 : DataW.trod enc P w 0 (fun _ => true) true n' f0.type ((cs.drop f0.offset).take (P.cellsOf f0.type)) = some y0 := by simpa using hfs 0 f0 rfl
    have g1 : DataW.trod enc P w 0 (fun _ => true) true n' f1.type ((cs.drop f1.offset).take (P.cellsOf f1.type)) = some y1 := by simpa using hfs 1 f1 rfl
    have g2 : DataW.trod enc P w 0 (fun _ => true) true n' f2.type ((cs.drop f2.offset).take (P.cellsOf f2.type)) = some y2 := by simpa using hfs 2 f2 rfl
    have g3 : DataW.trod enc P w 0 (fun _ => true) true n' f3.type ((cs.drop f3.offset).take (P.cellsOf f3.type)) = some y3 := by simpa using hfs 3 f3 rfl
    obtain ⟨a, r1, r2, r3, r4⟩ := h0 H enc w n' _ _ (by omega) g0
    obtain ⟨b, q1, q2, q3, q4⟩ := h1 H enc w n' _ _ (by omega) g1
    obtain ⟨c, u1, u2, u3, u4⟩ := h2 H enc w n' _ _ (by omega) g2
    obtain ⟨d, v1, v2, v3, v4⟩ := h3 H enc w n' _ _ (by omega) g3
    rw [o0, p0] at r1
    rw [o1, p1] at q1
    rw [o2, p2] at u1
    rw [o3, p3] at v1
    refine ⟨mk a b c d, ?_, ?_, hk a b c d r3 q3 u3 v3, fun hw => ?_⟩
    · rw [he, split4 (hcl.trans p4)]
      exact ⟨_, _, rfl, r1, _, _, rfl, q1, _, _, rfl, u1, RdAll.one v1⟩
    · have := hs a b c d
      simp [Rows.uptoBulk, Rows.uptoBulkAll]; omega
    · simp [DataW.weights, ht, DataW.weightsEach] at hw
      exact hl a b c d (r4 fun y hy => hw y (by simp [hy])) (q4 fun y hy => hw y (by simp [hy])) (u4 fun y hy => hw y (by simp [hy])) (v4 fun y hy => hw y (by simp [hy]))

/-- the argument j -/
theorem open_arg {α : Type} {P : Program} {t : TypeId} {e : α → D} {sz : α → Nat} {ok lim : α → Prop} (ho : Opens P t e sz ok lim) {H : Type} {enc : TypeId × Value → H} {W : World} {v : Value} {d : DataW H} {p : List MemPlace} (h : DataW.Trod enc P W 0 (fun _ => true) true t v d p) :
    ∃ a : α, Rd AnyB W (e a) v.cells.toList ∧ sz a ≤ Rows.uptoBulk d ∧ ok a ∧ ((∀ y ∈ DataW.weights P t d, y ≤ reachBytes) → lim a) := by
  obtain ⟨n, hn⟩ := h
  exact ho n H enc W n _ _ (Nat.le_refl _) hn
end Go.Proofs.Ytbnpemgmdnghgaa
namespace Go.Proofs.Ytbnpemgmdnghgaa
open Go.RowKit Go.ChangeShapes Go.WideShapes Go.Deep Go.Joins

def okSym (s : Sym) : Prop := i64 s.n
def okRule (r : Rule) : Prop := i64 r.left ∧ ∀ s ∈ r.right, okSym s
def okGram (g : Gram) : Prop := i64 g.terms ∧ i64 g.nons ∧ i64 g.start ∧ ∀ r ∈ g.rules, okRule r
def szSym (_ : Sym) : Nat := 1
def szRule (r : Rule) : Nat := slSz szSym r.right
def szGram (g : Gram) : Nat := slSz szRule g.rules

set_option maxRecDepth 100000 in
theorem opens_symF (N : Nat) : OpensF Try.prog 65 Sym.d szSym okSym any (N + 1) :=
  opens_struct2 (c0 := 1) (c1 := 1) (fun a b => Sym.mk a b) Try.underlying65 ⟨rfl, rfl, by kernel_rfl, by kernel_rfl, by kernel_rfl⟩ (opens_bool Try.underlying4 N) (opens_int Try.underlying3 N)
    (fun _ _ => rfl) (fun _ _ => by simp [szSym]) (fun _ _ _ h => h) (fun _ _ _ _ => trivial)
set_option maxRecDepth 100000 in
theorem opens_ruleF (N : Nat) : OpensF Try.prog 48 Rule.d szRule okRule any (N + 1 + 1) :=
  opens_struct2 (c0 := 1) (c1 := 1) (fun a b => Rule.mk a b) Try.underlying48 ⟨rfl, rfl, by kernel_rfl, by kernel_rfl, by kernel_rfl⟩ (opens_int Try.underlying3 (N + 1)) (opens_slice Try.underlying46 (b := 16) (by kernel_rfl) (opens_symF N))
    (fun _ _ => rfl) (fun _ _ => by simp [szRule]; omega) (fun _ _ h k => ⟨h, k⟩) (fun _ _ _ _ => trivial)
set_option maxRecDepth 100000 in
theorem opens_gramF (N : Nat) : OpensF Try.prog 24 Gram.d szGram okGram any (N + 1 + 1 + 1) :=
  opens_struct4 (c0 := 1) (c1 := 1) (c2 := 1) (c3 := 1) (fun a b c d => Gram.mk a b c d) Try.underlying24 ⟨rfl, rfl, rfl, rfl, by kernel_rfl, by kernel_rfl, by kernel_rfl, by kernel_rfl, by kernel_rfl⟩ (opens_int Try.underlying3 (N + 1 + 1)) (opens_int Try.underlying3 (N + 1 + 1)) (opens_int Try.underlying3 (N + 1 + 1)) (opens_slice Try.underlying22 (b := 32) (by kernel_rfl) (opens_ruleF N))
    (fun _ _ _ _ => rfl) (fun _ _ _ _ => by simp [szGram]; omega) (fun _ _ _ _ h1 h2 h3 h4 => ⟨h1, h2, h3, h4⟩) (fun _ _ _ _ _ _ _ _ => trivial)
theorem opens_gram : Opens Try.prog 24 Gram.d szGram okGram any := by
  intro N H enc w n cs x hn h
  exact opens_gramF N H enc w n cs x (by omega) h

set_option maxRecDepth 100000 in
theorem open_gramV {W : World} {base : Nat} {v : Value} {g : Gram} (hv : Value.okWide Try.prog W .any base 24 v) (h : Rd AnyB W g.d v.cells.toList) : ∃ u, v = .agg #[.int .i64 g.terms, .int .i64 g.nons, .int .i64 g.start, u] ∧ Rd AnyB W (.sl (g.rules.map Rule.d)) [u] := by
  obtain ⟨cs, rfl, hsz⟩ := okWide_struct Try.underlying24 hv
  obtain ⟨c1, r1, e1, h1, h2⟩ := h
  obtain ⟨c2, r2, rfl, h2, h3⟩ := h2
  obtain ⟨c3, r3, rfl, h3, h4⟩ := h3
  rw [RdAll.one_iff] at h4
  simp [Rd] at h1 h2 h3
  subst h1 h2 h3
  have h5 := h4
  obtain ⟨a, cap, L, e, _⟩ := h4
  subst e
  refine ⟨_, ?_, h5⟩
  congr 1
  exact Array.toList_inj.1 e1
end Go.Proofs.Ytbnpemgmdnghgaa
namespace Go.Proofs.Ytbnpemgmdnghgaa.RowRankTells
open Go.ChangeShapes Go.WideShapes Go.ChangeAt Go.RowKit
theorem own : ownKnob Try.prog.godebug = none := by kernel_rfl
theorem laidOut : laidOutB Try.prog = true := by kernel_rfl

set_option maxRecDepth 100000 in
theorem contract (H : Type) (enc : TypeId × Value → H) (W : World) (base : Nat) (args : Array Value) (ds gs : List (DataW H)) (before : List MemPlace)
    (hval0 : ∀ (j : Nat) t v, Try.f6.params[j]? = some t → args[j]? = some v → Value.okWide Try.prog W .any base t v)
    (hW : DataW.Whole enc Try.prog Try.f6.params.toList Rows.rankTellsSpec.vars false W args.toList ds gs before)
    (hsz0 : (DataW.weightsEach Try.prog (Try.f6.params.toList ++ Rows.rankTellsSpec.plain.varTypes Try.prog) (ds ++ gs)).all (· ≤ reachBytes) = true) :
    Calls Try.prog 6 args W fun e W' => ∃ v, e = .returned v ∧ Rows.rankTellsSpec.post enc Try.prog Try.f6 false true false false W args v W' := by
  have hval : ∀ (j : Nat) t v, Try.f6.params[j]? = some t → args[j]? = some v → Value.okWide Try.prog W .any base t v := hval0
  have hW' := hW
  obtain ⟨p, q, hA0, hV, rfl, hfz, hnd⟩ := hW
  have hA : DataW.TrodAll enc Try.prog W 0 (fun _ => true) true Try.f6.params.toList args.toList ds p := hA0
  have hsz : (DataW.weightsEach Try.prog (Try.f6.params.toList ++ Rows.rankTellsSpec.plain.varTypes Try.prog) (ds ++ gs)).all (· ≤ reachBytes) = true := hsz0
  rw [Try.params6] at hA hval hsz
  obtain ⟨v0, vs0, d0, ds0, p0, q0, hargs, rfl, rfl, h0, r0'⟩ := trodAll_cons hA
  obtain ⟨v1, vs1, d1, ds1, p1, q1, rfl, rfl, rfl, h1, r1'⟩ := trodAll_cons r0'
  obtain ⟨v2, vs2, d2, ds2, p2, q2, rfl, rfl, rfl, h2, r2'⟩ := trodAll_cons r1'
  obtain ⟨rfl, rfl, rfl⟩ := trodAll_nil r2'
  obtain rfl : args = #[v0, v1, v2] := by cases args; simp_all
  obtain ⟨rfl, rfl⟩ := trodVars_none hV
  have lt0 : ∀ x ∈ p0, x.block < W.heap.size := by obtain ⟨m, hm⟩ := h0; exact DataW.trod_lt m _ _ _ hm
  have tr0 := h0
  have lt1 : ∀ x ∈ p1, x.block < W.heap.size := by obtain ⟨m, hm⟩ := h1; exact DataW.trod_lt m _ _ _ hm
  have tr1 := h1
  have lt2 : ∀ x ∈ p2, x.block < W.heap.size := by obtain ⟨m, hm⟩ := h2; exact DataW.trod_lt m _ _ _ hm
  have tr2 := h2
  have weightsAt : ∀ (j : Nat) {t : TypeId} {d : DataW H}, (Try.f6.params.toList ++ Rows.rankTellsSpec.plain.varTypes Try.prog)[j]? = some t → ([d0, d1, d2] ++ [])[j]? = some d → ∀ y ∈ DataW.weights Try.prog t d, y ≤ reachBytes := fun j t d ht hd y hy => of_decide_eq_true (List.all_eq_true.1 hsz0 y (DataW.weights_mem_each ht hd y hy))
  obtain ⟨a0, rd0, sz0, k0, li0⟩ := open_arg opens_gram h0
  have lim0 := li0 (weightsAt 0 rfl rfl)
  obtain ⟨u0, rfl, r0⟩ := open_gramV (hval 0 24 v0 rfl rfl) rd0
  obtain ⟨x1, rfl, rfl, rfl, wf1⟩ := open_int Try.underlying3 (hval 1 3 v1 rfl rfl) h1
  have k1 : i64 x1 := by simpa [Lit.wf, IntKind.min, IntKind.max, IntKind.signed, IntKind.bits, i64] using wf1
  obtain ⟨x2, rfl, rfl, rfl, wf2⟩ := open_int Try.underlying3 (hval 2 3 v2 rfl rfl) h2
  have k2 : i64 x2 := by simpa [Lit.wf, IntKind.min, IntKind.max, IntKind.signed, IntKind.bits, i64] using wf2
  clear hA0 hval0
  refine (Cs.lawRT a0 u0 x1 x2 W r0).mono fun e W' ⟨he, bel⟩ => ?_
  subst he
  exact ⟨_, rfl, _, _, _, [], _, [], hW', trodAll_mk1 (shut_bool Try.underlying4 _), (trodAll_cons_mk (Below.trod laidOut (by kernel_rfl) (of_decide_eq_true (by kernel_rfl)) tr0 bel lt0) (trodAll_cons_mk (Below.trod laidOut (by kernel_rfl) (of_decide_eq_true (by kernel_rfl)) tr1 bel lt1) (trodAll_cons_mk (Below.trod laidOut (by kernel_rfl) (of_decide_eq_true (by kernel_rfl)) tr2 bel lt2) trodAll_mk0))), rfl, bel.frame _, fun h => by cases h⟩

set_option maxRecDepth 100000 in
theorem lifted (os : Os) (started : os.Started) (H : Type) (enc : TypeId × Value → H) :
    ReturnsInHanded {} Try.checked os 6 .any (Rows.rankTellsSpec.pre6 enc Try.prog Try.f6 Rows.rankTellsRow.domain false) (Rows.rankTellsSpec.post enc Try.prog Try.f6 false true false false) := by
  refine returnsInHanded_of_change_sized (C := Try.checked) own started (by kernel_rfl) Try.func6
    (ChangeSpec.witness6 (enc := enc) (C := Try.checked) false ⟨#[], #[.agg #[.int .i64 0, .int .i64 0, .int .i64 0, .slice none 0 0], .int .i64 0, .int .i64 0], []⟩ 8 (by kernel_rfl) (by kernel_rfl) (by kernel_rfl) (by kernel_rfl)) ?_
  intro W base args ds gs before hval0 hW hcnd hsz0 _
  exact contract H enc W base args ds gs before hval0 hW hsz0

theorem over : Rows.rankTellsRow.holds Try.pinned (OpenSpec.ofChange Rows.rankTellsSpec) :=
  OpenClaim.holds_of_wide 6 Try.f6 rfl rfl rfl rfl rfl rfl rfl ⟨rfl, rfl, rfl, rfl, rfl⟩ rfl rfl rfl rfl rfl (by kernel_rfl) Try.func6 (by kernel_rfl)
    (of_decide_eq_true (by kernel_rfl)) (by unfold Func.isWrapper; first | (rw [if_pos (by decide +kernel)]; kernel_rfl) | (rw [if_neg (by decide +kernel)]; exact ⟨rfl, rfl⟩))
    (fun os started H enc _ => lifted os started H enc)
end Go.Proofs.Ytbnpemgmdnghgaa.RowRankTells
namespace Go.Proofs.Ytbnpemgmdnghgaa
theorem rankTells_holds : Rows.RankTellsSaid := RowRankTells.over
#print axioms rankTells_holds
end Go.Proofs.Ytbnpemgmdnghgaa
