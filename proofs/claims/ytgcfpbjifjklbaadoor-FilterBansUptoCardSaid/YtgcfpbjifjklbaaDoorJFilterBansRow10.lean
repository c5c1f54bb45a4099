/- parlref4.Banned. slices.Equal of symbols. The contract of TreeFault. A block that is known whole is a row. The contract of two; sizes of trees. The contract of list. What list's grammar says of trees. The walk of the law TreeChecks. The walk of the law FilterBans. -/
import Derived.Test.YtgcfpbjifjklbaaDoorJFilterBansRow4
import Derived.Test.YtgcfpbjifjklbaaDoorJFilterBansRow2
import Derived.Test.YtgcfpbjifjklbaaDoorJFilterBansRow1
import Derived.Test.YtgcfpbjifjklbaaDoorJFilterBansRow9
import Derived.Deep.DeepCutAuto
namespace Go.Proofs.YtgcfpbjifjklbaaDoor
open Go.RowKit
namespace Fb
def BansPost (L : List Ban) (W : World) (e : Ending) (w' : World) : Prop := ∃ v, e = .returned v ∧ w'.ownsRow W.heap.size 42 3 v L.length (banC L) ∧ Below W.heap.size W w'
theorem ban_cases : ∀ fb lb jl je sb : Bool, ¬ (jl = true ∧ je = true) → (jl = true ∨ je = true) → (jl = true ∧ fb = true) ∨ (jl = true ∧ fb = false ∧ lb = true) ∨ (jl = true ∧ fb = false ∧ lb = false ∧ je = false) ∨ (jl = false ∧ je = true ∧ sb = true) ∨ (jl = false ∧ je = true ∧ sb = false) := by decide
theorem same_cases : ∀ fb lb s1 s2 : Bool, (fb = true ∧ s1 = true ∧ (fb && s1 || lb && s2) = true) ∨ (fb = true ∧ s1 = false ∧ lb = true ∧ (fb && s1 || lb && s2) = s2) ∨ (fb = true ∧ s1 = false ∧ lb = false ∧ (fb && s1 || lb && s2) = false) ∨ (fb = false ∧ lb = true ∧ (fb && s1 || lb && s2) = s2) ∨ (fb = false ∧ lb = false ∧ (fb && s1 || lb && s2) = false) := by decide
set_option maxHeartbeats 8000000 in
set_option maxRecDepth 100000 in
theorem bannedE (g : Gram) (l : List Level) (ar : Option Addr) (cr : Nat) (la : Option Addr) (lc : Nat) (W : World) (hK : g.rules.length ≤ 32) (hR : ∀ x ∈ g.rules, x.right.length ≤ 4) (hr : Rd AnyB W (.sl (g.rules.map Rule.d)) [.slice ar g.rules.length cr])
    (hl : Rd AnyB W (.sl (l.map Level.d)) [.slice la l.length lc]) :
    Calls Tryd.prog 10 #[.agg #[.int .i64 g.terms, .int .i64 g.nons, .int .i64 g.start, .slice ar g.rules.length cr], .slice la l.length lc] W (BansPost (bansOf g l) W) := by
  obtain ⟨hc1, hc2⟩ := hr.bounds.2
  obtain ⟨hc3, hc4⟩ := hl.bounds.2
  unfold maxLen at hc2 hc4
  have HA := Lib.hid (allB_le hK hR l)
  have HAR := Lib.hid (rows_le hK l)
  have HK := Lib.hid hK
  have HRR4 := Lib.hid hR
  obtain ⟨gt, HGT⟩ := nameIt g.terms
  obtain ⟨gn, HGN⟩ := nameIt g.nons
  obtain ⟨gs, HGS⟩ := nameIt g.start
  obtain ⟨PST, HP⟩ := nameIt (BansPost (bansOf g l) W)
  have HFIN : Hid (∀ v w', w'.ownsRow W.heap.size 42 3 v (bansOf g l).length (banC (bansOf g l)) → Below W.heap.size W w' → PST (.returned v) w') := by
    intro v w' h1 h2; rw [← HP.out]; exact ⟨v, rfl, h1, h2⟩
  obtain ⟨K, HKn⟩ := nameIt g.rules.length
  obtain ⟨ln, HLNn⟩ := nameIt l.length
  obtain ⟨w0, HW0⟩ := nameIt ((W.alloc (.cells #[.int .i64 gt, .int .i64 gn, .int .i64 gs, .slice ar K cr] 24)).alloc (.cells #[.slice la ln lc] 29))
  have HB0 : Hid (Below W.heap.size W w0) := by rw [← HW0.out]; exact ((Below.refl _ _).alloc (Nat.le_refl _) _).alloc (by simp) _
  have X1 : Hid (w0.heap[W.heap.size]? = some (.cells #[.int .i64 gt, .int .i64 gn, .int .i64 gs, .slice ar K cr] 24 (0, 0))) := by
    rw [← HW0.out]; exact bx_keep (bx_new _ _ _ rfl) ((Below.refl _ _).alloc (Nat.le_refl _) _)
  have X2 : Hid (w0.heap[W.heap.size + 1]? = some (.cells #[.slice la ln lc] 29 (0, 0))) := by rw [← HW0.out]; exact bx_new _ _ _ (by simp)
  have HRR := Lib.hid (hr.below HB0.out)
  have HLR := Lib.hid (hl.below HB0.out)
  rw [HKn.out] at HRR hc1 HK
  have HLV : Hid (∀ (r : Int) (w' : World), Below w0.heap.size w0 w' → Calls Tryd.prog 30 #[.int .i64 r, .pointer (some ⟨W.heap.size + 1, 0, none⟩)] w' fun e w'' => e = .returned (.int .i64 (lvOf l r)) ∧ Below w'.heap.size w' w'') := by
    intro r w' hb
    refine levelE l r (W.heap.size + 1) la lc w' ?_ (HLR.out.below hb)
    have := bx_keep X2.out hb
    rw [HLNn.out]
    exact this
  rw [HLNn.out] at HLR hc3
  rw [HGT.out, HGN.out, HGS.out, HKn.out, HLNn.out, HP.out]
  obtain ⟨x0, x1, x2, x3⟩ := bx_cells4 X1.out
  have hl1 : W.heap.size < w0.heap.size := (Array.getElem?_eq_some_iff.1 X1.out).1
  have hl2 : W.heap.size + 1 < w0.heap.size := (Array.getElem?_eq_some_iff.1 X2.out).1
  have HI0 : Hid (BnI w0 w0 (fun _ => False) (allB g l 0) (.slice none 0 0) w0) := BnI.start w0
  clear hr hl hK hR HP
  have eg : ∀ args w, (callFunc 30 args).run Tryd.prog w = .ok (.enter 30 args) w := enters_of Tryd.func30 (by kernel_rfl) rfl
  go_enter Tryd.func10, Tryd.ntmps10
  go_upto_region 1 with fail
  rw [HW0.out]
  clear HW0
  go_wp2_with fail
  clear x0 x1 x2 x3
  go_loopg [6, 22] K (fun gg v6 v22 wr => ∃ r : Nat, r ≤ K ∧ K - r ≤ gg ∧ v22 = .int .i64 r ∧ Hid (BnI w0 w0 (fun _ => False) (allB g l r) v6 wr))
  case atStart => exact ⟨0, by omega, by omega, rfl, HI0⟩
  case round =>
    clear HI0
    obtain ⟨r, hr, hg, rfl, HI⟩ := hrel
    obtain ⟨LA, HLA⟩ := nameIt (allB g l r)
    have HLAl : Hid (LA.length ≤ r * 128) := by rw [← HLA.out]; exact HA.out r (by rw [HKn.out]; exact hr)
    rw [HLA.out] at HI
    obtain ⟨av, cv, rfl, hcv1, hcv2⟩ := own_len HI.out.own
    unfold maxLen at hcv2
    by_cases hlt : r < K
    · have hlt' : (r : Int) < (K : Int) := by omega
      have hrc : (r : Int) ≤ (cr : Int) := by omega
      have hrl : r < g.rules.length := by rw [HKn.out]; exact hlt
      obtain ⟨rb, ro, vr, hae, -, hbl, d0, d1, hkr⟩ := HRR.out.rule_at hrl
      have HLR2 : Hid (lenR g r = (g.rules[r]).right.length) := lenR_at hrl
      have HAS := Lib.hid (allB_succ g l r)
      have HBAN := Lib.hid (fun p k hk hp => @banned_at g l r p k hrl hk hp)
      obtain ⟨av2, cv2, rfl, hcx1, hcx2⟩ := hkr.form
      rw [List.length_map] at hcx1 hkr d1
      unfold maxLen at hcx2
      obtain ⟨RR, HRR2⟩ := nameIt (g.rules[r]'hrl).right
      obtain ⟨lr, HLf⟩ := nameIt (g.rules[r]'hrl).left
      rw [HRR2.out] at d1 hkr hcx1 HLR2
      rw [HLf.out] at d0
      simp only [HRR2.out] at HBAN
      have HRN4 : Hid (RR.length ≤ 4) := by rw [← HRR2.out]; exact HRR4.out _ (List.getElem_mem _)
      obtain ⟨rn, HRN⟩ := nameIt RR.length
      rw [HRN.out] at HRN4
      rw [HRN.out] at d1 hkr hcx1 HLR2
      replace d0 := (HI.out.bel.cell (lt_of_cell d0)).trans d0
      replace d1 := (HI.out.bel.cell (lt_of_cell d1)).trans d1
      obtain ⟨w4, HW4⟩ := nameIt (wr.alloc (.cells #[.int .i64 lr, .slice av2 rn cv2] 57))
      have X8 : Hid (w4.heap[wr.heap.size]? = some (.cells #[.int .i64 lr, .slice av2 rn cv2] 57 (0, 0))) := by rw [← HW4.out]; exact bx_new _ _ _ rfl
      have HI4 : Hid (BnI w0 w4 (fun k => False ∨ k = wr.heap.size) (LA ++ rows g l r 0) (.slice av LA.length cv) w4) := by rw [← HW4.out, show rows g l r 0 = [] from rfl, List.append_nil]; exact HI.out.push _
      have HKR := Lib.hid hkr
      obtain ⟨b8, HB8⟩ := nameIt wr.heap.size
      rw [HB8.out] at HI4 X8
      obtain ⟨sr, HSR⟩ := nameIt LA.length
      obtain ⟨y0, y1⟩ := bx_cells2 X8.out
      rw [HSR.out] at HI4
      rw [HSR.out]
      subst hae
      go_upto_region 6 with fail
      rw [HW4.out, HB8.out]
      clear d0 d1 hbl hkr HI HW4
      go_wp2_with fail
      clear y0 y1
      have HSZ8 : b8 < w4.heap.size := (Array.getElem?_eq_some_iff.1 X8.out).1
      have HSZ4 : Hid (w0.heap.size ≤ w4.heap.size) := HI4.out.bel.size
      obtain ⟨wo, rfl⟩ : ∃ wo : World, wo = wr := ⟨_, rfl⟩
      go_loopg [6, 30] rn (fun gg v6 v30 wr => ∃ p : Nat, p ≤ rn ∧ rn - p ≤ gg ∧ v30 = .int .i64 p ∧ Hid (BnI w0 w4 (fun k => False ∨ k = b8) (LA ++ rows g l r p) v6 wr))
      case atStart => exact ⟨0, by omega, by omega, rfl, HI4⟩
      case round =>
        clear HI4
        obtain ⟨p, hp, hg2, rfl, HI⟩ := hrel
        obtain ⟨LB, HLB⟩ := nameIt (LA ++ rows g l r p)
        have HLBl : Hid (LB.length ≤ r * 128 + p * 32) := by
          rw [← HLB.out, List.length_append]
          have h1 := HLAl.out
          have h2 := HAR.out r p
          show _ ≤ _
          omega
        rw [HLB.out] at HI
        obtain ⟨av, cv, rfl, hcv1, hcv2⟩ := own_len HI.out.own
        unfold maxLen at hcv2
        by_cases hlt2 : p < rn
        · have hlt2' : (p : Int) < (rn : Int) := by omega
          have hpc : (p : Int) ≤ (cv2 : Int) := by omega
          have hpl : p < RR.length := by rw [HRN.out]; exact hlt2
          obtain ⟨sb, so, hae, -, hbl, s0, s1⟩ := (HKR.out.below HI.out.bel).sym_at hpl
          have HBA2 := Lib.hid (fun k hk => HBAN.out p k hk hpl)
          have HRS := Lib.hid (rows_succ g l r p)
          obtain ⟨y, HYn⟩ := nameIt (RR[p]'hpl)
          rw [HYn.out] at s0 s1
          simp only [HYn.out, HRN.out] at HBA2
          obtain ⟨yt, yn⟩ := y
          simp only at s0 s1
          obtain ⟨w6, HW6⟩ := nameIt (wr.alloc (.cells #[.bool yt, .int .i64 yn] 60))
          have X10 : Hid (w6.heap[wr.heap.size]? = some (.cells #[.bool yt, .int .i64 yn] 60 (0, 0))) := by rw [← HW6.out]; exact bx_new _ _ _ rfl
          have HI6 : Hid (BnI w0 w6 (fun k => (False ∨ k = b8) ∨ k = wr.heap.size) (LB ++ row g l r p 0) (.slice av LB.length cv) w6) := by rw [← HW6.out, show row g l r p 0 = [] from rfl, List.append_nil]; exact HI.out.push _
          have X8' : Hid (w6.heap[b8]? = some (.cells #[.int .i64 lr, .slice av2 rn cv2] 57 (0, 0))) := by
            have hb6 : Below wr.heap.size wr w6 := by rw [← HW6.out]; exact (Below.refl _ _).alloc (Nat.le_refl _) _
            exact bx_keep ((HI.out.box b8 (.inr rfl)).trans X8.out) hb6
          have HSZ6 : Hid (w4.heap.size ≤ w6.heap.size) := Nat.le_trans HI.out.sz (by rw [← HW6.out]; simp)
          obtain ⟨b10, HB10⟩ := nameIt wr.heap.size
          rw [HB10.out] at HI6 X10
          have hne8 : Hid (b8 < b10) := by rw [← HB10.out]; exact Nat.lt_of_lt_of_le HSZ8 HI.out.sz
          have X1' := Lib.hid (bx_keep X1.out HI6.out.bel)
          obtain ⟨x0, x1, x2, x3⟩ := bx_cells4 X1'.out
          obtain ⟨sr2, HSR2⟩ := nameIt LB.length
          rw [HSR2.out] at HI6
          rw [HSR2.out]
          have HSZ10 : b10 < w6.heap.size := (Array.getElem?_eq_some_iff.1 X10.out).1
          subst hae
          go_upto_region 9 with fail
          rw [HW6.out, HB10.out]
          clear s0 s1 hbl HI HW6
          go_wp2_with fail
          clear x0 x1 x2 x3 X1'
          obtain ⟨wo2, rfl⟩ : ∃ wo : World, wo = wr := ⟨_, rfl⟩
          go_loopg [6, 38] K (fun gg v6 v38 wr => ∃ k : Nat, k ≤ K ∧ K - k ≤ gg ∧ v38 = .int .i64 k ∧ Hid (BnI w0 w6 (fun k => (False ∨ k = b8) ∨ k = b10) (LB ++ row g l r p k) v6 wr))
          case atStart => exact ⟨0, by omega, by omega, rfl, HI6⟩
          case round =>
            clear HI6
            obtain ⟨k, hk, hg3, rfl, HI⟩ := hrel
            obtain ⟨LC, HLC⟩ := nameIt (LB ++ row g l r p k)
            have HLCl : Hid (LC.length ≤ r * 128 + p * 32 + k) := by
              rw [← HLC.out, List.length_append]
              have h1 := HLBl.out
              have h2 := row_le g l r p k
              show _ ≤ _
              omega
            rw [HLC.out] at HI
            obtain ⟨av, cv, rfl, hcv1, hcv2⟩ := own_len HI.out.own
            unfold maxLen at hcv2
            by_cases hlt3 : k < K
            · have hlt3' : (k : Int) < (K : Int) := by omega
              have hkc : (k : Int) ≤ (cr : Int) := by omega
              have hkl : k < g.rules.length := by rw [HKn.out]; exact hlt3
              obtain ⟨rb2, ro2, vz, hae, -, hbl, e0, e1, hkz⟩ := (HRR.out.below HI.out.bel).rule_at hkl
              have HBA3 := Lib.hid (HBA2.out k hkl)
              have HRK := Lib.hid (row_succ g l r p k)
              obtain ⟨az, cz, rfl, -, -⟩ := hkz.form
              rw [List.length_map] at e1
              obtain ⟨zl, HZL⟩ := nameIt (g.rules[k]'hkl).left
              obtain ⟨zn, HZN⟩ := nameIt (g.rules[k]'hkl).right.length
              rw [HZL.out] at e0
              rw [HZN.out] at e1
              simp only [HZL.out] at HBA3
              have HC1 := Lib.hid (fun w' hb => HLV.out (r : Int) w' hb)
              have HC2 := Lib.hid (fun w' hb => HLV.out (k : Int) w' hb)
              have HGE := Lib.hid (@lvFrom_ge l 0 (r : Int))
              have HGE2 := Lib.hid (@lvFrom_ge l 0 (k : Int))
              rw [show lvFrom 0 l (r : Int) = lvOf l (r : Int) from rfl, HLNn.out] at HGE
              rw [show lvFrom 0 l (k : Int) = lvOf l (k : Int) from rfl] at HGE2
              obtain ⟨li, HLI⟩ := nameIt (lvOf l (r : Int))
              obtain ⟨lj, HLJ⟩ := nameIt (lvOf l (k : Int))
              simp only [HLI.out, HLJ.out] at HBA3
              simp only [HLI.out] at HC1
              simp only [HLJ.out] at HC2
              rw [HLI.out] at HGE
              rw [HLJ.out] at HGE2
              obtain ⟨w8, HW8⟩ := nameIt (wr.alloc (.cells #[.int .i64 zl, .slice az zn cz] 57))
              have hb8 : Below wr.heap.size wr w8 := by rw [← HW8.out]; exact (Below.refl _ _).alloc (Nat.le_refl _) _
              have X12 : Hid (w8.heap[wr.heap.size]? = some (.cells #[.int .i64 zl, .slice az zn cz] 57 (0, 0))) := by rw [← HW8.out]; exact bx_new _ _ _ rfl
              have HI8 := Lib.hid (HI.out.keep hb8)
              obtain ⟨b12, HB12⟩ := nameIt wr.heap.size
              obtain ⟨sr3, HSR3⟩ := nameIt LC.length
              rw [HB12.out] at X12
              obtain ⟨rfl, rfl⟩ : rb = rb2 ∧ ro = ro2 := by simpa using hae
              clear hae
              go_upto_region 12 with fail
              rw [HW8.out, HB12.out]
              rw [HSR3.out]
              clear e0 e1 hbl HI HW8 hkz hb8
              go_wp2_with fail
              refine (HC1.out w8 HI8.out.bel).mono ?_
              rintro e w9 ⟨rfl, hb9⟩
              have HB9 := Lib.hid hb9
              clear hb9
              go_wp2_with fail
              refine (HC2.out w9 (HI8.out.bel.trans (HB9.out.mono HI8.out.bel.size))).mono ?_
              rintro e w10 ⟨rfl, hb10⟩
              have HB810 : Hid (Below w8.heap.size w8 w10) := HB9.out.trans (hb10.mono HB9.out.size)
              have HI9 := Lib.hid (HI8.out.keep HB810.out)
              obtain ⟨y0, y1⟩ := bx_cells2 ((HI9.out.box b10 (.inr rfl)).trans X10.out)
              obtain ⟨z0, z1⟩ := bx_cells2 (bx_keep X12.out HB810.out)
              obtain ⟨q0, q1⟩ := bx_cells2 ((HI9.out.box b8 (.inl (.inr rfl))).trans X8'.out)
              clear hb10 HB9 HI8 HC1 HC2
              by_cases hsk : skipB yt yn zl li lj = true
              · have HI5 : Hid (BnI w0 w6 (fun k => (False ∨ k = b8) ∨ k = b10) (LB ++ row g l r p (k + 1)) (.slice av sr3 cv) w10) := by
                  have h : LB ++ row g l r p (k + 1) = LC := by rw [HRK.out, HBA3.out, hsk]; simpa using HLC.out
                  rw [h, ← HSR3.out]; exact HI9.out
                have hc := skip_cases hsk
                clear hsk HBA3
                rcases hc with rfl | ⟨rfl, k2⟩ | ⟨rfl, k2, k3⟩ | ⟨rfl, k2, k3, k4⟩ | ⟨rfl, k2, k3, k4, k5⟩
                all_goals
                  go_wp2_with fail
                  go_roundg (K - (k + 1))
                  case measure => omega
                  case rel => exact ⟨k + 1, by omega, by omega, by go_num, HI5.out⟩
              · obtain ⟨rfl, hyz, h0, h1, h2⟩ := skip_not hsk
                subst hyz
                obtain ⟨i, rfl⟩ : ∃ i : Nat, li = (i : Int) := ⟨li.toNat, by omega⟩
                obtain ⟨j, rfl⟩ : ∃ j : Nat, lj = (j : Int) := ⟨lj.toNat, by omega⟩
                have hi : i < ln := by have := HGE.out; omega
                have hil : i < l.length := by rw [HLNn.out]; exact hi
                obtain ⟨lb, lo, vl, hae, -, -, -, a1, -⟩ := Rd.level_at (HLR.out.below HI9.out.bel) hil
                have hass : assocAt l (i : Int) = (l[i]'hil).assoc := by unfold assocAt; rw [Int.toNat_natCast, List.getElem?_eq_getElem hil]; rfl
                have hb := HBA3.out
                rw [show skipB false yn yn (i : Int) (j : Int) = false from by simpa using hsk, hass] at hb
                obtain ⟨sa, HSA⟩ := nameIt (l[i]'hil).assoc
                rw [HSA.out] at a1 hb
                have c2 := bx_cells1 (bx_keep X2.out HI9.out.bel)
                subst hae
                have k1 : (yn != yn) = false := by simp
                have k2 : decide ((i : Int) < 0) = false := by simp
                have k3 : decide ((j : Int) < 0) = false := by simp
                have k4 : decide ((i : Int) < (j : Int)) = false := by simp; omega
                have k5 : IntKind.i64.wrap ((rn : Int) - 1) = (rn : Int) - 1 := IntWalk.i64_in _ (by omega)
                have e1 : ((p : Int) == 0) = decide (p = 0) := by rw [Bool.eq_iff_iff]; simp
                have e2 : ((p : Int) == (rn : Int) - 1) = decide (p + 1 = rn) := by rw [Bool.eq_iff_iff]; simp; omega
                have e3 : decide ((j : Int) < (i : Int)) = decide (j < i) := by simp
                have e4 : ((j : Int) == (i : Int)) = decide (j = i) := by rw [Bool.eq_iff_iff]; simp; omega
                rw [e3, show decide ((j : Int) = (i : Int)) = decide (j = i) from by rw [Bool.eq_iff_iff]; simp; omega] at hb
                have hx : ¬ (decide (j < i) = true ∧ decide (j = i) = true) := by simp; omega
                have hy : decide (j < i) = true ∨ decide (j = i) = true := by simp; omega
                unfold sameB at hb
                generalize decide (p = 0) = fb at *
                generalize decide (p + 1 = rn) = lb1 at *
                obtain ⟨jl, e5⟩ : ∃ b, decide (j < i) = b := ⟨_, rfl⟩
                obtain ⟨je, e6⟩ : ∃ b, decide (j = i) = b := ⟨_, rfl⟩
                have e7 : (j == i) = je := by rw [← e6, Bool.eq_iff_iff]; simp
                rw [e5] at hb hx hy e3
                rw [e6] at hb hx hy e4
                obtain ⟨s1, HS1⟩ : ∃ b, Hid ((sa != 1) = b) := ⟨_, rfl⟩
                obtain ⟨s2, HS2⟩ : ∃ b, Hid ((sa != 2) = b) := ⟨_, rfl⟩
                rw [HS1.out, HS2.out] at hb
                obtain ⟨sb, HSB⟩ := nameIt (fb && s1 || lb1 && s2)
                rw [HSB.out] at hb
                have HBB := Lib.hid hb
                have hxy := ban_cases fb lb1 jl je sb hx hy
                have HS := Lib.hid (same_cases fb lb1 s1 s2)
                rw [HSB.out] at HS
                clear hsk hb hass HBA3 HGE HGE2 hx hy HSB
                have q3 := HS1.out
                have q4 := HS2.out
                have hzero : yn = yn := rfl
                go_upto_region 14 with fail
                go_quiet (fail)
                go_upto_region 15 with fail
                go_cut [17] (fun t wx => t = .bool sb ∧ Hid (∃ q, w10.drewN q = wx))
                case first =>
                  rcases HS.out with ⟨rfl, rfl, rfl⟩ | ⟨rfl, rfl, rfl, rfl⟩ | ⟨rfl, rfl, rfl, rfl⟩ | ⟨rfl, rfl, rfl⟩ | ⟨rfl, rfl, rfl⟩
                  all_goals
                    go_wp2_with fail
                    go_meet
                    exact ⟨rfl, Lib.hid ⟨_, rfl⟩⟩
                case rest =>
                  obtain ⟨rfl, hwx⟩ := hcut
                  have HI9d : Hid (BnI w0 w6 (fun k => (False ∨ k = b8) ∨ k = b10) LC (.slice av LC.length cv) wc) := by
                    obtain ⟨q, rfl⟩ := hwx.out
                    exact HI9.out.keep (below_drewN _ q)
                  clear HI9
                  have HI9 := HI9d
                  clear HI9d hwx y0 y1 z0 z1 q0 q1 a1 c2
                  have HN := Lib.hid (fun x : banned g l r p k = false => (show LB ++ row g l r p (k + 1) = LC from by rw [HRK.out, x]; simpa using HLC.out))
                  have HY := Lib.hid (fun x : banned g l r p k = true => (show LB ++ row g l r p (k + 1) = LC ++ [⟨(r : Int), (p : Int), (k : Int)⟩] from by rw [HRK.out, x, ← List.append_assoc, HLC.out]; rfl))
                  have HOW := Lib.hid HI9.out.own
                  rw [HSR3.out] at HOW
                  have HSL : Hid (sr3 ≤ r * 128 + p * 32 + k) := by rw [← HSR3.out]; exact HLCl.out
                  have hsl : sr3 ≤ 10000 := by have h1 := HSL.out; have h2 := HK.out; have h3 := HRN4.out; show sr3 ≤ 10000; omega
                  rcases hxy with ⟨rfl, rfl⟩ | ⟨rfl, rfl, rfl⟩ | ⟨rfl, rfl, rfl, rfl⟩ | ⟨rfl, rfl, rfl⟩ | ⟨rfl, rfl, rfl⟩
                  · have HY2 := Lib.hid (HY.out (by rw [HBB.out]; rfl))
                    clear HN HY HBB
                    go_wp2_with (at_builtin; refine wp_app1at elBan rfl _ _ rfl HOW.out rfl rfl (by simp) rfl rfl (by omega) (by unfold maxLen; omega) HI9.out.bel.size ?_)
                    intro v7 w7 ho7 hg7 hat7
                    obtain ⟨a7, c7, rfl, -, -⟩ := own_len ho7
                    have HI5 : Hid (BnI w0 w6 (fun k => (False ∨ k = b8) ∨ k = b10) (LB ++ row g l r p (k + 1)) (.slice a7 (sr3 + 1) c7) w7) := by
                      rw [HY2.out]
                      rw [← HSR3.out] at ho7 hg7 hat7 ⊢
                      exact HI9.out.app ho7 hg7 hat7
                    clear ho7 hg7 hat7
                    go_wp2_with fail
                    go_roundg (K - (k + 1))
                    case measure => omega
                    case rel => exact ⟨k + 1, by omega, by omega, by go_num, HI5.out⟩
                  · have HY2 := Lib.hid (HY.out (by rw [HBB.out]; rfl))
                    clear HN HY HBB
                    go_wp2_with (at_builtin; refine wp_app1at elBan rfl _ _ rfl HOW.out rfl rfl (by simp) rfl rfl (by omega) (by unfold maxLen; omega) HI9.out.bel.size ?_)
                    intro v7 w7 ho7 hg7 hat7
                    obtain ⟨a7, c7, rfl, -, -⟩ := own_len ho7
                    have HI5 : Hid (BnI w0 w6 (fun k => (False ∨ k = b8) ∨ k = b10) (LB ++ row g l r p (k + 1)) (.slice a7 (sr3 + 1) c7) w7) := by
                      rw [HY2.out]
                      rw [← HSR3.out] at ho7 hg7 hat7 ⊢
                      exact HI9.out.app ho7 hg7 hat7
                    clear ho7 hg7 hat7
                    go_wp2_with fail
                    go_roundg (K - (k + 1))
                    case measure => omega
                    case rel => exact ⟨k + 1, by omega, by omega, by go_num, HI5.out⟩
                  · have HI5 : Hid (BnI w0 w6 (fun k => (False ∨ k = b8) ∨ k = b10) (LB ++ row g l r p (k + 1)) (.slice av sr3 cv) wc) := by
                      rw [HN.out (by rw [HBB.out]; rfl), ← HSR3.out]; exact HI9.out
                    clear HN HY HBB HOW
                    go_wp2_with fail
                    go_roundg (K - (k + 1))
                    case measure => omega
                    case rel => exact ⟨k + 1, by omega, by omega, by go_num, HI5.out⟩
                  · have HY2 := Lib.hid (HY.out (by rw [HBB.out]; rfl))
                    clear HN HY HBB
                    go_wp2_with (at_builtin; refine wp_app1at elBan rfl _ _ rfl HOW.out rfl rfl (by simp) rfl rfl (by omega) (by unfold maxLen; omega) HI9.out.bel.size ?_)
                    intro v7 w7 ho7 hg7 hat7
                    obtain ⟨a7, c7, rfl, -, -⟩ := own_len ho7
                    have HI5 : Hid (BnI w0 w6 (fun k => (False ∨ k = b8) ∨ k = b10) (LB ++ row g l r p (k + 1)) (.slice a7 (sr3 + 1) c7) w7) := by
                      rw [HY2.out]
                      rw [← HSR3.out] at ho7 hg7 hat7 ⊢
                      exact HI9.out.app ho7 hg7 hat7
                    clear ho7 hg7 hat7
                    go_wp2_with fail
                    go_roundg (K - (k + 1))
                    case measure => omega
                    case rel => exact ⟨k + 1, by omega, by omega, by go_num, HI5.out⟩
                  · have HI5 : Hid (BnI w0 w6 (fun k => (False ∨ k = b8) ∨ k = b10) (LB ++ row g l r p (k + 1)) (.slice av sr3 cv) wc) := by
                      rw [HN.out (by rw [HBB.out]; rfl), ← HSR3.out]; exact HI9.out
                    clear HN HY HBB HOW
                    go_wp2_with fail
                    go_roundg (K - (k + 1))
                    case measure => omega
                    case rel => exact ⟨k + 1, by omega, by omega, by go_num, HI5.out⟩
            · have hend : k = K := by omega
              have hlt3' : ¬ (k : Int) < (K : Int) := by omega
              have HI5 : Hid (BnI w0 w4 (fun k => False ∨ k = b8) (LA ++ rows g l r (p + 1)) (.slice av LC.length cv) wr) := by
                have h : LA ++ rows g l r (p + 1) = LC := by rw [HRS.out, ← List.append_assoc, HLB.out, HKn.out, ← hend]; exact HLC.out
                rw [h]
                refine HI.out.pop (fun k hk => .inl hk) (fun k hk => ?_) HSZ6.out
                rcases hk with hk | rfl
                · exact hk.elim
                · exact ⟨HSZ8, X8'.out.trans X8.out.symm⟩
              obtain ⟨sr3, HSR3⟩ := nameIt LC.length
              rw [HSR3.out] at HI5
              rw [HSR3.out]
              go_wp2_with fail
              go_roundg (rn - (p + 1))
              case measure => omega
              case rel => exact ⟨p + 1, by omega, by omega, by go_num, HI5.out⟩
        · have hend : p = rn := by omega
          have hlt2' : ¬ (p : Int) < (rn : Int) := by omega
          have HI5 : Hid (BnI w0 w0 (fun _ => False) (allB g l (r + 1)) (.slice av LB.length cv) wr) := by
            have h : allB g l (r + 1) = LB := by rw [HAS.out, HLR2.out, ← hend, HLA.out]; exact HLB.out
            rw [h]
            exact HI.out.pop (fun k hk => hk.elim) (fun k hk => hk.elim) HSZ4.out
          obtain ⟨sr3, HSR3⟩ := nameIt LB.length
          rw [HSR3.out] at HI5
          rw [HSR3.out]
          go_wp2_with fail
          go_roundg (K - (r + 1))
          case measure => omega
          case rel => exact ⟨r + 1, by omega, by omega, by go_num, HI5.out⟩
    · have hend : r = K := by omega
      have hlt' : ¬ (r : Int) < (K : Int) := by omega
      have HE : Hid (PST (.returned (.slice av LA.length cv)) wr) := by
        have e : LA = bansOf g l := by rw [← HLA.out]; unfold bansOf; rw [hend, HKn.out]
        have h := HI.out.own
        rw [e] at h ⊢
        exact HFIN.out _ _ (World.ownsRow.mono h HB0.out.size) (HB0.out.trans (HI.out.bel.mono HB0.out.size))
      obtain ⟨sr, HSR⟩ := nameIt LA.length
      rw [HSR.out] at HE
      rw [HSR.out]
      go_wp2_with fail
      exact HE.out
end Fb
end Go.Proofs.YtgcfpbjifjklbaaDoor
namespace Go.Proofs.YtgcfpbjifjklbaaDoor
open Go.RowKit
theorem symNe (a c : Bool) (b d : Int) (w : World) : (binOp .neq 60 (.agg #[.bool a, .int .i64 b]) (.agg #[.bool c, .int .i64 d])).run Tryd.prog w = .ok (.bool (!(a == c && b == d))) w := by
  have h1 : Tryd.prog.underlying 60 = some (.struct (Tryd.prog.fieldsOf 60)) := by kernel_rfl
  have h2 : Tryd.prog.stoodInHeld 60 = false := by kernel_rfl
  have h3 := Tryd.underlying60
  have h4 := Tryd.underlying4
  have h5 := Tryd.underlying3
  rw [run_neq_struct, run_equalIn_agg (d := 9999) _ _ _ _ h1 h2]
  simp only [Program.fieldsOf, h3]
  cases hac : (a == c) <;> by_cases hbd : b = d <;> simp [Op.eqFields, go_sem, h4, h5, hac, hbd]
theorem sym_beq (x y : Sym) : (x.term == y.term && x.n == y.n) = decide (x = y) := by
  rw [Bool.eq_iff_iff]; cases x; cases y; simp
set_option maxHeartbeats 1000000 in
set_option maxRecDepth 100000 in
theorem equalSyms (a a' : Option Addr) (c c' : Nat) (l m : List Sym) (w : World) (hl : Rd AnyB w (.sl (l.map Sym.d)) [.slice a l.length c]) (hm : Rd AnyB w (.sl (m.map Sym.d)) [.slice a' m.length c']) :
    Calls Tryd.prog 36 #[.slice a l.length c, .slice a' m.length c'] w fun e w' => e = .returned (.bool (decide (l = m))) ∧ Below w.heap.size w w' := by
  have HL := Lib.hid hl
  have HM := Lib.hid hm
  have hc := hl.bounds.2
  have hc' := hm.bounds.2
  unfold maxLen at hc hc'
  obtain ⟨hc1, hc2⟩ := hc
  obtain ⟨hc3, hc4⟩ := hc'
  clear hl hm
  by_cases hlen : l.length = m.length
  · have hlb : ((l.length : Int) != (m.length : Int)) = false := by simp [hlen]
    have hle : l.length ≤ m.length := by omega
    have HLEN := Lib.hid hlen
    clear hlen
    have heg : Tryd.prog.eqGuardType Tryd.prog.depth 60 = false := by kernel_rfl
    go_enter Tryd.func36, Tryd.ntmps36
    go_wp2_with fail
    go_loopg [13] l.length (fun gg v13 wr => ∃ i : Nat, i ≤ l.length ∧ l.length - i ≤ gg ∧ v13 = .int .i64 i ∧ Hid (Below w.heap.size w wr) ∧ Hid (∀ j (h1 : j < l.length) (h2 : j < m.length), j < i → l[j] = m[j]))
    case atStart => exact ⟨0, by omega, by omega, rfl, Below.refl _ _, fun j _ _ hj => by omega⟩
    case round =>
      obtain ⟨i, hi, hg, rfl, HB, HN⟩ := hrel
      by_cases hlt : i < l.length
      · have hlt' : (i : Int) < (l.length : Int) := by omega
        have hlt2 : i < m.length := by omega
        have hlt2' : (i : Int) < (m.length : Int) := by omega
        have hi0 : (0 : Int) ≤ (i : Int) := by omega
        obtain ⟨b, off, hae, -, hbl, c0, c1⟩ := (HL.out.below HB.out).sym_at hlt
        obtain ⟨b', off', hae', -, hbl', d0, d1⟩ := (HM.out.below HB.out).sym_at hlt2
        obtain ⟨x, HX⟩ := nameIt (l[i]'hlt)
        obtain ⟨y, HY⟩ := nameIt (m[i]'hlt2)
        rw [HX.out] at c0 c1
        rw [HY.out] at d0 d1
        have hne := symNe x.term y.term x.n y.n
        rw [sym_beq] at hne
        obtain ⟨q, HQ⟩ := nameIt (decide (x = y))
        obtain ⟨x0, HX0⟩ := nameIt x.term
        obtain ⟨x1, HX1⟩ := nameIt x.n
        obtain ⟨y0, HY0⟩ := nameIt y.term
        obtain ⟨y1, HY1⟩ := nameIt y.n
        rw [HQ.out, HX0.out, HX1.out, HY0.out, HY1.out] at hne
        rw [HX0.out] at c0
        rw [HX1.out] at c1
        rw [HY0.out] at d0
        rw [HY1.out] at d1
        subst hae hae'
        have HBD := Lib.hid (HB.out.trans ((below_drewN wr 9).mono HB.out.size))
        go_wp2_with fail
        go_quiet (fail)
        cases q with
        | false =>
          have HE : Hid (decide (l = m) = false) := by
            show _ = _
            rw [decide_eq_false_iff_not]
            intro h
            subst h
            have h2 := HX.out.symm.trans HY.out
            subst h2
            have := HQ.out
            simp at this
          go_wp2_with fail
          go_ret
          exact ⟨by rw [HE.out]; rfl, HB.out.trans ((below_drewN _ _).mono HB.out.size)⟩
        | true =>
          have HN2 : Hid (∀ j (h1 : j < l.length) (h2 : j < m.length), j < i + 1 → l[j] = m[j]) := by
            intro j h1 h2 hj
            by_cases e : j = i
            · subst e; rw [HX.out, HY.out]; simpa using HQ.out
            · exact HN.out j h1 h2 (by omega)
          go_wp2_with fail
          go_roundg (l.length - (i + 1))
          case measure => omega
          case rel => exact ⟨i + 1, by omega, by omega, by go_num, HB.out.trans ((below_drewN _ _).mono HB.out.size), HN2⟩
      · have hlt' : ¬ (i : Int) < (l.length : Int) := by omega
        have HE : Hid (decide (l = m) = true) := by
          show _ = _
          rw [decide_eq_true_iff]
          exact List.ext_getElem HLEN.out fun j h1 h2 => HN.out j h1 h2 (by omega)
        go_wp2_with fail
        go_ret
        exact ⟨by rw [HE.out]; rfl, HB.out⟩
  · have hlb : ((l.length : Int) != (m.length : Int)) = true := by simp; omega
    have HE : Hid (decide (l = m) = false) := by show _ = _; rw [decide_eq_false_iff_not]; intro h; exact hlen (by rw [h])
    clear hlen
    go_enter Tryd.func36, Tryd.ntmps36
    go_wp2_with fail
    go_ret
    exact ⟨by rw [HE.out]; rfl, Below.refl _ _⟩
end Go.Proofs.YtgcfpbjifjklbaaDoor
namespace Go.Proofs.YtgcfpbjifjklbaaDoor
open Go.RowKit
namespace TF
theorem symCells' {S S' : Nat → Prop} {w w' : World} {sy : List Sym} {xs : List Value} (h : RdAll S w (sy.map Sym.d) xs) : RdAll S' w' (sy.map Sym.d) xs := by
  induction sy generalizing xs with
  | nil => exact h
  | cons s sy ih =>
    obtain ⟨c1, c2, rfl, h1, h2⟩ := h
    obtain rfl := h1.sym
    exact ⟨_, _, rfl, rd_sym s, ih h2⟩
structure SymRel (w : World) (sy : List Sym) (v : Value) (W : World) : Prop where
  own : ∃ xs, W.ownsRow w.heap.size 60 2 v sy.length xs ∧ RdAll AnyB W (sy.map Sym.d) xs
  bel : Below w.heap.size w W
theorem SymRel.step {w : World} {sy : List Sym} {s : Sym} {v v' : Value} {W w1 W' : World} {xs : List Value} (h : SymRel w sy v W) (hb : Below W.heap.size W w1) (ho : W.ownsRow w.heap.size 60 2 v sy.length xs) (hd : RdAll AnyB W (sy.map Sym.d) xs)
    (ho' : W'.ownsRow w.heap.size 60 2 v' (sy.length + 1) (xs ++ [.bool s.term, .int .i64 s.n])) (hg : w1.grownBy W' v.ownBlock) : SymRel w (sy ++ [s]) v' W' := by
  refine ⟨⟨_, by rw [List.length_append]; exact ho', ?_⟩, (h.bel.trans (hb.mono h.bel.size)).grown hg (Nat.le_trans h.bel.size hb.size) (fun k e => (ho.lt k e).1)⟩
  rw [List.map_append]
  exact RdAll.append (symCells' hd) (RdAll.one (rd_sym s))
theorem SymRel.rd {w : World} {sy : List Sym} {v : Value} {W : World} (h : SymRel w sy v W) : Rd AnyB W (.sl (sy.map Sym.d)) [v] := by
  obtain ⟨xs, h1, h2⟩ := h.own
  exact rd_of_own h1 h2 (by simp) (fun _ _ => trivial)
mutual
theorem nodes_le : ∀ (t x : Tree), x ∈ nodes t → (nodes x).length ≤ (nodes t).length
  | .node r tm ks, x, hx => by
    rw [nodes] at hx
    rcases List.mem_cons.1 hx with rfl | hx
    · exact Nat.le_refl _
    · rw [nodes]
      by_cases h : r = -1
      · rw [if_pos h] at hx; simp at hx
      · rw [if_neg h] at hx ⊢
        have := nodes_leL ks x hx
        simp; omega
theorem nodes_leL : ∀ (ks : List Tree) (x : Tree), x ∈ nodesL ks → (nodes x).length ≤ (nodesL ks).length
  | [], x, hx => by simp [nodesL] at hx
  | y :: ks, x, hx => by
    rw [nodesL] at hx ⊢
    rw [List.length_append]
    rcases List.mem_append.1 hx with h | h
    · have := nodes_le y x h; omega
    · have := nodes_leL ks x h; omega
end
theorem kids_le {t x : Tree} (h : x ∈ nodes t) (hr : x.rule ≠ -1) : x.kids.length ≤ (nodes t).length := by
  have h1 := nodes_le t x h
  rw [nodes_eq x] at h1
  have h2 := len_nodesL x.kids
  simp [kidsOf, hr] at h1
  omega
theorem refNode_leaf {g : Gram} {x : Tree} (hl : (label g x).isSome = true) (hr : x.rule = -1) : refNode g x = true := by simp [refNode, hl, hr]
theorem refNode_none {g : Gram} {x : Tree} (hl : (label g x).isSome = false) : refNode g x = false := by simp [refNode, hl]
theorem refNode_kid {g : Gram} {x k : Tree} (hr : x.rule ≠ -1) (hk : k ∈ x.kids) (hl : (label g k).isSome = false) : refNode g x = false := by
  have h : (x.kids.all fun k => (label g k).isSome) = false := List.all_eq_false.2 ⟨k, hk, by simp [hl]⟩
  simp [refNode, hr, h]
theorem map_labS {g : Gram} {ks : List Tree} (h : ∀ k ∈ ks, (label g k).isSome = true) : ks.map (label g) = (ks.map (labS g)).map some := by
  rw [List.map_map]
  refine List.map_congr_left fun k hk => ?_
  obtain ⟨s, hs⟩ := Option.isSome_iff_exists.1 (h k hk)
  simp [labS, hs]
theorem refNode_inner {g : Gram} {x : Tree} {j : Nat} (hl : (label g x).isSome = true) (hr : x.rule = j) (hj : j < g.rules.length) (hk : ∀ k ∈ x.kids, (label g k).isSome = true) : refNode g x = decide (x.kids.map (labS g) = (g.rules[j]'hj).right) := by
  have h1 : (x.kids.all fun k => (label g k).isSome) = true := List.all_eq_true.2 hk
  have h2 : ¬ x.rule = -1 := by omega
  have h3 : g.rules[x.rule.toNat]? = some g.rules[j] := by rw [hr]; simp [hj]
  unfold refNode
  rw [hl, h1, h3, map_labS hk]
  simp only [h2, decide_false, Bool.true_and, Bool.false_or]
  rw [decide_eq_decide]
  exact ⟨fun h => (List.map_inj_right (fun a b h => Option.some.inj h)).1 h, fun h => by rw [h]⟩
theorem label_rule {g : Gram} {x : Tree} (hl : (label g x).isSome = true) (hr : x.rule ≠ -1) : ∃ j : Nat, x.rule = j ∧ j < g.rules.length := by
  obtain ⟨s, hs⟩ := Option.isSome_iff_exists.1 hl
  obtain ⟨-, h1, h2⟩ := label_root hs
  exact ⟨x.rule.toNat, by omega, by omega⟩
def refFault (g : Gram) (t : Tree) : Int := if 5000 < (nodes t).length then 2 else if (nodes t).all (refNode g) then 0 else 3
set_option maxHeartbeats 4000000 in
set_option maxRecDepth 100000 in
theorem treeFaultE (g : Gram) (ar : Option Addr) (cr : Nat) (t : Tree) (at' : Option Addr) (ct : Nat) (w : World) (hr : Rd AnyB w (.sl (g.rules.map Rule.d)) [.slice ar g.rules.length cr]) (hk : Rd AnyB w (.sl (t.kids.map Tree.d)) [.slice at' t.kids.length ct]) (hN : (nodes t).length ≤ 1099511627776) :
    Calls Tryd.prog 12 #[.agg #[.int .i64 g.terms, .int .i64 g.nons, .int .i64 g.start, .slice ar g.rules.length cr], .agg #[.int .i64 t.rule, .int .i64 t.term, .slice at' t.kids.length ct]] w fun e w' => e = .returned (.int .i64 (refFault g t)) ∧ Below w.heap.size w w' := by
  have hbs := hr.bounds.2
  unfold maxLen at hbs
  obtain ⟨hc1, hc2⟩ := hbs
  obtain ⟨w0, HW0⟩ := nameIt ((w.alloc (.cells #[.int .i64 g.terms, .int .i64 g.nons, .int .i64 g.start, .slice ar g.rules.length cr] 24)).alloc (.cells #[.int .i64 t.rule, .int .i64 t.term, .slice at' t.kids.length ct] 32))
  have hb0 : Below w.heap.size w w0 := by rw [← HW0.out]; exact ((Below.refl _ _).alloc (Nat.le_refl _) _).alloc (by simp) _
  have X1 : Hid (w0.heap[w.heap.size]? = some (.cells #[.int .i64 g.terms, .int .i64 g.nons, .int .i64 g.start, .slice ar g.rules.length cr] 24 (0, 0))) := by
    rw [← HW0.out]; exact bx_keep (bx_new _ _ _ rfl) ((Below.refl _ _).alloc (Nat.le_refl _) _)
  have X2 : Hid (w0.heap[w.heap.size + 1]? = some (.cells #[.int .i64 t.rule, .int .i64 t.term, .slice at' t.kids.length ct] 32 (0, 0))) := by
    rw [← HW0.out]; exact bx_new _ _ _ (by simp)
  have C1 := Lib.hid (nodesE t _ w0 (hk.below hb0) hN)
  have HR := Lib.hid (hr.below hb0)
  have CL := Lib.hid (fun (x : Tree) (ax : Option Addr) (cx : Nat) W (hb : Below w0.heap.size w0 W) => labelE g ar cr x ax cx W (HR.out.below hb))
  have HB0 := Lib.hid hb0
  obtain ⟨B, HBn⟩ := nameIt (refFault g t)
  obtain ⟨gt, HGT⟩ := nameIt g.terms
  obtain ⟨gn, HGN⟩ := nameIt g.nons
  obtain ⟨gs, HGS⟩ := nameIt g.start
  obtain ⟨R, HKn⟩ := nameIt g.rules
  obtain ⟨r, HRr⟩ := nameIt t.rule
  obtain ⟨tm, HRt⟩ := nameIt t.term
  obtain ⟨m, HMn⟩ := nameIt t.kids.length
  rw [HGT.out, HGN.out, HGS.out, HKn.out, HRr.out, HRt.out, HMn.out] at HW0
  rw [HGT.out, HGN.out, HGS.out, HKn.out] at X1
  rw [HRr.out, HRt.out, HMn.out] at X2
  rw [HRr.out, HRt.out, HMn.out] at C1
  rw [HKn.out] at hc1 HR
  rw [HGT.out, HGN.out, HGS.out, HKn.out] at CL
  rw [HGT.out, HGN.out, HGS.out, HKn.out, HRr.out, HRt.out, HMn.out, HBn.out]
  obtain ⟨x0, x1, x2, x3, y0, y1, y2⟩ := cells7 (Below.refl w0.heap.size w0) X1.out X2.out
  clear hr hk hb0
  go_enter Tryd.func12, Tryd.ntmps12
  go_upto_region 1 with fail
  rw [HW0.out]
  go_wp2_with fail
  refine C1.out.mono ?_
  rintro e w1 ⟨v, rfl, hrd, hb1⟩
  obtain ⟨al, cl, rfl, -, -⟩ := hrd.form
  rw [List.length_map] at hrd ⊢
  have hcl := hrd.bounds.2
  unfold maxLen at hcl
  obtain ⟨hcl1, hcl2⟩ := hcl
  have HBV : Hid (B = if 5000 < (nodes t).length then 2 else if (nodes t).all (refNode g) then 0 else 3) := HBn.out.symm
  obtain ⟨L, HL⟩ := nameIt (nodes t)
  rw [HL.out] at hrd hcl1 HBV hN
  rw [HL.out]
  have HRD := Lib.hid hrd
  have HB1 := Lib.hid hb1
  have HBB := Lib.hid (HB0.out.trans (hb1.mono HB0.out.size))
  clear hrd hb1 x0 x1 x2 x3 y0 y1 y2 C1
  by_cases hbig : 5000 < L.length
  · have hbig' : (5000 : Int) < (L.length : Int) := by omega
    obtain rfl : B = 2 := by rw [HBV.out, if_pos hbig]
    go_wp2_with fail
    go_ret
    exact ⟨rfl, HBB.out⟩
  · have hbig' : ¬ (5000 : Int) < (L.length : Int) := by omega
    have HBA : Hid (B = if L.all (refNode g) then 0 else 3) := by show _ = _; rw [HBV.out, if_neg hbig]
    have HBAD : Hid (∀ i (h : i < L.length), refNode g L[i] = false → B = 3) := by
      intro i h hb
      rw [HBA.out, if_neg]
      intro ha
      have := List.all_eq_true.1 ha _ (List.getElem_mem h)
      rw [hb] at this
      exact absurd this (by decide)
    clear hbig
    go_wp2_with fail
    go_loopg [22] L.length (fun gg v22 wr => ∃ i : Nat, i ≤ L.length ∧ L.length - i ≤ gg ∧ v22 = .int .i64 i ∧ Hid (Below w1.heap.size w1 wr) ∧ Hid (∀ j (h : j < L.length), j < i → refNode g L[j] = true))
    case atStart => exact ⟨0, by omega, by omega, rfl, Below.refl _ _, fun j _ hj => by omega⟩
    case round =>
      obtain ⟨i, hi, hg, rfl, HB, HN⟩ := hrel
      obtain ⟨wo, rfl⟩ : ∃ wo : World, wo = wr := ⟨_, rfl⟩
      by_cases hlt : i < L.length
      · have hlt' : (i : Int) < (L.length : Int) := by omega
        obtain ⟨b, off, v, hae, -, hbl, c0, c1, c2, hkid⟩ := (HRD.out.below HB.out).kid hlt
        obtain ⟨ak, ck, rfl, -, -⟩ := hkid.form
        rw [List.length_map] at c2 hkid
        have hcx := hkid.bounds.2
        unfold maxLen at hcx
        obtain ⟨hcx1, hcx2⟩ := hcx
        have HBAD1 := Lib.hid (HBAD.out i hlt)
        have HIN := Lib.hid (HN.out)
        obtain ⟨x, HX⟩ := nameIt (L[i]'hlt)
        rw [HX.out] at c0 c1 c2 hkid HBAD1 hcx1
        obtain ⟨w4, HW4⟩ := nameIt (wo.alloc (.cells #[.int .i64 x.rule, .int .i64 x.term, .slice ak x.kids.length ck] 32))
        have hb4 : Below wo.heap.size wo w4 := by rw [← HW4.out]; exact (Below.refl _ _).alloc (Nat.le_refl _) _
        have HB4 := Lib.hid (HB1.out.trans ((HB.out.trans (hb4.mono HB.out.size)).mono HB1.out.size))
        have X4 : Hid (w4.heap[wo.heap.size]? = some (.cells #[.int .i64 x.rule, .int .i64 x.term, .slice ak x.kids.length ck] 32 (0, 0))) := by rw [← HW4.out]; exact bx_new _ _ _ rfl
        have X1' := Lib.hid (bx_keep X1.out HB4.out)
        have HKD := Lib.hid (hkid.below hb4)
        have CX := Lib.hid (CL.out x ak ck w4 HB4.out)
        obtain ⟨S, HS⟩ := nameIt (labS g x)
        obtain ⟨q, HQ⟩ := nameIt (label g x).isSome
        obtain ⟨xr, HXr⟩ := nameIt x.rule
        obtain ⟨xt, HXt⟩ := nameIt x.term
        obtain ⟨K, HK⟩ := nameIt x.kids
        rw [HXr.out, HXt.out, HK.out] at X4 HW4
        rw [HXr.out, HXt.out, HK.out, HS.out, HQ.out] at CX
        rw [HXr.out] at c0
        rw [HXt.out] at c1
        rw [HK.out] at c2 HKD hcx1
        obtain ⟨x0, x1, x2, x3, y0, y1, y2⟩ := cells7 (Below.refl _ w4) X1'.out X4.out
        have hl4 : wo.heap.size < w4.heap.size := (Array.getElem?_eq_some_iff.1 X4.out).1
        have hl1 : w.heap.size < w4.heap.size := (Array.getElem?_eq_some_iff.1 X1'.out).1
        obtain ⟨S0, HS0⟩ := nameIt S.term
        obtain ⟨S1, HS1⟩ := nameIt S.n
        rw [HS0.out, HS1.out] at CX
        have HBW := Lib.hid (HBB.out.trans ((HB.out.trans (hb4.mono HB.out.size)).mono HBB.out.size))
        have HB14 := Lib.hid (HB.out.trans (hb4.mono HB.out.size))
        subst hae
        clear hkid hb4
        go_upto_region 7 with fail
        rw [HW4.out]
        go_wp2_with fail
        refine CX.out.mono ?_
        rintro e w5 ⟨rfl, hb5⟩
        obtain ⟨w6, HW6⟩ := nameIt (w5.alloc (.cells #[.bool S0, .int .i64 S1] 60))
        have hb6 : Below w4.heap.size w4 w6 := by rw [← HW6.out]; exact hb5.trans ((Below.refl _ _).alloc hb5.size _)
        have HB6 := Lib.hid hb6
        have HB16 := Lib.hid (HB14.out.trans (hb6.mono HB14.out.size))
        have HBW6 := Lib.hid (HBW.out.trans (hb6.mono HBW.out.size))
        have X16 := Lib.hid (bx_keep X1'.out hb6)
        have X46 := Lib.hid (bx_keep X4.out hb6)
        clear x0 x1 x2 x3 y0 y1 y2 c0 c1 c2 hl4 hl1 hb5
        obtain ⟨x0, x1, x2, x3, y0, y1, y2⟩ := cells7 (Below.refl _ w6) X16.out X46.out
        clear hb6
        cases q with
        | false =>
          obtain rfl : B = 3 := HBAD1.out (refNode_none HQ.out)
          go_upto_region 8 with fail
          rw [HW6.out]
          go_wp2_with fail
          go_ret
          exact ⟨rfl, HBW6.out⟩
        | true =>
          by_cases hxr : xr = -1
          · have HOK : Hid (refNode g x = true) := refNode_leaf HQ.out (by rw [HXr.out, hxr])
            have HN2 : Hid (∀ j (h : j < L.length), j < i + 1 → refNode g L[j] = true) := by
              intro j h hj
              by_cases e : j = i
              · subst e; rw [HX.out]; exact HOK.out
              · exact HIN.out j h (by omega)
            subst hxr
            go_upto_region 8 with fail
            rw [HW6.out]
            go_wp2_with fail
            go_roundg (L.length - (i + 1))
            case measure => omega
            case rel => exact ⟨i + 1, by omega, by omega, by go_num, HB16, HN2⟩
          · have hxb : (xr == -1) = false := by simpa using hxr
            have HXNE : Hid (x.rule ≠ -1) := by show _ ≠ _; rw [HXr.out]; exact hxr
            obtain ⟨j0, hj0, hj1⟩ := label_rule HQ.out HXNE.out
            rw [HXr.out] at hj0
            subst hj0
            have HKE : Hid (x.kids = K) := HK
            have hKL : K.length ≤ L.length := by
              have := kids_le (t := t) (x := x) (by rw [HL.out, ← HX.out]; exact List.getElem_mem hlt) HXNE.out
              rwa [HL.out, HKE.out] at this
            rw [HKn.out] at hj1
            have HJ1 := Lib.hid hj1
            clear hxr hj1
            go_upto_region 8 with fail
            rw [HW6.out]
            go_wp2_with fail
            go_loopg [10, 40] K.length (fun gg v10 v40 wr => ∃ j : Nat, j ≤ K.length ∧ K.length - j ≤ gg ∧ v40 = .int .i64 j ∧ Hid (SymRel w6 ((K.take j).map (labS g)) v10 wr) ∧ Hid (∀ k ∈ K.take j, (label g k).isSome = true))
            case atStart => exact ⟨0, by omega, by omega, rfl, ⟨⟨[], by simpa using World.ownsRow_nil _ _ _ _, by simp [RdAll]⟩, Below.refl _ _⟩, fun k hk => absurd hk (by simp)⟩
            case round =>
              obtain ⟨j, hj, hg2, rfl, HRL, HAL⟩ := hrel
              obtain ⟨wq, rfl⟩ : ∃ wq : World, wq = wr := ⟨_, rfl⟩
              obtain ⟨xs, ho, hd⟩ := HRL.out.own
              have hl0 : ((K.take j).map (labS g)).length = j := by simp; omega
              obtain ⟨a10, c10, hv10, h101, h102⟩ := own_len ho
              rw [hl0] at hv10 h101
              subst hv10
              unfold maxLen at h102
              have hbq := HRL.out.bel
              clear x0 x1 x2 x3 y0 y1 y2
              by_cases hjl : j < K.length
              · have hjl' : (j : Int) < (K.length : Int) := by omega
                have HO := Lib.hid ho
                have HD := Lib.hid hd
                have HL0 := Lib.hid hl0
                obtain ⟨b, off, v, hae, -, hbl, c0, c1, c2, hkid⟩ := ((HKD.out.below HB6.out).below hbq).kid hjl
                obtain ⟨ay, cy, rfl, -, -⟩ := hkid.form
                rw [List.length_map] at c2
                obtain ⟨y, HY⟩ := nameIt (K[j]'hjl)
                rw [HY.out] at c0 c1 c2
                obtain ⟨w7, HW7⟩ := nameIt (wq.alloc (.cells #[.int .i64 y.rule, .int .i64 y.term, .slice ay y.kids.length cy] 32))
                have hb7 : Below wq.heap.size wq w7 := by rw [← HW7.out]; exact (Below.refl _ _).alloc (Nat.le_refl _) _
                have HB7 := Lib.hid (HRL.out.bel.trans (hb7.mono hbq.size))
                have X7 : Hid (w7.heap[wq.heap.size]? = some (.cells #[.int .i64 y.rule, .int .i64 y.term, .slice ay y.kids.length cy] 32 (0, 0))) := by rw [← HW7.out]; exact bx_new _ _ _ rfl
                have X17 := Lib.hid (bx_keep X16.out HB7.out)
                have CY := Lib.hid (CL.out y ay cy w7 (HB4.out.trans ((HB6.out.trans (HB7.out.mono HB6.out.size)).mono HB4.out.size)))
                obtain ⟨T, HT⟩ := nameIt (labS g y)
                obtain ⟨p, HP⟩ := nameIt (label g y).isSome
                obtain ⟨yr, HYr⟩ := nameIt y.rule
                obtain ⟨yt, HYt⟩ := nameIt y.term
                obtain ⟨yk, HYk⟩ := nameIt y.kids.length
                rw [HYr.out, HYt.out, HYk.out] at X7 HW7
                rw [HYr.out, HYt.out, HYk.out, HT.out, HP.out] at CY
                rw [HYr.out] at c0
                rw [HYt.out] at c1
                rw [HYk.out] at c2
                obtain ⟨T0, HT0⟩ := nameIt T.term
                obtain ⟨T1, HT1⟩ := nameIt T.n
                rw [HT0.out, HT1.out] at CY
                obtain ⟨x0, x1, x2, x3, y0, y1, y2⟩ := cells7 (Below.refl _ w7) X17.out X7.out
                have HB7q := Lib.hid hb7
                have hsq := hbq.size
                subst hae
                clear hkid hb7 ho hd hl0
                go_upto_region 15 with fail
                rw [HW7.out]
                go_wp2_with fail
                refine CY.out.mono ?_
                rintro e w8 ⟨rfl, hb8⟩
                obtain ⟨w9, HW9⟩ := nameIt (w8.alloc (.cells #[.bool T0, .int .i64 T1] 60))
                have hb9 : Below w7.heap.size w7 w9 := by rw [← HW9.out]; exact hb8.trans ((Below.refl _ _).alloc hb8.size _)
                have hbq9 : Below wq.heap.size wq w9 := HB7q.out.trans (hb9.mono HB7q.out.size)
                have HB9 := Lib.hid hbq9
                have X9 : Hid (w9.heap[w8.heap.size]? = some (.cells #[.bool T0, .int .i64 T1] 60 (0, 0))) := by rw [← HW9.out]; exact bx_new _ _ _ rfl
                have hs9 := hbq9.size
                clear x0 x1 x2 x3 y0 y1 y2 c0 c1 c2 hb8 hb9 hbq9
                cases p with
                | false =>
                  obtain rfl : B = 3 := HBAD1.out (refNode_kid HXNE.out (by rw [HKE.out, ← HY.out]; exact List.getElem_mem hjl) HP.out)
                  go_upto_region 16 with fail
                  rw [HW9.out]
                  go_wp2_with fail
                  go_ret
                  exact ⟨rfl, HBW6.out.trans ((HRL.out.bel.trans (HB9.out.mono HRL.out.bel.size)).mono HBW6.out.size)⟩
                | true =>
                  have HO1 : Hid (w9.ownsRow w6.heap.size 60 2 (.slice a10 j c10) j xs) := by have h := own_keep HO.out HB9.out; rw [HL0.out] at h; exact h
                  obtain ⟨z0, z1⟩ := bx_cells2 X9.out
                  have HAL2 : Hid (∀ k ∈ K.take (j + 1), (label g k).isSome = true) := by
                    intro k hk
                    rw [List.take_succ_eq_append_getElem hjl] at hk
                    rcases List.mem_append.1 hk with h | h
                    · exact HAL.out k h
                    · simp at h; subst h; rw [HY.out]; exact HP.out
                  go_upto_region 16 with fail
                  rw [HW9.out]
                  go_wp2_with (at_builtin; refine wp_app1at elSym rfl _ _ rfl HO1.out rfl rfl rfl rfl rfl (by omega) (by unfold maxLen; omega) (by omega) ?_)
                  intro v' w10 ho2 hg10 hat2
                  have HR2 : Hid (SymRel w6 ((K.take (j + 1)).map (labS g)) v' w10) := by
                    rw [List.take_succ_eq_append_getElem hjl, List.map_append]
                    have h1 := HRL.out.step (s := T) HB9.out HO.out HD.out (by rw [HL0.out, HT0.out, HT1.out]; exact ho2) (by rw [HL0.out] at *; exact hg10)
                    rw [← HT.out, ← HY.out] at h1
                    exact h1
                  obtain ⟨a', c', rfl, -, -⟩ := own_len ho2
                  clear ho2 hg10 hat2 z0 z1
                  go_wp2_with fail
                  go_roundg (K.length - (j + 1))
                  case measure => omega
                  case rel => exact ⟨j + 1, by omega, by omega, by go_num, HR2, HAL2⟩
              · have hjl' : ¬ (j : Int) < (K.length : Int) := by omega
                obtain rfl : j = K.length := by omega
                have hsy := HRL.out.rd
                rw [List.take_length] at hsy hl0
                have hal := HAL.out
                rw [List.take_length] at hal
                obtain ⟨br, orr, vr, hae, -, hbr, -, e1, hkr⟩ := (HR.out.below (HB4.out.trans ((HB6.out.trans (hbq.mono HB6.out.size)).mono HB4.out.size))).rule_at HJ1.out
                obtain ⟨av, cv, rfl, -, -⟩ := hkr.form
                rw [List.length_map] at e1 hkr
                have HRI := refNode_inner HQ.out (j := j0) HXr.out (by rw [HKn.out]; exact HJ1.out) (by rw [HKE.out]; exact hal)
                rw [HKE.out] at HRI
                simp only [HKn.out] at HRI
                have CE := equalSyms a10 av c10 cv (K.map (labS g)) (R[j0]'HJ1.out).right wq (by rw [hl0]; exact hsy) hkr
                rw [← HRI, hl0] at CE
                obtain ⟨z, HZ⟩ := nameIt (refNode g x)
                obtain ⟨rn, HRN⟩ := nameIt (R[j0]'HJ1.out).right.length
                rw [HZ.out, HRN.out] at CE
                rw [HRN.out] at e1
                rw [HZ.out] at HBAD1
                have HCE := Lib.hid CE
                have hjr : (j0 : Int) < (R.length : Int) := by have := HJ1.out; omega
                have hjr2 : j0 < R.length := HJ1.out
                have hjr0 : (0 : Int) ≤ (j0 : Int) := by omega
                obtain ⟨x0, x1, x2, x3, y0, y1, y2⟩ := cells7 hbq X16.out X46.out
                have HBq := Lib.hid hbq
                subst hae
                clear hkr hsy CE HRI ho hd hbq hal
                go_wp2_with fail
                refine HCE.out.mono ?_
                rintro e w11 ⟨rfl, hb11⟩
                have HB11 := Lib.hid (HBq.out.trans (hb11.mono HBq.out.size))
                clear hb11 x0 x1 x2 x3 y0 y1 y2 e1
                cases z with
                | false =>
                  obtain rfl : B = 3 := HBAD1.out rfl
                  go_wp2_with fail
                  go_ret
                  exact ⟨rfl, HBW6.out.trans (HB11.out.mono HBW6.out.size)⟩
                | true =>
                  have HN2 : Hid (∀ j (h : j < L.length), j < i + 1 → refNode g L[j] = true) := by
                    intro j h hj
                    by_cases e : j = i
                    · subst e; rw [HX.out]; exact HZ.out
                    · exact HIN.out j h (by omega)
                  go_wp2_with fail
                  go_roundg (L.length - (i + 1))
                  case measure => omega
                  case rel => exact ⟨i + 1, by omega, by omega, by go_num, HB16.out.trans (HB11.out.mono HB16.out.size), HN2⟩
      · have hlt' : ¬ (i : Int) < (L.length : Int) := by omega
        obtain rfl : B = 0 := by
          rw [HBA.out, if_pos]
          rw [List.all_eq_true]
          intro y hy
          obtain ⟨j, hj, rfl⟩ := List.mem_iff_getElem.1 hy
          exact HN.out j hj (by omega)
        go_wp2_with fail
        go_ret
        exact ⟨rfl, HBB.out.trans (HB.out.mono HBB.out.size)⟩
end TF
end Go.Proofs.YtgcfpbjifjklbaaDoor
namespace Go.Proofs.YtgcfpbjifjklbaaDoor
open Go.RowKit
end Go.Proofs.YtgcfpbjifjklbaaDoor
namespace Go.Proofs.YtgcfpbjifjklbaaDoor
open Go.RowKit
mutual
theorem nodes_size : ∀ t : Tree, (nodes t).length ≤ t.size
  | .node r tm ks => by
    have := nodesL_size ks
    rw [nodes, Tree.size]
    by_cases h : r = -1 <;> simp [h] <;> omega
theorem nodesL_size : ∀ ks : List Tree, (nodesL ks).length ≤ sizeL ks
  | [] => by simp [nodesL, sizeL]
  | k :: ks => by
    have := nodes_size k
    have := nodesL_size ks
    simp [nodesL, sizeL]; omega
end
end Go.Proofs.YtgcfpbjifjklbaaDoor
namespace Go.Proofs.YtgcfpbjifjklbaaDoor
open Go.RowKit
end Go.Proofs.YtgcfpbjifjklbaaDoor
namespace Go.Proofs.YtgcfpbjifjklbaaDoor
open Go.RowKit
end Go.Proofs.YtgcfpbjifjklbaaDoor
namespace Go.Proofs.YtgcfpbjifjklbaaDoor
open Go.RowKit
namespace TreeChecks
theorem check_ref (g : Gram) (t : Tree) : checkT g t = if checkG g = 0 then TF.refFault g t else checkG g := by
  unfold checkT TF.refFault
  rw [valid_ref]
  by_cases h : checkG g = 0
  · rw [if_neg (by simp [h]), if_pos h]
  · rw [if_pos h, if_neg h]
end TreeChecks
end Go.Proofs.YtgcfpbjifjklbaaDoor
namespace Go.Proofs.YtgcfpbjifjklbaaDoor
open Go.RowKit
namespace Fb
theorem rd_block {S : Nat → Prop} {w : World} {b : Nat} {cs : Array Value} {T : TypeId} {ds : List D} (hb : w.heap[b]? = some (.cells cs T (0, 0))) (hr : RdAll S w ds cs.toList) (hS : S b) (hl : ds.length ≤ maxLen) : Rd S w (.sl ds) [.slice (some ⟨b, 0, none⟩) ds.length ds.length] := by
  refine ⟨some ⟨b, 0, none⟩, ds.length, cs.toList, rfl, Nat.le_refl _, hl, (fun e => by cases e), fun i hi => ⟨⟨b, 0, none⟩, rfl, hS, ?_⟩, hr⟩
  rw [add_at]
  have hi' : i < cs.size := by simpa using hi
  simp [World.cell?, hb, hi']
theorem syms_lit {w : World} (l : List Sym) (cs : List Value) (h : cs = l.flatMap fun s => [.bool s.term, .int .i64 s.n]) : RdAll AnyB w (l.map Sym.d) cs := by
  subst h
  induction l with
  | nil => simp [RdAll]
  | cons s l ih => exact ⟨[.bool s.term, .int .i64 s.n], _, rfl, rd_sym s, ih⟩
theorem bans_lit {w : World} : ∀ (l : List Ban), RdAll AnyB w (l.map Ban.d) (banC l)
  | [] => by simp [RdAll, banC]
  | b :: l => ⟨[.int .i64 b.rule, .int .i64 b.pos, .int .i64 b.kid], banC l, by simp [banC], rd_ban b, bans_lit l⟩
theorem own_bans {w : World} {B : Nat} {v : Value} {l : List Ban} (h : w.ownsRow B 42 3 v l.length (banC l)) : Rd AnyB w (.sl (l.map Ban.d)) [v] := rd_of_own h (bans_lit l) (by simp) (fun _ _ => trivial)
def sK : List Rule := [⟨0, [⟨false, 0⟩, ⟨true, 1⟩, ⟨false, 0⟩]⟩, ⟨0, [⟨true, 0⟩]⟩]
def sG : Gram := ⟨2, 1, 0, sK⟩
def sL : List Level := [⟨[0], 1⟩]
theorem s_err : errL sG sL = 0 := by decide
theorem s_bans : bansOf sG sL = [⟨0, 2, 0⟩] := by decide
theorem four (W : World) (A B C D : Obj) : (((((W.alloc A).alloc B).alloc C).alloc D).heap[W.heap.size + 1]? = some B) ∧ (((((W.alloc A).alloc B).alloc C).alloc D).heap[W.heap.size + 1 + 1]? = some C) ∧ (((((W.alloc A).alloc B).alloc C).alloc D).heap[W.heap.size + 1 + 1 + 1]? = some D) ∧ Below W.heap.size W ((((W.alloc A).alloc B).alloc C).alloc D) := by
  have al : ∀ (w : World) (o : Obj), Below w.heap.size w (w.alloc o) := fun w o => (Below.refl _ _).alloc (Nat.le_refl _) _
  have h3 := bx_new (W.alloc A) B (W.heap.size + 1) (by simp)
  have h4 := bx_new ((W.alloc A).alloc B) C (W.heap.size + 1 + 1) (by simp)
  have h5 := bx_new (((W.alloc A).alloc B).alloc C) D (W.heap.size + 1 + 1 + 1) (by simp)
  exact ⟨bx_keep (bx_keep h3 (al _ _)) (al _ _), bx_keep h4 (al _ _), h5, ((((Below.refl W.heap.size W).alloc (Nat.le_refl _) _).alloc (by simp) _).alloc (by simp; omega) _).alloc (by simp; omega) _⟩
set_option maxHeartbeats 1000000 in
theorem sumsE (W : World) : Calls Tryd.prog 5 #[] W fun e w' => ∃ a k, e = .returned (.agg #[.int .i64 2, .int .i64 1, .int .i64 0, .slice a 2 k]) ∧ Rd AnyB w' (.sl (sK.map Rule.d)) [.slice a 2 k] ∧ Below W.heap.size W w' := by
  go_enter Tryd.func5, Tryd.ntmps5
  go_wp2
  refine bodyPost_ret (v := .agg #[.int .i64 2, .int .i64 1, .int .i64 0, .slice (some ⟨W.heap.size + 1 + 1 + 1, 0, none⟩) 2 2]) (by simp [results, Tryd.results5, go_sem]) rfl ?_
  obtain ⟨h3, h4, h5, hb⟩ := four W (.cells #[.int .i64 2, .int .i64 1, .int .i64 0, .slice (some ⟨W.heap.size + 1 + 1 + 1, 0, none⟩) 2 2] 24) (.cells #[.bool false, .int .i64 0, .bool true, .int .i64 1, .bool false, .int .i64 0] 60) (.cells #[.bool true, .int .i64 0] 60) (.cells #[.int .i64 0, .slice (some ⟨W.heap.size + 1, 0, none⟩) 3 3, .int .i64 0, .slice (some ⟨W.heap.size + 1 + 1, 0, none⟩) 1 1] 57)
  refine ⟨_, _, rfl, rd_block (ds := sK.map Rule.d) h5 ?_ trivial (by simp [sK, maxLen]), hb⟩
  refine ⟨[.int .i64 0, .slice (some ⟨W.heap.size + 1, 0, none⟩) 3 3], [.int .i64 0, .slice (some ⟨W.heap.size + 1 + 1, 0, none⟩) 1 1], rfl, rd_rule (r := ⟨0, [⟨false, 0⟩, ⟨true, 1⟩, ⟨false, 0⟩]⟩) ?_, RdAll.one (rd_rule (r := ⟨0, [⟨true, 0⟩]⟩) ?_)⟩
  · exact rd_block (ds := [⟨false, 0⟩, ⟨true, 1⟩, ⟨false, 0⟩].map Sym.d) h3 (syms_lit [⟨false, 0⟩, ⟨true, 1⟩, ⟨false, 0⟩] _ rfl) trivial (by simp [maxLen])
  · exact rd_block (ds := [⟨true, 0⟩].map Sym.d) h4 (syms_lit [⟨true, 0⟩] _ rfl) trivial (by simp [maxLen])
set_option maxHeartbeats 1000000 in
set_option maxRecDepth 100000 in
theorem equalBansE (l : List Ban) (a a' : Option Addr) (c c' : Nat) (W : World) (hl : Rd AnyB W (.sl (l.map Ban.d)) [.slice a l.length c]) (hm : Rd AnyB W (.sl (l.map Ban.d)) [.slice a' l.length c']) :
    Calls Tryd.prog 6 #[.slice a l.length c, .slice a' l.length c'] W fun e w' => e = .returned (.bool true) ∧ Below W.heap.size W w' := by
  have HL := Lib.hid hl
  have HM := Lib.hid hm
  obtain ⟨hc1, hc2⟩ := hl.bounds.2
  obtain ⟨hc3, hc4⟩ := hm.bounds.2
  unfold maxLen at hc2 hc4
  obtain ⟨n, HN⟩ := nameIt l.length
  rw [HN.out] at HL HM hc1 hc3
  rw [HN.out]
  have k1 : ((n : Int) != (n : Int)) = false := by simp
  clear hl hm
  go_enter Tryd.func6, Tryd.ntmps6
  go_wp2_with fail
  go_loopg [13] n (fun gg v13 wr => ∃ i : Nat, i ≤ n ∧ n - i ≤ gg ∧ v13 = .int .i64 i ∧ Hid (Below W.heap.size W wr))
  case atStart => exact ⟨0, by omega, by omega, rfl, Below.refl _ _⟩
  case round =>
    obtain ⟨i, hi, hg, rfl, HB⟩ := hrel
    by_cases hlt : i < n
    · have hlt' : (i : Int) < (n : Int) := by omega
      have hic : (i : Int) ≤ (c : Int) := by omega
      have hic' : (i : Int) ≤ (c' : Int) := by omega
      have hil : i < l.length := by rw [HN.out]; exact hlt
      obtain ⟨b1, o1, hae, -, -, c0, c1, c2⟩ := Rd.ban_at (HL.out.below HB.out) hil
      obtain ⟨b2, o2, hae2, -, -, d0, d1, d2⟩ := Rd.ban_at (HM.out.below HB.out) hil
      obtain ⟨x, HX⟩ := nameIt (l[i]'hil)
      rw [HX.out] at c0 c1 c2 d0 d1 d2
      obtain ⟨x1, x2, x3⟩ := x
      simp only at c0 c1 c2 d0 d1 d2
      have HBW : Hid (∀ w', Below wr.heap.size wr w' → Below W.heap.size W w') := fun w' hb => HB.out.trans (hb.mono HB.out.size)
      subst hae hae2
      go_upto_region 6 with fail
      go_quiet (fail)
      go_wp2_with fail
      go_roundg (n - (i + 1))
      case measure => omega
      case rel => exact ⟨i + 1, by omega, by omega, by go_num, HBW.out _ (below_drewN _ _)⟩
    · have hlt' : ¬ (i : Int) < (n : Int) := by omega
      go_wp2_with fail
      go_ret
      exact ⟨rfl, HB.out⟩
end Fb
end Go.Proofs.YtgcfpbjifjklbaaDoor
