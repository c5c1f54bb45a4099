/- The contract of repair.Align. -/
import Derived.Test.YtjehmleckcmilaaOps
import Derived.Test.YtjehmleckcmilaaNodes
import Derived.Deep.DeepCutAuto
namespace Go.Proofs.Ytjehmleckcmilaa
open Go.RowKit
namespace Al

def alErr (l r : List Int) (c0 c1 c2 : Int) : Int := if 200 < l.length ∨ 200 < r.length then 2 else if [c0, c1, c2].any badC then 1 else 0
def alN (l r : List Int) (c0 c1 c2 : Int) : Int := if alErr l r c0 c1 c2 = 0 then dAt c0 c1 c2 l r 0 0 else 0
def alOps (l r : List Int) (c0 c1 c2 : Int) : List Op := if alErr l r c0 c1 c2 = 0 then opsAt c0 c1 c2 l r 0 0 else []
def AlignPost (l r : List Int) (c0 c1 c2 : Int) (w : World) (e : Ending) (w' : World) : Prop :=
  ∃ v, e = .returned (.tuple #[.int .i64 (alN l r c0 c1 c2), v, .int .i64 (alErr l r c0 c1 c2)]) ∧ Rd AnyB w' (.sl ((alOps l r c0 c1 c2).map Op.d)) [v] ∧ Below w.heap.size w w'

set_option maxHeartbeats 8000000 in
set_option maxRecDepth 100000 in
theorem alignE (a b : Option Addr) (ca cb : Nat) (l r : List Int) (c0 c1 c2 : Int) (w : World) (hl : Sl w (.slice a l.length ca) (ints l)) (hr : Sl w (.slice b r.length cb) (ints r)) :
    Calls Try.prog 15 #[.slice a l.length ca, .slice b r.length cb, .agg #[.int .i64 c0, .int .i64 c1, .int .i64 c2]] w (AlignPost l r c0 c1 c2 w) := by
  have HL := Lib.hid hl
  have HR := Lib.hid hr
  have hcl := hl.len.2
  have hcr := hr.len.2
  unfold maxLen at hcl hcr
  obtain ⟨hcl1, hcl2⟩ := hcl
  obtain ⟨hcr1, hcr2⟩ := hcr
  obtain ⟨w0, HW0⟩ := nameIt (w.alloc (.cells #[.int .i64 c0, .int .i64 c1, .int .i64 c2] 23))
  have X0 : Hid (w0.heap[w.heap.size]? = some (.cells #[.int .i64 c0, .int .i64 c1, .int .i64 c2] 23 (0, 0))) := by rw [← HW0.out]; exact bx_new _ _ _ rfl
  have HB0 : Hid (Below w.heap.size w w0) := by rw [← HW0.out]; exact (Below.refl _ _).alloc (Nat.le_refl _) _
  have hcf := containsFunc 96 #[] badC (some ⟨w.heap.size, 0, none⟩) 3 [c0, c1, c2] w0 (fun _ _ => by kernel_rfl) (fun W x _ _ => badE x W) (by rw [← HW0.out]; exact sl_lit (v := #[.int .i64 c0, .int .i64 c1, .int .i64 c2]) rfl (by simp [maxLen]))
  have HDI := Lib.hid (fun (W : World) (hb : Below w.heap.size w W) (h1 : l.length ≤ 200) (h2 : r.length ≤ 200) (h : [c0, c1, c2].any badC = false) => distE a b ca cb l r c0 c1 c2 W (HL.out.keep hb) (HR.out.keep hb) h1 h2 (good_c h).1 (good_c h).2.1 (good_c h).2.2.1 (good_c h).2.2.2.1 (good_c h).2.2.2.2.1 (good_c h).2.2.2.2.2)
  have HCB := Lib.hid (fun (h : [c0, c1, c2].any badC = false) => good_c h)
  have HDB := Lib.hid (fun (h1 : l.length ≤ 200) (h2 : r.length ≤ 200) (h : [c0, c1, c2].any badC = false) i j => Al.al_bd (c2 := c2) (good_c h).1 (good_c h).2.2.1 (good_c h).2.2.2.2.1 (good_c h).2.1 (good_c h).2.2.2.1 (l.drop i) (r.drop j))
  have HER : Hid (alErr l r c0 c1 c2 = if 200 < l.length ∨ 200 < r.length then 2 else if [c0, c1, c2].any badC then 1 else 0) := rfl
  have HFIN : Hid (∀ (z : Int) (W : World), alErr l r c0 c1 c2 = z → z ≠ 0 → Below w.heap.size w W → AlignPost l r c0 c1 c2 w (.returned (.tuple #[.int .i64 0, .slice none 0 0, .int .i64 z])) W) := by
    intro z W h1 h2 hb
    refine ⟨.slice none 0 0, ?_, ?_, hb⟩
    · unfold alN; rw [h1, if_neg h2]
    · unfold alOps; rw [h1, if_neg h2]; exact ⟨none, 0, [], rfl, by simp, by simp [maxLen], fun _ => rfl, fun i hi => by simp at hi, rfl⟩
  have HK0 := Lib.hid (fun i j hi hj h => o_keep (c0 := c0) (c1 := c1) (c2 := c2) (l := l) (r := r) (i := i) (j := j) hi hj h)
  have HK1 := Lib.hid (fun i j hi hj h => o_both (c0 := c0) (c1 := c1) (c2 := c2) (l := l) (r := r) (i := i) (j := j) hi hj h)
  have HK2 := Lib.hid (fun i j hi hj => o_del (c0 := c0) (c1 := c1) (c2 := c2) (l := l) (r := r) (i := i) (j := j) hi hj)
  have HK3 := Lib.hid (fun i j hi hj => o_ins (c0 := c0) (c1 := c1) (c2 := c2) (l := l) (r := r) (i := i) (j := j) hi hj)
  have HK4 := Lib.hid (fun i j hi hj => o_end (c0 := c0) (c1 := c1) (c2 := c2) (l := l) (r := r) (i := i) (j := j) hi hj)
  have HK5 := Lib.hid (fun i j hi hj => d_del (c0 := c0) (c1 := c1) (c2 := c2) (l := l) (r := r) (i := i) (j := j) hi hj)
  have HOL : Hid ((opsAt c0 c1 c2 l r 0 0).length ≤ l.length + r.length) := by
    show _ ≤ _
    have := ops_len (c0 := c0) (c1 := c1) (c2 := c2) 0 (l.drop 0) (r.drop 0)
    unfold opsAt; simpa using this
  obtain ⟨n, HN⟩ := nameIt l.length
  obtain ⟨m, HM⟩ := nameIt r.length
  have HLn := HL.out
  have HRm := HR.out
  rw [HN.out] at HLn hcl1
  rw [HM.out] at HRm hcr1
  have HLN := Lib.hid HLn
  have HRM := Lib.hid HRm
  rw [HN.out, HM.out] at HER HDI HDB HOL
  rw [HN.out, HM.out]
  obtain ⟨bc, HBC⟩ := nameIt ([c0, c1, c2].any badC)
  rw [HBC.out] at hcf HER HDI HCB HDB
  simp only [List.length_cons, List.length_nil] at hcf
  have HCF := Lib.hid hcf
  have t0 := bx_cells3 X0.out
  obtain ⟨x0, x1, x2⟩ := t0
  clear hl hr hcf HLn HRm
  go_enter Try.func15, Try.ntmps15
  by_cases hbig : 200 < n ∨ 200 < m
  · have hE := HER.out
    rw [if_pos hbig] at hE
    have HEE := Lib.hid hE
    clear hE x0 x1 x2
    by_cases h1 : 200 < n
    · have h1' : (200 : Int) < (n : Int) := by omega
      go_upto_region 1 with fail
      rw [HW0.out]
      go_wp2_with fail
      refine bodyPost_ret (results_tmp3 Try.results15 _ _ _) rfl (HFIN.out 2 _ HEE.out (by decide) HB0.out)
    · have h1' : ¬ (200 : Int) < (n : Int) := by omega
      have h2' : (200 : Int) < (m : Int) := by omega
      go_upto_region 1 with fail
      rw [HW0.out]
      go_wp2_with fail
      refine bodyPost_ret (results_tmp3 Try.results15 _ _ _) rfl (HFIN.out 2 _ HEE.out (by decide) HB0.out)
  · have h1' : ¬ (200 : Int) < (n : Int) := by omega
    have h2' : ¬ (200 : Int) < (m : Int) := by omega
    have hn2 : n ≤ 200 := by omega
    have hm2 : m ≤ 200 := by omega
    have hE := HER.out
    rw [if_neg hbig] at hE
    have HEE := Lib.hid hE
    clear hE hbig
    go_upto_region 1 with fail
    rw [HW0.out]
    go_wp2_with fail
    refine HCF.out.mono ?_
    rintro e w1 ⟨rfl, hb1⟩
    have HB1 : Hid (Below w.heap.size w w1) := HB0.out.trans (hb1.mono HB0.out.size)
    have X1 := Lib.hid (bx_keep X0.out hb1)
    clear hb1 x0 x1 x2
    obtain ⟨x0, x1, x2⟩ := bx_cells3 X1.out
    cases bc with
    | true =>
      go_wp2_with fail
      refine bodyPost_ret (results_tmp3 Try.results15 _ _ _) rfl (HFIN.out 1 _ (by rw [HEE.out]; rfl) (by decide) HB1.out)
    | false =>
      have HE0 : Hid (alErr l r c0 c1 c2 = 0) := by show _ = _; rw [HEE.out]; rfl
      have hdd := HDI.out w1 HB1.out hn2 hm2 rfl
      obtain ⟨k0, k0', k1, k1', k2, k2'⟩ := HCB.out rfl
      have HDD : Hid (∀ i j, 0 ≤ dAt c0 c1 c2 l r i j ∧ dAt c0 c1 c2 l r i j ≤ 40000) := by
        intro i j
        have h := HDB.out hn2 hm2 rfl i j
        unfold dAt
        rw [List.length_drop, List.length_drop, HN.out, HM.out] at h
        omega
      obtain ⟨D, HDN⟩ := nameIt (dAt c0 c1 c2 l r)
      rw [HDN.out] at hdd HDD HK1 HK5
      have HDS := Lib.hid hdd
      clear hdd
      go_wp2_with fail
      refine HDS.out.mono ?_
      rintro e w2 ⟨bt, rb, rfl, ht, hb2⟩
      have HT := Lib.hid ht
      have HB2 : Hid (Below w.heap.size w w2) := HB1.out.trans (hb2.mono HB1.out.size)
      have X2 := Lib.hid (bx_keep X1.out hb2)
      have HLW := Lib.hid (HLN.out.keep HB2.out)
      have HRW := Lib.hid (HRM.out.keep HB2.out)
      obtain ⟨OP, HOP⟩ := nameIt (opsAt c0 c1 c2 l r)
      rw [HOP.out] at HK0 HK1 HK2 HK3 HK4 HOL
      clear ht hb2 x0 x1 x2
      go_wp2_with fail
      go_loopg [10, 11, 12, 13] (n + m) (fun gg v10 v11 v12 _ wr => ∃ (i j : Nat) (out : List Op), i ≤ n ∧ j ≤ m ∧ (n - i) + (m - j) ≤ gg ∧ v11 = .int .i64 i ∧ v12 = .int .i64 j ∧ Hid (out ++ OP i j = OP 0 0) ∧ Hid (RowD AnyB w2.heap.size 33 3 (out.map Op.d) v10 wr) ∧ Hid (Below w2.heap.size w2 wr))
      case atStart => exact ⟨0, 0, [], by omega, by omega, by omega, rfl, rfl, by show _ = _; simp, by show RowD _ _ _ _ _ _ _; simpa using RowD.nil AnyB w2.heap.size 33 3 w2 (Nat.le_refl _), Below.refl _ _⟩
      case round =>
        obtain ⟨wo, rfl⟩ : ∃ wo : World, wo = wr := ⟨_, rfl⟩
        obtain ⟨i, j, out, hi, hj, hg, rfl, rfl, HOUT, HRO, HBO⟩ := hrel
        obtain ⟨ao, co, rfl, ho1, ho2, ho3⟩ := HRO.out.form
        have HOW := Lib.hid ho3
        unfold maxLen at ho2
        clear ho3
        have hno : out.length ≤ 400 := by
          have h := congrArg List.length HOUT.out
          have h2 := HOL.out
          simp at h; omega
        obtain ⟨no, HNO⟩ := nameIt (out.map Op.d).length
        rw [HNO.out] at HRO HOW ho1
        rw [HNO.out]
        have hno2 : no ≤ 400 := by have h := HNO.out; rw [List.length_map] at h; omega
        have hl0 : (0 : Int) ≤ (i : Int) := by omega
        have hr0 : (0 : Int) ≤ (j : Int) := by omega
        have HRO0 := HRO
        by_cases hA : i < n
        · by_cases hB : j < m
          · skip
            have hil : i < l.length := by rw [HN.out]; omega
            obtain ⟨p, HPP⟩ := nameIt (l[i]'hil)
            have hi2 : (i : Int) < (n : Int) := by omega
            have hjr : j < r.length := by rw [HM.out]; omega
            obtain ⟨q, HQQ⟩ := nameIt (r[j]'hjr)
            have hj2 : (j : Int) < (m : Int) := by omega
            obtain ⟨ri, HRI⟩ := nameIt (rb i)
            obtain ⟨rj, HRJ⟩ := nameIt (rb (i + 1))
            obtain ⟨i1, HI1⟩ : ∃ i1 : Nat, Hid (i1 = i + 1) := ⟨_, rfl⟩
            have hti : IntKind.i64.wrap ((i : Int) + 1) = (i1 : Int) := by rw [IntWalk.i64_in _ (by omega), HI1.out]; omega
            have hi1b : (i1 : Int) < (n : Int) + 1 := by have := HI1.out; omega
            have hi1c : (0 : Int) ≤ (i1 : Int) := by omega
            have hib : (i : Int) < (n : Int) + 1 := by omega
            have hjb : (j : Int) < (m : Int) + 1 := by omega
            obtain ⟨d00, HD00⟩ := nameIt (D i j)
            obtain ⟨d10, HD10⟩ := nameIt (D (i + 1) j)
            have hb10 := HDD.out (i + 1) j
            rw [HD10.out] at hb10
            have hs2 : IntKind.i64.wrap (d10 + c1) = d10 + c1 := IntWalk.i64_in _ (by omega)
            obtain ⟨j1, HJ1⟩ : ∃ j1 : Nat, Hid (j1 = j + 1) := ⟨_, rfl⟩
            have htj : IntKind.i64.wrap ((j : Int) + 1) = (j1 : Int) := by rw [IntWalk.i64_in _ (by omega), HJ1.out]; omega
            have hj1b : (j1 : Int) < (m : Int) + 1 := by have := HJ1.out; omega
            have hj1c : (0 : Int) ≤ (j1 : Int) := by omega
            obtain ⟨d11, HD11⟩ := nameIt (D (i + 1) (j + 1))
            have hb11 := HDD.out (i + 1) (j + 1)
            rw [HD11.out] at hb11
            have hs1 : IntKind.i64.wrap (d11 + c2) = d11 + c2 := IntWalk.i64_in _ (by omega)
            obtain ⟨eq, HEQ⟩ := nameIt (p == q)
            have heq := HEQ.out
            obtain ⟨bl, ol, hal, hcl⟩ := (HLW.out.keep HBO.out).at (k := i) (by omega)
            have ea := hcl i (by rw [ints_len, HN.out]; omega)
            rw [ints_get, HPP.out] at ea
            obtain ⟨br, or', har, hcr⟩ := (HRW.out.keep HBO.out).at (k := j) (by omega)
            have eb := hcr j (by rw [ints_len, HM.out]; omega)
            rw [ints_get, HQQ.out] at eb
            subst hal har
            go_upto_region 12 with fail
            go_cut [59] (fun tt wx => tt = .bool eq ∧ Hid (Below wo.heap.size wo wx))
            case first =>
              go_quiet (fail)
              go_wp2_with fail
              go_meet
              exact ⟨rfl, below_drewN _ _⟩
            case rest =>
              obtain ⟨rfl, HC1⟩ := hcut
              obtain ⟨w1', rfl⟩ : ∃ ww : World, ww = wc := ⟨_, rfl⟩
              have HBx1 : Hid (Below w2.heap.size w2 w1') := HBO.out.trans (HC1.out.mono HBO.out.size)
              have HRO1 := Lib.hid (HRO0.out.keep HC1.out)
              clear ea eb hcl hcr
              cases eq with
              | true =>
                have HST := Lib.hid (HK0.out i j hil hjr (by rw [HPP.out, HQQ.out]; simpa using HEQ.out))
                rw [HPP.out] at HST
                obtain ⟨bl, ol, hal, hcl⟩ := (HLW.out.keep HBx1.out).at (k := i) (by omega)
                have ea := hcl i (by rw [ints_len, HN.out]; omega)
                rw [ints_get, HPP.out] at ea
                cases hal
                clear hcl
                obtain ⟨xs, hxo, hxd⟩ := HRO1.out.own
                rw [HNO.out] at hxo
                have HXO := Lib.hid hxo
                have HXD := Lib.hid hxd
                have hle := HRO1.out.le
                clear hxo hxd
                go_wp2_with (at_builtin; refine wp_app1at elOp rfl _ _ rfl HXO.out rfl rfl (by simp) rfl rfl (by omega) (by unfold maxLen; omega) (by omega) ?_)
                intro v' wz hoz hgz hatz
                have HRZ : Hid (RowD AnyB w2.heap.size 33 3 ((out ++ [(Op.mk 0 i p)]).map Op.d) v' wz) := by
                  show RowD _ _ _ _ _ _ _
                  rw [List.map_append]
                  exact RowD.step (T := fun k => AnyB k ∧ (Value.slice ao no co).ownBlock ≠ some k) HXO.out HXD.out HNO.out.symm (RdAll.one (rd_op (Op.mk 0 i p))) (fun k hk _ => hk) (by omega) hoz hgz hatz
                have HBZ : Hid (Below w2.heap.size w2 wz) := HBx1.out.grown hgz (by have := HBx1.out.size; omega) (fun k e => (HXO.out.lt k e).1)
                obtain ⟨az, cz, rfl, -, -⟩ := own_len hoz
                have HOZ : Hid ((out ++ [(Op.mk 0 i p)]) ++ OP (i + 1) (j + 1) = OP 0 0) := by
                  show _ = _
                  rw [← HOUT.out, HST.out]; simp
                clear hoz hgz hatz
                go_wp2_with fail
                go_roundg ((n - (i + 1)) + (m - (j + 1)))
                case measure => omega
                case rel => exact ⟨(i + 1), (j + 1), out ++ [(Op.mk 0 i p)], by omega, by omega, by omega, by first | go_num | rw [HI1.out], by first | go_num | rw [HJ1.out], HOZ, HRZ, HBZ⟩
              | false =>
                have hpq : ¬ p = q := by simpa using HEQ.out
                have HST := Lib.hid (HK1.out i j hil hjr (by rw [HPP.out, HQQ.out]; exact hpq))
                rw [HPP.out, HQQ.out, HD11.out, HD10.out, HD00.out] at HST
                obtain ⟨rp, HRP⟩ := nameIt (d11 + c2 == d00)
                have hrp := HRP.out
                have htw := HT.out.keep HBx1.out
                have h0 := htw.hdr (k := i) (by omega) (by omega)
                rw [HRI.out] at h0
                have h1 := htw.hdr (k := i + 1) (by omega) (by omega)
                rw [HRJ.out, ← HI1.out] at h1
                have v00 := htw.cell (k := i) (j := j) (by omega) (by omega) (by omega)
                rw [HRI.out, HD00.out] at v00
                have v11 := htw.cell (k := i + 1) (j := j + 1) (by omega) (by omega) (by omega)
                rw [HRJ.out, HD11.out, ← HJ1.out] at v11
                obtain ⟨y0, y1, y2⟩ := bx_cells3 (bx_keep X2.out HBx1.out)
                go_upto_region 15 with fail
                go_cut [85] (fun tt wx => tt = .bool rp ∧ Hid (Below w1'.heap.size w1' wx))
                case first =>
                  go_quiet (fail)
                  go_wp2_with fail
                  go_meet
                  exact ⟨rfl, below_drewN _ _⟩
                case rest =>
                  obtain ⟨rfl, HC2⟩ := hcut
                  obtain ⟨w2', rfl⟩ : ∃ ww : World, ww = wc := ⟨_, rfl⟩
                  have HBx2 : Hid (Below w2.heap.size w2 w2') := HBx1.out.trans (HC2.out.mono HBx1.out.size)
                  have HRO2 := Lib.hid (HRO1.out.keep HC2.out)
                  clear h0 h1 v00 v11 y0 y1 y2 htw
                  cases rp with
                  | true =>
                    have hst := HST.out
                    rw [if_pos (by simpa using HRP.out)] at hst
                    have HS2 := Lib.hid hst
                    clear hst
                    obtain ⟨br, or', har, hcr⟩ := (HRW.out.keep HBx2.out).at (k := j) (by omega)
                    have eb := hcr j (by rw [ints_len, HM.out]; omega)
                    rw [ints_get, HQQ.out] at eb
                    cases har
                    clear hcr
                    obtain ⟨xs, hxo, hxd⟩ := HRO2.out.own
                    rw [HNO.out] at hxo
                    have HXO := Lib.hid hxo
                    have HXD := Lib.hid hxd
                    have hle := HRO2.out.le
                    clear hxo hxd
                    go_wp2_with (at_builtin; refine wp_app1at elOp rfl _ _ rfl HXO.out rfl rfl (by simp) rfl rfl (by omega) (by unfold maxLen; omega) (by omega) ?_)
                    intro v' wz hoz hgz hatz
                    have HRZ : Hid (RowD AnyB w2.heap.size 33 3 ((out ++ [(Op.mk 3 i q)]).map Op.d) v' wz) := by
                      show RowD _ _ _ _ _ _ _
                      rw [List.map_append]
                      exact RowD.step (T := fun k => AnyB k ∧ (Value.slice ao no co).ownBlock ≠ some k) HXO.out HXD.out HNO.out.symm (RdAll.one (rd_op (Op.mk 3 i q))) (fun k hk _ => hk) (by omega) hoz hgz hatz
                    have HBZ : Hid (Below w2.heap.size w2 wz) := HBx2.out.grown hgz (by have := HBx2.out.size; omega) (fun k e => (HXO.out.lt k e).1)
                    obtain ⟨az, cz, rfl, -, -⟩ := own_len hoz
                    have HOZ : Hid ((out ++ [(Op.mk 3 i q)]) ++ OP (i + 1) (j + 1) = OP 0 0) := by
                      show _ = _
                      rw [← HOUT.out, HS2.out]; simp
                    clear hoz hgz hatz
                    go_wp2_with fail
                    go_roundg ((n - (i + 1)) + (m - (j + 1)))
                    case measure => omega
                    case rel => exact ⟨(i + 1), (j + 1), out ++ [(Op.mk 3 i q)], by omega, by omega, by omega, by first | go_num | rw [HI1.out], by first | go_num | rw [HJ1.out], HOZ, HRZ, HBZ⟩
                  | false =>
                    have hst := HST.out
                    rw [if_neg (by simpa using HRP.out)] at hst
                    have HS2 := Lib.hid hst
                    clear hst
                    obtain ⟨dl, HDL⟩ := nameIt (d10 + c1 == d00)
                    have hdl := HDL.out
                    have htw := HT.out.keep HBx2.out
                    have h0 := htw.hdr (k := i) (by omega) (by omega)
                    rw [HRI.out] at h0
                    have h1 := htw.hdr (k := i + 1) (by omega) (by omega)
                    rw [HRJ.out, ← HI1.out] at h1
                    have v00 := htw.cell (k := i) (j := j) (by omega) (by omega) (by omega)
                    rw [HRI.out, HD00.out] at v00
                    have v10 := htw.cell (k := i + 1) (j := j) (by omega) (by omega) (by omega)
                    rw [HRJ.out, HD10.out] at v10
                    obtain ⟨y0, y1, y2⟩ := bx_cells3 (bx_keep X2.out HBx2.out)
                    go_upto_region 18 with fail
                    go_cut [122] (fun tt wx => tt = .bool dl ∧ Hid (Below w2'.heap.size w2' wx))
                    case first =>
                      go_quiet (fail)
                      go_wp2_with fail
                      go_meet
                      exact ⟨rfl, below_drewN _ _⟩
                    case rest =>
                      obtain ⟨rfl, HC3⟩ := hcut
                      obtain ⟨w3', rfl⟩ : ∃ ww : World, ww = wc := ⟨_, rfl⟩
                      have HBx3 : Hid (Below w2.heap.size w2 w3') := HBx2.out.trans (HC3.out.mono HBx2.out.size)
                      have HRO3 := Lib.hid (HRO2.out.keep HC3.out)
                      clear h0 h1 v00 v10 y0 y1 y2 htw
                      cases dl with
                      | true =>
                        have hst := HS2.out
                        rw [if_pos (by simpa using HDL.out)] at hst
                        have HS3 := Lib.hid hst
                        clear hst
                        obtain ⟨bl, ol, hal, hcl⟩ := (HLW.out.keep HBx3.out).at (k := i) (by omega)
                        have ea := hcl i (by rw [ints_len, HN.out]; omega)
                        rw [ints_get, HPP.out] at ea
                        cases hal
                        clear hcl
                        obtain ⟨xs, hxo, hxd⟩ := HRO3.out.own
                        rw [HNO.out] at hxo
                        have HXO := Lib.hid hxo
                        have HXD := Lib.hid hxd
                        have hle := HRO3.out.le
                        clear hxo hxd
                        go_wp2_with (at_builtin; refine wp_app1at elOp rfl _ _ rfl HXO.out rfl rfl (by simp) rfl rfl (by omega) (by unfold maxLen; omega) (by omega) ?_)
                        intro v' wz hoz hgz hatz
                        have HRZ : Hid (RowD AnyB w2.heap.size 33 3 ((out ++ [(Op.mk 2 i p)]).map Op.d) v' wz) := by
                          show RowD _ _ _ _ _ _ _
                          rw [List.map_append]
                          exact RowD.step (T := fun k => AnyB k ∧ (Value.slice ao no co).ownBlock ≠ some k) HXO.out HXD.out HNO.out.symm (RdAll.one (rd_op (Op.mk 2 i p))) (fun k hk _ => hk) (by omega) hoz hgz hatz
                        have HBZ : Hid (Below w2.heap.size w2 wz) := HBx3.out.grown hgz (by have := HBx3.out.size; omega) (fun k e => (HXO.out.lt k e).1)
                        obtain ⟨az, cz, rfl, -, -⟩ := own_len hoz
                        have HOZ : Hid ((out ++ [(Op.mk 2 i p)]) ++ OP (i + 1) j = OP 0 0) := by
                          show _ = _
                          rw [← HOUT.out, HS3.out]; simp
                        clear hoz hgz hatz
                        go_wp2_with fail
                        go_roundg ((n - (i + 1)) + (m - j))
                        case measure => omega
                        case rel => exact ⟨(i + 1), j, out ++ [(Op.mk 2 i p)], by omega, by omega, by omega, by first | go_num | rw [HI1.out], by first | go_num | rw [HJ1.out], HOZ, HRZ, HBZ⟩
                      | false =>
                        have hst := HS2.out
                        rw [if_neg (by simpa using HDL.out)] at hst
                        have HS3 := Lib.hid hst
                        clear hst
                        obtain ⟨br, or', har, hcr⟩ := (HRW.out.keep HBx3.out).at (k := j) (by omega)
                        have eb := hcr j (by rw [ints_len, HM.out]; omega)
                        rw [ints_get, HQQ.out] at eb
                        cases har
                        clear hcr
                        obtain ⟨xs, hxo, hxd⟩ := HRO3.out.own
                        rw [HNO.out] at hxo
                        have HXO := Lib.hid hxo
                        have HXD := Lib.hid hxd
                        have hle := HRO3.out.le
                        clear hxo hxd
                        go_wp2_with (at_builtin; refine wp_app1at elOp rfl _ _ rfl HXO.out rfl rfl (by simp) rfl rfl (by omega) (by unfold maxLen; omega) (by omega) ?_)
                        intro v' wz hoz hgz hatz
                        have HRZ : Hid (RowD AnyB w2.heap.size 33 3 ((out ++ [(Op.mk 1 i q)]).map Op.d) v' wz) := by
                          show RowD _ _ _ _ _ _ _
                          rw [List.map_append]
                          exact RowD.step (T := fun k => AnyB k ∧ (Value.slice ao no co).ownBlock ≠ some k) HXO.out HXD.out HNO.out.symm (RdAll.one (rd_op (Op.mk 1 i q))) (fun k hk _ => hk) (by omega) hoz hgz hatz
                        have HBZ : Hid (Below w2.heap.size w2 wz) := HBx3.out.grown hgz (by have := HBx3.out.size; omega) (fun k e => (HXO.out.lt k e).1)
                        obtain ⟨az, cz, rfl, -, -⟩ := own_len hoz
                        have HOZ : Hid ((out ++ [(Op.mk 1 i q)]) ++ OP i (j + 1) = OP 0 0) := by
                          show _ = _
                          rw [← HOUT.out, HS3.out]; simp
                        clear hoz hgz hatz
                        go_wp2_with fail
                        go_roundg ((n - i) + (m - (j + 1)))
                        case measure => omega
                        case rel => exact ⟨i, (j + 1), out ++ [(Op.mk 1 i q)], by omega, by omega, by omega, by first | go_num | rw [HI1.out], by first | go_num | rw [HJ1.out], HOZ, HRZ, HBZ⟩
          · have hjm : m ≤ j := by omega
            have hil : i < l.length := by rw [HN.out]; omega
            obtain ⟨p, HPP⟩ := nameIt (l[i]'hil)
            have hi2 : (i : Int) < (n : Int) := by omega
            have hj2 : ¬ (j : Int) < (m : Int) := by omega
            obtain ⟨ri, HRI⟩ := nameIt (rb i)
            obtain ⟨rj, HRJ⟩ := nameIt (rb (i + 1))
            obtain ⟨i1, HI1⟩ : ∃ i1 : Nat, Hid (i1 = i + 1) := ⟨_, rfl⟩
            have hti : IntKind.i64.wrap ((i : Int) + 1) = (i1 : Int) := by rw [IntWalk.i64_in _ (by omega), HI1.out]; omega
            have hi1b : (i1 : Int) < (n : Int) + 1 := by have := HI1.out; omega
            have hi1c : (0 : Int) ≤ (i1 : Int) := by omega
            have hib : (i : Int) < (n : Int) + 1 := by omega
            have hjb : (j : Int) < (m : Int) + 1 := by omega
            obtain ⟨d00, HD00⟩ := nameIt (D i j)
            obtain ⟨d10, HD10⟩ := nameIt (D (i + 1) j)
            have hb10 := HDD.out (i + 1) j
            rw [HD10.out] at hb10
            have hs2 : IntKind.i64.wrap (d10 + c1) = d10 + c1 := IntWalk.i64_in _ (by omega)
            go_upto_region 12 with fail
            go_cut [59] (fun tt wx => tt = .bool false ∧ Hid (Below wo.heap.size wo wx))
            case first =>
              go_quiet (fail)
              go_wp2_with fail
              go_meet
              exact ⟨rfl, below_drewN _ _⟩
            case rest =>
              obtain ⟨rfl, HC1⟩ := hcut
              obtain ⟨w1', rfl⟩ : ∃ ww : World, ww = wc := ⟨_, rfl⟩
              have HBx1 : Hid (Below w2.heap.size w2 w1') := HBO.out.trans (HC1.out.mono HBO.out.size)
              have HRO1 := Lib.hid (HRO0.out.keep HC1.out)
              clear hl0
              have hl0 : (0 : Int) ≤ (i : Int) := by omega
              go_upto_region 15 with fail
              go_cut [85] (fun tt wx => tt = .bool false ∧ Hid (Below w1'.heap.size w1' wx))
              case first =>
                go_quiet (fail)
                go_wp2_with fail
                go_meet
                exact ⟨rfl, below_drewN _ _⟩
              case rest =>
                obtain ⟨rfl, HC2⟩ := hcut
                obtain ⟨w2', rfl⟩ : ∃ ww : World, ww = wc := ⟨_, rfl⟩
                have HBx2 : Hid (Below w2.heap.size w2 w2') := HBx1.out.trans (HC2.out.mono HBx1.out.size)
                have HRO2 := Lib.hid (HRO1.out.keep HC2.out)
                clear hl0
                have hl0 : (0 : Int) ≤ (i : Int) := by omega
                have HDE := Lib.hid (HK5.out i j hil (by rw [HM.out]; omega))
                rw [HD10.out, HD00.out] at HDE
                have hdl : (d10 + c1 == d00) = true := by simpa using HDE.out
                have HST := Lib.hid (HK2.out i j hil (by rw [HM.out]; omega))
                rw [HPP.out] at HST
                have htw := HT.out.keep HBx2.out
                have h0 := htw.hdr (k := i) (by omega) (by omega)
                rw [HRI.out] at h0
                have h1 := htw.hdr (k := i + 1) (by omega) (by omega)
                rw [HRJ.out, ← HI1.out] at h1
                have v00 := htw.cell (k := i) (j := j) (by omega) (by omega) (by omega)
                rw [HRI.out, HD00.out] at v00
                have v10 := htw.cell (k := i + 1) (j := j) (by omega) (by omega) (by omega)
                rw [HRJ.out, HD10.out] at v10
                obtain ⟨y0, y1, y2⟩ := bx_cells3 (bx_keep X2.out HBx2.out)
                go_upto_region 18 with fail
                go_cut [122] (fun tt wx => tt = .bool true ∧ Hid (Below w2'.heap.size w2' wx))
                case first =>
                  go_quiet (fail)
                  go_wp2_with fail
                  go_meet
                  exact ⟨rfl, below_drewN _ _⟩
                case rest =>
                  obtain ⟨rfl, HC3⟩ := hcut
                  obtain ⟨w3', rfl⟩ : ∃ ww : World, ww = wc := ⟨_, rfl⟩
                  have HBx3 : Hid (Below w2.heap.size w2 w3') := HBx2.out.trans (HC3.out.mono HBx2.out.size)
                  have HRO3 := Lib.hid (HRO2.out.keep HC3.out)
                  clear h0 h1 v00 v10 y0 y1 y2 htw
                  obtain ⟨bl, ol, hal, hcl⟩ := (HLW.out.keep HBx3.out).at (k := i) (by omega)
                  have ea := hcl i (by rw [ints_len, HN.out]; omega)
                  rw [ints_get, HPP.out] at ea
                  cases hal
                  clear hcl
                  obtain ⟨xs, hxo, hxd⟩ := HRO3.out.own
                  rw [HNO.out] at hxo
                  have HXO := Lib.hid hxo
                  have HXD := Lib.hid hxd
                  have hle := HRO3.out.le
                  clear hxo hxd
                  go_wp2_with (at_builtin; refine wp_app1at elOp rfl _ _ rfl HXO.out rfl rfl (by simp) rfl rfl (by omega) (by unfold maxLen; omega) (by omega) ?_)
                  intro v' wz hoz hgz hatz
                  have HRZ : Hid (RowD AnyB w2.heap.size 33 3 ((out ++ [(Op.mk 2 i p)]).map Op.d) v' wz) := by
                    show RowD _ _ _ _ _ _ _
                    rw [List.map_append]
                    exact RowD.step (T := fun k => AnyB k ∧ (Value.slice ao no co).ownBlock ≠ some k) HXO.out HXD.out HNO.out.symm (RdAll.one (rd_op (Op.mk 2 i p))) (fun k hk _ => hk) (by omega) hoz hgz hatz
                  have HBZ : Hid (Below w2.heap.size w2 wz) := HBx3.out.grown hgz (by have := HBx3.out.size; omega) (fun k e => (HXO.out.lt k e).1)
                  obtain ⟨az, cz, rfl, -, -⟩ := own_len hoz
                  have HOZ : Hid ((out ++ [(Op.mk 2 i p)]) ++ OP (i + 1) j = OP 0 0) := by
                    show _ = _
                    rw [← HOUT.out, HST.out]; simp
                  clear hoz hgz hatz
                  go_wp2_with fail
                  go_roundg ((n - (i + 1)) + (m - j))
                  case measure => omega
                  case rel => exact ⟨(i + 1), j, out ++ [(Op.mk 2 i p)], by omega, by omega, by omega, by first | go_num | rw [HI1.out], by first | go_num | rw [HJ1.out], HOZ, HRZ, HBZ⟩
        · by_cases hB : j < m
          · have hin : n ≤ i := by omega
            have hi2 : ¬ (i : Int) < (n : Int) := by omega
            have hjr : j < r.length := by rw [HM.out]; omega
            obtain ⟨q, HQQ⟩ := nameIt (r[j]'hjr)
            have hj2 : (j : Int) < (m : Int) := by omega
            go_upto_region 12 with fail
            go_cut [59] (fun tt wx => tt = .bool false ∧ Hid (Below wo.heap.size wo wx))
            case first =>
              go_quiet (fail)
              go_wp2_with fail
              go_meet
              exact ⟨rfl, below_drewN _ _⟩
            case rest =>
              obtain ⟨rfl, HC1⟩ := hcut
              obtain ⟨w1', rfl⟩ : ∃ ww : World, ww = wc := ⟨_, rfl⟩
              have HBx1 : Hid (Below w2.heap.size w2 w1') := HBO.out.trans (HC1.out.mono HBO.out.size)
              have HRO1 := Lib.hid (HRO0.out.keep HC1.out)
              clear hl0
              have hl0 : (0 : Int) ≤ (i : Int) := by omega
              go_upto_region 15 with fail
              go_cut [85] (fun tt wx => tt = .bool false ∧ Hid (Below w1'.heap.size w1' wx))
              case first =>
                go_quiet (fail)
                go_wp2_with fail
                go_meet
                exact ⟨rfl, below_drewN _ _⟩
              case rest =>
                obtain ⟨rfl, HC2⟩ := hcut
                obtain ⟨w2', rfl⟩ : ∃ ww : World, ww = wc := ⟨_, rfl⟩
                have HBx2 : Hid (Below w2.heap.size w2 w2') := HBx1.out.trans (HC2.out.mono HBx1.out.size)
                have HRO2 := Lib.hid (HRO1.out.keep HC2.out)
                clear hl0
                have hl0 : (0 : Int) ≤ (i : Int) := by omega
                have HST := Lib.hid (HK3.out i j (by rw [HN.out]; omega) hjr)
                rw [HQQ.out] at HST
                go_upto_region 18 with fail
                go_cut [122] (fun tt wx => tt = .bool false ∧ Hid (Below w2'.heap.size w2' wx))
                case first =>
                  go_quiet (fail)
                  go_wp2_with fail
                  go_meet
                  exact ⟨rfl, below_drewN _ _⟩
                case rest =>
                  obtain ⟨rfl, HC3⟩ := hcut
                  obtain ⟨w3', rfl⟩ : ∃ ww : World, ww = wc := ⟨_, rfl⟩
                  have HBx3 : Hid (Below w2.heap.size w2 w3') := HBx2.out.trans (HC3.out.mono HBx2.out.size)
                  have HRO3 := Lib.hid (HRO2.out.keep HC3.out)
                  clear hl0
                  obtain ⟨br, or', har, hcr⟩ := (HRW.out.keep HBx3.out).at (k := j) (by omega)
                  have eb := hcr j (by rw [ints_len, HM.out]; omega)
                  rw [ints_get, HQQ.out] at eb
                  cases har
                  clear hcr
                  obtain ⟨xs, hxo, hxd⟩ := HRO3.out.own
                  rw [HNO.out] at hxo
                  have HXO := Lib.hid hxo
                  have HXD := Lib.hid hxd
                  have hle := HRO3.out.le
                  clear hxo hxd
                  go_wp2_with (at_builtin; refine wp_app1at elOp rfl _ _ rfl HXO.out rfl rfl (by simp) rfl rfl (by omega) (by unfold maxLen; omega) (by omega) ?_)
                  intro v' wz hoz hgz hatz
                  have HRZ : Hid (RowD AnyB w2.heap.size 33 3 ((out ++ [(Op.mk 1 i q)]).map Op.d) v' wz) := by
                    show RowD _ _ _ _ _ _ _
                    rw [List.map_append]
                    exact RowD.step (T := fun k => AnyB k ∧ (Value.slice ao no co).ownBlock ≠ some k) HXO.out HXD.out HNO.out.symm (RdAll.one (rd_op (Op.mk 1 i q))) (fun k hk _ => hk) (by omega) hoz hgz hatz
                  have HBZ : Hid (Below w2.heap.size w2 wz) := HBx3.out.grown hgz (by have := HBx3.out.size; omega) (fun k e => (HXO.out.lt k e).1)
                  obtain ⟨az, cz, rfl, -, -⟩ := own_len hoz
                  have HOZ : Hid ((out ++ [(Op.mk 1 i q)]) ++ OP i (j + 1) = OP 0 0) := by
                    show _ = _
                    rw [← HOUT.out, HST.out]; simp
                  clear hoz hgz hatz
                  go_wp2_with fail
                  go_roundg ((n - i) + (m - (j + 1)))
                  case measure => omega
                  case rel => exact ⟨i, (j + 1), out ++ [(Op.mk 1 i q)], by omega, by omega, by omega, by first | go_num | rw [HI1.out], by first | go_num | rw [HJ1.out], HOZ, HRZ, HBZ⟩
          · have hi2 : ¬ (i : Int) < (n : Int) := by omega
            have hj2 : ¬ (j : Int) < (m : Int) := by omega
            have htw := HT.out.keep HBO.out
            have h0 := htw.hdr (k := 0) (by omega) (by omega)
            have v00 := htw.cell (k := 0) (j := 0) (by omega) (by omega) (by omega)
            have hn1 : (0 : Int) < (n : Int) + 1 := by omega
            have hm1 : (0 : Int) < (m : Int) + 1 := by omega
            have HEND := Lib.hid (HK4.out i j (by rw [HN.out]; omega) (by rw [HM.out]; omega))
            have HNN : Hid (alN l r c0 c1 c2 = D 0 0) := by show _ = _; unfold alN; rw [HE0.out, if_pos rfl, HDN.out]
            have HOO : Hid (alOps l r c0 c1 c2 = out) := by
              show _ = _
              unfold alOps
              rw [HE0.out, if_pos rfl, HOP.out, ← HOUT.out, HEND.out]; simp
            obtain ⟨ri, HRI⟩ := nameIt (rb 0)
            rw [HRI.out] at h0 v00
            obtain ⟨d00, HD00⟩ := nameIt (D 0 0)
            rw [HD00.out] at v00 HNN
            clear htw
            go_wp2_with fail
            refine bodyPost_ret (results_tmp3 Try.results15 _ _ _) rfl ?_
            refine ⟨.slice ao no co, by rw [HNN.out, HE0.out]; rfl, ?_, HB2.out.trans (HBO.out.mono HB2.out.size)⟩
            rw [HOO.out]
            exact HRO.out.rd.any
end Al
end Go.Proofs.Ytjehmleckcmilaa
