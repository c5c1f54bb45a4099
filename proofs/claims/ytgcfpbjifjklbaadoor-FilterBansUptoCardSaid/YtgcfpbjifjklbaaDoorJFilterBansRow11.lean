/- For every input of bulk at most 1048576 the law FilterBans returns true, and its arguments read afterwards as before. Condition: the bulk of the arguments. -/
import Derived.Test.YtgcfpbjifjklbaaDoorJFilterBansRow10
import Derived.Test.YtgcfpbjifjklbaaDoorRows
import Derived.Test.YtgcfpbjifjklbaaDoorJFilterBansRow1
import Derived.ChangeArms
import Derived.ChangeSame
import Derived.SizedLaws
import Derived.Deep.Slices
import Derived.Test.YtgcfpbjifjklbaaDoorJFilterBansRow3
import Derived.Lib.SmallJoins
import Derived.Test.YtgcfpbjifjklbaaDoorJFilterBansRow2
import Derived.OpenShut
import Derived.ChangeOld
import Derived.Carry
import Derived.JoinedCond
import Derived.Test.YtgcfpbjifjklbaaDoorCards
import Derived.Test.YtgcfpbjifjklbaaDoorTie
import Derived.WalkKit
import Derived.ProofKit
import Derived.Deep.DeepHandedRow
import Derived.Lib.LaidTab
import Derived.Test.YtgcfpbjifjklbaaDoorJFilterBansRow7
namespace Go.Proofs.YtgcfpbjifjklbaaDoor
open Go.RowKit
namespace Fb
def bansX (g : Gram) (l : List Level) : List Ban := if errL g l = 0 then bansOf g l else []
theorem lvls_form {g : Gram} {l : List Level} {W w' : World} {e : Ending} (h : LvlsPost g l W e w') : ∃ a c, e = .returned (.tuple #[.slice a (bansX g l).length c, .int .i64 (errL g l)]) ∧ Rd AnyB w' (.sl ((bansX g l).map Ban.d)) [.slice a (bansX g l).length c] ∧ Below W.heap.size W w' := by
  obtain ⟨hb, h⟩ := h
  rcases h with ⟨h1, rfl⟩ | ⟨h1, v, rfl, h2⟩
  · have e : bansX g l = [] := by unfold bansX; rw [if_neg h1]
    rw [e]
    exact ⟨none, 0, rfl, ⟨none, 0, [], rfl, Nat.le_refl _, Nat.zero_le _, fun _ => rfl, (fun i h => by cases h), by simp [RdAll]⟩, hb⟩
  · have e : bansX g l = bansOf g l := by unfold bansX; rw [if_pos h1]
    rw [e, h1]
    have h3 := own_bans h2
    obtain ⟨a, c, rfl, _⟩ := h3.form
    rw [List.length_map] at h3
    exact ⟨a, c, by rw [List.length_map], h3, hb⟩
theorem check_ref' (g : Gram) (t : Tree) : checkT g t = if checkG g = 0 then TF.refFault g t else checkG g := TreeChecks.check_ref g t
def errO (g : Gram) (l : List Level) : Int := if checkG g = 0 then levF g l else checkG g
def errT (g : Gram) (x : Filt) (t : Tree) : Int := if checkF g x = 0 then TF.refFault g t else checkF g x
theorem errL_O {g : Gram} {l : List Level} : (errO g l ≠ 0 → errL g l = errO g l) ∧ (errO g l = 0 → checkG g = 0 ∧ errL g l = if 400 < (bansOf g l).length then 2 else 0) := by
  unfold errO errL
  by_cases h : checkG g = 0
  · rw [if_pos h, if_neg (by simp [h])]
    refine ⟨fun h2 => by rw [if_pos h2], fun h2 => ⟨h, by rw [if_neg (by simp [h2])]⟩⟩
  · rw [if_neg h, if_pos h]
    exact ⟨fun _ => rfl, fun h2 => absurd h2 h⟩
theorem checkF_G {g : Gram} {x : Filt} : checkF g x = (if checkG g = 0 then filtF g x else checkG g) := by
  unfold checkF
  by_cases h : checkG g = 0
  · rw [if_neg (by simp [h]), if_pos h]
  · rw [if_pos h, if_neg h]
theorem checkF_zero {g : Gram} {x : Filt} (h : checkF g x = 0) : checkG g = 0 ∧ filtF g x = 0 := by
  rw [checkF_G] at h
  by_cases h1 : checkG g = 0
  · rw [if_pos h1] at h; exact ⟨h1, h⟩
  · rw [if_neg h1] at h; exact absurd h h1
theorem hold_err {g : Gram} {x : Filt} {t : Tree} : holdErr g x t = if errT g x t = 0 then (if 12 < lv t then 2 else 0) else errT g x t := by
  unfold holdErr errT
  by_cases h : checkF g x = 0
  · rw [if_neg (by simp [h]), if_pos h]
    have h2 : checkT g t = TF.refFault g t := by rw [check_ref', if_pos (checkF_zero h).1]
    rw [h2]
    by_cases h3 : TF.refFault g t = 0
    · rw [if_neg (by simp [h3]), if_pos h3]
    · rw [if_pos h3, if_neg h3]
  · rw [if_pos h, if_neg h, if_neg h]
theorem tabs_same {g : Gram} {x : Filt} {t : Tree} {E : Nat → Nat → Nat} {F : Tab3} (hg : checkG g = 0) (hx : filtF g x = 0) (h1 : Lg.SoundE g.rules (leavesOf (nodes t)) E) (h2 : Lg.ClosedE g.rules (leavesOf (nodes t)) E) (h3 : SoundF g.rules (leavesOf (nodes t)) F) (h4 : ClosedF g.rules (leavesOf (nodes t)) F) :
    holdB g x (fun m i j => (E m.toNat i).testBit j) t = allowB g x F t := by
  obtain ⟨_, _, hr⟩ := checkG_zero hg
  have hl : ∀ r ∈ g.rules, 0 ≤ r.left := fun r h => (hr r h).1
  have hv : ∀ r ∈ g.rules, ∀ s ∈ r.right, s.term = false → 0 ≤ s.n := fun r h s hs e => by
    have := (hr r h).2.2.2 s hs
    unfold hasS at this
    rw [e] at this
    simp at this
    exact this.1
  refine hold_allow fun q hq i j hi hj => ?_
  have h0 := ((filtF_bans hx).2.2.2 q hq).2.2.1
  have hjl : j ≤ (leavesOf (nodes t)).length := hj
  rw [Bool.eq_iff_iff, tabE_lang hl h1 h2 hi hjl]
  have := tabF_lang hl hv h3 h4 (A := q.m.toNat) hi hjl
  rw [show ((q.m.toNat : Nat) : Int) = q.m by omega] at this
  exact this.symm
set_option maxHeartbeats 8000000 in
set_option maxRecDepth 100000 in
theorem lawFB (g : Gram) (u0 : Value) (x : Filt) (v1 v2 : Value) (l : List Level) (v3 : Value) (t : Tree) (v4 : Value) (W : World) (hr : Rd AnyB W (.sl (g.rules.map Rule.d)) [u0])
    (hb : Rd AnyB W (.sl (x.bans.map Ban.d)) [v1]) (hj : Rd AnyB W (.sl (x.rejs.map Rej.d)) [v2]) (hl : Rd AnyB W (.sl (l.map Level.d)) [v3]) (hk : Rd AnyB W (.sl (t.kids.map Tree.d)) [v4]) (hN : (nodes t).length ≤ 1099511627776) (hT : Lg.TabG W) :
    Calls Tryd.prog 3 #[.agg #[.int .i64 g.terms, .int .i64 g.nons, .int .i64 g.start, u0], .agg #[v1, v2], v3, .agg #[.int .i64 t.rule, .int .i64 t.term, v4]] W fun e w' => e = .returned (.bool true) ∧ Below W.heap.size W w' := by
  obtain ⟨ar, cr, rfl, -, -⟩ := hr.form
  obtain ⟨ba, bc, rfl, -, -⟩ := hb.form
  obtain ⟨ja, jc, rfl, -, -⟩ := hj.form
  obtain ⟨la, lc, rfl, -, -⟩ := hl.form
  obtain ⟨ka, kc, rfl, -, -⟩ := hk.form
  rw [List.length_map] at hr hb hj hl hk
  rw [List.length_map, List.length_map, List.length_map, List.length_map, List.length_map]
  obtain ⟨PST, HP⟩ := nameIt (fun (e : Ending) (w' : World) => e = .returned (.bool true) ∧ Below W.heap.size W w')
  obtain ⟨w0, HW0⟩ := nameIt (((W.alloc (.cells #[.int .i64 g.terms, .int .i64 g.nons, .int .i64 g.start, .slice ar g.rules.length cr] 24)).alloc (.cells #[.slice ba x.bans.length bc, .slice ja x.rejs.length jc] 28)).alloc (.cells #[.int .i64 t.rule, .int .i64 t.term, .slice ka t.kids.length kc] 32))
  have hb0 : Below W.heap.size W w0 := by rw [← HW0.out]; exact (((Below.refl _ _).alloc (Nat.le_refl _) _).alloc (by simp) _).alloc (by first | (simp; done) | (simp; omega)) _
  have X1 : Hid (w0.heap[W.heap.size]? = some (.cells #[.int .i64 g.terms, .int .i64 g.nons, .int .i64 g.start, .slice ar g.rules.length cr] 24 (0, 0))) := by
    rw [← HW0.out]; exact bx_keep (bx_new _ _ _ rfl) (((Below.refl _ _).alloc (Nat.le_refl _) _).alloc (by simp) _)
  have X2 : Hid (w0.heap[W.heap.size + 1]? = some (.cells #[.slice ba x.bans.length bc, .slice ja x.rejs.length jc] 28 (0, 0))) := by
    rw [← HW0.out]; exact bx_keep (bx_new _ _ _ (by simp)) ((Below.refl _ _).alloc (Nat.le_refl _) _)
  have X3 : Hid (w0.heap[W.heap.size + 2]? = some (.cells #[.int .i64 t.rule, .int .i64 t.term, .slice ka t.kids.length kc] 32 (0, 0))) := by
    rw [← HW0.out]; exact bx_new _ _ _ (by simp)
  have HFIN : Hid (∀ w', Below w0.heap.size w0 w' → PST (.returned (.bool true)) w') := fun w' h => by rw [← HP.out]; exact ⟨rfl, hb0.trans (h.mono hb0.size)⟩
  rw [HP.out]
  clear HP
  have HRR := Lib.hid (hr.below hb0)
  have HBB := Lib.hid (hb.below hb0)
  have HJJ := Lib.hid (hj.below hb0)
  have HLL := Lib.hid (hl.below hb0)
  have HKK := Lib.hid (hk.below hb0)
  have HTT := Lib.hid (hT.keep hb0)
  have CG := Lib.hid (fun w' (h : Below w0.heap.size w0 w') => checkE g ar cr w' (HRR.out.below h))
  have CBF := Lib.hid (fun w' (h : Below w0.heap.size w0 w') => banFaultE g x ar cr ba bc ja jc w' (HRR.out.below h) (HBB.out.below h) (HJJ.out.below h))
  have CLF := Lib.hid (fun w' (h : Below w0.heap.size w0 w') (hg : checkG g = 0) => levelFaultE g l ar cr la lc w' (checkG_zero hg).2.1 (HRR.out.below h) (HLL.out.below h))
  have CBN := Lib.hid (fun w' (h : Below w0.heap.size w0 w') (hg : checkG g = 0) => bannedE g l ar cr la lc w' (checkG_zero hg).2.1 (fun x hx => ((checkG_zero hg).2.2 x hx).2.2.1) (HRR.out.below h) (HLL.out.below h))
  have CLV : Hid (∀ w', Below w0.heap.size w0 w' → Calls Tryd.prog 4 #[.agg #[.int .i64 g.terms, .int .i64 g.nons, .int .i64 g.start, .slice ar g.rules.length cr], .slice la l.length lc] w' fun e w'' => ∃ a c, e = .returned (.tuple #[.slice a (bansX g l).length c, .int .i64 (errL g l)]) ∧ Rd AnyB w'' (.sl ((bansX g l).map Ban.d)) [.slice a (bansX g l).length c] ∧ Below w'.heap.size w' w'') := fun w' h => (levsE g l ar cr la lc w' (HRR.out.below h) (HLL.out.below h)).mono fun _ _ h => lvls_form h
  have CCF := Lib.hid (fun w' (h : Below w0.heap.size w0 w') => checkFE g x ar cr ba bc ja jc w' (HRR.out.below h) (HBB.out.below h) (HJJ.out.below h))
  have CTF := Lib.hid (fun w' (h : Below w0.heap.size w0 w') => TF.treeFaultE g ar cr t ka kc w' (HRR.out.below h) (HKK.out.below h) hN)
  have CY := Lib.hid (fun w' (h : Below w0.heap.size w0 w') => yieldE t _ w' (HKK.out.below h) hN)
  have CH := Lib.hid (fun w' (h : Below w0.heap.size w0 w') => holdsE g x t ar cr ba bc ja jc ka kc w' (HRR.out.below h) (HBB.out.below h) (HJJ.out.below h) (HKK.out.below h) hN (HTT.out.keep h))
  have CA := Lib.hid (fun w' (h : Below w0.heap.size w0 w') h1 h2 h3 h4 => allowE g x t ar cr ba bc ja jc ka kc w' (HRR.out.below h) (HBB.out.below h) (HJJ.out.below h) (HKK.out.below h) h1 h2 h3 h4)
  have HEL := Lib.hid (@errL_O g l)
  have HCF := Lib.hid (@checkF_G g x)
  have HCZ := Lib.hid (@checkF_zero g x)
  have HHE := Lib.hid (@hold_err g x t)
  have HEO : Hid (errO g l = if checkG g = 0 then levF g l else checkG g) := rfl
  have HET : Hid (errT g x t = if checkF g x = 0 then TF.refFault g t else checkF g x) := rfl
  have HBX : Hid (bansX g l = if errL g l = 0 then bansOf g l else []) := rfl
  have HBL : Hid (checkG g = 0 → (bansOf g l).length ≤ 100000) := fun hg => by
    have h := allB_le (checkG_zero hg).2.1 (fun x hx => ((checkG_zero hg).2.2 x hx).2.2.1) l g.rules.length (Nat.le_refl _)
    have h2 := (checkG_zero hg).2.1
    unfold bansOf
    omega
  obtain ⟨gt, HGT⟩ := nameIt g.terms
  obtain ⟨gn, HGN⟩ := nameIt g.nons
  obtain ⟨gs, HGS⟩ := nameIt g.start
  obtain ⟨K, HKn⟩ := nameIt g.rules.length
  obtain ⟨bn, HBNn⟩ := nameIt x.bans.length
  obtain ⟨jn, HJNn⟩ := nameIt x.rejs.length
  obtain ⟨ln, HLNn⟩ := nameIt l.length
  obtain ⟨tr, HTR⟩ := nameIt t.rule
  obtain ⟨tm, HTM⟩ := nameIt t.term
  obtain ⟨kn, HKNn⟩ := nameIt t.kids.length
  obtain ⟨zg, HZG⟩ := nameIt (checkG g)
  obtain ⟨zf, HZF⟩ := nameIt (filtF g x)
  obtain ⟨zl, HZL⟩ := nameIt (levF g l)
  obtain ⟨zr, HZR⟩ := nameIt (TF.refFault g t)
  obtain ⟨z1, HZ1⟩ := nameIt (checkF g x)
  obtain ⟨zo, HZO⟩ := nameIt (errO g l)
  obtain ⟨er, HER⟩ := nameIt (errL g l)
  obtain ⟨z3, HZ3⟩ := nameIt (errT g x t)
  obtain ⟨he, HHEn⟩ := nameIt (holdErr g x t)
  obtain ⟨LX, HLX⟩ := nameIt (bansX g l)
  have HZGv : Hid (checkG g = zg) := HZG
  have HZFv : Hid (filtF g x = zf) := HZF
  rw [HGT.out, HGN.out, HGS.out, HKn.out, HBNn.out, HJNn.out, HTR.out, HTM.out, HKNn.out] at HW0
  rw [HGT.out, HGN.out, HGS.out, HKn.out] at X1
  rw [HBNn.out, HJNn.out] at X2
  rw [HTR.out, HTM.out, HKNn.out] at X3
  simp only [HGT.out, HGN.out, HGS.out, HKn.out, HZG.out] at CG
  simp only [HGT.out, HGN.out, HGS.out, HKn.out, HBNn.out, HJNn.out, HZF.out] at CBF
  simp only [HGT.out, HGN.out, HGS.out, HKn.out, HLNn.out, HZG.out, HZL.out] at CLF
  simp only [HGT.out, HGN.out, HGS.out, HKn.out, HLNn.out, HZG.out] at CBN
  simp only [HGT.out, HGN.out, HGS.out, HKn.out, HLNn.out, HER.out, HLX.out] at CLV
  simp only [HGT.out, HGN.out, HGS.out, HKn.out, HBNn.out, HJNn.out, HZ1.out] at CCF
  simp only [HGT.out, HGN.out, HGS.out, HKn.out, HTR.out, HTM.out, HKNn.out, HZR.out] at CTF
  simp only [HTR.out, HTM.out, HKNn.out] at CY
  simp only [HGT.out, HGN.out, HGS.out, HKn.out, HBNn.out, HJNn.out, HTR.out, HTM.out, HKNn.out] at CH CA
  rw [HZO.out, HER.out, HZG.out] at HEL
  rw [HZ1.out, HZG.out, HZF.out] at HCF
  rw [HZ1.out, HZG.out, HZF.out] at HCZ
  rw [HHEn.out, HZ3.out] at HHE
  rw [HZO.out, HZG.out, HZL.out] at HEO
  rw [HZ3.out, HZ1.out, HZR.out] at HET
  rw [HLX.out, HER.out] at HBX
  rw [HZG.out] at HBL
  rw [HGT.out, HGN.out, HGS.out, HKn.out, HBNn.out, HJNn.out, HLNn.out, HTR.out, HTM.out, HKNn.out]
  obtain ⟨b1, HB1X⟩ := nameIt W.heap.size
  rw [HB1X.out] at X1 X2 X3
  have hl3 : b1 + 2 < w0.heap.size := (Array.getElem?_eq_some_iff.1 X3.out).1
  have HSM := Lib.hid sumsE
  clear hr hb hj hl hk hb0 hT hN HRR HBB HJJ HLL HKK HTT
  go_enter Tryd.func3, Tryd.ntmps3
  go_upto_region 1 with fail
  rw [HW0.out, HB1X.out]
  clear HW0
  go_wp2_with fail
  refine (HSM.out w0).mono ?_
  rintro e w1 ⟨a1, c1, rfl, hr1, hb1⟩
  obtain ⟨w2, HW2⟩ := nameIt ((w1.alloc (.cells #[.int .i64 0] 3)).alloc (.cells #[.slice (some ⟨w1.heap.size, 0, none⟩) 1 1, .int .i64 1] 39))
  have hb2 : Below w1.heap.size w1 w2 := by rw [← HW2.out]; exact ((Below.refl _ _).alloc (Nat.le_refl _) _).alloc (by simp) _
  have XL : w2.heap[w1.heap.size + 1]? = some (.cells #[.slice (some ⟨w1.heap.size, 0, none⟩) 1 1, .int .i64 1] 39 (0, 0)) := by rw [← HW2.out]; exact bx_new _ _ _ (by simp)
  have XI : w2.heap[w1.heap.size]? = some (.cells #[.int .i64 0] 3 (0, 0)) := by rw [← HW2.out]; exact bx_keep (bx_new _ _ _ rfl) ((Below.refl _ _).alloc (Nat.le_refl _) _)
  have hrl : Rd AnyB w2 (.sl (sL.map Level.d)) [.slice (some ⟨w1.heap.size + 1, 0, none⟩) 1 1] := by
    refine rd_block (ds := sL.map Level.d) XL ?_ trivial (by simp [sL, maxLen])
    refine RdAll.one ⟨[.slice (some ⟨w1.heap.size, 0, none⟩) 1 1], [.int .i64 1], rfl, ?_, RdAll.one rfl⟩
    exact rd_block (ds := [(0 : Int)].map D.int) XI (RdAll.one rfl) trivial (by simp [maxLen])
  have HS := Lib.hid (levsE sG sL a1 c1 (some ⟨w1.heap.size + 1, 0, none⟩) 1 w2 (hr1.below hb2) hrl)
  have HB02 : Hid (Below w0.heap.size w0 w2) := hb1.trans (hb2.mono hb1.size)
  clear hr1 hb1 hb2 XL XI hrl HSM
  go_wp2_with fail
  rw [HW2.out]
  clear HW2
  refine HS.out.mono ?_
  intro e w3 hpo
  obtain ⟨a3, c3, rfl, hr3, hb3⟩ := lvls_form hpo
  have hbx : bansX sG sL = [⟨0, 2, 0⟩] := by unfold bansX; rw [if_pos s_err, s_bans]
  rw [hbx] at hr3
  rw [hbx, s_err, show ([⟨0, 2, 0⟩] : List Ban).length = 1 from rfl]
  have hal : Below w3.heap.size w3 (w3.alloc (.cells #[.int .i64 0, .int .i64 2, .int .i64 0] 42)) := (Below.refl _ _).alloc (Nat.le_refl _) _
  have HEQ := Lib.hid (equalBansE [⟨0, 2, 0⟩] a3 (some ⟨w3.heap.size, 0, none⟩) c3 1 (w3.alloc (.cells #[.int .i64 0, .int .i64 2, .int .i64 0] 42)) (hr3.below hal) (rd_block (ds := [(⟨0, 2, 0⟩ : Ban)].map Ban.d) (bx_new _ _ _ rfl) (bans_lit [⟨0, 2, 0⟩]) trivial (by simp [maxLen])))
  rw [show ([⟨0, 2, 0⟩] : List Ban).length = 1 from rfl] at HEQ
  have HB03 : Hid (Below w0.heap.size w0 w3) := HB02.out.trans (hb3.mono HB02.out.size)
  have HAL := Lib.hid hal
  clear hpo hr3 hb3 hal HS hbx
  go_wp2_with fail
  refine HEQ.out.mono ?_
  rintro e w4 ⟨rfl, hb4⟩
  have HB04 : Hid (Below w0.heap.size w0 w4) := HB03.out.trans ((HAL.out.trans (hb4.mono HAL.out.size)).mono HB03.out.size)
  have HCG4 := Lib.hid (fun w' (hb : Below w4.heap.size w4 w') => CG.out w' (HB04.out.trans (hb.mono HB04.out.size)))
  obtain ⟨x0, x1, x2, x3⟩ := bx_cells4 (bx_keep X1.out HB04.out)
  have hlx := lt_of_cell x0
  clear hb4 HEQ HAL
  go_upto_region 4 with fail
  have ax0 := aft_cell x0
  have ax1 := aft_cell x1
  have ax2 := aft_cell x2
  have ax3 := aft_cell x3
  refine wp_region_after (by kernel_rfl) (by kernel_rfl) ?_
  repeat (go_big_quiet_step (with_reducible exact Calls.after (HCG4.out _ (Aft.bel _))))
  refine wpQuiet_nil ?_
  rintro w5 ⟨⟨_, hb5⟩, rfl⟩
  have HB05 : Hid (Below w0.heap.size w0 w5) := HB04.out.trans (hb5.mono HB04.out.size)
  clear ax0 ax1 ax2 ax3 x0 x1 x2 x3 hb5 HCG4 hlx
  obtain ⟨gb, HGBn⟩ : ∃ b : Bool, (zg == 0) = b := ⟨_, rfl⟩
  have HGBV : Hid ((zg == 0) = gb) := HGBn
  go_upto_if 40 with fail
  go_cut [11, 12] (fun v11 v12 wx => v11 = .int .i64 z1 ∧ v12 = .int .i64 zo ∧ Hid (Below w0.heap.size w0 wx))
  case first =>
    cases gb with
    | false =>
      have hz : zg ≠ 0 := by simpa using HGBV.out
      have e1 : Hid (z1 = zg) := by show _ = _; rw [HCF.out, if_neg hz]
      have e2 : Hid (zo = zg) := by show _ = _; rw [HEO.out, if_neg hz]
      clear hz
      go_wp2_with fail
      go_meet
      exact ⟨by rw [e1.out], by rw [e2.out], HB05.out⟩
    | true =>
      have hz : zg = 0 := by simpa using HGBV.out
      have e1 : Hid (zf = z1) := by show _ = _; rw [HCF.out, if_pos hz]
      have e2 : Hid (zl = zo) := by show _ = _; rw [HEO.out, if_pos hz]
      have HC1 := Lib.hid (fun w' (hb : Below w5.heap.size w5 w') => CBF.out w' (HB05.out.trans (hb.mono HB05.out.size)))
      have HC2 := Lib.hid (fun w' (hb : Below w5.heap.size w5 w') => CLF.out w' (HB05.out.trans (hb.mono HB05.out.size)) hz)
      rw [e1.out] at HC1
      rw [e2.out] at HC2
      obtain ⟨x0, x1, x2, x3⟩ := bx_cells4 (bx_keep X1.out HB05.out)
      obtain ⟨y0, y1⟩ := bx_cells2 (bx_keep X2.out HB05.out)
      have ax0 := aft_cell x0
      have ax1 := aft_cell x1
      have ax2 := aft_cell x2
      have ax3 := aft_cell x3
      have ay0 := aft_cell y0
      have ay1 := aft_cell y1
      clear hz e1 e2
      go_upto_region 7 with fail
      refine wp_region_after (by kernel_rfl) (by kernel_rfl) ?_
      repeat (go_big_quiet_step (first | with_reducible exact Calls.after (HC1.out _ (Aft.bel _)) | with_reducible exact Calls.after (HC2.out _ (Aft.bel _)) | fail))
      refine wpQuiet_nil ?_
      rintro w7 ⟨⟨_, hb7⟩, rfl⟩
      have HB7 := Lib.hid (HB05.out.trans (hb7.mono HB05.out.size))
      clear ax0 ax1 ax2 ax3 ay0 ay1 x0 x1 x2 x3 y0 y1 hb7
      go_wp2_with fail
      go_meet
      exact ⟨rfl, rfl, HB7.out⟩
  case rest =>
  obtain ⟨rfl, rfl, HBC⟩ := hcut
  obtain ⟨w6, HW6⟩ : ∃ w6 : World, w6 = wc := ⟨_, rfl⟩
  subst HW6
  clear HGBn HGBV HB05
  obtain ⟨ob, HOB⟩ : ∃ b : Bool, (zo == 0) = b := ⟨_, rfl⟩
  have HOBV : Hid ((zo == 0) = ob) := HOB
  obtain ⟨xn, HXN⟩ := nameIt LX.length
  go_upto_if 48 with fail
  go_cut [12, 13] (fun v12 v13 wx => v12 = .int .i64 er ∧ (∃ a c, v13 = .slice a xn c ∧ Hid (Rd AnyB wx (.sl (LX.map Ban.d)) [.slice a xn c])) ∧ Hid (Below w0.heap.size w0 wx))
  case first =>
    have HNIL : Hid (∀ w', er ≠ 0 → xn = 0 ∧ Rd AnyB w' (.sl (LX.map Ban.d)) [.slice none xn 0]) := by
      intro w' h
      have e : LX = [] := by rw [HBX.out, if_neg h]
      have e2 : xn = 0 := by rw [← HXN.out, e]; rfl
      subst e2
      rw [e]
      exact ⟨rfl, none, 0, [], rfl, Nat.le_refl _, Nat.zero_le _, fun _ => rfl, (fun i h => by cases h), by simp [RdAll]⟩
    cases ob with
    | false =>
      have hz : zo ≠ 0 := by simpa using HOBV.out
      have e1 : Hid (er = zo) := HEL.out.1 hz
      have HN := Lib.hid (HNIL.out w6 (by rw [e1.out]; exact hz))
      have e2 : Hid (0 = xn) := HN.out.1.symm
      have hrd := HN.out.2
      have HRD := Lib.hid hrd
      clear hz HNIL HN hrd
      go_wp2_with fail
      go_meet
      exact ⟨by rw [e1.out], ⟨none, 0, by rw [← e2.out], HRD.out⟩, HBC.out⟩
    | true =>
      have hz : zo = 0 := by simpa using HOBV.out
      obtain ⟨hg0, he0⟩ := HEL.out.2 hz
      have HG0 := Lib.hid hg0
      have HE0 := Lib.hid he0
      have HC1 := Lib.hid (CBN.out w6 HBC.out hg0)
      have hbl := HBL.out hg0
      obtain ⟨bl, HBLn⟩ := nameIt (bansOf g l).length
      rw [HBLn.out] at HE0 hbl
      obtain ⟨x0, x1, x2, x3⟩ := bx_cells4 (bx_keep X1.out HBC.out)
      have hlx := lt_of_cell x0
      clear hz hg0 he0
      go_wp2_with fail
      refine HC1.out.mono ?_
      rintro e w7 ⟨v7, rfl, ho7, hb7⟩
      have HB7 : Hid (Below w0.heap.size w0 w7) := HBC.out.trans (hb7.mono HBC.out.size)
      have HR7 := Lib.hid (own_bans ho7)
      obtain ⟨a7, c7, rfl, -, -⟩ := own_len ho7
      rw [HBLn.out] at HR7
      rw [HBLn.out]
      clear ho7 hb7 x0 x1 x2 x3 HC1
      by_cases hbig : 400 < bl
      · have k4 : decide ((400 : Int) < (bl : Int)) = true := by simp; omega
        have k5 : ¬ bl ≤ 400 := by omega
        have e1 : Hid (er = 2) := by show _ = _; rw [HE0.out, if_pos hbig]
        have HN := Lib.hid (HNIL.out w7 (by rw [e1.out]; decide))
        have e2 : Hid (0 = xn) := HN.out.1.symm
        have HRD := Lib.hid HN.out.2
        clear HN HNIL
        go_wp2_with fail
        go_meet
        exact ⟨by rw [e1.out], ⟨none, 0, by rw [← e2.out], HRD.out⟩, HB7.out⟩
      · have k4 : decide ((400 : Int) < (bl : Int)) = false := by simp; omega
        have k5 : bl ≤ 400 := by omega
        have e1 : Hid (er = 0) := by show _ = _; rw [HE0.out, if_neg hbig]
        have e2 : LX = bansOf g l := by rw [HBX.out, if_pos e1.out]
        have e3 : Hid (bl = xn) := by show _ = _; rw [← HXN.out, e2, HBLn.out]
        have HRD : Hid (Rd AnyB w7 (.sl (LX.map Ban.d)) [.slice a7 xn c7]) := by rw [e2, ← e3.out]; exact HR7.out
        have HZO0 : Hid (zo = 0) := by have := HOBV.out; show zo = 0; simpa using this
        clear e2 HNIL HR7
        go_wp2_with fail
        go_meet
        exact ⟨by rw [e1.out, HZO0.out], ⟨a7, c7, by rw [e3.out], HRD.out⟩, HB7.out⟩
  case rest =>
  obtain ⟨rfl, ⟨a13, c13, rfl, HR13⟩, HBC2⟩ := hcut
  obtain ⟨w8, HW8⟩ : ∃ w8 : World, w8 = wc := ⟨_, rfl⟩
  subst HW8
  clear HOB HOBV HBC HEL HEO HBL CBN CLF CBF CG
  have HLV8 := Lib.hid (CLV.out w8 HBC2.out)
  rw [HXN.out] at HLV8
  obtain ⟨x0, x1, x2, x3⟩ := bx_cells4 (bx_keep X1.out HBC2.out)
  have hlx := lt_of_cell x0
  go_wp2_with fail
  refine HLV8.out.mono ?_
  rintro e w9 ⟨a14, c14, rfl, hr14, hb9⟩
  have HR14 := Lib.hid hr14
  have HR13' := Lib.hid (HR13.out.below hb9)
  have HB9 : Hid (Below w0.heap.size w0 w9) := HBC2.out.trans (hb9.mono HBC2.out.size)
  have HC9 := Lib.hid (CCF.out w9 HB9.out)
  clear hr14 hb9 x0 x1 x2 x3 hlx HLV8
  obtain ⟨x0, x1, x2, x3⟩ := bx_cells4 (bx_keep X1.out HB9.out)
  obtain ⟨y0, y1⟩ := bx_cells2 (bx_keep X2.out HB9.out)
  have hlx := lt_of_cell x0
  have hly := lt_of_cell y0
  have k6 : (z1 != z1) = false := by simp
  have k7 : (er != er) = false := by simp
  go_wp2_with fail
  refine HC9.out.mono ?_
  rintro e w10 ⟨rfl, hb10⟩
  have HB10 : Hid (Below w0.heap.size w0 w10) := HB9.out.trans (hb10.mono HB9.out.size)
  have heq := equalBansE LX a14 a13 c14 c13 w10 (by rw [HXN.out]; exact HR14.out.below hb10) (by rw [HXN.out]; exact HR13'.out.below hb10)
  rw [HXN.out] at heq
  have HEQ := Lib.hid heq
  clear hb10 x0 x1 x2 x3 y0 y1 hlx hly heq HC9 HR13 HR14 HR13'
  go_wp2_with fail
  refine HEQ.out.mono ?_
  rintro e w11 ⟨rfl, hb11⟩
  have HB11 : Hid (Below w0.heap.size w0 w11) := HB10.out.trans (hb11.mono HB10.out.size)
  clear hb11 HEQ k6 k7
  obtain ⟨fb, HFBn⟩ : ∃ b : Bool, (z1 == 0) = b := ⟨_, rfl⟩
  have HFBV : Hid ((z1 == 0) = fb) := HFBn
  go_upto_if 78 with fail
  go_cut [11] (fun v11 wx => v11 = .int .i64 z3 ∧ Hid (Below w0.heap.size w0 wx))
  case first =>
    cases fb with
    | false =>
      have hz : z1 ≠ 0 := by simpa using HFBV.out
      have e1 : Hid (z3 = z1) := by show _ = _; rw [HET.out, if_neg hz]
      clear hz
      go_wp2_with fail
      go_meet
      exact ⟨by rw [e1.out], HB11.out⟩
    | true =>
      have hz : z1 = 0 := by simpa using HFBV.out
      have e1 : Hid (zr = z3) := by show _ = _; rw [HET.out, if_pos hz]
      have HC1 := Lib.hid (CTF.out w11 HB11.out)
      rw [e1.out] at HC1
      obtain ⟨x0, x1, x2, x3⟩ := bx_cells4 (bx_keep X1.out HB11.out)
      obtain ⟨y0, y1, y2⟩ := bx_cells3 (bx_keep X3.out HB11.out)
      have hlx := lt_of_cell x0
      have hly := lt_of_cell y0
      clear hz e1
      go_wp2_with fail
      refine HC1.out.mono ?_
      rintro e w12 ⟨rfl, hb12⟩
      have HB12 := Lib.hid (HB11.out.trans (hb12.mono HB11.out.size))
      clear x0 x1 x2 x3 y0 y1 y2 hb12
      go_wp2_with fail
      go_meet
      exact ⟨rfl, HB12.out⟩
  case rest =>
  obtain ⟨rfl, HBC3⟩ := hcut
  obtain ⟨w12, HW12⟩ : ∃ w12 : World, w12 = wc := ⟨_, rfl⟩
  subst HW12
  clear HFBn HFBV HB11 HB10 HB9 HBC2
  obtain ⟨tb, HTBn⟩ : ∃ b : Bool, (z3 == 0) = b := ⟨_, rfl⟩
  have HTBV : Hid ((z3 == 0) = tb) := HTBn
  obtain ⟨lb, HLBn⟩ := nameIt (tb && decide (12 < lv t))
  go_upto_region 17 with fail
  go_cut [89] (fun v wx => v = .bool lb ∧ Hid (Below w0.heap.size w0 wx))
  case first =>
    cases tb with
    | false =>
      have e1 : Hid (false = lb) := HLBn.out
      go_wp2_with fail
      go_meet
      exact ⟨by rw [← e1.out], HBC3.out⟩
    | true =>
      have e1 : Hid (decide (12 < lv t) = lb) := by show _ = _; rw [← HLBn.out]; simp
      have HC1 := Lib.hid (CY.out w12 HBC3.out)
      obtain ⟨y0, y1, y2⟩ := bx_cells3 (bx_keep X3.out HBC3.out)
      have hly := lt_of_cell y0
      go_wp2_with fail
      refine HC1.out.mono ?_
      rintro e w13 ⟨v13, rfl, hs13, hb13⟩
      obtain ⟨a14', c14', rfl⟩ := hs13.form
      have HLVT : Hid (lv t = (leavesOf (nodes t)).length) := rfl
      rw [ints_len]
      obtain ⟨n, HN⟩ := nameIt (leavesOf (nodes t)).length
      rw [HN.out] at HLVT
      rw [HN.out]
      have HB13 := Lib.hid (HBC3.out.trans (hb13.mono HBC3.out.size))
      rw [HLVT.out] at e1
      have k4 : decide ((12 : Int) < (n : Int)) = lb := by rw [← e1.out]; rw [Bool.eq_iff_iff]; simp; try omega
      have k5 := e1.out
      clear hs13 hb13 y0 y1 y2 hly
      go_wp2_with fail
      go_meet
      exact ⟨rfl, HB13.out⟩
  case rest =>
  obtain ⟨rfl, HBC4⟩ := hcut
  obtain ⟨w14, HW14⟩ : ∃ w14 : World, w14 = wc := ⟨_, rfl⟩
  subst HW14
  clear HBC3
  have HHEV : Hid (he = if lb then 2 else z3) := by
    show _ = _
    rw [HHE.out, ← HLBn.out]
    cases tb with
    | false =>
      have hz : z3 ≠ 0 := by simpa using HTBV.out
      rw [if_neg hz]; simp
    | true =>
      have hz : z3 = 0 := by simpa using HTBV.out
      rw [if_pos hz, hz]; simp
  have HE3 : Hid (he = 0 → z3 = 0) := by
    intro h
    rw [HHEV.out] at h
    cases lb with
    | true => simp at h
    | false => simpa using h
  have HE12 : Hid (he = 0 → lv t ≤ 12) := by
    intro h
    have h3 := HE3.out h
    rw [HHE.out, if_pos h3] at h
    by_cases h4 : 12 < lv t
    · rw [if_pos h4] at h; exact absurd h (by decide)
    · omega
  clear HTBn
  go_upto_if 89 with fail
  go_cut [11] (fun v11 wx => v11 = .int .i64 he ∧ Hid (w14 = wx))
  case first =>
    cases lb with
    | false =>
      have e1 : Hid (he = z3) := HHEV.out
      go_wp2_with fail
      go_meet
      exact ⟨by rw [e1.out], Lib.hid rfl⟩
    | true =>
      have e1 : Hid (he = 2) := HHEV.out
      go_wp2_with fail
      go_meet
      exact ⟨by rw [e1.out], Lib.hid rfl⟩
  case rest =>
  obtain ⟨rfl, HWX⟩ := hcut
  obtain rfl := HWX.out
  clear HWX
  have HC1 := Lib.hid (CH.out w14 HBC4.out)
  obtain ⟨x0, x1, x2, x3⟩ := bx_cells4 (bx_keep X1.out HBC4.out)
  obtain ⟨y0, y1⟩ := bx_cells2 (bx_keep X2.out HBC4.out)
  obtain ⟨t0, t1, t2⟩ := bx_cells3 (bx_keep X3.out HBC4.out)
  have hlx := lt_of_cell x0
  have hly := lt_of_cell y0
  have hlt := lt_of_cell t0
  go_wp2_with fail
  refine HC1.out.mono ?_
  intro e w15 hpo
  obtain ⟨hb15, hor⟩ := hpo
  rw [HHEn.out] at hor
  have HB15 : Hid (Below w0.heap.size w0 w15) := HBC4.out.trans (hb15.mono HBC4.out.size)
  clear x0 x1 x2 x3 y0 y1 t0 t1 t2 hb15 hlx hly hlt HC1
  rcases hor with ⟨hne, rfl⟩ | ⟨heq, E, hE1, hE2, rfl⟩
  · have k1 : (he != 0) = true := by simpa using hne
    have k2 : (he == he) = true := by simp
    have HE := Lib.hid (HFIN.out w15 HB15.out)
    clear hne
    go_wp2_with fail
    exact HE.out
  · have k1 : (he != 0) = false := by simpa using heq
    have hz3 := HE3.out heq
    have hl12 := HE12.out heq
    have hzz : z1 = 0 ∧ TF.refFault g t = 0 := by
      by_cases h1 : z1 = 0
      · rw [HET.out, if_pos h1] at hz3
        exact ⟨h1, by rw [HZR.out]; exact hz3⟩
      · rw [HET.out, if_neg h1] at hz3; exact absurd hz3 h1
    obtain ⟨hg0, hf0⟩ := HCZ.out hzz.1
    have hck : checkG g = 0 := by rw [HZGv.out]; exact hg0
    have hff : filtF g x = 0 := by rw [HZFv.out]; exact hf0
    have hct : checkT g t = 0 := by rw [check_ref', if_pos hck]; exact hzz.2
    have HC2 := Lib.hid (CA.out w15 HB15.out hck hct hff hl12)
    have HSAMEV := Lib.hid (fun F h3 h4 => @tabs_same g x t E F hck hff hE1 hE2 h3 h4)
    obtain ⟨hv, HHV⟩ := nameIt (holdB g x (fun m i j => (E m.toNat i).testBit j) t)
    simp only [HHV.out] at HSAMEV
    rw [HHV.out]
    obtain ⟨x0, x1, x2, x3⟩ := bx_cells4 (bx_keep X1.out HB15.out)
    obtain ⟨y0, y1⟩ := bx_cells2 (bx_keep X2.out HB15.out)
    obtain ⟨t0, t1, t2⟩ := bx_cells3 (bx_keep X3.out HB15.out)
    have hlx := lt_of_cell x0
    have hly := lt_of_cell y0
    have hlt := lt_of_cell t0
    have HH0 : Hid (he = 0) := heq
    have k8 : (he == 0) = true := by simpa using heq
    clear heq hz3 hl12 hzz hg0 hf0 hck hff hct hE1 hE2
    rw [HH0.out] at k1 k8
    rw [HH0.out]
    go_wp2_with fail
    refine HC2.out.mono ?_
    intro e w16 hpo
    obtain ⟨hb16, F, hF1, hF2, rfl⟩ := hpo
    have HE := Lib.hid (HFIN.out w16 (HB15.out.trans (hb16.mono HB15.out.size)))
    rw [← HSAMEV.out F hF1 hF2]
    have k9 : (hv == hv) = true := by simp
    clear hb16 hF1 hF2 x0 x1 x2 x3 y0 y1 t0 t1 t2
    go_wp2_with fail
    exact HE.out
end Fb
end Go.Proofs.YtgcfpbjifjklbaaDoor
namespace Go.Proofs.YtgcfpbjifjklbaaDoor
open Go.RowKit Go.ChangeShapes Go.WideShapes Go.Deep
def OpensF {α : Type} (P : Program) (t : TypeId) (e : α → D) (sz : α → Nat) (ok lim : α → Prop) (N : Nat) : Prop :=
  ∀ (H : Type) (enc : TypeId × Value → H) (w : World) (n : Nat) (cs : List Value) (x : DataW H × List MemPlace), n ≤ N → DataW.trod enc P w 0 (fun _ => true) true n t cs = some x →
    ∃ a : α, Rd AnyB w (e a) cs ∧ sz a ≤ Rows.uptoBulk x.1 ∧ ok a ∧ ((∀ y ∈ DataW.weights P t x.1, y ≤ reachBytes) → lim a)
def Opens {α : Type} (P : Program) (t : TypeId) (e : α → D) (sz : α → Nat) (ok lim : α → Prop) : Prop := ∀ N, OpensF P t e sz ok lim N
def i64 (n : Int) : Prop := -9223372036854775808 ≤ n ∧ n ≤ 9223372036854775807
def one {α : Type} (_ : α) : Nat := 1
def any {α : Type} (_ : α) : Prop := True
theorem opens_int {P : Program} {t : TypeId} (ht : P.underlying t = some (.int .i64)) : Opens P t D.int one i64 any := by
  intro N H enc w n cs x _ h
  obtain ⟨z, h1, h2, h3⟩ := DataW.trod_int ht h
  subst h1 h2
  refine ⟨z, rfl, by simp [Rows.uptoBulk, one], ?_, fun _ => trivial⟩
  simpa [Lit.wf, IntKind.min, IntKind.max, IntKind.signed, IntKind.bits, i64] using h3
theorem opens_bool {P : Program} {t : TypeId} (ht : P.underlying t = some .bool) : Opens P t D.bool one any any := by
  intro N H enc w n cs x _ h
  obtain ⟨z, h1, h2⟩ := DataW.trod_bool ht h
  subst h1 h2
  exact ⟨z, rfl, by simp [Rows.uptoBulk, one], trivial, fun _ => trivial⟩
theorem bulkAll_append {H : Type} (l r : List (DataW H)) : Rows.uptoBulkAll (l ++ r) = Rows.uptoBulkAll l + Rows.uptoBulkAll r := by
  induction l with
  | nil => simp [Rows.uptoBulkAll]
  | cons x l ih => simp only [List.cons_append, Rows.uptoBulkAll, ih]; omega
theorem weightsAll_append {H : Type} (P : Program) (e : TypeId) (l r : List (DataW H)) : DataW.weightsAll P e (l ++ r) = DataW.weightsAll P e l ++ DataW.weightsAll P e r := by
  induction l with
  | nil => simp [DataW.weightsAll]
  | cons x l ih => simp [DataW.weightsAll, ih]
def slD {α : Type} (e : α → D) (l : List α) : D := .sl (l.map e)
def slSz {α : Type} (sz : α → Nat) (l : List α) : Nat := (l.map sz).sum + 1
def slOk {α : Type} (ok : α → Prop) (l : List α) : Prop := ∀ a ∈ l, ok a
def slLim {α : Type} (b : Nat) (lim : α → Prop) (l : List α) : Prop := l.length * b ≤ reachBytes ∧ ∀ a ∈ l, lim a
theorem opens_slice {α : Type} {P : Program} {t el : TypeId} {e : α → D} {sz : α → Nat} {ok lim : α → Prop} {N b : Nat} (ht : P.underlying t = some (.slice el)) (hby : P.bytesOf el = b) (ho : OpensF P el e sz ok lim N) :
    OpensF P t (slD e) (slSz sz) (slOk ok) (slLim b lim) N := by
  intro H enc w n cs x hn h
  rcases DataW.trod_slice ht h with ⟨rfl, rfl⟩ | ⟨a, len, cap, elems, rest, n', hf, rfl, rfl, hb, hl, hm, hlen, hel, _, _⟩
  · exact ⟨[], ⟨none, 0, [], rfl, by simp, by simp [maxLen], fun _ => rfl, fun i hi => by simp at hi, rfl⟩, by simp [Rows.uptoBulk, slSz], by simp [slOk], fun _ => ⟨by simp, by simp⟩⟩
  · have key : ∀ k, k ≤ len → ∃ (l : List α) (L : List Value), l.length = k ∧ RdAll AnyB w (l.map e) L ∧ L.length = k * P.cellsOf el ∧ (∀ j (hj : j < L.length), w.cell? (a.add j) = some L[j]) ∧
        (l.map sz).sum ≤ Rows.uptoBulkAll ((elems.take k).map (·.1)) ∧ slOk ok l ∧ ((∀ y ∈ DataW.weightsAll P el ((elems.take k).map (·.1)), y ≤ reachBytes) → ∀ a ∈ l, lim a) := by
      intro k
      induction k with
      | zero => intro _; exact ⟨[], [], rfl, by simp [RdAll], by simp, fun j hj => by simp at hj, by simp, by simp [slOk], fun _ => by simp⟩
      | succ k ih =>
        intro hk
        obtain ⟨l, L, h1, h2, h3, h4, h5, h6, h7⟩ := ih (by omega)
        have hk' : k < elems.length := by omega
        have he := hel k (by omega)
        rw [List.getElem?_eq_getElem hk'] at he
        obtain ⟨cs', hc1, hc2⟩ := Option.bind_eq_some_iff.1 he
        obtain ⟨a', r1, r2, r3, r4⟩ := ho H enc w n' cs' elems[k] (by omega) hc2
        obtain ⟨_, hcl, hcc⟩ := World.cells?_some hc1
        refine ⟨l ++ [a'], L ++ cs', by simp [h1], by rw [List.map_append]; exact RdAll.append h2 (RdAll.one r1), by simp [h3, hcl, Nat.add_mul], ?_, ?_, ?_, ?_⟩
        · intro j hj
          by_cases hjl : j < L.length
          · rw [List.getElem_append_left hjl]; exact h4 j hjl
          · simp at hj
            rw [List.getElem_append_right (by omega)]
            have := hcc (j - L.length) (by omega)
            rw [Deep.add_add, ← h3, show L.length + (j - L.length) = j by omega] at this
            rw [this, List.getElem?_eq_getElem (by omega)]
        · rw [List.take_succ_eq_append_getElem hk', List.map_append, List.map_append, bulkAll_append]
          simp [Rows.uptoBulkAll]
          simp at h5
          omega
        · intro y hy
          rcases List.mem_append.1 hy with h | h
          · exact h6 y h
          · simp at h; subst h; exact r3
        · intro hw y hy
          rw [List.take_succ_eq_append_getElem hk', List.map_append, weightsAll_append] at hw
          rcases List.mem_append.1 hy with h | h
          · exact h7 (fun z hz => hw z (List.mem_append_left _ hz)) y h
          · simp at h; subst h
            exact r4 (fun z hz => hw z (List.mem_append_right _ (by simpa [DataW.weightsAll] using hz)))
    obtain ⟨l, L, h1, h2, h3, h4, h5, h6, h7⟩ := key len (Nat.le_refl _)
    rw [List.take_of_length_le (by omega)] at h5 h7
    refine ⟨l, ⟨some a, cap, L, by simp [h1], by simpa [h1] using hl, hm, (fun h => by cases h), fun i hi => ⟨a, rfl, trivial, h4 i hi⟩, h2⟩, ?_, h6, ?_⟩
    · simp only [Rows.uptoBulk, slSz]; omega
    · intro hw
      simp only [DataW.weights, ht] at hw
      refine ⟨?_, h7 fun y hy => hw y (by simp [hy])⟩
      have := hw ((elems.map (·.1)).length + (rest.map (·.1)).length |>.mul (P.bytesOf el)) (by left)
      rw [h1, ← hlen, ← hby]
      have h8 : elems.length * P.bytesOf el ≤ ((elems.map (·.1)).length + (rest.map (·.1)).length) * P.bytesOf el := Nat.mul_le_mul_right _ (by simp)
      exact Nat.le_trans h8 this
theorem split2 {cs : List Value} {c0 c1 : Nat} (h : cs.length = c0 + c1) : cs = (cs.drop 0).take c0 ++ (cs.drop c0).take c1 := by
  rw [List.drop_zero, List.take_of_length_le (l := cs.drop c0) (by simp; omega), List.take_append_drop]
theorem split3 {cs : List Value} {c0 c1 c2 : Nat} (h : cs.length = c0 + c1 + c2) : cs = (cs.drop 0).take c0 ++ ((cs.drop c0).take c1 ++ (cs.drop (c0 + c1)).take c2) := by
  rw [← List.drop_drop, ← split2' (cs := cs.drop c0) (by simp; omega)]
  simp
where
  split2' {cs : List Value} {c1 c2 : Nat} (h : cs.length = c1 + c2) : cs = cs.take c1 ++ (cs.drop c1).take c2 := by
    have := split2 h
    simpa using this
theorem split4 {cs : List Value} {c0 c1 c2 c3 : Nat} (h : cs.length = c0 + c1 + c2 + c3) : cs = (cs.drop 0).take c0 ++ ((cs.drop c0).take c1 ++ ((cs.drop (c0 + c1)).take c2 ++ (cs.drop (c0 + c1 + c2)).take c3)) := by
  have h3 := split3 (cs := cs.drop c0) (c0 := c1) (c1 := c2) (c2 := c3) (by simp; omega)
  simp only [List.drop_drop, List.drop_zero] at h3 ⊢
  rw [← Nat.add_assoc, Nat.add_zero] at h3
  rw [← h3, List.take_append_drop]
theorem opens_struct2 {α β δ : Type} {P : Program} {t : TypeId} {f0 f1 : Field} {e0 : α → D} {e1 : β → D} {s0 : α → Nat} {s1 : β → Nat} {k0 l0 : α → Prop} {k1 l1 : β → Prop} {N c0 c1 : Nat} (mk : α → β → δ) {e : δ → D} {sz : δ → Nat} {ok lim : δ → Prop}
    (ht : P.underlying t = some (.struct #[f0, f1])) (ho : f0.offset = 0 ∧ f1.offset = c0 ∧ P.cellsOf f0.type = c0 ∧ P.cellsOf f1.type = c1 ∧ P.cellsOf t = c0 + c1)
    (h0 : OpensF P f0.type e0 s0 k0 l0 N) (h1 : OpensF P f1.type e1 s1 k1 l1 N)
    (he : ∀ a b, e (mk a b) = .agg [e0 a, e1 b]) (hs : ∀ a b, sz (mk a b) ≤ s0 a + s1 b + 1) (hk : ∀ a b, k0 a → k1 b → ok (mk a b)) (hl : ∀ a b, l0 a → l1 b → lim (mk a b)) : OpensF P t e sz ok lim (N + 1) := by
  intro H enc w n cs x hn h
  obtain ⟨xs, n', hf, rfl, hcl, hlen, hfs⟩ := DataW.trod_struct ht h
  obtain ⟨o0, o1, p0, p1, p2⟩ := ho
  match xs, hlen with
  | [y0, y1], _ =>
    have g0 : DataW.trod enc P w 0 (fun _ => true) true n' f0.type ((cs.drop f0.offset).take (P.cellsOf f0.type)) = some y0 := by simpa using hfs 0 f0 rfl
    have g1 : DataW.trod enc P w 0 (fun _ => true) true n' f1.type ((cs.drop f1.offset).take (P.cellsOf f1.type)) = some y1 := by simpa using hfs 1 f1 rfl
    obtain ⟨a, r1, r2, r3, r4⟩ := h0 H enc w n' _ _ (by omega) g0
    obtain ⟨b, q1, q2, q3, q4⟩ := h1 H enc w n' _ _ (by omega) g1
    rw [o0, p0] at r1
    rw [o1, p1] at q1
    refine ⟨mk a b, ?_, ?_, hk a b r3 q3, fun hw => ?_⟩
    · rw [he, split2 (hcl.trans p2)]
      exact ⟨_, _, rfl, r1, RdAll.one q1⟩
    · have := hs a b
      simp [Rows.uptoBulk, Rows.uptoBulkAll]; omega
    · simp [DataW.weights, ht, DataW.weightsEach] at hw
      exact hl a b (r4 fun y hy => hw y (by simp [hy])) (q4 fun y hy => hw y (by simp [hy]))
theorem opens_struct3 {α β γ δ : Type} {P : Program} {t : TypeId} {f0 f1 f2 : Field} {e0 : α → D} {e1 : β → D} {e2 : γ → D} {s0 : α → Nat} {s1 : β → Nat} {s2 : γ → Nat} {k0 l0 : α → Prop} {k1 l1 : β → Prop} {k2 l2 : γ → Prop} {N c0 c1 c2 : Nat} (mk : α → β → γ → δ) {e : δ → D} {sz : δ → Nat} {ok lim : δ → Prop}
    (ht : P.underlying t = some (.struct #[f0, f1, f2])) (ho : f0.offset = 0 ∧ f1.offset = c0 ∧ f2.offset = c0 + c1 ∧ P.cellsOf f0.type = c0 ∧ P.cellsOf f1.type = c1 ∧ P.cellsOf f2.type = c2 ∧ P.cellsOf t = c0 + c1 + c2)
    (h0 : OpensF P f0.type e0 s0 k0 l0 N) (h1 : OpensF P f1.type e1 s1 k1 l1 N) (h2 : OpensF P f2.type e2 s2 k2 l2 N)
    (he : ∀ a b c, e (mk a b c) = .agg [e0 a, e1 b, e2 c]) (hs : ∀ a b c, sz (mk a b c) ≤ s0 a + s1 b + s2 c + 1) (hk : ∀ a b c, k0 a → k1 b → k2 c → ok (mk a b c)) (hl : ∀ a b c, l0 a → l1 b → l2 c → lim (mk a b c)) : OpensF P t e sz ok lim (N + 1) := by
  intro H enc w n cs x hn h
  obtain ⟨xs, n', hf, rfl, hcl, hlen, hfs⟩ := DataW.trod_struct ht h
  obtain ⟨o0, o1, o2, p0, p1, p2, p3⟩ := ho
  match xs, hlen with
  | [y0, y1, y2], _ =>
    have g0 : DataW.trod enc P w 0 (fun _ => true) true n' f0.type ((cs.drop f0.offset).take (P.cellsOf f0.type)) = some y0 := by simpa using hfs 0 f0 rfl
    have g1 : DataW.trod enc P w 0 (fun _ => true) true n' f1.type ((cs.drop f1.offset).take (P.cellsOf f1.type)) = some y1 := by simpa using hfs 1 f1 rfl
    have g2 : DataW.trod enc P w 0 (fun _ => true) true n' f2.type ((cs.drop f2.offset).take (P.cellsOf f2.type)) = some y2 := by simpa using hfs 2 f2 rfl
    obtain ⟨a, r1, r2, r3, r4⟩ := h0 H enc w n' _ _ (by omega) g0
    obtain ⟨b, q1, q2, q3, q4⟩ := h1 H enc w n' _ _ (by omega) g1
    obtain ⟨c, u1, u2, u3, u4⟩ := h2 H enc w n' _ _ (by omega) g2
    rw [o0, p0] at r1
    rw [o1, p1] at q1
    rw [o2, p2] at u1
    refine ⟨mk a b c, ?_, ?_, hk a b c r3 q3 u3, fun hw => ?_⟩
    · rw [he, split3 (hcl.trans p3)]
      exact ⟨_, _, rfl, r1, _, _, rfl, q1, RdAll.one u1⟩
    · have := hs a b c
      simp [Rows.uptoBulk, Rows.uptoBulkAll]; omega
    · simp [DataW.weights, ht, DataW.weightsEach] at hw
      exact hl a b c (r4 fun y hy => hw y (by simp [hy])) (q4 fun y hy => hw y (by simp [hy])) (u4 fun y hy => hw y (by simp [hy]))
theorem opens_struct4 {α β γ ε δ : Type} {P : Program} {t : TypeId} {f0 f1 f2 f3 : Field} {e0 : α → D} {e1 : β → D} {e2 : γ → D} {e3 : ε → D} {s0 : α → Nat} {s1 : β → Nat} {s2 : γ → Nat} {s3 : ε → Nat} {k0 l0 : α → Prop} {k1 l1 : β → Prop} {k2 l2 : γ → Prop} {k3 l3 : ε → Prop} {N c0 c1 c2 c3 : Nat} (mk : α → β → γ → ε → δ) {e : δ → D} {sz : δ → Nat} {ok lim : δ → Prop}
    (ht : P.underlying t = some (.struct #[f0, f1, f2, f3])) (ho : f0.offset = 0 ∧ f1.offset = c0 ∧ f2.offset = c0 + c1 ∧ f3.offset = c0 + c1 + c2 ∧ P.cellsOf f0.type = c0 ∧ P.cellsOf f1.type = c1 ∧ P.cellsOf f2.type = c2 ∧ P.cellsOf f3.type = c3 ∧ P.cellsOf t = c0 + c1 + c2 + c3)
    (h0 : OpensF P f0.type e0 s0 k0 l0 N) (h1 : OpensF P f1.type e1 s1 k1 l1 N) (h2 : OpensF P f2.type e2 s2 k2 l2 N) (h3 : OpensF P f3.type e3 s3 k3 l3 N)
    (he : ∀ a b c d, e (mk a b c d) = .agg [e0 a, e1 b, e2 c, e3 d]) (hs : ∀ a b c d, sz (mk a b c d) ≤ s0 a + s1 b + s2 c + s3 d + 1) (hk : ∀ a b c d, k0 a → k1 b → k2 c → k3 d → ok (mk a b c d)) (hl : ∀ a b c d, l0 a → l1 b → l2 c → l3 d → lim (mk a b c d)) : OpensF P t e sz ok lim (N + 1) := by
  intro H enc w n cs x hn h
  obtain ⟨xs, n', hf, rfl, hcl, hlen, hfs⟩ := DataW.trod_struct ht h
  obtain ⟨o0, o1, o2, o3, p0, p1, p2, p3, p4⟩ := ho
  match xs, hlen with
  | [y0, y1, y2, y3], _ =>
    have g0 : DataW.trod enc P w 0 (fun _ => true) true n' f0.type ((cs.drop f0.offset).take (P.cellsOf f0.type)) = some y0 := by simpa using hfs 0 f0 rfl
    have g1 : DataW.trod enc P w 0 (fun _ => true) true n' f1.type ((cs.drop f1.offset).take (P.cellsOf f1.type)) = some y1 := by simpa using hfs 1 f1 rfl
    have g2 : DataW.trod enc P w 0 (fun _ => true) true n' f2.type ((cs.drop f2.offset).take (P.cellsOf f2.type)) = some y2 := by simpa using hfs 2 f2 rfl
    have g3 : DataW.trod enc P w 0 (fun _ => true) true n' f3.type ((cs.drop f3.offset).take (P.cellsOf f3.type)) = some y3 := by simpa using hfs 3 f3 rfl
    obtain ⟨a, r1, r2, r3, r4⟩ := h0 H enc w n' _ _ (by omega) g0
    obtain ⟨b, q1, q2, q3, q4⟩ := h1 H enc w n' _ _ (by omega) g1
    obtain ⟨c, u1, u2, u3, u4⟩ := h2 H enc w n' _ _ (by omega) g2
    obtain ⟨d, v1, v2, v3, v4⟩ := h3 H enc w n' _ _ (by omega) g3
    rw [o0, p0] at r1
    rw [o1, p1] at q1
    rw [o2, p2] at u1
    rw [o3, p3] at v1
    refine ⟨mk a b c d, ?_, ?_, hk a b c d r3 q3 u3 v3, fun hw => ?_⟩
    · rw [he, split4 (hcl.trans p4)]
      exact ⟨_, _, rfl, r1, _, _, rfl, q1, _, _, rfl, u1, RdAll.one v1⟩
    · have := hs a b c d
      simp [Rows.uptoBulk, Rows.uptoBulkAll]; omega
    · simp [DataW.weights, ht, DataW.weightsEach] at hw
      exact hl a b c d (r4 fun y hy => hw y (by simp [hy])) (q4 fun y hy => hw y (by simp [hy])) (u4 fun y hy => hw y (by simp [hy])) (v4 fun y hy => hw y (by simp [hy]))
theorem open_arg {α : Type} {P : Program} {t : TypeId} {e : α → D} {sz : α → Nat} {ok lim : α → Prop} (ho : Opens P t e sz ok lim) {H : Type} {enc : TypeId × Value → H} {W : World} {v : Value} {d : DataW H} {p : List MemPlace} (h : DataW.Trod enc P W 0 (fun _ => true) true t v d p) :
    ∃ a : α, Rd AnyB W (e a) v.cells.toList ∧ sz a ≤ Rows.uptoBulk d ∧ ok a ∧ ((∀ y ∈ DataW.weights P t d, y ≤ reachBytes) → lim a) := by
  obtain ⟨n, hn⟩ := h
  exact ho n H enc W n _ _ (Nat.le_refl _) hn
end Go.Proofs.YtgcfpbjifjklbaaDoor
namespace Go.Proofs.YtgcfpbjifjklbaaDoor
open Go.RowKit Go.ChangeShapes Go.WideShapes Go.Deep Go.Joins
theorem opens_ints : Opens Tryd.prog 37 (slD D.int) (slSz one) (slOk i64) (slLim 8 any) := fun N => opens_slice Tryd.underlying37 (by kernel_rfl) (opens_int Tryd.underlying3 N)
theorem slSz_size (ks : List Tree) : slSz Tree.size ks = sizeL ks + 1 := by
  induction ks with
  | nil => simp [slSz, sizeL]
  | cons k ks ih => simp [slSz, sizeL] at ih ⊢; omega
set_option maxRecDepth 100000 in
theorem opens_treeF : ∀ N, OpensF Tryd.prog 32 Tree.d Tree.size any any N := by
  intro N
  induction N with
  | zero =>
    intro H enc w n cs x hn h
    obtain rfl : n = 0 := by omega
    simp [DataW.trod] at h
  | succ N ih =>
    exact opens_struct3 (c0 := 1) (c1 := 1) (c2 := 1) (fun r t ks => Tree.node r t ks) Tryd.underlying32 ⟨rfl, rfl, rfl, by kernel_rfl, by kernel_rfl, by kernel_rfl, by kernel_rfl⟩ (opens_int Tryd.underlying3 N) (opens_int Tryd.underlying3 N)
      (opens_slice Tryd.underlying30 (b := 40) (by kernel_rfl) ih) (fun a b c => by rw [Tree.d_eq]; rfl) (fun a b c => by rw [Tree.size, slSz_size]; simp [one]; omega) (fun _ _ _ _ _ _ => trivial) (fun _ _ _ _ _ _ => trivial)
theorem opens_tree : Opens Tryd.prog 32 Tree.d Tree.size any any := opens_treeF
set_option maxRecDepth 100000 in
theorem open_treeV {W : World} {base : Nat} {v : Value} {t : Tree} (hv : Value.okWide Tryd.prog W .any base 32 v) (h : Rd AnyB W t.d v.cells.toList) : ∃ u, v = .agg #[.int .i64 t.rule, .int .i64 t.term, u] ∧ Rd AnyB W (.sl (t.kids.map Tree.d)) [u] := by
  obtain ⟨cs, rfl, hsz⟩ := okWide_struct Tryd.underlying32 hv
  obtain ⟨u, e, hu⟩ := h.tree
  refine ⟨u, ?_, hu⟩
  have e' : cs.toList = [.int .i64 t.rule, .int .i64 t.term, u] := e
  congr 1
  exact Array.toList_inj.1 e'
end Go.Proofs.YtgcfpbjifjklbaaDoor
namespace Go.Proofs.YtgcfpbjifjklbaaDoor
open Go.RowKit Go.ChangeShapes Go.WideShapes Go.Deep Go.Joins
namespace Fb
def szOne {α : Type} (_ : α) : Nat := 1
set_option maxRecDepth 100000 in
theorem opens_banF (N : Nat) : OpensF Tryd.prog 42 Ban.d szOne any any (N + 1) :=
  opens_struct3 (c0 := 1) (c1 := 1) (c2 := 1) (fun a b c => Ban.mk a b c) Tryd.underlying42 ⟨rfl, rfl, rfl, by kernel_rfl, by kernel_rfl, by kernel_rfl, by kernel_rfl⟩ (opens_int Tryd.underlying3 N) (opens_int Tryd.underlying3 N) (opens_int Tryd.underlying3 N)
    (fun _ _ _ => rfl) (fun _ _ _ => by simp [szOne]) (fun _ _ _ _ _ _ => trivial) (fun _ _ _ _ _ _ => trivial)
set_option maxRecDepth 100000 in
theorem opens_rejF (N : Nat) : OpensF Tryd.prog 58 Rej.d szOne any any N := by
  intro H enc w n cs x hn h
  have h3 : Tryd.prog.cellsOf 58 = 2 := by kernel_rfl
  have h1 : Tryd.prog.cellsOf 3 = 1 := by kernel_rfl
  obtain ⟨xs, m, _, rfl, hl, hx, hel⟩ := DataW.trod_array Tryd.underlying58 h
  rw [h3] at hl
  rw [h1] at hel
  match cs, hl with
  | [a, b], _ =>
    have e0 := hel 0 (by decide)
    have e1 := hel 1 (by decide)
    rw [List.getElem?_eq_getElem (by omega)] at e0 e1
    obtain ⟨z0, g0, _, _⟩ := DataW.trod_int Tryd.underlying3 e0
    obtain ⟨z1, g1, _, _⟩ := DataW.trod_int Tryd.underlying3 e1
    simp at g0 g1
    subst g0 g1
    refine ⟨⟨z0, z1⟩, ⟨[.int .i64 z0], [.int .i64 z1], rfl, rfl, RdAll.one rfl⟩, ?_, trivial, fun _ => trivial⟩
    simp only [szOne, Rows.uptoBulk]
    omega
def szFilt (x : Filt) : Nat := slSz szOne x.bans + slSz szOne x.rejs
set_option maxRecDepth 100000 in
theorem opens_filt : Opens Tryd.prog 28 Filt.d szFilt any any := by
  intro N H enc w n cs x hn h
  exact opens_struct2 (N := N + 2) (c0 := 1) (c1 := 1) (fun a b => Filt.mk a b) Tryd.underlying28 ⟨rfl, rfl, by kernel_rfl, by kernel_rfl, by kernel_rfl⟩ (opens_slice Tryd.underlying25 (b := 24) (by kernel_rfl) (opens_banF (N + 1))) (opens_slice Tryd.underlying26 (b := 16) (by kernel_rfl) (opens_rejF (N + 2)))
    (fun _ _ => rfl) (fun _ _ => by simp [szFilt]; try omega) (fun _ _ _ _ => trivial) (fun _ _ _ _ => trivial) H enc w n cs x (by omega) h
def szLevel (l : Level) : Nat := slSz one l.rules
set_option maxRecDepth 100000 in
theorem opens_levelF (N : Nat) : OpensF Tryd.prog 39 Level.d szLevel any any (N + 1) :=
  opens_struct2 (c0 := 1) (c1 := 1) (fun a b => Level.mk a b) Tryd.underlying39 ⟨rfl, rfl, by kernel_rfl, by kernel_rfl, by kernel_rfl⟩ (opens_ints N) (opens_int Tryd.underlying3 N)
    (fun _ _ => rfl) (fun _ _ => by simp [szLevel]; try omega) (fun _ _ _ _ => trivial) (fun _ _ _ _ => trivial)
set_option maxRecDepth 100000 in
theorem opens_levels : Opens Tryd.prog 29 (slD Level.d) (slSz szLevel) (slOk any) (slLim 32 any) := by
  intro N H enc w n cs x hn h
  exact opens_slice Tryd.underlying29 (b := 32) (by kernel_rfl) (opens_levelF N) H enc w n cs x (by omega) h
set_option maxRecDepth 100000 in
theorem open_filtV {W : World} {base : Nat} {v : Value} {x : Filt} (hv : Value.okWide Tryd.prog W .any base 28 v) (h : Rd AnyB W x.d v.cells.toList) : ∃ u1 u2, v = .agg #[u1, u2] ∧ Rd AnyB W (.sl (x.bans.map Ban.d)) [u1] ∧ Rd AnyB W (.sl (x.rejs.map Rej.d)) [u2] := by
  obtain ⟨cs, rfl, hsz⟩ := okWide_struct Tryd.underlying28 hv
  obtain ⟨c1, c2, e, h1, h2⟩ := h
  rw [RdAll.one_iff] at h2
  have h3 := h1
  have h4 := h2
  obtain ⟨a, cap, L, e1, _⟩ := h1
  obtain ⟨a', cap', L', e2, _⟩ := h2
  subst e1 e2
  refine ⟨_, _, ?_, h3, h4⟩
  congr 1
  exact Array.toList_inj.1 e
set_option maxRecDepth 100000 in
theorem open_levelsV {W : World} {base : Nat} {v : Value} {l : List Level} (hv : Value.okWide Tryd.prog W .any base 29 v) (h : Rd AnyB W (slD Level.d l) v.cells.toList) : Rd AnyB W (.sl (l.map Level.d)) [v] := by
  obtain ⟨a, n, c, e⟩ := okWide_slice Tryd.underlying29 hv
  rw [e] at h ⊢
  exact h
end Fb
end Go.Proofs.YtgcfpbjifjklbaaDoor
namespace Go.Proofs.YtgcfpbjifjklbaaDoor
open Go.RowKit Go.ChangeShapes Go.WideShapes Go.Deep Go.Joins
def okSym (s : Sym) : Prop := i64 s.n
def okRule (r : Rule) : Prop := i64 r.left ∧ ∀ s ∈ r.right, okSym s
def okGram (g : Gram) : Prop := i64 g.terms ∧ i64 g.nons ∧ i64 g.start ∧ ∀ r ∈ g.rules, okRule r
def szSym (_ : Sym) : Nat := 1
def szRule (r : Rule) : Nat := slSz szSym r.right
def szGram (g : Gram) : Nat := slSz szRule g.rules
set_option maxRecDepth 100000 in
theorem opens_symF (N : Nat) : OpensF Tryd.prog 60 Sym.d szSym okSym any (N + 1) :=
  opens_struct2 (c0 := 1) (c1 := 1) (fun a b => Sym.mk a b) Tryd.underlying60 ⟨rfl, rfl, by kernel_rfl, by kernel_rfl, by kernel_rfl⟩ (opens_bool Tryd.underlying4 N) (opens_int Tryd.underlying3 N)
    (fun _ _ => rfl) (fun _ _ => by simp [szSym]) (fun _ _ _ h => h) (fun _ _ _ _ => trivial)
set_option maxRecDepth 100000 in
theorem opens_ruleF (N : Nat) : OpensF Tryd.prog 57 Rule.d szRule okRule any (N + 1 + 1) :=
  opens_struct2 (c0 := 1) (c1 := 1) (fun a b => Rule.mk a b) Tryd.underlying57 ⟨rfl, rfl, by kernel_rfl, by kernel_rfl, by kernel_rfl⟩ (opens_int Tryd.underlying3 (N + 1)) (opens_slice Tryd.underlying55 (b := 16) (by kernel_rfl) (opens_symF N))
    (fun _ _ => rfl) (fun _ _ => by simp [szRule]; omega) (fun _ _ h k => ⟨h, k⟩) (fun _ _ _ _ => trivial)
set_option maxRecDepth 100000 in
theorem opens_gramF (N : Nat) : OpensF Tryd.prog 24 Gram.d szGram okGram any (N + 1 + 1 + 1) :=
  opens_struct4 (c0 := 1) (c1 := 1) (c2 := 1) (c3 := 1) (fun a b c d => Gram.mk a b c d) Tryd.underlying24 ⟨rfl, rfl, rfl, rfl, by kernel_rfl, by kernel_rfl, by kernel_rfl, by kernel_rfl, by kernel_rfl⟩ (opens_int Tryd.underlying3 (N + 1 + 1)) (opens_int Tryd.underlying3 (N + 1 + 1)) (opens_int Tryd.underlying3 (N + 1 + 1)) (opens_slice Tryd.underlying22 (b := 32) (by kernel_rfl) (opens_ruleF N))
    (fun _ _ _ _ => rfl) (fun _ _ _ _ => by simp [szGram]; omega) (fun _ _ _ _ h1 h2 h3 h4 => ⟨h1, h2, h3, h4⟩) (fun _ _ _ _ _ _ _ _ => trivial)
theorem opens_gram : Opens Tryd.prog 24 Gram.d szGram okGram any := by
  intro N H enc w n cs x hn h
  exact opens_gramF N H enc w n cs x (by omega) h
set_option maxRecDepth 100000 in
theorem open_gramV {W : World} {base : Nat} {v : Value} {g : Gram} (hv : Value.okWide Tryd.prog W .any base 24 v) (h : Rd AnyB W g.d v.cells.toList) : ∃ u, v = .agg #[.int .i64 g.terms, .int .i64 g.nons, .int .i64 g.start, u] ∧ Rd AnyB W (.sl (g.rules.map Rule.d)) [u] := by
  obtain ⟨cs, rfl, hsz⟩ := okWide_struct Tryd.underlying24 hv
  obtain ⟨c1, r1, e1, h1, h2⟩ := h
  obtain ⟨c2, r2, rfl, h2, h3⟩ := h2
  obtain ⟨c3, r3, rfl, h3, h4⟩ := h3
  rw [RdAll.one_iff] at h4
  simp [Rd] at h1 h2 h3
  subst h1 h2 h3
  have h5 := h4
  obtain ⟨a, cap, L, e, _⟩ := h4
  subst e
  refine ⟨_, ?_, h5⟩
  congr 1
  exact Array.toList_inj.1 e1
end Go.Proofs.YtgcfpbjifjklbaaDoor
namespace Go.Proofs.YtgcfpbjifjklbaaDoor.RowFilterBans
open Go.ChangeShapes Go.WideShapes Go.ChangeAt Go.RowKit
theorem own : ownKnob Tryd.prog.godebug = none := by kernel_rfl
theorem laidOut : laidOutB Tryd.prog = true := by kernel_rfl
theorem gTab : Tryd.prog.globalNamed "math/bits.deBruijn32tab" = some 0 := by kernel_rfl
theorem gTabType : (Tryd.prog.globals[0]?).map (·.type) = some 144 := by kernel_rfl
theorem cellsT : Tryd.prog.cellsOf 144 = 32 := by kernel_rfl
theorem cellsE : Tryd.prog.cellsOf 5 = 1 := by kernel_rfl
theorem tabG {W : World} (h : laidMetH Tryd.prog Rows.filterBansRow.laid W) : Lg.TabG W := fun j hj => by
  have h2 := (Lib.tabIs_of_head (k := .u8) (zs := Lib.deBruijn32tab.map Int.ofNat) (rest := []) gTab gTabType Tryd.underlying144 Tryd.underlying5 cellsE cellsT h).cell gTab j (by rw [List.length_map]; exact hj)
  rw [h2]
  simp [List.getD_eq_getElem?_getD]
  cases (Lib.deBruijn32tab)[j]? <;> rfl
set_option maxRecDepth 100000 in
theorem contract (H : Type) (enc : TypeId × Value → H) (W : World) (base : Nat) (args : Array Value) (ds gs : List (DataW H)) (before : List MemPlace)
    (hval0 : ∀ (j : Nat) t v, Tryd.f3.params[j]? = some t → args[j]? = some v → Value.okWide Tryd.prog W .any base t v)
    (hW : DataW.Whole enc Tryd.prog Tryd.f3.params.toList Rows.filterBansSpec.vars false W args.toList ds gs before)
    (hL : laidMetH Tryd.prog Rows.filterBansRow.laid W)
    (hk : Rows.uptoSmall H (ds ++ gs) = true) :
    Calls Tryd.prog 3 args W fun e W' => ∃ v, e = .returned v ∧ Rows.filterBansSpec.post enc Tryd.prog Tryd.f3 false true false false W args v W' := by
  have hval : ∀ (j : Nat) t v, Tryd.f3.params[j]? = some t → args[j]? = some v → Value.okWide Tryd.prog W .any base t v := hval0
  have hW' := hW
  obtain ⟨p, q, hA0, hV, rfl, hfz, hnd⟩ := hW
  have hA : DataW.TrodAll enc Tryd.prog W 0 (fun _ => true) true Tryd.f3.params.toList args.toList ds p := hA0
  rw [Tryd.params3] at hA hval
  obtain ⟨v0, vs0, d0, ds0, p0, q0, hargs, rfl, rfl, h0, r0'⟩ := trodAll_cons hA
  obtain ⟨v1, vs1, d1, ds1, p1, q1, rfl, rfl, rfl, h1, r1'⟩ := trodAll_cons r0'
  obtain ⟨v2, vs2, d2, ds2, p2, q2, rfl, rfl, rfl, h2, r2'⟩ := trodAll_cons r1'
  obtain ⟨v3, vs3, d3, ds3, p3, q3, rfl, rfl, rfl, h3, r3'⟩ := trodAll_cons r2'
  obtain ⟨rfl, rfl, rfl⟩ := trodAll_nil r3'
  obtain rfl : args = #[v0, v1, v2, v3] := by cases args; simp_all
  obtain ⟨rfl, rfl⟩ := trodVars_none hV
  have lt0 : ∀ x ∈ p0, x.block < W.heap.size := by obtain ⟨m, hm⟩ := h0; exact DataW.trod_lt m _ _ _ hm
  have tr0 := h0
  have lt1 : ∀ x ∈ p1, x.block < W.heap.size := by obtain ⟨m, hm⟩ := h1; exact DataW.trod_lt m _ _ _ hm
  have tr1 := h1
  have lt2 : ∀ x ∈ p2, x.block < W.heap.size := by obtain ⟨m, hm⟩ := h2; exact DataW.trod_lt m _ _ _ hm
  have tr2 := h2
  have lt3 : ∀ x ∈ p3, x.block < W.heap.size := by obtain ⟨m, hm⟩ := h3; exact DataW.trod_lt m _ _ _ hm
  have tr3 := h3
  have hbulk : Rows.uptoBulk d0 + (Rows.uptoBulk d1 + (Rows.uptoBulk d2 + (Rows.uptoBulk d3 + 0))) ≤ 1048576 := by
    have h := of_decide_eq_true hk
    simpa only [Rows.uptoBulkAll, List.append_nil] using h
  obtain ⟨a0, rd0, sz0, k0, li0⟩ := open_arg opens_gram h0
  obtain ⟨u0, rfl, r0⟩ := open_gramV (hval 0 24 v0 rfl rfl) rd0
  obtain ⟨a1, rd1, sz1, k1, li1⟩ := open_arg Fb.opens_filt h1
  obtain ⟨u1a, u1b, rfl, r1⟩ := Fb.open_filtV (hval 1 28 v1 rfl rfl) rd1
  obtain ⟨a2, rd2, sz2, k2, li2⟩ := open_arg Fb.opens_levels h2
  have r2 := Fb.open_levelsV (hval 2 29 v2 rfl rfl) rd2
  obtain ⟨t3, rd3, sz3, _, _⟩ := open_arg opens_tree h3
  obtain ⟨u3, rfl, r3⟩ := open_treeV (hval 3 32 v3 rfl rfl) rd3
  have z3 : t3.size ≤ 1048576 := by omega
  clear hA0 hval0
  refine (Fb.lawFB a0 u0 a1 _ _ a2 v2 t3 u3 W r0 r1.1 r1.2 r2 r3 (Nat.le_trans (nodes_size _) (Nat.le_trans z3 (by decide))) (tabG hL)).mono fun e W' ⟨he, bel⟩ => ?_
  subst he
  exact ⟨_, rfl, _, _, _, [], _, [], hW', trodAll_mk1 (shut_bool Tryd.underlying4 _), (trodAll_cons_mk (Below.trod laidOut (by kernel_rfl) (of_decide_eq_true (by kernel_rfl)) tr0 bel lt0) (trodAll_cons_mk (Below.trod laidOut (by kernel_rfl) (of_decide_eq_true (by kernel_rfl)) tr1 bel lt1) (trodAll_cons_mk (Below.trod laidOut (by kernel_rfl) (of_decide_eq_true (by kernel_rfl)) tr2 bel lt2) (trodAll_cons_mk (Below.trod laidOut (by kernel_rfl) (of_decide_eq_true (by kernel_rfl)) tr3 bel lt3) trodAll_mk0)))), rfl, bel.frame _, fun h => by cases h⟩
noncomputable def laidWorld (os : Os) : World :=
  { World.holding Tryd.prog os ⟨#[], #[], []⟩ with heap := (World.holding Tryd.prog os ⟨#[], #[], []⟩).heap.modify 0 fun
      | .cells _ t frozen => .cells (Lib.deBruijn32tab.map fun (z : Nat) => Value.int .u8 (z : Int)).toArray t frozen
      | o => o }
theorem laid_met (os : Os) : laidMet Tryd.prog Rows.filterBansUptoRow.laid ((laidWorld os).forCall (fun _ _ => 0) ⟨#[], #[.agg #[.int .i64 0, .int .i64 0, .int .i64 0, .slice none 0 0], .agg #[.slice none 0 0, .slice none 0 0], .slice none 0 0, .agg #[.int .i64 0, .int .i64 0, .slice none 0 0]], []⟩).memory :=
  laidMet_of_run' 8 (by kernel_rfl) (by kernel_rfl)
theorem reads (os : Os) {H : Type} (enc : TypeId × Value → H) : ∃ places, DataW.whole enc Tryd.prog ((laidWorld os).forCall (fun _ _ => 0) ⟨#[], #[.agg #[.int .i64 0, .int .i64 0, .int .i64 0, .slice none 0 0], .agg #[.slice none 0 0, .slice none 0 0], .slice none 0 0, .agg #[.int .i64 0, .int .i64 0, .slice none 0 0]], []⟩).memory Tryd.f3.params.toList Rows.filterBansSpec.vars false (#[.agg #[.int .i64 0, .int .i64 0, .int .i64 0, .slice none 0 0], .agg #[.slice none 0 0, .slice none 0 0], .slice none 0 0, .agg #[.int .i64 0, .int .i64 0, .slice none 0 0]] : Array Value).toList 8 = some ([.agg [.lit (.int .i64 0), .lit (.int .i64 0), .lit (.int .i64 0), .nil], .agg [.nil, .nil], .nil, .agg [.lit (.int .i64 0), .lit (.int .i64 0), .nil]], [], places) :=
  ⟨[], by kernel_rfl⟩
set_option maxRecDepth 100000 in
theorem lifted (os : Os) (started : os.Started) (H : Type) (enc : TypeId × Value → H) (F : Stop.Interp) :
    ReturnsInHanded {} Tryd.checked os 3 .any ((Rows.OpenSpec.upto Rows.filterBansSpec).preRow enc Tryd.prog Tryd.f3 Rows.filterBansUptoRow.domain false Rows.filterBansUptoRow.laid) (((Rows.OpenSpec.upto Rows.filterBansSpec).at F).post enc Tryd.prog Tryd.f3 false true false false) := by
  obtain ⟨places, hx⟩ := reads os enc
  refine returnsInHanded_of_row (C := Tryd.checked) (s := (Rows.OpenSpec.upto Rows.filterBansSpec)) own started (by kernel_rfl) Tryd.func3
    (witness_row_at (enc := enc) (C := Tryd.checked) false (laidWorld os) #[.agg #[.int .i64 0, .int .i64 0, .int .i64 0, .slice none 0 0], .agg #[.slice none 0 0, .slice none 0 0], .slice none 0 0, .agg #[.int .i64 0, .int .i64 0, .slice none 0 0]] rfl (by kernel_rfl) (by kernel_rfl) (by kernel_rfl)
      (OpenSpec.preRow_of_cond 8 hx (by kernel_rfl) (fun k hk => by cases hk; kernel_rfl) (by kernel_rfl) (laid_met os))) ?_
  intro W base args ds gs before hval hW _ hcond hsz0 hL _ _
  exact contract H enc W base args ds gs before hval hW hL (hcond _ rfl)
theorem over : Rows.filterBansUptoRow.holds Tryd.pinned (Rows.OpenSpec.upto Rows.filterBansSpec) :=
  OpenClaim.holds_of_cond 3 Tryd.f3 rfl rfl rfl rfl rfl rfl rfl ⟨rfl, rfl, rfl, rfl, rfl⟩ rfl rfl rfl rfl rfl (by kernel_rfl) Tryd.func3 (by kernel_rfl)
    (of_decide_eq_true (by kernel_rfl)) (by unfold Func.isWrapper; first | (rw [if_pos (by decide +kernel)]; kernel_rfl) | (rw [if_neg (by decide +kernel)]; exact ⟨rfl, rfl⟩))
    (fun os started H enc _ F => by rw [OpenClaim.pre_eq_preRow]; exact lifted os started H enc F)
theorem plain (f : FuncId) (fn : Func) (hf : Tryd.pinned.checked.prog.funcNamed "parlance/parllaw4.FilterBans" = some f) (hfn : Tryd.pinned.checked.prog.funcs[f]? = some fn) :
    false = Tryd.pinned.checked.prog.looks [] ∧ ∀ (j : Nat) t, fn.params[j]? = some t → Tryd.pinned.checked.prog.wantsStandIn t = false := by
  obtain rfl : f = 3 := Option.some.inj ((show Tryd.prog.funcNamed "parlance/parllaw4.FilterBans" = some 3 by kernel_rfl).symm.trans hf) |>.symm
  obtain rfl : fn = Tryd.f3 := (Option.some.inj (Tryd.func3.symm.trans hfn)).symm
  refine ⟨by kernel_rfl, fun j t ht => ?_⟩
  rw [Tryd.params3] at ht
  have hm : t ∈ ([24, 28, 29, 32] : List TypeId) := by simpa using Array.mem_of_getElem? ht
  have hall : (([24, 28, 29, 32] : List TypeId).all fun u => !Tryd.prog.wantsStandIn u) = true := by kernel_rfl
  exact (show Tryd.prog.wantsStandIn t = false by simpa using List.all_eq_true.1 hall t hm)
theorem card : Rows.FilterBansUptoCardSaid :=
  Claim7.holds_tied_plain_at .later [] _ _ _ _ over (fun _ h => by cases h) (by kernel_rfl) (fun _ h => by cases h) filterBansUpto_row_tie rfl ⟨rfl, rfl⟩ (by kernel_rfl) rfl plain (by kernel_rfl)
end Go.Proofs.YtgcfpbjifjklbaaDoor.RowFilterBans
namespace Go.Proofs.YtgcfpbjifjklbaaDoor
theorem filterBansUpto_card : Rows.FilterBansUptoCardSaid := RowFilterBans.card
#print axioms filterBansUpto_card
end Go.Proofs.YtgcfpbjifjklbaaDoor
