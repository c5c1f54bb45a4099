/- The walk of the law ShrinkTrees. -/
import Derived.Test.YtjehmleckcmilaaLeastWalk
import Derived.Test.YtjehmleckcmilaaShrinkTreeW
import Derived.Test.YtjehmleckcmilaaSameT
import Derived.Test.YtjehmleckcmilaaListG
namespace Go.Proofs.Ytjehmleckcmilaa
open Go.RowKit
namespace ShrinkTrees

def plainG : Gram := ⟨2, 1, 0, [⟨0, [⟨true, 0⟩]⟩, ⟨0, [⟨true, 1⟩, ⟨false, 0⟩]⟩]⟩
set_option maxHeartbeats 1000000 in
theorem plainE (w : World) : Calls Try.prog 42 #[] w (GramPost plainG w) := by
  go_enter Try.func42, Try.ntmps42
  go_wp2_with fail
  refine bodyPost_ret (v := .agg #[.int .i64 2, .int .i64 1, .int .i64 0, .slice (some ⟨w.heap.size + 1 + 1 + 1, 0, none⟩) 2 2]) (by simp [results, Try.results42, go_sem]) rfl ?_
  refine ⟨_, rfl, ?_, ((((Below.refl _ _).alloc (Nat.le_refl _) _).alloc (by simp) _).alloc (by simp; omega) _).alloc (by simp; omega) _⟩
  refine rd_of_own (own_of_block (bx_new _ _ _ (by simp)) (n := 2) (size := 2) rfl (by simp [maxLen])) ?_ rfl (fun _ _ => trivial)
  refine ⟨[.int .i64 0, .slice (some ⟨w.heap.size + 1, 0, none⟩) 1 1], [.int .i64 0, .slice (some ⟨w.heap.size + 1 + 1, 0, none⟩) 2 2], rfl, ?_, RdAll.one ?_⟩
  · refine rd_rule (r := ⟨0, [⟨true, 0⟩]⟩) ?_
    exact rd_of_own (own_of_block (bx_keep (bx_keep (bx_new _ _ _ (by simp)) ((Below.refl _ _).alloc (Nat.le_refl _) _)) ((Below.refl _ _).alloc (Nat.le_refl _) _)) (n := 1) (size := 2) rfl (by simp [maxLen])) (RdAll.one (rd_sym ⟨true, 0⟩)) rfl (fun _ _ => trivial)
  · refine rd_rule (r := ⟨0, [⟨true, 1⟩, ⟨false, 0⟩]⟩) ?_
    refine rd_of_own (own_of_block (bx_keep (bx_new _ _ _ (by simp)) ((Below.refl _ _).alloc (Nat.le_refl _) _)) (n := 2) (size := 2) rfl (by simp [maxLen])) ?_ rfl (fun _ _ => trivial)
    exact ⟨[.bool true, .int .i64 1], [.bool false, .int .i64 0], rfl, rd_sym ⟨true, 1⟩, RdAll.one (rd_sym ⟨false, 0⟩)⟩
def litT : Tree := .node 1 0 [.node (-1) 1 [], .node 0 0 [.node (-1) 0 []]]
theorem lit_small : (smallerF plainG litT).length = 1 := by decide
theorem lit_rd (w : World) : Rd AnyB ((w.alloc (.cells #[.int .i64 (-1), .int .i64 0, .slice none 0 0] 43)).alloc (.cells #[.int .i64 (-1), .int .i64 1, .slice none 0 0, .int .i64 0, .int .i64 0, .slice (some ⟨w.heap.size, 0, none⟩) 1 1] 43)) (.sl (litT.kids.map Tree.d)) [.slice (some ⟨w.heap.size + 1, 0, none⟩) 2 2] := by
  refine rd_of_own (own_of_block (bx_new _ _ _ (by simp)) (n := 2) (size := 3) rfl (by simp [maxLen])) ?_ rfl (fun _ _ => trivial)
  refine ⟨[.int .i64 (-1), .int .i64 1, .slice none 0 0], [.int .i64 0, .int .i64 0, .slice (some ⟨w.heap.size, 0, none⟩) 1 1], rfl, rd_tree (t := .node (-1) 1 []) (rd_nil _ _), RdAll.one (rd_tree (t := .node 0 0 [.node (-1) 0 []]) ?_)⟩
  exact rd_of_own (own_of_block (bx_keep (bx_new _ _ _ rfl) ((Below.refl _ _).alloc (Nat.le_refl _) _)) (n := 1) (size := 3) rfl (by simp [maxLen])) (RdAll.one (rd_tree (t := .node (-1) 0 []) (rd_nil _ _))) rfl (fun _ _ => trivial)

def failsF (a : Int) (t : Tree) : Bool := (((nodes t).length : Int).tmod 3 == ((a.tmod 3) + 3).tmod 3)
set_option maxHeartbeats 1000000 in
set_option maxRecDepth 100000 in
theorem failsE (a : Int) (b : Nat) (w : World) (hx : w.heap[b]? = some (.cells #[.int .i64 a] 3 (0, 0))) : FailsT 71 #[.pointer (some ⟨b, 0, none⟩)] (failsF a) w := by
  intro W t v hbW hv hs
  obtain ⟨av, n, cap, rfl⟩ := treeBox hv
  have hx2 := bx_keep hx hbW
  obtain ⟨r, HRr⟩ := nameIt t.rule
  obtain ⟨tm, HRt⟩ := nameIt t.term
  obtain ⟨w0, HW0⟩ := nameIt (W.alloc (.cells #[.int .i64 r, .int .i64 tm, .slice av n cap] 43))
  have HB0 : Hid (Below W.heap.size W w0) := by rw [← HW0.out]; exact (Below.refl _ _).alloc (Nat.le_refl _) _
  have X2 : Hid (w0.heap[W.heap.size]? = some (.cells #[.int .i64 r, .int .i64 tm, .slice av n cap] 43 (0, 0))) := by rw [← HW0.out]; exact bx_new _ _ _ rfl
  have X1 := Lib.hid (bx_keep hx2 HB0.out)
  have hsz := nodes_size t
  have hcl := fun W' (hb : Below w0.heap.size w0 W') => sizeE t _ W' ((hv.below HB0.out).below hb) (by omega)
  rw [HRr.out, HRt.out] at hcl
  obtain ⟨M, HM⟩ := nameIt (nodes t).length
  rw [HM.out] at hcl hsz
  have HCL := Lib.hid hcl
  obtain ⟨B, HBn⟩ := nameIt (failsF a t)
  have HBV : Hid (B = ((M : Int).tmod 3 == ((a.tmod 3) + 3).tmod 3)) := by show _ = _; rw [← HBn.out]; unfold failsF; rw [HM.out]
  rw [HRr.out, HRt.out, HBn.out]
  have hm1 := Int.tmod_lt_of_pos a (show (0 : Int) < 3 by decide)
  have hm2 : -3 < a.tmod 3 := by have := Int.lt_tmod_of_pos a (show (0 : Int) < 3 by decide); omega
  have hwr : IntKind.i64.wrap (a.tmod 3 + 3) = a.tmod 3 + 3 := IntWalk.i64_in _ (by omega)
  obtain ⟨x0, y0, y1, y2⟩ := cells4f (Below.refl w0.heap.size w0) X1.out X2.out
  clear hx hx2 hcl hv hs hbW
  go_enter Try.func71, Try.ntmps71
  go_upto_region 1 with fail
  rw [HW0.out]
  go_region_held3 (fun w' => w'.cell? ⟨b, 0, none⟩ = some (.int .i64 a) ∧ w'.cell? ⟨W.heap.size, 0, none⟩ = some (.int .i64 r) ∧ w'.cell? ⟨W.heap.size, 0 + 1, none⟩ = some (.int .i64 tm) ∧ w'.cell? ⟨W.heap.size, 0 + 2, none⟩ = some (.slice av n cap))
    (first | exact cells4f HB1.out X1.out X2.out | exact cells4f (Below.refl _ _).drew X1.out X2.out | fail)
    (first
      | (go_at_call 72; (with_reducible refine (HCL.out _ (Below.refl _ _).drew).mono ?_); rintro e w1 ⟨rfl, hb1⟩; have HB1 : Hid (Below w0.heap.size w0 w1) := (Below.refl _ _).drew.trans hb1; clear hb1)
      | fail)
  go_wp2_with fail
  go_ret
  refine ⟨?_, HB0.out.trans (HB1.out.mono HB0.out.size)⟩
  rw [HBV.out]
  first | rfl | simp | (simp; omega)

set_option maxHeartbeats 4000000 in
set_option maxRecDepth 100000 in
theorem walk (g : Gram) (vr : Value) (t : Tree) (vk : Value) (a : Int) (w : World) (hr : Rd AnyB w (.sl (g.rules.map Rule.d)) [vr]) (hk : Rd AnyB w (.sl (t.kids.map Tree.d)) [vk]) (hN : (nodes t).length ≤ 1099511627776) :
    Calls Try.prog 11 #[.agg #[.int .i64 g.terms, .int .i64 g.nons, .int .i64 g.start, vr], .agg #[.int .i64 t.rule, .int .i64 t.term, vk], .int .i64 a] w fun e w' => e = .returned (.bool true) ∧ Below w.heap.size w w' := by
  obtain ⟨ar, cr, rfl, -, -⟩ := hr.form
  obtain ⟨at', ct, rfl, -, -⟩ := hk.form
  rw [List.length_map] at hr hk ⊢
  rw [List.length_map]
  obtain ⟨w0, HW0⟩ := nameIt (((w.alloc (.cells #[.int .i64 g.terms, .int .i64 g.nons, .int .i64 g.start, .slice ar g.rules.length cr] 77)).alloc (.cells #[.int .i64 t.rule, .int .i64 t.term, .slice at' t.kids.length ct] 43)).alloc (.cells #[.int .i64 a] 3))
  have hb0 : Below w.heap.size w w0 := by rw [← HW0.out]; exact (((Below.refl _ _).alloc (Nat.le_refl _) _).alloc (by simp) _).alloc (by simp; omega) _
  have X1 : Hid (w0.heap[w.heap.size]? = some (.cells #[.int .i64 g.terms, .int .i64 g.nons, .int .i64 g.start, .slice ar g.rules.length cr] 77 (0, 0))) := by
    rw [← HW0.out]; exact bx_keep (bx_keep (bx_new _ _ _ rfl) ((Below.refl _ _).alloc (Nat.le_refl _) _)) ((Below.refl _ _).alloc (Nat.le_refl _) _)
  have X2 : Hid (w0.heap[w.heap.size + 1]? = some (.cells #[.int .i64 t.rule, .int .i64 t.term, .slice at' t.kids.length ct] 43 (0, 0))) := by
    rw [← HW0.out]; exact bx_keep (bx_new _ _ _ (by simp)) ((Below.refl _ _).alloc (Nat.le_refl _) _)
  have X3 : Hid (w0.heap[w.heap.size + 1 + 1]? = some (.cells #[.int .i64 a] 3 (0, 0))) := by
    rw [← HW0.out]; exact bx_new _ _ _ (by simp)
  obtain ⟨F, HFN⟩ := nameIt (failsF a)
  have hfl := fun W (hb : Below w0.heap.size w0 W) => failsE a (w.heap.size + 1 + 1) W (bx_keep X3.out hb)
  rw [HFN.out] at hfl
  have HFL := Lib.hid hfl
  obtain ⟨lb, HLB⟩ := nameIt (#[.pointer (some ⟨w.heap.size + 1 + 1, 0, none⟩)] : Array Value)
  have C1 := Lib.hid (fun W (hb : Below w0.heap.size w0 W) => shrinkTreeE g ar cr t at' ct 71 #[.pointer (some ⟨w.heap.size + 1 + 1, 0, none⟩)] F (fun _ _ => by kernel_rfl) W ((hr.below hb0).below hb) ((hk.below hb0).below hb) (hfl W hb) hN)
  have C2 := Lib.hid (fun W (hb : Below w0.heap.size w0 W) => smallerE g ar cr t at' ct W ((hr.below hb0).below hb) ((hk.below hb0).below hb) hN)
  have C3 := Lib.hid (fun W (hb : Below w0.heap.size w0 W) => treeCheckE g ar cr t at' ct W ((hr.below hb0).below hb) ((hk.below hb0).below hb) hN)
  have C4 := Lib.hid (fun W (hb : Below w0.heap.size w0 W) => sizeE t _ W ((hk.below hb0).below hb) (by omega))
  have C5 := Lib.hid (fun W (hb : Below w0.heap.size w0 W) (hg : good g t) (hs : t.size ≤ 60) => smallRE (fun k => k < w.heap.size) g ar cr t _ W (fun k hk => by have := hb0.size; have := hb.size; omega) hg ((hr.below hb0).below hb) (((hk.mono fun k _ hlt => hlt).below hb0).below hb) hs)
  have C6 := Lib.hid (fun W (hb : Below w0.heap.size w0 W) (hs : t.size ≤ 60) => hfl W hb W t _ (Below.refl _ _) ((hk.below hb0).below hb) hs)
  have C7 := Lib.hid (fun W (hb : Below w0.heap.size w0 W) (hg : good g t) (hs : t.size ≤ 60) => leastE g ar cr 71 #[.pointer (some ⟨w.heap.size + 1 + 1, 0, none⟩)] F (fun _ _ => by kernel_rfl) t.size (fun k => k < w.heap.size) t _ W (fun k hk => by have := hb0.size; have := hb.size; omega) (Nat.le_refl _) hs hg (hfl W hb) ((hr.below hb0).below hb) (((hk.mono fun k _ hlt => hlt).below hb0).below hb))
  have HB0 := Lib.hid hb0
  have HKG := Lib.hid (check_good (g := g) (t := t))
  have HER : Hid (treeErr g F t = if checkT g t ≠ 0 then checkT g t else if 60 < (nodes t).length then 2 else if F t then 0 else 7) := rfl
  have HRE : Hid (treeErr g F t = 0 → treeRes g F t = least g F t.size t) := fun h => by unfold treeRes; rw [if_pos h]
  have HSV : Hid (smallerF g t = if checkT g t = 0 ∧ (nodes t).length ≤ 60 then smallerC g t else []) := rfl
  have HSG : Hid (good g t → t.size = (nodes t).length) := fun h => by rw [nodes_sizeG h]
  obtain ⟨CK, HCK⟩ := nameIt (checkT g t)
  obtain ⟨M, HM⟩ := nameIt (nodes t).length
  obtain ⟨FB, HFB⟩ := nameIt (F t)
  obtain ⟨TE, HTE⟩ := nameIt (treeErr g F t)
  obtain ⟨TR, HTR⟩ := nameIt (treeRes g F t)
  obtain ⟨SL, HSL⟩ := nameIt (smallerF g t)
  rw [HCK.out, HM.out] at HKG
  rw [HTE.out, HCK.out, HM.out, HFB.out] at HER
  rw [HTE.out, HTR.out] at HRE
  rw [HSL.out, HCK.out, HM.out] at HSV
  rw [HM.out] at HSG hN
  obtain ⟨gt, HGT⟩ := nameIt g.terms
  obtain ⟨gn, HGN⟩ := nameIt g.nons
  obtain ⟨gs, HGS⟩ := nameIt g.start
  obtain ⟨n, HKn⟩ := nameIt g.rules.length
  obtain ⟨r, HRr⟩ := nameIt t.rule
  obtain ⟨tm, HRt⟩ := nameIt t.term
  obtain ⟨m, HMn⟩ := nameIt t.kids.length
  rw [HGT.out, HGN.out, HGS.out, HKn.out, HRr.out, HRt.out, HMn.out] at HW0 C1 C2 C3 C5 C7
  rw [HSL.out] at C2
  rw [HCK.out] at C3
  rw [HRr.out, HRt.out, HMn.out, HM.out] at C4
  rw [HRr.out, HRt.out, HMn.out, HFB.out] at C6
  rw [HGT.out, HGN.out, HGS.out, HKn.out] at X1
  rw [HRr.out, HRt.out, HMn.out] at X2
  rw [HGT.out, HGN.out, HGS.out, HKn.out, HRr.out, HRt.out, HMn.out]
  have hw0 : w.heap.size + 1 + 1 < w0.heap.size := (Array.getElem?_eq_some_iff.1 X3.out).1
  clear hr hk hb0 hfl
  go_enter Try.func11, Try.ntmps11
  go_upto_region 1 with fail
  rw [HW0.out]
  go_wp2_with fail
  refine (plainE w0).mono ?_
  rintro e w1 ⟨v1, rfl, hr1, hb1⟩
  obtain ⟨a1, c1, rfl, -, -⟩ := hr1.form
  rw [List.length_map] at hr1
  obtain ⟨w2, HW2⟩ := nameIt ((w1.alloc (.cells #[.int .i64 (-1), .int .i64 0, .slice none 0 0] 43)).alloc (.cells #[.int .i64 (-1), .int .i64 1, .slice none 0 0, .int .i64 0, .int .i64 0, .slice (some ⟨w1.heap.size, 0, none⟩) 1 1] 43))
  have hb2 : Below w1.heap.size w1 w2 := by rw [← HW2.out]; exact ((Below.refl _ _).alloc (Nat.le_refl _) _).alloc (by simp) _
  have hs2 := smallerE plainG a1 c1 litT (some ⟨w1.heap.size + 1, 0, none⟩) 2 w2 (hr1.below hb2) (by rw [← HW2.out]; exact lit_rd w1) (by decide)
  have HS2 := Lib.hid hs2
  have HB2 : Hid (Below w0.heap.size w0 w2) := hb1.trans (hb2.mono hb1.size)
  clear hr1 hb1 hb2 hs2
  go_wp2_with fail
  rw [HW2.out]
  refine HS2.out.mono ?_
  rintro e w3 ⟨v3, rfl, hr3, hb3⟩
  obtain ⟨a3, c3, rfl, -, -⟩ := hr3.form
  rw [List.length_map, lit_small]
  have HB3 : Hid (Below w0.heap.size w0 w3) := HB2.out.trans (hb3.mono HB2.out.size)
  obtain ⟨x0, x1, x2, x3, y0, y1, y2⟩ := cells7' (Below.refl _ w3) (bx_keep X1.out HB3.out) (bx_keep X2.out HB3.out)
  clear hr3 hb3 HS2 HB2 HW2
  go_wp2_with fail
  refine (C1.out _ HB3.out).mono ?_
  rintro e w4 ⟨v4, rfl, hr4, hb4⟩
  obtain ⟨a4, n4, c4, rfl⟩ := treeBox hr4
  rw [HTR.out, HTE.out]
  rw [HTR.out] at hr4
  obtain ⟨s0, HS0⟩ := nameIt TR.rule
  obtain ⟨s1, HS1⟩ := nameIt TR.term
  rw [HS0.out, HS1.out]
  obtain ⟨w5, HW5⟩ := nameIt (w4.alloc (.cells #[.int .i64 s0, .int .i64 s1, .slice a4 n4 c4] 43))
  have HB5 : Hid (Below w0.heap.size w0 w5) := by rw [← HW5.out]; exact (HB3.out.trans (hb4.mono HB3.out.size)).alloc (HB3.out.trans (hb4.mono HB3.out.size)).size _
  have X5 : Hid (w5.heap[w4.heap.size]? = some (.cells #[.int .i64 s0, .int .i64 s1, .slice a4 n4 c4] 43 (0, 0))) := by rw [← HW5.out]; exact bx_new _ _ _ rfl
  have HR5 : Hid (Rd AnyB w5 (.sl (TR.kids.map Tree.d)) [.slice a4 n4 c4]) := by rw [← HW5.out]; exact hr4.below ((Below.refl _ _).alloc (Nat.le_refl _) _)
  clear hr4 hb4 x0 x1 x2 x3 y0 y1 y2
  obtain ⟨x0, x1, x2, x3, y0, y1, y2⟩ := cells7' (Below.refl _ w5) (bx_keep X1.out HB5.out) (bx_keep X2.out HB5.out)
  go_upto_region 6 with fail
  rw [HW5.out]
  go_wp2_with fail
  refine (C2.out _ HB5.out).mono ?_
  rintro e w6 ⟨v6, rfl, hr6, hb6⟩
  obtain ⟨a6, c6, rfl, -, -⟩ := hr6.form
  rw [List.length_map] at hr6 ⊢
  have HL6 := Lib.hid hr6.any
  have HB6 : Hid (Below w0.heap.size w0 w6) := HB5.out.trans (hb6.mono HB5.out.size)
  have X6 := Lib.hid (bx_keep X5.out hb6)
  have HR6 := Lib.hid (HR5.out.below hb6)
  clear hr6 hb6 x0 x1 x2 x3 y0 y1 y2
  obtain ⟨x0, x1, x2, x3, y0, y1, y2⟩ := cells7' (Below.refl _ w6) (bx_keep X1.out HB6.out) (bx_keep X2.out HB6.out)
  go_wp2_with fail
  refine (C3.out _ HB6.out).mono ?_
  rintro e w7 ⟨rfl, hb7⟩
  have HL7 := Lib.hid (HL6.out.below hb7)
  have HB7 : Hid (Below w0.heap.size w0 w7) := HB6.out.trans (hb7.mono HB6.out.size)
  have X7 := Lib.hid (bx_keep X6.out hb7)
  have HR7 := Lib.hid (HR6.out.below hb7)
  clear hb7 x0 x1 x2 x3 y0 y1 y2
  obtain ⟨x0, x1, x2, x3, y0, y1, y2⟩ := cells7' (Below.refl _ w7) (bx_keep X1.out HB7.out) (bx_keep X2.out HB7.out)
  by_cases hck : CK = 0
  · subst hck
    obtain ⟨hg, h5⟩ := HKG.out rfl
    have HGD := Lib.hid hg
    have hts := HSG.out hg
    clear hg
    go_wp2_with fail
    refine (C4.out _ HB7.out).mono ?_
    rintro e w8 ⟨rfl, hb8⟩
    have HL8 := Lib.hid (HL7.out.below hb8)
    have HB8 : Hid (Below w0.heap.size w0 w8) := HB7.out.trans (hb8.mono HB7.out.size)
    have X8 := Lib.hid (bx_keep X7.out hb8)
    have HR8 := Lib.hid (HR7.out.below hb8)
    clear hb8 x0 x1 x2 x3 y0 y1 y2
    obtain ⟨x0, x1, x2, x3, y0, y1, y2⟩ := cells7' (Below.refl _ w8) (bx_keep X1.out HB8.out) (bx_keep X2.out HB8.out)
    by_cases hM : 60 < M
    · have hM' : (60 : Int) < (M : Int) := by omega
      obtain rfl : TE = 2 := by rw [HER.out]; simp [hM]
      obtain rfl : SL = [] := by rw [HSV.out, if_neg (by omega)]
      go_wp2_with fail
      go_ret
      exact ⟨rfl, HB0.out.trans (HB8.out.mono HB0.out.size)⟩
    · have hM' : ¬ (60 : Int) < (M : Int) := by omega
      have hM2 : t.size ≤ 60 := by omega
      have HSE : Hid (SL = smallerR g t) := by show _ = _; rw [HSV.out, if_pos (by simp; omega), small_agree HGD.out]
      have HC5 := Lib.hid (C5.out _ HB8.out HGD.out hM2)
      rw [← HSE.out] at HC5
      go_wp2_with fail
      refine HC5.out.mono ?_
      rintro e w9 ⟨v9, rfl, hr9, hb9⟩
      obtain ⟨a9, c9, rfl, -, -⟩ := hr9.form
      rw [List.length_map] at hr9 ⊢
      have HB9 : Hid (Below w0.heap.size w0 w9) := HB8.out.trans (hb9.mono HB8.out.size)
      have X9 := Lib.hid (bx_keep X8.out hb9)
      have HR9 := Lib.hid (HR8.out.below hb9)
      have HEQ := Lib.hid (eqTrees SL a6 a9 SL.length SL.length c6 c9 w9 (HL8.out.below hb9) hr9.any (fun k _ => sameTE k.size k (Nat.le_refl _)))
      clear hr9 hb9 x0 x1 x2 x3 y0 y1 y2
      go_wp2_with fail
      refine HEQ.out.mono ?_
      rintro e wA ⟨rfl, hbA⟩
      have HBA : Hid (Below w0.heap.size w0 wA) := HB9.out.trans (hbA.mono HB9.out.size)
      have XA := Lib.hid (bx_keep X9.out hbA)
      have HRA := Lib.hid (HR9.out.below hbA)
      clear hbA
      obtain ⟨x0, x1, x2, x3, y0, y1, y2⟩ := cells7' (Below.refl _ wA) (bx_keep X1.out HBA.out) (bx_keep X2.out HBA.out)
      have eg : ∀ args w, (callFunc 71 args).run Try.prog w = .ok (.enter 71 args) w := fun _ _ => by kernel_rfl
      have HC6 := Lib.hid (C6.out _ HBA.out hM2)
      go_wp2_with fail
      refine HC6.out.mono ?_
      rintro e wB ⟨rfl, hbB⟩
      have HBB : Hid (Below w0.heap.size w0 wB) := HBA.out.trans (hbB.mono HBA.out.size)
      have XB := Lib.hid (bx_keep XA.out hbB)
      have HRB := Lib.hid (HRA.out.below hbB)
      clear hbB x0 x1 x2 x3 y0 y1 y2
      cases FB with
      | false =>
        obtain rfl : TE = 7 := by rw [HER.out]; simp [hM]
        go_wp2_with fail
        go_ret
        exact ⟨rfl, HB0.out.trans (HBB.out.mono HB0.out.size)⟩
      | true =>
        obtain rfl : TE = 0 := by rw [HER.out]; simp [hM]
        have HTL := Lib.hid (HRE.out rfl)
        have hc7 := fun W (hb : Below wB.heap.size wB W) => C7.out W (HBB.out.trans (hb.mono HBB.out.size)) HGD.out hM2
        rw [← HTL.out] at hc7
        have HC7 := Lib.hid hc7
        have hsm := fun W v v' (h1 : Rd AnyB W (.sl (TR.kids.map Tree.d)) [v]) (h2 : Rd AnyB W (.sl (TR.kids.map Tree.d)) [v']) => sameTE TR.size TR (Nat.le_refl _) v v' W h1 h2
        rw [HS0.out, HS1.out] at hsm
        have HSM := Lib.hid hsm
        have XGB := Lib.hid (bx_keep X1.out HBB.out)
        have XTB := Lib.hid (bx_keep X2.out HBB.out)
        obtain ⟨x0, x1, x2, x3, y0, y1, y2, z0, z1, z2⟩ := cells10 (Below.refl _ _) XGB.out XTB.out XB.out
        clear hc7 hsm
        go_upto_region 16 with fail
        go_region_held3 (fun w' => w'.cell? ⟨w.heap.size, 0, none⟩ = some (.int .i64 gt) ∧ w'.cell? ⟨w.heap.size, 0 + 1, none⟩ = some (.int .i64 gn) ∧ w'.cell? ⟨w.heap.size, 0 + 2, none⟩ = some (.int .i64 gs) ∧ w'.cell? ⟨w.heap.size, 0 + 3, none⟩ = some (.slice ar n cr) ∧ w'.cell? ⟨w.heap.size + 1, 0, none⟩ = some (.int .i64 r) ∧ w'.cell? ⟨w.heap.size + 1, 0 + 1, none⟩ = some (.int .i64 tm) ∧ w'.cell? ⟨w.heap.size + 1, 0 + 2, none⟩ = some (.slice at' m ct) ∧ w'.cell? ⟨w4.heap.size, 0, none⟩ = some (.int .i64 s0) ∧ w'.cell? ⟨w4.heap.size, 0 + 1, none⟩ = some (.int .i64 s1) ∧ w'.cell? ⟨w4.heap.size, 0 + 2, none⟩ = some (.slice a4 n4 c4))
          (first | exact cells10 HBD.out XGB.out XTB.out XB.out | exact cells10 HBC.out XGB.out XTB.out XB.out | exact cells10 (Below.refl _ _).drew XGB.out XTB.out XB.out | fail)
          (first
            | (go_at_call 77; (with_reducible refine (HC7.out _ (Below.refl _ _).drew).mono ?_); rintro e wC ⟨vC, rfl, hrC, hbC⟩; rw [HS0.out, HS1.out]; have HBC : Hid (Below wB.heap.size wB wC) := (Below.refl _ _).drew.trans hbC; have HRC := Lib.hid hrC.any; obtain ⟨aC, nC, cC, rfl⟩ := treeBox hrC.any; clear hbC hrC)
            | (go_at_call 76; (with_reducible refine (HSM.out _ _ _ (HRB.out.below HBC.out) HRC.out).mono ?_); rintro e wD ⟨rfl, hbD⟩; have HBD : Hid (Below wB.heap.size wB wD) := HBC.out.trans (hbD.mono HBC.out.size); clear hbD)
            | fail)
        go_wp2_with fail
        go_ret
        refine ⟨rfl, HB0.out.trans ((HBB.out.trans (HBD.out.mono HBB.out.size)).mono HB0.out.size)⟩
  · have hne : (CK == 0) = false := by simpa using hck
    have hne2 : (CK != 0) = true := by simpa using hck
    have HNE := Lib.hid hck
    obtain rfl : TE = CK := by rw [HER.out, if_pos HNE.out]
    obtain rfl : SL = [] := by rw [HSV.out, if_neg (fun h => HNE.out h.1)]
    have hee : (TE == TE) = true := by simp
    clear hck
    go_wp2_with fail
    go_ret
    exact ⟨rfl, HB0.out.trans (HB7.out.mono HB0.out.size)⟩
end ShrinkTrees
end Go.Proofs.Ytjehmleckcmilaa
