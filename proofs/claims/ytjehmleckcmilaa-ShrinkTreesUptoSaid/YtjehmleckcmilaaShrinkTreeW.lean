/- The contract of shrink.Tree. -/
import Derived.Test.YtjehmleckcmilaaShrinkT
import Derived.Laws.EntriesVeiled
namespace Go.Proofs.Ytjehmleckcmilaa
open Go.RowKit

def treeErr (g : Gram) (F : Tree → Bool) (t : Tree) : Int := if checkT g t ≠ 0 then checkT g t else if 60 < (nodes t).length then 2 else if F t then 0 else 7
def treeRes (g : Gram) (F : Tree → Bool) (t : Tree) : Tree := if treeErr g F t = 0 then least g F t.size t else noTree
def TreeTPost (g : Gram) (F : Tree → Bool) (t : Tree) (w : World) (e : Ending) (w' : World) : Prop :=
  ∃ v, e = .returned (.tuple #[.agg #[.int .i64 (treeRes g F t).rule, .int .i64 (treeRes g F t).term, v], .int .i64 (treeErr g F t)]) ∧ Rd AnyB w' (.sl ((treeRes g F t).kids.map Tree.d)) [v] ∧ Below w.heap.size w w'
/-- the state of the loop: the tree in the box -/
structure TreeRel (g : Gram) (F : Tree → Bool) (t : Tree) (w : World) (gt gn gs : Int) (ar : Option Addr) (nr cr : Nat) (fv : Value) (m : Nat) (cur : Tree) (v : Value) (wr : World) : Prop where
  gb : wr.heap[w.heap.size]? = some (.cells #[.int .i64 gt, .int .i64 gn, .int .i64 gs, .slice ar nr cr] 77 (0, 0))
  tb : wr.heap[w.heap.size + 1]? = some (.cells #[.int .i64 cur.rule, .int .i64 cur.term, v] 43 (0, 0))
  fb : wr.heap[w.heap.size + 1 + 1]? = some (.cells #[fv] 141 (0, 0))
  rb : wr.heap[w.heap.size + 1 + 1 + 1]? = some (.cells #[.int .i64 0, .int .i64 0, .slice none 0 0] 43 (0, 0))
  kid : Rd (fun k => w.heap.size + 1 + 1 + 1 + 1 ≤ k) wr (.sl (cur.kids.map Tree.d)) [v]
  gd : good g cur
  sz : cur.size ≤ m
  le : m ≤ 60
  eq : least g F m cur = least g F t.size t
  bel : Below w.heap.size w wr
theorem TreeRel.keep {g : Gram} {F : Tree → Bool} {t : Tree} {w : World} {gt gn gs : Int} {ar : Option Addr} {nr cr : Nat} {fv : Value} {m : Nat} {cur : Tree} {v : Value} {wr w' : World} (h : TreeRel g F t w gt gn gs ar nr cr fv m cur v wr) (hb : Below wr.heap.size wr w') : TreeRel g F t w gt gn gs ar nr cr fv m cur v w' :=
  ⟨bx_keep h.gb hb, bx_keep h.tb hb, bx_keep h.fb hb, bx_keep h.rb hb, h.kid.below hb, h.gd, h.sz, h.le, h.eq, h.bel.trans (hb.mono h.bel.size)⟩

set_option maxHeartbeats 2000000 in
set_option maxRecDepth 100000 in
theorem shrinkTreeE (g : Gram) (ar : Option Addr) (cr : Nat) (t : Tree) (at' : Option Addr) (ct : Nat) (gf : Nat) (lb : Array Value) (F : Tree → Bool) (eg : ∀ args w, (callFunc gf args).run Try.prog w = .ok (.enter gf args) w) (w : World) (hr : Rd AnyB w (.sl (g.rules.map Rule.d)) [.slice ar g.rules.length cr]) (hk : Rd AnyB w (.sl (t.kids.map Tree.d)) [.slice at' t.kids.length ct]) (hf : FailsT gf lb F w) (hN : (nodes t).length ≤ 1099511627776) :
    Calls Try.prog 73 #[.agg #[.int .i64 g.terms, .int .i64 g.nons, .int .i64 g.start, .slice ar g.rules.length cr], .agg #[.int .i64 t.rule, .int .i64 t.term, .slice at' t.kids.length ct], .func (.func gf) #[] lb] w (TreeTPost g F t w) := by
  have HRG := Lib.hid hr
  have HV := Lib.hid hk
  have HF := Lib.hid hf
  obtain ⟨w0, HW0⟩ := nameIt ((((w.alloc (.cells #[.int .i64 g.terms, .int .i64 g.nons, .int .i64 g.start, .slice ar g.rules.length cr] 77)).alloc (.cells #[.int .i64 t.rule, .int .i64 t.term, .slice at' t.kids.length ct] 43)).alloc (.cells #[.func (.func gf) #[] lb] 141)).alloc (.cells #[.int .i64 0, .int .i64 0, .slice none 0 0] 43))
  have HB0 : Hid (Below w.heap.size w w0) := by rw [← HW0.out]; exact ((((Below.refl _ _).alloc (Nat.le_refl _) _).alloc (by simp) _).alloc (by simp; omega) _).alloc (by simp; omega) _
  have X1 : Hid (w0.heap[w.heap.size]? = some (.cells #[.int .i64 g.terms, .int .i64 g.nons, .int .i64 g.start, .slice ar g.rules.length cr] 77 (0, 0))) := by
    rw [← HW0.out]; exact bx_keep (bx_keep (bx_keep (bx_new _ _ _ rfl) ((Below.refl _ _).alloc (Nat.le_refl _) _)) ((Below.refl _ _).alloc (Nat.le_refl _) _)) ((Below.refl _ _).alloc (Nat.le_refl _) _)
  have X2 : Hid (w0.heap[w.heap.size + 1]? = some (.cells #[.int .i64 t.rule, .int .i64 t.term, .slice at' t.kids.length ct] 43 (0, 0))) := by
    rw [← HW0.out]; exact bx_keep (bx_keep (bx_new _ _ _ (by simp)) ((Below.refl _ _).alloc (Nat.le_refl _) _)) ((Below.refl _ _).alloc (Nat.le_refl _) _)
  have X3 : Hid (w0.heap[w.heap.size + 1 + 1]? = some (.cells #[.func (.func gf) #[] lb] 141 (0, 0))) := by
    rw [← HW0.out]; exact bx_keep (bx_new _ _ _ (by simp)) ((Below.refl _ _).alloc (Nat.le_refl _) _)
  have X4 : Hid (w0.heap[w.heap.size + 1 + 1 + 1]? = some (.cells #[.int .i64 0, .int .i64 0, .slice none 0 0] 43 (0, 0))) := by
    rw [← HW0.out]; exact bx_new _ _ _ (by simp)
  have C1 := Lib.hid (treeCheckE g ar cr t at' ct w0 (hr.below HB0.out) (hk.below HB0.out) hN)
  have C2 := Lib.hid (fun W (hb : Below w0.heap.size w0 W) => sizeE t _ W ((hk.below HB0.out).below hb) (by omega))
  have C3 := Lib.hid (fun W (hb : Below w0.heap.size w0 W) (hs : t.size ≤ 60) => cloneT t _ W (by omega) ((hk.below HB0.out).below hb))
  have C4 := Lib.hid (fun W v' (hb : Below w0.heap.size w0 W) (hv' : Rd AnyB W (.sl (t.kids.map Tree.d)) [v']) (hs : t.size ≤ 60) => hf W t v' (HB0.out.trans (hb.mono HB0.out.size)) hv' hs)
  have C5 := Lib.hid (fun W cur v' (hb : Below w.heap.size w W) (hg : good g cur) (hs : cur.size ≤ 60) (hv : Rd AnyB W (.sl (cur.kids.map Tree.d)) [v']) => smallCE g ar cr cur v' W hg (hr.below hb) hv hs)
  have HKG := Lib.hid (check_good (g := g) (t := t))
  obtain ⟨E1, HE1⟩ := nameIt (checkT g t)
  obtain ⟨M, HM⟩ := nameIt (nodes t).length
  obtain ⟨FB, HFB⟩ := nameIt (F t)
  have HER : Hid (treeErr g F t = if E1 ≠ 0 then E1 else if 60 < M then 2 else if FB then 0 else 7) := by show _ = _; unfold treeErr; rw [HE1.out, HM.out, HFB.out]
  have HSG : Hid (good g t → t.size = M) := fun h => by rw [← HM.out, nodes_sizeG h]
  rw [HE1.out, HM.out] at HKG
  obtain ⟨gt, HGT⟩ := nameIt g.terms
  obtain ⟨gn, HGN⟩ := nameIt g.nons
  obtain ⟨gs, HGS⟩ := nameIt g.start
  obtain ⟨n, HKn⟩ := nameIt g.rules.length
  obtain ⟨r, HRr⟩ := nameIt t.rule
  obtain ⟨tm, HRt⟩ := nameIt t.term
  obtain ⟨m, HMn⟩ := nameIt t.kids.length
  rw [HGT.out, HGN.out, HGS.out, HKn.out, HRr.out, HRt.out, HMn.out] at HW0
  rw [HGT.out, HGN.out, HGS.out, HKn.out] at X1
  rw [HRr.out, HRt.out, HMn.out] at X2
  rw [HGT.out, HGN.out, HGS.out, HKn.out, HRr.out, HRt.out, HMn.out, HE1.out] at C1
  rw [HRr.out, HRt.out, HMn.out, HM.out] at C2
  rw [HRr.out, HRt.out, HMn.out] at C3
  rw [HRr.out, HRt.out, HFB.out] at C4
  rw [HGT.out, HGN.out, HGS.out, HKn.out] at C5
  rw [HKn.out] at HRG
  rw [HMn.out] at HV
  rw [HGT.out, HGN.out, HGS.out, HKn.out, HRr.out, HRt.out, HMn.out]
  rw [HM.out] at hN
  obtain ⟨x0, x1, x2, x3, y0, y1, y2⟩ := cells7' (Below.refl w0.heap.size w0) X1.out X2.out
  have hw0 : w.heap.size + 1 + 1 + 1 < w0.heap.size := (Array.getElem?_eq_some_iff.1 X4.out).1
  clear hr hk hf
  have HFIN : Hid (∀ (z : Int) (W : World), treeErr g F t = z → z ≠ 0 → Below w.heap.size w W → TreeTPost g F t w (.returned (.tuple #[.agg #[.int .i64 0, .int .i64 0, .slice none 0 0], .int .i64 z])) W) := by
    intro z W h1 h2 hb
    have e : treeRes g F t = noTree := by unfold treeRes; rw [h1, if_neg h2]
    refine ⟨.slice none 0 0, by rw [e, h1]; rfl, by rw [e]; exact rd_nil _ _, hb⟩
  go_enter Try.func73, Try.ntmps73
  go_upto_region 1 with fail
  rw [HW0.out]
  go_wp2_with fail
  refine C1.out.mono ?_
  rintro e w1 ⟨rfl, hb1⟩
  have HB1 := Lib.hid hb1
  have hz1 := hb1.size
  clear x0 x1 x2 x3 y0 y1 y2
  obtain ⟨x0, x1, x2, x3, y0, y1, y2⟩ := cells7' hb1 X1.out X2.out
  obtain ⟨r0, r1, r2⟩ := bx_cells3 (bx_keep X4.out hb1)
  obtain ⟨f0, f1, f2⟩ := bx_free3 (bx_keep X4.out hb1)
  clear hb1
  by_cases h1 : E1 = 0
  · subst h1
    obtain ⟨hg, h5⟩ := HKG.out rfl
    have HGD := Lib.hid hg
    have hts := HSG.out hg
    clear hg r0 r1 r2 f0 f1 f2
    go_wp2_with fail
    refine (C2.out _ HB1.out).mono ?_
    rintro e w2 ⟨rfl, hb2⟩
    have HB2 := Lib.hid (HB1.out.trans (hb2.mono HB1.out.size))
    have hz2 := hb2.size
    clear hb2 x0 x1 x2 x3 y0 y1 y2
    by_cases h2 : 60 < M
    · have h2' : (60 : Int) < (M : Int) := by omega
      obtain ⟨r0, r1, r2⟩ := bx_cells3 (bx_keep X4.out HB2.out)
      obtain ⟨f0, f1, f2⟩ := bx_free3 (bx_keep X4.out HB2.out)
      go_wp2_with fail
      exact bodyPost_ret (v := .tuple #[.agg #[.int .i64 0, .int .i64 0, .slice none 0 0], .int .i64 2]) (by simp [results, Try.results73, go_sem, r0, r1, r2]) rfl (HFIN.out 2 _ (by rw [HER.out]; simp [h2]) (by decide) (below_box3 (HB0.out.trans (HB2.out.mono HB0.out.size)) (by omega) _ _ _))
    · have h2' : ¬ (60 : Int) < (M : Int) := by omega
      have HTS : Hid (t.size ≤ 60) := by show _ ≤ _; omega
      have HC3 := Lib.hid (fun W hb => C3.out W hb HTS.out)
      have HC4 := Lib.hid (fun W v' hb hv' => C4.out W v' hb hv' HTS.out)
      obtain ⟨z0, y0, y1, y2⟩ := cells4f (Below.refl w2.heap.size w2) (bx_keep X3.out HB2.out) (bx_keep X2.out HB2.out)
      clear C1 C2 C3 C4
      have X22 := Lib.hid (bx_keep X2.out HB2.out)
      have X32 := Lib.hid (bx_keep X3.out HB2.out)
      go_upto_region 6 with fail
      go_region_held3 (fun w' => w'.cell? ⟨w.heap.size + 1 + 1, 0, none⟩ = some (.func (.func gf) #[] lb) ∧ w'.cell? ⟨w.heap.size + 1, 0, none⟩ = some (.int .i64 r) ∧ w'.cell? ⟨w.heap.size + 1, 0 + 1, none⟩ = some (.int .i64 tm) ∧ w'.cell? ⟨w.heap.size + 1, 0 + 2, none⟩ = some (.slice at' m ct))
        (first | exact cells4f HB4.out X32.out X22.out | exact cells4f HB3.out X32.out X22.out | exact cells4f (Below.refl _ _).drew X32.out X22.out | fail)
        (first
          | (go_at_call 141; (with_reducible refine (HC3.out _ HB2.out.drew).mono ?_); rintro e w3 ⟨v3, rfl, hr3, hb3⟩; rw [HRr.out, HRt.out]; have HB3 : Hid (Below w2.heap.size w2 w3) := (Below.refl _ _).drew.trans hb3; have HR3 := Lib.hid hr3; have HB03 : Hid (Below w0.heap.size w0 w3) := HB2.out.trans (HB3.out.mono HB2.out.size); obtain ⟨a3, n3, c3, rfl⟩ := treeBox hr3.any; clear hb3 hr3)
          | ((with_reducible refine (HC4.out _ _ HB03.out HR3.out.any).mono ?_); rintro e w4 ⟨rfl, hb4⟩; have HB4 : Hid (Below w2.heap.size w2 w4) := HB3.out.trans (hb4.mono HB3.out.size); clear hb4)
          | fail)
      have HB04 : Hid (Below w0.heap.size w0 w4) := HB2.out.trans (HB4.out.mono HB2.out.size)
      have HBW4 : Hid (Below w.heap.size w w4) := HB0.out.trans (HB04.out.mono HB0.out.size)
      have hz4 := HB4.out.size
      clear z0 y0 y1 y2
      cases FB with
      | false =>
        obtain ⟨r0, r1, r2⟩ := bx_cells3 (bx_keep X4.out HB04.out)
        obtain ⟨f0, f1, f2⟩ := bx_free3 (bx_keep X4.out HB04.out)
        go_wp2_with fail
        exact bodyPost_ret (v := .tuple #[.agg #[.int .i64 0, .int .i64 0, .slice none 0 0], .int .i64 7]) (by simp [results, Try.results73, go_sem, r0, r1, r2]) rfl (HFIN.out 7 _ (by rw [HER.out]; simp [h2]) (by decide) (below_box3 HBW4.out (by omega) _ _ _))
      | true =>
        have HERR : Hid (treeErr g F t = 0) := by show _ = _; rw [HER.out]; simp [h2]
        have HRES : Hid (treeRes g F t = least g F t.size t) := by show _ = _; unfold treeRes; rw [HERR.out, if_pos rfl]
        have hc5 := HC3.out w4 HB04.out
        have HC5 := Lib.hid hc5
        obtain ⟨y0, y1, y2⟩ := bx_cells3 (bx_keep X2.out HB04.out)
        clear hc5
        go_wp2_with fail
        refine HC5.out.mono ?_
        rintro e w5 ⟨v5, rfl, hr5, hb5⟩
        rw [HRr.out, HRt.out]
        obtain ⟨a5, n5, c5, rfl⟩ := treeBox hr5.any
        have HB05 : Hid (Below w0.heap.size w0 w5) := HB04.out.trans (hb5.mono HB04.out.size)
        have hz5 := hb5.size
        have hx5 := bx_keep X2.out HB05.out
        obtain ⟨w6, HW6⟩ := nameIt (((w5.setCell ⟨w.heap.size + 1, 0, none⟩ (.int .i64 r)).setCell ⟨w.heap.size + 1, 1, none⟩ (.int .i64 tm)).setCell ⟨w.heap.size + 1, 2, none⟩ (.slice a5 n5 c5))
        have HR6 : Hid (TreeRel g F t w gt gn gs ar n cr (.func (.func gf) #[] lb) t.size t (.slice a5 n5 c5) w6) := by
          rw [← HW6.out]
          refine ⟨?_, ?_, ?_, ?_, ?_, HGD.out, Nat.le_refl _, HTS.out, rfl, ?_⟩
          · exact bx_other3 (bx_keep X1.out HB05.out) (by omega) _ _ _
          · rw [HRr.out, HRt.out]; exact bx_set3 hx5 _ _ _
          · exact bx_other3 (bx_keep X3.out HB05.out) (by omega) _ _ _
          · exact bx_other3 (bx_keep X4.out HB05.out) (by omega) _ _ _
          · refine (hr5.box3 (b := w.heap.size + 1) ?_ _ _ _).mono fun k hk _ => ?_
            · simp only [FreshB]; omega
            · simp only [FreshB] at hk; omega
          · exact below_box3 (HB0.out.trans (HB05.out.mono HB0.out.size)) (by omega) _ _ _
        obtain ⟨y0, y1, y2⟩ := bx_cells3 hx5
        obtain ⟨f0, f1, f2⟩ := bx_free3 hx5
        have hlt5 : w.heap.size + 1 < w5.heap.size := by omega
        clear hr5 hb5 hx5
        go_wp2_with fail
        rw [HW6.out]
        go_loopg [9, 10] 60 (fun gg _ _ wr => ∃ (k : Nat) (cur : Tree) (v : Value), k ≤ gg ∧ Hid (TreeRel g F t w gt gn gs ar n cr (.func (.func gf) #[] lb) k cur v wr))
        case atStart => exact ⟨_, _, _, HTS.out, HR6⟩
        case round =>
          obtain ⟨k, cur, v, hk, HR⟩ := hrel
          obtain ⟨av, nv, cv, rfl⟩ := treeBox HR.out.kid.any
          have hcs : cur.size ≤ 60 := Nat.le_trans HR.out.sz HR.out.le
          have hc6 := C5.out wr cur _ HR.out.bel HR.out.gd hcs HR.out.kid.any
          have htb := HR.out.tb
          obtain ⟨k0, rfl⟩ : ∃ k0, k = k0 + 1 := ⟨k - 1, by have := cur.size_pos; have := HR.out.sz; omega⟩
          have HMEM := Lib.hid (fun x (hx : x ∈ smallerC g cur) => small_mem HR.out.gd hx)
          have HHIT := Lib.hid (fun i hi hF hn => least_hit (g := g) (F := F) (m := k0) (i := i) (t := cur) hi hF hn)
          have HEND := Lib.hid (fun hn => least_end (g := g) (F := F) (m := k0) (t := cur) hn)
          obtain ⟨L, HL⟩ := nameIt (smallerC g cur)
          have HLR : Hid (smallerR g cur = L) := by show _ = _; rw [← small_agree HR.out.gd, HL.out]
          simp only [HL.out] at hc6 HMEM
          simp only [HLR.out] at HHIT HEND
          obtain ⟨q0, HQ0⟩ := nameIt cur.rule
          obtain ⟨q1, HQ1⟩ := nameIt cur.term
          rw [HQ0.out, HQ1.out] at hc6 htb
          have HC6 := Lib.hid hc6
          obtain ⟨x0, x1, x2, x3, y0, y1, y2⟩ := cells7' (Below.refl wr.heap.size wr) HR.out.gb htb
          clear hc6 htb
          go_wp2_with fail
          refine HC6.out.mono ?_
          rintro e w7 ⟨v7, rfl, hr7, hb7⟩
          obtain ⟨a7, c7, rfl, -, -⟩ := hr7.form
          rw [List.length_map] at hr7 ⊢
          have HR7 := Lib.hid (HR.out.keep hb7)
          have HL7 := Lib.hid hr7
          have hszr := (Array.getElem?_eq_some_iff.1 HR.out.rb).1
          have hz7 := hb7.size
          have hidx := indexTE 143 #[.pointer (some ⟨w.heap.size + 1 + 1, 0, none⟩)] F (fun _ _ => by kernel_rfl) L a7 L.length c7 w7 hr7.any (tryE gf lb F eg (w.heap.size + 1 + 1) w7 HR7.out.fb (HF.out.later HR7.out.bel)) (fun x hx => by have := (HMEM.out x hx).2; omega)
          have HIX := Lib.hid hidx
          clear hidx hr7 hb7 x0 x1 x2 x3 y0 y1 y2
          go_wp2_with fail
          refine HIX.out.mono ?_
          rintro e w8 ⟨z, rfl, hz, hb8⟩
          have HR8 := Lib.hid (HR7.out.keep hb8)
          have HL8 := Lib.hid (HL7.out.below hb8)
          have hz8 := hb8.size
          have htb := HR8.out.tb
          rw [HQ0.out, HQ1.out] at htb
          obtain ⟨y0, y1, y2⟩ := bx_cells3 htb
          clear hb8
          rcases hz with ⟨rfl, hno⟩ | ⟨i, rfl, hi, hFi, hno⟩
          · have HEE : Hid (treeRes g F t = cur) := by
              show _ = _
              rw [HRES.out, ← HR.out.eq, HEND.out hno]
            obtain ⟨r0, r1, r2⟩ := bx_cells3 HR8.out.rb
            obtain ⟨f0, f1, f2⟩ := bx_free3 HR8.out.rb
            have hlt8 := (Array.getElem?_eq_some_iff.1 HR8.out.rb).1
            clear htb hno
            go_wp2_with fail
            refine bodyPost_ret (v := .tuple #[.agg #[.int .i64 q0, .int .i64 q1, .slice av nv cv], .int .i64 0]) (by simp [results, Try.results73, go_sem, r0, r1, r2]) rfl ?_
            refine ⟨.slice av nv cv, by rw [HEE.out, HERR.out, HQ0.out, HQ1.out], ?_, below_box3 HR8.out.bel (by omega) _ _ _⟩
            rw [HEE.out]
            exact (HR8.out.kid.box3 (b := w.heap.size + 1 + 1 + 1) (by omega) _ _ _).any
          · obtain ⟨b, off, vx, hae, hSb, hbl, j0, j1, j2, hkid⟩ := HL8.out.kid hi
            obtain ⟨ax, nx, cx, rfl⟩ := treeBox hkid.any
            have hmem := HMEM.out L[i] (List.getElem_mem hi)
            have HEQ : Hid (least g F k0 L[i] = least g F t.size t) := by
              show _ = _
              rw [← HR.out.eq, HHIT.out i hi hFi hno]
            have hib : (i : Int) < (L.length : Int) := by omega
            have hi0 : ¬ (i : Int) < 0 := by omega
            have hi1 : (0 : Int) ≤ (i : Int) := by omega
            obtain ⟨x, HX⟩ := nameIt (L[i]'hi)
            rw [HX.out] at j0 j1 hkid hmem HEQ
            obtain ⟨p0, HP0⟩ := nameIt x.rule
            obtain ⟨p1, HP1⟩ := nameIt x.term
            rw [HP0.out] at j0
            rw [HP1.out] at j1
            obtain ⟨g0, g1, g2⟩ := bx_free3 htb
            have hlt8 := (Array.getElem?_eq_some_iff.1 htb).1
            have HR9 : Hid (TreeRel g F t w gt gn gs ar n cr (.func (.func gf) #[] lb) k0 x (.slice ax nx cx) (((w8.setCell ⟨w.heap.size + 1, 0, none⟩ (.int .i64 p0)).setCell ⟨w.heap.size + 1, 1, none⟩ (.int .i64 p1)).setCell ⟨w.heap.size + 1, 2, none⟩ (.slice ax nx cx))) := by
              refine ⟨?_, ?_, ?_, ?_, ?_, hmem.1, by have := HR.out.sz; omega, by have := HR.out.le; omega, HEQ.out, ?_⟩
              · exact bx_other3 HR8.out.gb (by omega) _ _ _
              · rw [HP0.out, HP1.out]; exact bx_set3 HR8.out.tb _ _ _
              · exact bx_other3 HR8.out.fb (by omega) _ _ _
              · exact bx_other3 HR8.out.rb (by omega) _ _ _
              · refine (hkid.box3 (b := w.heap.size + 1) ?_ _ _ _).mono fun k hk _ => ?_
                · rintro (h | h)
                  · exact h
                  · omega
                · rcases hk with h | h
                  · exact h.elim
                  · omega
              · exact below_box3 HR8.out.bel (by omega) _ _ _
            have hne : ¬ w.heap.size + 1 = b := by
              rintro rfl
              rcases hSb with h | h
              · exact h
              · omega
            have hne' : ¬ b = w.heap.size + 1 := fun e => hne e.symm
            subst hae
            clear htb hno hkid
            go_wp2_with fail
            go_roundg k0
            case measure => omega
            case rel => exact ⟨k0, x, _, Nat.le_refl _, HR9⟩
  · have hne : (E1 != 0) = true := by simpa using h1
    have HNE := Lib.hid h1
    clear h1
    go_wp2_with fail
    exact bodyPost_ret (v := .tuple #[.agg #[.int .i64 0, .int .i64 0, .slice none 0 0], .int .i64 E1]) (by simp [results, Try.results73, go_sem, r0, r1, r2]) rfl (HFIN.out E1 _ (by rw [HER.out, if_pos HNE.out]) HNE.out (below_box3 (HB0.out.trans (HB1.out.mono HB0.out.size)) (by omega) _ _ _))
end Go.Proofs.Ytjehmleckcmilaa
