/- The walk of the law AttrChecks. -/
import Derived.Test.YtiapfogckbkkpaaAttrLeaves
import Derived.Test.YtiapfogckbkkpaaAttrCheckE
import Derived.Test.YtiapfogckbkkpaaAttrFind
import Derived.Test.YtiapfogckbkkpaaAttrSame
namespace Go.Proofs.Ytiapfogckbkkpaa
open Go.RowKit
namespace At

theorem leaves_okK : ∀ q ∈ leavesS.eqs, okEqK q := by
  intro q hq
  simp [leavesS] at hq
  rcases hq with rfl | rfl <;> simp [okEqK, okRefI, i64]
theorem bare_okK : ∀ q ∈ bareS.eqs, okEqK q := by
  intro q hq
  simp [bareS] at hq
theorem find_hit {es : List Eqn} {rule : Int} {x : Ref} {j : Nat} (h : j < es.length) (h1 : es[j].rule = rule) (h2 : es[j].to' = x) (hn : ∀ k (h : k < es.length), k < j → ¬ (es[k].rule = rule ∧ es[k].to' = x)) : findS es rule x = (⟨rule, x, es[j].is'⟩, 0) := by
  unfold findS
  rw [find_at h (by unfold findP; simp [h1, h2]) (fun k hk hkj => by unfold findP; simpa using hn k hk hkj)]
theorem find_miss {es : List Eqn} {rule : Int} {x : Ref} (hn : ∀ k (h : k < es.length), ¬ (es[k].rule = rule ∧ es[k].to' = x)) : findS es rule x = (zeroE, 5) := by
  unfold findS
  have : es.find? (findP rule x) = none := by
    rw [List.find?_eq_none]
    intro q hq
    obtain ⟨k, hk, rfl⟩ := List.getElem_of_mem hq
    unfold findP
    simpa using hn k hk
  rw [this]

set_option maxHeartbeats 8000000 in
set_option maxRecDepth 100000 in
theorem lawAC (g : Gram) (s : Sys) (rule : Int) (x : Ref) (vr va ve : Value) (w : World) (hok : ∀ q ∈ s.eqs, okEqK q) (hsz : ∀ q ∈ s.eqs, q.is'.size ≤ 1048576) (hR : Rd AnyB w (.sl (g.rules.map Rule.d)) [vr]) (hA : Rd AnyB w (.sl (s.attrs.map Attr.d)) [va]) (hE : Rd AnyB w (.sl (s.eqs.map Eqn.d)) [ve]) :
    Calls Try.prog 3 #[.agg #[.int .i64 g.terms, .int .i64 g.nons, .int .i64 g.start, vr], .agg #[va, ve], .int .i64 rule, .agg #[.int .i64 x.at', .int .i64 x.attr]] w (fun e w' => e = .returned (.bool true) ∧ Below w.heap.size w w') := by
  obtain ⟨ar, cr, rfl, -, -⟩ := hR.form
  obtain ⟨aa, ca, rfl, -, -⟩ := hA.form
  obtain ⟨ae, ce, rfl, he1, he2⟩ := hE.form
  rw [List.length_map] at hR hA hE he1 ⊢
  rw [List.length_map, List.length_map]
  unfold maxLen at he2
  obtain ⟨w0, HW0⟩ := nameIt (((w.alloc (.cells #[.int .i64 g.terms, .int .i64 g.nons, .int .i64 g.start, .slice ar g.rules.length cr] 24)).alloc (.cells #[.slice aa s.attrs.length ca, .slice ae s.eqs.length ce] 28)).alloc (.cells #[.int .i64 x.at', .int .i64 x.attr] 30))
  have HB0 : Hid (Below w.heap.size w w0) := by rw [← HW0.out]; exact (((Below.refl _ _).alloc (Nat.le_refl _) _).alloc (by simp) _).alloc (by simp; omega) _
  have X1 : Hid (w0.heap[w.heap.size]? = some (.cells #[.int .i64 g.terms, .int .i64 g.nons, .int .i64 g.start, .slice ar g.rules.length cr] 24 (0, 0))) := by
    rw [← HW0.out]; exact bx_keep (bx_keep (bx_new _ _ _ rfl) ((Below.refl _ _).alloc (Nat.le_refl _) _)) ((Below.refl _ _).alloc (Nat.le_refl _) _)
  have X2 : Hid (w0.heap[w.heap.size + 1]? = some (.cells #[.slice aa s.attrs.length ca, .slice ae s.eqs.length ce] 28 (0, 0))) := by
    rw [← HW0.out]; exact bx_keep (bx_new _ _ _ (by simp)) ((Below.refl _ _).alloc (Nat.le_refl _) _)
  have X3 : Hid (w0.heap[w.heap.size + 1 + 1]? = some (.cells #[.int .i64 x.at', .int .i64 x.attr] 30 (0, 0))) := by
    rw [← HW0.out]; exact bx_new _ _ _ (by simp)
  have HCK := Lib.hid (fun (W : World) (hb : Below w.heap.size w W) => attrCheckE g s ar aa ae cr ca ce W hok (hR.below hb) (hA.below hb) (hE.below hb))
  have HFA := Lib.hid (fun (W : World) (hb : Below w.heap.size w W) => faultyE g s ar aa ae cr ca ce W hsz (hR.below hb) (hA.below hb) (hE.below hb))
  have HFI := Lib.hid (fun (W : World) (hb : Below w.heap.size w W) => findE s hsz rule x aa ae ca s.attrs.length ce W (hE.below hb))
  have HE := Lib.hid hE
  have HHIT := Lib.hid (fun (j : Nat) (h : j < s.eqs.length) => @find_hit s.eqs rule x j h)
  have HMISS := Lib.hid (@find_miss s.eqs rule x)
  have HXQ : Hid (∀ y : Ref, y = x ↔ y.at' = x.at' ∧ y.attr = x.attr) := by
    intro y
    cases y with
    | mk u v => cases x with | mk u' v' => simp
  obtain ⟨cs, HCS⟩ := nameIt (checkS g s)
  obtain ⟨tm, HTM⟩ := nameIt g.terms
  obtain ⟨no, HNO⟩ := nameIt g.nons
  obtain ⟨st, HST⟩ := nameIt g.start
  obtain ⟨m, HM⟩ := nameIt g.rules.length
  obtain ⟨al, HAL⟩ := nameIt s.attrs.length
  obtain ⟨n, HN⟩ := nameIt s.eqs.length
  obtain ⟨xa, HXA⟩ := nameIt x.at'
  obtain ⟨xi, HXI⟩ := nameIt x.attr
  simp only [HTM.out, HNO.out, HST.out, HM.out, HAL.out, HN.out, HCS.out] at HCK HFA
  simp only [HAL.out, HN.out, HXA.out, HXI.out] at HFI
  simp only [HXA.out, HXI.out] at HXQ
  have HN' := Lib.hid HN.out
  rw [HTM.out, HNO.out, HST.out, HM.out, HAL.out, HN.out, HXA.out, HXI.out] at HW0
  rw [HTM.out, HNO.out, HST.out, HM.out] at X1
  rw [HAL.out, HN.out] at X2
  rw [HXA.out, HXI.out] at X3
  rw [HN.out] at HE he1
  rw [HTM.out, HNO.out, HST.out, HM.out, HAL.out, HN.out, HXA.out, HXI.out]
  clear hR hA hE hok hsz
  go_enter Try.func3, Try.ntmps3
  go_upto_region 1 with fail
  rw [HW0.out]
  go_wp2_with fail
  refine (listE w0).mono ?_
  rintro e w1 ⟨v1, rfl, hr1, hb1⟩
  have HB1 : Hid (Below w0.heap.size w0 w1) := hb1
  obtain ⟨a1, c1, rfl, -, -⟩ := hr1.form
  rw [List.length_map] at hr1 ⊢
  have HR1 := Lib.hid hr1
  clear hr1 hb1
  go_wp2_with fail
  refine (leavesE w1).mono ?_
  rintro e w2 ⟨u2, u2', rfl, ha2, he2, hb2⟩
  have HB2 : Hid (Below w0.heap.size w0 w2) := HB1.out.trans (hb2.mono HB1.out.size)
  obtain ⟨a2, c2, rfl, -, -⟩ := ha2.form
  obtain ⟨a2', c2', rfl, -, -⟩ := he2.form
  rw [List.length_map] at ha2 he2 ⊢
  rw [List.length_map]
  have HC2 := Lib.hid (attrCheckE listG leavesS a1 a2 a2' c1 c2 c2' w2 leaves_okK (HR1.out.below hb2) ha2 he2)
  rw [leaves_ok] at HC2
  clear ha2 he2 hb2
  go_wp2_with fail
  refine HC2.out.mono ?_
  rintro e w3 ⟨rfl, hb3⟩
  have HB3 : Hid (Below w0.heap.size w0 w3) := HB2.out.trans (hb3.mono HB2.out.size)
  clear hb3
  go_wp2_with fail
  refine (listE w3).mono ?_
  rintro e w4 ⟨v4, rfl, hr4, hb4⟩
  have HB4 : Hid (Below w0.heap.size w0 w4) := HB3.out.trans (hb4.mono HB3.out.size)
  obtain ⟨a4, c4, rfl, -, -⟩ := hr4.form
  rw [List.length_map] at hr4 ⊢
  obtain ⟨w5, HW5⟩ := nameIt (w4.alloc (.cells #[.int .i64 0, .bool false] 36))
  have hb5 : Below w4.heap.size w4 w5 := by rw [← HW5.out]; exact (Below.refl _ _).alloc (Nat.le_refl _) _
  have HB5 : Hid (Below w0.heap.size w0 w5) := HB4.out.trans (hb5.mono HB4.out.size)
  have XA5 : w5.heap[w4.heap.size]? = some (.cells #[.int .i64 0, .bool false] 36 (0, 0)) := by rw [← HW5.out]; exact bx_new _ _ _ rfl
  have hra5 : Rd AnyB w5 (.sl (bareS.attrs.map Attr.d)) [.slice (some ⟨w4.heap.size, 0, none⟩) 1 1] :=
    rd_of_own (own_of_block XA5 (n := 1) (size := 2) rfl (by simp [maxLen])) (RdAll.one ⟨[.int .i64 0], [.bool false], rfl, rfl, RdAll.one rfl⟩) rfl (fun _ _ => trivial)
  have HC5 := Lib.hid (attrCheckE listG bareS a4 (some ⟨w4.heap.size, 0, none⟩) none c4 1 0 w5 bare_okK (hr4.below hb5) hra5 (rd_nilE _ _))
  rw [bare_five] at HC5
  clear hr4 hb4 hb5 XA5 hra5
  go_wp2_with fail
  rw [HW5.out]
  refine HC5.out.mono ?_
  rintro e w6 ⟨rfl, hb6⟩
  have HB6 : Hid (Below w0.heap.size w0 w6) := HB5.out.trans (hb6.mono HB5.out.size)
  clear hb6
  have HWB : Hid (∀ W, Below w0.heap.size w0 W → Below w.heap.size w W) := fun W h => HB0.out.trans (h.mono HB0.out.size)
  have Y1 := Lib.hid (bx_keep X1.out HB6.out)
  have Y2 := Lib.hid (bx_keep X2.out HB6.out)
  have Y3 := Lib.hid (bx_keep X3.out HB6.out)
  obtain ⟨x0, x1, x2, x3⟩ := bx_cells4 Y1.out
  obtain ⟨y0, y1⟩ := bx_cells2 Y2.out
  have k0 := aft_cell x0
  have k1 := aft_cell x1
  have k2 := aft_cell x2
  have k3 := aft_cell x3
  have k4 := aft_cell y0
  have k5 := aft_cell y1
  clear x0 x1 x2 x3 y0 y1
  have HCK6 := Lib.hid (fun (W : World) (hb : Below w6.heap.size w6 W) => HCK.out W (HWB.out _ (HB6.out.trans (hb.mono HB6.out.size))))
  have HFA6 := Lib.hid (fun (W : World) (hb : Below w6.heap.size w6 W) => HFA.out W (HWB.out _ (HB6.out.trans (hb.mono HB6.out.size))))
  go_upto_region 3 with fail
  refine wp_region_after (by kernel_rfl) (by kernel_rfl) ?_
  repeat (go_big_quiet_step (first | exact Calls.after (HCK6.out _ (Aft.bel _)) | exact Calls.after (HFA6.out _ (Aft.bel _))))
  refine wpQuiet_nil ?_
  rintro w7 ⟨⟨_, hb7⟩, rfl⟩
  have HB7 : Hid (Below w0.heap.size w0 w7) := HB6.out.trans (hb7.mono HB6.out.size)
  have Z2 := Lib.hid (bx_keep Y2.out hb7)
  have Z3 := Lib.hid (bx_keep Y3.out hb7)
  clear hb7 k0 k1 k2 k3 k4 k5
  obtain ⟨y0, y1⟩ := bx_cells2 Z2.out
  obtain ⟨z0, z1⟩ := bx_cells2 Z3.out
  go_wp2_with fail
  refine (HFI.out w7 (HWB.out _ HB7.out)).mono ?_
  rintro e w8 ⟨v8, rfl, hr8, hb8⟩
  have HB8 : Hid (Below w0.heap.size w0 w8) := HB7.out.trans (hb8.mono HB7.out.size)
  clear y0 y1 z0 z1
  obtain ⟨a8, c8, rfl, -, -⟩ := hr8.form
  rw [List.length_map] at hr8
  unfold eqV
  rw [List.length_map]
  have HFV : Hid (∀ q z, findS s.eqs rule x = (q, z) → (findS s.eqs rule x).1 = q ∧ (findS s.eqs rule x).2 = z) := fun q z h => by rw [h]; exact ⟨rfl, rfl⟩
  obtain ⟨fq, HFQ⟩ := nameIt (findS s.eqs rule x).1
  obtain ⟨fz, HFZ⟩ := nameIt (findS s.eqs rule x).2
  rw [HFQ.out] at hr8 ⊢
  rw [HFZ.out]
  simp only [HFQ.out, HFZ.out] at HFV
  obtain ⟨w9, HW9⟩ := nameIt (w8.alloc (.cells #[.int .i64 fq.rule, .int .i64 fq.to'.at', .int .i64 fq.to'.attr, .int .i64 fq.is'.kind, .int .i64 fq.is'.n, .int .i64 fq.is'.ref.at', .int .i64 fq.is'.ref.attr, .slice a8 fq.is'.args.length c8] 41))
  have hb9 : Below w8.heap.size w8 w9 := by rw [← HW9.out]; exact (Below.refl _ _).alloc (Nat.le_refl _) _
  have HB9 : Hid (Below w0.heap.size w0 w9) := HB8.out.trans (hb9.mono HB8.out.size)
  have XF : Hid (w9.heap[w8.heap.size]? = some (.cells #[.int .i64 fq.rule, .int .i64 fq.to'.at', .int .i64 fq.to'.attr, .int .i64 fq.is'.kind, .int .i64 fq.is'.n, .int .i64 fq.is'.ref.at', .int .i64 fq.is'.ref.attr, .slice a8 fq.is'.args.length c8] 41 (0, 0))) := by rw [← HW9.out]; exact bx_new _ _ _ rfl
  have HR9 := Lib.hid (hr8.below hb9)
  have HSAM := Lib.hid (fun (y : Expr) (v v' : Value) (W : World) (h : Rd AnyB W (.sl (y.args.map Expr.d)) [v]) (h' : Rd AnyB W (.sl (y.args.map Expr.d)) [v']) => sameE y.size y v v' W (Nat.le_refl _) h h')
  obtain ⟨f0, HF0⟩ := nameIt fq.rule
  obtain ⟨f1, HF1⟩ := nameIt fq.to'.at'
  obtain ⟨f2, HF2⟩ := nameIt fq.to'.attr
  obtain ⟨f3, HF3⟩ := nameIt fq.is'.kind
  obtain ⟨f4, HF4⟩ := nameIt fq.is'.n
  obtain ⟨f5, HF5⟩ := nameIt fq.is'.ref.at'
  obtain ⟨f6, HF6⟩ := nameIt fq.is'.ref.attr
  obtain ⟨fn, HFN⟩ := nameIt fq.is'.args.length
  rw [HF0.out, HF1.out, HF2.out, HF3.out, HF4.out, HF5.out, HF6.out, HFN.out] at HW9 XF ⊢
  rw [HFN.out] at HR9
  have Z29 := Lib.hid (bx_keep X2.out HB9.out)
  obtain ⟨y0, y1⟩ := bx_cells2 Z29.out
  have HNH0 : Hid (∀ k' (h : k' < s.eqs.length), k' < 0 → ¬ (s.eqs[k'].rule = rule ∧ s.eqs[k'].to' = x)) := fun k' _ h => by omega
  have HB99 := Lib.hid (Below.refl w9.heap.size w9)
  clear hr8 hb8 hb9
  go_upto_region 6 with fail
  rw [HW9.out]
  go_wp2_with fail
  clear y0 y1
  go_loopg [42] n (fun gg v42 wr => ∃ j : Nat, j ≤ n ∧ n - j ≤ gg ∧ v42 = .int .i64 j ∧ Hid (∀ k' (h : k' < s.eqs.length), k' < j → ¬ (s.eqs[k'].rule = rule ∧ s.eqs[k'].to' = x)) ∧ Hid (Below w9.heap.size w9 wr))
  case atStart => exact ⟨0, by omega, by omega, rfl, HNH0, HB99⟩
  case round =>
    clear HNH0 HB99
    obtain ⟨j, hj, hg, rfl, HNH, HBJ⟩ := hrel
    have HB9J : Hid (Below w0.heap.size w0 wr) := HB9.out.trans (HBJ.out.mono HB9.out.size)
    have XFJ := Lib.hid (bx_keep XF.out HBJ.out)
    have XTJ := Lib.hid (bx_keep X3.out HB9J.out)
    by_cases hlt : j < n
    · have hlt' : (j : Int) < (n : Int) := by omega
      have hjE : j < s.eqs.length := by rw [HN.out]; exact hlt
      obtain ⟨b9, off9, v9, hae9, -, hbl9, c0, c1, c2, c3, c4, c5, c6, c7, hkid9⟩ := Rd.eqn_at (HE.out.below (HWB.out _ HB9J.out)) hjE
      obtain ⟨av9, cv9, rfl, -, -⟩ := hkid9.form
      rw [List.length_map] at c7 hkid9
      have HHJ := Lib.hid (fun (h1 : s.eqs[j].rule = rule) (h2 : s.eqs[j].to' = x) => HFV.out _ _ (HHIT.out j hjE h1 h2 HNH.out))
      have HTP := Lib.hid (HXQ.out s.eqs[j].to')
      have HNHK := Lib.hid (fun (h : ¬ (s.eqs[j].rule = rule ∧ s.eqs[j].to' = x)) => show ∀ k' (h : k' < s.eqs.length), k' < j + 1 → ¬ (s.eqs[k'].rule = rule ∧ s.eqs[k'].to' = x) from fun k' h1 h2 => by
        by_cases e : k' = j
        · subst e; exact h
        · exact HNH.out k' h1 (by omega))
      obtain ⟨p, HPE⟩ := nameIt (s.eqs[j]'hjE)
      rw [HPE.out] at c0 c1 c2 c3 c4 c5 c6 c7 hkid9 HTP
      simp only [HPE.out] at HNHK HHJ
      obtain ⟨wa, HWA⟩ := nameIt (wr.alloc (.cells #[.int .i64 p.rule, .int .i64 p.to'.at', .int .i64 p.to'.attr, .int .i64 p.is'.kind, .int .i64 p.is'.n, .int .i64 p.is'.ref.at', .int .i64 p.is'.ref.attr, .slice av9 p.is'.args.length cv9] 41))
      have hba : Below wr.heap.size wr wa := by rw [← HWA.out]; exact (Below.refl _ _).alloc (Nat.le_refl _) _
      have XA : Hid (wa.heap[wr.heap.size]? = some (.cells #[.int .i64 p.rule, .int .i64 p.to'.at', .int .i64 p.to'.attr, .int .i64 p.is'.kind, .int .i64 p.is'.n, .int .i64 p.is'.ref.at', .int .i64 p.is'.ref.attr, .slice av9 p.is'.args.length cv9] 41 (0, 0))) := by rw [← HWA.out]; exact bx_new _ _ _ rfl
      have HBA : Hid (Below w9.heap.size w9 wa) := HBJ.out.trans (hba.mono HBJ.out.size)
      have HB0A : Hid (Below w0.heap.size w0 wa) := HB9.out.trans (HBA.out.mono HB9.out.size)
      have XFA := Lib.hid (bx_keep XFJ.out hba)
      have XTA := Lib.hid (bx_keep XTJ.out hba)
      have HKA := Lib.hid (hkid9.below hba)
      obtain ⟨p0, HP0⟩ := nameIt p.rule
      obtain ⟨p1, HP1⟩ := nameIt p.to'.at'
      obtain ⟨p2, HP2⟩ := nameIt p.to'.attr
      obtain ⟨p3, HP3⟩ := nameIt p.is'.kind
      obtain ⟨p4, HP4⟩ := nameIt p.is'.n
      obtain ⟨p5, HP5⟩ := nameIt p.is'.ref.at'
      obtain ⟨p6, HP6⟩ := nameIt p.is'.ref.attr
      obtain ⟨pn, HPN⟩ := nameIt p.is'.args.length
      rw [HP0.out, HP1.out, HP2.out, HP3.out, HP4.out, HP5.out, HP6.out, HPN.out] at XA HWA
      rw [HP0.out] at c0
      simp only [HP0.out] at HNHK HHJ
      rw [HP1.out, HP2.out] at HTP
      rw [HP1.out] at c1
      rw [HP2.out] at c2
      rw [HP3.out] at c3
      rw [HP4.out] at c4
      rw [HP5.out] at c5
      rw [HP6.out] at c6
      rw [HPN.out] at c7 HKA
      subst hae9
      obtain ⟨s0, s1, s2, s3, s4, s5, s6, s7⟩ := bx_cells8 XA.out
      obtain ⟨t0, t1⟩ := bx_cells2 XTA.out
      clear hba hkid9
      go_upto_region 9 with fail
      rw [HWA.out]
      clear c0 c1 c2 c3 c4 c5 c6 c7
      by_cases g0 : p0 = rule
      · by_cases g1 : p1 = xa
        · by_cases g2 : p2 = xi
          · obtain ⟨hq, hz⟩ := HHJ.out g0 (HTP.out.2 ⟨g1, g2⟩)
            have e0 : f0 = rule := by rw [← HF0.out, hq]
            have e1 : f1 = xa := by rw [← HF1.out, hq, ← HXA.out]
            have e2 : f2 = xi := by rw [← HF2.out, hq, ← HXI.out]
            have e3 : f3 = p3 := by rw [← HF3.out, hq, ← HP3.out]
            have e4 : f4 = p4 := by rw [← HF4.out, hq, ← HP4.out]
            have e5 : f5 = p5 := by rw [← HF5.out, hq, ← HP5.out]
            have e6 : f6 = p6 := by rw [← HF6.out, hq, ← HP6.out]
            have en : fn = pn := by rw [← HFN.out, hq, ← HPN.out]
            have hrf := HR9.out.below HBA.out
            rw [hq] at hrf
            have hsam := HSAM.out p.is' _ _ wa hrf HKA.out
            unfold exV at hsam
            rw [HP3.out, HP4.out, HP5.out, HP6.out] at hsam
            have HSM := Lib.hid hsam
            obtain ⟨r0, r1, r2, r3, r4, r5, r6, r7⟩ := bx_cells8 XFA.out
            subst hz
            clear hq hrf hsam
            subst e3 e4 e5 e6 en
            subst g0 g1 g2
            subst e0 e1 e2
            go_wp2_with fail
            refine HSM.out.mono ?_
            rintro e wz ⟨rfl, hbz⟩
            have HBZ := Lib.hid hbz
            clear hbz
            go_wp2_with fail
            go_ret
            exact ⟨rfl, HWB.out _ (HB0A.out.trans (HBZ.out.mono HB0A.out.size))⟩
          · have g2' : (p2 == xi) = false := by simpa using g2
            have HNX := Lib.hid (HNHK.out (fun h => g2 (HTP.out.1 h.2).2))
            subst g0 g1
            clear g2
            go_wp2_with fail
            go_roundg (n - (j + 1))
            case measure => omega
            case rel => exact ⟨j + 1, by omega, by omega, by go_num, HNX, HBA⟩
        · have g1' : (p1 == xa) = false := by simpa using g1
          have HNX := Lib.hid (HNHK.out (fun h => g1 (HTP.out.1 h.2).1))
          subst g0
          clear g1
          go_wp2_with fail
          go_roundg (n - (j + 1))
          case measure => omega
          case rel => exact ⟨j + 1, by omega, by omega, by go_num, HNX, HBA⟩
      · have g0' : (p0 == rule) = false := by simpa using g0
        have HNX := Lib.hid (HNHK.out (fun h => g0 h.1))
        clear g0
        go_wp2_with fail
        go_roundg (n - (j + 1))
        case measure => omega
        case rel => exact ⟨j + 1, by omega, by omega, by go_num, HNX, HBA⟩
    · have hlt' : ¬ (j : Int) < (n : Int) := by omega
      obtain ⟨hq, hz⟩ := HFV.out _ _ (HMISS.out (fun k hk => HNH.out k hk (by have := HN.out; omega)))
      obtain rfl : f0 = 0 := by rw [← HF0.out, hq]; rfl
      obtain rfl : f1 = 0 := by rw [← HF1.out, hq]; rfl
      obtain rfl : f2 = 0 := by rw [← HF2.out, hq]; rfl
      obtain rfl : f3 = 0 := by rw [← HF3.out, hq]; rfl
      obtain rfl : f4 = 0 := by rw [← HF4.out, hq]; rfl
      obtain rfl : f5 = 0 := by rw [← HF5.out, hq]; rfl
      obtain rfl : f6 = 0 := by rw [← HF6.out, hq]; rfl
      obtain rfl : fn = 0 := by rw [← HFN.out, hq]; rfl
      have hrf := HR9.out.below HBJ.out
      rw [hq] at hrf
      have hsam := HSAM.out zeroE.is' _ (.slice none 0 0) wr hrf (rd_nilE _ _)
      have HSM : Hid (Calls Try.prog 9 #[.agg #[.int .i64 0, .int .i64 0, .int .i64 0, .int .i64 0, .slice a8 0 c8], .agg #[.int .i64 0, .int .i64 0, .int .i64 0, .int .i64 0, .slice none 0 0]] wr fun e w' => e = .returned (.bool true) ∧ Below wr.heap.size wr w') := hsam
      obtain ⟨r0, r1, r2, r3, r4, r5, r6, r7⟩ := bx_cells8 XFJ.out
      subst hz
      clear hq hrf hsam
      go_wp2_with fail
      refine HSM.out.mono ?_
      rintro e wz ⟨rfl, hbz⟩
      have HBZ := Lib.hid hbz
      clear hbz
      go_wp2_with fail
      go_ret
      exact ⟨rfl, HWB.out _ (HB9J.out.trans (HBZ.out.mono HB9J.out.size))⟩
end At
end Go.Proofs.Ytiapfogckbkkpaa
