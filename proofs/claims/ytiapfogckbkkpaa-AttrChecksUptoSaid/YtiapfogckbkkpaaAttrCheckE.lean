/- The contract of attr.Check. -/
import Derived.Test.YtiapfogckbkkpaaAttrCheckP
import Derived.Test.YtiapfogckbkkpaaRegA
namespace Go.Proofs.Ytiapfogckbkkpaa
open Go.RowKit
namespace At

theorem nn_true : ∀ {a b : Bool}, (!a || !b) = true → a = false ∨ b = false := by decide
theorem nn_false : ∀ {a b : Bool}, (!a || !b) = false → ¬ (a = false ∨ b = false) := by decide
set_option maxHeartbeats 8000000 in
set_option maxRecDepth 100000 in
theorem attrCheckE (g : Gram) (s : Sys) (ar aa ae : Option Addr) (cr ca ce : Nat) (w : World) (hok : ∀ q ∈ s.eqs, okEqK q) (hR : Rd AnyB w (.sl (g.rules.map Rule.d)) [.slice ar g.rules.length cr]) (hA : Rd AnyB w (.sl (s.attrs.map Attr.d)) [.slice aa s.attrs.length ca]) (hE : Rd AnyB w (.sl (s.eqs.map Eqn.d)) [.slice ae s.eqs.length ce]) :
    Calls Try.prog 4 #[.agg #[.int .i64 g.terms, .int .i64 g.nons, .int .i64 g.start, .slice ar g.rules.length cr], .agg #[.slice aa s.attrs.length ca, .slice ae s.eqs.length ce]] w (fun e w' => e = .returned (.int .i64 (checkS g s)) ∧ Below w.heap.size w w') := by
  have hr1 := hR.bounds.2
  have ha1 := hA.bounds.2
  have he1 := hE.bounds.2
  unfold maxLen at hr1 ha1 he1
  obtain ⟨hr1, hr2⟩ := hr1
  obtain ⟨ha1, ha2⟩ := ha1
  obtain ⟨he1, he2⟩ := he1
  obtain ⟨w0, HW0⟩ := nameIt ((w.alloc (.cells #[.int .i64 g.terms, .int .i64 g.nons, .int .i64 g.start, .slice ar g.rules.length cr] 24)).alloc (.cells #[.slice aa s.attrs.length ca, .slice ae s.eqs.length ce] 28))
  have HB0 : Hid (Below w.heap.size w w0) := by rw [← HW0.out]; exact ((Below.refl _ _).alloc (Nat.le_refl _) _).alloc (by simp) _
  have X1 : Hid (w0.heap[w.heap.size]? = some (.cells #[.int .i64 g.terms, .int .i64 g.nons, .int .i64 g.start, .slice ar g.rules.length cr] 24 (0, 0))) := by
    rw [← HW0.out]; exact bx_keep (bx_new _ _ _ rfl) ((Below.refl _ _).alloc (Nat.le_refl _) _)
  have X2 : Hid (w0.heap[w.heap.size + 1]? = some (.cells #[.slice aa s.attrs.length ca, .slice ae s.eqs.length ce] 28 (0, 0))) := by
    rw [← HW0.out]; exact bx_new _ _ _ (by simp)
  have HR := Lib.hid hR
  have HA := Lib.hid hA
  have HE := Lib.hid hE
  have HOK := Lib.hid hok
  have HSG := Lib.hid (@checkS_g g s)
  have HSS := Lib.hid (@checkS_sys g s)
  have HSA := Lib.hid (@sysErr_a g s)
  have HSL := Lib.hid (@sysErr_l g s)
  have HSE := Lib.hid (@sysErr_e g s)
  have HSN := Lib.hid (@sysErr_n g s)
  have HSZ := Lib.hid (@sysErr_z g s)
  have HZG := Lib.hid (@checkG_zero g)
  have HCE := Lib.hid (checkE g ar cr w0 (hR.below HB0.out))
  have HAE := Lib.hid (fun (W : World) (hb : Below w.heap.size w W) (hn : 1 ≤ g.nons ∧ g.nons ≤ 10) => attrsE g s.attrs hn ar aa ae g.rules.length cr ca s.eqs.length ce W (hA.below hb))
  have HDE := Lib.hid (fun (r : Rule) (x : Ref) (av : Option Addr) (cv : Nat) (W : World) (hb : Below w.heap.size w W) (h : Rd AnyB W (.sl (r.right.map Sym.d)) [.slice av r.right.length cv]) => definesE s.attrs r x aa ae av ca s.eqs.length ce cv W (hA.below hb) h)
  have HVE := Lib.hid (fun (r : Rule) (x : Expr) (v : Value) (av : Option Addr) (cv : Nat) (W : World) (hb : Below w.heap.size w W) (h : Rd AnyB W (.sl (r.right.map Sym.d)) [.slice av r.right.length cv]) (h2 : Rd AnyB W (.sl (x.args.map Expr.d)) [v]) => validE s.attrs r aa ae av ca s.eqs.length ce cv x.size x v W (Nat.le_refl _) (hA.below hb) h h2)
  have HSI := Lib.hid (fun (x : Expr) (v : Value) (W : World) (h : Rd AnyB W (.sl (x.args.map Expr.d)) [v]) => sizeE x.size x v W (Nat.le_refl _) h)
  obtain ⟨cs, HCS⟩ := nameIt (checkS g s)
  obtain ⟨cg, HCG⟩ := nameIt (checkG g)
  obtain ⟨ss, HSSS⟩ := nameIt (sysErr g s)
  obtain ⟨ass, HAS⟩ := nameIt (attrsErr g s.attrs)
  obtain ⟨tm, HTM⟩ := nameIt g.terms
  obtain ⟨no, HNO⟩ := nameIt g.nons
  obtain ⟨st, HST⟩ := nameIt g.start
  obtain ⟨m, HM⟩ := nameIt g.rules.length
  obtain ⟨al, HAL⟩ := nameIt s.attrs.length
  obtain ⟨n, HN⟩ := nameIt s.eqs.length
  have HM' := Lib.hid HM.out
  have HN' := Lib.hid HN.out
  have HAL' := Lib.hid HAL.out
  rw [HCS.out, HCG.out] at HSG
  rw [HCS.out, HCG.out, HSSS.out] at HSS
  rw [HSSS.out, HAS.out] at HSA
  rw [HSSS.out, HAS.out, HN.out] at HSL
  rw [HSSS.out, HAS.out, HN.out] at HSE
  rw [HSSS.out, HAS.out, HN.out] at HSN
  rw [HSSS.out, HAS.out, HN.out] at HSZ
  rw [HCG.out] at HZG
  rw [HTM.out, HNO.out, HST.out, HM.out, HCG.out] at HCE
  simp only [HTM.out, HNO.out, HST.out, HM.out, HAL.out, HN.out, HAS.out] at HAE
  simp only [HAL.out, HN.out] at HDE HVE
  rw [HTM.out, HNO.out, HST.out, HM.out, HAL.out, HN.out] at HW0
  rw [HTM.out, HNO.out, HST.out, HM.out] at X1
  rw [HAL.out, HN.out] at X2
  rw [HM.out] at HR hr1
  rw [HAL.out] at HA ha1
  rw [HN.out] at HE he1
  rw [HTM.out, HNO.out, HST.out, HM.out, HAL.out, HN.out, HCS.out]
  have hmk : ∀ W : World, (Instr.makeMap 47 none).run Try.prog W = .ok (.map (some W.heap.size)) (W.alloc (.map #[] 0)) := fun W => by
    simp [Instr.makeMap, run_underlying Try.underlying47]; try rfl
  obtain ⟨x0, x1, x2, x3⟩ := bx_cells4 X1.out
  obtain ⟨y0, y1⟩ := bx_cells2 X2.out
  clear hR hA hE hok
  go_enter Try.func4, Try.ntmps4
  go_upto_region 1 with fail
  rw [HW0.out]
  go_wp2_with fail
  refine HCE.out.mono ?_
  rintro e w1 ⟨rfl, hb1⟩
  have HB1 : Hid (Below w.heap.size w w1) := HB0.out.trans (hb1.mono HB0.out.size)
  have Y1 := Lib.hid (bx_keep X1.out hb1)
  have Y2 := Lib.hid (bx_keep X2.out hb1)
  clear x0 x1 x2 x3 y0 y1 hb1
  by_cases hz : cg = 0
  · have HZ := Lib.hid (HZG.out hz)
    have HZS := Lib.hid (HSS.out hz)
    subst hz
    obtain ⟨k0, k1, k2, k3⟩ := bx_cells4 Y1.out
    obtain ⟨l0, l1⟩ := bx_cells2 Y2.out
    go_upto_region 4 with fail
    go_wp2_with fail
    refine (HAE.out w1 HB1.out ⟨HNO.out ▸ HZ.out.1.2.2.1, HNO.out ▸ HZ.out.1.2.2.2.1⟩).mono ?_
    rintro e w2 ⟨rfl, hb2⟩
    have HB2 : Hid (Below w.heap.size w w2) := HB1.out.trans (hb2.mono HB1.out.size)
    have Z1 := Lib.hid (bx_keep Y1.out hb2)
    have Z2 := Lib.hid (bx_keep Y2.out hb2)
    clear k0 k1 k2 k3 l0 l1 hb2
    by_cases ha : ass = 0
    · have HASS := HAS
      subst ha
      obtain ⟨k0, k1, k2, k3⟩ := bx_cells4 Z1.out
      obtain ⟨l0, l1⟩ := bx_cells2 Z2.out
      by_cases hbig : 200 < n
      · have hbig' : (200 : Int) < (n : Int) := by omega
        have HF : Hid (cs = 2) := by show _ = _; rw [HZS.out]; exact HSL.out (by simp) hbig
        go_wp2_with fail
        go_ret
        exact ⟨by rw [HF.out]; rfl, HB2.out⟩
      · have hbig' : ¬ (200 : Int) < (n : Int) := by omega
        have HNB := Lib.hid hbig
        obtain ⟨mb, HMB⟩ := nameIt w2.heap.size
        obtain ⟨w3, HW3⟩ := nameIt (w2.alloc (.map #[] 0))
        have HI0 : Hid (CkI w mb #[.int .i64 tm, .int .i64 no, .int .i64 st, .slice ar m cr] #[.slice aa al ca, .slice ae n ce] (s.eqs.take 0) w3) := by
          have hb : Below w2.heap.size w2 w3 := by rw [← HW3.out]; exact (Below.refl _ _).alloc (Nat.le_refl _) _
          refine ⟨bx_keep Z1.out hb, bx_keep Z2.out hb, ⟨0, ?_, by simp⟩, HB2.out.trans (hb.mono HB2.out.size), ?_⟩
          · rw [← HW3.out]; exact SetM.start Try.prog 55 4 w2 HMB.out.symm (fun l => rfl)
          · rw [← HMB.out]; exact (Array.getElem?_eq_some_iff.1 Z2.out).1
        have HER0 : Hid (eqsFrom g s 0 s.eqs = eqsFrom g s 0 (s.eqs.drop 0)) := rfl
        have HEA := Lib.hid (fun (i : Nat) (h : i < s.eqs.length) => @eqsFrom_at g s i h)
        obtain ⟨er, HER⟩ := nameIt (eqsFrom g s 0 s.eqs)
        rw [HER.out] at HER0 HSE HSN HSZ
        go_upto_region 10 with fail
        rw [HMB.out, HW3.out]
        clear k0 k1 k2 k3 l0 l1 hmk
        obtain ⟨k0, k1, k2, k3⟩ := bx_cells4 HI0.out.b1
        obtain ⟨l0, l1⟩ := bx_cells2 HI0.out.b2
        go_wp2_with fail
        clear k0 k1 k2 k3 l0 l1
        go_loopg [34] n (fun gg v34 wr => ∃ i : Nat, i ≤ n ∧ n - i ≤ gg ∧ v34 = .int .i64 i ∧ Hid (er = eqsFrom g s i (s.eqs.drop i)) ∧ Hid (CkI w mb #[.int .i64 tm, .int .i64 no, .int .i64 st, .slice ar m cr] #[.slice aa al ca, .slice ae n ce] (s.eqs.take i) wr))
        case atStart => exact ⟨0, by omega, by omega, rfl, HER0, HI0⟩
        case round =>
          clear HI0 HER0
          obtain ⟨i, hi, hg, rfl, HEI, HI⟩ := hrel
          by_cases hlt : i < n
          · have hlt' : (i : Int) < (n : Int) := by omega
            have hltE : i < s.eqs.length := by rw [HN.out]; exact hlt
            obtain ⟨b, off, v, hae, -, hbl, c0, c1, c2, c3, c4, c5, c6, c7, hkid⟩ := Rd.eqn_at (HE.out.below HI.out.bel) hltE
            obtain ⟨av, cv, rfl, -, -⟩ := hkid.form
            rw [List.length_map] at c7 hkid
            have HATI := Lib.hid (HEA.out i hltE)
            have HOKQ := Lib.hid (HOK.out _ (List.getElem_mem hltE))
            have HTK : Hid (s.eqs.take (i + 1) = s.eqs.take i ++ [s.eqs[i]'hltE]) := List.take_succ_eq_append_getElem hltE
            obtain ⟨q, HQ⟩ := nameIt (s.eqs[i]'hltE)
            rw [HQ.out] at c0 c1 c2 c3 c4 c5 c6 c7 hkid HATI HOKQ HTK
            have HRET : Hid (∀ z, z ≠ 0 → eqErr g s i q = z → cs = z) := by
              intro z hz h
              have h1 : er = z := by rw [HEI.out, HATI.out, h, if_pos hz]
              rw [HZS.out, ← h1]
              exact HSE.out (by simp) HNB.out (by rw [h1]; exact hz)
            have HNEXT : Hid (eqErr g s i q = 0 → er = eqsFrom g s (i + 1) (s.eqs.drop (i + 1))) := by
              intro h
              rw [HEI.out, HATI.out, h, if_neg (by simp)]
            have HEIN := Lib.hid (fun (j : Nat) (hj : j < g.rules.length) (h : q.rule = (j : Int)) => eqErr_in (s := s) (i := i) hj h)
            have HEOUT : Hid (q.rule < 0 ∨ (m : Int) ≤ q.rule → eqErr g s i q = 1) := by
              intro h
              exact eqErr_out (by rw [HM.out]; exact h)
            have HLK := Lib.hid (fun (W : World) (h : CkI w mb #[.int .i64 tm, .int .i64 no, .int .i64 st, .slice ar m cr] #[.slice aa al ca, .slice ae n ce] (s.eqs.take i) W) => h.look (fun q hq => HOK.out q (List.mem_of_mem_take hq)) HOKQ.out.1 HOKQ.out.2)
            have HADD := Lib.hid (fun (W : World) (h : CkI w mb #[.int .i64 tm, .int .i64 no, .int .i64 st, .slice ar m cr] #[.slice aa al ca, .slice ae n ce] (s.eqs.take i) W) => h.add (by unfold maxLen; simp; omega) HOKQ.out)
            rw [← HTK.out] at HADD
            have hkk := hkid
            obtain ⟨w4, HW4⟩ := nameIt (wr.alloc (.cells #[.int .i64 q.rule, .int .i64 q.to'.at', .int .i64 q.to'.attr, .int .i64 q.is'.kind, .int .i64 q.is'.n, .int .i64 q.is'.ref.at', .int .i64 q.is'.ref.attr, .slice av q.is'.args.length cv] 41))
            have hb4 : Below wr.heap.size wr w4 := by rw [← HW4.out]; exact (Below.refl _ _).alloc (Nat.le_refl _) _
            have XQ : Hid (w4.heap[wr.heap.size]? = some (.cells #[.int .i64 q.rule, .int .i64 q.to'.at', .int .i64 q.to'.attr, .int .i64 q.is'.kind, .int .i64 q.is'.n, .int .i64 q.is'.ref.at', .int .i64 q.is'.ref.attr, .slice av q.is'.args.length cv] 41 (0, 0))) := by rw [← HW4.out]; exact bx_new _ _ _ rfl
            have HKID := Lib.hid (hkid.below hb4)
            have HSQ := Lib.hid (HSI.out q.is' _ w4 HKID.out)
            have HI4 := Lib.hid (HI.out.keep hb4)
            have HVQ := Lib.hid (fun (r : Rule) (av' : Option Addr) (cv' : Nat) (W : World) (hb : Below w4.heap.size w4 W) (h : Rd AnyB W (.sl (r.right.map Sym.d)) [.slice av' r.right.length cv']) => HVE.out r q.is' _ av' cv' W (HI4.out.bel.trans (hb.mono HI4.out.bel.size)) h (HKID.out.below hb))
            have HDQ := Lib.hid (fun (r : Rule) (av' : Option Addr) (cv' : Nat) (W : World) (hb : Below w4.heap.size w4 W) (h : Rd AnyB W (.sl (r.right.map Sym.d)) [.slice av' r.right.length cv']) => HDE.out r q.to' av' cv' W (HI4.out.bel.trans (hb.mono HI4.out.bel.size)) h)
            obtain ⟨qr, HQR⟩ := nameIt q.rule
            obtain ⟨t1, HT1⟩ := nameIt q.to'.at'
            obtain ⟨t2, HT2⟩ := nameIt q.to'.attr
            obtain ⟨e0, HE0⟩ := nameIt q.is'.kind
            obtain ⟨e1, HE1⟩ := nameIt q.is'.n
            obtain ⟨e2, HE2⟩ := nameIt q.is'.ref.at'
            obtain ⟨e3, HE3⟩ := nameIt q.is'.ref.attr
            obtain ⟨qn, HQN⟩ := nameIt q.is'.args.length
            obtain ⟨hd, HHD⟩ := nameIt (had (s.eqs.take i) q.rule q.to')
            simp only [HHD.out] at HEIN
            simp only [HHD.out] at HLK
            simp only [HQR.out] at HEIN HEOUT
            rw [HQR.out] at c0
            rw [HQR.out, HT1.out, HT2.out, HE0.out, HE1.out, HE2.out, HE3.out, HQN.out] at XQ HW4
            rw [HT1.out] at c1
            rw [HT2.out] at c2
            rw [HE0.out] at c3
            rw [HE1.out] at c4
            rw [HE2.out] at c5
            rw [HE3.out] at c6
            rw [HQN.out] at c7
            rw [HE0.out, HE1.out, HE2.out, HE3.out, HQN.out] at HSQ
            simp only [HE0.out, HE1.out, HE2.out, HE3.out, HQN.out] at HVQ
            simp only [HT1.out, HT2.out] at HDQ
            simp only [HQR.out, HT1.out, HT2.out] at HLK HADD
            subst hae
            obtain ⟨g0, g1, g2, g3⟩ := bx_cells4 HI4.out.b1
            obtain ⟨l0, l1⟩ := bx_cells2 HI4.out.b2
            obtain ⟨z0, z1, z2, z3, z4, z5, z6, z7⟩ := bx_cells8 XQ.out
            clear hb4 hkid hkk
            go_upto_region 13 with fail
            rw [HW4.out]
            clear c0 c1 c2 c3 c4 c5 c6 c7
            by_cases h1 : qr < 0
            · have h1' : decide (qr < 0) = true := by simpa using h1
              have HF : Hid (cs = 1) := HRET.out 1 (by decide) (HEOUT.out (.inl h1))
              clear h1
              go_wp2_with fail
              go_ret
              exact ⟨by rw [HF.out]; rfl, HI4.out.bel⟩
            · have h1' : decide (qr < 0) = false := by simpa using h1
              obtain ⟨j, hj⟩ : ∃ j : Nat, qr = (j : Int) := ⟨qr.toNat, by omega⟩
              subst hj
              by_cases h2 : m ≤ j
              · have h2' : decide ((m : Int) ≤ (j : Int)) = true := by simpa using h2
                have HF : Hid (cs = 1) := HRET.out 1 (by decide) (HEOUT.out (.inr (by omega)))
                clear h1
                go_wp2_with fail
                go_ret
                exact ⟨by rw [HF.out]; rfl, HI4.out.bel⟩
              · have h2' : decide ((m : Int) ≤ (j : Int)) = false := by simp; omega
                have hjm : j < m := by omega
                have hj1 : (j : Int) < (m : Int) := by omega
                have hj0 : (0 : Int) ≤ (j : Int) := by omega
                have hjR : j < g.rules.length := by rw [HM.out]; exact hjm
                have HEJ := Lib.hid (HEIN.out j hjR rfl)
                clear h1
                go_upto_region 15 with fail
                go_wp2_with fail
                refine HSQ.out.mono ?_
                rintro e w5 ⟨rfl, hb5⟩
                have HB5 := Lib.hid hb5
                obtain ⟨sz, HSZE⟩ := nameIt (min q.is'.size 31)
                rw [HSZE.out]
                have HI5 := Lib.hid (HI4.out.keep hb5)
                have XQ5 := Lib.hid (bx_keep XQ.out hb5)
                obtain ⟨b6, off6, vr6, hae6, -, hbl6, d0, d1, hkr6⟩ := (HR.out.below HI5.out.bel).rule_at hjR
                obtain ⟨ar6, cr6, rfl, -, -⟩ := hkr6.form
                rw [List.length_map] at d1 hkr6
                obtain ⟨ru, HRU⟩ := nameIt (g.rules[j]'hjR)
                rw [HRU.out] at d0 d1 hkr6 HEJ
                have HDR := Lib.hid (fun (W : World) (hb : Below w5.heap.size w5 W) => HDQ.out ru ar6 cr6 W (HB5.out.trans (hb.mono HB5.out.size)) (hkr6.below hb))
                have HVR := Lib.hid (fun (W : World) (hb : Below w5.heap.size w5 W) => HVQ.out ru ar6 cr6 W (HB5.out.trans (hb.mono HB5.out.size)) (hkr6.below hb))
                obtain ⟨lf, HLF⟩ := nameIt ru.left
                obtain ⟨rn, HRN⟩ := nameIt ru.right.length
                obtain ⟨df, HDF⟩ := nameIt (defs s.attrs ru q.to')
                obtain ⟨vl, HVL⟩ := nameIt (valid s.attrs ru q.is')
                rw [HDF.out, HVL.out] at HEJ
                rw [HLF.out] at d0
                rw [HRN.out] at d1
                simp only [HLF.out, HRN.out, HDF.out] at HDR
                simp only [HLF.out, HRN.out, HVL.out] at HVR
                clear g0 g1 g2 g3 l0 l1 z0 z1 z2 z3 z4 z5 z6 z7 hb5 hkr6
                by_cases hbs : 30 < sz
                · have hbs' : (30 : Int) < (sz : Int) := by omega
                  have HF : Hid (cs = 2) := HRET.out 2 (by decide) (by rw [HEJ.out, if_pos (by have := HSZE.out; omega)])
                  go_wp2_with fail
                  go_ret
                  exact ⟨by rw [HF.out]; rfl, HI5.out.bel⟩
                · have hbs' : ¬ (30 : Int) < (sz : Int) := by omega
                  have HEL : Hid (eqErr g s i q = if df = false ∨ vl = false then 3 else if hd then 6 else 0) := by
                    show _ = _
                    rw [HEJ.out, if_neg (by have := HSZE.out; omega)]
                  subst hae6
                  obtain ⟨g0, g1, g2, g3⟩ := bx_cells4 HI5.out.b1
                  obtain ⟨l0, l1⟩ := bx_cells2 HI5.out.b2
                  obtain ⟨z0, z1, z2, z3, z4, z5, z6, z7⟩ := bx_cells8 XQ5.out
                  have k0 := aft_cell g3
                  have k1 := aft_cell l0
                  have k2 := aft_cell l1
                  have k3 := aft_cell z0
                  have k4 := aft_cell z1
                  have k5 := aft_cell z2
                  have k6 := aft_cell z3
                  have k7 := aft_cell z4
                  have k8 := aft_cell z5
                  have k9 := aft_cell z6
                  have k10 := aft_cell z7
                  have k11 := aft_cell d0
                  have k12 := aft_cell d1
                  clear g0 g1 g2 g3 l0 l1 z0 z1 z2 z3 z4 z5 z6 z7 d0 d1
                  go_upto_region 17 with fail
                  go_cut [55] (fun t55 wx => t55 = .bool (!df || !vl) ∧ Hid (Below w5.heap.size w5 wx))
                  case first =>
                    cases df with
                    | false =>
                      refine wp_region_after (by kernel_rfl) (by kernel_rfl) ?_
                      repeat (go_big_quiet_step (first | exact Calls.after (HDR.out _ (Aft.bel _)) | exact Calls.after (HVR.out _ (Aft.bel _))))
                      refine wpQuiet_nil ?_
                      rintro _ ⟨⟨w7, hb7⟩, rfl⟩
                      have HB7 := Lib.hid hb7
                      clear hb7 k0 k1 k2 k3 k4 k5 k6 k7 k8 k9 k10 k11 k12
                      go_wp2_with fail
                      go_meet
                      exact ⟨rfl, HB7⟩
                    | true =>
                      refine wp_region_after (by kernel_rfl) (by kernel_rfl) ?_
                      repeat (go_big_quiet_step (first | exact Calls.after (HDR.out _ (Aft.bel _)) | exact Calls.after (HVR.out _ (Aft.bel _))))
                      refine wpQuiet_nil ?_
                      rintro _ ⟨⟨w7, hb7⟩, rfl⟩
                      have HB7 := Lib.hid hb7
                      clear hb7 k0 k1 k2 k3 k4 k5 k6 k7 k8 k9 k10 k11 k12
                      go_wp2_with fail
                      go_meet
                      exact ⟨rfl, HB7⟩
                  case rest =>
                    obtain ⟨rfl, HB7⟩ := hcut
                    obtain ⟨w7, rfl⟩ : ∃ ww : World, ww = wc := ⟨_, rfl⟩
                    clear k0 k1 k2 k3 k4 k5 k6 k7 k8 k9 k10 k11 k12
                    have HI7 := Lib.hid (HI5.out.keep HB7.out)
                    have XQ7 := Lib.hid (bx_keep XQ5.out HB7.out)
                    obtain ⟨dv, HDV⟩ := nameIt (!df || !vl)
                    rw [HDV.out]
                    cases dv with
                    | true =>
                      have HF : Hid (cs = 3) := HRET.out 3 (by decide) (by rw [HEL.out, if_pos (nn_true HDV.out)])
                      go_wp2_with fail
                      go_ret
                      exact ⟨by rw [HF.out]; rfl, HI7.out.bel⟩
                    | false =>
                      have HEM : Hid (eqErr g s i q = if hd then 6 else 0) := by
                        show _ = _
                        rw [HEL.out, if_neg (nn_false HDV.out)]
                      obtain ⟨z0, z1, z2, z3, z4, z5, z6, z7⟩ := bx_cells8 XQ7.out
                      have hlk := HLK.out w7 HI7.out
                      cases hd with
                      | true =>
                        have HF : Hid (cs = 6) := HRET.out 6 (by decide) (by rw [HEM.out]; rfl)
                        go_wp2_with fail
                        go_ret
                        exact ⟨by rw [HF.out]; rfl, HI7.out.bel⟩
                      | false =>
                        have HF := Lib.hid (HNEXT.out (by rw [HEM.out]; rfl))
                        obtain ⟨w8, hup, hi8⟩ := HADD.out w7 HI7.out
                        have HI8 := Lib.hid hi8
                        clear hi8
                        go_wp2_with fail
                        go_roundg (n - (i + 1))
                        case measure => omega
                        case rel => exact ⟨i + 1, by omega, by omega, by go_num, HF, HI8⟩
          · have hlt' : ¬ (i : Int) < (n : Int) := by omega
            have hin : i = n := by omega
            have HEZ : Hid (er = 0) := by
              show _ = _
              rw [HEI.out, List.drop_of_length_le (by rw [HN.out]; omega)]
              rfl
            have hie := HI.out
            rw [List.take_of_length_le (by rw [HN.out]; omega)] at hie
            have HIE := Lib.hid hie
            have HFZ := Lib.hid (fun h => HZS.out.trans (HSZ.out (by simp) HNB.out HEZ.out h))
            have HFN := Lib.hid (fun h => HZS.out.trans (HSN.out (by simp) HNB.out HEZ.out h))
            have HN0 := Lib.hid (noL_start g s)
            have HLKE := Lib.hid (fun (W : World) (h : CkI w mb #[.int .i64 tm, .int .i64 no, .int .i64 st, .slice ar m cr] #[.slice aa al ca, .slice ae n ce] s.eqs W) (r : Int) (x : Ref) (h1 : i64 r) (h2 : okRefI x) => h.look HOK.out h1 h2)
            have HI' := HI
            obtain ⟨g0, g1, g2, g3⟩ := bx_cells4 HIE.out.b1
            clear hie HI'
            go_wp2_with fail
            clear g0 g1 g2 g3
            go_loopg [98] m (fun gg v98 wr => ∃ i : Nat, i ≤ m ∧ m - i ≤ gg ∧ v98 = .int .i64 i ∧ Hid (NoL g s i 0 0) ∧ Hid (CkI w mb #[.int .i64 tm, .int .i64 no, .int .i64 st, .slice ar m cr] #[.slice aa al ca, .slice ae n ce] s.eqs wr))
            case atStart => exact ⟨0, by omega, by omega, rfl, HN0, HIE⟩
            case round =>
              clear HN0 HIE HI HEI
              obtain ⟨wb, rfl⟩ : ∃ ww : World, ww = wr := ⟨_, rfl⟩
              obtain ⟨i, hi, hg, rfl, HNL, HI⟩ := hrel
              by_cases him : i < m
              · have him' : (i : Int) < (m : Int) := by omega
                have hiR : i < g.rules.length := by rw [HM.out]; exact him
                obtain ⟨b6, off6, vr6, hae6, -, hbl6, d0, d1, hkr6⟩ := (HR.out.below HI.out.bel).rule_at hiR
                obtain ⟨ar6, cr6, rfl, -, -⟩ := hkr6.form
                rw [List.length_map] at d1 hkr6
                have HNK := Lib.hid (fun (a k : Nat) (h : NoL g s i a k) => h.k hiR)
                have HNA := Lib.hid (fun (a k : Nat) (h : NoL g s i a k) => h.a hiR)
                have HNI := Lib.hid (fun (a : Nat) (h : NoL g s i a 0) => h.i)
                have HLAK : Hid (∀ a k : Nat, k < g.rules[i].right.length + 1 → a < al → lacksAt s i g.rules[i] k a = true → lacks g s) := fun a k h1 h2 h3 => ⟨i, k, a, hiR, h1, by rw [HAL.out]; exact h2, h3⟩
                obtain ⟨ru, HRU⟩ := nameIt (g.rules[i]'hiR)
                simp only [HRU.out] at HNK HNA HLAK
                rw [HRU.out] at d0 d1 hkr6
                obtain ⟨w4, HW4⟩ := nameIt (wb.alloc (.cells #[.int .i64 ru.left, .slice ar6 ru.right.length cr6] 52))
                have hb4 : Below wb.heap.size wb w4 := by rw [← HW4.out]; exact (Below.refl _ _).alloc (Nat.le_refl _) _
                have XR : Hid (w4.heap[wb.heap.size]? = some (.cells #[.int .i64 ru.left, .slice ar6 ru.right.length cr6] 52 (0, 0))) := by rw [← HW4.out]; exact bx_new _ _ _ rfl
                have HDX := Lib.hid (fun (x : Ref) (W : World) (hb : Below w4.heap.size w4 W) => HDE.out ru x ar6 cr6 W ((HI.out.bel.trans (hb4.mono HI.out.bel.size)).trans (hb.mono (HI.out.bel.trans (hb4.mono HI.out.bel.size)).size)) ((hkr6.below hb4).below hb))
                have HI4 := Lib.hid (HI.out.keep hb4)
                have hrn := (HZ.out.2.2 _ (List.getElem_mem hiR)).2.2.1
                rw [HRU.out] at hrn
                obtain ⟨lf, HLF⟩ := nameIt ru.left
                obtain ⟨rn, HRN⟩ := nameIt ru.right.length
                rw [HLF.out] at d0 HW4 XR
                rw [HRN.out] at d1 HW4 XR hrn
                simp only [HLF.out, HRN.out] at HDX
                simp only [HRN.out] at HNA HLAK
                subst hae6
                have HB4 := Lib.hid (Below.refl w4.heap.size w4)
                clear hb4 hkr6
                go_upto_region 26 with fail
                rw [HW4.out]
                clear d0 d1
                obtain ⟨l0, l1⟩ := bx_cells2 HI4.out.b2
                go_wp2_with fail
                clear l0 l1
                go_loopg [106] al (fun gg v106 wr => ∃ a : Nat, a ≤ al ∧ al - a ≤ gg ∧ v106 = .int .i64 a ∧ Hid (NoL g s i a 0) ∧ Hid (CkI w mb #[.int .i64 tm, .int .i64 no, .int .i64 st, .slice (some ⟨b6, off6, none⟩) m cr] #[.slice aa al ca, .slice ae n ce] s.eqs wr) ∧ Hid (Below w4.heap.size w4 wr))
                case atStart => exact ⟨0, by omega, by omega, rfl, HNL, HI4, HB4⟩
                case round =>
                  obtain ⟨wd, rfl⟩ : ∃ ww : World, ww = wr := ⟨_, rfl⟩
                  clear HI4 HB4 HNL
                  obtain ⟨a, ha, hga, rfl, HNL, HIA, HBA⟩ := hrel
                  by_cases haa : a < al
                  · have haa' : (a : Int) < (al : Int) := by omega
                    have XRA := Lib.hid (bx_keep XR.out HBA.out)
                    obtain ⟨r0, r1⟩ := bx_cells2 XRA.out
                    go_wp2_with fail
                    clear r0 r1
                    go_loopg [113] (rn + 1) (fun gg v113 wr => ∃ k : Nat, k ≤ rn + 1 ∧ rn + 1 - k ≤ gg ∧ v113 = .int .i64 k ∧ Hid (NoL g s i a k) ∧ Hid (CkI w mb #[.int .i64 tm, .int .i64 no, .int .i64 st, .slice (some ⟨b6, off6, none⟩) m cr] #[.slice aa al ca, .slice ae n ce] s.eqs wr) ∧ Hid (Below w4.heap.size w4 wr))
                    case atStart => exact ⟨0, by omega, by omega, rfl, HNL, HIA, HBA⟩
                    case round =>
                      obtain ⟨we, rfl⟩ : ∃ ww : World, ww = wr := ⟨_, rfl⟩
                      clear HIA HBA HNL XRA
                      obtain ⟨k, hk, hgk, rfl, HNL, HIK, HBK⟩ := hrel
                      by_cases hkr : k < rn + 1
                      · have hkr' : (k : Int) < (rn : Int) + 1 := by omega
                        obtain ⟨w5, HW5⟩ := nameIt (we.alloc (.cells #[.int .i64 (k : Int), .int .i64 (a : Int)] 30))
                        have hb5 : Below we.heap.size we w5 := by rw [← HW5.out]; exact (Below.refl _ _).alloc (Nat.le_refl _) _
                        have XF : Hid (w5.heap[we.heap.size]? = some (.cells #[.int .i64 (k : Int), .int .i64 (a : Int)] 30 (0, 0))) := by rw [← HW5.out]; exact bx_new _ _ _ rfl
                        have HI5 := Lib.hid (HIK.out.keep hb5)
                        have HB5 : Hid (Below w4.heap.size w4 w5) := HBK.out.trans (hb5.mono HBK.out.size)
                        have XR5 := Lib.hid (bx_keep XR.out HB5.out)
                        have hdx := HDX.out ⟨k, a⟩ w5 HB5.out
                        have hok : okRefI ⟨(k : Int), (a : Int)⟩ := ⟨by unfold i64; simp only; omega, by unfold i64; simp only; omega⟩
                        have hii : i64 (i : Int) := by unfold i64; omega
                        have HLW := Lib.hid (fun (W : World) (h : CkI w mb #[.int .i64 tm, .int .i64 no, .int .i64 st, .slice (some ⟨b6, off6, none⟩) m cr] #[.slice aa al ca, .slice ae n ce] s.eqs W) => HLKE.out W h (i : Int) ⟨k, a⟩ hii hok)
                        have HLA : Hid (lacksAt s i ru k a = (defs s.attrs ru ⟨k, a⟩ && !had s.eqs i ⟨k, a⟩)) := rfl
                        have HLB := Lib.hid (HLAK.out a k hkr haa)
                        have HNN := Lib.hid (fun h => HNK.out a k HNL.out h)
                        obtain ⟨dd, HDD⟩ := nameIt (defs s.attrs ru ⟨k, a⟩)
                        obtain ⟨hh, HHH⟩ := nameIt (had s.eqs i ⟨k, a⟩)
                        obtain ⟨la, HLAA⟩ := nameIt (lacksAt s i ru k a)
                        rw [HDD.out, HHH.out, HLAA.out] at HLA
                        rw [HLAA.out] at HLB
                        simp only [HLAA.out] at HNN
                        rw [HDD.out] at hdx
                        simp only [HHH.out] at HLW
                        have HDC := Lib.hid hdx
                        obtain ⟨l0, l1⟩ := bx_cells2 HI5.out.b2
                        obtain ⟨r0, r1⟩ := bx_cells2 XR5.out
                        obtain ⟨f0, f1⟩ := bx_cells2 XF.out
                        clear hb5 hdx hok hii
                        go_upto_region 33 with fail
                        rw [HW5.out]
                        go_wp2_with fail
                        refine HDC.out.mono ?_
                        rintro e w6 ⟨rfl, hb6⟩
                        have HI6 := Lib.hid (HI5.out.keep hb6)
                        have HB6 : Hid (Below w4.heap.size w4 w6) := HB5.out.trans (hb6.mono HB5.out.size)
                        obtain ⟨f2, f3⟩ := bx_cells2 (bx_keep XF.out hb6)
                        have hlk := HLW.out w6 HI6.out
                        clear l0 l1 r0 r1 f0 f1 hb6
                        cases dd with
                        | false =>
                          have HNX := Lib.hid (HNN.out HLA.out)
                          go_wp2_with fail
                          go_roundg (rn + 1 - (k + 1))
                          case measure => omega
                          case rel => exact ⟨k + 1, by omega, by omega, by go_num, HNX, HI6, HB6⟩
                        | true =>
                          cases hh with
                          | true =>
                            have HNX := Lib.hid (HNN.out HLA.out)
                            go_wp2_with fail
                            go_roundg (rn + 1 - (k + 1))
                            case measure => omega
                            case rel => exact ⟨k + 1, by omega, by omega, by go_num, HNX, HI6, HB6⟩
                          | false =>
                            have HF : Hid (cs = 5) := HFN.out (HLB.out HLA.out)
                            go_wp2_with fail
                            go_ret
                            exact ⟨by rw [HF.out]; rfl, HI6.out.bel⟩
                      · have hkr' : ¬ (k : Int) < (rn : Int) + 1 := by omega
                        have HNN := Lib.hid (HNA.out a k HNL.out (by omega))
                        go_wp2_with fail
                        go_roundg (al - (a + 1))
                        case measure => omega
                        case rel => exact ⟨a + 1, by omega, by omega, by go_num, HNN, HIK, HBK⟩
                  · have haa' : ¬ (a : Int) < (al : Int) := by omega
                    have HNN := Lib.hid (HNI.out a HNL.out (by rw [HAL.out]; omega))
                    go_wp2_with fail
                    go_roundg (m - (i + 1))
                    case measure => omega
                    case rel => exact ⟨i + 1, by omega, by omega, by go_num, HNN, HIA⟩
              · have him' : ¬ (i : Int) < (m : Int) := by omega
                have HF : Hid (cs = 0) := HFZ.out (HNL.out.fin (by rw [HM.out]; omega))
                go_wp2_with fail
                go_ret
                exact ⟨by rw [HF.out]; rfl, HI.out.bel⟩
    · have hab : (ass != 0) = true := by simpa using ha
      have HF : Hid (cs = ass) := by show _ = _; rw [HZS.out]; exact HSA.out ha
      clear ha
      go_wp2_with fail
      go_ret
      exact ⟨by rw [HF.out]; rfl, HB2.out⟩
  · have hzb : (cg != 0) = true := by simpa using hz
    have HF := Lib.hid (HSG.out hz)
    clear hz
    go_wp2_with fail
    go_ret
    exact ⟨by rw [HF.out]; rfl, HB1.out⟩
end At
end Go.Proofs.Ytiapfogckbkkpaa
