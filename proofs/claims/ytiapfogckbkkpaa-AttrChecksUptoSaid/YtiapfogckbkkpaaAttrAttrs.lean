/- The contract of attr.attrs. -/
import Derived.Test.YtiapfogckbkkpaaAttrValid
import Derived.Test.YtiapfogckbkkpaaVrow
namespace Go.Proofs.Ytiapfogckbkkpaa
open Go.RowKit
namespace At

theorem cntA_step {al : List Attr} {i : Nat} (h : i < al.length) (n : Int) : cntA (al.take (i + 1)) n = if n = al[i].non then cntA (al.take i) n + 1 else cntA (al.take i) n := by
  unfold cntA
  rw [List.take_succ_eq_append_getElem h, List.filter_append, List.length_append]
  by_cases e : n = al[i].non
  · rw [if_pos e]; simp [e]
  · rw [if_neg e]; simp [show ¬ al[i].non = n from fun h => e h.symm]
theorem cntA_le (al : List Attr) (i : Nat) (n : Int) : cntA (al.take i) n ≤ i := by
  unfold cntA
  have h1 := List.length_filter_le (fun a : Attr => decide (a.non = n)) (al.take i)
  have h2 := List.length_take_le i al
  omega
/-- the rounds -/
structure AtI (w : World) (bc N : Nat) (G S : Array Value) (al : List Attr) (i : Nat) (wr : World) : Prop where
  row : Vrow 3 bc N (fun k => .int .i64 (cntA (al.take i) (k : Int) : Nat)) wr
  b1 : wr.heap[w.heap.size]? = some (.cells G 24 (0, 0))
  b2 : wr.heap[w.heap.size + 1]? = some (.cells S 28 (0, 0))
  bel : Below w.heap.size w wr
theorem AtI.keep {w : World} {bc N : Nat} {G S : Array Value} {al : List Attr} {i : Nat} {wr w' : World} (h : AtI w bc N G S al i wr) (hb : Below wr.heap.size wr w') : AtI w bc N G S al i w' := ⟨h.row.keep hb, bx_keep h.b1 hb, bx_keep h.b2 hb, h.bel.trans (hb.mono h.bel.size)⟩
theorem AtI.step {w : World} {bc N : Nat} {G S : Array Value} {al : List Attr} {i : Nat} {wr : World} (h : AtI w bc N G S al i wr) (hbc : bc = w.heap.size + 1 + 1) (hi : i < al.length) {k : Nat} (hk : k < N) (hn : al[i].non = (k : Int)) {z : Int} (hz : z = (cntA (al.take i) (k : Int) : Nat) + 1) :
    AtI w bc N G S al (i + 1) (wr.setCell ⟨bc, k, none⟩ (.int .i64 z)) := by
  subst hz
  refine ⟨h.row.set hk (fun j _ => ?_), bx_other h.b1 (by omega) _ _, bx_other h.b2 (by omega) _ _, h.bel.setCell (by show w.heap.size ≤ bc; omega) _⟩
  rw [cntA_step hi, hn]
  by_cases e : j = k
  · subst e; simp
  · rw [if_neg (by omega), if_neg e]

set_option maxHeartbeats 4000000 in
set_option maxRecDepth 100000 in
theorem attrsE (g : Gram) (al : List Attr) (hg : 1 ≤ g.nons ∧ g.nons ≤ 10) (ar aa ae : Option Addr) (nr cr ca ne ce : Nat) (w : World) (hA : Rd AnyB w (.sl (al.map Attr.d)) [.slice aa al.length ca]) :
    Calls Try.prog 11 #[.agg #[.int .i64 g.terms, .int .i64 g.nons, .int .i64 g.start, .slice ar nr cr], .agg #[.slice aa al.length ca, .slice ae ne ce]] w (fun e w' => e = .returned (.int .i64 (attrsErr g al)) ∧ Below w.heap.size w w') := by
  have ha1 := hA.bounds.2
  unfold maxLen at ha1
  obtain ⟨ha1, ha2⟩ := ha1
  obtain ⟨hg1, hg2⟩ := hg
  obtain ⟨N, hN⟩ : ∃ N : Nat, g.nons = (N : Int) := ⟨g.nons.toNat, by omega⟩
  have hN1 : 1 ≤ N := by omega
  have hN2 : N ≤ 10 := by omega
  obtain ⟨w0, HW0⟩ := nameIt ((w.alloc (.cells #[.int .i64 g.terms, .int .i64 g.nons, .int .i64 g.start, .slice ar nr cr] 24)).alloc (.cells #[.slice aa al.length ca, .slice ae ne ce] 28))
  have HB0 : Hid (Below w.heap.size w w0) := by rw [← HW0.out]; exact ((Below.refl _ _).alloc (Nat.le_refl _) _).alloc (by simp) _
  have hs0 : w0.heap.size = w.heap.size + 1 + 1 := by rw [← HW0.out]; simp
  obtain ⟨w1, HW1⟩ := nameIt (w0.alloc (.cells (madeCells #[.int .i64 0] N) 3))
  have hb1 : Below w0.heap.size w0 w1 := by rw [← HW1.out]; exact (Below.refl _ _).alloc (Nat.le_refl _) _
  have hx1 : w0.heap[w.heap.size]? = some (.cells #[.int .i64 g.terms, .int .i64 g.nons, .int .i64 g.start, .slice ar nr cr] 24 (0, 0)) := by
    rw [← HW0.out]; exact bx_keep (bx_new _ _ _ rfl) ((Below.refl _ _).alloc (Nat.le_refl _) _)
  have hx2 : w0.heap[w.heap.size + 1]? = some (.cells #[.slice aa al.length ca, .slice ae ne ce] 28 (0, 0)) := by
    rw [← HW0.out]; exact bx_new _ _ _ (by simp)
  obtain ⟨bc, HBC⟩ : ∃ bc : Nat, Hid (w.heap.size + 1 + 1 = bc) := ⟨_, rfl⟩
  have hbc := HBC.out
  have HI0 : Hid (AtI w bc N #[.int .i64 g.terms, .int .i64 g.nons, .int .i64 g.start, .slice ar nr cr] #[.slice aa al.length ca, .slice ae ne ce] al 0 w1) := by
    refine ⟨?_, bx_keep hx1 hb1, bx_keep hx2 hb1, HB0.out.trans (hb1.mono HB0.out.size)⟩
    rw [← HW1.out]
    exact (vrow_new w0 3 (.int .i64 0) N (by omega)).eq (fun k _ => by simp [cntA])
  have HA := Lib.hid hA
  have hmk : ∀ W : World, (Instr.makeSlice 68 (.int .i64 (N : Int)) (.int .i64 (N : Int))).run Try.prog W = .ok (.slice (some ⟨W.heap.size, 0, none⟩) N N) (W.alloc (.cells (madeCells #[.int .i64 0] N) 3)) := fun W => by
    have := run_make_row' (P := Try.prog) 68 3 (.int .i64 0) 8 Try.underlying68 (by kernel_rfl) rfl .i64 .i64 N (by omega) (by omega) W
    simpa using this
  have HER : Hid (attrsErr g al = attrsFrom g al 0 (al.drop 0)) := rfl
  obtain ⟨er, HERR⟩ := nameIt (attrsErr g al)
  have HAT := Lib.hid (fun (i : Nat) (h : i < al.length) => @attrsFrom_at g al i h)
  obtain ⟨st, HST⟩ := nameIt g.start
  have HBAD := Lib.hid (fun (i : Nat) (h : i < al.length) => show attrErr g al i al[i] = if al[i].non < 0 ∨ (N : Int) ≤ al[i].non then 1 else if al[i].inh ∧ al[i].non = st then 3 else if 3 < cntA (al.take (i + 1)) al[i].non then 2 else 0 by unfold attrErr; rw [hN, HST.out])
  rw [HERR.out] at HER
  rw [HERR.out]
  rw [HST.out, hN] at HW0 HI0 ⊢
  obtain ⟨tm, HTM⟩ := nameIt g.terms
  rw [HTM.out] at HW0 HI0 ⊢
  obtain ⟨n, HNN⟩ := nameIt al.length
  obtain ⟨x0, x1, x2, x3⟩ := bx_cells4 (hx1)
  obtain ⟨y0, y1⟩ := bx_cells2 (hx2)
  rw [hN] at x1
  rw [HST.out] at x2
  rw [HTM.out] at x0
  rw [HNN.out] at y0 HW0 HI0 ha1 HA ⊢
  have HNN' := HNN
  clear hA hx1 hx2 hb1 hbc
  go_enter Try.func11, Try.ntmps11
  go_upto_region 1 with fail
  rw [HW0.out]
  go_upto_region 2 with fail
  rw [HW1.out]
  rw [HBC.out]
  obtain ⟨k0, k1, k2, k3⟩ := bx_cells4 HI0.out.b1
  obtain ⟨l0, l1⟩ := bx_cells2 HI0.out.b2
  clear x0 x1 x2 x3 y0 y1 hmk
  go_wp2_with fail
  clear k0 k1 k2 k3 l0 l1
  go_loopg [14] n (fun gg v14 wr => ∃ i : Nat, i ≤ n ∧ n - i ≤ gg ∧ v14 = .int .i64 i ∧ Hid (er = attrsFrom g al i (al.drop i)) ∧ Hid (AtI w bc N #[.int .i64 tm, .int .i64 N, .int .i64 st, .slice ar nr cr] #[.slice aa n ca, .slice ae ne ce] al i wr))
  case atStart => exact ⟨0, by omega, by omega, rfl, HER, HI0⟩
  case round =>
    clear HI0 HER
    obtain ⟨i, hi, hg, rfl, HER, HI⟩ := hrel
    by_cases hlt : i < n
    · have hlt' : (i : Int) < (n : Int) := by omega
      have hlt2 : i < al.length := by rw [HNN.out]; exact hlt
      obtain ⟨b, off, hae, -, hbl, c0, c1⟩ := Rd.attr_at (HA.out.below HI.out.bel) hlt2
      have HBI := Lib.hid (HBAD.out i hlt2)
      have HATI := Lib.hid (HAT.out i hlt2)
      have HSTEP := Lib.hid (fun (W : World) (h : AtI w bc N #[.int .i64 tm, .int .i64 N, .int .i64 st, .slice ar nr cr] #[.slice aa n ca, .slice ae ne ce] al i W) (k : Nat) (hk : k < N) (hn : al[i].non = (k : Int)) (z : Int) (hz : z = (cntA (al.take i) (k : Int) : Nat) + 1) => h.step HBC.out.symm hlt2 hk hn hz)
      have HCS := Lib.hid (cntA_step hlt2 al[i].non)
      have HCL := Lib.hid (cntA_le al i al[i].non)
      rw [if_pos rfl] at HCS
      obtain ⟨ai, HAI⟩ := nameIt (al[i]'hlt2)
      rw [HAI.out] at c0 c1 HBI HATI HSTEP HCS HCL
      obtain ⟨non, HNON⟩ := nameIt ai.non
      obtain ⟨inh, HINH⟩ := nameIt ai.inh
      rw [HNON.out] at c0 HBI HSTEP HCS HCL
      rw [HINH.out] at c1 HBI
      obtain ⟨ct, HCT⟩ := nameIt (cntA (al.take i) non)
      rw [HCT.out] at HCS HCL
      rw [HCS.out] at HBI
      have hctl := HCL.out
      obtain ⟨w2, HW2⟩ := nameIt (wr.alloc (.cells #[.int .i64 non, .bool inh] 36))
      have hb2 : Below wr.heap.size wr w2 := by rw [← HW2.out]; exact (Below.refl _ _).alloc (Nat.le_refl _) _
      have X3 : Hid (w2.heap[wr.heap.size]? = some (.cells #[.int .i64 non, .bool inh] 36 (0, 0))) := by rw [← HW2.out]; exact bx_new _ _ _ rfl
      have HI2 := Lib.hid (HI.out.keep hb2)
      have hbcl := HI.out.row.lt
      obtain ⟨k0, k1, k2, k3⟩ := bx_cells4 HI2.out.b1
      obtain ⟨l0, l1⟩ := bx_cells2 HI2.out.b2
      obtain ⟨z0, z1⟩ := bx_cells2 X3.out
      have HRET : Hid (∀ z, z ≠ 0 → attrErr g al i ai = z → er = z) := by
        intro z hz h
        rw [HER.out, HATI.out, h, if_pos hz]
      have HNEXT : Hid (attrErr g al i ai = 0 → er = attrsFrom g al (i + 1) (al.drop (i + 1))) := by
        intro h
        rw [HER.out, HATI.out, h, if_neg (by simp)]
      subst hae
      clear hb2
      go_upto_region 5 with fail
      rw [HW2.out]
      clear c0 c1
      by_cases h1 : non < 0
      · have h1' : decide (non < 0) = true := by simpa using h1
        have HE : Hid (er = 1) := HRET.out 1 (by decide) (by rw [HBI.out, if_pos (.inl h1)])
        clear h1
        go_wp2_with fail
        go_ret
        exact ⟨by rw [HE.out]; rfl, HI2.out.bel⟩
      · have h1' : decide (non < 0) = false := by simpa using h1
        obtain ⟨k, hk⟩ : ∃ k : Nat, non = (k : Int) := ⟨non.toNat, by omega⟩
        subst hk
        by_cases h2 : N ≤ k
        · have h2' : decide ((N : Int) ≤ (k : Int)) = true := by simpa using h2
          have HE : Hid (er = 1) := HRET.out 1 (by decide) (by rw [HBI.out, if_pos (.inr (by omega))])
          clear h1
          go_wp2_with fail
          go_ret
          exact ⟨by rw [HE.out]; rfl, HI2.out.bel⟩
        · have h2' : decide ((N : Int) ≤ (k : Int)) = false := by simp; omega
          have hkN : k < N := by omega
          have hkN' : (k : Int) < (N : Int) := by omega
          have hk0 : (0 : Int) ≤ (k : Int) := by omega
          have HBJ : Hid (attrErr g al i ai = if inh ∧ (k : Int) = st then 3 else if 3 < ct + 1 then 2 else 0) := by
            show _ = _
            rw [HBI.out, if_neg (by omega)]
          by_cases h3 : inh = true ∧ (k : Int) = st
          · have HE : Hid (er = 3) := HRET.out 3 (by decide) (by rw [HBJ.out, if_pos h3])
            obtain ⟨h3, h4⟩ := h3
            subst h3 h4
            clear h1
            go_wp2_with fail
            go_ret
            exact ⟨by rw [HE.out]; rfl, HI2.out.bel⟩
          · have HBK : Hid (attrErr g al i ai = if 3 < ct + 1 then 2 else 0) := by
              show _ = _
              rw [HBJ.out, if_neg h3]
            have hgo : ∀ (Q : Prop), Q → Q := fun _ h => h
            have c2 := HI2.out.row.cell hkN
            have c3 := HI2.out.row.free k
            rw [HCT.out] at c2
            have HI3 := Lib.hid (HSTEP.out _ HI2.out k hkN rfl ((ct : Int) + 1) (by rw [HCT.out]))
            obtain ⟨w3, HW3⟩ := nameIt (w2.setCell ⟨bc, k, none⟩ (.int .i64 ((ct : Int) + 1)))
            rw [HW3.out] at HI3
            have X4 : Hid (w3.heap[wr.heap.size]? = some (.cells #[.int .i64 (k : Int), .bool inh] 36 (0, 0))) := by rw [← HW3.out]; exact bx_other X3.out (by have := HBC.out; omega) _ _
            have c4 : w3.cell? ⟨bc, k, none⟩ = some (.int .i64 ((ct : Int) + 1)) := by
              have h := HI3.out.row.cell hkN
              rw [h]
              have h5 := HCS.out
              rw [h5]
              rfl
            obtain ⟨m0, m1⟩ := bx_cells2 X4.out
            have HX4 := HBK
            cases inh with
            | false =>
              clear h3
              go_upto_region 10 with fail
              rw [HW3.out]
              clear z0 z1 k0 k1 k2 k3 l0 l1 c2 c3
              by_cases h5 : 3 < ct + 1
              · have h5' : (3 : Int) < (ct : Int) + 1 := by omega
                have HE : Hid (er = 2) := HRET.out 2 (by decide) (by rw [HBK.out, if_pos h5])
                go_wp2_with fail
                go_ret
                exact ⟨by rw [HE.out]; rfl, HI3.out.bel⟩
              · have h5' : ¬ (3 : Int) < (ct : Int) + 1 := by omega
                have HE := Lib.hid (HNEXT.out (by rw [HBK.out, if_neg h5]))
                go_wp2_with fail
                go_roundg (n - (i + 1))
                case measure => omega
                case rel => exact ⟨i + 1, by omega, by omega, by go_num, HE, HI3⟩
            | true =>
              have h3' : ((k : Int) == st) = false := by simpa using h3
              clear h3
              go_upto_region 10 with fail
              rw [HW3.out]
              clear z0 z1 k0 k1 k2 k3 l0 l1 c2 c3
              by_cases h5 : 3 < ct + 1
              · have h5' : (3 : Int) < (ct : Int) + 1 := by omega
                have HE : Hid (er = 2) := HRET.out 2 (by decide) (by rw [HBK.out, if_pos h5])
                go_wp2_with fail
                go_ret
                exact ⟨by rw [HE.out]; rfl, HI3.out.bel⟩
              · have h5' : ¬ (3 : Int) < (ct : Int) + 1 := by omega
                have HE := Lib.hid (HNEXT.out (by rw [HBK.out, if_neg h5]))
                go_wp2_with fail
                go_roundg (n - (i + 1))
                case measure => omega
                case rel => exact ⟨i + 1, by omega, by omega, by go_num, HE, HI3⟩
    · have hlt' : ¬ (i : Int) < (n : Int) := by omega
      have HE : Hid (er = 0) := by
        show _ = _
        rw [HER.out, List.drop_of_length_le (by rw [HNN.out]; omega)]
        rfl
      go_wp2_with fail
      go_ret
      exact ⟨by rw [HE.out]; rfl, HI.out.bel⟩
end At
end Go.Proofs.Ytiapfogckbkkpaa
