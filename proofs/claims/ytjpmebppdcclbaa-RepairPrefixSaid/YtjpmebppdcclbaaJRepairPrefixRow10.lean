/- earley.Chart.complete. earley.Chart.set. The sets of items cell by cell, in plain Lean; a closed table is there. -/
import Derived.Test.YtjpmebppdcclbaaJRepairPrefixRow9
import Derived.Test.YtjpmebppdcclbaaJRepairPrefixRow8
namespace Go.Proofs.Ytjpmebppdcclbaa
open Go.RowKit
namespace Ea
open Rp Hl
open Ht hiding D
theorem okI_lt {K : List Rule} {k : Nat} {x : Itm} (h : okI K k x) : x.r < K.length := by
  obtain ⟨_, r, h2, _⟩ := h
  rcases Nat.lt_or_ge x.r K.length with h | h
  · exact h
  · rw [List.getElem?_eq_none h] at h2; cases h2
theorem okI_dl {K : List Rule} {k : Nat} {x : Itm} (h : okI K k x) (hx : x.r < K.length) : x.d ≤ (K[x.r]'hx).right.length := by
  obtain ⟨_, r, h2, h3⟩ := h
  rw [List.getElem?_eq_getElem hx] at h2
  cases h2
  exact h3
theorem okI_sm {K : List Rule} {k : Nat} {x : Itm} (hkl : K.length ≤ 100) (hr4 : ∀ r ∈ K, r.right.length ≤ 4) (hk : k ≤ 100) (h : okI K k x) : smI x := by
  have h1 := okI_lt h
  obtain ⟨h0, r, h2, h3⟩ := h
  have := hr4 r (List.mem_of_getElem? h2)
  exact ⟨by omega, by omega, by omega⟩
def ComPost (B fb : Nat) (gt gn gs : Int) (ra : Option Addr) (rc : Nat) (K : List Rule) (O : Nat → Prop) (n : Nat) (L : Nat → List Itm) (k : Nat) (Q : Itm → Prop) (W : World) (e : Ending) (w' : World) : Prop := e = .returned (.tuple #[]) ∧ ∃ O' c, FC B fb gt gn gs ra rc K O' n (upL L k c) w' ∧ Stp O O' W w' ∧ CoI k L Q c ∧ ∀ x ∈ c, Clo K k (upL L k c) x
set_option maxHeartbeats 16000000 in
set_option maxRecDepth 100000 in
theorem completeF {B fb : Nat} {gt gn gs : Int} {ra : Option Addr} {rc : Nat} {K : List Rule} {O : Nat → Prop} {n : Nat} {L : Nat → List Itm} (W : World) (h : FC B fb gt gn gs ra rc K O n L W) (k : Nat) (hk : n = k + 1) (hn : n ≤ 100) (hkl : K.length ≤ 100) (hr4 : ∀ r ∈ K, r.right.length ≤ 4) (Q : Itm → Prop) (hQ : QOk K k L Q) (hnd : (L k).Nodup) (hLL : ∀ j, j < k → (L j).length ≤ 50000) (hLr : ∀ j, j < k → ∀ y ∈ L j, okI K j y) :
    Calls Try.prog 103 #[.pointer (some ⟨fb, 0, none⟩)] W (ComPost B fb gt gn gs ra rc K O n L k Q W) := by
  obtain ⟨PST, HP⟩ := nameIt (ComPost B fb gt gn gs ra rc K O n L k Q W)
  have HFIN : Hid (∀ O' c w', FC B fb gt gn gs ra rc K O' n (upL L k c) w' → Stp O O' W w' → CoI k L Q c → (∀ x ∈ c, Clo K k (upL L k c) x) → PST (.returned (.tuple #[])) w') := by
    intro O' c w' h1 h2 h3 h4
    rw [← HP.out]
    exact ⟨rfl, O', c, h1, h2, h3, h4⟩
  rw [HP.out]
  have HLN : Hid (∀ c, CoI k L Q c → c.length ≤ 50000) := by
    intro c hc
    have h1 := hc.len hr4 hQ
    have h2 : K.length * 5 * (k + 1) ≤ 100 * 5 * 100 := Nat.mul_le_mul (Nat.mul_le_mul_right _ hkl) (by omega)
    omega
  have HKK := Lib.hid hk
  have hkn : k < n := by omega
  have hkn' : (k : Int) < (n : Int) := by omega
  have HC0 : Hid (CoI k L Q (L k)) := CoI.start hQ hnd
  have HQ := Lib.hid hQ
  have HKL := Lib.hid hkl
  have HLJ := Lib.hid hLL
  have HLR := Lib.hid hLr
  have HR4 := Lib.hid hr4
  have HF0 : Hid (FC B fb gt gn gs ra rc K O n (upL L k (L k)) W) := by rw [Ho.upL_self]; exact h
  have hw1 : IntKind.i64.wrap ((n : Int) - 1) = (k : Int) := by rw [IntWalk.i64_in _ (by omega)]; omega
  obtain ⟨sb, cap, c4⟩ := h.maps
  clear hk hQ hnd hr4 HP hkl h hLL hLr
  go_enter Try.func103, Try.ntmps103
  go_wp2_with fail
  go_loopg [3, 4, 5, 6, 7, 9, 10, 11] 50001 (fun gg v3 v4 v5 v6 v7 v9 v10 v11 wr => ∃ (nn : Int) (O' : Nat → Prop) (c : List Itm), v3 = .int .i64 nn ∧ -1 ≤ nn ∧ nn ≤ (c.length : Int) ∧ (50000 - nn).toNat ≤ gg ∧ Hid (FC B fb gt gn gs ra rc K O' n (upL L k c) wr) ∧ Hid (Stp O O' W wr) ∧ Hid (CoI k L Q c) ∧ Hid (nn = (c.length : Int) → ∀ x ∈ c, Clo K k (upL L k c) x))
  case atStart => exact ⟨-1, O, L k, rfl, by omega, by omega, by omega, HF0, Stp.below (Below.refl _ _), HC0, fun e => by omega⟩
  case round =>
    clear c4
    obtain ⟨nn, O', c, rfl, hn1, hn2, hgg, HF, HSP, HC, HCL⟩ := hrel
    obtain ⟨sb1, cap1, a1, m1, c4, -, -, c5, -, -, -, -⟩ := HF.out.lens hkn
    rw [Ho.upL_at] at c5
    have hcl := HLN.out c HC.out
    obtain ⟨cl, HCLN⟩ := nameIt c.length
    rw [HCLN.out] at c5 hcl hn2 HCL
    by_cases he : nn = (cl : Int)
    · have hne : (nn != (cl : Int)) = false := by simp [he]
      have HE := Lib.hid (HFIN.out O' c wr HF.out HSP.out HC.out (HCL.out he))
      clear he
      go_wp2_with fail
      first | exact HE.out | exact bodyPost_end (results_none Try.results103 _ _ _) rfl HE.out
    · have hne : (nn != (cl : Int)) = true := by simp [he]
      have HTH0 : Hid (Thr K k L c c 0) := Thr.start
      have HNE := Lib.hid he
      clear he
      go_wp2_with fail
      go_loopg [4, 5, 6, 7, 9, 10, 11] 50001 (fun gg v4 v5 v6 v7 v9 v10 v11 wr => ∃ (i : Nat) (O2 : Nat → Prop) (c2 : List Itm), v4 = .int .i64 (i : Int) ∧ i ≤ c2.length ∧ 50000 - i ≤ gg ∧ Hid (FC B fb gt gn gs ra rc K O2 n (upL L k c2) wr) ∧ Hid (Stp O O2 W wr) ∧ Hid (CoI k L Q c2) ∧ Hid (Thr K k L c c2 i))
      case atStart => exact ⟨0, O', c, rfl, by omega, by omega, HF, HSP, HC, HTH0⟩
      case round =>
        clear c4 c5 HF HSP HC HCL HTH0
        obtain ⟨i, O2, c2, rfl, hi, hgg2, HF, HSP, HC, HTH⟩ := hrel
        obtain ⟨sb2, cap2, a2, m2, c4, -, -, c5, -, -, hir, -⟩ := HF.out.lens hkn
        rw [Ho.upL_at] at c5 hir
        have hcl2 := HLN.out c2 HC.out
        obtain ⟨l2, HL2⟩ := nameIt c2.length
        rw [HL2.out] at c5 hcl2 hi
        by_cases hil : i < l2
        · have hil' : (i : Int) < (l2 : Int) := by omega
          have hiL : i < c2.length := by rw [HL2.out]; exact hil
          obtain ⟨g2, hae, hOg, hgl, q0, q1, q2⟩ := hir i hiL
          have hxm : c2[i] ∈ c2 := List.getElem_mem hiL
          have hok := HQ.out.ok _ (HC.out.q _ hxm)
          have HSMC2 : Hid (∀ y ∈ c2, smI y) := fun y hy => okI_sm HKL.out HR4.out (by have := HKK.out; omega) (HQ.out.ok y (HC.out.q y hy))
          have HTS : Hid (∀ c', c2 <+: c' → (c' = c2 → Clo K k (upL L k c2) c2[i]) → Thr K k L c c' (i + 1)) := fun c' h1 h2 => Thr.step hiL HTH.out h1 h2
          obtain ⟨x, HX⟩ := nameIt (c2[i]'hiL)
          rw [HX.out] at q0 q1 q2 hxm hok HTS
          have hokk := hok
          obtain ⟨hxf, r, hxr, hxd⟩ := hok
          have hxK : x.r < K.length := by
            rcases Nat.lt_or_ge x.r K.length with h | h
            · exact h
            · rw [List.getElem?_eq_none h] at hxr; cases hxr
          have HXM := Lib.hid hxm
          have HXR := Lib.hid hxr
          have HXF := Lib.hid hxf
          have HXK := Lib.hid hxK
          obtain ⟨w1, HW1⟩ := nameIt (wr.alloc (.cells #[.int .i64 (x.r : Int), .int .i64 (x.d : Int), .int .i64 (x.f : Int)] 156))
          have hb1 : Below wr.heap.size wr w1 := by rw [← HW1.out]; exact (Below.refl _ _).alloc (Nat.le_refl _) _
          have X1 : Hid (w1.heap[wr.heap.size]? = some (.cells #[.int .i64 (x.r : Int), .int .i64 (x.d : Int), .int .i64 (x.f : Int)] 156 (0, 0))) := by rw [← HW1.out]; exact bx_new _ _ _ rfl
          have HNB : Hid (¬ O2 wr.heap.size) := FC.new HF.out (Nat.le_refl _)
          have HF1 := Lib.hid (HF.out.keep hb1)
          have HNX := Lib.hid (nextE w1 HF1.out x hxK (okI_dl hokk hxK))
          have HB1 := Lib.hid hb1
          obtain ⟨ns, HNS⟩ := nameIt (Ho.nxtV K x)
          have HNV : Hid ((nxt K x).isSome = true → nxt K x = some ns) := by
            intro h
            rw [← HNS.out]
            unfold Ho.nxtV
            obtain ⟨s, hs⟩ := Option.isSome_iff_exists.1 h
            rw [hs]; rfl
          have HNN : Hid ((nxt K x).isSome = false → nxt K x = none) := by
            intro h
            cases e : nxt K x with
            | none => rfl
            | some s => rw [e] at h; cases h
          obtain ⟨okb, HOKB⟩ := nameIt (nxt K x).isSome
          rw [HNS.out, HOKB.out] at HNX
          rw [HOKB.out] at HNV HNN
          obtain ⟨st, HSTN⟩ := nameIt ns.term
          obtain ⟨sn, HSNN⟩ := nameIt ns.n
          rw [HSTN.out, HSNN.out] at HNX
          obtain ⟨xr, HXRN⟩ := nameIt x.r
          obtain ⟨xd, HXDN⟩ := nameIt x.d
          obtain ⟨xf, HXFN⟩ := nameIt x.f
          rw [HXRN.out] at q0 HW1 X1 HNX
          rw [HXDN.out] at q1 HW1 X1 HNX
          rw [HXFN.out] at q2 HW1 X1 HNX
          obtain ⟨bx, HBXN⟩ := nameIt wr.heap.size
          rw [HBXN.out] at X1 HNB
          subst hae
          clear hb1 hir hxm hxr hxd hxK hxf hokk
          go_upto_region 8 with fail
          rw [HW1.out, HBXN.out]
          clear HW1 q0 q1 q2 c4 c5
          obtain ⟨y0, y1, y2⟩ := bx_cells3 X1.out
          go_wp2_with fail
          refine HNX.out.mono ?_
          rintro e w2 ⟨rfl, hb2⟩
          have HB2 : Hid (Below wr.heap.size wr w2) := HB1.out.trans (hb2.mono HB1.out.size)
          obtain ⟨w3, HW3⟩ := nameIt (w2.alloc (.cells #[.bool st, .int .i64 sn] 44))
          have hb3 : Below w2.heap.size w2 w3 := by rw [← HW3.out]; exact (Below.refl _ _).alloc (Nat.le_refl _) _
          have X3 : Hid (w3.heap[w2.heap.size]? = some (.cells #[.bool st, .int .i64 sn] 44 (0, 0))) := by rw [← HW3.out]; exact bx_new _ _ _ rfl
          have HB3 : Hid (Below wr.heap.size wr w3) := HB2.out.trans (hb3.mono HB2.out.size)
          have HF3 := Lib.hid (HF.out.keep HB3.out)
          have HSP3 : Hid (Stp O O2 W w3) := HSP.out.trans (Stp.below HB3.out)
          have HX3 : Hid (w3.heap[bx]? = some (.cells #[.int .i64 (xr : Int), .int .i64 (xd : Int), .int .i64 (xf : Int)] 156 (0, 0)) ∧ ¬ O2 bx) := ⟨bx_keep (bx_keep X1.out hb2) hb3, HNB.out⟩
          obtain ⟨bs, HBSN⟩ := nameIt w2.heap.size
          rw [HBSN.out] at X3
          clear hb2 hb3 y0 y1 y2
          go_upto_region 9 with fail
          rw [HW3.out, HBSN.out]
          clear HW3
          cases okb with
          | true =>
            have hns := HNV.out rfl
            have hpr := predictE w3 HF3.out k HKK.out hn ns HKL.out (by rw [Ho.upL_at]; have := HLN.out c2 HC.out; omega) (by rw [Ho.upL_at]; exact HSMC2.out)
            rw [Ho.upL_at, Ho.upL_up, HSTN.out, HSNN.out] at hpr
            have HPR := Lib.hid hpr
            have HC' := Lib.hid (HC.out.pred HQ.out HXM.out hns)
            have HT' := Lib.hid (HTS.out (prF K ns k c2) pre_addF (fun e => clo_pred hns e))
            have hc2 := HLN.out _ HC'.out
            obtain ⟨s0, s1⟩ := bx_cells2 X3.out
            have hpl : c2.length ≤ (prF K ns k c2).length := pre_addF.length_le
            clear hpr hns
            go_wp2_with fail
            refine HPR.out.mono ?_
            rintro e w4 ⟨rfl, O4, hf4, hs4⟩
            have HF4 := Lib.hid hf4
            have HSP4 : Hid (Stp O O4 W w4) := HSP3.out.trans hs4
            clear hf4 hs4 s0 s1
            go_wp2_with fail
            go_roundg (50000 - (i + 1))
            case measure => omega
            case rel => exact ⟨i + 1, O4, _, by go_num, by omega, by omega, HF4, HSP4, HC', HT'⟩
          | false =>
            have hns := HNN.out rfl
            have hfk := HXF.out
            have hfn : x.f < n := by have := HKK.out; omega
            obtain ⟨sb3, cap3, a3, m3, c4, -, -, c5, -, -, -, hrd3⟩ := HF3.out.lens hfn
            have hyl : (upL L k c2 x.f).length ≤ 50000 := by
              unfold upL
              split
              · exact HLN.out c2 HC.out
              · exact HLJ.out _ (by omega)
            have HCM := Lib.hid (fun (r : Rule) (hr : K[x.r]? = some r) => HC.out.comp HQ.out HXM.out hr hns)
            have HCX := Lib.hid (fun (r : Rule) (hr : K[x.r]? = some r) => clo_comp (L := L) (k := k) (c := c2) hr hns)
            obtain ⟨ys, HYS⟩ := nameIt (upL L k c2 x.f)
            rw [HYS.out] at c5 hrd3 hyl
            simp only [HYS.out] at HCM HCX
            rw [HXFN.out] at c5 hfn
            have hfn' : (xf : Int) < (n : Int) := by omega
            have HCL : Hid (∀ W', Below w3.heap.size w3 W' → Calls Try.prog 114 #[.slice a3 ys.length m3] W' fun e w' => ∃ a' m', e = .returned (.slice a' ys.length m') ∧ Ho.IRow (fun k => W'.heap.size ≤ k) w' a' ys ∧ Below W'.heap.size W' w') := fun W' hb => cloneI ys a3 m3 W' (hrd3.below hb) (by omega)
            obtain ⟨yl, HYL⟩ := nameIt ys.length
            rw [HYL.out] at c5 hyl
            simp only [HYL.out] at HCL
            have HS : Hid (∀ W', Below w3.heap.size w3 W' → W'.cell? ⟨fb, 0 + 5, none⟩ = some (.slice (some ⟨sb3, 0, none⟩) n cap3) ∧ W'.cell? ⟨sb3, xf, none⟩ = some (.slice a3 yl m3) ∧ W'.cell? ⟨bx, 0 + 2, none⟩ = some (.int .i64 (xf : Int))) := fun W' hb => ⟨(hb.cell (lt_of_cell c4)).trans c4, (hb.cell (lt_of_cell c5)).trans c5, (bx_cells3 (bx_keep HX3.out.1 hb)).2.2⟩
            clear hrd3 c4 c5 hns hfk
            go_upto_region 11 with fail
            go_cut [76, 77, 78] (fun v76 v77 v78 wx => ∃ a' m', v76 = .slice a' yl m' ∧ v77 = .int .i64 (yl : Int) ∧ v78 = .int .i64 0 ∧ Hid (Ho.IRow (fun k => w3.heap.size ≤ k) wx a' ys) ∧ Hid (Below w3.heap.size w3 wx))
            case first =>
              obtain ⟨c4, c5, c6⟩ := HS.out w3 (Below.refl _ _)
              go_region_held3 (fun w' => w'.cell? ⟨fb, 0 + 5, none⟩ = some (.slice (some ⟨sb3, 0, none⟩) n cap3) ∧ w'.cell? ⟨sb3, xf, none⟩ = some (.slice a3 yl m3) ∧ w'.cell? ⟨bx, 0 + 2, none⟩ = some (.int .i64 (xf : Int)))
                (first | exact HS.out _ (Below.refl _ _).drew | exact HS.out _ HB5.out | fail)
                (first
                  | (go_at_call 114; (with_reducible refine (HCL.out _ (Below.refl _ _).drew).mono ?_); rintro e w5 ⟨a5, m5, rfl, hir5, hb5⟩; have HB5 : Hid (Below w3.heap.size w3 w5) := (Below.refl _ _).drew.trans hb5; have HIR5 : Hid (Ho.IRow (fun k => w3.heap.size ≤ k) w5 a5 ys) := hir5; clear hir5 hb5)
                  | fail)
              all_goals
                go_wp2_with fail
                go_meet
                exact ⟨a5, m5, rfl, rfl, rfl, HIR5, HB5⟩
            case rest =>
            obtain ⟨a5, m5, rfl, rfl, rfl, HIR5, HB5⟩ := hcut
            obtain ⟨ws, rfl⟩ : ∃ ww : World, ww = wc := ⟨_, rfl⟩
            have HF5 := Lib.hid (HF3.out.keep HB5.out)
            have HSP5 : Hid (Stp O O2 W ws) := HSP3.out.trans (Stp.below HB5.out)
            have HX5 : Hid (ws.heap[bx]? = some (.cells #[.int .i64 (xr : Int), .int .i64 (xd : Int), .int .i64 (xf : Int)] 156 (0, 0)) ∧ ¬ O2 bx) := ⟨bx_keep HX3.out.1 HB5.out, HX3.out.2⟩
            have HI5 : Hid (Ho.IRow (fun q => ¬ O2 q) ws a5 ys) := HIR5.out.mono (fun q hq => FC.new HF3.out hq)
            obtain ⟨lf, HLF⟩ := nameIt r.left
            have HYR : Hid (∀ y ∈ ys, okI K k y) := by
              intro y hy
              rw [← HYS.out] at hy
              unfold upL at hy
              split at hy
              · exact HQ.out.ok y (HC.out.q y hy)
              · have h1 := HXF.out
                obtain ⟨h2, h3⟩ := HLR.out x.f (by omega) y hy
                exact ⟨by omega, h3⟩
            have HSMJ : Hid (∀ j, ∀ z ∈ addF (coP K lf) c2 (ys.take j), smI z) := by
              intro j z hz
              rcases mem_addF.1 hz with hz | ⟨y, hy, e⟩
              · exact HSMC2.out z hz
              · obtain ⟨h1, rfl⟩ := coP_some.1 e
                have hy2 := HYR.out y (List.mem_of_mem_take hy)
                have h4 := okI_sm HKL.out HR4.out (by have := HKK.out; omega) hy2
                obtain ⟨r9, q1, q2⟩ := nxt_some.1 h1
                have q3 := HR4.out r9 (List.mem_of_getElem? q1)
                have q4 := d_lt q2
                exact ⟨h4.1, by show y.d + 1 ≤ 1000; omega, h4.2.2⟩
            clear HIR5 HS HCL hfn hfn'
            go_upto_region 12 with fail
            go_loopg [9, 10, 11, 78] yl (fun gg v9 v10 v11 v78 wr2 => ∃ (j : Nat) (O5 : Nat → Prop), j ≤ yl ∧ yl - j ≤ gg ∧ v78 = .int .i64 (j : Int) ∧ Hid (FC B fb gt gn gs ra rc K O5 n (upL L k (addF (coP K lf) c2 (ys.take j))) wr2) ∧ Hid (Stp O O5 W wr2) ∧ Hid (wr2.heap[bx]? = some (.cells #[.int .i64 (xr : Int), .int .i64 (xd : Int), .int .i64 (xf : Int)] 156 (0, 0)) ∧ ¬ O5 bx) ∧ Hid (Ho.IRow (fun q => ¬ O5 q) wr2 a5 ys))
            case atStart => exact ⟨0, O2, by omega, by omega, rfl, by rw [List.take_zero]; exact HF5, HSP5, HX5, HI5⟩
            case round =>
              clear HF5 HSP5 HX5 HI5
              obtain ⟨j, O5, hj, hgg3, rfl, HFY, HSY, HXY, HIY⟩ := hrel
              by_cases hjl : j < yl
              · have hjl' : (j : Int) < (yl : Int) := by omega
                obtain ⟨wy, rfl⟩ : ∃ ww : World, ww = wr := ⟨_, rfl⟩
                have hjL : j < ys.length := by rw [HYL.out]; exact hjl
                obtain ⟨g5, hae5, hOg5, hgl5, q0, q1, q2⟩ := HIY.out j hjL
                have hyk := HYR.out _ (List.getElem_mem hjL)
                have hyr := okI_lt hyk
                have HSMCJ := Lib.hid (HSMJ.out j)
                have hsucc := addF_succ (P := coP K lf) (c := c2) (ys := ys) (j := j) hjL
                have hcl5 : (addF (coP K lf) c2 (ys.take j)).length ≤ 100000 := by
                  refine Nat.le_trans Ho.addF_len ?_
                  have := HLN.out c2 HC.out
                  rw [List.length_take]; omega
                obtain ⟨y, HYN⟩ := nameIt (ys[j]'hjL)
                rw [HYN.out] at q0 q1 q2 hyr hsucc hyk
                obtain ⟨cj, HCJ⟩ := nameIt (addF (coP K lf) c2 (ys.take j))
                rw [HCJ.out] at hsucc hcl5 HFY HSMCJ
                obtain ⟨w6, HW6⟩ := nameIt (wy.alloc (.cells #[.int .i64 (y.r : Int), .int .i64 (y.d : Int), .int .i64 (y.f : Int)] 156))
                have hb6 : Below wy.heap.size wy w6 := by rw [← HW6.out]; exact (Below.refl _ _).alloc (Nat.le_refl _) _
                have X6 : Hid (w6.heap[wy.heap.size]? = some (.cells #[.int .i64 (y.r : Int), .int .i64 (y.d : Int), .int .i64 (y.f : Int)] 156 (0, 0))) := by rw [← HW6.out]; exact bx_new _ _ _ rfl
                have HNB6 : Hid (¬ O5 wy.heap.size) := FC.new HFY.out (Nat.le_refl _)
                have HF6 := Lib.hid (HFY.out.keep hb6)
                have HYSM : Hid (smI y) := okI_sm HKL.out HR4.out (by have := HKK.out; omega) hyk
                have HNX6 := Lib.hid (nextE w6 HF6.out y hyr (okI_dl hyk hyr))
                have HB6 := Lib.hid hb6
                have HSU := Lib.hid hsucc
                have HCL5 := Lib.hid hcl5
                obtain ⟨ns2, HNS2⟩ := nameIt (Ho.nxtV K y)
                have HNV2 : Hid ((nxt K y).isSome = true → nxt K y = some ns2) := by
                  intro h
                  rw [← HNS2.out]
                  unfold Ho.nxtV
                  obtain ⟨s, hs⟩ := Option.isSome_iff_exists.1 h
                  rw [hs]; rfl
                have HNN2 : Hid ((nxt K y).isSome = false → nxt K y = none) := by
                  intro h
                  cases e : nxt K y with
                  | none => rfl
                  | some s => rw [e] at h; cases h
                obtain ⟨okb2, HOKB2⟩ := nameIt (nxt K y).isSome
                rw [HNS2.out, HOKB2.out] at HNX6
                rw [HOKB2.out] at HNV2 HNN2
                obtain ⟨⟨st2, sn2⟩, HNS3⟩ := nameIt ns2
                rw [HNS3.out] at HNX6 HNV2
                dsimp only at HNX6
                obtain ⟨yr, HYRN⟩ := nameIt y.r
                obtain ⟨yd, HYDN⟩ := nameIt y.d
                obtain ⟨yf, HYFN⟩ := nameIt y.f
                rw [HYRN.out] at q0 HW6 X6 HNX6
                rw [HYDN.out] at q1 HW6 X6 HNX6
                rw [HYFN.out] at q2 HW6 X6 HNX6
                obtain ⟨by6, HBY6⟩ := nameIt wy.heap.size
                rw [HBY6.out] at X6 HNB6
                subst hae5
                clear hb6 hyr hsucc hcl5 hOg5 hgl5 hyk
                go_upto_region 14 with fail
                rw [HW6.out, HBY6.out]
                clear HW6 q0 q1 q2
                obtain ⟨y0, y1, y2⟩ := bx_cells3 X6.out
                go_wp2_with fail
                refine HNX6.out.mono ?_
                rintro e w7 ⟨rfl, hb7⟩
                obtain ⟨w8, HW8⟩ := nameIt (w7.alloc (.cells #[.bool st2, .int .i64 sn2] 44))
                have hb8 : Below w7.heap.size w7 w8 := by rw [← HW8.out]; exact (Below.refl _ _).alloc (Nat.le_refl _) _
                have X8 : Hid (w8.heap[w7.heap.size]? = some (.cells #[.bool st2, .int .i64 sn2] 44 (0, 0))) := by rw [← HW8.out]; exact bx_new _ _ _ rfl
                have HB8 : Hid (Below wy.heap.size wy w8) := (HB6.out.trans (hb7.mono HB6.out.size)).trans (hb8.mono (HB6.out.trans (hb7.mono HB6.out.size)).size)
                have X68 := Lib.hid (bx_keep (bx_keep X6.out hb7) hb8)
                have HF8 := Lib.hid (HFY.out.keep HB8.out)
                obtain ⟨bs8, HBS8⟩ := nameIt w7.heap.size
                rw [HBS8.out] at X8
                clear hb7 hb8 y0 y1 y2
                go_upto_region 15 with fail
                rw [HW8.out, HBS8.out]
                clear HW8
                have hxk := HXK.out
                obtain ⟨bk8, ro8, v8, hae8, -, -, s0, -, -⟩ := HF8.out.rd.rule_at hxk
                have hxr8 := HXR.out
                rw [List.getElem?_eq_getElem hxk] at hxr8
                have hkl8 : K[x.r].left = lf := by rw [Option.some.inj hxr8]; exact HLF.out
                rw [hkl8, HXRN.out] at s0
                have hru := HF8.out.rules
                obtain ⟨kn, HKN⟩ := nameIt K.length
                have hxkn : xr < kn := by rw [← HXRN.out, ← HKN.out]; exact hxk
                have hxkn' : (xr : Int) < (kn : Int) := by omega
                rw [HKN.out] at hru
                obtain ⟨z0, z1⟩ := bx_cells2 X8.out
                obtain ⟨x0, -, -⟩ := bx_cells3 (bx_keep HXY.out.1 HB8.out)
                have he := symEq st2 false sn2 lf
                obtain ⟨bq, HBQ⟩ := nameIt (st2 == false && sn2 == lf)
                rw [HBQ.out] at he
                have HCO : Hid (coP K lf y = if okb2 && bq then some ⟨yr, yd + 1, yf⟩ else none) := by
                  show _ = _
                  unfold coP
                  rw [HYRN.out, HYDN.out, HYFN.out]
                  have e1 : decide (nxt K y = some ⟨false, lf⟩) = (okb2 && bq) := by
                    cases okb2 with
                    | false => rw [HNN2.out rfl]; simp
                    | true =>
                      rw [HNV2.out rfl, ← HBQ.out, Bool.eq_iff_iff]
                      simp
                  rw [← e1]
                  simp
                have i0 := aft_cell s0
                have i1 := aft_cell hru
                have i2 := aft_cell z0
                have i3 := aft_cell z1
                have i4 := aft_cell x0
                have HGN : Hid (∀ W2, Below w8.heap.size w8 W2 → Calls Try.prog 60 #[.int .i64 lf] W2 fun e w' => e = .returned (.agg #[.bool false, .int .i64 lf]) ∧ Below W2.heap.size W2 w') := fun W2 _ => gramN lf W2
                subst hae8
                clear s0 hru z0 z1 x0 hkl8 hxr8 hxk
                cases okb2 with
                | false =>
                  refine wp_region_after (by kernel_rfl) (by kernel_rfl) ?_
                  repeat (go_big_quiet_step (with_reducible exact Calls.after (HGN.out _ (Aft.bel _))))
                  refine wpQuiet_nil ?_
                  rintro w9 ⟨⟨_, hb9⟩, rfl⟩
                  have HB9 : Hid (Below wy.heap.size wy w9) := HB8.out.trans (hb9.mono HB8.out.size)
                  have HF9 := Lib.hid (HF8.out.keep hb9)
                  have X69 := Lib.hid (bx_keep X68.out hb9)
                  have HSP9 : Hid (Stp O O5 W w9) := HSY.out.trans (Stp.below HB9.out)
                  have HX9 : Hid (w9.heap[bx]? = some (.cells #[.int .i64 (xr : Int), .int .i64 (xd : Int), .int .i64 (xf : Int)] 156 (0, 0)) ∧ ¬ O5 bx) := ⟨bx_keep HXY.out.1 HB9.out, HXY.out.2⟩
                  have HI9 := Lib.hid (HIY.out.below HB9.out)
                  clear hb9 i0 i1 i2 i3 i4 he
                  have hC : addF (coP K lf) c2 (ys.take (j + 1)) = cj := by rw [HSU.out, HCO.out]; rfl
                  have HF10 : Hid (FC B fb gt gn gs (some ⟨bk8, ro8, none⟩) rc K O5 n (upL L k (addF (coP K lf) c2 (ys.take (j + 1)))) w9) := by rw [hC]; exact HF9.out
                  clear hC
                  go_wp2_with fail
                  go_roundg (yl - (j + 1))
                  case measure => omega
                  case rel => exact ⟨j + 1, O5, by omega, by omega, by go_num, HF10, HSP9, HX9, HI9⟩
                | true =>
                cases bq with
                | false =>
                  refine wp_region_after (by kernel_rfl) (by kernel_rfl) ?_
                  repeat (go_big_quiet_step (with_reducible exact Calls.after (HGN.out _ (Aft.bel _))))
                  refine wpQuiet_nil ?_
                  rintro w9 ⟨⟨_, hb9⟩, rfl⟩
                  have HB9 : Hid (Below wy.heap.size wy w9) := HB8.out.trans (hb9.mono HB8.out.size)
                  have HF9 := Lib.hid (HF8.out.keep hb9)
                  have X69 := Lib.hid (bx_keep X68.out hb9)
                  have HSP9 : Hid (Stp O O5 W w9) := HSY.out.trans (Stp.below HB9.out)
                  have HX9 : Hid (w9.heap[bx]? = some (.cells #[.int .i64 (xr : Int), .int .i64 (xd : Int), .int .i64 (xf : Int)] 156 (0, 0)) ∧ ¬ O5 bx) := ⟨bx_keep HXY.out.1 HB9.out, HXY.out.2⟩
                  have HI9 := Lib.hid (HIY.out.below HB9.out)
                  clear hb9 i0 i1 i2 i3 i4 he
                  have hC : addF (coP K lf) c2 (ys.take (j + 1)) = cj := by rw [HSU.out, HCO.out]; rfl
                  have HF10 : Hid (FC B fb gt gn gs (some ⟨bk8, ro8, none⟩) rc K O5 n (upL L k (addF (coP K lf) c2 (ys.take (j + 1)))) w9) := by rw [hC]; exact HF9.out
                  clear hC
                  go_wp2_with fail
                  go_roundg (yl - (j + 1))
                  case measure => omega
                  case rel => exact ⟨j + 1, O5, by omega, by omega, by go_num, HF10, HSP9, HX9, HI9⟩
                | true =>
                  refine wp_region_after (by kernel_rfl) (by kernel_rfl) ?_
                  repeat (go_big_quiet_step (with_reducible exact Calls.after (HGN.out _ (Aft.bel _))))
                  refine wpQuiet_nil ?_
                  rintro w9 ⟨⟨_, hb9⟩, rfl⟩
                  have HB9 : Hid (Below wy.heap.size wy w9) := HB8.out.trans (hb9.mono HB8.out.size)
                  have HF9 := Lib.hid (HF8.out.keep hb9)
                  have X69 := Lib.hid (bx_keep X68.out hb9)
                  have HSP9 : Hid (Stp O O5 W w9) := HSY.out.trans (Stp.below HB9.out)
                  have HX9 : Hid (w9.heap[bx]? = some (.cells #[.int .i64 (xr : Int), .int .i64 (xd : Int), .int .i64 (xf : Int)] 156 (0, 0)) ∧ ¬ O5 bx) := ⟨bx_keep HXY.out.1 HB9.out, HXY.out.2⟩
                  have HI9 := Lib.hid (HIY.out.below HB9.out)
                  clear hb9 i0 i1 i2 i3 i4 he
                  have hyd : yd < 4 := by
                    obtain ⟨r9, h1, h2⟩ := nxt_some.1 (HNV2.out rfl)
                    have h3 := HR4.out r9 (List.mem_of_getElem? h1)
                    have h4 := d_lt h2
                    rw [HYDN.out] at h4
                    omega
                  obtain ⟨yd1, HYD1⟩ := nameIt (yd + 1)
                  have hwd : IntKind.i64.wrap ((yd : Int) + 1) = (yd1 : Int) := by have := HYD1.out; rw [IntWalk.i64_in _ (by omega)]; omega
                  have hC : addF (coP K lf) c2 (ys.take (j + 1)) = addI cj ⟨yr, yd1, yf⟩ := by rw [HSU.out, HCO.out, HYD1.out]; rfl
                  have hadd := addE w9 HF9.out k HKK.out hn ⟨yr, yd1, yf⟩ (by rw [Ho.upL_at]; have := HCL5.out; omega) (by rw [Ho.upL_at]; exact HSMCJ.out) ⟨by have := HYSM.out.1; rw [HYRN.out] at this; exact this, by show yd1 ≤ 1000; have := HYD1.out; omega, by have := HYSM.out.2.2; rw [HYFN.out] at this; exact this⟩
                  rw [Ho.upL_at, Ho.upL_up, ← hC] at hadd
                  have HAD := Lib.hid hadd
                  obtain ⟨y0, y1, y2⟩ := bx_cells3 X69.out
                  clear hadd hC hyd
                  go_wp2_with fail
                  refine HAD.out.mono ?_
                  rintro e wz ⟨rfl, O6, hf6, hs6⟩
                  have HF10 := Lib.hid hf6
                  have HSP10 : Hid (Stp O O6 W wz) := HSP9.out.trans hs6
                  have HX10 := Lib.hid (hs6.box HX9.out.1 HX9.out.2)
                  have HI10 : Hid (Ho.IRow (fun q => ¬ O6 q) wz (some ⟨g5, 0, none⟩) ys) := HI9.out.stp hs6
                  clear hf6 hs6 y0 y1 y2
                  go_wp2_with fail
                  go_roundg (yl - (j + 1))
                  case measure => omega
                  case rel => exact ⟨j + 1, O6, by omega, by omega, by go_num, HF10, HSP10, HX10, HI10⟩
              · have hjl' : ¬ (j : Int) < (yl : Int) := by omega
                have htk : ys.take j = ys := List.take_of_length_le (by rw [HYL.out]; omega)
                rw [htk, ← HLF.out] at HFY
                have HC' := Lib.hid (HCM.out r HXR.out)
                have HT' := Lib.hid (HTS.out _ pre_addF (HCX.out r HXR.out))
                have hc2 := HLN.out _ HC'.out
                have hpl : c2.length ≤ (addF (coP K r.left) c2 ys).length := pre_addF.length_le
                clear htk
                go_wp2_with fail
                go_roundg (50000 - (i + 1))
                case measure => omega
                case rel => exact ⟨i + 1, O5, _, by go_num, by omega, by omega, HFY, HSY, HC', HT'⟩
        · have hil' : ¬ (i : Int) < (l2 : Int) := by omega
          have HPR := Lib.hid HTH.out.1.length_le
          have HCL2 : Hid ((cl : Int) = (c2.length : Int) → ∀ x ∈ c2, Clo K k (upL L k c2) x) := fun e => HTH.out.done (by rw [HL2.out]; omega) (by rw [HCLN.out]; omega)
          go_wp2_with fail
          go_roundg (50000 - (cl : Int)).toNat
          case measure => have := HNE.out; omega
          case rel => exact ⟨(cl : Int), O2, c2, rfl, by omega, by have := HPR.out; rw [HCLN.out] at this; omega, by omega, HF, HSP, HC, HCL2⟩
end Ea
end Go.Proofs.Ytjpmebppdcclbaa
namespace Go.Proofs.Ytjpmebppdcclbaa
open Go.RowKit
namespace Ea
open Rp Hl
open Ht hiding D
def bx6 (gt gn gs : Int) (r vm vs : Value) : Obj := .cells #[.int .i64 gt, .int .i64 gn, .int .i64 gs, r, vm, vs] 153 (0, 0)
section
variable {B fb : Nat} {gt gn gs : Int} {ra : Option Addr} {rc : Nat} {K : List Rule} {vs vm : Value} {n : Nat} {val : Nat → Value} {L : Nat → List Itm} {ms : List Value} {bm : Nat} {cl : List Itm} {w wA wB : World}
theorem FCi.neq (h : FCi B fb gt gn gs ra rc K vs vm n val L ms bm cl w) : vm.ownBlock ≠ some fb ∧ vs.ownBlock ≠ some fb ∧ (∀ g, vm.ownBlock = some g → vs.ownBlock ≠ some g) :=
  ⟨own_ne_box h.mo h.box (by decide), own_ne_box h.out h.box (by decide), fun g hg => own_ne_own h.mo h.out (by decide) hg⟩
theorem FCi.more (h : FCi B fb gt gn gs ra rc K vs vm n val L ms bm cl w) (h0 : 0 < n ∨ bm = fb) (hL : L n = []) {vm' vs' : Value} {bq : Nat}
    (hgA : w.grownBy wA vm.ownBlock) (hmo : wA.ownsRow B 166 1 vm' (n + 1) (ms ++ [.map (some bq)])) (hbq : w.heap.size ≤ bq) (hset : SetI bq 0 [] wA) (hatm : vm'.ownBlock = vm.ownBlock ∨ ∃ k, vm'.ownBlock = some k ∧ w.heap.size ≤ k)
    (hgB : wA.grownBy wB vs.ownBlock) (hout : wB.ownsRow B 154 1 vs' (n + 1) ((List.range n).map val ++ [.slice none 0 0])) (hats : vs'.ownBlock = vs.ownBlock ∨ ∃ k, vs'.ownBlock = some k ∧ w.heap.size ≤ k) :
    wB.heap[fb]? = some (bx6 gt gn gs (.slice ra K.length rc) vm vs) ∧ ∃ O', FC B fb gt gn gs ra rc K O' (n + 1) L ((wB.setCell ⟨fb, 0 + 4, none⟩ vm').setCell ⟨fb, 0 + 5, none⟩ vs') ∧ Stp (OwE fb vs vm bm n val) O' w ((wB.setCell ⟨fb, 0 + 4, none⟩ vm').setCell ⟨fb, 0 + 5, none⟩ vs') ∧ (∀ j, j < n → ∀ sb cap a m, w.cell? ⟨fb, 0 + 5, none⟩ = some (.slice (some ⟨sb, 0, none⟩) n cap) → w.cell? ⟨sb, j, none⟩ = some (.slice a (L j).length m) → Ho.IRow (fun q => ¬ O' q) ((wB.setCell ⟨fb, 0 + 4, none⟩ vm').setCell ⟨fb, 0 + 5, none⟩ vs') a (L j)) := by
  obtain ⟨n1, n2, n3⟩ := h.neq
  have hfl := bx_lt h.box
  have hbA : wA.heap[fb]? = some (bx6 gt gn gs (.slice ra K.length rc) vm vs) := (hgA.block fb hfl (fun e => n1 e.symm)).trans h.box
  have hbB : wB.heap[fb]? = some (bx6 gt gn gs (.slice ra K.length rc) vm vs) := (hgB.block fb (bx_lt hbA) (fun e => n2 e.symm)).trans hbA
  have hb1 : (wB.setCell ⟨fb, 0 + 4, none⟩ vm').heap[fb]? = some (bx6 gt gn gs (.slice ra K.length rc) vm' vs) := by
    rw [bx_set hbB]; rfl
  have hb2 : ((wB.setCell ⟨fb, 0 + 4, none⟩ vm').setCell ⟨fb, 0 + 5, none⟩ vs').heap[fb]? = some (bx6 gt gn gs (.slice ra K.length rc) vm' vs') := by
    rw [bx_set hb1]; rfl
  have hne : ∀ k, k ≠ fb → ((wB.setCell ⟨fb, 0 + 4, none⟩ vm').setCell ⟨fb, 0 + 5, none⟩ vs').heap[k]? = wB.heap[k]? := fun k hk => by
    rw [Below.heap_setCell _ _ _ _ (by simpa using hk), Below.heap_setCell _ _ _ _ (by simpa using hk)]
  obtain ⟨es, ck, hmp⟩ := set_map hset
  have hmpB : wB.heap[bq]? = some (.map es ck) := by
    rw [hgB.block bq (Array.getElem?_eq_some_iff.1 hmp).1 (fun e => ?_)]
    · exact hmp
    · have := (h.out.lt bq e.symm).2; omega
  have hsz : w.heap.size ≤ wB.heap.size := Nat.le_trans hgA.size hgB.size
  have hkeep : ∀ k, k < w.heap.size → k ≠ fb → vm.ownBlock ≠ some k → vs.ownBlock ≠ some k → ((wB.setCell ⟨fb, 0 + 4, none⟩ vm').setCell ⟨fb, 0 + 5, none⟩ vs').heap[k]? = w.heap[k]? := fun k hk h1 h2 h3 => by
    rw [hne k h1, hgB.block k (Nat.lt_of_lt_of_le hk hgA.size) (fun e => h3 e.symm), hgA.block k hk (fun e => h2 e.symm)]
  have hvm' : vm'.ownBlock ≠ some fb := by
    rcases hatm with e | ⟨q, e, hq⟩
    · rw [e]; exact n1
    · rw [e]; intro e2; cases e2; omega
  have hvs' : vs'.ownBlock ≠ some fb := by
    rcases hats with e | ⟨q, e, hq⟩
    · rw [e]; exact n2
    · rw [e]; intro e2; cases e2; omega
  have hmoB : wB.ownsRow B 166 1 vm' (n + 1) (ms ++ [.map (some bq)]) := by
    refine hmo.kept hgB ?_
    cases e : vm'.ownBlock with
    | none => exact .inl rfl
    | some g =>
      refine .inr (fun e2 => ?_)
      rcases hatm with e3 | ⟨q, e3, hq⟩
      · rw [e] at e3
        exact n3 g e3.symm e2.symm
      · rw [e] at e3
        cases e3
        have := (h.out.lt g e2.symm).2
        omega
  have hg1 := grown_cell wB ⟨fb, 0 + 4, none⟩ vm'
  have hg2 := grown_cell (wB.setCell ⟨fb, 0 + 4, none⟩ vm') ⟨fb, 0 + 5, none⟩ vs'
  have hg12 : wB.grownBy ((wB.setCell ⟨fb, 0 + 4, none⟩ vm').setCell ⟨fb, 0 + 5, none⟩ vs') (some fb) := grown_trans hg1 hg2
  refine ⟨hbB, OwE fb vs' vm' bq (n + 1) (fun k => if k = n then .slice none 0 0 else val k), ⟨vs', vm', _, _, bq, [], ⟨?_, fun k hk => ?_, fun k k' hk hk' hkk g hgk hgk' => ?_, hmoB.kept hg12 (.inr hvm'), fun k hk => ?_, ?_, hb2, h.fbl, ?_⟩, .inl (by omega), fun k hk => ?_, fun _ => Iff.rfl⟩, ?_, fun j hj sb cap a m c1 c2 => ?_⟩
  · have e : (List.range (n + 1)).map (fun k => if k = n then (Value.slice none 0 0) else val k) = (List.range n).map val ++ [.slice none 0 0] := by
      rw [List.range_succ, List.map_append]
      congr 1
      · refine List.map_congr_left fun k hk => ?_
        rw [List.mem_range] at hk
        rw [if_neg (by omega)]
      · simp
    rw [e]
    exact hout.kept hg12 (.inr hvs')
  · by_cases e : k = n
    · subst e
      simp only [if_true]
      rw [hL]
      exact World.ownsRow_nil _ _ _ _
    · simp only [e, if_false]
      have hr := h.row k (by omega)
      refine own_blkI hr fun g hg => ?_
      have hlt := hr.lt g hg
      exact hkeep g hlt.2 (fun e => own_ne_box hr h.box (by decide) (by rw [hg, e])) (fun e => own_ne_own h.mo hr (by decide) e hg) (fun e => own_ne_own h.out hr (by decide) e hg)
  · by_cases e1 : k = n
    · simp only [e1, if_true] at hgk; cases hgk
    · by_cases e2 : k' = n
      · simp only [e2, if_true] at hgk'; cases hgk'
      · simp only [e1, e2, if_false] at hgk hgk'
        exact h.dis k k' (by omega) (by omega) hkk g hgk hgk'
  · obtain rfl : k = n := by omega
    refine ⟨?_, 0, Nat.zero_le _, SetM.kept (SetM.kept hset hgB (fun e => by have := (h.out.lt bq e.symm).2; omega)) hg12 (fun e => by cases e; omega)⟩
    have hl : ms.length = k := by have := h.mo.1; omega
    rw [List.getElem?_append_right (by omega), hl, Nat.sub_self]; rfl
  · have := h.fbl; omega
  · refine Rd.keep (fun k hk hlt => ⟨hk, ?_⟩) _ _ h.rd
    have hk' : k < B := hk
    exact hkeep k hlt (by have := h.fbl; omega) (fun e => by have := (h.mo.lt k e).1; omega) (fun e => by have := (h.out.lt k e).1; omega)
  · obtain rfl : k = n := by omega
    exact hL.symm
  · refine ⟨hgB.os.trans hgA.os, hgB.tape.trans hgA.tape, hgB.output.trans hgA.output, by rw [World.size_setCell, World.size_setCell]; exact hsz, fun k hk hn => hkeep k hk (fun e => hn (.inl e)) (fun e => hn (.inr (.inr (.inl e)))) (fun e => hn (.inr (.inl e))), ?_⟩
    rintro k (h1 | h1 | h1 | h1 | ⟨i, hi, e⟩)
    · exact .inl (.inl h1)
    · rcases hats with e | ⟨q, e, hq⟩
      · exact .inl (.inr (.inl (by rw [← e]; exact h1)))
      · rw [e] at h1; cases h1; exact .inr hq
    · rcases hatm with e | ⟨q, e, hq⟩
      · exact .inl (.inr (.inr (.inl (by rw [← e]; exact h1))))
      · rw [e] at h1; cases h1; exact .inr hq
    · exact .inr (by omega)
    · have e1 : i = n := by omega
      simp only [e1, if_true] at e
      cases e
  · have hvs : vs = .slice (some ⟨sb, 0, none⟩) n cap := by
      have : w.cell? ⟨fb, 0 + 5, none⟩ = some vs := by simp [World.cell?, h.box]
      rw [this] at c1
      exact Option.some.inj c1
    have ho := h.out
    rw [hvs] at ho
    have hvj : val j = .slice a (L j).length m := by
      rw [ho.cellAt j (by omega), List.getElem?_map, List.getElem?_range hj] at c2
      exact Option.some.inj c2
    have hr := h.row j hj
    intro i hi
    have hr2 := hr
    rw [hvj] at hr2
    rcases hr2.2 with ⟨_, h1⟩ | ⟨g, m', cur, e6, _, _, _⟩
    · omega
    · cases e6
      have hg : (val j).ownBlock = some g := by rw [hvj]; rfl
      have hlt := hr.lt g hg
      have a1 : g ≠ fb := fun e => own_ne_box hr h.box (by decide) (by rw [hg, e])
      have a2 : vm.ownBlock ≠ some g := fun e => own_ne_own h.mo hr (by decide) e hg
      have a3 : vs.ownBlock ≠ some g := fun e => own_ne_own h.out hr (by decide) e hg
      have hk := hkeep g hlt.2 a1 a2 a3
      obtain ⟨f0, f1, f2⟩ := flatI_get hi
      refine ⟨g, rfl, ?_, by rw [World.size_setCell, World.size_setCell]; omega, ?_, ?_, ?_⟩
      · rintro (q | q | q | q | ⟨i', hi', q⟩)
        · exact a1 q
        · rcases hats with e | ⟨x, e, hx⟩
          · exact a3 (by rw [← e]; exact q)
          · rw [e] at q; cases q; omega
        · rcases hatm with e | ⟨x, e, hx⟩
          · exact a2 (by rw [← e]; exact q)
          · rw [e] at q; cases q; omega
        · omega
        · have e1 : i' = n := by omega
          simp only [e1, if_true] at q
          cases q
      · rw [World.cell?_of_block (w := w) (by exact hk), hr2.cellAt _ (by omega)]; exact f0
      · rw [World.cell?_of_block (w := w) (by exact hk), hr2.cellAt _ (by omega)]; exact f1
      · rw [World.cell?_of_block (w := w) (by exact hk), hr2.cellAt _ (by omega)]; exact f2
end
def SetPost (B fb : Nat) (gt gn gs : Int) (ra : Option Addr) (rc : Nat) (K : List Rule) (O : Nat → Prop) (n : Nat) (L : Nat → List Itm) (W : World) (e : Ending) (w' : World) : Prop := e = .returned (.tuple #[]) ∧ ∃ O', FC B fb gt gn gs ra rc K O' (n + 1) L w' ∧ Stp O O' W w' ∧ (∀ j, j < n → ∀ sb cap a m, W.cell? ⟨fb, 0 + 5, none⟩ = some (.slice (some ⟨sb, 0, none⟩) n cap) → W.cell? ⟨sb, j, none⟩ = some (.slice a (L j).length m) → Ho.IRow (fun q => ¬ O' q) w' a (L j))
set_option maxHeartbeats 16000000 in
set_option maxRecDepth 100000 in
theorem setE {B fb : Nat} {gt gn gs : Int} {ra : Option Addr} {rc : Nat} {K : List Rule} {O : Nat → Prop} {n : Nat} {L : Nat → List Itm} (wi : World) (h : FC B fb gt gn gs ra rc K O n L wi) (hn : n ≤ 100) (hL : L n = []) :
    Calls Try.prog 101 #[.pointer (some ⟨fb, 0, none⟩)] wi (SetPost B fb gt gn gs ra rc K O n L wi) := by
  obtain ⟨vs, vm, val, ms, bm, cl, hF, h0, hcl, hO⟩ := h
  have hO2 : O = OwE fb vs vm bm n val := funext fun k => propext (hO k)
  subst hO2
  have HF := Lib.hid hF
  have HMORE := Lib.hid (fun (vm' vs' : Value) (bq : Nat) (wA wB : World) => hF.more (vm' := vm') (vs' := vs') (bq := bq) (wA := wA) (wB := wB) h0 hL)
  obtain ⟨am, cm, hvm, -, -⟩ := own_len hF.mo
  obtain ⟨as', cs, hvs, -, -⟩ := own_len hF.out
  obtain ⟨n1, n2, n3⟩ := hF.neq
  have HN1 := Lib.hid n1
  have HN3 := Lib.hid n3
  have HSB : Hid (∀ w' : World, w'.heap[fb]? = some (bx6 gt gn gs (.slice ra K.length rc) vm vs) → w'.cell? ⟨fb, 0 + 4, none⟩ = some vm ∧ w'.cell? ⟨fb, 0 + 5, none⟩ = some vs) := fun w' hb => by
    unfold bx6 at hb
    exact ⟨by simp [World.cell?, hb], by simp [World.cell?, hb]⟩
  have HSX : Hid (∀ w' : World, wi.grownBy w' vm.ownBlock → w'.cell? ⟨fb, 0 + 4, none⟩ = some vm ∧ w'.cell? ⟨fb, 0 + 5, none⟩ = some vs) := fun w' hg => HSB.out w' ((hg.block fb (bx_lt hF.box) (fun e => n1 e.symm)).trans hF.box)
  have HBW : Hid (B ≤ wi.heap.size) := by show _ ≤ _; have := bx_lt hF.box; have := hF.fbl; omega
  have HVMLT : Hid (∀ k, vm.ownBlock = some k → B ≤ k ∧ k < wi.heap.size) := hF.mo.lt
  have HVSLT : Hid (∀ k, vs.ownBlock = some k → B ≤ k ∧ k < wi.heap.size) := hF.out.lt
  have HMO := Lib.hid hF.mo
  have HOU := Lib.hid hF.out
  obtain ⟨PST, HP⟩ := nameIt (SetPost B fb gt gn gs ra rc K (OwE fb vs vm bm n val) n L wi)
  have HFIN : Hid (∀ w', (∃ O', FC B fb gt gn gs ra rc K O' (n + 1) L w' ∧ Stp (OwE fb vs vm bm n val) O' wi w' ∧ (∀ j, j < n → ∀ sb cap a m, wi.cell? ⟨fb, 0 + 5, none⟩ = some (.slice (some ⟨sb, 0, none⟩) n cap) → wi.cell? ⟨sb, j, none⟩ = some (.slice a (L j).length m) → Ho.IRow (fun q => ¬ O' q) w' a (L j))) → PST (.returned (.tuple #[])) w') := by
    intro w' hw
    rw [← HP.out]
    exact ⟨rfl, hw⟩
  rw [HP.out]
  have hmk : ∀ W : World, (Instr.makeMap 166 none).run Try.prog W = .ok (.map (some W.heap.size)) (W.alloc (.map #[] 0)) := fun W => by
    simp [Instr.makeMap, run_underlying Try.underlying166]; try rfl
  subst hvm hvs
  clear hF n1 n2 n3 h0 hcl hO HP hL
  go_enter Try.func101, Try.ntmps101
  go_upto_region 0 with fail
  refine wp_region_M (S := (fun w' : World => w'.cell? ⟨fb, 0 + 4, none⟩ = some (.slice am n cm) ∧ w'.cell? ⟨fb, 0 + 5, none⟩ = some (.slice as' n cs))) 15 (by kernel_rfl) ?_
  refine wpU_takeF (i := 0) (v := .pointer (some ⟨fb, 0, none⟩)) rfl rfl (by kernel_rfl) (by kernel_rfl) (by kernel_rfl) (fun _ _ _ h => h) (Or.inl ⟨by rfl, fun w' hw' => ?_⟩) (fun _ => (HSX.out _ (grown_drew _ _))) ?_
  · clear hw'
    go_simp
  try simp only [Act.put, List.setIfInBounds_toArray, List.set_cons_zero, List.set_cons_succ]
  refine wpU_takeF (i := 1) (v := .pointer (some ⟨fb, 0, none⟩)) rfl rfl (by kernel_rfl) (by kernel_rfl) (by kernel_rfl) (fun _ _ _ h => h) (Or.inl ⟨by rfl, fun w' hw' => ?_⟩) (fun _ => (HSX.out _ (grown_drew _ _))) ?_
  · clear hw'
    go_simp
  try simp only [Act.put, List.setIfInBounds_toArray, List.set_cons_zero, List.set_cons_succ]
  refine wpU_takeF (i := 2) (v := .pointer (some ⟨fb, 0, none⟩)) rfl rfl (by kernel_rfl) (by kernel_rfl) (by kernel_rfl) (fun _ _ _ h => h) (Or.inl ⟨by rfl, fun w' hw' => ?_⟩) (fun _ => (HSX.out _ (grown_drew _ _))) ?_
  · clear hw'
    go_simp
  try simp only [Act.put, List.setIfInBounds_toArray, List.set_cons_zero, List.set_cons_succ]
  refine wpU_takeF (i := 3) (v := .pointer (some ⟨fb, 0, none⟩)) rfl rfl (by kernel_rfl) (by kernel_rfl) (by kernel_rfl) (fun _ _ _ h => h) (Or.inl ⟨by rfl, fun w' hw' => ?_⟩) (fun _ => (HSX.out _ (grown_drew _ _))) ?_
  · clear hw'
    go_simp
  try simp only [Act.put, List.setIfInBounds_toArray, List.set_cons_zero, List.set_cons_succ]
  refine wpU_takeF (i := 4) (v := .pointer (some ⟨fb, 0 + 4, none⟩)) rfl rfl (by kernel_rfl) (by kernel_rfl) (by kernel_rfl) (fun _ _ _ h => h) (Or.inl ⟨by rfl, fun w' hw' => ?_⟩) (fun _ => (HSX.out _ (grown_drew _ _))) ?_
  · clear hw'
    go_simp
  try simp only [Act.put, List.setIfInBounds_toArray, List.set_cons_zero, List.set_cons_succ]
  refine wpU_takeM (i := 5) (v := .slice am n cm) rfl rfl (by kernel_rfl) (by kernel_rfl) (by kernel_rfl) (by kernel_rfl) (by kernel_rfl) (fun _ _ _ h => h) (Or.inl ⟨by rfl, fun w' hw' => ?_⟩) (HSX.out _ (grown_drew _ _)) ?_
  · obtain ⟨h0, h1⟩ := hw'
    go_simp
  try simp only [Act.put, List.setIfInBounds_toArray, List.set_cons_zero, List.set_cons_succ]
  refine wpU_takeF (i := 9) (v := .pointer (some ⟨fb, 0, none⟩)) rfl rfl (by kernel_rfl) (by kernel_rfl) (by kernel_rfl) (fun _ _ _ h => h) (Or.inl ⟨by rfl, fun w' hw' => ?_⟩) (fun _ => (HSX.out _ (grown_drew _ _))) ?_
  · clear hw'
    go_simp
  try simp only [Act.put, List.setIfInBounds_toArray, List.set_cons_zero, List.set_cons_succ]
  refine wpU_takeF (i := 10) (v := .pointer (some ⟨fb, 0, none⟩)) rfl rfl (by kernel_rfl) (by kernel_rfl) (by kernel_rfl) (fun _ _ _ h => h) (Or.inl ⟨by rfl, fun w' hw' => ?_⟩) (fun _ => (HSX.out _ (grown_drew _ _))) ?_
  · clear hw'
    go_simp
  try simp only [Act.put, List.setIfInBounds_toArray, List.set_cons_zero, List.set_cons_succ]
  refine wpU_takeF (i := 11) (v := .pointer (some ⟨fb, 0 + 5, none⟩)) rfl rfl (by kernel_rfl) (by kernel_rfl) (by kernel_rfl) (fun _ _ _ h => h) (Or.inl ⟨by rfl, fun w' hw' => ?_⟩) (fun _ => (HSX.out _ (grown_drew _ _))) ?_
  · clear hw'
    go_simp
  try simp only [Act.put, List.setIfInBounds_toArray, List.set_cons_zero, List.set_cons_succ]
  refine wpU_takeM (i := 12) (v := .slice as' n cs) rfl rfl (by kernel_rfl) (by kernel_rfl) (by kernel_rfl) (by kernel_rfl) (by kernel_rfl) (fun _ _ _ h => h) (Or.inl ⟨by rfl, fun w' hw' => ?_⟩) (HSX.out _ (grown_drew _ _)) ?_
  · obtain ⟨h0, h1⟩ := hw'
    go_simp
  try simp only [Act.put, List.setIfInBounds_toArray, List.set_cons_zero, List.set_cons_succ]
  obtain ⟨wd, HWD⟩ : ∃ ww : World, ww = wi.drew := ⟨_, rfl⟩
  rw [← HWD]
  have HBd : Hid (Below wi.heap.size wi wd) := by rw [HWD]; exact (Below.refl _ _).drew
  have HGd : Hid (wi.grownBy wd (Value.slice am n cm).ownBlock) := grown_below HBd.out _
  clear HWD
  refine wpU_two (i := 6) (j := 13) (by kernel_rfl) rfl rfl (fun K hK => ?_) (fun K hK => ?_)
  · skip
    go_simp
    have hset_ : SetI wd.heap.size 0 [] (wd.alloc (.map #[] 0)) := SetM.start _ _ _ wd rfl (fun l => by simp [inI])
    have hbq_ : Below wd.heap.size wd (wd.alloc (.map #[] 0)) := (Below.refl _ _).alloc (Nat.le_refl _) _
    obtain ⟨ws1, HWQ⟩ := nameIt (wd.alloc (.map #[] 0))
    rw [HWQ.out] at hset_ hbq_
    rw [HWQ.out]
    have HSbq : Hid (wi.heap.size ≤ wd.heap.size) := HGd.out.size
    have HBs1 : Hid (Below wi.heap.size wi ws1) := HBd.out.trans (hbq_.mono HBd.out.size)
    have HGs1 : Hid (wi.grownBy ws1 (Value.slice am n cm).ownBlock) := grown_trans HGd.out (grown_below hbq_ _)
    obtain ⟨bq, HQQ⟩ := nameIt wd.heap.size
    rw [HQQ.out] at hset_ HSbq
    rw [HQQ.out]
    have HSETs1 := Lib.hid hset_
    clear hset_ hbq_ HWQ HQQ
    refine hK.out _ _ (fun _ => HSX.out _ HGs1.out) ?_
    clear hK K
    try simp only [Act.put, List.setIfInBounds_toArray, List.set_cons_zero, List.set_cons_succ]
    refine wpU_two (i := 7) (j := 13) (by kernel_rfl) rfl rfl (fun K hK => ?_) (fun K hK => ?_)
    · skip
      go_simp
      have hx_ : (ws1.alloc (.cells #[.map (some bq)] 166)).heap[ws1.heap.size]? = some (.cells #[.map (some bq)] 166 (0, 0)) := bx_new _ _ _ rfl
      have hbq_ : Below ws1.heap.size ws1 (ws1.alloc (.cells #[.map (some bq)] 166)) := (Below.refl _ _).alloc (Nat.le_refl _) _
      obtain ⟨ws2, HWQ⟩ := nameIt (ws1.alloc (.cells #[.map (some bq)] 166))
      rw [HWQ.out] at hx_ hbq_
      rw [HWQ.out]
      have HSbx : Hid (wi.heap.size ≤ ws1.heap.size) := HGs1.out.size
      have HBs2 : Hid (Below wi.heap.size wi ws2) := HBs1.out.trans (hbq_.mono HBs1.out.size)
      have HSETs2 : Hid (SetI bq 0 [] ws2) := SetM.keep HSETs1.out hbq_
      have HGs2 : Hid (wi.grownBy ws2 (Value.slice am n cm).ownBlock) := grown_trans HGs1.out (grown_below hbq_ _)
      obtain ⟨bx, HQQ⟩ := nameIt ws1.heap.size
      rw [HQQ.out] at hx_ HSbx
      rw [HQQ.out]
      have XMs2 := Lib.hid hx_
      clear hx_ hbq_ HWQ HQQ
      refine hK.out _ _ (fun _ => HSX.out _ HGs2.out) ?_
      clear hK K
      try simp only [Act.put, List.setIfInBounds_toArray, List.set_cons_zero, List.set_cons_succ]
      refine wpU_two (i := 8) (j := 13) (by kernel_rfl) rfl rfl (fun K hK => ?_) (fun K hK => ?_)
      · skip
        refine step_appB elMap (by rfl) _ _ (by rfl) (own_keep HMO.out HBs2.out) (by rfl) (by rfl) XMs2.out (by rfl) (by rfl) (by omega) (by unfold maxLen; omega) (by have := HBW.out; have := HGs2.out.size; omega) ?_
        intro gm cm' ws3 hom hgm hatm hltm
        have HMOs3 := Lib.hid hom
        have HATM : Hid ((Value.slice (some ⟨gm, 0, none⟩) (n + 1) cm').ownBlock = (Value.slice am n cm).ownBlock ∨ ∃ k, (Value.slice (some ⟨gm, 0, none⟩) (n + 1) cm').ownBlock = some k ∧ wi.heap.size ≤ k) := by
          rcases hatm with e | e
          · exact .inl e.symm
          · exact .inr ⟨gm, rfl, by have := HGs2.out.size; omega⟩
        have HGs3 : Hid (wi.grownBy ws3 (Value.slice am n cm).ownBlock) := grown_trans HGs2.out hgm
        have HSETs3 : Hid (SetI bq 0 [] ws3) := SetM.kept HSETs2.out hgm (fun e => by have h1 := (HVMLT.out bq e.symm).2; have h2 := HSbq.out; omega)
        clear hom hgm hatm hltm
        refine hK.out _ _ (fun _ => HSX.out _ HGs3.out) ?_
        clear hK K
        try simp only [Act.put, List.setIfInBounds_toArray, List.set_cons_zero, List.set_cons_succ]
        refine wpU_one (i := 13) (by kernel_rfl) rfl (fun K hK => ?_)
        go_simp
        have hx_ : (ws3.alloc (.cells #[.slice none 0 0] 154)).heap[ws3.heap.size]? = some (.cells #[.slice none 0 0] 154 (0, 0)) := bx_new _ _ _ rfl
        have hbq_ : Below ws3.heap.size ws3 (ws3.alloc (.cells #[.slice none 0 0] 154)) := (Below.refl _ _).alloc (Nat.le_refl _) _
        obtain ⟨ws4, HWQ⟩ := nameIt (ws3.alloc (.cells #[.slice none 0 0] 154))
        rw [HWQ.out] at hx_ hbq_
        rw [HWQ.out]
        have HSbl : Hid (wi.heap.size ≤ ws3.heap.size) := HGs3.out.size
        have HSETs4 : Hid (SetI bq 0 [] ws4) := SetM.keep HSETs3.out hbq_
        have HMOs4 := Lib.hid (own_keep HMOs3.out hbq_)
        have HGs4 : Hid (wi.grownBy ws4 (Value.slice am n cm).ownBlock) := grown_trans HGs3.out (grown_below hbq_ _)
        obtain ⟨bl, HQQ⟩ := nameIt ws3.heap.size
        rw [HQQ.out] at hx_ HSbl
        rw [HQQ.out]
        have XLs4 := Lib.hid hx_
        clear hx_ hbq_ HWQ HQQ
        refine hK.out _ _ (fun _ => HSX.out _ HGs4.out) ?_
        clear hK K
        try simp only [Act.put, List.setIfInBounds_toArray, List.set_cons_zero, List.set_cons_succ]
        refine wpU_one (i := 14) (by kernel_rfl) rfl (fun K hK => ?_)
        refine step_appB elSet (by rfl) _ _ (by rfl) (HOU.out.kept HGs4.out (by cases e : (Value.slice as' n cs).ownBlock with | none => exact .inl rfl | some g => exact .inr (fun e2 => HN3.out g e2.symm e))) (by rfl) (by rfl) XLs4.out (by rfl) (by rfl) (by omega) (by unfold maxLen; omega) (by have := HBW.out; have := HGs4.out.size; omega) ?_
        intro gs' cs' wB hos hgs hats hlts
        have hfin := HMORE.out _ _ _ _ _ HGs4.out HMOs4.out HSbq.out HSETs4.out HATM.out hgs hos (by
          rcases hats with e | e
          · exact .inl e.symm
          · exact .inr ⟨gs', rfl, by have := HGs4.out.size; omega⟩)
        obtain ⟨hbB, hfn⟩ := hfin
        have HBB := Lib.hid hbB
        have HE := Lib.hid (HFIN.out _ hfn)
        clear hos hgs hats hlts hfn hbB
        refine hK.out _ _ (fun _ => HSB.out _ HBB.out) ?_
        clear hK K
        try simp only [Act.put, List.setIfInBounds_toArray, List.set_cons_zero, List.set_cons_succ]
        refine wpU_one (i := 15) (by kernel_rfl) rfl (fun K hK => ?_)
        go_simp
        refine hK.out _ _ (fun h => absurd (show true = false from h) (by decide)) ?_
        clear hK K
        try simp only [Act.put, List.setIfInBounds_toArray, List.set_cons_zero, List.set_cons_succ]
        refine wpU_one (i := 16) (by kernel_rfl) rfl (fun K hK => ?_)
        go_simp
        refine hK.out _ _ (fun h => absurd (show true = false from h) (by decide)) ?_
        clear hK K
        try simp only [Act.put, List.setIfInBounds_toArray, List.set_cons_zero, List.set_cons_succ]
        have hbB := HBB.out
        unfold bx6 at hbB
        have q4 : wB.cell? ⟨fb, 0 + 4, none⟩ = some (.slice am n cm) := by simp [World.cell?, hbB]
        have f4 : wB.frozen? ⟨fb, 0 + 4, none⟩ = false := by simp [World.frozen?, hbB]
        have q5 : wB.cell? ⟨fb, 0 + 5, none⟩ = some (.slice as' n cs) := by simp [World.cell?, hbB]
        have f5 : wB.frozen? ⟨fb, 0 + 5, none⟩ = false := by simp [World.frozen?, hbB]
        clear hbB
        refine wpU_one (i := 17) (by kernel_rfl) rfl (fun K hK => ?_)
        go_simp
        refine hK.out _ _ (fun h => absurd (show true = false from h) (by decide)) ?_
        clear hK K
        try simp only [Act.put, List.setIfInBounds_toArray, List.set_cons_zero, List.set_cons_succ]
        refine wpU_one (i := 18) (by kernel_rfl) rfl (fun K hK => ?_)
        go_simp
        refine hK.out _ _ (fun h => absurd (show true = false from h) (by decide)) ?_
        clear hK K
        try simp only [Act.put, List.setIfInBounds_toArray, List.set_cons_zero, List.set_cons_succ]
        refine wpU_one (i := 19) (by kernel_rfl) rfl (fun K hK => ?_)
        go_simp
        refine hK.out _ _ (fun h => absurd (show true = false from h) (by decide)) ?_
        clear hK K
        try simp only [Act.put, List.setIfInBounds_toArray, List.set_cons_zero, List.set_cons_succ]
        refine wpU_one (i := 20) (by kernel_rfl) rfl (fun K hK => ?_)
        go_simp
        refine hK.out _ _ (fun h => absurd (show true = false from h) (by decide)) ?_
        clear hK K
        try simp only [Act.put, List.setIfInBounds_toArray, List.set_cons_zero, List.set_cons_succ]
        refine wpU_done (by kernel_rfl) ?_ _
        go_wp2_with fail
        first | exact HE.out | exact bodyPost_end (results_none Try.results101 _ _ _) rfl HE.out
      · skip
        go_simp
        have hx_ : (ws2.alloc (.cells #[.slice none 0 0] 154)).heap[ws2.heap.size]? = some (.cells #[.slice none 0 0] 154 (0, 0)) := bx_new _ _ _ rfl
        have hbq_ : Below ws2.heap.size ws2 (ws2.alloc (.cells #[.slice none 0 0] 154)) := (Below.refl _ _).alloc (Nat.le_refl _) _
        obtain ⟨ws3, HWQ⟩ := nameIt (ws2.alloc (.cells #[.slice none 0 0] 154))
        rw [HWQ.out] at hx_ hbq_
        rw [HWQ.out]
        have HSbl : Hid (wi.heap.size ≤ ws2.heap.size) := HGs2.out.size
        have HBs3 : Hid (Below wi.heap.size wi ws3) := HBs2.out.trans (hbq_.mono HBs2.out.size)
        have HSETs3 : Hid (SetI bq 0 [] ws3) := SetM.keep HSETs2.out hbq_
        have XMs3 := Lib.hid (bx_keep XMs2.out hbq_)
        have HGs3 : Hid (wi.grownBy ws3 (Value.slice am n cm).ownBlock) := grown_trans HGs2.out (grown_below hbq_ _)
        obtain ⟨bl, HQQ⟩ := nameIt ws2.heap.size
        rw [HQQ.out] at hx_ HSbl
        rw [HQQ.out]
        have XLs3 := Lib.hid hx_
        clear hx_ hbq_ HWQ HQQ
        refine hK.out _ _ (fun _ => HSX.out _ HGs3.out) ?_
        clear hK K
        try simp only [Act.put, List.setIfInBounds_toArray, List.set_cons_zero, List.set_cons_succ]
        refine wpU_one (i := 8) (by kernel_rfl) rfl (fun K hK => ?_)
        refine step_appB elMap (by rfl) _ _ (by rfl) (own_keep HMO.out HBs3.out) (by rfl) (by rfl) XMs3.out (by rfl) (by rfl) (by omega) (by unfold maxLen; omega) (by have := HBW.out; have := HGs3.out.size; omega) ?_
        intro gm cm' ws4 hom hgm hatm hltm
        have HMOs4 := Lib.hid hom
        have HATM : Hid ((Value.slice (some ⟨gm, 0, none⟩) (n + 1) cm').ownBlock = (Value.slice am n cm).ownBlock ∨ ∃ k, (Value.slice (some ⟨gm, 0, none⟩) (n + 1) cm').ownBlock = some k ∧ wi.heap.size ≤ k) := by
          rcases hatm with e | e
          · exact .inl e.symm
          · exact .inr ⟨gm, rfl, by have := HGs3.out.size; omega⟩
        have HGs4 : Hid (wi.grownBy ws4 (Value.slice am n cm).ownBlock) := grown_trans HGs3.out hgm
        have HSETs4 : Hid (SetI bq 0 [] ws4) := SetM.kept HSETs3.out hgm (fun e => by have h1 := (HVMLT.out bq e.symm).2; have h2 := HSbq.out; omega)
        have XLs4 := Lib.hid ((hgm.block bl (bx_lt XLs3.out) (fun e => by have h1 := (HVMLT.out bl e.symm).2; have h2 := HSbl.out; omega)).trans XLs3.out)
        clear hom hgm hatm hltm
        refine hK.out _ _ (fun _ => HSX.out _ HGs4.out) ?_
        clear hK K
        try simp only [Act.put, List.setIfInBounds_toArray, List.set_cons_zero, List.set_cons_succ]
        refine wpU_one (i := 14) (by kernel_rfl) rfl (fun K hK => ?_)
        refine step_appB elSet (by rfl) _ _ (by rfl) (HOU.out.kept HGs4.out (by cases e : (Value.slice as' n cs).ownBlock with | none => exact .inl rfl | some g => exact .inr (fun e2 => HN3.out g e2.symm e))) (by rfl) (by rfl) XLs4.out (by rfl) (by rfl) (by omega) (by unfold maxLen; omega) (by have := HBW.out; have := HGs4.out.size; omega) ?_
        intro gs' cs' wB hos hgs hats hlts
        have hfin := HMORE.out _ _ _ _ _ HGs4.out HMOs4.out HSbq.out HSETs4.out HATM.out hgs hos (by
          rcases hats with e | e
          · exact .inl e.symm
          · exact .inr ⟨gs', rfl, by have := HGs4.out.size; omega⟩)
        obtain ⟨hbB, hfn⟩ := hfin
        have HBB := Lib.hid hbB
        have HE := Lib.hid (HFIN.out _ hfn)
        clear hos hgs hats hlts hfn hbB
        refine hK.out _ _ (fun _ => HSB.out _ HBB.out) ?_
        clear hK K
        try simp only [Act.put, List.setIfInBounds_toArray, List.set_cons_zero, List.set_cons_succ]
        refine wpU_one (i := 15) (by kernel_rfl) rfl (fun K hK => ?_)
        go_simp
        refine hK.out _ _ (fun h => absurd (show true = false from h) (by decide)) ?_
        clear hK K
        try simp only [Act.put, List.setIfInBounds_toArray, List.set_cons_zero, List.set_cons_succ]
        refine wpU_one (i := 16) (by kernel_rfl) rfl (fun K hK => ?_)
        go_simp
        refine hK.out _ _ (fun h => absurd (show true = false from h) (by decide)) ?_
        clear hK K
        try simp only [Act.put, List.setIfInBounds_toArray, List.set_cons_zero, List.set_cons_succ]
        have hbB := HBB.out
        unfold bx6 at hbB
        have q4 : wB.cell? ⟨fb, 0 + 4, none⟩ = some (.slice am n cm) := by simp [World.cell?, hbB]
        have f4 : wB.frozen? ⟨fb, 0 + 4, none⟩ = false := by simp [World.frozen?, hbB]
        have q5 : wB.cell? ⟨fb, 0 + 5, none⟩ = some (.slice as' n cs) := by simp [World.cell?, hbB]
        have f5 : wB.frozen? ⟨fb, 0 + 5, none⟩ = false := by simp [World.frozen?, hbB]
        clear hbB
        refine wpU_one (i := 17) (by kernel_rfl) rfl (fun K hK => ?_)
        go_simp
        refine hK.out _ _ (fun h => absurd (show true = false from h) (by decide)) ?_
        clear hK K
        try simp only [Act.put, List.setIfInBounds_toArray, List.set_cons_zero, List.set_cons_succ]
        refine wpU_one (i := 18) (by kernel_rfl) rfl (fun K hK => ?_)
        go_simp
        refine hK.out _ _ (fun h => absurd (show true = false from h) (by decide)) ?_
        clear hK K
        try simp only [Act.put, List.setIfInBounds_toArray, List.set_cons_zero, List.set_cons_succ]
        refine wpU_one (i := 19) (by kernel_rfl) rfl (fun K hK => ?_)
        go_simp
        refine hK.out _ _ (fun h => absurd (show true = false from h) (by decide)) ?_
        clear hK K
        try simp only [Act.put, List.setIfInBounds_toArray, List.set_cons_zero, List.set_cons_succ]
        refine wpU_one (i := 20) (by kernel_rfl) rfl (fun K hK => ?_)
        go_simp
        refine hK.out _ _ (fun h => absurd (show true = false from h) (by decide)) ?_
        clear hK K
        try simp only [Act.put, List.setIfInBounds_toArray, List.set_cons_zero, List.set_cons_succ]
        refine wpU_done (by kernel_rfl) ?_ _
        go_wp2_with fail
        first | exact HE.out | exact bodyPost_end (results_none Try.results101 _ _ _) rfl HE.out
    · skip
      go_simp
      have hx_ : (ws1.alloc (.cells #[.slice none 0 0] 154)).heap[ws1.heap.size]? = some (.cells #[.slice none 0 0] 154 (0, 0)) := bx_new _ _ _ rfl
      have hbq_ : Below ws1.heap.size ws1 (ws1.alloc (.cells #[.slice none 0 0] 154)) := (Below.refl _ _).alloc (Nat.le_refl _) _
      obtain ⟨ws2, HWQ⟩ := nameIt (ws1.alloc (.cells #[.slice none 0 0] 154))
      rw [HWQ.out] at hx_ hbq_
      rw [HWQ.out]
      have HSbl : Hid (wi.heap.size ≤ ws1.heap.size) := HGs1.out.size
      have HBs2 : Hid (Below wi.heap.size wi ws2) := HBs1.out.trans (hbq_.mono HBs1.out.size)
      have HSETs2 : Hid (SetI bq 0 [] ws2) := SetM.keep HSETs1.out hbq_
      have HGs2 : Hid (wi.grownBy ws2 (Value.slice am n cm).ownBlock) := grown_trans HGs1.out (grown_below hbq_ _)
      obtain ⟨bl, HQQ⟩ := nameIt ws1.heap.size
      rw [HQQ.out] at hx_ HSbl
      rw [HQQ.out]
      have XLs2 := Lib.hid hx_
      clear hx_ hbq_ HWQ HQQ
      refine hK.out _ _ (fun _ => HSX.out _ HGs2.out) ?_
      clear hK K
      try simp only [Act.put, List.setIfInBounds_toArray, List.set_cons_zero, List.set_cons_succ]
      refine wpU_one (i := 7) (by kernel_rfl) rfl (fun K hK => ?_)
      go_simp
      have hx_ : (ws2.alloc (.cells #[.map (some bq)] 166)).heap[ws2.heap.size]? = some (.cells #[.map (some bq)] 166 (0, 0)) := bx_new _ _ _ rfl
      have hbq_ : Below ws2.heap.size ws2 (ws2.alloc (.cells #[.map (some bq)] 166)) := (Below.refl _ _).alloc (Nat.le_refl _) _
      obtain ⟨ws3, HWQ⟩ := nameIt (ws2.alloc (.cells #[.map (some bq)] 166))
      rw [HWQ.out] at hx_ hbq_
      rw [HWQ.out]
      have HSbx : Hid (wi.heap.size ≤ ws2.heap.size) := HGs2.out.size
      have HBs3 : Hid (Below wi.heap.size wi ws3) := HBs2.out.trans (hbq_.mono HBs2.out.size)
      have HSETs3 : Hid (SetI bq 0 [] ws3) := SetM.keep HSETs2.out hbq_
      have XLs3 := Lib.hid (bx_keep XLs2.out hbq_)
      have HGs3 : Hid (wi.grownBy ws3 (Value.slice am n cm).ownBlock) := grown_trans HGs2.out (grown_below hbq_ _)
      obtain ⟨bx, HQQ⟩ := nameIt ws2.heap.size
      rw [HQQ.out] at hx_ HSbx
      rw [HQQ.out]
      have XMs3 := Lib.hid hx_
      clear hx_ hbq_ HWQ HQQ
      refine hK.out _ _ (fun _ => HSX.out _ HGs3.out) ?_
      clear hK K
      try simp only [Act.put, List.setIfInBounds_toArray, List.set_cons_zero, List.set_cons_succ]
      refine wpU_one (i := 8) (by kernel_rfl) rfl (fun K hK => ?_)
      refine step_appB elMap (by rfl) _ _ (by rfl) (own_keep HMO.out HBs3.out) (by rfl) (by rfl) XMs3.out (by rfl) (by rfl) (by omega) (by unfold maxLen; omega) (by have := HBW.out; have := HGs3.out.size; omega) ?_
      intro gm cm' ws4 hom hgm hatm hltm
      have HMOs4 := Lib.hid hom
      have HATM : Hid ((Value.slice (some ⟨gm, 0, none⟩) (n + 1) cm').ownBlock = (Value.slice am n cm).ownBlock ∨ ∃ k, (Value.slice (some ⟨gm, 0, none⟩) (n + 1) cm').ownBlock = some k ∧ wi.heap.size ≤ k) := by
        rcases hatm with e | e
        · exact .inl e.symm
        · exact .inr ⟨gm, rfl, by have := HGs3.out.size; omega⟩
      have HGs4 : Hid (wi.grownBy ws4 (Value.slice am n cm).ownBlock) := grown_trans HGs3.out hgm
      have HSETs4 : Hid (SetI bq 0 [] ws4) := SetM.kept HSETs3.out hgm (fun e => by have h1 := (HVMLT.out bq e.symm).2; have h2 := HSbq.out; omega)
      have XLs4 := Lib.hid ((hgm.block bl (bx_lt XLs3.out) (fun e => by have h1 := (HVMLT.out bl e.symm).2; have h2 := HSbl.out; omega)).trans XLs3.out)
      clear hom hgm hatm hltm
      refine hK.out _ _ (fun _ => HSX.out _ HGs4.out) ?_
      clear hK K
      try simp only [Act.put, List.setIfInBounds_toArray, List.set_cons_zero, List.set_cons_succ]
      refine wpU_one (i := 14) (by kernel_rfl) rfl (fun K hK => ?_)
      refine step_appB elSet (by rfl) _ _ (by rfl) (HOU.out.kept HGs4.out (by cases e : (Value.slice as' n cs).ownBlock with | none => exact .inl rfl | some g => exact .inr (fun e2 => HN3.out g e2.symm e))) (by rfl) (by rfl) XLs4.out (by rfl) (by rfl) (by omega) (by unfold maxLen; omega) (by have := HBW.out; have := HGs4.out.size; omega) ?_
      intro gs' cs' wB hos hgs hats hlts
      have hfin := HMORE.out _ _ _ _ _ HGs4.out HMOs4.out HSbq.out HSETs4.out HATM.out hgs hos (by
        rcases hats with e | e
        · exact .inl e.symm
        · exact .inr ⟨gs', rfl, by have := HGs4.out.size; omega⟩)
      obtain ⟨hbB, hfn⟩ := hfin
      have HBB := Lib.hid hbB
      have HE := Lib.hid (HFIN.out _ hfn)
      clear hos hgs hats hlts hfn hbB
      refine hK.out _ _ (fun _ => HSB.out _ HBB.out) ?_
      clear hK K
      try simp only [Act.put, List.setIfInBounds_toArray, List.set_cons_zero, List.set_cons_succ]
      refine wpU_one (i := 15) (by kernel_rfl) rfl (fun K hK => ?_)
      go_simp
      refine hK.out _ _ (fun h => absurd (show true = false from h) (by decide)) ?_
      clear hK K
      try simp only [Act.put, List.setIfInBounds_toArray, List.set_cons_zero, List.set_cons_succ]
      refine wpU_one (i := 16) (by kernel_rfl) rfl (fun K hK => ?_)
      go_simp
      refine hK.out _ _ (fun h => absurd (show true = false from h) (by decide)) ?_
      clear hK K
      try simp only [Act.put, List.setIfInBounds_toArray, List.set_cons_zero, List.set_cons_succ]
      have hbB := HBB.out
      unfold bx6 at hbB
      have q4 : wB.cell? ⟨fb, 0 + 4, none⟩ = some (.slice am n cm) := by simp [World.cell?, hbB]
      have f4 : wB.frozen? ⟨fb, 0 + 4, none⟩ = false := by simp [World.frozen?, hbB]
      have q5 : wB.cell? ⟨fb, 0 + 5, none⟩ = some (.slice as' n cs) := by simp [World.cell?, hbB]
      have f5 : wB.frozen? ⟨fb, 0 + 5, none⟩ = false := by simp [World.frozen?, hbB]
      clear hbB
      refine wpU_one (i := 17) (by kernel_rfl) rfl (fun K hK => ?_)
      go_simp
      refine hK.out _ _ (fun h => absurd (show true = false from h) (by decide)) ?_
      clear hK K
      try simp only [Act.put, List.setIfInBounds_toArray, List.set_cons_zero, List.set_cons_succ]
      refine wpU_one (i := 18) (by kernel_rfl) rfl (fun K hK => ?_)
      go_simp
      refine hK.out _ _ (fun h => absurd (show true = false from h) (by decide)) ?_
      clear hK K
      try simp only [Act.put, List.setIfInBounds_toArray, List.set_cons_zero, List.set_cons_succ]
      refine wpU_one (i := 19) (by kernel_rfl) rfl (fun K hK => ?_)
      go_simp
      refine hK.out _ _ (fun h => absurd (show true = false from h) (by decide)) ?_
      clear hK K
      try simp only [Act.put, List.setIfInBounds_toArray, List.set_cons_zero, List.set_cons_succ]
      refine wpU_one (i := 20) (by kernel_rfl) rfl (fun K hK => ?_)
      go_simp
      refine hK.out _ _ (fun h => absurd (show true = false from h) (by decide)) ?_
      clear hK K
      try simp only [Act.put, List.setIfInBounds_toArray, List.set_cons_zero, List.set_cons_succ]
      refine wpU_done (by kernel_rfl) ?_ _
      go_wp2_with fail
      first | exact HE.out | exact bodyPost_end (results_none Try.results101 _ _ _) rfl HE.out
  · skip
    go_simp
    have hx_ : (wd.alloc (.cells #[.slice none 0 0] 154)).heap[wd.heap.size]? = some (.cells #[.slice none 0 0] 154 (0, 0)) := bx_new _ _ _ rfl
    have hbq_ : Below wd.heap.size wd (wd.alloc (.cells #[.slice none 0 0] 154)) := (Below.refl _ _).alloc (Nat.le_refl _) _
    obtain ⟨ws1, HWQ⟩ := nameIt (wd.alloc (.cells #[.slice none 0 0] 154))
    rw [HWQ.out] at hx_ hbq_
    rw [HWQ.out]
    have HSbl : Hid (wi.heap.size ≤ wd.heap.size) := HGd.out.size
    have HBs1 : Hid (Below wi.heap.size wi ws1) := HBd.out.trans (hbq_.mono HBd.out.size)
    have HGs1 : Hid (wi.grownBy ws1 (Value.slice am n cm).ownBlock) := grown_trans HGd.out (grown_below hbq_ _)
    obtain ⟨bl, HQQ⟩ := nameIt wd.heap.size
    rw [HQQ.out] at hx_ HSbl
    rw [HQQ.out]
    have XLs1 := Lib.hid hx_
    clear hx_ hbq_ HWQ HQQ
    refine hK.out _ _ (fun _ => HSX.out _ HGs1.out) ?_
    clear hK K
    try simp only [Act.put, List.setIfInBounds_toArray, List.set_cons_zero, List.set_cons_succ]
    refine wpU_one (i := 6) (by kernel_rfl) rfl (fun K hK => ?_)
    go_simp
    have hset_ : SetI ws1.heap.size 0 [] (ws1.alloc (.map #[] 0)) := SetM.start _ _ _ ws1 rfl (fun l => by simp [inI])
    have hbq_ : Below ws1.heap.size ws1 (ws1.alloc (.map #[] 0)) := (Below.refl _ _).alloc (Nat.le_refl _) _
    obtain ⟨ws2, HWQ⟩ := nameIt (ws1.alloc (.map #[] 0))
    rw [HWQ.out] at hset_ hbq_
    rw [HWQ.out]
    have HSbq : Hid (wi.heap.size ≤ ws1.heap.size) := HGs1.out.size
    have HBs2 : Hid (Below wi.heap.size wi ws2) := HBs1.out.trans (hbq_.mono HBs1.out.size)
    have XLs2 := Lib.hid (bx_keep XLs1.out hbq_)
    have HGs2 : Hid (wi.grownBy ws2 (Value.slice am n cm).ownBlock) := grown_trans HGs1.out (grown_below hbq_ _)
    obtain ⟨bq, HQQ⟩ := nameIt ws1.heap.size
    rw [HQQ.out] at hset_ HSbq
    rw [HQQ.out]
    have HSETs2 := Lib.hid hset_
    clear hset_ hbq_ HWQ HQQ
    refine hK.out _ _ (fun _ => HSX.out _ HGs2.out) ?_
    clear hK K
    try simp only [Act.put, List.setIfInBounds_toArray, List.set_cons_zero, List.set_cons_succ]
    refine wpU_one (i := 7) (by kernel_rfl) rfl (fun K hK => ?_)
    go_simp
    have hx_ : (ws2.alloc (.cells #[.map (some bq)] 166)).heap[ws2.heap.size]? = some (.cells #[.map (some bq)] 166 (0, 0)) := bx_new _ _ _ rfl
    have hbq_ : Below ws2.heap.size ws2 (ws2.alloc (.cells #[.map (some bq)] 166)) := (Below.refl _ _).alloc (Nat.le_refl _) _
    obtain ⟨ws3, HWQ⟩ := nameIt (ws2.alloc (.cells #[.map (some bq)] 166))
    rw [HWQ.out] at hx_ hbq_
    rw [HWQ.out]
    have HSbx : Hid (wi.heap.size ≤ ws2.heap.size) := HGs2.out.size
    have HBs3 : Hid (Below wi.heap.size wi ws3) := HBs2.out.trans (hbq_.mono HBs2.out.size)
    have HSETs3 : Hid (SetI bq 0 [] ws3) := SetM.keep HSETs2.out hbq_
    have XLs3 := Lib.hid (bx_keep XLs2.out hbq_)
    have HGs3 : Hid (wi.grownBy ws3 (Value.slice am n cm).ownBlock) := grown_trans HGs2.out (grown_below hbq_ _)
    obtain ⟨bx, HQQ⟩ := nameIt ws2.heap.size
    rw [HQQ.out] at hx_ HSbx
    rw [HQQ.out]
    have XMs3 := Lib.hid hx_
    clear hx_ hbq_ HWQ HQQ
    refine hK.out _ _ (fun _ => HSX.out _ HGs3.out) ?_
    clear hK K
    try simp only [Act.put, List.setIfInBounds_toArray, List.set_cons_zero, List.set_cons_succ]
    refine wpU_one (i := 8) (by kernel_rfl) rfl (fun K hK => ?_)
    refine step_appB elMap (by rfl) _ _ (by rfl) (own_keep HMO.out HBs3.out) (by rfl) (by rfl) XMs3.out (by rfl) (by rfl) (by omega) (by unfold maxLen; omega) (by have := HBW.out; have := HGs3.out.size; omega) ?_
    intro gm cm' ws4 hom hgm hatm hltm
    have HMOs4 := Lib.hid hom
    have HATM : Hid ((Value.slice (some ⟨gm, 0, none⟩) (n + 1) cm').ownBlock = (Value.slice am n cm).ownBlock ∨ ∃ k, (Value.slice (some ⟨gm, 0, none⟩) (n + 1) cm').ownBlock = some k ∧ wi.heap.size ≤ k) := by
      rcases hatm with e | e
      · exact .inl e.symm
      · exact .inr ⟨gm, rfl, by have := HGs3.out.size; omega⟩
    have HGs4 : Hid (wi.grownBy ws4 (Value.slice am n cm).ownBlock) := grown_trans HGs3.out hgm
    have HSETs4 : Hid (SetI bq 0 [] ws4) := SetM.kept HSETs3.out hgm (fun e => by have h1 := (HVMLT.out bq e.symm).2; have h2 := HSbq.out; omega)
    have XLs4 := Lib.hid ((hgm.block bl (bx_lt XLs3.out) (fun e => by have h1 := (HVMLT.out bl e.symm).2; have h2 := HSbl.out; omega)).trans XLs3.out)
    clear hom hgm hatm hltm
    refine hK.out _ _ (fun _ => HSX.out _ HGs4.out) ?_
    clear hK K
    try simp only [Act.put, List.setIfInBounds_toArray, List.set_cons_zero, List.set_cons_succ]
    refine wpU_one (i := 14) (by kernel_rfl) rfl (fun K hK => ?_)
    refine step_appB elSet (by rfl) _ _ (by rfl) (HOU.out.kept HGs4.out (by cases e : (Value.slice as' n cs).ownBlock with | none => exact .inl rfl | some g => exact .inr (fun e2 => HN3.out g e2.symm e))) (by rfl) (by rfl) XLs4.out (by rfl) (by rfl) (by omega) (by unfold maxLen; omega) (by have := HBW.out; have := HGs4.out.size; omega) ?_
    intro gs' cs' wB hos hgs hats hlts
    have hfin := HMORE.out _ _ _ _ _ HGs4.out HMOs4.out HSbq.out HSETs4.out HATM.out hgs hos (by
      rcases hats with e | e
      · exact .inl e.symm
      · exact .inr ⟨gs', rfl, by have := HGs4.out.size; omega⟩)
    obtain ⟨hbB, hfn⟩ := hfin
    have HBB := Lib.hid hbB
    have HE := Lib.hid (HFIN.out _ hfn)
    clear hos hgs hats hlts hfn hbB
    refine hK.out _ _ (fun _ => HSB.out _ HBB.out) ?_
    clear hK K
    try simp only [Act.put, List.setIfInBounds_toArray, List.set_cons_zero, List.set_cons_succ]
    refine wpU_one (i := 15) (by kernel_rfl) rfl (fun K hK => ?_)
    go_simp
    refine hK.out _ _ (fun h => absurd (show true = false from h) (by decide)) ?_
    clear hK K
    try simp only [Act.put, List.setIfInBounds_toArray, List.set_cons_zero, List.set_cons_succ]
    refine wpU_one (i := 16) (by kernel_rfl) rfl (fun K hK => ?_)
    go_simp
    refine hK.out _ _ (fun h => absurd (show true = false from h) (by decide)) ?_
    clear hK K
    try simp only [Act.put, List.setIfInBounds_toArray, List.set_cons_zero, List.set_cons_succ]
    have hbB := HBB.out
    unfold bx6 at hbB
    have q4 : wB.cell? ⟨fb, 0 + 4, none⟩ = some (.slice am n cm) := by simp [World.cell?, hbB]
    have f4 : wB.frozen? ⟨fb, 0 + 4, none⟩ = false := by simp [World.frozen?, hbB]
    have q5 : wB.cell? ⟨fb, 0 + 5, none⟩ = some (.slice as' n cs) := by simp [World.cell?, hbB]
    have f5 : wB.frozen? ⟨fb, 0 + 5, none⟩ = false := by simp [World.frozen?, hbB]
    clear hbB
    refine wpU_one (i := 17) (by kernel_rfl) rfl (fun K hK => ?_)
    go_simp
    refine hK.out _ _ (fun h => absurd (show true = false from h) (by decide)) ?_
    clear hK K
    try simp only [Act.put, List.setIfInBounds_toArray, List.set_cons_zero, List.set_cons_succ]
    refine wpU_one (i := 18) (by kernel_rfl) rfl (fun K hK => ?_)
    go_simp
    refine hK.out _ _ (fun h => absurd (show true = false from h) (by decide)) ?_
    clear hK K
    try simp only [Act.put, List.setIfInBounds_toArray, List.set_cons_zero, List.set_cons_succ]
    refine wpU_one (i := 19) (by kernel_rfl) rfl (fun K hK => ?_)
    go_simp
    refine hK.out _ _ (fun h => absurd (show true = false from h) (by decide)) ?_
    clear hK K
    try simp only [Act.put, List.setIfInBounds_toArray, List.set_cons_zero, List.set_cons_succ]
    refine wpU_one (i := 20) (by kernel_rfl) rfl (fun K hK => ?_)
    go_simp
    refine hK.out _ _ (fun h => absurd (show true = false from h) (by decide)) ?_
    clear hK K
    try simp only [Act.put, List.setIfInBounds_toArray, List.set_cons_zero, List.set_cons_succ]
    refine wpU_done (by kernel_rfl) ?_ _
    go_wp2_with fail
    first | exact HE.out | exact bodyPost_end (results_none Try.results101 _ _ _) rfl HE.out
end Ea
end Go.Proofs.Ytjpmebppdcclbaa
namespace Go.Proofs.Ytjpmebppdcclbaa
namespace Ht
open Rp Hl
theorem plan_closed {K : List Rule} {lf : Sym → Nat → Nat → Option Val} {em : Nat → Nat → Option Val} {n : Nat} {ok : Sym → Prop} {M : Nat} {I : Tb → Prop} {mu : Tb → Nat} (P : Plan K lf em n ok M (fun _ _ _ T => I T) mu) : ∃ T, I T ∧ ClosedT K lf em n T := by
  have key : ∀ m T, I T → mu T ≤ m → ∃ T, I T ∧ ClosedT K lf em n T := by
    intro m
    induction m with
    | zero =>
      intro T hT hm
      refine ⟨T, hT, fun r hr i j hij hj => ?_⟩
      obtain ⟨a, ha, e⟩ := List.mem_iff_getElem.1 hr
      cases hb : better lf em T r i j with
      | false => rfl
      | true => have := (P.yes a i j T r (by rw [List.getElem?_eq_getElem ha, e]) hij hj hT hb).2; omega
    | succ m ih =>
      intro T hT hm
      by_cases hc : ClosedT K lf em n T
      · exact ⟨T, hT, hc⟩
      · unfold ClosedT at hc
        simp only [Classical.not_forall] at hc
        obtain ⟨r, hr, i, j, hij, hj, hb⟩ := hc
        obtain ⟨a, ha, e⟩ := List.mem_iff_getElem.1 hr
        have hb' : better lf em T r i j = true := by simpa using hb
        obtain ⟨h1, h2⟩ := P.yes a i j T r (by rw [List.getElem?_eq_getElem ha, e]) hij hj hT hb'
        exact ih _ h1 (by omega)
  exact key (mu _) _ P.start (Nat.le_refl _)
theorem sh_ex {K : List Rule} {N tm : Nat} (hN : N ≤ 10) (hK : KG N K (Hl.okS N tm)) (hr4 : ∀ r ∈ K, r.right.length ≤ 4) : ∃ S, CG leafS emS 0 N K (GS tm) S ∧ JS N S ∧ ClosedT K leafS emS 0 S := by
  obtain ⟨T, ⟨h1, h2⟩, h3⟩ := plan_closed (planSh hN hK hr4)
  exact ⟨T, h1, h2, h3⟩
structure NI (K : List Rule) (lf : Sym → Nat → Prop) (S : Int) (j : Nat) (L : Nat → List Itm) : Prop where
  gs : GS2 K lf S j L
  sd : ∀ i, i ≤ j → ∀ x ∈ L i, Sd K lf S i x
  nd : ∀ i, i ≤ j → (L i).Nodup
  em : ∀ i, j < i → L i = []
section
variable {K : List Rule} {lf : Sym → Nat → Prop} {S : Int} {j : Nat} {L : Nat → List Itm}
theorem sd_ok {k : Nat} {x : Itm} (h : Sd K lf S k x) : okI K k x := by
  obtain ⟨r, h1, h2, _, h4⟩ := h
  exact ⟨R0.le (fun s i j hp => Dx.le hp) h4, r, h1, h2⟩
theorem NI.len (h : NI K lf S j L) (hr4 : ∀ r ∈ K, r.right.length ≤ 4) (hk : K.length ≤ 100) (hj : j ≤ 50) : ∀ i, i ≤ j → (L i).length ≤ 50000 := by
  intro i hi
  have h1 := items_le hr4 (fun x hx => sd_ok (h.sd i hi x hx)) (h.nd i hi)
  have h2 : K.length * 5 * (i + 1) ≤ 100 * 5 * 100 := Nat.mul_le_mul (Nat.mul_le_mul_right _ hk) (by omega)
  omega
theorem ok_lt {k : Nat} {x : Itm} (h : okI K k x) : x.r < K.length := by
  obtain ⟨_, r, h2, _⟩ := h
  rcases Nat.lt_or_ge x.r K.length with h | h
  · exact h
  · rw [List.getElem?_eq_none h] at h2; cases h2
theorem NI.rule (h : NI K lf S j L) : ∀ i, i ≤ j → ∀ y ∈ L i, y.r < K.length := fun i hi y hy => ok_lt (sd_ok (h.sd i hi y hy))
theorem upL_at' (L : Nat → List Itm) (k : Nat) (c : List Itm) : upL L k c k = c := by unfold upL; rw [if_pos rfl]
theorem upL_ne (L : Nat → List Itm) {k i : Nat} (c : List Itm) (h : i ≠ k) : upL L k c i = L i := by unfold upL; rw [if_neg h]
theorem start_qok : QOk K 0 (upL (fun _ => []) 0 (prF K ⟨false, S⟩ 0 [])) (fun x => Sd K lf S 0 x ∧ x.f ≤ 0) := by
  refine qok_sd fun i hi x hx => ?_
  obtain rfl : i = 0 := by omega
  rw [upL_at'] at hx
  rcases mem_addF.1 hx with h | ⟨a, _, h⟩
  · cases h
  · obtain ⟨r, h1, h2, rfl⟩ := prP_some.1 h
    exact sd_start h1 (by cases h2; rfl)
theorem ni_start {c : List Itm} (h : CoI 0 (upL (fun _ => []) 0 (prF K ⟨false, S⟩ 0 [])) (fun x => Sd K lf S 0 x ∧ x.f ≤ 0) c) (hc : ∀ x ∈ c, Clo K 0 (upL (fun _ => []) 0 c) x) : NI K lf S 0 (upL (fun _ => []) 0 c) := by
  refine ⟨⟨?_, fun k hk x hx => ?_, fun k hk => by omega⟩, fun i hi x hx => ?_, fun i hi => ?_, fun i hi => upL_ne _ _ (by omega)⟩
  · rw [upL_at']
    intro i r hr hs
    have h1 := h.pre
    rw [upL_at'] at h1
    refine h1.subset (mem_addF.2 (.inr ⟨i, ?_, prP_some.2 ⟨r, hr, hs, rfl⟩⟩))
    rw [List.mem_range]
    rcases Nat.lt_or_ge i K.length with h | h
    · exact h
    · rw [List.getElem?_eq_none h] at hr; cases hr
  · obtain rfl : k = 0 := by omega
    rw [upL_at'] at hx
    exact hc x hx
  · obtain rfl : i = 0 := by omega
    rw [upL_at'] at hx
    exact (h.q x hx).1
  · obtain rfl : i = 0 := by omega
    rw [upL_at']; exact h.nd
theorem step_qok {cell : Sym} (h : NI K lf S j L) (hlf : ∀ x ∈ L j, ∀ s, nxt K x = some s → (lf s j ↔ fitB s cell = true)) : QOk K (j + 1) (upL L (j + 1) (addF (scP K cell) [] (L j))) (fun x => Sd K lf S (j + 1) x ∧ x.f ≤ j + 1) := by
  refine qok_sd fun i hi x hx => ?_
  by_cases e : i = j + 1
  · subst e
    rw [upL_at'] at hx
    rcases mem_addF.1 hx with h1 | ⟨y, hy, h1⟩
    · cases h1
    · obtain ⟨s, h2, h3, rfl⟩ := scP_some.1 h1
      exact sd_adv (h.sd j (Nat.le_refl _) y hy) h2 ⟨0, rfl, (hlf y hy s h2).2 h3⟩
  · rw [upL_ne _ _ e] at hx
    exact h.sd i (by omega) x hx
theorem ni_step {cell : Sym} {c : List Itm} (h : NI K lf S j L) (hlf : ∀ x ∈ L j, ∀ s, nxt K x = some s → (lf s j ↔ fitB s cell = true)) (hc : CoI (j + 1) (upL L (j + 1) (addF (scP K cell) [] (L j))) (fun x => Sd K lf S (j + 1) x ∧ x.f ≤ j + 1) c) (hcl : ∀ x ∈ c, Clo K (j + 1) (upL L (j + 1) c) x) : NI K lf S (j + 1) (upL L (j + 1) c) := by
  refine ⟨⟨?_, fun k hk x hx => ?_, fun k hk x hx s hs hl => ?_⟩, fun i hi x hx => ?_, fun i hi => ?_, fun i hi => ?_⟩
  · rw [upL_ne _ _ (by omega)]; exact h.gs.start
  · by_cases e : k = j + 1
    · subst e
      rw [upL_at'] at hx
      exact hcl x hx
    · rw [upL_ne _ _ e] at hx
      have h1 := h.gs.clo k (by omega) x hx
      have h2 := (sd_ok (h.sd k (by omega) x hx)).1
      unfold Clo at h1 ⊢
      rw [upL_ne _ _ e, upL_ne _ _ (show x.f ≠ j + 1 by omega)]
      exact h1
  · by_cases e : k = j
    · subst e
      rw [upL_ne _ _ (by omega)] at hx
      rw [upL_at']
      have h1 := hc.pre
      rw [upL_at'] at h1
      exact h1.subset (mem_addF.2 (.inr ⟨x, hx, scP_some.2 ⟨s, hs, (hlf x hx s hs).1 hl, rfl⟩⟩))
    · rw [upL_ne _ _ (by omega)] at hx
      rw [upL_ne _ _ (by omega)]
      exact h.gs.scan k (by omega) x hx s hs hl
  · by_cases e : i = j + 1
    · subst e
      rw [upL_at'] at hx
      exact (hc.q x hx).1
    · rw [upL_ne _ _ e] at hx
      exact h.sd i (by omega) x hx
  · by_cases e : i = j + 1
    · subst e; rw [upL_at']; exact hc.nd
    · rw [upL_ne _ _ e]; exact h.nd i (by omega)
  · rw [upL_ne _ _ (by omega)]; exact h.em i (by omega)
end
theorem kw_cell {K : List Rule} {N : Nat} {hw : Sym → Bool} {l : List Sym} {k : Nat} (hk : k < l.length) {x : Itm} {s : Sym} (hn : nxt (KW K hw) x = some s) : lfB hw N l s k ↔ fitB s l[k] = true := by
  obtain ⟨r, h1, h2⟩ := nxt_some.1 hn
  have h3 := (mem_KW.1 (List.mem_of_getElem? h1)).2 s (List.mem_of_getElem? h2)
  have e : l.getD k ⟨true, 0⟩ = l[k] := by rw [List.getD_eq_getElem?_getD, List.getElem?_eq_getElem hk]; rfl
  unfold lfB
  rw [e]
  constructor
  · exact fun h => h.2.1
  · intro h
    refine ⟨hk, h, ?_⟩
    unfold hwS at h3
    rw [Bool.or_eq_true] at h3
    exact h3.elim .inl (fun h => .inr (.inr h))
theorem next_it {K : List Rule} {N tm : Nat} {hw : Sym → Bool} {l : List Sym} {S t : Int} (hK : KG N K (Hl.okS N tm)) (hH : HW K hw) (hl : ∀ c ∈ l, cellOk N tm c) (hS : 0 ≤ S) (ht : 0 ≤ t) :
    (hw ⟨false, S⟩ = true ∧ Dx (KO K N hw) (lfB hw N (l ++ [⟨true, t⟩])) ⟨false, S + N⟩ 0 (l.length + 1)) ↔ It (KW K hw) (lfB hw N l) S l.length t := by
  have hc : ∀ s i, i < l.length → (lfB hw N (l ++ [⟨true, t⟩]) s i ↔ lfB hw N l s i) := fun s i hi => lf_cells hi
  constructor
  · rintro ⟨_, h⟩
    exact it_cells hc ((begins_iff hK hH hl hS ht).1 h)
  · intro h
    refine ⟨?_, (begins_iff hK hH hl hS ht).2 (it_cells (fun s i hi => (hc s i hi).symm) h)⟩
    cases e : hw ⟨false, S⟩ with
    | true => rfl
    | false => exact absurd h (it_none hH e)
end Ht
end Go.Proofs.Ytjpmebppdcclbaa
