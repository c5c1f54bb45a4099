/- parlref5.heights.row. parlref5.heights.up. The contracts of gram.T and gram.N. census.check and census.Trees. census.Trees. -/
import Derived.Test.YtbnpemgmdnghgaaJCensusTellsRow10
import Derived.Test.YtbnpemgmdnghgaaJCensusTellsRow11
import Derived.Deep.CutBlock
import Derived.Test.YtbnpemgmdnghgaaJCensusTellsRow9
import Derived.Test.YtbnpemgmdnghgaaJCensusTellsRow1
namespace Go.Proofs.Ytbnpemgmdnghgaa
open Go.RowKit
namespace Cs

set_option maxHeartbeats 16000000 in
set_option maxRecDepth 100000 in
theorem rowE {gt gs : Int} {vr : Value} {N n : Nat} {d : Hs} {c c' : Nat → Nat → Nat} (hcc : ∀ A i, c' A i ≤ c A i) (hN : N ≤ 10) (hn : n ≤ 24) (R : List Sym) (hR : ∀ s ∈ R, okS N s) (av : Option Addr) (cv : Nat) {w1 : World}
    (h : HI gt gs vr N n d (fun a k => cap9 (c a k)) (fun a k => decide (0 < c a k)) (fun a k => decide (c' a k < c a k)) w1) (hrd : Rd AnyB w1 (.sl (R.map Sym.d)) [.slice av R.length cv]) (W : World) (hW : Below w1.heap.size w1 W) :
    Calls Try.prog 58 #[.pointer (some ⟨d.hb, 0, none⟩), .slice av R.length cv] W (RowPost n c c' R W) := by
  obtain ⟨PST, HP⟩ := nameIt (RowPost n c c' R W)
  rw [HP.out]
  obtain ⟨m, HM⟩ := nameIt (n + 1)
  have HFIN : Hid (∀ p1 p2 p3 w', R3 W.heap.size p1 p2 p3 m (v1 c R) (v2 c R) (v3 c c' R) w' → Below W.heap.size W w' → PST (.returned (.tuple #[.slice (some ⟨p1, 0, none⟩) m m, .slice (some ⟨p2, 0, none⟩) m m, .slice (some ⟨p3, 0, none⟩) m m])) w') := by
    intro p1 p2 p3 w' h1 h2
    rw [← HP.out]
    rw [← HM.out] at h1 ⊢
    exact ⟨p1, p2, p3, rfl, h1, h2⟩
  have hm1 : 1 ≤ m := by have := HM.out; omega
  have hm2 : m ≤ 25 := by have := HM.out; omega
  have hmn : n < m := by have := HM.out; omega
  have hm0 : (0 : Int) < (m : Int) := by omega
  have HMZ : Hid (((n : Int) + 1) = (m : Int)) := by show _ = _; rw [← HM.out]; omega
  have hw1 : IntKind.i64.wrap ((n : Int) + 1) = (m : Int) := by rw [IntWalk.i64_in _ (by omega), HMZ.out]
  have hmkI : ∀ W : World, (Instr.makeSlice 33 (.int .i64 (m : Int)) (.int .i64 (m : Int))).run Try.prog W = .ok (.slice (some ⟨W.heap.size, 0, none⟩) m m) (W.alloc (.cells (madeCells #[.int .i64 0] m) 3)) := fun W => by
    have := run_make_row' (P := Try.prog) 33 3 (.int .i64 0) 8 Try.underlying33 (by kernel_rfl) rfl .i64 .i64 m (by omega) (by omega) W
    simpa using this
  have hmkB : ∀ W : World, (Instr.makeSlice 51 (.int .i64 (m : Int)) (.int .i64 (m : Int))).run Try.prog W = .ok (.slice (some ⟨W.heap.size, 0, none⟩) m m) (W.alloc (.cells (madeCells #[.bool false] m) 4)) := fun W => by
    have := run_make_row' (P := Try.prog) 51 4 (.bool false) 1 Try.underlying51 (by kernel_rfl) rfl .i64 .i64 m (by omega) (by omega) W
    simpa using this
  have hbs := hrd.bounds.2
  unfold maxLen at hbs
  obtain ⟨hcv1, hcv2⟩ := hbs
  have HKR := Lib.hid hrd
  have HOKS := Lib.hid hR
  have HCC := Lib.hid hcc
  have hhb := (Array.getElem?_eq_some_iff.1 h.box).1
  have HBX : Hid (∀ W', Below w1.heap.size w1 W' → W'.cell? ⟨d.hb, 0 + 4, none⟩ = some (.int .i64 (n : Int)) ∧ W'.cell? ⟨d.hb, 0 + 5, none⟩ = some (.slice (some ⟨d.tm, 0, none⟩) N N) ∧ W'.cell? ⟨d.hb, 0 + 6, none⟩ = some (.slice (some ⟨d.ta, 0, none⟩) N N) ∧ W'.cell? ⟨d.hb, 0 + 7, none⟩ = some (.slice (some ⟨d.tj, 0, none⟩) N N)) := fun W' hb => (bx_cells8 ((hb.block d.hb hhb).trans h.box)).2.2.2.2
  have HTB : Hid (∀ W' a k, Below w1.heap.size w1 W' → a < N → k < m →
      (W'.cell? ⟨d.tm, a, none⟩ = some (.slice (some ⟨d.rm a, 0, none⟩) m m) ∧ W'.cell? ⟨d.rm a, k, none⟩ = some (.int .i64 (cap9 (c a k)))) ∧
      (W'.cell? ⟨d.ta, a, none⟩ = some (.slice (some ⟨d.ra a, 0, none⟩) m m) ∧ W'.cell? ⟨d.ra a, k, none⟩ = some (.bool (decide (0 < c a k)))) ∧
      (W'.cell? ⟨d.tj, a, none⟩ = some (.slice (some ⟨d.rj a, 0, none⟩) m m) ∧ W'.cell? ⟨d.rj a, k, none⟩ = some (.bool (decide (c' a k < c a k))))) := by
    intro W' a k hb ha hk
    rw [← HM.out] at hk ⊢
    have f1 := h.tm.head ha
    have f2 := h.tm.cell ha hk
    have f3 := h.ta.head ha
    have f4 := h.ta.cell ha hk
    have f5 := h.tj.head ha
    have f6 := h.tj.cell ha hk
    exact ⟨⟨(hb.cell (lt_of_cell f1)).trans f1, (hb.cell (lt_of_cell f2)).trans f2⟩, ⟨(hb.cell (lt_of_cell f3)).trans f3, (hb.cell (lt_of_cell f4)).trans f4⟩, ⟨(hb.cell (lt_of_cell f5)).trans f5, (hb.cell (lt_of_cell f6)).trans f6⟩⟩
  have HWW := Lib.hid hW
  obtain ⟨hb, HHB⟩ := nameIt d.hb
  rw [HHB.out] at HBX
  rw [HHB.out]
  have HSN3 : Hid (∀ W', Below W.heap.size W W' → W'.cell? ⟨hb, 0 + 4, none⟩ = some (.int .i64 (n : Int))) := fun W' hb => (HBX.out _ (HWW.out.trans (hb.mono HWW.out.size))).1
  clear hrd hR h hW hhb HP hcc
  go_enter Try.func58, Try.ntmps58
  go_upto_region 1 with fail
  go_cut [7, 8, 9] (fun t7 t8 t9 wx => ∃ p1 p2 p3, t7 = .slice (some ⟨p1, 0, none⟩) m m ∧ t8 = .slice (some ⟨p2, 0, none⟩) m m ∧ t9 = .slice (some ⟨p3, 0, none⟩) m m ∧ Hid (R3 W.heap.size p1 p2 p3 m (fun _ => 0) (fun _ => false) (fun _ => false) wx) ∧ Hid (Below W.heap.size W wx))
  case first =>
    refine row_r1 hm1 hm2 hw1 hmkI hmkB HSN3 _ _ _ _ _ _ _ _ _ _ _ _ _ _ _ _ _ _ _ _ _ _ _ _ _ _ _ _ _ _ _ _ _ _ _ _ _ _ _ _ _ _ _ _ _ _ _ _ _ _ _ _ _ _ _ _ _ _ _ _ _ _ _ _ _ _ _ _ _ _ _ _ _ _ _ _ _ _ _ _ _ _ _ _ _ _ _ _ _ _ _ _ _ _ _ _ _ _ _ _ _ _ _ _ _ _ _ _ _ _ _ _ _ _ _ _ _ _ _ _ _ _ _ _ _ _ _ _ _ _ _ _ _ _ _ _ _ _ _ _ _ _ _ _ _ _ _ _ _ _ _ _ _ _ _ _ _ _ _ _ _ _ _ _ _ _ _ _ _ _ _ _ _ _ _ _ _ _ _ _ _ _ _ _ _ _ _ _ _ _ _ _ _ _ _ _ _ (fun _ _ t _ _ h => by cases t <;> exact h) ?_
    intro g1 g2 g3 b0 b1 b2 b3 b4 b5 b6 b7 b8 b9 b10 b11 b12 b13 b14 b15 b16 b17 wx HRX HBX3
    first | go_meet | (go_wp2_with fail; go_meet)
    exact ⟨g1, g2, g3, rfl, rfl, rfl, HRX, HBX3⟩
  case rest =>
    obtain ⟨p1, p2, p3, rfl, rfl, rfl, HR3, HB3⟩ := hcut
    obtain ⟨wx, rfl⟩ : ∃ ww : World, ww = wc := ⟨_, rfl⟩
    have HL0 := Lib.hid HR3.out.lo
    have e1 := HR3.out.r1.cell (k := 0) hm1
    have f1 := HR3.out.r1.free 0
    have e2 := HR3.out.r2.cell (k := 0) hm1
    have f2 := HR3.out.r2.free 0
    have hne : ¬ p1 = p2 := HR3.out.ne.1
    have hne' : ¬ p2 = p1 := fun e => HR3.out.ne.1 e.symm
    have HR0 : Hid (R3 W.heap.size p1 p2 p3 m (v1 c (R.take 0)) (v2 c (R.take 0)) (v3 c c' (R.take 0)) ((wx.setCell ⟨p1, 0, none⟩ (.int .i64 1)).setCell ⟨p2, 0, none⟩ (.bool true))) := by
      refine (((HR3.out.set1 (V1' := fun k => if k = 0 then 1 else 0) hm1 (fun k _ => rfl)).set2 (V2' := fun k => if k = 0 then true else false) hm1 (fun k _ => rfl)).eq (fun k _ => ?_) (fun k _ => ?_) (fun k _ => ?_))
      · by_cases e : k = 0 <;> simp [v1, cN, cap9, e] <;> omega
      · by_cases e : k = 0 <;> simp [v2, cN, e]
      · simp [v3, cN]
    have HB0 : Hid (Below W.heap.size W ((wx.setCell ⟨p1, 0, none⟩ (.int .i64 1)).setCell ⟨p2, 0, none⟩ (.bool true))) := (HB3.out.setCell (p := ⟨p1, 0, none⟩) HL0.out.1 _).setCell (p := ⟨p2, 0, none⟩) HL0.out.2.1 _
    obtain ⟨w2, HW2⟩ := nameIt ((wx.setCell ⟨p1, 0, none⟩ (.int .i64 1)).setCell ⟨p2, 0, none⟩ (.bool true))
    rw [HW2.out] at HR0 HB0
    clear HR3 HB3
    go_upto_region 3 with fail
    rw [HW2.out]
    clear e1 e2 f1 f2 hne hne' HW2 HL0
    go_wp2_with fail
    go_loopg [7, 8, 9, 44] R.length (fun gg v7 v8 v9 v44 wr => ∃ (q q1 q2 q3 : Nat), q ≤ R.length ∧ R.length - q ≤ gg ∧ v44 = .int .i64 q ∧ v7 = .slice (some ⟨q1, 0, none⟩) m m ∧ v8 = .slice (some ⟨q2, 0, none⟩) m m ∧ v9 = .slice (some ⟨q3, 0, none⟩) m m ∧ Hid (R3 W.heap.size q1 q2 q3 m (v1 c (R.take q)) (v2 c (R.take q)) (v3 c c' (R.take q)) wr) ∧ Hid (Below W.heap.size W wr))
    case atStart => exact ⟨0, p1, p2, p3, by omega, by omega, rfl, rfl, rfl, rfl, HR0, HB0⟩
    case round =>
      clear HR0 HB0
      obtain ⟨wq, rfl⟩ : ∃ wq : World, wq = wr := ⟨_, rfl⟩
      obtain ⟨q, q1, q2, q3, hq, hgq, rfl, rfl, rfl, rfl, HRQ, HBQ⟩ := hrel
      have HBW := Lib.hid (HWW.out.trans (HBQ.out.mono HWW.out.size))
      by_cases hqR : q < R.length
      · have hqR' : (q : Int) < (R.length : Int) := by omega
        obtain ⟨b', off', hae', -, hbl', d0, d1⟩ := HKR.out.sym_at hqR
        have e0 := (HBW.out.cell (p := ⟨b', off' + q * 2, none⟩) (lt_of_cell d0)).trans d0
        have e1 := (HBW.out.cell (p := ⟨b', off' + q * 2 + 1, none⟩) (lt_of_cell d1)).trans d1
        have HTK : Hid (R.take (q + 1) = R.take q ++ [R[q]'hqR]) := List.take_succ_eq_append_getElem hqR
        have hsb := HOKS.out R[q] (List.getElem_mem hqR)
        obtain ⟨s, HSn⟩ := nameIt (R[q]'hqR)
        rw [HSn.out] at e0 e1 HTK hsb
        unfold okS at hsb
        obtain ⟨l, HL⟩ := nameIt (R.take q)
        rw [HL.out] at HRQ HTK
        obtain ⟨stb, HST⟩ := nameIt s.term
        obtain ⟨sn, HSN⟩ := nameIt s.n
        rw [HST.out] at e0 hsb
        rw [HSN.out] at e1 hsb
        obtain ⟨w7, HW7⟩ := nameIt (wq.alloc (.cells #[.bool stb, .int .i64 sn] 65))
        have hb7 : Below wq.heap.size wq w7 := by rw [← HW7.out]; exact (Below.refl _ _).alloc (Nat.le_refl _) _
        have X7 : Hid (w7.heap[wq.heap.size]? = some (.cells #[.bool stb, .int .i64 sn] 65 (0, 0))) := by rw [← HW7.out]; exact bx_new _ _ _ rfl
        have hs7 : w7.heap.size = wq.heap.size + 1 := by rw [← HW7.out]; simp
        have HR7 := Lib.hid (HRQ.out.keep hb7)
        have HB7 := Lib.hid (HBQ.out.trans (hb7.mono HBQ.out.size))
        have HPL : Hid (q1 < wq.heap.size ∧ q2 < wq.heap.size ∧ q3 < wq.heap.size ∧ W.heap.size ≤ wq.heap.size) := ⟨HRQ.out.r1.lt, HRQ.out.r2.lt, HRQ.out.r3.lt, HBQ.out.size⟩
        obtain ⟨sx, HSX⟩ := nameIt wq.heap.size
        rw [HSX.out] at X7 HPL hs7
        have hbl8 : b' < wq.heap.size := Nat.lt_of_lt_of_le hbl' HBW.out.size
        replace HSN3 : Hid (∀ W', Below w7.heap.size w7 W' → W'.cell? ⟨hb, 0 + 4, none⟩ = some (.int .i64 (n : Int))) := fun W' hb => (HBX.out _ (HWW.out.trans ((HB7.out.trans (hb.mono HB7.out.size)).mono HWW.out.size))).1
        subst hae'
        clear d0 d1 hb7
        go_upto_region 6 with fail
        rw [HW7.out, HSX.out]
        clear e0 e1 hbl8 HW7
        go_cut [12, 13, 14] (fun t12 t13 t14 wx => ∃ g1 g2 g3, t12 = .slice (some ⟨g1, 0, none⟩) m m ∧ t13 = .slice (some ⟨g2, 0, none⟩) m m ∧ t14 = .slice (some ⟨g3, 0, none⟩) m m ∧ Hid (R3 w7.heap.size g1 g2 g3 m (fun _ => 0) (fun _ => false) (fun _ => false) wx) ∧ Hid (Below w7.heap.size w7 wx))
        case first =>
          refine row_r6 hm1 hm2 hw1 hmkI hmkB HSN3 _ _ _ _ _ _ _ _ _ _ _ _ _ _ _ _ _ _ _ _ _ _ _ _ _ _ _ _ _ _ _ _ _ _ _ _ _ _ _ _ _ _ _ _ _ _ _ _ _ _ _ _ _ _ _ _ _ _ _ _ _ _ _ _ _ _ _ _ _ _ _ _ _ _ _ _ _ _ _ _ _ _ _ _ _ _ _ _ _ _ _ _ _ _ _ _ _ _ _ _ _ _ _ _ _ _ _ _ _ _ _ _ _ _ _ _ _ _ _ _ _ _ _ _ _ _ _ _ _ _ _ _ _ _ _ _ _ _ _ _ _ _ _ _ _ _ _ _ _ _ _ _ _ _ _ _ _ _ _ _ _ _ _ _ _ _ _ _ _ _ _ _ _ _ _ _ _ _ _ _ _ _ _ _ _ _ _ _ _ _ _ _ _ _ _ _ _ (fun _ _ t _ _ h => by cases t <;> exact h) ?_
          intro g1 g2 g3 b0 b1 b2 b3 b4 b5 b6 b7 b8 b9 b10 b11 b12 b13 b14 b15 b16 b17 wx HRX HBX3
          first | go_meet | (go_wp2_with fail; go_meet)
          exact ⟨g1, g2, g3, rfl, rfl, rfl, HRX, HBX3⟩
        case rest =>
          obtain ⟨g1, g2, g3, rfl, rfl, rfl, HG3, HB3⟩ := hcut
          obtain ⟨wy, rfl⟩ : ∃ ww : World, ww = wc := ⟨_, rfl⟩
          have HRI0 : Hid (RX W sx #[.bool stb, .int .i64 sn] q1 q2 q3 g1 g2 g3 m (v1 c l) (v2 c l) (v3 c c' l) (u1 c l s 0 0) (u2 c l s 0 0) (u3 c c' l s 0 0) wy) := by
            refine ⟨HB7.out.trans (HB3.out.mono HB7.out.size), bx_keep X7.out HB3.out, HR7.out.keep HB3.out, ?_, HPL.out⟩
            rw [← hs7]
            exact HG3.out.eq (fun k _ => by unfold u1; rw [ps_zero]; unfold cap9; omega) (fun k _ => by simp [u2, ps_zero]) (fun k _ => by simp [u3, ps_zero])
          have h4 := HSN3.out wy HB3.out
          clear HG3 HR7 HRQ X7 hs7 HSX HB3
          go_wp2_with fail
          clear h4
          go_loopg [15, 16, 17, 18, 19, 71] m (fun gg v15 v16 v17 v18 v19 v71 wr => ∃ x : Nat, x ≤ m ∧ m - x ≤ gg ∧ v71 = .int .i64 x ∧ Hid (RX W sx #[.bool stb, .int .i64 sn] q1 q2 q3 g1 g2 g3 m (v1 c l) (v2 c l) (v3 c c' l) (u1 c l s x 0) (u2 c l s x 0) (u3 c c' l s x 0) wr))
          case atStart => exact ⟨0, by omega, by omega, rfl, HRI0⟩
          case round =>
            clear HRI0
            obtain ⟨x, hx, hgx, rfl, HRI⟩ := hrel
            by_cases hxm : x < m
            · have hxm' : (x : Int) < (m : Int) := by omega
              have hx0 : (0 : Int) ≤ (x : Int) := by omega
              have HRJ := HRI
              go_wp2_with fail
              go_loopg [16, 17, 18, 19] m (fun gg v16 v17 v18 v19 wr => ∃ y : Nat, y ≤ m ∧ m - y ≤ gg ∧ v16 = .int .i64 y ∧ Hid (RX W sx #[.bool stb, .int .i64 sn] q1 q2 q3 g1 g2 g3 m (v1 c l) (v2 c l) (v3 c c' l) (u1 c l s x y) (u2 c l s x y) (u3 c c' l s x y) wr))
              case atStart => exact ⟨0, by omega, by omega, rfl, HRJ⟩
              case round =>
                clear HRJ HRI
                obtain ⟨y, hy, hgy, rfl, HRI⟩ := hrel
                obtain ⟨wl, rfl⟩ : ∃ ww : World, ww = wr := ⟨_, rfl⟩
                have hil : IntKind.i64.wrap ((x : Int) + (y : Int)) = (x : Int) + (y : Int) := IntWalk.i64_in _ (by omega)
                have hbl := HWW.out.trans (HRI.out.bel.mono HWW.out.size)
                have t4 := (HBX.out wl hbl).1
                have HBL := Lib.hid hbl
                clear hbl
                by_cases hle : x + y < m
                · have hle' : (x : Int) + (y : Int) ≤ (n : Int) := by have := HM.out; omega
                  have hle2 : decide ((x : Int) + (y : Int) ≤ (n : Int)) = true := by simpa using hle'
                  go_upto_block 5 with fail
                  go_cut [17, 18, 19] (fun t17 t18 t19 wx => Hid (RX W sx #[.bool stb, .int .i64 sn] q1 q2 q3 g1 g2 g3 m (v1 c l) (v2 c l) (v3 c c' l) (u1 c l s x (y + 1)) (u2 c l s x (y + 1)) (u3 c c' l s x (y + 1)) wx))
                  case first =>
                    refine row_blk HCC HM hm2 hN HBX HTB HBL HST HSN hsb hxm hle HRI _ _ _ _ _ _ _ _ _ _ _ _ _ _ _ _ _ _ _ _ _ _ _ _ _ _ _ _ _ _ _ _ _ _ _ _ _ _ _ _ _ _ _ _ _ _ _ _ _ _ _ _ _ _ _ _ _ _ _ _ _ _ _ _ _ _ _ _ _ _ _ _ _ _ _ _ _ _ _ _ _ _ _ _ _ _ _ _ _ _ _ _ _ _ _ _ _ _ _ _ _ _ _ _ _ _ _ _ _ _ _ _ _ _ _ _ _ _ _ _ _ _ _ _ _ _ _ _ _ _ _ _ _ _ _ _ _ _ _ _ _ _ _ _ _ _ _ _ _ _ _ _ _ _ _ _ _ _ _ _ _ _ _ _ _ _ _ _ _ _ _ _ _ _ _ _ _ _ _ _ _ _ _ _ _ _ _ _ ?_
                    intro b0 b1 b2 b3 b4 b5 b6 b7 b8 b9 b10 b11 b12 b13 b14 b15 b16 b17 b18 b19 b20 b21 b22 b23 b24 b25 b26 b27 b28 b29 b30 b31 b32 b33 b34 b35 b36 b37 b38 b39 b40 b41 b42 b43 b44 b45 b46 b47 b48 b49 b50 b51 b52 b53 b54 b55 b56 b57 b58 b59 b60 b61 b62 b63 b64 b65 b66 b67 b68 b69 b70 b71 b72 b73 b74 b75 b76 b77 b78 b79 b80 b81 b82 b83 b84 b85 b86 b87 b88 b89 b90 b91 b92 b93 b94 b95 b96 b97 b98 b99 b100 b101 b102 b103 b104 b105 b106 b107 b108 wz HRZ
                    go_wp2_with fail
                    go_meet
                    exact HRZ
                  case rest =>
                    have HRZ := hcut
                    clear hcut HRI
                    obtain ⟨wz, rfl⟩ : ∃ ww : World, ww = wc := ⟨_, rfl⟩
                    clear t4
                    go_wp2_with fail
                    go_roundg (m - (y + 1))
                    case measure => omega
                    case rel => exact ⟨y + 1, by omega, by omega, by go_num, HRZ⟩
                · have hle2 : decide ((x : Int) + (y : Int) ≤ (n : Int)) = false := by have := HM.out; simp; omega
                  have HRN : Hid (RX W sx #[.bool stb, .int .i64 sn] q1 q2 q3 g1 g2 g3 m (v1 c l) (v2 c l) (v3 c c' l) (u1 c l s (x + 1) 0) (u2 c l s (x + 1) 0) (u3 c c' l s (x + 1) 0) wl) :=
                    HRI.out.eq (fun k hk => by unfold u1; rw [ps_line (n := n) (by have := HM.out; omega) (by have := HM.out; omega)]) (fun k hk => by unfold u2; rw [ps_line (n := n) (by have := HM.out; omega) (by have := HM.out; omega)]) (fun k hk => by unfold u3; rw [ps_line (n := n) (by have := HM.out; omega) (by have := HM.out; omega), ps_line (o := oN c) (n := n) (by have := HM.out; omega) (by have := HM.out; omega)])
                  go_wp2_with fail
                  go_roundg (m - (x + 1))
                  case measure => omega
                  case rel => exact ⟨x + 1, by omega, by omega, by go_num, HRN⟩
            · have hxm' : ¬ (x : Int) < (m : Int) := by omega
              have hxe : x = m := by omega
              have HBN : Hid (R3 W.heap.size g1 g2 g3 m (v1 c (R.take (q + 1))) (v2 c (R.take (q + 1))) (v3 c c' (R.take (q + 1))) wr) := by
                have hg := HRI.out.gr
                have hp := HRI.out.ps
                have hl := hg.lo
                rw [hxe, ← HM.out] at hg
                rw [HTK.out, ← HM.out]
                have hh := hg.eq (V1' := v1 c (l ++ [s])) (V2' := v2 c (l ++ [s])) (V3' := v3 c c' (l ++ [s])) (fun k hk => by unfold u1 v1; rw [ps_end (by omega)]) (fun k hk => by unfold u2 v2; rw [ps_end (by omega)]) (fun k hk => by unfold u3 v3; rw [ps_end (by omega), ps_end (by omega)])
                exact ⟨hh.r1, hh.r2, hh.r3, by omega, hh.ne⟩
              have HBL := Lib.hid HRI.out.bel
              clear hxe
              go_wp2_with fail
              go_roundg (R.length - (q + 1))
              case measure => omega
              case rel => exact ⟨q + 1, g1, g2, g3, by omega, by omega, by go_num, rfl, rfl, rfl, HBN, HBL⟩
      · have hqR' : ¬ (q : Int) < (R.length : Int) := by omega
        have hqe : R.take q = R := List.take_of_length_le (by omega)
        rw [hqe] at HRQ
        have HE := Lib.hid (HFIN.out _ _ _ _ HRQ.out HBQ.out)
        clear hqe
        go_wp2_with fail
        first | exact HE.out | (refine bodyPost_ret (results_tmp3 Try.results58 _ _ _) rfl ?_; exact HE.out)
end Cs
end Go.Proofs.Ytbnpemgmdnghgaa
namespace Go.Proofs.Ytbnpemgmdnghgaa
open Go.RowKit
namespace Cs

def nx (rules : List Rule) (c : Nat → Nat → Nat) (A k : Nat) : Nat := cR (oN c) (A : Int) k rules
theorem nx_mono {rules : List Rule} {c c' : Nat → Nat → Nat} (hcc : ∀ A i, c' A i ≤ c A i) : ∀ A i, nx rules c' A i ≤ nx rules c A i := fun _ _ => cR_mono (oN_mono hcc) _
theorem cR_snoc {o : Sym → Nat → Nat} {A : Int} {k : Nat} {r : Rule} : ∀ l : List Rule, cR o A k (l ++ [r]) = cR o A k l + if r.left = A then cN o r.right k else 0
  | [] => by simp [cR]
  | a :: l => by
    rw [List.cons_append, cR, cR, cR_snoc l]; omega
/-- the table so far: some rules, and one more at its first places -/
def pt (o : Sym → Nat → Nat) (l : List Rule) (r : Rule) (Y A k : Nat) : Nat := cR o (A : Int) k l + if r.left = (A : Int) ∧ k < Y then cN o r.right k else 0
section
variable {o o' : Sym → Nat → Nat} {l : List Rule} {r : Rule} {Y A a k m : Nat}
theorem pt_zero : pt o l r 0 A k = cR o (A : Int) k l := by simp [pt]
theorem pt_end (hk : k < m) : pt o l r m A k = cR o (A : Int) k (l ++ [r]) := by
  unfold pt
  rw [cR_snoc]
  by_cases e : r.left = (A : Int)
  · rw [if_pos ⟨e, hk⟩, if_pos e]
  · rw [if_neg (fun h => e h.1), if_neg e]
theorem pt_other (hl : r.left = (a : Int)) (h : ¬ (A = a ∧ k = Y)) : pt o l r (Y + 1) A k = pt o l r Y A k := by
  unfold pt
  by_cases e : r.left = (A : Int)
  · have : k ≠ Y := fun e2 => h ⟨by omega, e2⟩
    by_cases e3 : k < Y
    · rw [if_pos ⟨e, by omega⟩, if_pos ⟨e, e3⟩]
    · rw [if_neg (fun h => by omega), if_neg (fun h => e3 h.2)]
  · rw [if_neg (fun h => e h.1), if_neg (fun h => e h.1)]
theorem pt_here (hl : r.left = (a : Int)) : pt o l r (Y + 1) a Y = pt o l r Y a Y + cN o r.right Y := by
  unfold pt
  rw [if_pos ⟨hl, by omega⟩, if_neg (fun h => by omega)]; omega
theorem pt_mono (h : ∀ s i, o' s i ≤ o s i) : pt o' l r Y A k ≤ pt o l r Y A k := by
  unfold pt
  have h1 := cR_mono h (A := (A : Int)) (k := k) l
  have h2 := cN_mono h r.right k
  split <;> omega
theorem or_pos {x y : Nat} : (decide (0 < x) || decide (0 < y)) = decide (0 < x + y) := by
  rw [Bool.eq_iff_iff]; simp only [Bool.or_eq_true, decide_eq_true_iff]; omega
theorem or_lt {x y x' y' : Nat} (h1 : x' ≤ x) (h2 : y' ≤ y) : (decide (x' < x) || decide (y' < y)) = decide (x' + y' < x + y) := by
  rw [Bool.eq_iff_iff]; simp only [Bool.or_eq_true, decide_eq_true_iff]; omega
theorem cap9_add (x y : Nat) : (if 1000000000 < cap9 x + cap9 y then 1000000000 else cap9 x + cap9 y) = cap9 (x + y) ∧ 0 ≤ cap9 x + cap9 y ∧ cap9 x + cap9 y ≤ 2000000000 := by
  unfold cap9
  refine ⟨?_, by omega, by omega⟩
  split <;> omega
end
theorem grd_tb {tr te : TypeId} {B bt N m : Nat} {rb : Nat → Nat} {val : Nat → Nat → Value} {W : World} (h : Grd tr te B bt N m N rb val W) : Tb te B W.heap.size bt N m rb val W :=
  ⟨by obtain ⟨cs, h1, h2, h3⟩ := h.tb; exact ⟨cs, tr, h1, fun a ha => h3 a ha ha⟩, fun a ha => h.row a ha ha, fun a b ha hb e => h.inj a b ha hb ha hb e, fun a ha => ⟨(h.ne a ha ha).1, (h.ne a ha ha).2, h.rlt ha ha⟩, ⟨h.bB, h.lt⟩⟩
/-- where three tables lie -/
structure Ut where
  b1 : Nat
  b2 : Nat
  b3 : Nat
  b4 : Nat
  t1 : Nat
  t2 : Nat
  t3 : Nat
  r1 : Nat → Nat
  r2 : Nat → Nat
  r3 : Nat → Nat
structure UT (u : Ut) (N m : Nat) (M : Nat → Nat → Int) (A J : Nat → Nat → Bool) (W : World) : Prop where
  h1 : Tb 3 u.b1 u.b2 u.t1 N m u.r1 (fun a k => .int .i64 (M a k)) W
  h2 : Tb 4 u.b2 u.b3 u.t2 N m u.r2 (fun a k => .bool (A a k)) W
  h3 : Tb 4 u.b3 u.b4 u.t3 N m u.r3 (fun a k => .bool (J a k)) W
  le : u.b4 ≤ W.heap.size
section
variable {u : Ut} {N m : Nat} {M M' : Nat → Nat → Int} {A J A' J' : Nat → Nat → Bool} {W W' : World}
theorem UT.bs (h : UT u N m M A J W) : u.b1 < u.b2 ∧ u.b2 < u.b3 ∧ u.b3 < u.b4 := ⟨Nat.lt_of_le_of_lt h.h1.pl.1 h.h1.pl.2, Nat.lt_of_le_of_lt h.h2.pl.1 h.h2.pl.2, Nat.lt_of_le_of_lt h.h3.pl.1 h.h3.pl.2⟩
theorem UT.keep (h : UT u N m M A J W) (hb : Below W.heap.size W W') : UT u N m M A J W' := by
  have hs := h.bs
  have hl := h.le
  exact ⟨h.h1.keep (by omega) hb, h.h2.keep (by omega) hb, h.h3.keep (by omega) hb, Nat.le_trans h.le hb.size⟩
theorem UT.eq (h : UT u N m M A J W) (e1 : ∀ a k, a < N → k < m → M a k = M' a k) (e2 : ∀ a k, a < N → k < m → A a k = A' a k) (e3 : ∀ a k, a < N → k < m → J a k = J' a k) : UT u N m M' A' J' W :=
  ⟨h.h1.eq (fun a k ha hk => by rw [e1 a k ha hk]), h.h2.eq (fun a k ha hk => by rw [e2 a k ha hk]), h.h3.eq (fun a k ha hk => by rw [e3 a k ha hk]), h.le⟩
theorem cell_blk (W : World) {b k : Nat} (j : Nat) (v : Value) (hne : k ≠ b) (hl : k < W.heap.size) : (W.setCell ⟨b, j, none⟩ v).heap[k]? = W.heap[k]? := (grown_cell W ⟨b, j, none⟩ v).block k hl (fun e => hne (Option.some.inj e))
theorem cell_sz (W : World) {b : Nat} (j : Nat) (v : Value) : W.heap.size ≤ (W.setCell ⟨b, j, none⟩ v).heap.size := (grown_cell W ⟨b, j, none⟩ v).size
theorem UT.set1 (h : UT u N m M A J W) {a k : Nat} (ha : a < N) (hk : k < m) {x : Int} (he : ∀ b l, b < N → l < m → M' b l = if b = a ∧ l = k then x else M b l) : UT u N m M' A J (W.setCell ⟨u.r1 a, k, none⟩ (.int .i64 x)) := by
  have hs := h.bs
  have hl := h.le
  have hr := (h.h1.ne a ha).2
  exact ⟨(h.h1.set ha hk _).eq (fun b l hb hl => by rw [he b l hb hl]; split <;> rfl), h.h2.other (fun j _ _ => cell_blk W _ _ (by omega) (by omega)), h.h3.other (fun j _ _ => cell_blk W _ _ (by omega) (by omega)), Nat.le_trans h.le (cell_sz W _ _)⟩
theorem UT.set2 (h : UT u N m M A J W) {a k : Nat} (ha : a < N) (hk : k < m) {x : Bool} (he : ∀ b l, b < N → l < m → A' b l = if b = a ∧ l = k then x else A b l) : UT u N m M A' J (W.setCell ⟨u.r2 a, k, none⟩ (.bool x)) := by
  have hs := h.bs
  have hl := h.le
  have hr := (h.h2.ne a ha).2
  exact ⟨h.h1.other (fun j _ _ => cell_blk W _ _ (by omega) (by omega)), (h.h2.set ha hk _).eq (fun b l hb hl => by rw [he b l hb hl]; split <;> rfl), h.h3.other (fun j _ _ => cell_blk W _ _ (by omega) (by omega)), Nat.le_trans h.le (cell_sz W _ _)⟩
theorem UT.set3 (h : UT u N m M A J W) {a k : Nat} (ha : a < N) (hk : k < m) {x : Bool} (he : ∀ b l, b < N → l < m → J' b l = if b = a ∧ l = k then x else J b l) : UT u N m M A J' (W.setCell ⟨u.r3 a, k, none⟩ (.bool x)) := by
  have hs := h.bs
  have hl := h.le
  have hr := (h.h3.ne a ha).2
  exact ⟨h.h1.other (fun j _ _ => cell_blk W _ _ (by omega) (by omega)), h.h2.other (fun j _ _ => cell_blk W _ _ (by omega) (by omega)), (h.h3.set ha hk _).eq (fun b l hb hl => by rw [he b l hb hl]; split <;> rfl), Nat.le_trans h.le (cell_sz W _ _)⟩
end
/-- what the rounds over the places keep -/
structure UJ (W : World) (u : Ut) (N m : Nat) (M : Nat → Nat → Int) (A J : Nat → Nat → Bool) (rbx : Nat) (RB : Array Value) (p1 p2 p3 : Nat) (V1 : Nat → Int) (V2 V3 : Nat → Bool) (wr : World) : Prop where
  ut : UT u N m M A J wr
  rows : R3 u.b4 p1 p2 p3 m V1 V2 V3 wr
  box : wr.heap[rbx]? = some (.cells RB 48 (0, 0))
  bel : Below W.heap.size W wr
  lo : W.heap.size ≤ u.b1 ∧ u.b4 ≤ rbx
section
variable {W : World} {u : Ut} {N m : Nat} {M M' : Nat → Nat → Int} {A J A' J' : Nat → Nat → Bool} {rbx : Nat} {RB : Array Value} {p1 p2 p3 : Nat} {V1 : Nat → Int} {V2 V3 : Nat → Bool} {wr w' : World}
theorem UJ.keep (h : UJ W u N m M A J rbx RB p1 p2 p3 V1 V2 V3 wr) (hb : Below wr.heap.size wr w') : UJ W u N m M A J rbx RB p1 p2 p3 V1 V2 V3 w' := ⟨h.ut.keep hb, h.rows.keep hb, bx_keep h.box hb, h.bel.trans (hb.mono h.bel.size), h.lo⟩
theorem UJ.eq (h : UJ W u N m M A J rbx RB p1 p2 p3 V1 V2 V3 wr) (e1 : ∀ a k, a < N → k < m → M a k = M' a k) (e2 : ∀ a k, a < N → k < m → A a k = A' a k) (e3 : ∀ a k, a < N → k < m → J a k = J' a k) : UJ W u N m M' A' J' rbx RB p1 p2 p3 V1 V2 V3 wr := ⟨h.ut.eq e1 e2 e3, h.rows, h.box, h.bel, h.lo⟩
theorem UJ.set1 (h : UJ W u N m M A J rbx RB p1 p2 p3 V1 V2 V3 wr) {a k : Nat} (ha : a < N) (hk : k < m) {x : Int} (he : ∀ b l, b < N → l < m → M' b l = if b = a ∧ l = k then x else M b l) : UJ W u N m M' A J rbx RB p1 p2 p3 V1 V2 V3 (wr.setCell ⟨u.r1 a, k, none⟩ (.int .i64 x)) := by
  have hs := h.ut.bs
  have hr := (h.ut.h1.ne a ha).2
  have hl := h.rows.lo
  have hlo := h.lo
  exact ⟨h.ut.set1 ha hk he, h.rows.other (by omega) (by omega) (by omega) _ _, bx_other h.box (by omega) _ _, h.bel.setCell (p := ⟨u.r1 a, k, none⟩) (by show W.heap.size ≤ u.r1 a; omega) _, h.lo⟩
theorem UJ.set2 (h : UJ W u N m M A J rbx RB p1 p2 p3 V1 V2 V3 wr) {a k : Nat} (ha : a < N) (hk : k < m) {x : Bool} (he : ∀ b l, b < N → l < m → A' b l = if b = a ∧ l = k then x else A b l) : UJ W u N m M A' J rbx RB p1 p2 p3 V1 V2 V3 (wr.setCell ⟨u.r2 a, k, none⟩ (.bool x)) := by
  have hs := h.ut.bs
  have hr := (h.ut.h2.ne a ha).2
  have hl := h.rows.lo
  have hlo := h.lo
  exact ⟨h.ut.set2 ha hk he, h.rows.other (by omega) (by omega) (by omega) _ _, bx_other h.box (by omega) _ _, h.bel.setCell (p := ⟨u.r2 a, k, none⟩) (by show W.heap.size ≤ u.r2 a; omega) _, h.lo⟩
theorem UJ.set3 (h : UJ W u N m M A J rbx RB p1 p2 p3 V1 V2 V3 wr) {a k : Nat} (ha : a < N) (hk : k < m) {x : Bool} (he : ∀ b l, b < N → l < m → J' b l = if b = a ∧ l = k then x else J b l) : UJ W u N m M A J' rbx RB p1 p2 p3 V1 V2 V3 (wr.setCell ⟨u.r3 a, k, none⟩ (.bool x)) := by
  have hs := h.ut.bs
  have hr := (h.ut.h3.ne a ha).2
  have hl := h.rows.lo
  have hlo := h.lo
  exact ⟨h.ut.set3 ha hk he, h.rows.other (by omega) (by omega) (by omega) _ _, bx_other h.box (by omega) _ _, h.bel.setCell (p := ⟨u.r3 a, k, none⟩) (by show W.heap.size ≤ u.r3 a; omega) _, h.lo⟩
end
def UpPost (gt gs : Int) (vr : Value) (N n : Nat) (rules : List Rule) (hb : Nat) (c c' : Nat → Nat → Nat) (W : World) (e : Ending) (W' : World) : Prop :=
  e = .returned (.tuple #[]) ∧ ∃ d, d.hb = hb ∧ W.heap.size ≤ d.lo ∧ HI gt gs vr N n d (fun a k => cap9 (nx rules c a k)) (fun a k => decide (0 < nx rules c a k)) (fun a k => decide (nx rules c' a k < nx rules c a k)) W' ∧ W.grownBy W' (some hb)
/-- what row's contract gives -/
def RowOK (n : Nat) (hb : Nat) (c c' : Nat → Nat → Nat) (rules : List Rule) (W : World) : Prop := ∀ (r : Rule) (av : Option Addr) (cv : Nat) (w : World), r ∈ rules → Rd AnyB W (.sl (r.right.map Sym.d)) [.slice av r.right.length cv] → Below W.heap.size W w → Calls Try.prog 58 #[.pointer (some ⟨hb, 0, none⟩), .slice av r.right.length cv] w (RowPost n c c' r.right w)
set_option maxHeartbeats 16000000 in
set_option maxRecDepth 100000 in
theorem upE {gt gs : Int} {ra : Option Addr} {rcap N n : Nat} {d : Hs} {c c' : Nat → Nat → Nat} {rules : List Rule} (hcc : ∀ A i, c' A i ≤ c A i) (hN1 : 1 ≤ N) (hN : N ≤ 10) (hn : n ≤ 24) (hL : ∀ r ∈ rules, 0 ≤ r.left ∧ r.left.toNat < N) (W : World)
    (h : HI gt gs (.slice ra rules.length rcap) N n d (fun a k => cap9 (c a k)) (fun a k => decide (0 < c a k)) (fun a k => decide (c' a k < c a k)) W) (hrd : Rd AnyB W (.sl (rules.map Rule.d)) [.slice ra rules.length rcap]) (hrow : RowOK n d.hb c c' rules W) :
    Calls Try.prog 33 #[.pointer (some ⟨d.hb, 0, none⟩)] W (UpPost gt gs (.slice ra rules.length rcap) N n rules d.hb c c' W) := by
  obtain ⟨PST, HP⟩ := nameIt (UpPost gt gs (.slice ra rules.length rcap) N n rules d.hb c c' W)
  rw [HP.out]
  obtain ⟨m, HM⟩ := nameIt (n + 1)
  have hm1 : 1 ≤ m := by have := HM.out; omega
  have hm2 : m ≤ 25 := by have := HM.out; omega
  have hm0 : (0 : Int) < (m : Int) := by omega
  have HMZ : Hid (((n : Int) + 1) = (m : Int)) := by show _ = _; rw [← HM.out]; omega
  have hw1 : IntKind.i64.wrap ((n : Int) + 1) = (m : Int) := by rw [IntWalk.i64_in _ (by omega), HMZ.out]
  have HGI : Hid (∀ w, Calls Try.prog 31 #[.int .i64 (N : Int), .int .i64 (m : Int)] w (Df.GridIPost N m w)) := fun w => Df.gridI N m w ⟨hN1, by omega⟩ ⟨hm1, by omega⟩
  have HGB : Hid (∀ w, Calls Try.prog 32 #[.int .i64 (N : Int), .int .i64 (m : Int)] w (Ln.GridPost N m w)) := fun w => Ln.gridB N m w ⟨hN1, by omega⟩ ⟨hm1, by omega⟩
  have HHI := Lib.hid h
  have HROW : Hid (∀ (r : Rule) (av : Option Addr) (cv : Nat) (w : World), r ∈ rules → Rd AnyB W (.sl (r.right.map Sym.d)) [.slice av r.right.length cv] → Below W.heap.size W w → Calls Try.prog 58 #[.pointer (some ⟨d.hb, 0, none⟩), .slice av r.right.length cv] w (RowPost n c c' r.right w)) := hrow
  have hhb := (Array.getElem?_eq_some_iff.1 h.box).1
  have HBX : Hid (∀ W', Below W.heap.size W W' → W'.heap[d.hb]? = W.heap[d.hb]?) := fun W' hb => hb.block d.hb hhb
  have HBC := Lib.hid h.box
  have HRD := Lib.hid hrd
  have HCC := Lib.hid hcc
  have HLL := Lib.hid hL
  have hbs := hrd.bounds.2
  unfold maxLen at hbs
  obtain ⟨hcv1, hcv2⟩ := hbs
  have HFIN : Hid (∀ (u : Ut) (wr : World), UT u N m (fun a k => cap9 (cR (oN c) (a : Int) k rules)) (fun a k => decide (0 < cR (oN c) (a : Int) k rules)) (fun a k => decide (cR (oN c') (a : Int) k rules < cR (oN c) (a : Int) k rules)) wr → Below W.heap.size W wr → W.heap.size ≤ u.b1 →
      PST (.returned (.tuple #[])) (((wr.setCell ⟨d.hb, 0 + 5, none⟩ (.slice (some ⟨u.t1, 0, none⟩) N N)).setCell ⟨d.hb, 0 + 6, none⟩ (.slice (some ⟨u.t2, 0, none⟩) N N)).setCell ⟨d.hb, 0 + 7, none⟩ (.slice (some ⟨u.t3, 0, none⟩) N N))) := by
    intro u wr hu hb hl
    rw [← HP.out]
    rw [← HM.out] at hu
    have hs := hu.bs
    have hle := hu.le
    have hsz := hb.size
    have hx := (HBX.out wr hb).trans HBC.out
    have q1 : ∀ k, k ≠ d.hb → k < wr.heap.size → (((wr.setCell ⟨d.hb, 0 + 5, none⟩ (.slice (some ⟨u.t1, 0, none⟩) N N)).setCell ⟨d.hb, 0 + 6, none⟩ (.slice (some ⟨u.t2, 0, none⟩) N N)).setCell ⟨d.hb, 0 + 7, none⟩ (.slice (some ⟨u.t3, 0, none⟩) N N)).heap[k]? = wr.heap[k]? := by
      intro k h1 h2
      have z1 := cell_sz wr (b := d.hb) (0 + 5) (.slice (some ⟨u.t1, 0, none⟩) N N)
      have z2 := cell_sz (wr.setCell ⟨d.hb, 0 + 5, none⟩ (.slice (some ⟨u.t1, 0, none⟩) N N)) (b := d.hb) (0 + 6) (.slice (some ⟨u.t2, 0, none⟩) N N)
      rw [cell_blk _ _ _ h1 (by omega), cell_blk _ _ _ h1 (by omega), cell_blk _ _ _ h1 h2]
    have hgr : wr.grownBy (((wr.setCell ⟨d.hb, 0 + 5, none⟩ (.slice (some ⟨u.t1, 0, none⟩) N N)).setCell ⟨d.hb, 0 + 6, none⟩ (.slice (some ⟨u.t2, 0, none⟩) N N)).setCell ⟨d.hb, 0 + 7, none⟩ (.slice (some ⟨u.t3, 0, none⟩) N N)) (some d.hb) :=
      grown_trans (grown_trans (grown_cell wr ⟨d.hb, 0 + 5, none⟩ _) (grown_cell _ ⟨d.hb, 0 + 6, none⟩ _)) (grown_cell _ ⟨d.hb, 0 + 7, none⟩ _)
    refine ⟨rfl, ⟨d.hb, u.t1, u.t2, u.t3, u.r1, u.r2, u.r3, u.b1, u.b4⟩, rfl, hl, ⟨?_, ?_, ?_, ?_, ?_, ?_⟩, ?_⟩
    · have := bx_set (bx_set (bx_set hx (0 + 5) (.slice (some ⟨u.t1, 0, none⟩) N N)) (0 + 6) (.slice (some ⟨u.t2, 0, none⟩) N N)) (0 + 7) (.slice (some ⟨u.t3, 0, none⟩) N N)
      simpa using this
    · exact (hu.h1.other fun k h1 h2 => q1 k (by omega) (by omega)).wide (Nat.le_refl _) (by show u.b2 ≤ u.b4; omega)
    · exact (hu.h2.other fun k h1 h2 => q1 k (by omega) (by omega)).wide (by show u.b1 ≤ u.b2; omega) (by show u.b3 ≤ u.b4; omega)
    · exact (hu.h3.other fun k h1 h2 => q1 k (by omega) (by omega)).wide (by show u.b1 ≤ u.b3; omega) (Nat.le_refl _)
    · exact .inl (by show d.hb < u.b1; omega)
    · exact Nat.le_trans hle hgr.size
    · exact grown_trans (grown_below hb (some d.hb)) hgr
  obtain ⟨hb, HHB⟩ := nameIt d.hb
  rw [HHB.out] at HBX HBC HROW HFIN
  rw [HHB.out]
  obtain ⟨rl, HRL⟩ := nameIt rules.length
  rw [HRL.out] at HBC HRD hcv1
  obtain ⟨vm, HVM⟩ := nameIt (Value.slice (some ⟨d.tm, 0, none⟩) N N)
  obtain ⟨va, HVA⟩ := nameIt (Value.slice (some ⟨d.ta, 0, none⟩) N N)
  obtain ⟨vj, HVJ⟩ := nameIt (Value.slice (some ⟨d.tj, 0, none⟩) N N)
  rw [HVM.out, HVA.out, HVJ.out] at HBC
  have HBW : Hid (∀ W', Below W.heap.size W W' → W'.heap[hb]? = some (.cells #[.int .i64 gt, .int .i64 (N : Int), .int .i64 gs, .slice ra rl rcap, .int .i64 (n : Int), vm, va, vj] 76 (0, 0))) := fun W' hb => (HBX.out W' hb).trans HBC.out
  have HS : Hid (∀ W', Below W.heap.size W W' → (fun w' => w'.cell? ⟨hb, 0 + 1, none⟩ = some (.int .i64 (N : Int)) ∧ w'.cell? ⟨hb, 0 + 4, none⟩ = some (.int .i64 (n : Int))) W') := fun W' hb => ⟨(bx_cells8 (HBW.out W' hb)).2.1, (bx_cells8 (HBW.out W' hb)).2.2.2.2.1⟩
  clear hrd h hrow hhb HP hcc HBX HBC hL HVM HVA HVJ
  go_enter Try.func33, Try.ntmps33
  go_upto_region 0 with fail
  have HBD : Hid (Below W.heap.size W W.drew) := (Below.refl _ _).drew
  have hsd : Hid (W.drew.heap.size = W.heap.size) := rfl
  obtain ⟨wd, HWD⟩ := nameIt W.drew
  rw [HWD.out] at HBD hsd
  refine wp_region_U (S := (fun w' => w'.cell? ⟨hb, 0 + 1, none⟩ = some (.int .i64 (N : Int)) ∧ w'.cell? ⟨hb, 0 + 4, none⟩ = some (.int .i64 (n : Int)))) 33 (by kernel_rfl) (fun inv => ?_)
  rw [HWD.out]
  refine wpU_take (i := 0) (v := .pointer (some ⟨hb, 0, none⟩)) rfl inv (by kernel_rfl) (by kernel_rfl) (by decide) (by decide) (by kernel_rfl) (by kernel_rfl) (by kernel_rfl) (fun _ _ _ h => h) (Or.inl ⟨by rfl, fun w' hw' => ?_⟩) (HS.out _ HBD.out) (fun inv => ?_)
  · obtain ⟨h0, h1⟩ := hw'
    go_simp
  try simp only [Act.put, List.setIfInBounds_toArray, List.set_cons_zero, List.set_cons_succ]
  refine wpU_take (i := 1) (v := .pointer (some ⟨hb, 0, none⟩)) rfl inv (by kernel_rfl) (by kernel_rfl) (by decide) (by decide) (by kernel_rfl) (by kernel_rfl) (by kernel_rfl) (fun _ _ _ h => h) (Or.inl ⟨by rfl, fun w' hw' => ?_⟩) (HS.out _ HBD.out) (fun inv => ?_)
  · obtain ⟨h0, h1⟩ := hw'
    go_simp
  try simp only [Act.put, List.setIfInBounds_toArray, List.set_cons_zero, List.set_cons_succ]
  refine wpU_take (i := 2) (v := .pointer (some ⟨hb, 0, none⟩)) rfl inv (by kernel_rfl) (by kernel_rfl) (by decide) (by decide) (by kernel_rfl) (by kernel_rfl) (by kernel_rfl) (fun _ _ _ h => h) (Or.inl ⟨by rfl, fun w' hw' => ?_⟩) (HS.out _ HBD.out) (fun inv => ?_)
  · obtain ⟨h0, h1⟩ := hw'
    go_simp
  try simp only [Act.put, List.setIfInBounds_toArray, List.set_cons_zero, List.set_cons_succ]
  refine wpU_take (i := 3) (v := .pointer (some ⟨hb, 0 + 1, none⟩)) rfl inv (by kernel_rfl) (by kernel_rfl) (by decide) (by decide) (by kernel_rfl) (by kernel_rfl) (by kernel_rfl) (fun _ _ _ h => h) (Or.inl ⟨by rfl, fun w' hw' => ?_⟩) (HS.out _ HBD.out) (fun inv => ?_)
  · obtain ⟨h0, h1⟩ := hw'
    go_simp
  try simp only [Act.put, List.setIfInBounds_toArray, List.set_cons_zero, List.set_cons_succ]
  refine wpU_take (i := 4) (v := .int .i64 (N : Int)) rfl inv (by kernel_rfl) (by kernel_rfl) (by decide) (by decide) (by kernel_rfl) (by kernel_rfl) (by kernel_rfl) (fun _ _ _ h => h) (Or.inl ⟨by rfl, fun w' hw' => ?_⟩) (HS.out _ HBD.out) (fun inv => ?_)
  · obtain ⟨h0, h1⟩ := hw'
    go_simp
  try simp only [Act.put, List.setIfInBounds_toArray, List.set_cons_zero, List.set_cons_succ]
  refine wpU_take (i := 5) (v := .pointer (some ⟨hb, 0, none⟩)) rfl inv (by kernel_rfl) (by kernel_rfl) (by decide) (by decide) (by kernel_rfl) (by kernel_rfl) (by kernel_rfl) (fun _ _ _ h => h) (Or.inl ⟨by rfl, fun w' hw' => ?_⟩) (HS.out _ HBD.out) (fun inv => ?_)
  · obtain ⟨h0, h1⟩ := hw'
    go_simp
  try simp only [Act.put, List.setIfInBounds_toArray, List.set_cons_zero, List.set_cons_succ]
  refine wpU_take (i := 6) (v := .pointer (some ⟨hb, 0, none⟩)) rfl inv (by kernel_rfl) (by kernel_rfl) (by decide) (by decide) (by kernel_rfl) (by kernel_rfl) (by kernel_rfl) (fun _ _ _ h => h) (Or.inl ⟨by rfl, fun w' hw' => ?_⟩) (HS.out _ HBD.out) (fun inv => ?_)
  · obtain ⟨h0, h1⟩ := hw'
    go_simp
  try simp only [Act.put, List.setIfInBounds_toArray, List.set_cons_zero, List.set_cons_succ]
  refine wpU_take (i := 7) (v := .pointer (some ⟨hb, 0 + 4, none⟩)) rfl inv (by kernel_rfl) (by kernel_rfl) (by decide) (by decide) (by kernel_rfl) (by kernel_rfl) (by kernel_rfl) (fun _ _ _ h => h) (Or.inl ⟨by rfl, fun w' hw' => ?_⟩) (HS.out _ HBD.out) (fun inv => ?_)
  · obtain ⟨h0, h1⟩ := hw'
    go_simp
  try simp only [Act.put, List.setIfInBounds_toArray, List.set_cons_zero, List.set_cons_succ]
  refine wpU_take (i := 8) (v := .int .i64 (n : Int)) rfl inv (by kernel_rfl) (by kernel_rfl) (by decide) (by decide) (by kernel_rfl) (by kernel_rfl) (by kernel_rfl) (fun _ _ _ h => h) (Or.inl ⟨by rfl, fun w' hw' => ?_⟩) (HS.out _ HBD.out) (fun inv => ?_)
  · obtain ⟨h0, h1⟩ := hw'
    go_simp
  try simp only [Act.put, List.setIfInBounds_toArray, List.set_cons_zero, List.set_cons_succ]
  refine wpU_take (i := 9) (v := .int .i64 (m : Int)) rfl inv (by kernel_rfl) (by kernel_rfl) (by decide) (by decide) (by kernel_rfl) (by kernel_rfl) (by kernel_rfl) (fun _ _ _ h => h) (Or.inl ⟨by rfl, fun w' hw' => ?_⟩) (HS.out _ HBD.out) (fun inv => ?_)
  · obtain ⟨h0, h1⟩ := hw'
    go_simp
  try simp only [Act.put, List.setIfInBounds_toArray, List.set_cons_zero, List.set_cons_succ]
  refine wpU_take (i := 11) (v := .pointer (some ⟨hb, 0, none⟩)) rfl inv (by kernel_rfl) (by kernel_rfl) (by decide) (by decide) (by kernel_rfl) (by kernel_rfl) (by kernel_rfl) (fun _ _ _ h => h) (Or.inl ⟨by rfl, fun w' hw' => ?_⟩) (HS.out _ HBD.out) (fun inv => ?_)
  · obtain ⟨h0, h1⟩ := hw'
    go_simp
  try simp only [Act.put, List.setIfInBounds_toArray, List.set_cons_zero, List.set_cons_succ]
  refine wpU_take (i := 12) (v := .pointer (some ⟨hb, 0, none⟩)) rfl inv (by kernel_rfl) (by kernel_rfl) (by decide) (by decide) (by kernel_rfl) (by kernel_rfl) (by kernel_rfl) (fun _ _ _ h => h) (Or.inl ⟨by rfl, fun w' hw' => ?_⟩) (HS.out _ HBD.out) (fun inv => ?_)
  · obtain ⟨h0, h1⟩ := hw'
    go_simp
  try simp only [Act.put, List.setIfInBounds_toArray, List.set_cons_zero, List.set_cons_succ]
  refine wpU_take (i := 13) (v := .pointer (some ⟨hb, 0, none⟩)) rfl inv (by kernel_rfl) (by kernel_rfl) (by decide) (by decide) (by kernel_rfl) (by kernel_rfl) (by kernel_rfl) (fun _ _ _ h => h) (Or.inl ⟨by rfl, fun w' hw' => ?_⟩) (HS.out _ HBD.out) (fun inv => ?_)
  · obtain ⟨h0, h1⟩ := hw'
    go_simp
  try simp only [Act.put, List.setIfInBounds_toArray, List.set_cons_zero, List.set_cons_succ]
  refine wpU_take (i := 14) (v := .pointer (some ⟨hb, 0 + 1, none⟩)) rfl inv (by kernel_rfl) (by kernel_rfl) (by decide) (by decide) (by kernel_rfl) (by kernel_rfl) (by kernel_rfl) (fun _ _ _ h => h) (Or.inl ⟨by rfl, fun w' hw' => ?_⟩) (HS.out _ HBD.out) (fun inv => ?_)
  · obtain ⟨h0, h1⟩ := hw'
    go_simp
  try simp only [Act.put, List.setIfInBounds_toArray, List.set_cons_zero, List.set_cons_succ]
  refine wpU_take (i := 15) (v := .int .i64 (N : Int)) rfl inv (by kernel_rfl) (by kernel_rfl) (by decide) (by decide) (by kernel_rfl) (by kernel_rfl) (by kernel_rfl) (fun _ _ _ h => h) (Or.inl ⟨by rfl, fun w' hw' => ?_⟩) (HS.out _ HBD.out) (fun inv => ?_)
  · obtain ⟨h0, h1⟩ := hw'
    go_simp
  try simp only [Act.put, List.setIfInBounds_toArray, List.set_cons_zero, List.set_cons_succ]
  refine wpU_take (i := 16) (v := .pointer (some ⟨hb, 0, none⟩)) rfl inv (by kernel_rfl) (by kernel_rfl) (by decide) (by decide) (by kernel_rfl) (by kernel_rfl) (by kernel_rfl) (fun _ _ _ h => h) (Or.inl ⟨by rfl, fun w' hw' => ?_⟩) (HS.out _ HBD.out) (fun inv => ?_)
  · obtain ⟨h0, h1⟩ := hw'
    go_simp
  try simp only [Act.put, List.setIfInBounds_toArray, List.set_cons_zero, List.set_cons_succ]
  refine wpU_take (i := 17) (v := .pointer (some ⟨hb, 0, none⟩)) rfl inv (by kernel_rfl) (by kernel_rfl) (by decide) (by decide) (by kernel_rfl) (by kernel_rfl) (by kernel_rfl) (fun _ _ _ h => h) (Or.inl ⟨by rfl, fun w' hw' => ?_⟩) (HS.out _ HBD.out) (fun inv => ?_)
  · obtain ⟨h0, h1⟩ := hw'
    go_simp
  try simp only [Act.put, List.setIfInBounds_toArray, List.set_cons_zero, List.set_cons_succ]
  refine wpU_take (i := 18) (v := .pointer (some ⟨hb, 0 + 4, none⟩)) rfl inv (by kernel_rfl) (by kernel_rfl) (by decide) (by decide) (by kernel_rfl) (by kernel_rfl) (by kernel_rfl) (fun _ _ _ h => h) (Or.inl ⟨by rfl, fun w' hw' => ?_⟩) (HS.out _ HBD.out) (fun inv => ?_)
  · obtain ⟨h0, h1⟩ := hw'
    go_simp
  try simp only [Act.put, List.setIfInBounds_toArray, List.set_cons_zero, List.set_cons_succ]
  refine wpU_take (i := 19) (v := .int .i64 (n : Int)) rfl inv (by kernel_rfl) (by kernel_rfl) (by decide) (by decide) (by kernel_rfl) (by kernel_rfl) (by kernel_rfl) (fun _ _ _ h => h) (Or.inl ⟨by rfl, fun w' hw' => ?_⟩) (HS.out _ HBD.out) (fun inv => ?_)
  · obtain ⟨h0, h1⟩ := hw'
    go_simp
  try simp only [Act.put, List.setIfInBounds_toArray, List.set_cons_zero, List.set_cons_succ]
  refine wpU_take (i := 20) (v := .int .i64 (m : Int)) rfl inv (by kernel_rfl) (by kernel_rfl) (by decide) (by decide) (by kernel_rfl) (by kernel_rfl) (by kernel_rfl) (fun _ _ _ h => h) (Or.inl ⟨by rfl, fun w' hw' => ?_⟩) (HS.out _ HBD.out) (fun inv => ?_)
  · obtain ⟨h0, h1⟩ := hw'
    go_simp
  try simp only [Act.put, List.setIfInBounds_toArray, List.set_cons_zero, List.set_cons_succ]
  refine wpU_take (i := 22) (v := .pointer (some ⟨hb, 0, none⟩)) rfl inv (by kernel_rfl) (by kernel_rfl) (by decide) (by decide) (by kernel_rfl) (by kernel_rfl) (by kernel_rfl) (fun _ _ _ h => h) (Or.inl ⟨by rfl, fun w' hw' => ?_⟩) (HS.out _ HBD.out) (fun inv => ?_)
  · obtain ⟨h0, h1⟩ := hw'
    go_simp
  try simp only [Act.put, List.setIfInBounds_toArray, List.set_cons_zero, List.set_cons_succ]
  refine wpU_take (i := 23) (v := .pointer (some ⟨hb, 0, none⟩)) rfl inv (by kernel_rfl) (by kernel_rfl) (by decide) (by decide) (by kernel_rfl) (by kernel_rfl) (by kernel_rfl) (fun _ _ _ h => h) (Or.inl ⟨by rfl, fun w' hw' => ?_⟩) (HS.out _ HBD.out) (fun inv => ?_)
  · obtain ⟨h0, h1⟩ := hw'
    go_simp
  try simp only [Act.put, List.setIfInBounds_toArray, List.set_cons_zero, List.set_cons_succ]
  refine wpU_take (i := 24) (v := .pointer (some ⟨hb, 0, none⟩)) rfl inv (by kernel_rfl) (by kernel_rfl) (by decide) (by decide) (by kernel_rfl) (by kernel_rfl) (by kernel_rfl) (fun _ _ _ h => h) (Or.inl ⟨by rfl, fun w' hw' => ?_⟩) (HS.out _ HBD.out) (fun inv => ?_)
  · obtain ⟨h0, h1⟩ := hw'
    go_simp
  try simp only [Act.put, List.setIfInBounds_toArray, List.set_cons_zero, List.set_cons_succ]
  refine wpU_take (i := 25) (v := .pointer (some ⟨hb, 0 + 1, none⟩)) rfl inv (by kernel_rfl) (by kernel_rfl) (by decide) (by decide) (by kernel_rfl) (by kernel_rfl) (by kernel_rfl) (fun _ _ _ h => h) (Or.inl ⟨by rfl, fun w' hw' => ?_⟩) (HS.out _ HBD.out) (fun inv => ?_)
  · obtain ⟨h0, h1⟩ := hw'
    go_simp
  try simp only [Act.put, List.setIfInBounds_toArray, List.set_cons_zero, List.set_cons_succ]
  refine wpU_take (i := 26) (v := .int .i64 (N : Int)) rfl inv (by kernel_rfl) (by kernel_rfl) (by decide) (by decide) (by kernel_rfl) (by kernel_rfl) (by kernel_rfl) (fun _ _ _ h => h) (Or.inl ⟨by rfl, fun w' hw' => ?_⟩) (HS.out _ HBD.out) (fun inv => ?_)
  · obtain ⟨h0, h1⟩ := hw'
    go_simp
  try simp only [Act.put, List.setIfInBounds_toArray, List.set_cons_zero, List.set_cons_succ]
  refine wpU_take (i := 27) (v := .pointer (some ⟨hb, 0, none⟩)) rfl inv (by kernel_rfl) (by kernel_rfl) (by decide) (by decide) (by kernel_rfl) (by kernel_rfl) (by kernel_rfl) (fun _ _ _ h => h) (Or.inl ⟨by rfl, fun w' hw' => ?_⟩) (HS.out _ HBD.out) (fun inv => ?_)
  · obtain ⟨h0, h1⟩ := hw'
    go_simp
  try simp only [Act.put, List.setIfInBounds_toArray, List.set_cons_zero, List.set_cons_succ]
  refine wpU_take (i := 28) (v := .pointer (some ⟨hb, 0, none⟩)) rfl inv (by kernel_rfl) (by kernel_rfl) (by decide) (by decide) (by kernel_rfl) (by kernel_rfl) (by kernel_rfl) (fun _ _ _ h => h) (Or.inl ⟨by rfl, fun w' hw' => ?_⟩) (HS.out _ HBD.out) (fun inv => ?_)
  · obtain ⟨h0, h1⟩ := hw'
    go_simp
  try simp only [Act.put, List.setIfInBounds_toArray, List.set_cons_zero, List.set_cons_succ]
  refine wpU_take (i := 29) (v := .pointer (some ⟨hb, 0 + 4, none⟩)) rfl inv (by kernel_rfl) (by kernel_rfl) (by decide) (by decide) (by kernel_rfl) (by kernel_rfl) (by kernel_rfl) (fun _ _ _ h => h) (Or.inl ⟨by rfl, fun w' hw' => ?_⟩) (HS.out _ HBD.out) (fun inv => ?_)
  · obtain ⟨h0, h1⟩ := hw'
    go_simp
  try simp only [Act.put, List.setIfInBounds_toArray, List.set_cons_zero, List.set_cons_succ]
  refine wpU_take (i := 30) (v := .int .i64 (n : Int)) rfl inv (by kernel_rfl) (by kernel_rfl) (by decide) (by decide) (by kernel_rfl) (by kernel_rfl) (by kernel_rfl) (fun _ _ _ h => h) (Or.inl ⟨by rfl, fun w' hw' => ?_⟩) (HS.out _ HBD.out) (fun inv => ?_)
  · obtain ⟨h0, h1⟩ := hw'
    go_simp
  try simp only [Act.put, List.setIfInBounds_toArray, List.set_cons_zero, List.set_cons_succ]
  refine wpU_take (i := 31) (v := .int .i64 (m : Int)) rfl inv (by kernel_rfl) (by kernel_rfl) (by decide) (by decide) (by kernel_rfl) (by kernel_rfl) (by kernel_rfl) (fun _ _ _ h => h) (Or.inl ⟨by rfl, fun w' hw' => ?_⟩) (HS.out _ HBD.out) (fun inv => ?_)
  · obtain ⟨h0, h1⟩ := hw'
    go_simp
  try simp only [Act.put, List.setIfInBounds_toArray, List.set_cons_zero, List.set_cons_succ]
  clear HWD
  refine wpU_one (i := 10) (by kernel_rfl) rfl (fun K hK => ?_)
  replace inv := inv_setc (i := 10) inv (by kernel_rfl) (by decide)
  go_simp
  refine (HGI.out wd).mono ?_
  rintro e w1 ⟨bt1, rb1, rfl, hg1, hb1⟩
  have HG1 := Lib.hid (grd_tb hg1)
  have HC1 := Lib.hid hb1
  have HB1 : Hid (Below W.heap.size W w1) := HBD.out.trans (hb1.mono (by have := HBD.out.size; have := hsd.out; omega))
  clear hg1 hb1
  refine hK.out _ _ (fun _ => HS.out _ HB1.out) ?_
  clear hK K
  try simp only [Act.put, List.setIfInBounds_toArray, List.set_cons_zero, List.set_cons_succ]
  refine wpU_one (i := 21) (by kernel_rfl) rfl (fun K hK => ?_)
  replace inv := inv_setc (i := 21) inv (by kernel_rfl) (by decide)
  go_simp
  refine (HGB.out w1).mono ?_
  rintro e w2 ⟨bt2, rb2, rfl, hg2, hb2⟩
  have HG2 := Lib.hid (grd_tb hg2)
  have HC2 := Lib.hid hb2
  have HB2 : Hid (Below W.heap.size W w2) := HB1.out.trans (hb2.mono (by have := HB1.out.size; have := hsd.out; omega))
  clear hg2 hb2
  refine hK.out _ _ (fun _ => HS.out _ HB2.out) ?_
  clear hK K
  try simp only [Act.put, List.setIfInBounds_toArray, List.set_cons_zero, List.set_cons_succ]
  refine wpU_one (i := 32) (by kernel_rfl) rfl (fun K hK => ?_)
  replace inv := inv_setc (i := 32) inv (by kernel_rfl) (by decide)
  go_simp
  refine (HGB.out w2).mono ?_
  rintro e w3 ⟨bt3, rb3, rfl, hg3, hb3⟩
  have HG3 := Lib.hid (grd_tb hg3)
  have HC3 := Lib.hid hb3
  have HB3 : Hid (Below W.heap.size W w3) := HB2.out.trans (hb3.mono (by have := HB2.out.size; have := hsd.out; omega))
  clear hg3 hb3
  refine hK.out _ _ (fun _ => HS.out _ HB3.out) ?_
  clear hK K
  try simp only [Act.put, List.setIfInBounds_toArray, List.set_cons_zero, List.set_cons_succ]
  refine wpU_one (i := 33) (by kernel_rfl) rfl (fun K hK => ?_)
  go_simp
  refine hK.out _ _ (fun h => absurd (show true = false from h) (by decide)) ?_
  clear hK K
  try simp only [Act.put, List.setIfInBounds_toArray, List.set_cons_zero, List.set_cons_succ]
  refine wpU_one (i := 34) (by kernel_rfl) rfl (fun K hK => ?_)
  go_simp
  refine hK.out _ _ (fun h => absurd (show true = false from h) (by decide)) ?_
  clear hK K
  try simp only [Act.put, List.setIfInBounds_toArray, List.set_cons_zero, List.set_cons_succ]
  refine wpU_one (i := 35) (by kernel_rfl) rfl (fun K hK => ?_)
  go_simp
  refine hK.out _ _ (fun h => absurd (show true = false from h) (by decide)) ?_
  clear hK K
  try simp only [Act.put, List.setIfInBounds_toArray, List.set_cons_zero, List.set_cons_succ]
  refine wpU_done (by kernel_rfl) ?_ _
  have HU0 : Hid (UT ⟨wd.heap.size, w1.heap.size, w2.heap.size, w3.heap.size, bt1, bt2, bt3, rb1, rb2, rb3⟩ N m (fun _ _ => 0) (fun _ _ => false) (fun _ _ => false) w3) := ⟨(HG1.out.keep (Nat.le_refl _) HC2.out).keep HC2.out.size HC3.out, HG2.out.keep (Nat.le_refl _) HC3.out, HG3.out, Nat.le_refl _⟩
  have HUL : Hid (W.heap.size ≤ wd.heap.size) := by show _ ≤ _; have := hsd.out; omega
  obtain ⟨u, hu⟩ : ∃ u : Ut, u = ⟨wd.heap.size, w1.heap.size, w2.heap.size, w3.heap.size, bt1, bt2, bt3, rb1, rb2, rb3⟩ := ⟨_, rfl⟩
  rw [← hu] at HU0
  have HUB : Hid (W.heap.size ≤ u.b1) := by show _ ≤ _; rw [hu]; exact HUL.out
  have e1 : u.t1 = bt1 := by rw [hu]
  have e2 : u.t2 = bt2 := by rw [hu]
  have e3 : u.t3 = bt3 := by rw [hu]
  rw [← e1, ← e2, ← e3]
  clear hu e1 e2 e3 HUL HG1 HG2 HG3 HC1 HC2 HC3 HB1 HB2 HBD hsd inv
  obtain ⟨x0, x1, x2, x3, x4, x5, x6, x7⟩ := bx_cells8 (HBW.out w3 HB3.out)
  have HU1 : Hid (UT u N m (fun a k => cap9 (cR (oN c) (a : Int) k (rules.take 0))) (fun a k => decide (0 < cR (oN c) (a : Int) k (rules.take 0))) (fun a k => decide (cR (oN c') (a : Int) k (rules.take 0) < cR (oN c) (a : Int) k (rules.take 0))) w3) := by
    refine HU0.out.eq (fun a k _ _ => ?_) (fun a k _ _ => ?_) (fun a k _ _ => ?_)
    · show (0 : Int) = cap9 0; unfold cap9; omega
    · simp [cR]
    · simp [cR]
  clear HU0
  go_wp2_with fail
  clear x0 x1 x2 x3 x4 x5 x6 x7
  go_loopg [50] rl (fun gg v50 wr => ∃ q : Nat, q ≤ rl ∧ rl - q ≤ gg ∧ v50 = .int .i64 q ∧ Hid (UT u N m (fun a k => cap9 (cR (oN c) (a : Int) k (rules.take q))) (fun a k => decide (0 < cR (oN c) (a : Int) k (rules.take q))) (fun a k => decide (cR (oN c') (a : Int) k (rules.take q) < cR (oN c) (a : Int) k (rules.take q))) wr) ∧ Hid (Below W.heap.size W wr))
  case atStart => exact ⟨0, by omega, by omega, rfl, HU1, HB3⟩
  case round =>
    clear HU1 HB3
    obtain ⟨w4, rfl⟩ : ∃ ww : World, ww = wr := ⟨_, rfl⟩
    obtain ⟨q, hq, hgq, rfl, HU, HB⟩ := hrel
    by_cases hlt : q < rl
    · have hlt' : (q : Int) < (rl : Int) := by omega
      have hq0 : (0 : Int) ≤ (q : Int) := by omega
      have hix : q < rules.length := by rw [HRL.out]; exact hlt
      obtain ⟨rbk, ro, rv, hae, -, hrb, r0, r1, hrr⟩ := HRD.out.rule_at hix
      obtain ⟨ar, cr, rfl, hcr1, hcr2⟩ := hrr.form
      rw [List.length_map] at r1 hrr hcr1
      unfold maxLen at hcr2
      have t0 := (HB.out.cell (lt_of_cell r0)).trans r0
      have t1 := (HB.out.cell (lt_of_cell r1)).trans r1
      have HTK : Hid (rules.take (q + 1) = rules.take q ++ [rules[q]'hix]) := List.take_succ_eq_append_getElem hix
      have HRW := Lib.hid (fun (w : World) (h2 : Below W.heap.size W w) => HROW.out rules[q] ar cr w (List.getElem_mem hix) hrr h2)
      have hol := HLL.out _ (List.getElem_mem hix)
      obtain ⟨r, HRN⟩ := nameIt (rules[q]'hix)
      rw [HRN.out] at t0 t1 HTK hcr1 hol HRW
      obtain ⟨l, HL⟩ := nameIt (rules.take q)
      rw [HL.out] at HU HTK
      obtain ⟨rn, HRNL⟩ := nameIt r.right.length
      rw [HRNL.out] at t1 hcr1 HRW
      obtain ⟨A, hA⟩ : ∃ A : Nat, r.left = (A : Int) := ⟨r.left.toNat, by omega⟩
      have hAN : A < N := by have := hol.2; rw [hA] at this; simpa using this
      have hAN' : (A : Int) < (N : Int) := by omega
      have hA0 : (0 : Int) ≤ (A : Int) := by omega
      have HAL : Hid (r.left = (A : Int)) := hA
      rw [hA] at t0
      obtain ⟨w5, HW5⟩ := nameIt (w4.alloc (.cells #[.int .i64 (A : Int), .slice ar rn cr] 48))
      have hb5 : Below w4.heap.size w4 w5 := by rw [← HW5.out]; exact (Below.refl _ _).alloc (Nat.le_refl _) _
      have HU5 := Lib.hid (HU.out.keep hb5)
      have HB5 := Lib.hid (HB.out.trans (hb5.mono HB.out.size))
      have Y5 : Hid (w5.heap[w4.heap.size]? = some (.cells #[.int .i64 (A : Int), .slice ar rn cr] 48 (0, 0))) := by rw [← HW5.out]; exact bx_new _ _ _ rfl
      have HRX : Hid (u.b4 ≤ w4.heap.size) := HU.out.le
      obtain ⟨rbx, HRBX⟩ := nameIt w4.heap.size
      rw [HRBX.out] at Y5 HRX
      have HRW5 := Lib.hid (HRW.out w5 HB5.out)
      subst hae
      clear hrr r0 r1 hA hol hb5 HRW
      go_upto_region 4 with fail
      rw [HW5.out, HRBX.out]
      clear t0 t1 HW5 HRBX
      obtain ⟨y0, y1⟩ := bx_cells2 Y5.out
      go_wp2_with fail
      with_reducible refine HRW5.out.mono ?_
      rintro e w6 ⟨p1, p2, p3, rfl, hr3, hb6⟩
      rw [HM.out] at hr3 ⊢
      have HB6 := Lib.hid (HB5.out.trans (hb6.mono HB5.out.size))
      have HJ0 : Hid (UJ W u N m (fun a k => cap9 (pt (oN c) l r 0 a k)) (fun a k => decide (0 < pt (oN c) l r 0 a k)) (fun a k => decide (pt (oN c') l r 0 a k < pt (oN c) l r 0 a k)) rbx #[.int .i64 (A : Int), .slice ar rn cr] p1 p2 p3 (v1 c r.right) (v2 c r.right) (v3 c c' r.right) w6) := by
        refine ⟨(HU5.out.keep hb6).eq (fun a k _ _ => by rw [pt_zero]) (fun a k _ _ => by rw [pt_zero]) (fun a k _ _ => by rw [pt_zero, pt_zero]), ?_, bx_keep Y5.out hb6, HB6.out, HUB.out, HRX.out⟩
        have hl := hr3.lo
        have := HU5.out.le
        exact ⟨hr3.r1, hr3.r2, hr3.r3, by omega, hr3.ne⟩
      obtain ⟨x0, x1, x2, x3, x4, x5, x6, x7⟩ := bx_cells8 (HBW.out w6 HB6.out)
      clear hr3 hb6 y0 y1 HU5 Y5 HRW5 HU HB5
      go_wp2_with fail
      clear x0 x1 x2 x3 x4 x5 x6 x7 HB6
      go_loopg [10, 67] m (fun gg v10 v67 wr => ∃ k : Nat, k ≤ m ∧ m - k ≤ gg ∧ v67 = .int .i64 k ∧ Hid (UJ W u N m (fun a j => cap9 (pt (oN c) l r k a j)) (fun a j => decide (0 < pt (oN c) l r k a j)) (fun a j => decide (pt (oN c') l r k a j < pt (oN c) l r k a j)) rbx #[.int .i64 (A : Int), .slice ar rn cr] p1 p2 p3 (v1 c r.right) (v2 c r.right) (v3 c c' r.right) wr))
      case atStart => exact ⟨0, by omega, by omega, rfl, HJ0⟩
      case round =>
        clear HJ0
        obtain ⟨k, hk, hgk, rfl, HJ⟩ := hrel
        obtain ⟨wm, rfl⟩ : ∃ ww : World, ww = wr := ⟨_, rfl⟩
        by_cases hkm : k < m
        · have hkm' : (k : Int) < (m : Int) := by omega
          have hk0 : (0 : Int) ≤ (k : Int) := by omega
          have HC1 := Lib.hid (cap9_add (pt (oN c) l r k A k) (cN (oN c) r.right k))
          have HN1 : Hid (cap9 (pt (oN c) l r k A k + cN (oN c) r.right k) = cap9 (pt (oN c) l r (k + 1) A k)) := by show _ = _; rw [pt_here HAL.out]
          have HN2 : Hid ((decide (0 < pt (oN c) l r k A k) || v2 c r.right k) = decide (0 < pt (oN c) l r (k + 1) A k)) := by show _ = _; unfold v2; rw [pt_here HAL.out]; exact or_pos
          have HN3 : Hid ((decide (pt (oN c') l r k A k < pt (oN c) l r k A k) || v3 c c' r.right k) = decide (pt (oN c') l r (k + 1) A k < pt (oN c) l r (k + 1) A k)) := by
            show _ = _; unfold v3; rw [pt_here HAL.out, pt_here HAL.out]; exact or_lt (pt_mono (oN_mono HCC.out)) (cN_mono (oN_mono HCC.out) _ _)
          have HO : Hid (∀ (o : Sym → Nat → Nat) a j, ¬ (a = A ∧ j = k) → pt o l r (k + 1) a j = pt o l r k a j) := fun o a j h => pt_other HAL.out h
          have k0 := (bx_cells2 HJ.out.box).1
          have k1 := HJ.out.ut.h1.head hAN
          have k2 := HJ.out.ut.h1.cell hAN hkm
          have k3 := HJ.out.rows.r1.cell hkm
          have hv1e : v1 c r.right k = cap9 (cN (oN c) r.right k) := rfl
          rw [hv1e] at k3
          obtain ⟨mv, HMV⟩ := nameIt (cap9 (pt (oN c) l r k A k))
          obtain ⟨nv, HNV⟩ := nameIt (cap9 (cN (oN c) r.right k))
          obtain ⟨jv, HJV⟩ := nameIt (cap9 (pt (oN c) l r k A k + cN (oN c) r.right k))
          rw [HMV.out] at k2
          rw [HNV.out] at k3
          rw [HMV.out, HNV.out, HJV.out] at HC1
          rw [HJV.out] at HN1
          obtain ⟨s1, s2, s3⟩ := HC1.out
          obtain ⟨tv, HTT⟩ := nameIt (mv + nv)
          have hwt : IntKind.i64.wrap (mv + nv) = tv := by rw [IntWalk.i64_in _ (by omega), HTT.out]
          rw [HTT.out] at s1
          have HCA : Hid (∀ W', Below wm.heap.size wm W' → Calls Try.prog 34 #[.int .i64 tv] W' fun e w' => e = .returned (.int .i64 jv) ∧ Below W'.heap.size W' w') := fun W' _ => (cappedE tv W').mono fun e w' h => ⟨by rw [h.1, s1], by rw [← h.2]; exact Below.refl _ _⟩
          obtain ⟨g1, HG1⟩ := nameIt (u.r1 A)
          rw [HG1.out] at k1 k2
          have i0 := aft_cell k0
          have i1 := aft_cell k1
          have i2 := aft_cell k2
          have i3 := aft_cell k3
          clear k0 k1 k2 k3 s1 s2 s3 hv1e HTT HC1
          go_upto_region 8 with fail
          refine wp_region_after_tail 21 (by kernel_rfl) (by kernel_rfl) ?_
          simp only [List.take_succ_cons, List.take_zero, List.drop_succ_cons, List.drop_zero]
          repeat (go_big_quiet_step (with_reducible exact Calls.after (HCA.out _ (Aft.bel _))))
          refine wpQuiet_nil ?_
          rintro w9 ⟨⟨_, hb9⟩, rfl⟩
          have HJ9 := Lib.hid (HJ.out.keep hb9)
          have e0 := HJ9.out.ut.h1.cell hAN hkm
          have e9 := HJ9.out.ut.h1.free hAN k
          rw [HG1.out] at e0 e9
          have HJA : Hid (UJ W u N m (fun a j => cap9 (pt (oN c) l r (k + 1) a j)) (fun a j => decide (0 < pt (oN c) l r k a j)) (fun a j => decide (pt (oN c') l r k a j < pt (oN c) l r k a j)) rbx #[.int .i64 (A : Int), .slice ar rn cr] p1 p2 p3 (v1 c r.right) (v2 c r.right) (v3 c c' r.right) (w9.setCell ⟨g1, k, none⟩ (.int .i64 jv))) := by
            rw [← HG1.out]
            exact HJ9.out.set1 hAN hkm (fun b j _ _ => by
              by_cases e : b = A ∧ j = k
              · rw [if_pos e, e.1, e.2, HN1.out]
              · rw [if_neg e, HO.out _ _ _ e])
          clear hb9 i0 i1 i2 i3 HCA
          go_upto_region 9 with fail
          obtain ⟨wa, HWA⟩ := nameIt (w9.setCell ⟨g1, k, none⟩ (.int .i64 jv))
          rw [HWA.out] at HJA
          rw [HWA.out]
          clear e0 e9 HJ9 HJ HWA hwt
          have k0 := (bx_cells2 HJA.out.box).1
          have k1 := HJA.out.ut.h2.head hAN
          have k2 := HJA.out.ut.h2.cell hAN hkm
          have k3 := HJA.out.rows.r2.cell hkm
          obtain ⟨ab, HAB⟩ := nameIt (decide (0 < pt (oN c) l r k A k))
          obtain ⟨lb, HLB⟩ := nameIt (v2 c r.right k)
          rw [HAB.out, HLB.out] at HN2
          rw [HAB.out] at k2
          rw [HLB.out] at k3
          obtain ⟨g2, HG2⟩ := nameIt (u.r2 A)
          rw [HG2.out] at k1 k2
          have i0 := aft_cell k0
          have i1 := aft_cell k1
          have i2 := aft_cell k2
          have i3 := aft_cell k3
          clear k0 k1 k2 k3
          have HNX : Hid (∀ w9, Below wa.heap.size wa w9 → UJ W u N m (fun a j => cap9 (pt (oN c) l r (k + 1) a j)) (fun a j => decide (0 < pt (oN c) l r (k + 1) a j)) (fun a j => decide (pt (oN c') l r k a j < pt (oN c) l r k a j)) rbx #[.int .i64 (A : Int), .slice ar rn cr] p1 p2 p3 (v1 c r.right) (v2 c r.right) (v3 c c' r.right) (w9.setCell ⟨g2, k, none⟩ (.bool (ab || lb)))) := by
            intro w9 hb9
            rw [← HG2.out]
            exact (HJA.out.keep hb9).set2 hAN hkm (fun b j _ _ => by
              by_cases e : b = A ∧ j = k
              · rw [if_pos e, e.1, e.2, HN2.out]
              · rw [if_neg e, HO.out _ _ _ e])
          go_cut [] (fun wx => Hid (UJ W u N m (fun a j => cap9 (pt (oN c) l r (k + 1) a j)) (fun a j => decide (0 < pt (oN c) l r (k + 1) a j)) (fun a j => decide (pt (oN c') l r k a j < pt (oN c) l r k a j)) rbx #[.int .i64 (A : Int), .slice ar rn cr] p1 p2 p3 (v1 c r.right) (v2 c r.right) (v3 c c' r.right) wx))
          case first =>
            clear HN1 HN2 HN3 HAB HLB HMV HNV HJV
            cases ab <;> (
              refine wp_region_after_tail 21 (by kernel_rfl) (by kernel_rfl) ?_
              simp only [List.take_succ_cons, List.take_zero, List.drop_succ_cons, List.drop_zero]
              repeat (go_big_quiet_step (fail))
              refine wpQuiet_nil ?_
              rintro w9 ⟨⟨_, hb9⟩, rfl⟩
              have HJ9 := Lib.hid (HJA.out.keep hb9)
              have e0 := HJ9.out.ut.h2.cell hAN hkm
              have e9 := HJ9.out.ut.h2.free hAN k
              rw [HG2.out] at e0 e9
              have HE := Lib.hid (HNX.out w9 hb9)
              clear hb9 i0 i1 i2 i3 HJ9 HNX
              go_wp2_with fail
              go_meet
              simpa using HE)
          case rest =>
            have HJB := hcut
            obtain ⟨wb, rfl⟩ : ∃ ww : World, ww = wc := ⟨_, rfl⟩
            clear i0 i1 i2 i3 HNX HJA hcut
            have k0 := (bx_cells2 HJB.out.box).1
            have k1 := HJB.out.ut.h3.head hAN
            have k2 := HJB.out.ut.h3.cell hAN hkm
            have k3 := HJB.out.rows.r3.cell hkm
            obtain ⟨jb, HJBN⟩ := nameIt (decide (pt (oN c') l r k A k < pt (oN c) l r k A k))
            obtain ⟨tb, HTB⟩ := nameIt (v3 c c' r.right k)
            rw [HJBN.out, HTB.out] at HN3
            rw [HJBN.out] at k2
            rw [HTB.out] at k3
            obtain ⟨g3, HG3⟩ := nameIt (u.r3 A)
            rw [HG3.out] at k1 k2
            have i0 := aft_cell k0
            have i1 := aft_cell k1
            have i2 := aft_cell k2
            have i3 := aft_cell k3
            clear k0 k1 k2 k3
            have HNX : Hid (∀ w9, Below wb.heap.size wb w9 → UJ W u N m (fun a j => cap9 (pt (oN c) l r (k + 1) a j)) (fun a j => decide (0 < pt (oN c) l r (k + 1) a j)) (fun a j => decide (pt (oN c') l r (k + 1) a j < pt (oN c) l r (k + 1) a j)) rbx #[.int .i64 (A : Int), .slice ar rn cr] p1 p2 p3 (v1 c r.right) (v2 c r.right) (v3 c c' r.right) (w9.setCell ⟨g3, k, none⟩ (.bool (jb || tb)))) := by
              intro w9 hb9
              rw [← HG3.out]
              exact (HJB.out.keep hb9).set3 hAN hkm (fun b j _ _ => by
                by_cases e : b = A ∧ j = k
                · rw [if_pos e, e.1, e.2, HN3.out]
                · rw [if_neg e, HO.out _ _ _ e, HO.out _ _ _ e])
            clear HN1 HN2 HN3 HAB HLB HMV HNV HJV HJBN HTB
            go_upto_region 10 with fail
            cases jb <;> (
              refine wp_region_after_tail 21 (by kernel_rfl) (by kernel_rfl) ?_
              simp only [List.take_succ_cons, List.take_zero, List.drop_succ_cons, List.drop_zero]
              repeat (go_big_quiet_step (fail))
              refine wpQuiet_nil ?_
              rintro w9 ⟨⟨_, hb9⟩, rfl⟩
              have HJ9 := Lib.hid (HJB.out.keep hb9)
              have e0 := HJ9.out.ut.h3.cell hAN hkm
              have e9 := HJ9.out.ut.h3.free hAN k
              rw [HG3.out] at e0 e9
              have HE := Lib.hid (HNX.out w9 hb9)
              clear hb9 i0 i1 i2 i3 HJ9 HNX
              go_wp2_with fail
              go_roundg (m - (k + 1))
              case measure => omega
              case rel => exact ⟨k + 1, by omega, by omega, by go_num, by simpa using HE⟩)
        · have hkm' : ¬ (k : Int) < (m : Int) := by omega
          have hke : k = m := by omega
          have HUN : Hid (UT u N m (fun a k => cap9 (cR (oN c) (a : Int) k (rules.take (q + 1)))) (fun a k => decide (0 < cR (oN c) (a : Int) k (rules.take (q + 1)))) (fun a k => decide (cR (oN c') (a : Int) k (rules.take (q + 1)) < cR (oN c) (a : Int) k (rules.take (q + 1)))) wm) := by
            rw [HTK.out]
            have hj := HJ.out.ut
            rw [hke] at hj
            exact hj.eq (fun a k _ hk => by rw [pt_end hk]) (fun a k _ hk => by rw [pt_end hk]) (fun a k _ hk => by rw [pt_end hk, pt_end hk])
          have HBN := Lib.hid HJ.out.bel
          clear hke
          go_wp2_with fail
          go_roundg (rl - (q + 1))
          case measure => omega
          case rel => exact ⟨q + 1, by omega, by omega, by go_num, HUN, HBN⟩
    · have hlt' : ¬ (q : Int) < (rl : Int) := by omega
      have hqe : rules.take q = rules := List.take_of_length_le (by rw [HRL.out]; omega)
      rw [hqe] at HU
      have HE := Lib.hid (HFIN.out u w4 HU.out HB.out HUB.out)
      have hx := HBW.out w4 HB.out
      obtain ⟨x0, x1, x2, x3, x4, x5, x6, x7⟩ := bx_cells8 hx
      have ff : ∀ j, w4.frozen? ⟨hb, j, none⟩ = false := fun j => by simp [World.frozen?, hx]
      have f5 := ff (0 + 5)
      have f6 := ff (0 + 6)
      have f7 := ff (0 + 7)
      clear hqe hx ff HU
      obtain ⟨wz, HWZ⟩ := nameIt (((w4.setCell ⟨hb, 0 + 5, none⟩ (.slice (some ⟨u.t1, 0, none⟩) N N)).setCell ⟨hb, 0 + 6, none⟩ (.slice (some ⟨u.t2, 0, none⟩) N N)).setCell ⟨hb, 0 + 7, none⟩ (.slice (some ⟨u.t3, 0, none⟩) N N))
      rw [HWZ.out] at HE
      go_wp2_with fail
      first | (rw [HWZ.out]; exact HE.out) | (rw [HWZ.out]; refine bodyPost_end (results_none Try.results33 _ _ _) rfl ?_; exact HE.out) | (refine bodyPost_end (results_none Try.results33 _ _ _) rfl ?_; have := HWZ.out; simp at this ⊢; rw [this]; exact HE.out)
end Cs
end Go.Proofs.Ytbnpemgmdnghgaa
namespace Go.Proofs.Ytbnpemgmdnghgaa
open Go.RowKit

set_option maxHeartbeats 400000 in
theorem gramN (x : Int) (w : World) : Calls Try.prog 30 #[.int .i64 x] w fun e w' => e = .returned (.agg #[.bool false, .int .i64 x]) ∧ Below w.heap.size w w' := by
  go_enter Try.func30, Try.ntmps30
  go_wp2
  exact bodyPost_ret (v := .agg #[.bool false, .int .i64 x]) (by simp [results, Try.results30, go_sem]) rfl ⟨rfl, (Below.refl _ _).alloc (Nat.le_refl _) _⟩
end Go.Proofs.Ytbnpemgmdnghgaa
namespace Go.Proofs.Ytbnpemgmdnghgaa
open Go.RowKit
namespace Cs

/-- what a checked grammar has -/
structure OkC (g : Gram) (N : Nat) : Prop where
  nons : g.nons = (N : Int)
  n1 : 1 ≤ N
  n2 : N ≤ 10
  s0 : 0 ≤ g.start
  s1 : g.start < (N : Int)
  r : okR N g
  l : okL N g
  len : g.rules.length ≤ 32
theorem okC_of {g : Gram} (h : checkG g = 0) : ∃ N, OkC g N := by
  unfold checkG at h
  by_cases hb : badHead g = true
  · rw [if_pos hb] at h; cases h
  · rw [if_neg hb] at h
    by_cases hl : 32 < g.rules.length
    · rw [if_pos hl] at h; cases h
    · rw [if_neg hl] at h
      have hz := faultsFrom_zero h
      unfold badHead at hb
      simp only [Bool.or_eq_true, decide_eq_true_eq, not_or] at hb
      obtain ⟨⟨⟨⟨⟨b1, b2⟩, b3⟩, b4⟩, b5⟩, b6⟩ := hb
      refine ⟨g.nons.toNat, by omega, by omega, by omega, by omega, by omega, fun r hr s hs ht => ?_, fun r hr => ?_, by omega⟩
      · have := (hz r hr).2.2.2 s hs
        unfold hasS at this
        rw [ht] at this
        simp at this
        omega
      · have := hz r hr
        omega
def errC (g : Gram) (n : Int) : Int := if checkG g ≠ 0 then checkG g else if n < 0 ∨ 24 < n then 1 else 0

set_option maxHeartbeats 4000000 in
set_option maxRecDepth 100000 in
theorem checkCE (g : Gram) (ra : Option Addr) (rcap : Nat) (n : Int) (w : World) (hr : Rd AnyB w (.sl (g.rules.map Rule.d)) [.slice ra g.rules.length rcap]) :
    Calls Try.prog 27 #[.agg #[.int .i64 g.terms, .int .i64 g.nons, .int .i64 g.start, .slice ra g.rules.length rcap], .int .i64 n] w fun e w' => e = .returned (.int .i64 (errC g n)) ∧ Below w.heap.size w w' := by
  obtain ⟨w0, HW0⟩ := nameIt (w.alloc (.cells #[.int .i64 g.terms, .int .i64 g.nons, .int .i64 g.start, .slice ra g.rules.length rcap] 24))
  have hb0 : Below w.heap.size w w0 := by rw [← HW0.out]; exact (Below.refl _ _).alloc (Nat.le_refl _) _
  have X0 : Hid (w0.heap[w.heap.size]? = some (.cells #[.int .i64 g.terms, .int .i64 g.nons, .int .i64 g.start, .slice ra g.rules.length rcap] 24 (0, 0))) := by rw [← HW0.out]; exact bx_new _ _ _ rfl
  have HCK := Lib.hid (checkE g ra rcap w0 (hr.below hb0))
  have HE : Hid (errC g n = if checkG g ≠ 0 then checkG g else if n < 0 ∨ 24 < n then 1 else 0) := rfl
  obtain ⟨PST, HP⟩ := nameIt (fun e w' => e = Ending.returned (.int .i64 (errC g n)) ∧ Below w.heap.size w w')
  rw [HP.out]
  have HFIN : Hid (∀ w', Below w0.heap.size w0 w' → PST (.returned (.int .i64 (errC g n))) w') := by
    intro w' h; rw [← HP.out]; exact ⟨rfl, hb0.trans (h.mono hb0.size)⟩
  obtain ⟨R, HR⟩ := nameIt (errC g n)
  rw [HR.out] at HE HFIN
  obtain ⟨c, HC⟩ := nameIt (checkG g)
  rw [HC.out] at HE HCK
  obtain ⟨x0, x1, x2, x3⟩ := bx_cells4 X0.out
  clear hb0 hr HP
  go_enter Try.func27, Try.ntmps27
  go_upto_region 1 with fail
  rw [HW0.out]
  go_wp2_with fail
  with_reducible refine HCK.out.mono ?_
  rintro e w1 ⟨rfl, hb1⟩
  have HFN := Lib.hid (HFIN.out w1 hb1)
  clear hb1 HFIN x0 x1 x2 x3 HW0
  by_cases hc : c = 0
  · subst hc
    have HE1 : Hid (R = if n < 0 ∨ 24 < n then 1 else 0) := by show _ = _; rw [HE.out]; simp
    by_cases hn : n < 0
    · obtain rfl : R = 1 := by rw [HE1.out, if_pos (.inl hn)]
      have b1 : decide (n < 0) = true := by simpa using hn
      go_wp2_with fail
      exact HFN.out
    · have b1 : decide (n < 0) = false := by simpa using hn
      by_cases hn2 : 24 < n
      · obtain rfl : R = 1 := by rw [HE1.out, if_pos (.inr hn2)]
        have b2 : decide (24 < n) = true := by simpa using hn2
        go_wp2_with fail
        exact HFN.out
      · obtain rfl : R = 0 := by rw [HE1.out, if_neg (by omega)]
        have b2 : decide (24 < n) = false := by simpa using hn2
        go_wp2_with fail
        exact HFN.out
  · obtain rfl : R = c := by rw [HE.out, if_pos hc]
    have b1 : (R != 0) = true := by simpa using hc
    go_wp2_with fail
    exact HFN.out
end Cs
end Go.Proofs.Ytbnpemgmdnghgaa
namespace Go.Proofs.Ytbnpemgmdnghgaa
open Go.RowKit
namespace Cs

theorem elIntsC : ElemT Try.prog 29 33 1 24 := ElemT.mk' (z := .slice none 0 0) (by kernel_rfl) (by kernel_rfl) rfl (by decide)
section
variable {g : Gram} {vr : Value} {N n : Nat} {d : Cid} {S M : Nat → Nat → Bool} {V : Nat → Nat → Int} {w0 : World} {C : Nat → Nat → Int} {W W' : World}
theorem own_fr {B : Nat} {e : TypeId} {s : Nat} {v : Value} {k : Nat} {xs : List Value} (h : W.ownsRow B e s v k xs) (hf : Fr N d W W') (hr : ∀ a, a < N → d.rc a < B) : W'.ownsRow B e s v k xs := by
  obtain ⟨h1, h2⟩ := h
  refine ⟨h1, ?_⟩
  rcases h2 with h2 | ⟨b, cap, cur, rfl, hg, hh, r⟩
  · exact .inl h2
  · exact .inr ⟨b, cap, cur, rfl, hg, (hf.block b (Array.getElem?_eq_some_iff.1 hh).1 (fun a ha e => by have := hr a ha; omega)).trans hh, r⟩
theorem RowD.fr {B : Nat} {e : TypeId} {s : Nat} {ds : List D} {v : Value} (h : RowD (fun k => B ≤ k) B e s ds v W) (hf : Fr N d W W') (hr : ∀ a, a < N → d.rc a < B) : RowD (fun k => B ≤ k) B e s ds v W' := by
  obtain ⟨⟨xs, h1, h2⟩, h3⟩ := h
  exact ⟨⟨xs, own_fr h1 hf hr, RdAll.keep (fun k hk hl => ⟨hk, hf.block k hl (fun a ha e => by have := hr a ha; omega)⟩) _ _ h2⟩, Nat.le_trans h3 hf.size⟩
theorem CI.low (h : CI g vr N n d S M C W) (hs : ∀ k, k ≤ d.cb → W'.heap[k]? = W.heap[k]?) : CI g vr N n d S M C W' := by
  obtain ⟨⟨T, h1⟩, h2, h3, h4, h5⟩ := h
  have p2 := h2.pl
  have p3 := h3.pl
  have p4 := h4.pl
  exact ⟨⟨T, (hs _ (Nat.le_refl _)).trans h1⟩, h2.other fun k _ hk => hs k (by omega), h3.other fun k _ hk => hs k (by omega), h4.other fun k _ hk => hs k (by omega), h5⟩
theorem CS.keepB {B : Nat} (h : CS g vr N n d S M V w0 C W) (hb : Below B W W') (hB : d.cb < B) : CS g vr N n d S M V w0 C W' := by
  have p2 := h.ci.some'.pl
  have p3 := h.ci.many.pl
  have p4 := h.ci.cnt.pl
  have p5 := h.ci.le
  have p6 := h.lo
  exact ⟨h.ci.low fun k hk => hb.block k (by omega), h.cv, h.bel.trans (hb.mono (by omega)), h.lo⟩
theorem CS.rlt (h : CS g vr N n d S M V w0 C W) {B : Nat} (hB : d.cb < B) : ∀ a, a < N → d.rc a < B := fun a ha => Nat.lt_trans (h.rc a ha).2 hB
end
/-- the numbers of trees of a nonterminal -/
def tC (g : Gram) (S : Nat → Nat → Bool) (N n A k : Nat) : Int := symV S (valK g.rules S (MK g.rules S N n) MaxC (-1) (sizeK N n)) ⟨false, (A : Int)⟩ k
def rowC (g : Gram) (S : Nat → Nat → Bool) (N n A k : Nat) : List Int := (List.range k).map (tC g S N n A)
def tabC (g : Gram) (S : Nat → Nat → Bool) (N n A : Nat) : List (List Int) := (List.range A).map fun a => rowC g S N n a (n + 1)
theorem rowC_next (g : Gram) (S : Nat → Nat → Bool) (N n A k : Nat) : rowC g S N n A (k + 1) = rowC g S N n A k ++ [tC g S N n A k] := by unfold rowC; rw [List.range_succ, List.map_append]; rfl
theorem tabC_next (g : Gram) (S : Nat → Nat → Bool) (N n A : Nat) : tabC g S N n (A + 1) = tabC g S N n A ++ [rowC g S N n A (n + 1)] := by unfold tabC; rw [List.range_succ, List.map_append]; rfl
theorem rowC_len (g : Gram) (S : Nat → Nat → Bool) (N n A k : Nat) : (rowC g S N n A k).length = k := by simp [rowC]
theorem tabC_len (g : Gram) (S : Nat → Nat → Bool) (N n A : Nat) : (tabC g S N n A).length = A := by simp [tabC]
/-- the counter's lengths -/
def DoneC (g : Gram) (n : Nat) (S : Nat → Nat → Bool) : Prop := (∃ q, S = itP n g.rules q (fun _ _ => false)) ∧ (p3 n g.rules S).2 = false
/-- while the table is made -/
structure TI (g : Gram) (vr : Value) (N n : Nat) (d : Cid) (S : Nat → Nat → Bool) (w1 : World) (B A : Nat) (v : Value) (W : World) : Prop where
  cs : ∃ C, CS g vr N n d S (MK g.rules S N n) (valK g.rules S (MK g.rules S N n) MaxC (-1) (sizeK N n)) w1 C W
  row : RowD (fun k => B ≤ k) B 33 1 ((tabC g S N n A).map D.ints) v W
  cb : d.cb < B
structure TJ (g : Gram) (vr : Value) (N n : Nat) (d : Cid) (S : Nat → Nat → Bool) (w1 w3 : World) (A k : Nat) (v : Value) (W : World) : Prop where
  cs : ∃ C, CS g vr N n d S (MK g.rules S N n) (valK g.rules S (MK g.rules S N n) MaxC (-1) (sizeK N n)) w1 C W
  row : W.ownsRow w3.heap.size 3 1 v k (ints (rowC g S N n A k))
  fr : Fr N d w3 W
  cb : d.cb < w3.heap.size
section
variable {g : Gram} {vr : Value} {N n : Nat} {d : Cid} {S : Nat → Nat → Bool} {w1 w3 W W' : World} {B A k : Nat} {v u : Value}
theorem TJ.keep (h : TJ g vr N n d S w1 w3 A k v W) (hb : Below W.heap.size W W') : TJ g vr N n d S w1 w3 A k v W' := by
  obtain ⟨C, hc⟩ := h.cs
  exact ⟨⟨C, hc.keep hb⟩, own_keep h.row hb, h.fr.trans (Fr.of hb), h.cb⟩
/-- behind the count -/
theorem TJ.of (h : TJ g vr N n d S w1 w3 A k v W) (hf : Fr N d W W') (hc : ∃ C, CS g vr N n d S (MK g.rules S N n) (valK g.rules S (MK g.rules S N n) MaxC (-1) (sizeK N n)) w1 C W') : TJ g vr N n d S w1 w3 A k v W' := by
  obtain ⟨C, hc0⟩ := h.cs
  exact ⟨hc, own_fr h.row hf (hc0.rlt h.cb), h.fr.trans hf, h.cb⟩
theorem TJ.add {v' : Value} (h : TJ g vr N n d S w1 w3 A k v W) (ho : W'.ownsRow w3.heap.size 3 1 v' (k + 1) (ints (rowC g S N n A k) ++ [.int .i64 (tC g S N n A k)])) (hg : W.grownBy W' v.ownBlock) : TJ g vr N n d S w1 w3 A (k + 1) v' W' := by
  obtain ⟨C, hc⟩ := h.cs
  have hlt := h.row.lt
  have hs := h.fr.size
  refine ⟨⟨C, hc.keepB (B := w3.heap.size) ((Below.refl _ _).grown hg hs (fun k e => (hlt k e).1)) h.cb⟩, ?_, ?_, h.cb⟩
  · rw [rowC_next]; simpa [ints] using ho
  · exact ⟨hg.os.trans h.fr.os, hg.tape.trans h.fr.tape, hg.output.trans h.fr.output, Nat.le_trans hs hg.size, fun j hj hn => (hg.block j (by omega) (fun e => by have := (hlt j e.symm).1; omega)).trans (h.fr.block j hj hn)⟩
theorem TI.keep (h : TI g vr N n d S w1 B A v W) (hb : Below W.heap.size W W') : TI g vr N n d S w1 B A v W' := by
  obtain ⟨C, hc⟩ := h.cs
  exact ⟨⟨C, hc.keep hb⟩, h.row.keep hb, h.cb⟩
theorem TI.start (h : TI g vr N n d S w1 B A v w3) : TJ g vr N n d S w1 w3 A 0 (.slice none 0 0) w3 := by
  have := h.row.le
  have := h.cb
  exact ⟨h.cs, World.ownsRow_nil _ _ _ _, Fr.refl _ _ _, by omega⟩
/-- a row is done: what the append of it finds -/
theorem TI.fin (h : TI g vr N n d S w1 B A v w3) (hj : TJ g vr N n d S w1 w3 A k u W) : RowD (fun k => B ≤ k) B 33 1 ((tabC g S N n A).map D.ints) v W := by
  obtain ⟨C, hc⟩ := h.cs
  exact RowD.fr h.row hj.fr (hc.rlt h.cb)
theorem TI.add {v' : Value} {xs : List Value} (h : TI g vr N n d S w1 B A v w3) (hj : TJ g vr N n d S w1 w3 A (n + 1) u W) (h1 : W.ownsRow B 33 1 v A xs) (h2 : RdAll (fun k => B ≤ k ∧ v.ownBlock ≠ some k) W ((tabC g S N n A).map D.ints) xs)
    (ho : W'.ownsRow B 33 1 v' (A + 1) (xs ++ [u])) (hg : W.grownBy W' v.ownBlock) (hat : v'.ownBlock = v.ownBlock ∨ ∃ k, v'.ownBlock = some k ∧ W.heap.size ≤ k) : TI g vr N n d S w1 B (A + 1) v' W' := by
  obtain ⟨C, hc⟩ := hj.cs
  have hle := h.row.le
  have hs := hj.fr.size
  have hlt : ∀ k, v.ownBlock = some k → B ≤ k ∧ k < w3.heap.size := by
    obtain ⟨xs', o1, o2⟩ := h.row.own
    exact o1.lt
  refine ⟨⟨C, hc.keepB (B := B) ((Below.refl _ _).grown hg (by omega) (fun k e => (hlt k e).1)) h.cb⟩, ?_, h.cb⟩
  rw [tabC_next, List.map_append]
  have hrd : Rd (fun k => w3.heap.size ≤ k) W (D.ints (rowC g S N n A (n + 1))) [u] := rd_of_own hj.row ((rdAll_ints _ _).2 rfl) (by simp [rowC_len]) (fun k e => (hj.row.lt k e).1)
  exact RowD.step (es := [D.ints (rowC g S N n A (n + 1))]) h1 h2 (by rw [List.length_map, tabC_len]) (RdAll.one hrd) (fun k hk _ => ⟨by omega, fun e => by have := (hlt k e).2; omega⟩) (by omega) (by simpa using ho) hg hat
end

/-- the table of the numbers of trees, or an error -/
def TreesPost (g : Gram) (n : Int) (w : World) (e : Ending) (w' : World) : Prop :=
  Below w.heap.size w w' ∧ ((errC g n ≠ 0 ∧ e = .returned (.tuple #[.slice none 0 0, .int .i64 (errC g n)])) ∨
    (errC g n = 0 ∧ ∃ (N n' : Nat) (S : Nat → Nat → Bool) (a : Option Addr) (c : Nat), OkC g N ∧ n = (n' : Int) ∧ n' ≤ 24 ∧ DoneC g n' S ∧ e = .returned (.tuple #[.slice a N c, .int .i64 0]) ∧ Rd AnyB w' (.sl ((tabC g S N n' N).map D.ints)) [.slice a N c]))
set_option maxHeartbeats 8000000 in
set_option maxRecDepth 100000 in
theorem treesE (g : Gram) (ra : Option Addr) (rcap : Nat) (n : Int) (w : World) (hr : Rd AnyB w (.sl (g.rules.map Rule.d)) [.slice ra g.rules.length rcap]) :
    Calls Try.prog 9 #[.agg #[.int .i64 g.terms, .int .i64 g.nons, .int .i64 g.start, .slice ra g.rules.length rcap], .int .i64 n] w (TreesPost g n w) := by
  obtain ⟨w0, HW0⟩ := nameIt (w.alloc (.cells #[.int .i64 g.terms, .int .i64 g.nons, .int .i64 g.start, .slice ra g.rules.length rcap] 24))
  have hb0 : Below w.heap.size w w0 := by rw [← HW0.out]; exact (Below.refl _ _).alloc (Nat.le_refl _) _
  have HB0 := Lib.hid hb0
  have X0 : Hid (w0.heap[w.heap.size]? = some (.cells #[.int .i64 g.terms, .int .i64 g.nons, .int .i64 g.start, .slice ra g.rules.length rcap] 24 (0, 0))) := by rw [← HW0.out]; exact bx_new _ _ _ rfl
  have HCK := Lib.hid (checkCE g ra rcap n w0 (hr.below hb0))
  obtain ⟨PST, HP⟩ := nameIt (TreesPost g n w)
  rw [HP.out]
  have HRD := Lib.hid (hr.below hb0)
  by_cases he : errC g n = 0
  · have hck : checkG g = 0 := by
      unfold errC at he
      by_cases h : checkG g = 0
      · exact h
      · rw [if_pos h] at he; exact absurd he h
    have hnn : 0 ≤ n ∧ n ≤ 24 := by
      unfold errC at he
      rw [if_neg (by simpa using hck)] at he
      by_cases h : n < 0 ∨ 24 < n
      · rw [if_pos h] at he; cases he
      · omega
    obtain ⟨N, hok⟩ := okC_of hck
    obtain ⟨n', rfl⟩ := Int.eq_ofNat_of_zero_le hnn.1
    obtain ⟨n, hn'⟩ : ∃ x : Nat, x = n' := ⟨_, rfl⟩
    subst hn'
    have hn24 : n ≤ 24 := by omega
    have HFIN : Hid (∀ (S : Nat → Nat → Bool) (a : Option Addr) (c : Nat) (w' : World), Below w0.heap.size w0 w' → DoneC g n S → Rd AnyB w' (.sl ((tabC g S N n N).map D.ints)) [.slice a N c] → PST (.returned (.tuple #[.slice a N c, .int .i64 0])) w') := by
      intro S a c w' h1 h2 h3
      rw [← HP.out]
      exact ⟨hb0.trans (h1.mono hb0.size), .inr ⟨he, N, n, S, a, c, hok, rfl, hn24, h2, rfl, h3⟩⟩
    have HMK : Hid (∀ W, Below w0.heap.size w0 W → Calls Try.prog 28 #[.agg #[.int .i64 g.terms, .int .i64 g.nons, .int .i64 g.start, .slice ra g.rules.length rcap], .int .i64 (n : Int)] W (MadeC g (.slice ra g.rules.length rcap) N n W)) :=
      fun W hb => makeE hok.nons hok.n1 hok.n2 hn24 hok.r hok.l W (HRD.out.below hb)
    have HOF : Hid (∀ (w1 : World) (d : Cid) (S : Nat → Nat → Bool) (C : Nat → Nat → Int) (A k : Nat) (W : World), Below w0.heap.size w0 w1 → A < N → k ≤ n → CS g (.slice ra g.rules.length rcap) N n d S (MK g.rules S N n) (valK g.rules S (MK g.rules S N n) MaxC (-1) (sizeK N n)) w1 C W →
        Calls Try.prog 29 #[.pointer (some ⟨d.cb, 0, none⟩), .agg #[.bool false, .int .i64 (A : Int)], .int .i64 (k : Int)] W (OfPost g (.slice ra g.rules.length rcap) N n d S (MK g.rules S N n) (valK g.rules S (MK g.rules S N n) MaxC (-1) (sizeK N n)) w1 (tC g S N n A k) W)) := by
      intro w1 d S C A k W hb hA hk hc
      have := ofE (d := d) (w0 := w1) (n := n) (by omega) (by have := hok.n2; omega) hok.r (ends_MK (rules := g.rules) (S := S) (N := N) (n := n) hok.r) (HRD.out.below hb) (sizeK N n + 1) ⟨false, (A : Int)⟩ k C W (fun _ => ⟨by simp, by simpa using hA⟩) hk (fun _ => okK_all _ _ _ (Nat.lt_succ_self _)) hc
      exact this
    have hnons := hok.nons
    have hN1 := hok.n1
    have hN2 := hok.n2
    obtain ⟨m, HM⟩ := nameIt (n + 1)
    have hm1 : 1 ≤ m := by have := HM.out; omega
    have hm2 : m ≤ 25 := by have := HM.out; omega
    have HMZ : Hid (((n : Int) + 1) = (m : Int)) := by show _ = _; rw [← HM.out]; omega
    have hw1 : IntKind.i64.wrap ((n : Int) + 1) = (m : Int) := by rw [IntWalk.i64_in _ (by omega), HMZ.out]
    obtain ⟨gt, HGT⟩ := nameIt g.terms
    obtain ⟨gs, HGS⟩ := nameIt g.start
    obtain ⟨rl, HRL⟩ := nameIt g.rules.length
    rw [he] at HCK
    rw [HGT.out, hnons, HGS.out, HRL.out] at HW0 X0 HCK HMK
    rw [HRL.out] at HOF
    rw [HGT.out, hnons, HGS.out, HRL.out]
    obtain ⟨x0, x1, x2, x3⟩ := bx_cells4 X0.out
    clear hb0 hr HP he hck hnn
    go_enter Try.func9, Try.ntmps9
    go_upto_region 1 with fail
    rw [HW0.out]
    go_wp2_with fail
    with_reducible refine HCK.out.mono ?_
    rintro e w1 ⟨rfl, hb1⟩
    have HB1 := Lib.hid hb1
    obtain ⟨x0, x1, x2, x3⟩ := bx_cells4 (bx_keep X0.out hb1)
    go_wp2_with fail
    with_reducible refine (HMK.out w1 HB1.out).mono ?_
    rintro e w2 ⟨d, S, rfl, hq, hp3, hci, hb2, hlo⟩
    have HDN : Hid (DoneC g n S) := ⟨hq, hp3⟩
    have HB2 : Hid (Below w1.heap.size w1 w2) := hb2
    have hcb : d.cb < w2.heap.size := hci.lt
    have HTI : Hid (TI g (.slice ra rl rcap) N n d S w1 w2.heap.size 0 (.slice none 0 0) w2) := ⟨⟨_, hci, fun _ _ _ _ => .inl rfl, hb2, hlo⟩, RowD.nil _ _ _ _ _ (Nat.le_refl _), hcb⟩
    obtain ⟨B, HBN⟩ := nameIt w2.heap.size
    rw [HBN.out] at HTI hcb
    obtain ⟨x0, x1, x2, x3⟩ := bx_cells4 (bx_keep (bx_keep X0.out hb1) hb2)
    have HBX := Lib.hid (bx_keep X0.out hb1)
    clear hq hp3 hci hb2 hlo hb1
    go_wp2_with fail
    clear x0 x1 x2 x3
    go_loopg [8, 23] N (fun gg v8 v23 wr => ∃ (A : Nat) (a : Option Addr) (c : Nat), A ≤ N ∧ N - A ≤ gg ∧ v8 = .slice a A c ∧ v23 = .int .i64 A ∧ Hid (TI g (.slice ra rl rcap) N n d S w1 B A (.slice a A c) wr))
    case atStart => exact ⟨0, none, 0, by omega, by omega, rfl, rfl, HTI⟩
    case round =>
      clear HTI
      obtain ⟨A, a, c, hA, hg, rfl, rfl, HTI⟩ := hrel
      obtain ⟨w3, rfl⟩ : ∃ ww : World, ww = wr := ⟨_, rfl⟩
      by_cases hAN : A < N
      · have hAN' : (A : Int) < (N : Int) := by omega
        have HTJ0 := Lib.hid HTI.out.start
        go_wp2_with fail
        go_loopg [10, 28] m (fun gg v10 v28 wr => ∃ (k : Nat) (b : Option Addr) (f : Nat), k ≤ m ∧ m - k ≤ gg ∧ v10 = .slice b k f ∧ v28 = .int .i64 k ∧ Hid (TJ g (.slice ra rl rcap) N n d S w1 w3 A k (.slice b k f) wr))
        case atStart => exact ⟨0, none, 0, by omega, by omega, rfl, rfl, HTJ0⟩
        case round =>
          clear HTJ0
          obtain ⟨k, b, f, hk, hg2, rfl, rfl, HTJ⟩ := hrel
          obtain ⟨w4, rfl⟩ : ∃ ww : World, ww = wr := ⟨_, rfl⟩
          by_cases hkm : k < m
          · have hkm' : (k : Int) < (m : Int) := by omega
            have hkn : k ≤ n := by have := HM.out; omega
            go_wp2_with fail
            with_reducible refine (gramN _ _).mono ?_
            rintro e w5 ⟨rfl, hb5⟩
            have HTJ5 := Lib.hid (HTJ.out.keep hb5)
            clear hb5
            obtain ⟨C5, hc5⟩ := HTJ5.out.cs
            go_wp2_with fail
            with_reducible refine (HOF.out w1 d S C5 A k w5 HB1.out hAN hkn hc5).mono ?_
            rintro e w6 ⟨rfl, hf6, hc6⟩
            have HTJ6 := Lib.hid (HTJ5.out.of hf6 hc6)
            have HOW := Lib.hid HTJ6.out.row
            have hsz6 := HTJ6.out.fr.size
            obtain ⟨tv, HTV⟩ := nameIt (tC g S N n A k)
            rw [HTV.out]
            clear hf6 hc6 hc5
            go_wp2_with (at_builtin; refine wp_app1at elInt rfl _ _ rfl HOW.out rfl rfl (by simp) rfl rfl (by omega) (by unfold maxLen; omega) (by omega) ?_)
            intro v7 w7 ho7 hg7 hat7
            obtain ⟨a7, c7, rfl, -, -⟩ := own_len ho7
            have HTJ7 : Hid (TJ g (.slice ra rl rcap) N n d S w1 w3 A (k + 1) (.slice a7 (k + 1) c7) w7) := HTJ6.out.add (by rw [HTV.out]; exact ho7) hg7
            clear ho7 hg7 hat7
            go_wp2_with fail
            go_roundg (m - (k + 1))
            case measure => omega
            case rel => exact ⟨k + 1, a7, c7, by omega, by omega, rfl, by go_num, HTJ7⟩
          · have hkm' : ¬ (k : Int) < (m : Int) := by omega
            have hkk : k = n + 1 := by have := HM.out; omega
            have HRO := Lib.hid (HTI.out.fin HTJ.out)
            obtain ⟨xs, hx1, hx2⟩ := HRO.out.own
            rw [List.length_map, tabC_len] at hx1
            have HX1 := Lib.hid hx1
            have HX2 := Lib.hid hx2
            have hszB := HRO.out.le
            have HTJ8 : Hid (TJ g (.slice ra rl rcap) N n d S w1 w3 A (n + 1) (.slice b k f) w4) := by have := HTJ.out; rw [hkk] at this ⊢; exact this
            clear hkk hx1 hx2 HTJ
            go_wp2_with (at_builtin; refine wp_app1at elIntsC rfl _ _ rfl HX1.out rfl rfl (by simp) rfl rfl (by omega) (by unfold maxLen; omega) (by omega) ?_)
            intro v7 w7 ho7 hg7 hat7
            obtain ⟨a7, c7, rfl, -, -⟩ := own_len ho7
            have HTI7 : Hid (TI g (.slice ra rl rcap) N n d S w1 B (A + 1) (.slice a7 (A + 1) c7) w7) := HTI.out.add HTJ8.out HX1.out HX2.out ho7 hg7 hat7
            clear ho7 hg7 hat7
            go_wp2_with fail
            go_roundg (N - (A + 1))
            case measure => omega
            case rel => exact ⟨A + 1, a7, c7, by omega, by omega, rfl, by go_num, HTI7⟩
      · have hAN' : ¬ (A : Int) < (N : Int) := by omega
        have hAA : A = N := by omega
        have HE : Hid (PST (.returned (.tuple #[.slice a A c, .int .i64 0])) w3) := by
          have h := HTI.out
          rw [hAA] at h ⊢
          obtain ⟨C, hc⟩ := h.cs
          exact HFIN.out S a c w3 (HB1.out.trans (hc.bel.mono HB1.out.size)) HDN.out (h.row.rd.mono fun _ _ _ => trivial)
        clear hAA
        go_wp2_with fail
        first | exact HE.out | (refine bodyPost_ret (results_tmp2 Try.results9 _ _ _) rfl ?_; exact HE.out)
  · have HFIN : Hid (∀ w', Below w0.heap.size w0 w' → PST (.returned (.tuple #[.slice none 0 0, .int .i64 (errC g n)])) w') := by
      intro w' h1
      rw [← HP.out]
      exact ⟨hb0.trans (h1.mono hb0.size), .inl ⟨he, rfl⟩⟩
    obtain ⟨c, HC⟩ := nameIt (errC g n)
    rw [HC.out] at he HFIN HCK
    have b1 : (c != 0) = true := by simpa using he
    obtain ⟨x0, x1, x2, x3⟩ := bx_cells4 X0.out
    clear hb0 hr HP
    go_enter Try.func9, Try.ntmps9
    go_upto_region 1 with fail
    rw [HW0.out]
    go_wp2_with fail
    with_reducible refine HCK.out.mono ?_
    rintro e w1 ⟨rfl, hb1⟩
    have HF := Lib.hid (HFIN.out w1 hb1)
    clear hb1 HFIN x0 x1 x2 x3
    go_wp2_with fail
    first | exact HF.out | (refine bodyPost_ret (results_tmp2 Try.results9 _ _ _) rfl ?_; exact HF.out)
end Cs
end Go.Proofs.Ytbnpemgmdnghgaa
