/- The walk of mini.Same. -/
import Derived.Test.YtenkhjmedolknaaSameP
import Derived.Test.YtenkhjmedolknaaDfaRun
import Derived.Test.YtenkhjmedolknaaReverse
import Derived.Test.YtenkhjmedolknaaRegU
import Derived.Test.YtenkhjmedolknaaRegA
namespace Go.Proofs.Ytenkhjmedolknaa
open Go.RowKit
namespace Df

theorem inv_setD {md : Region.Mode} {ops : Array Oper} {n i : Nat} {listed : Array Bool} (inv : HeadInv md ops n listed) (hr : (Region.ready md ops listed).contains i = true) (hin : i < n) : HeadInv md ops n (listed.setIfInBounds i true) := inv.set (by simpa using hr) hin
theorem bx_set2D {w : World} {b : Nat} {x0 x1 : Value} {T : TypeId} (h : w.heap[b]? = some (.cells #[x0, x1] T (0, 0))) (y0 y1 : Value) : ((w.setCell ⟨b, 0, none⟩ y0).setCell ⟨b, 1, none⟩ y1).heap[b]? = some (.cells #[y0, y1] T (0, 0)) := by
  rw [bx_set (bx_set h 0 y0) 1 y1]; rfl
/-- behind an append to another row -/
theorem own_otherP' {w w' : World} {B : Nat} {e : TypeId} {s : Nat} {v : Value} {n : Nat} {xs : List Value} {row : Option Nat} (h : w.ownsRow B e s v n xs) (hg : w.grownBy w' row) (hne : ∀ k, v.ownBlock = some k → row ≠ some k) : w'.ownsRow B e s v n xs := by
  have hlt := h.lt
  obtain ⟨h1, h2⟩ := h
  refine ⟨h1, ?_⟩
  rcases h2 with h2 | ⟨g, cap, cur, rfl, hg', hh, r⟩
  · exact .inl h2
  · exact .inr ⟨g, cap, cur, rfl, hg', (hg.block g (hlt g rfl).2 (fun e => hne g rfl e.symm)).trans hh, r⟩
theorem elNode : ElemT Try.prog 61 60 4 32 := ElemT.mk' (z := .agg #[.int .i64 0, .int .i64 0, .int .i64 0, .int .i64 0]) (by kernel_rfl) (by kernel_rfl) rfl (by decide)

set_option maxHeartbeats 8000000 in
set_option maxRecDepth 100000 in
theorem sameE (x y : Dfa) (hx0 : dfaErr x = 0) (hy0 : dfaErr y = 0) (hfx : Flat x) (hfy : Flat y) (hwd : x.width = y.width) (aa an ba bn : Option Addr) (ca cn da dn : Nat) (w : World) (hX : DfA x aa an ca cn w) (hY : DfA y ba bn da dn w) :
    Calls Try.prog 30 #[.agg #[.int .i64 x.start, .slice aa x.acc.length ca, .slice an x.next.length cn], .agg #[.int .i64 y.start, .slice ba y.acc.length da, .slice bn y.next.length dn]] w (SamePost x y w) := by
  have hx := right_of hx0
  have hy := right_of hy0
  obtain ⟨w0, HW0⟩ := nameIt ((w.alloc (.cells #[.int .i64 x.start, .slice aa x.acc.length ca, .slice an x.next.length cn] 25)).alloc (.cells #[.int .i64 y.start, .slice ba y.acc.length da, .slice bn y.next.length dn] 25))
  have hb0 : Below w.heap.size w w0 := by rw [← HW0.out]; exact ((Below.refl _ _).alloc (Nat.le_refl _) _).alloc (by simp) _
  have HB0 := Lib.hid hb0
  have hsz0 : w0.heap.size = w.heap.size + 2 := by rw [← HW0.out]; simp
  have HSZ0 := Lib.hid hsz0
  have X0 : Hid (w0.heap[w.heap.size]? = some (.cells #[.int .i64 x.start, .slice aa x.acc.length ca, .slice an x.next.length cn] 25 (0, 0))) := by
    rw [← HW0.out]; exact bx_keep (bx_new _ _ _ rfl) ((Below.refl _ _).alloc (Nat.le_refl _) _)
  have Y0 : Hid (w0.heap[w.heap.size + 1]? = some (.cells #[.int .i64 y.start, .slice ba y.acc.length da, .slice bn y.next.length dn] 25 (0, 0))) := by
    rw [← HW0.out]; exact bx_new _ _ _ (by simp)
  have HX := Lib.hid (hX.below hb0)
  have HY := Lib.hid (hY.below hb0)
  have HCX : Hid (∀ W, Below w0.heap.size w0 W → Calls Try.prog 16 #[.agg #[.int .i64 x.start, .slice aa x.acc.length ca, .slice an x.next.length cn]] W fun e w' => e = .returned (.int .i64 0) ∧ Below W.heap.size W w') := fun W hb => by
    have := checkE x aa an ca cn W (HX.out.below hb).A (HX.out.below hb).N
    rw [hx0] at this
    exact this
  have HCY : Hid (∀ W, Below w0.heap.size w0 W → Calls Try.prog 16 #[.agg #[.int .i64 y.start, .slice ba y.acc.length da, .slice bn y.next.length dn]] W fun e w' => e = .returned (.int .i64 0) ∧ Below W.heap.size W w') := fun W hb => by
    have := checkE y ba bn da dn W (HY.out.below hb).A (HY.out.below hb).N
    rw [hy0] at this
    exact this
  have HAX : Hid (∀ W, Below w0.heap.size w0 W → ∀ s, inS x s → ∀ c : Nat, c < x.width → Calls Try.prog 32 #[.agg #[.int .i64 x.start, .slice aa x.acc.length ca, .slice an x.next.length cn], .int .i64 s, .int .i64 (c : Int)] W fun e w' => e = .returned (.int .i64 (toS x s c)) ∧ Below W.heap.size W w') := fun W hb s hs c hc =>
    afterE x hx s hs c hc _ an cn W (HX.out.below hb).N
  have HAY : Hid (∀ W, Below w0.heap.size w0 W → ∀ s, inS y s → ∀ c : Nat, c < x.width → Calls Try.prog 32 #[.agg #[.int .i64 y.start, .slice ba y.acc.length da, .slice bn y.next.length dn], .int .i64 s, .int .i64 (c : Int)] W fun e w' => e = .returned (.int .i64 (toS y s c)) ∧ Below W.heap.size W w') := fun W hb s hs c hc =>
    afterE y hy s hs c (by rw [← hwd]; exact hc) _ bn dn W (HY.out.below hb).N
  have HRX : Hid (∀ W, Below w0.heap.size w0 W → ∀ s, inS x s → Calls Try.prog 31 #[.agg #[.int .i64 x.start, .slice aa x.acc.length ca, .slice an x.next.length cn], .int .i64 s] W fun e w' => e = .returned (.int .i64 (atS x s)) ∧ Below W.heap.size W w') := fun W hb s hs =>
    resultE x hx s hs _ aa ca W (HX.out.below hb).A
  have HRY : Hid (∀ W, Below w0.heap.size w0 W → ∀ s, inS y s → Calls Try.prog 31 #[.agg #[.int .i64 y.start, .slice ba y.acc.length da, .slice bn y.next.length dn], .int .i64 s] W fun e w' => e = .returned (.int .i64 (atS y s)) ∧ Below W.heap.size W w') := fun W hb s hs =>
    resultE y hy s hs _ ba da W (HY.out.below hb).A
  have HFN : Hid (∀ n : Int × Int, inS x n.1 → inS y n.2 → (atS x n.1 != atS y n.2) = badP x y n) := fun n h1 h2 => flat_ne hx hy hfx hfy h1 h2
  have HIN : Hid (∀ (L : List It) (i c : Nat), Bf.Inv (stepP x y) x.width (x.start, y.start) (badP x y) L i c → (∀ p ∈ L, inS x p.1.1 ∧ inS y p.1.2) ∧ smL L ∧ L.length ≤ 40804) := fun L i c h => ⟨inv_in hx hy h, inv_sm hx hy h, few_of (inv_sm hx hy h) h.nd⟩
  have HTI : Hid (∀ (n : Int × Int) (c : Nat), sm (toS x n.1 c) ∧ sm (toS y n.2 c)) := fun n c => ⟨sm_of hx (toS_in hx n.1 c), sm_of hy (toS_in hy n.2 c)⟩
  have HLW : Hid (∀ (L : List It) (i : Nat) (p : It), Bf.Inv (stepP x y) x.width (x.start, y.start) (badP x y) L i 0 → L[i]? = some p → badP x y p.1 = true → LeastW x y p.2) := fun L i p h1 h2 h3 => leastW_search h1 h2 h3
  have HAL : Hid (∀ (L : List It), Bf.Inv (stepP x y) x.width (x.start, y.start) (badP x y) L L.length 0 → Alike x y) := fun L h u hu => h.none hu
  have HIV0 : Hid (Bf.Inv (stepP x y) x.width (x.start, y.start) (badP x y) [((x.start, y.start), [])] 0 0) := Bf.Inv.start _ _ _ _
  have hs1 : sm x.start := sm_of hx (start_in hx)
  have hs2 : sm y.start := sm_of hy (start_in hy)
  have hnx := hx.states.1
  have hny := hy.states.1
  have hm16 := hx.syms.2
  have HPOST : Hid (∀ (v : Value) (W : World), Below w0.heap.size w0 W → (∃ u a n cap, LeastW x y u ∧ u.length ≤ 40804 ∧ v = (.tuple #[.bool false, .slice a n cap, .int .i64 0]) ∧ Sl W (.slice a n cap) (ints (List.map (fun (n : Nat) => (n : Int)) u))) ∨ (Alike x y ∧ v = (.tuple #[.bool true, .slice none 0 0, .int .i64 0])) → SamePost x y w (.returned v) W) := by
    intro v W hb h
    refine ⟨HB0.out.trans (hb.mono HB0.out.size), ?_⟩
    rcases h with ⟨u, a, n, cap, h1, h0, h2, h3⟩ | ⟨h1, h2⟩
    · exact .inl ⟨u, a, n, cap, h1, h0, by rw [h2], h3⟩
    · exact .inr ⟨h1, by rw [h2]⟩
  obtain ⟨PST, HP⟩ := nameIt (SamePost x y w)
  rw [HP.out] at HPOST ⊢
  obtain ⟨b, off, vr, hae, c0, hsl⟩ := Rd.rowI_at HX.out.N hnx
  obtain ⟨a0, k0, rfl⟩ := hsl.form
  rw [ints_len, width_at hnx, Nat.add_zero] at c0
  obtain ⟨b', off', vr', hae', d0, hsl'⟩ := Rd.rowI_at HY.out.N hny
  obtain ⟨a0', k0', rfl⟩ := hsl'.form
  rw [ints_len, width_at hny, ← hwd, Nat.add_zero] at d0
  obtain ⟨step, HSTEP⟩ := nameIt (stepP x y)
  obtain ⟨bad, HBAD⟩ := nameIt (badP x y)
  obtain ⟨m, HM⟩ := nameIt x.width
  obtain ⟨n, HN⟩ := nameIt x.next.length
  obtain ⟨la, HLA⟩ := nameIt x.acc.length
  obtain ⟨n', HN'⟩ := nameIt y.next.length
  obtain ⟨la', HLA'⟩ := nameIt y.acc.length
  obtain ⟨sx, HSX⟩ := nameIt x.start
  obtain ⟨sy, HSY⟩ := nameIt y.start
  have HSTP : Hid (∀ (n : Int × Int) (c : Nat), step n c = (toS x n.1 c, toS y n.2 c)) := by intro n c; rw [← HSTEP.out]; rfl
  simp only [HSTEP.out, HBAD.out, HM.out, HN.out, HLA.out, HN'.out, HLA'.out, HSX.out, HSY.out] at HW0 X0 Y0 HCX HCY HAX HAY HRX HRY HFN HIN HLW HAL HIV0 hs1 hs2 hnx hny hm16 c0 d0
  rw [HN.out, HLA.out, HN'.out, HLA'.out, HSX.out, HSY.out]
  have hn0 : (0 : Int) < (n : Int) := by omega
  have hn0' : (0 : Int) < (n' : Int) := by omega
  subst hae hae'
  obtain ⟨x0, x1, x2⟩ := bx_cells3 X0.out
  obtain ⟨y0, y1, y2⟩ := bx_cells3 Y0.out
  have hmk : ∀ W : World, (Instr.makeMap 63 none).run Try.prog W = .ok (.map (some W.heap.size)) (W.alloc (.map #[] 0)) := fun W => by
    simp [Instr.makeMap, run_underlying Try.underlying63]; try rfl
  have hlo : w.heap.size < w0.heap.size := by omega
  have hlo2 : w.heap.size + 1 < w0.heap.size := by omega
  clear hX hY hx0 hy0 hx hy hb0 hsl hsl' hwd hfx hfy hsz0
  go_enter Try.func30, Try.ntmps30
  go_upto_region 1 with fail
  rw [HW0.out]
  go_wp2_with fail
  refine (HCX.out _ (Below.refl _ _)).mono ?_
  rintro e w1 ⟨rfl, hb1⟩
  have HB1 := Lib.hid hb1
  clear x0 x1 x2 y0 y1 y2 hb1
  obtain ⟨y0, y1, y2⟩ := bx_cells3 (bx_keep Y0.out HB1.out)
  go_wp2_with fail
  refine (HCY.out _ HB1.out).mono ?_
  rintro e w2 ⟨rfl, hb2⟩
  have HB2 := Lib.hid (HB1.out.trans (hb2.mono HB1.out.size))
  clear y0 y1 y2 hb2 HCX HCY
  obtain ⟨x0, x1, x2⟩ := bx_cells3 (bx_keep X0.out HB2.out)
  obtain ⟨y0, y1, y2⟩ := bx_cells3 (bx_keep Y0.out HB2.out)
  have e0 := (HB2.out.cell (lt_of_cell c0)).trans c0
  have e1 := (HB2.out.cell (lt_of_cell d0)).trans d0
  go_upto_region 7 with fail
  go_quiet (fail)
  clear x0 x1 x2 y0 y1 y2 e0 e1
  obtain ⟨wA, HWA⟩ := nameIt (w2.drewN nq)
  have HBA : Hid (Below w0.heap.size w0 wA) := by rw [← HWA.out]; exact HB2.out.trans ((below_drewN _ _).mono HB2.out.size)
  obtain ⟨x0, x1, x2⟩ := bx_cells3 (bx_keep X0.out HBA.out)
  obtain ⟨y0, y1, y2⟩ := bx_cells3 (bx_keep Y0.out HBA.out)
  have hst : SetM Try.prog 62 4 (wA.heap.size + 1) 0 (inP []) ((wA.alloc (.cells #[.int .i64 sx, .int .i64 sy, .int .i64 (-1), .int .i64 (-1)] 60)).alloc (.map #[] 0)) := SetM.start _ _ _ _ (by simp) (fun l => rfl)
  obtain ⟨w5, hup, hset, hgr⟩ := hst.add keyedD Try.underlying63 Try.underlying4 (by decide) (keyD hs1 hs2) (S' := inP ([] ++ [((sx, sy), [])])) (inP_same [] ((sx, sy), [])) (fun l' h => inP_other [] ((sx, sy), []) h)
  have HI0 : Hid (SI w0 (wA.heap.size + 1) [((sx, sy), [])] [⟨sx, sy, -1, -1⟩] (.slice (some ⟨wA.heap.size, 0, none⟩) 1 1) w5) := by
    have ho : (wA.alloc (.cells #[.int .i64 sx, .int .i64 sy, .int .i64 (-1), .int .i64 (-1)] 60)).ownsRow w0.heap.size 60 4 (.slice (some ⟨wA.heap.size, 0, none⟩) 1 1) 1 [.int .i64 sx, .int .i64 sy, .int .i64 (-1), .int .i64 (-1)] := World.ownsRow_lit wA #[.int .i64 sx, .int .i64 sy, .int .i64 (-1), .int .i64 (-1)] 1 HBA.out.size (by decide) (by rfl)
    have hsz := HBA.out.size
    refine ⟨((HBA.out.alloc hsz _).alloc (by simp; omega) _).grown hgr (by simp; omega) (fun k e => by cases e; omega), ?_, hset, by omega, fun k e => by simp [Value.ownBlock] at e; omega⟩
    exact (own_keep ho ((Below.refl _ _).alloc (Nat.le_refl _) _)).kept hgr (.inr (by simp [Value.ownBlock]))
  obtain ⟨mb, HMB⟩ := nameIt (wA.heap.size + 1)
  have hloA : w.heap.size < wA.heap.size := Nat.lt_of_lt_of_le hlo HBA.out.size
  have hloA2 : w.heap.size + 1 < wA.heap.size := Nat.lt_of_lt_of_le hlo2 HBA.out.size
  rw [HWA.out]
  go_upto_region 13 with fail
  clear x0 x1 x2 y0 y1 y2 hst hset hgr hup hmk
  rw [HMB.out] at HI0
  rw [HMB.out]
  clear HMB HWA
  have HLK0 := Lib.hid (Lk.start sx sy)
  go_wp2_with fail
  go_loopg [11, 13] 40805 (fun gg v11 v13 wr => ∃ (i : Nat) (L : List It) (M : List Nd), i ≤ L.length ∧ 40805 - i ≤ gg ∧ v13 = .int .i64 i ∧ Hid (Bf.Inv step m (sx, sy) bad L i 0) ∧ Hid (Lk M L) ∧ Hid (SI w0 mb L M v11 wr))
  case atStart => exact ⟨0, _, _, by omega, by omega, rfl, HIV0, HLK0, HI0⟩
  case round =>
    clear HIV0 HLK0 HI0
    obtain ⟨i, L, M, hi, hg, rfl, HIV, HLK, HI⟩ := hrel
    obtain ⟨w6, rfl⟩ : ∃ ww : World, ww = wr := ⟨_, rfl⟩
    obtain ⟨HINS, HSML, hfew⟩ := HIN.out _ _ _ HIV.out
    have hlen := HLK.out.len
    obtain ⟨ga, gc, rfl, hgc, hgc2⟩ := own_len HI.out.row
    unfold maxLen at hgc2
    obtain ⟨ml, HML⟩ := nameIt M.length
    have HLEN := Lib.hid hlen
    rw [HML.out] at hgc
    by_cases hlt : i < ml
    · have hlt' : (i : Int) < (ml : Int) := by omega
      have hi0 : (0 : Int) ≤ (i : Int) := by omega
      have hml := HML.out
      have hiM : i < M.length := by omega
      have hiL : i < L.length := by omega
      have hMi : M[i]? = some M[i] := List.getElem?_eq_getElem hiM
      have hLi : L[i]? = some L[i] := List.getElem?_eq_getElem hiL
      obtain ⟨hl1, hl2, -⟩ := HLK.out.at' i _ _ hMi hLi
      obtain ⟨nd, HND⟩ := nameIt (M[i]'hiM)
      obtain ⟨p, HPP⟩ := nameIt (L[i]'hiL)
      rw [HND.out] at hMi hl1 hl2
      rw [HPP.out] at hLi hl1 hl2
      obtain ⟨n1, n2, n3, n4⟩ := nds_at hMi
      obtain ⟨g, gcc, hge, hg1, hg2⟩ := HI.out.row.form (by omega)
      rw [hml] at hge
      cases hge
      have cell := HI.out.row.cellAt
      have q0 := (HI.out.row.cellAt (i * 4) (by omega)).trans n1
      have q1 := (HI.out.row.cellAt (i * 4 + 1) (by omega)).trans n2
      have q2 := (HI.out.row.cellAt (i * 4 + 2) (by omega)).trans n3
      have q3 := (HI.out.row.cellAt (i * 4 + 3) (by omega)).trans n4
      rw [hl1] at q0
      rw [hl2] at q1
      obtain ⟨p1, HP1⟩ := nameIt p.1.1
      obtain ⟨p2, HP2⟩ := nameIt p.1.2
      obtain ⟨fr, HFR⟩ := nameIt nd.fr
      obtain ⟨sy', HSY'⟩ := nameIt nd.sym
      rw [HP1.out] at q0
      rw [HP2.out] at q1
      rw [HFR.out] at q2
      rw [HSY'.out] at q3
      have hin := HINS p (List.mem_of_getElem? hLi)
      have hfn := HFN.out p.1 hin.1 hin.2
      have HRX6 := Lib.hid (fun W hb => HRX.out W hb p.1.1 hin.1)
      have HRY6 := Lib.hid (fun W hb => HRY.out W hb p.1.2 hin.2)
      have HAX6 := Lib.hid (fun W hb => HAX.out W hb p.1.1 hin.1)
      have HAY6 := Lib.hid (fun W hb => HAY.out W hb p.1.2 hin.2)
      rw [HP1.out] at HRX6 HAX6 hfn
      rw [HP2.out] at HRY6 HAY6 hfn
      obtain ⟨r1, HR1⟩ := nameIt (atS x p1)
      obtain ⟨r2, HR2⟩ := nameIt (atS y p2)
      rw [HR1.out] at HRX6 hfn
      rw [HR2.out] at HRY6 hfn
      have HFB := Lib.hid hfn
      have HLI := Lib.hid hLi
      have HMI := Lib.hid hMi
      clear hfn hin hl1 hl2 n1 n2 n3 n4 cell hml hLi hMi hlen HINS
      rw [HML.out]
      have HI6 := Lib.hid HI.out
      obtain ⟨wN, HWN⟩ := nameIt (w6.alloc (.cells #[.int .i64 p1, .int .i64 p2, .int .i64 fr, .int .i64 sy'] 60))
      have HBN : Hid (Below w6.heap.size w6 wN) := by rw [← HWN.out]; exact (Below.refl _ _).alloc (Nat.le_refl _) _
      have XN : Hid (wN.heap[w6.heap.size]? = some (.cells #[.int .i64 p1, .int .i64 p2, .int .i64 fr, .int .i64 sy'] 60 (0, 0))) := by rw [← HWN.out]; exact bx_new w6 _ _ rfl
      have HBW : Hid (Below w0.heap.size w0 wN) := HI.out.bel.trans (HBN.out.mono HI.out.bel.size)
      have HRX7 := Lib.hid (fun W (hb : Below wN.heap.size wN W) => HRX6.out W (HBW.out.trans (hb.mono HBW.out.size)))
      have HRY7 := Lib.hid (fun W (hb : Below wN.heap.size wN W) => HRY6.out W (HBW.out.trans (hb.mono HBW.out.size)))
      obtain ⟨nb, HNB⟩ := nameIt w6.heap.size
      have HNBM : Hid (nb ≠ mb ∧ w0.heap.size ≤ nb ∧ ∀ k, (Value.slice (some ⟨g, 0, none⟩) ml gc).ownBlock = some k → k ≠ nb) := by
        have h1 := HI.out.set.lt
        rw [← HNB.out]
        refine ⟨by omega, HI.out.bel.size, fun k e => ?_⟩
        have := (HI.out.row.lt k e).2
        omega
      rw [HNB.out] at XN
      go_upto_region 17 with fail
      rw [HWN.out]
      clear q0 q1 q2 q3
      have k0 := aft_cell (bx_cells3 (bx_keep X0.out HBW.out)).1
      have k1 := aft_cell (bx_cells3 (bx_keep X0.out HBW.out)).2.1
      have k2 := aft_cell (bx_cells3 (bx_keep X0.out HBW.out)).2.2
      have k3 := aft_cell (bx_cells3 (bx_keep Y0.out HBW.out)).1
      have k4 := aft_cell (bx_cells3 (bx_keep Y0.out HBW.out)).2.1
      have k5 := aft_cell (bx_cells3 (bx_keep Y0.out HBW.out)).2.2
      have k6 := aft_cell (bx_cells4 XN.out).1
      have k7 := aft_cell (bx_cells4 XN.out).2.1
      rw [HNB.out]
      refine wp_region_after (by kernel_rfl) (by kernel_rfl) ?_
      repeat (go_big_quiet_step (with_reducible exact Calls.after (HRX7.out _ (Aft.bel _))))
      repeat (go_big_quiet_step (with_reducible exact Calls.after (HRY7.out _ (Aft.bel _))))
      refine wpQuiet_nil ?_
      rintro w7 ⟨⟨_, hb7⟩, rfl⟩
      have HB7 := Lib.hid hb7
      clear hb7 k0 k1 k2 k3 k4 k5 k6 k7
      have HI7 := Lib.hid ((HI.out.keep HBN.out).keep HB7.out)
      have XN7 := Lib.hid (bx_keep XN.out HB7.out)
      rw [HML.out] at HI7
      have hfb := HFB.out
      obtain ⟨bd, HBD⟩ := nameIt (bad p.1)
      rw [HBD.out] at hfb
      cases bd with
      | true =>
        have HLWP := Lib.hid (HLW.out L i p HIV.out HLI.out HBD.out)
        have hil : i ≤ 40804 := by omega
        try simp only [hfb]
        go_wp2_with fail
        go_loopg [15, 16] (i + 1) (fun gg v15 v16 wr => ∃ (k : Nat) (q : It) (out : List Nat), k ≤ i ∧ k + 1 ≤ gg ∧ v16 = .int .i64 k ∧ out.length + k ≤ i ∧ Hid (L[k]? = some q) ∧ Hid (p.2 = q.2 ++ out.reverse) ∧ Hid (wr.ownsRow w7.heap.size 3 1 v15 out.length (ints (List.map (fun (n : Nat) => (n : Int)) out))) ∧ Hid (Below w7.heap.size w7 wr))
        case atStart => exact ⟨i, p, [], by omega, by omega, rfl, by simp, HLI, by show _ = _; simp, by show World.ownsRow w7 _ _ _ _ _ _; simpa [ints] using World.ownsRow_nil w7 w7.heap.size 3 1, Below.refl _ _⟩
        case round =>
          obtain ⟨k, q, out, hk, hgg, rfl, hol, HQ, HPQ, HO, HBb⟩ := hrel
          obtain ⟨w8, rfl⟩ : ∃ ww : World, ww = wr := ⟨_, rfl⟩
          have hkM : k < M.length := by have := HML.out; omega
          have hMk : M[k]? = some M[k] := List.getElem?_eq_getElem hkM
          have hat := (HLK.out.at' k _ _ hMk HQ.out).2.2
          obtain ⟨-, -, n3, n4⟩ := nds_at hMk
          have hrow := HI7.out.row
          rw [HML.out] at hrow
          have r2 := (hrow.cellAt (k * 4 + 2) (by omega)).trans n3
          have r3 := (hrow.cellAt (k * 4 + 3) (by omega)).trans n4
          obtain ⟨mk, HMK⟩ := nameIt (M[k]'hkM)
          rw [HMK.out] at r2 r3 hat
          have q2 := (HBb.out.cell (lt_of_cell r2)).trans r2
          have q3 := (HBb.out.cell (lt_of_cell r3)).trans r3
          obtain ⟨oa, oc, rfl, hoc, hoc2⟩ := own_len HO.out
          obtain ⟨ol, HOL⟩ := nameIt out.length
          have hkm : (k : Int) < (ml : Int) := by omega
          have hk0 : (0 : Int) ≤ (k : Int) := by omega
          rw [HOL.out] at HO hol
          rw [HOL.out]
          clear n3 n4 hrow r2 r3 hMk
          rcases hat with ⟨hf, hw⟩ | ⟨f, s, q', hf, hfj, hq', hs, hw⟩
          · have hfr : ¬ (0 : Int) ≤ mk.fr := by rw [hf]; decide
            obtain ⟨fr', HFR'⟩ := nameIt mk.fr
            rw [HFR'.out] at hfr q2
            have HREV := Lib.hid (reverseE w7.heap.size (List.map (fun (n : Nat) => (n : Int)) out) oa oc w8 (by rw [List.length_map, HOL.out]; exact HO.out))
            rw [List.length_map, HOL.out] at HREV
            have HWE : Hid (List.map (fun (n : Nat) => (n : Int)) p.2 = (List.map (fun (n : Nat) => (n : Int)) out).reverse) := by
              show _ = _; rw [HPQ.out, hw, List.nil_append, List.map_reverse]
            have HPL : Hid (p.2.length ≤ 40804) := by
              show _ ≤ _; rw [HPQ.out, hw, List.nil_append, List.length_reverse, HOL.out]; omega
            have HLEN2 : Hid ((ints (List.map (fun (n : Nat) => (n : Int)) out).reverse).length = ol) := by show _ = _; rw [ints_len, List.length_reverse, List.length_map, HOL.out]
            clear hf hw q3
            go_wp2_with fail
            refine HREV.out.mono ?_
            rintro e w9 ⟨rfl, ho9, hg9⟩
            rw [List.length_map, HOL.out] at ho9
            have HB9 : Hid (Below w0.heap.size w0 w9) := by
              have h1 : Below w7.heap.size w7 w9 := HBb.out.grown hg9 HBb.out.size (fun k e => (HO.out.lt k e).1)
              exact HI7.out.bel.trans (h1.mono HI7.out.bel.size)
            have HSL := Lib.hid (sl_of_own ho9)
            have HF := Lib.hid (HPOST.out _ w9 HB9.out (.inl ⟨p.2, oa, ol, oc, HLWP.out, HPL.out, rfl, by rw [HWE.out]; exact HSL.out⟩))
            clear ho9 hg9
            go_wp2_with fail
            refine bodyPost_ret (results_tmp3 Try.results30 _ _ _) rfl ?_
            exact HF.out
          · have hfr : (0 : Int) ≤ (f : Int) := by omega
            rw [hf] at q2
            rw [hs] at q3
            have HW2 : Hid (p.2 = q'.2 ++ (out ++ [s]).reverse) := by
              show _ = _; rw [HPQ.out, hw]; simp
            have HQ2 := Lib.hid hq'
            clear hf hs hw hq'
            go_wp2_with (at_builtin; refine wp_app1at elInt rfl _ _ rfl HO.out rfl rfl rfl rfl rfl (by omega) (by unfold maxLen; omega) HBb.out.size ?_)
            intro v9 w9 ho9 hg9 hat9
            have HO9 : Hid (w9.ownsRow w7.heap.size 3 1 v9 (out ++ [s]).length (ints (List.map (fun (n : Nat) => (n : Int)) (out ++ [s])))) := by
              rw [List.length_append, HOL.out]
              show World.ownsRow w9 _ _ _ _ _ _
              simpa [ints] using ho9
            have HB9 : Hid (Below w7.heap.size w7 w9) := HBb.out.grown hg9 HBb.out.size (fun k e => (HO.out.lt k e).1)
            have j2 : w9.cell? ⟨g, k * 4 + 2, none⟩ = some (.int .i64 (f : Int)) := by
              have h7 : w7.cell? ⟨g, k * 4 + 2, none⟩ = some (.int .i64 (f : Int)) := by
                rw [← q2]; exact (HBb.out.cell (p := ⟨g, k * 4 + 2, none⟩) (HI7.out.row.lt g rfl).2).symm
              exact (HB9.out.cell (lt_of_cell h7)).trans h7
            clear ho9 hg9 hat9 q2 q3
            go_wp2_with fail
            go_roundg (f + 1)
            case measure => omega
            case rel => exact ⟨f, q', out ++ [s], by omega, by omega, rfl, by rw [List.length_append, HOL.out]; simp; omega, HQ2, HW2, HO9, HB9⟩
      | false =>
        have hX7 := bx_keep X0.out HI7.out.bel
        obtain ⟨x0, x1, x2⟩ := bx_cells3 hX7
        have e0 := (HI7.out.bel.cell (lt_of_cell c0)).trans c0
        clear hX7
        try simp only [hfb]
        go_wp2_with fail
        clear x0 x1 x2 e0
        have HBP : Hid (bad p.1 = false) := HBD.out
        clear hfb
        go_loopg [11, 102] m (fun gg v11 v102 wr => ∃ (c : Nat) (L' : List It) (M' : List Nd), c ≤ m ∧ m - c ≤ gg ∧ v102 = .int .i64 c ∧ Hid (Bf.Inv step m (sx, sy) bad L' i c) ∧ Hid (Lk M' L') ∧ Hid (L'[i]? = some p) ∧ Hid (SI w0 mb L' M' v11 wr) ∧ Hid (wr.heap[nb]? = some (.cells #[.int .i64 p1, .int .i64 p2, .int .i64 fr, .int .i64 sy'] 60 (0, 0))) ∧ Hid (∀ k, v11.ownBlock = some k → k ≠ nb))
        case atStart => exact ⟨0, L, M, by omega, by omega, rfl, HIV, HLK, HLI, HI7, XN7, HNBM.out.2.2⟩
        case round =>
          obtain ⟨c, L', M', hc, hgg, rfl, HIV', HLK', HLI', HI', XN', HNE⟩ := hrel
          obtain ⟨w8, rfl⟩ : ∃ ww : World, ww = wr := ⟨_, rfl⟩
          obtain ⟨-, HSML', hfew'⟩ := HIN.out _ _ _ HIV'.out
          obtain ⟨oa, oc, rfl, hoc, hoc2⟩ := own_len HI'.out.row
          unfold maxLen at hoc2
          obtain ⟨ml', HML'⟩ := nameIt M'.length
          have hlen' := HLK'.out.len
          have HI8 := Lib.hid HI'.out
          have hml' : ml' ≤ 40804 := by rw [← HML'.out]; omega
          rw [HML'.out] at HI8 HNE
          rw [HML'.out]
          by_cases hcm : c < m
          · have hcm' : (c : Int) < (m : Int) := by omega
            have HAX8 : Hid (∀ W, Below w8.heap.size w8 W → Calls Try.prog 32 #[.agg #[.int .i64 sx, .slice aa la ca, .slice (some ⟨b, off, none⟩) n cn], .int .i64 p1, .int .i64 (c : Int)] W fun e w' => e = .returned (.int .i64 (toS x p1 c)) ∧ Below W.heap.size W w') := fun W hb => HAX6.out W (HI'.out.bel.trans (hb.mono HI'.out.bel.size)) c hcm
            have HAY8 : Hid (∀ W, Below w8.heap.size w8 W → Calls Try.prog 32 #[.agg #[.int .i64 sy, .slice ba la' da, .slice (some ⟨b', off', none⟩) n' dn], .int .i64 p2, .int .i64 (c : Int)] W fun e w' => e = .returned (.int .i64 (toS y p2 c)) ∧ Below W.heap.size W w') := fun W hb => HAY6.out W (HI'.out.bel.trans (hb.mono HI'.out.bel.size)) c hcm
            have HS8 : Hid (∀ W, Below w8.heap.size w8 W → (fun w' => w'.cell? ⟨w.heap.size, 0, none⟩ = some (.int .i64 sx) ∧ w'.cell? ⟨w.heap.size, 0 + 1, none⟩ = some (.slice aa la ca) ∧ w'.cell? ⟨w.heap.size, 0 + 2, none⟩ = some (.slice (some ⟨b, off, none⟩) n cn) ∧ w'.cell? ⟨w.heap.size + 1, 0, none⟩ = some (.int .i64 sy) ∧ w'.cell? ⟨w.heap.size + 1, 0 + 1, none⟩ = some (.slice ba la' da) ∧ w'.cell? ⟨w.heap.size + 1, 0 + 2, none⟩ = some (.slice (some ⟨b', off', none⟩) n' dn) ∧ w'.cell? ⟨nb, 0, none⟩ = some (.int .i64 p1) ∧ w'.cell? ⟨nb, 0 + 1, none⟩ = some (.int .i64 p2)) W) := by
              intro W hb
              have h0 : Below w0.heap.size w0 W := HI'.out.bel.trans (hb.mono HI'.out.bel.size)
              obtain ⟨x0, x1, x2⟩ := bx_cells3 (bx_keep X0.out h0)
              obtain ⟨y0, y1, y2⟩ := bx_cells3 (bx_keep Y0.out h0)
              obtain ⟨z0, z1, -⟩ := bx_cells4 (bx_keep XN'.out hb)
              exact ⟨x0, x1, x2, y0, y1, y2, z0, z1⟩
            have HTS : Hid (step p.1 c = (toS x p1 c, toS y p2 c)) := by show _ = _; rw [HSTP.out, HP1.out, HP2.out]
            obtain ⟨hk1, hk2⟩ := HTI.out p.1 c
            rw [HP1.out] at hk1
            rw [HP2.out] at hk2
            obtain ⟨t1, HT1⟩ := nameIt (toS x p1 c)
            obtain ⟨t2, HT2⟩ := nameIt (toS y p2 c)
            rw [HT1.out] at HAX8 HTS hk1
            rw [HT2.out] at HAY8 HTS hk2
            have HK1 := Lib.hid hk1
            have HK2 := Lib.hid hk2
            clear hk1 hk2
            go_upto_region 28 with fail
            go_cut [18] (fun t18 wx => ∃ kb, t18 = .pointer (some ⟨kb, 0, none⟩) ∧ Hid (Below w8.heap.size w8 wx) ∧ Hid (wx.heap[kb]? = some (.cells #[.int .i64 t1, .int .i64 t2] 62 (0, 0))) ∧ Hid (w8.heap.size ≤ kb))
            case first =>
              refine wp_region_U (S := (fun w' => w'.cell? ⟨w.heap.size, 0, none⟩ = some (.int .i64 sx) ∧ w'.cell? ⟨w.heap.size, 0 + 1, none⟩ = some (.slice aa la ca) ∧ w'.cell? ⟨w.heap.size, 0 + 2, none⟩ = some (.slice (some ⟨b, off, none⟩) n cn) ∧ w'.cell? ⟨w.heap.size + 1, 0, none⟩ = some (.int .i64 sy) ∧ w'.cell? ⟨w.heap.size + 1, 0 + 1, none⟩ = some (.slice ba la' da) ∧ w'.cell? ⟨w.heap.size + 1, 0 + 2, none⟩ = some (.slice (some ⟨b', off', none⟩) n' dn) ∧ w'.cell? ⟨nb, 0, none⟩ = some (.int .i64 p1) ∧ w'.cell? ⟨nb, 0 + 1, none⟩ = some (.int .i64 p2))) 14 (by kernel_rfl) (fun inv => ?_)
              refine wpU_take (i := 0) (v := .func (.func 32) #[] #[]) rfl inv (by kernel_rfl) (by kernel_rfl) (by decide) (by decide) (by kernel_rfl) (by kernel_rfl) (by kernel_rfl) (fun _ _ _ h => h) (Or.inl ⟨by rfl, fun w' hw' => ?_⟩) (HS8.out _ (Below.refl _ _).drew) (fun inv => ?_)
              · obtain ⟨h0, h1, h2, h3, h4, h5, h6, h7⟩ := hw'
                go_simp
              try simp only [Act.put, List.setIfInBounds_toArray, List.set_cons_zero, List.set_cons_succ]
              refine wpU_take (i := 1) (v := .agg #[.int .i64 sx, .slice aa la ca, .slice (some ⟨b, off, none⟩) n cn]) rfl inv (by kernel_rfl) (by kernel_rfl) (by decide) (by decide) (by kernel_rfl) (by kernel_rfl) (by kernel_rfl) (fun _ _ _ h => h) (Or.inl ⟨by rfl, fun w' hw' => ?_⟩) (HS8.out _ (Below.refl _ _).drew) (fun inv => ?_)
              · obtain ⟨h0, h1, h2, h3, h4, h5, h6, h7⟩ := hw'
                go_simp
              try simp only [Act.put, List.setIfInBounds_toArray, List.set_cons_zero, List.set_cons_succ]
              refine wpU_take (i := 2) (v := .pointer (some ⟨nb, 0, none⟩)) rfl inv (by kernel_rfl) (by kernel_rfl) (by decide) (by decide) (by kernel_rfl) (by kernel_rfl) (by kernel_rfl) (fun _ _ _ h => h) (Or.inl ⟨by rfl, fun w' hw' => ?_⟩) (HS8.out _ (Below.refl _ _).drew) (fun inv => ?_)
              · obtain ⟨h0, h1, h2, h3, h4, h5, h6, h7⟩ := hw'
                go_simp
              try simp only [Act.put, List.setIfInBounds_toArray, List.set_cons_zero, List.set_cons_succ]
              refine wpU_take (i := 3) (v := .int .i64 p1) rfl inv (by kernel_rfl) (by kernel_rfl) (by decide) (by decide) (by kernel_rfl) (by kernel_rfl) (by kernel_rfl) (fun _ _ _ h => h) (Or.inl ⟨by rfl, fun w' hw' => ?_⟩) (HS8.out _ (Below.refl _ _).drew) (fun inv => ?_)
              · obtain ⟨h0, h1, h2, h3, h4, h5, h6, h7⟩ := hw'
                go_simp
              try simp only [Act.put, List.setIfInBounds_toArray, List.set_cons_zero, List.set_cons_succ]
              refine wpU_take (i := 4) (v := .int .i64 (c : Int)) rfl inv (by kernel_rfl) (by kernel_rfl) (by decide) (by decide) (by kernel_rfl) (by kernel_rfl) (by kernel_rfl) (fun _ _ _ h => h) (Or.inl ⟨by rfl, fun w' hw' => ?_⟩) (HS8.out _ (Below.refl _ _).drew) (fun inv => ?_)
              · obtain ⟨h0, h1, h2, h3, h4, h5, h6, h7⟩ := hw'
                go_simp
              try simp only [Act.put, List.setIfInBounds_toArray, List.set_cons_zero, List.set_cons_succ]
              refine wpU_take (i := 6) (v := .func (.func 32) #[] #[]) rfl inv (by kernel_rfl) (by kernel_rfl) (by decide) (by decide) (by kernel_rfl) (by kernel_rfl) (by kernel_rfl) (fun _ _ _ h => h) (Or.inl ⟨by rfl, fun w' hw' => ?_⟩) (HS8.out _ (Below.refl _ _).drew) (fun inv => ?_)
              · obtain ⟨h0, h1, h2, h3, h4, h5, h6, h7⟩ := hw'
                go_simp
              try simp only [Act.put, List.setIfInBounds_toArray, List.set_cons_zero, List.set_cons_succ]
              refine wpU_take (i := 7) (v := .agg #[.int .i64 sy, .slice ba la' da, .slice (some ⟨b', off', none⟩) n' dn]) rfl inv (by kernel_rfl) (by kernel_rfl) (by decide) (by decide) (by kernel_rfl) (by kernel_rfl) (by kernel_rfl) (fun _ _ _ h => h) (Or.inl ⟨by rfl, fun w' hw' => ?_⟩) (HS8.out _ (Below.refl _ _).drew) (fun inv => ?_)
              · obtain ⟨h0, h1, h2, h3, h4, h5, h6, h7⟩ := hw'
                go_simp
              try simp only [Act.put, List.setIfInBounds_toArray, List.set_cons_zero, List.set_cons_succ]
              refine wpU_take (i := 8) (v := .pointer (some ⟨nb, 0 + 1, none⟩)) rfl inv (by kernel_rfl) (by kernel_rfl) (by decide) (by decide) (by kernel_rfl) (by kernel_rfl) (by kernel_rfl) (fun _ _ _ h => h) (Or.inl ⟨by rfl, fun w' hw' => ?_⟩) (HS8.out _ (Below.refl _ _).drew) (fun inv => ?_)
              · obtain ⟨h0, h1, h2, h3, h4, h5, h6, h7⟩ := hw'
                go_simp
              try simp only [Act.put, List.setIfInBounds_toArray, List.set_cons_zero, List.set_cons_succ]
              refine wpU_take (i := 9) (v := .int .i64 p2) rfl inv (by kernel_rfl) (by kernel_rfl) (by decide) (by decide) (by kernel_rfl) (by kernel_rfl) (by kernel_rfl) (fun _ _ _ h => h) (Or.inl ⟨by rfl, fun w' hw' => ?_⟩) (HS8.out _ (Below.refl _ _).drew) (fun inv => ?_)
              · obtain ⟨h0, h1, h2, h3, h4, h5, h6, h7⟩ := hw'
                go_simp
              try simp only [Act.put, List.setIfInBounds_toArray, List.set_cons_zero, List.set_cons_succ]
              refine wpU_take (i := 10) (v := .int .i64 (c : Int)) rfl inv (by kernel_rfl) (by kernel_rfl) (by decide) (by decide) (by kernel_rfl) (by kernel_rfl) (by kernel_rfl) (fun _ _ _ h => h) (Or.inl ⟨by rfl, fun w' hw' => ?_⟩) (HS8.out _ (Below.refl _ _).drew) (fun inv => ?_)
              · obtain ⟨h0, h1, h2, h3, h4, h5, h6, h7⟩ := hw'
                go_simp
              try simp only [Act.put, List.setIfInBounds_toArray, List.set_cons_zero, List.set_cons_succ]
              refine wpU_two (i := 5) (j := 13) (by kernel_rfl) rfl rfl (fun K hK => ?_) (fun K hK => ?_)
              · replace inv := inv_setD (i := 5) inv (by kernel_rfl) (by decide)
                go_simp
                with_reducible refine (HAX8.out _ (Below.refl w8.heap.size w8).drew).mono ?_
                rintro e wq1 ⟨rfl, hbq1⟩
                have HBQ1 : Hid (Below w8.heap.size w8 wq1) := (Below.refl w8.heap.size w8).drew.trans (hbq1.mono (Below.size (B := w8.heap.size) (Below.refl w8.heap.size w8).drew))
                have hsz1 := (Below.size (B := w8.heap.size) HBQ1.out)
                clear hbq1
                refine hK.out _ _ (fun _ => HS8.out _ HBQ1.out) ?_
                clear hK K
                try simp only [Act.put, List.setIfInBounds_toArray, List.set_cons_zero, List.set_cons_succ]
                refine wpU_two (i := 11) (j := 13) (by kernel_rfl) rfl rfl (fun K hK => ?_) (fun K hK => ?_)
                · replace inv := inv_setD (i := 11) inv (by kernel_rfl) (by decide)
                  go_simp
                  with_reducible refine (HAY8.out _ HBQ1.out).mono ?_
                  rintro e wq2 ⟨rfl, hbq2⟩
                  have HBQ2 : Hid (Below w8.heap.size w8 wq2) := HBQ1.out.trans (hbq2.mono (Below.size (B := w8.heap.size) HBQ1.out))
                  have hsz2 := (Below.size (B := w8.heap.size) HBQ2.out)
                  clear hbq2
                  refine hK.out _ _ (fun _ => HS8.out _ HBQ2.out) ?_
                  clear hK K
                  try simp only [Act.put, List.setIfInBounds_toArray, List.set_cons_zero, List.set_cons_succ]
                  refine wpU_take (i := 12) (v := .agg #[.int .i64 t1, .int .i64 t2]) rfl inv (by kernel_rfl) (by kernel_rfl) (by decide) (by decide) (by kernel_rfl) (by kernel_rfl) (by kernel_rfl) (fun _ _ _ h => h) (Or.inl ⟨by rfl, fun w' hw' => ?_⟩) (HS8.out _ HBQ2.out) (fun inv => ?_)
                  · obtain ⟨h0, h1, h2, h3, h4, h5, h6, h7⟩ := hw'
                    go_simp
                  try simp only [Act.put, List.setIfInBounds_toArray, List.set_cons_zero, List.set_cons_succ]
                  refine wpU_one (i := 13) (by kernel_rfl) rfl (fun K hK => ?_)
                  replace inv := inv_setD (i := 13) inv (by kernel_rfl) (by decide)
                  go_simp
                  have HAL3 := Lib.hid (bx_new wq2 (.cells #[.int .i64 0, .int .i64 0] 62) _ rfl)
                  have HBQ3 := Lib.hid ((HBQ2.out).alloc (Below.size (B := w8.heap.size) HBQ2.out) (.cells #[.int .i64 0, .int .i64 0] 62))
                  obtain ⟨wq3, HWQ3⟩ := nameIt (wq2.alloc (.cells #[.int .i64 0, .int .i64 0] 62))
                  rw [HWQ3.out] at HAL3 HBQ3 ⊢
                  refine hK.out _ _ (fun _ => HS8.out _ HBQ3.out) ?_
                  clear hK K
                  try simp only [Act.put, List.setIfInBounds_toArray, List.set_cons_zero, List.set_cons_succ]
                  refine wpU_one (i := 14) (by kernel_rfl) rfl (fun K hK => ?_)
                  obtain ⟨q0, q1⟩ := bx_cells2 HAL3.out
                  obtain ⟨f0, f1⟩ := bx_free2 HAL3.out
                  go_simp
                  refine hK.out _ _ (fun h => absurd (show true = false from h) (by decide)) ?_
                  clear hK K
                  try simp only [Act.put, List.setIfInBounds_toArray, List.set_cons_zero, List.set_cons_succ]
                  refine wpU_done (by kernel_rfl) ?_ _
                  clear q0 q1 f0 f1
                  go_wp2_with fail
                  go_meet
                  exact ⟨_, rfl, Below.setCell (Below.setCell HBQ3.out (p := ⟨wq2.heap.size, 0, none⟩) (by show w8.heap.size ≤ wq2.heap.size; have := Below.size (B := w8.heap.size) HBQ3.out; first | exact Nat.le_refl _ | omega) _) (p := ⟨wq2.heap.size, 1, none⟩) (by show w8.heap.size ≤ wq2.heap.size; first | exact Nat.le_refl _ | omega) _, bx_set2D HAL3.out _ _, by show w8.heap.size ≤ wq2.heap.size; first | exact Nat.le_refl _ | omega⟩
                · replace inv := inv_setD (i := 13) inv (by kernel_rfl) (by decide)
                  go_simp
                  have HAL4 := Lib.hid (bx_new wq1 (.cells #[.int .i64 0, .int .i64 0] 62) _ rfl)
                  have HBQ4 := Lib.hid ((HBQ1.out).alloc (Below.size (B := w8.heap.size) HBQ1.out) (.cells #[.int .i64 0, .int .i64 0] 62))
                  obtain ⟨wq4, HWQ4⟩ := nameIt (wq1.alloc (.cells #[.int .i64 0, .int .i64 0] 62))
                  rw [HWQ4.out] at HAL4 HBQ4 ⊢
                  refine hK.out _ _ (fun _ => HS8.out _ HBQ4.out) ?_
                  clear hK K
                  try simp only [Act.put, List.setIfInBounds_toArray, List.set_cons_zero, List.set_cons_succ]
                  refine wpU_one (i := 11) (by kernel_rfl) rfl (fun K hK => ?_)
                  replace inv := inv_setD (i := 11) inv (by kernel_rfl) (by decide)
                  go_simp
                  with_reducible refine (HAY8.out _ HBQ4.out).mono ?_
                  rintro e wq5 ⟨rfl, hbq5⟩
                  have HBQ5 : Hid (Below w8.heap.size w8 wq5) := HBQ4.out.trans (hbq5.mono (Below.size (B := w8.heap.size) HBQ4.out))
                  have hal5 := bx_keep HAL4.out hbq5
                  have hsz5 := (Below.size (B := w8.heap.size) HBQ5.out)
                  clear hbq5
                  refine hK.out _ _ (fun _ => HS8.out _ HBQ5.out) ?_
                  clear hK K
                  try simp only [Act.put, List.setIfInBounds_toArray, List.set_cons_zero, List.set_cons_succ]
                  refine wpU_take (i := 12) (v := .agg #[.int .i64 t1, .int .i64 t2]) rfl inv (by kernel_rfl) (by kernel_rfl) (by decide) (by decide) (by kernel_rfl) (by kernel_rfl) (by kernel_rfl) (fun _ _ _ h => h) (Or.inl ⟨by rfl, fun w' hw' => ?_⟩) (HS8.out _ HBQ5.out) (fun inv => ?_)
                  · obtain ⟨h0, h1, h2, h3, h4, h5, h6, h7⟩ := hw'
                    go_simp
                  try simp only [Act.put, List.setIfInBounds_toArray, List.set_cons_zero, List.set_cons_succ]
                  refine wpU_one (i := 14) (by kernel_rfl) rfl (fun K hK => ?_)
                  obtain ⟨q0, q1⟩ := bx_cells2 hal5
                  obtain ⟨f0, f1⟩ := bx_free2 hal5
                  go_simp
                  refine hK.out _ _ (fun h => absurd (show true = false from h) (by decide)) ?_
                  clear hK K
                  try simp only [Act.put, List.setIfInBounds_toArray, List.set_cons_zero, List.set_cons_succ]
                  refine wpU_done (by kernel_rfl) ?_ _
                  clear q0 q1 f0 f1
                  go_wp2_with fail
                  go_meet
                  exact ⟨_, rfl, Below.setCell (Below.setCell HBQ5.out (p := ⟨wq1.heap.size, 0, none⟩) (by show w8.heap.size ≤ wq1.heap.size; have := Below.size (B := w8.heap.size) HBQ5.out; first | exact Nat.le_refl _ | omega) _) (p := ⟨wq1.heap.size, 1, none⟩) (by show w8.heap.size ≤ wq1.heap.size; first | exact Nat.le_refl _ | omega) _, bx_set2D hal5 _ _, by show w8.heap.size ≤ wq1.heap.size; first | exact Nat.le_refl _ | omega⟩
              · replace inv := inv_setD (i := 13) inv (by kernel_rfl) (by decide)
                go_simp
                have HAL6 := Lib.hid (bx_keep (bx_new w8 (.cells #[.int .i64 0, .int .i64 0] 62) _ rfl) (Below.refl _ _).drew)
                have HBQ6 := Lib.hid (((Below.refl w8.heap.size w8).alloc (Nat.le_refl _) (.cells #[.int .i64 0, .int .i64 0] 62)).drew)
                obtain ⟨wq6, HWQ6⟩ := nameIt ((w8.alloc (.cells #[.int .i64 0, .int .i64 0] 62)).drew)
                rw [HWQ6.out] at HAL6 HBQ6 ⊢
                refine hK.out _ _ (fun _ => HS8.out _ HBQ6.out) ?_
                clear hK K
                try simp only [Act.put, List.setIfInBounds_toArray, List.set_cons_zero, List.set_cons_succ]
                refine wpU_one (i := 5) (by kernel_rfl) rfl (fun K hK => ?_)
                replace inv := inv_setD (i := 5) inv (by kernel_rfl) (by decide)
                go_simp
                with_reducible refine (HAX8.out _ HBQ6.out).mono ?_
                rintro e wq7 ⟨rfl, hbq7⟩
                have HBQ7 : Hid (Below w8.heap.size w8 wq7) := HBQ6.out.trans (hbq7.mono (Below.size (B := w8.heap.size) HBQ6.out))
                have hal7 := bx_keep HAL6.out hbq7
                have hsz7 := (Below.size (B := w8.heap.size) HBQ7.out)
                clear hbq7
                refine hK.out _ _ (fun _ => HS8.out _ HBQ7.out) ?_
                clear hK K
                try simp only [Act.put, List.setIfInBounds_toArray, List.set_cons_zero, List.set_cons_succ]
                refine wpU_one (i := 11) (by kernel_rfl) rfl (fun K hK => ?_)
                replace inv := inv_setD (i := 11) inv (by kernel_rfl) (by decide)
                go_simp
                with_reducible refine (HAY8.out _ HBQ7.out).mono ?_
                rintro e wq8 ⟨rfl, hbq8⟩
                have HBQ8 : Hid (Below w8.heap.size w8 wq8) := HBQ7.out.trans (hbq8.mono (Below.size (B := w8.heap.size) HBQ7.out))
                have hal8 := bx_keep hal7 hbq8
                have hsz8 := (Below.size (B := w8.heap.size) HBQ8.out)
                clear hbq8
                refine hK.out _ _ (fun _ => HS8.out _ HBQ8.out) ?_
                clear hK K
                try simp only [Act.put, List.setIfInBounds_toArray, List.set_cons_zero, List.set_cons_succ]
                refine wpU_take (i := 12) (v := .agg #[.int .i64 t1, .int .i64 t2]) rfl inv (by kernel_rfl) (by kernel_rfl) (by decide) (by decide) (by kernel_rfl) (by kernel_rfl) (by kernel_rfl) (fun _ _ _ h => h) (Or.inl ⟨by rfl, fun w' hw' => ?_⟩) (HS8.out _ HBQ8.out) (fun inv => ?_)
                · obtain ⟨h0, h1, h2, h3, h4, h5, h6, h7⟩ := hw'
                  go_simp
                try simp only [Act.put, List.setIfInBounds_toArray, List.set_cons_zero, List.set_cons_succ]
                refine wpU_one (i := 14) (by kernel_rfl) rfl (fun K hK => ?_)
                obtain ⟨q0, q1⟩ := bx_cells2 hal8
                obtain ⟨f0, f1⟩ := bx_free2 hal8
                go_simp
                refine hK.out _ _ (fun h => absurd (show true = false from h) (by decide)) ?_
                clear hK K
                try simp only [Act.put, List.setIfInBounds_toArray, List.set_cons_zero, List.set_cons_succ]
                refine wpU_done (by kernel_rfl) ?_ _
                clear q0 q1 f0 f1
                go_wp2_with fail
                go_meet
                exact ⟨_, rfl, Below.setCell (Below.setCell HBQ8.out (p := ⟨w8.heap.size, 0, none⟩) (by show w8.heap.size ≤ w8.heap.size; have := Below.size (B := w8.heap.size) HBQ8.out; first | exact Nat.le_refl _ | omega) _) (p := ⟨w8.heap.size, 1, none⟩) (by show w8.heap.size ≤ w8.heap.size; first | exact Nat.le_refl _ | omega) _, bx_set2D hal8 _ _, by show w8.heap.size ≤ w8.heap.size; first | exact Nat.le_refl _ | omega⟩
            case rest =>
              obtain ⟨kb, rfl, HBK, HKB, HKG⟩ := hcut
              obtain ⟨wK, rfl⟩ : ∃ ww : World, ww = wc := ⟨_, rfl⟩
              have HIK := Lib.hid (HI'.out.keep HBK.out)
              have XNK := Lib.hid (bx_keep XN'.out HBK.out)
              have hlk := HIK.out.set.look keyedD Try.underlying63 Try.underlying4 (zeroBD wK) (keyD HK1.out HK2.out)
              rw [inP_at HSML' HK1.out HK2.out] at hlk
              obtain ⟨q0, q1⟩ := bx_cells2 HKB.out
              by_cases hmem : ∃ q ∈ L', q.1 = (t1, t2)
              · rw [decide_eq_true hmem] at hlk
                have HIV2 := Lib.hid (HIV'.out.old HLI'.out (by rw [HTS.out]; exact hmem))
                rw [HML'.out] at HIK
                clear hmem
                go_wp2_with fail
                go_roundg (m - (c + 1))
                case measure => omega
                case rel => exact ⟨c + 1, L', M', by omega, by omega, by go_num, HIV2, HLK', HLI', HIK, XNK, HNE⟩
              · rw [decide_eq_false hmem] at hlk
                obtain ⟨wU, hup, hset, hgr⟩ := HIK.out.set.add keyedD Try.underlying63 Try.underlying4 (by unfold maxLen; omega) (keyD HK1.out HK2.out) (S' := inP (L' ++ [((t1, t2), p.2 ++ [c])])) (inP_same L' ((t1, t2), p.2 ++ [c])) (fun l' h => inP_other L' ((t1, t2), p.2 ++ [c]) h)
                have hiv2 := HIV'.out.new HLI'.out hcm (fun q hq e => hmem ⟨q, hq, by rw [e, HTS.out]⟩)
                rw [HTS.out] at hiv2
                have HIV2 := Lib.hid hiv2
                have HLK2 := Lib.hid (HLK'.out.add HLI'.out (t1, t2) c)
                have hmk := HIK.out.set.lt
                have hmk8 := HI'.out.set.lt
                have hkbne : kb ≠ mb := by have := HKG.out; omega
                have HKU := Lib.hid ((hgr.block kb (Array.getElem?_eq_some_iff.1 HKB.out).1 (fun e => hkbne (by simpa using e))).trans HKB.out)
                have XNU := Lib.hid ((hgr.block nb (Array.getElem?_eq_some_iff.1 XNK.out).1 (fun e => HNBM.out.1 (by simpa using e))).trans XNK.out)
                have HOU := Lib.hid (own_otherP' HIK.out.row hgr (fun k e e' => HIK.out.ne k e (by simpa using e'.symm)))
                rw [HML'.out] at HOU
                have hszU : w0.heap.size ≤ wU.heap.size := Nat.le_trans HIK.out.bel.size hgr.size
                have hikm := HIK.out
                rw [HML'.out] at hikm
                have HIKM := Lib.hid hikm
                have HSETU := Lib.hid hset
                have HGRU := Lib.hid hgr
                clear hikm
                have HLI2 : Hid ((L' ++ [((t1, t2), p.2 ++ [c])])[i]? = some p) := by
                  show _ = _; rw [List.getElem?_append_left (List.getElem?_eq_some_iff.1 HLI'.out).1]; exact HLI'.out
                obtain ⟨r0, r1⟩ := bx_cells2 HKU.out
                clear hmem hset hgr hiv2
                go_wp2_with (at_builtin; refine wp_app1at elNode rfl _ _ rfl HOU.out rfl rfl rfl rfl rfl (by omega) (by unfold maxLen; omega) hszU ?_)
                intro v9 w9 ho9 hg9 hat9
                have HI9 := Lib.hid (HIKM.out.add (q := ((t1, t2), p.2 ++ [c])) (m := ⟨t1, t2, (i : Int), (c : Int)⟩) (v' := v9) (W' := w9) HSETU.out HGRU.out (by rw [HML'.out]; exact ho9) hg9 hat9)
                have XN9 := Lib.hid ((hg9.block nb (Array.getElem?_eq_some_iff.1 XNU.out).1 (fun e => HNE.out nb e.symm rfl)).trans XNU.out)
                have HNE9 : Hid (∀ k, v9.ownBlock = some k → k ≠ nb) := by
                  intro k e
                  rcases hat9 with e' | ⟨j, e', hj⟩
                  · exact HNE.out k (e'.symm.trans e)
                  · rw [e'] at e; cases e
                    have := (Array.getElem?_eq_some_iff.1 XNU.out).1
                    omega
                clear ho9 hg9 hat9 q0 q1 r0 r1 hup hlk
                go_wp2_with fail
                go_roundg (m - (c + 1))
                case measure => omega
                case rel => exact ⟨c + 1, _, _, by omega, by omega, by go_num, HIV2, HLK2, HLI2, HI9, XN9, HNE9⟩
          · have hcm' : ¬ (c : Int) < (m : Int) := by omega
            obtain rfl : c = m := by omega
            have HIV2 := Lib.hid (HIV'.out.next HLI'.out HBP.out)
            have hlt2 := (List.getElem?_eq_some_iff.1 HLI'.out).1
            have HI9 := Lib.hid HI'.out
            rw [HML'.out] at HI9
            go_wp2_with fail
            go_roundg (40805 - (i + 1))
            case measure => omega
            case rel => exact ⟨i + 1, L', M', by omega, by omega, by go_num, HIV2, HLK', HI9⟩
    · have hlt' : ¬ (i : Int) < (ml : Int) := by omega
      obtain rfl : i = L.length := by have := HML.out; omega
      have HA := Lib.hid (HAL.out L HIV.out)
      have HF := Lib.hid (HPOST.out _ w6 HI.out.bel (.inr ⟨HA.out, rfl⟩))
      rw [HML.out]
      go_wp2_with fail
      refine bodyPost_ret (results_tmp3 Try.results30 _ _ _) rfl ?_
      exact HF.out
end Df
end Go.Proofs.Ytenkhjmedolknaa
