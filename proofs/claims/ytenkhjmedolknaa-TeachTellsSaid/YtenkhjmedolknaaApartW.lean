/- The walk of the reference's Apart. -/
import Derived.Test.YtenkhjmedolknaaApartP
import Derived.Test.YtenkhjmedolknaaGridI
import Derived.Test.YtenkhjmedolknaaDfaRun
import Derived.Test.YtenkhjmedolknaaRegA
namespace Go.Proofs.Ytenkhjmedolknaa
open Go.RowKit
namespace Df

/-- the table of distances -/
structure GI (wA : World) (bt N M : Nat) (rb : Nat → Nat) (F : Nat → Nat → Nat) (wr : World) : Prop where
  tab : Grd 22 3 wA.heap.size bt N M N rb (fun a b => .int .i64 (F a b : Int)) wr
  bel : Below wA.heap.size wA wr
section
variable {wA : World} {bt N M : Nat} {rb : Nat → Nat} {F : Nat → Nat → Nat} {wr W : World}
theorem GI.keep (h : GI wA bt N M rb F wr) (hb : Below wr.heap.size wr W) : GI wA bt N M rb F W := ⟨h.tab.keep hb, h.bel.trans (hb.mono h.bel.size)⟩
theorem GI.set (h : GI wA bt N M rb F wr) {a b : Nat} (ha : a < N) (hb : b < M) (v : Nat) : GI wA bt N M rb (upd F a b v) (wr.setCell ⟨rb a, b, none⟩ (.int .i64 (v : Int))) := by
  refine ⟨(h.tab.set ha ha hb (.int .i64 (v : Int))).eq (fun k l _ _ _ => ?_), h.bel.setCell (p := ⟨rb a, b, none⟩) (h.tab.ne a ha ha).2 _⟩
  show (if k = a ∧ l = b then _ else _) = _
  unfold upd
  split <;> rfl
theorem GI.eq {F' : Nat → Nat → Nat} (h : GI wA bt N M rb F wr) (he : ∀ k l, k < N → l < M → F k l = F' k l) : GI wA bt N M rb F' wr := ⟨h.tab.eq fun k l hk _ hl => by rw [he k l hk hl], h.bel⟩
end
theorem grown_of_below {B : Nat} {w w' : World} (h : Below B w w') (hB : w.heap.size ≤ B) : w.grownBy w' none := ⟨h.os, h.tape, h.output, h.size, fun k hk _ => h.block k (Nat.lt_of_lt_of_le hk hB)⟩
def part (F : Nat → Nat → Nat) (a b : Nat) : Nat → Nat → Nat := fun k l => if k < a ∨ (k = a ∧ l < b) then F k l else 0
theorem part_row (F : Nat → Nat → Nat) (a M : Nat) (k l : Nat) (h : l < M) : part F a M k l = part F (a + 1) 0 k l := by
  unfold part
  by_cases e : k < a ∨ (k = a ∧ l < M)
  · rw [if_pos e, if_pos (by omega)]
  · rw [if_neg e, if_neg (by omega)]
theorem part_inf (F : Nat → Nat → Nat) (a b v : Nat) (h : F a b = v) (k l : Nat) : upd (part F a b) a b v k l = part F a (b + 1) k l := by
  unfold upd part
  by_cases e : k = a ∧ l = b
  · rw [if_pos e, if_pos (by omega), e.1, e.2, h]
  · rw [if_neg e]
    by_cases e2 : k < a ∨ (k = a ∧ l < b)
    · rw [if_pos e2, if_pos (by omega)]
    · rw [if_neg e2, if_neg (by omega)]
theorem upd_upd (F : Nat → Nat → Nat) (a b v v' : Nat) (k l : Nat) : upd (upd F a b v) a b v' k l = upd F a b v' k l := by
  unfold upd
  by_cases e : k = a ∧ l = b
  · rw [if_pos e, if_pos e]
  · rw [if_neg e, if_neg e, if_neg e]
theorem upd_at (F : Nat → Nat → Nat) (a b v : Nat) : upd F a b v a b = v := by unfold upd; rw [if_pos ⟨rfl, rfl⟩]

set_option maxHeartbeats 16000000 in
set_option maxRecDepth 100000 in
theorem apartE (x y : Dfa) (hx : Right x) (hy : Right y) (hwd : x.width = y.width) (aa an ba bn : Option Addr) (ca cn da dn : Nat) (w : World) (hX : DfA x aa an ca cn w) (hY : DfA y ba bn da dn w) :
    Calls Try.prog 14 #[.agg #[.int .i64 x.start, .slice aa x.acc.length ca, .slice an x.next.length cn], .agg #[.int .i64 y.start, .slice ba y.acc.length da, .slice bn y.next.length dn]] w (ApartPost x y w) := by
  obtain ⟨w0, HW0⟩ := nameIt ((w.alloc (.cells #[.int .i64 x.start, .slice aa x.acc.length ca, .slice an x.next.length cn] 25)).alloc (.cells #[.int .i64 y.start, .slice ba y.acc.length da, .slice bn y.next.length dn] 25))
  have hb0 : Below w.heap.size w w0 := by rw [← HW0.out]; exact ((Below.refl _ _).alloc (Nat.le_refl _) _).alloc (by simp) _
  have HB0 := Lib.hid hb0
  have hsz0 : w0.heap.size = w.heap.size + 2 := by rw [← HW0.out]; simp
  have X0 : Hid (w0.heap[w.heap.size]? = some (.cells #[.int .i64 x.start, .slice aa x.acc.length ca, .slice an x.next.length cn] 25 (0, 0))) := by
    rw [← HW0.out]; exact bx_keep (bx_new _ _ _ rfl) ((Below.refl _ _).alloc (Nat.le_refl _) _)
  have Y0 : Hid (w0.heap[w.heap.size + 1]? = some (.cells #[.int .i64 y.start, .slice ba y.acc.length da, .slice bn y.next.length dn] 25 (0, 0))) := by
    rw [← HW0.out]; exact bx_new _ _ _ (by simp)
  have HX := Lib.hid (hX.below hb0)
  have HY := Lib.hid (hY.below hb0)
  have HGX : Hid (∀ W, Below w0.heap.size w0 W → ∀ a : Nat, a ≤ x.next.length → Calls Try.prog 21 #[.agg #[.int .i64 x.start, .slice aa x.acc.length ca, .slice an x.next.length cn], .int .i64 (a : Int)] W fun e w' => e = .returned (.bool (goodS x (decS x a))) ∧ Below W.heap.size W w') := fun W hb a ha => by
    have := goodE x hx (decS x a) (decS_in ha) aa an ca cn W (HX.out.below hb).A
    rw [encS_dec ha] at this
    exact this
  have HGY : Hid (∀ W, Below w0.heap.size w0 W → ∀ a : Nat, a ≤ y.next.length → Calls Try.prog 21 #[.agg #[.int .i64 y.start, .slice ba y.acc.length da, .slice bn y.next.length dn], .int .i64 (a : Int)] W fun e w' => e = .returned (.bool (goodS y (decS y a))) ∧ Below W.heap.size W w') := fun W hb a ha => by
    have := goodE y hy (decS y a) (decS_in ha) ba bn da dn W (HY.out.below hb).A
    rw [encS_dec ha] at this
    exact this
  have HNX : Hid (∀ W, Below w0.heap.size w0 W → ∀ a : Nat, a ≤ x.next.length → ∀ c : Nat, c < x.width → Calls Try.prog 22 #[.agg #[.int .i64 x.start, .slice aa x.acc.length ca, .slice an x.next.length cn], .int .i64 (a : Int), .int .i64 (c : Int)] W fun e w' => e = .returned (.int .i64 (nxA x a c : Int)) ∧ Below W.heap.size W w') := fun W hb a ha c hc => by
    have := goE x hx (decS x a) (decS_in ha) c hc (.slice aa x.acc.length ca) an cn W (HX.out.below hb).N
    rw [encS_dec ha, encS_N (toS_in hx _ c)] at this
    exact this
  have HNY : Hid (∀ W, Below w0.heap.size w0 W → ∀ a : Nat, a ≤ y.next.length → ∀ c : Nat, c < x.width → Calls Try.prog 22 #[.agg #[.int .i64 y.start, .slice ba y.acc.length da, .slice bn y.next.length dn], .int .i64 (a : Int), .int .i64 (c : Int)] W fun e w' => e = .returned (.int .i64 (nxA y a c : Int)) ∧ Below W.heap.size W w') := fun W hb a ha c hc => by
    have := goE y hy (decS y a) (decS_in ha) c (by rw [← hwd]; exact hc) (.slice ba y.acc.length da) bn dn W (HY.out.below hb).N
    rw [encS_dec ha, encS_N (toS_in hy _ c)] at this
    exact this
  have HBP : Hid (∀ a b, (goodS x (decS x a) != goodS y (decS y b)) = badP x y (dec2 x y a b)) := fun _ _ => rfl
  obtain ⟨F0, HF0⟩ := nameIt (fun a b => if badP x y (dec2 x y a b) = true then 0 else inf)
  have HFT : Hid (∀ a b, badP x y (dec2 x y a b) = true → F0 a b = 0) := by intro a b h; rw [← HF0.out]; exact if_pos h
  have HFF : Hid (∀ a b, badP x y (dec2 x y a b) = false → F0 a b = inf) := by intro a b h; rw [← HF0.out]; exact if_neg (by rw [h]; simp)
  have HAP0 : Hid (Ap x y F0) := by show Ap x y F0; rw [← HF0.out]; exact Ap.start x y
  have HXL : Hid (∀ a c, nxA x a c ≤ x.next.length) := fun a c => nxA_le x a c
  have HYL : Hid (∀ a c, nxA y a c ≤ y.next.length) := fun a c => nxA_le y a c
  have HPS : Hid (∀ F, Ap x y F → Pas x y (tot (x.next.length + 1) (y.next.length + 1) F) false F 0 0 0) := fun F h => Pas.start h
  have HPY : Hid (∀ T0 ag F a b c, Pas x y T0 ag F a b c → a ≤ x.next.length → b ≤ y.next.length → c < x.width → F (nxA x a c) (nxA y b c) + 1 < F a b → Pas x y T0 true (upd F a b (F (nxA x a c) (nxA y b c) + 1)) a b (c + 1)) := fun T0 ag F a b c h h1 h2 h3 h4 => Pas.yes hx hy h h1 h2 h3 rfl h4
  have HPN : Hid (∀ T0 ag F a b c, Pas x y T0 ag F a b c → ¬ F (nxA x a c) (nxA y b c) + 1 < F a b → Pas x y T0 ag F a b (c + 1)) := fun T0 ag F a b c h h1 => Pas.no h (Nat.le_of_not_lt h1)
  have HPR : Hid (∀ T0 ag F a b, Pas x y T0 ag F a b x.width → Pas x y T0 ag F a (b + 1) 0) := fun T0 ag F a b h => Pas.row h
  have HPD : Hid (∀ T0 ag F a, Pas x y T0 ag F a (y.next.length + 1) 0 → Pas x y T0 ag F (a + 1) 0 0) := fun T0 ag F a h => Pas.down h
  have HPF : Hid (∀ T0 F, Pas x y T0 false F (x.next.length + 1) 0 0 → Bf.Far (stepP x y) x.width (badP x y) inf (farP x y F)) := fun T0 F h => Pas.fin hx hy h
  have HLE : Hid (∀ F a b, Ap x y F → a ≤ x.next.length → b ≤ y.next.length → F a b ≤ 1099511627776) := fun F a b h h1 h2 => h.le a b h1 h2
  have hnx := hx.states.1
  have hny := hy.states.1
  have hnx2 := hx.states.2
  have hny2 := hy.states.2
  have hm16 := hx.syms.2
  obtain ⟨a0, hsx⟩ : ∃ a0 : Nat, x.start = (a0 : Int) := ⟨x.start.toNat, by have := hx.start.1; omega⟩
  obtain ⟨b0, hsy⟩ : ∃ b0 : Nat, y.start = (b0 : Int) := ⟨y.start.toNat, by have := hy.start.1; omega⟩
  have ha0 : a0 < x.next.length := by have := hx.start.2; omega
  have hb0' : b0 < y.next.length := by have := hy.start.2; omega
  have HD0 : Hid (dec2 x y a0 b0 = (x.start, y.start)) := by
    show _ = _
    unfold dec2 decS
    rw [if_neg (by omega), if_neg (by omega), hsx, hsy]
  have HFP : Hid (∀ F a b, a ≤ x.next.length → b ≤ y.next.length → farP x y F (dec2 x y a b) = F a b) := fun F a b h1 h2 => by unfold farP dec2; rw [encN_dec h1, encN_dec h2]
  have HST2 : Hid (∀ F a b c, farP x y F (stepP x y (dec2 x y a b) c) = F (nxA x a c) (nxA y b c)) := fun F a b c => rfl
  have HGS : Hid (∀ F a b c u, Bf.Greedy (stepP x y) x.width (farP x y F) (dec2 x y (nxA x a c) (nxA y b c)) u → Bf.Greedy (stepP x y) x.width (farP x y F) (stepP x y (dec2 x y a b) c) u) := fun F a b c u h => greedy_dec hx hy F (stepP x y (dec2 x y a b) c) u h
  have HLT : Hid (∀ F u, Bf.Far (stepP x y) x.width (badP x y) inf (farP x y F) → Bf.Greedy (stepP x y) x.width (farP x y F) (dec2 x y a0 b0) u → F a0 b0 < inf → LeastW x y u) := by
    intro F u h1 h2 h3
    have h4 := HFP.out F a0 b0 (by omega) (by omega)
    rw [HD0.out] at h2 h4
    exact leastW_table h1 h2 (by rw [h4]; exact h3)
  have HNO : Hid (∀ F, Bf.Far (stepP x y) x.width (badP x y) inf (farP x y F) → inf ≤ F a0 b0 → ∀ u, Bf.over x.width u → badP x y (Bf.run (stepP x y) (x.start, y.start) u) = true → inf ≤ u.length) := by
    intro F h1 h2 u h3 h4
    have h5 := h1.low u (x.start, y.start) h3 h4
    have h6 := HFP.out F a0 b0 (by omega) (by omega)
    rw [HD0.out] at h6
    omega
  have HPOST : Hid (∀ (v : Value) (W : World), Below w0.heap.size w0 W → (∃ u a n cap, LeastW x y u ∧ v = (.tuple #[.slice a n cap, .bool true]) ∧ Sl W (.slice a n cap) (ints (List.map (fun (n : Nat) => (n : Int)) u))) ∨ ((∀ u, Bf.over x.width u → badP x y (Bf.run (stepP x y) (x.start, y.start) u) = true → inf ≤ u.length) ∧ v = (.tuple #[.slice none 0 0, .bool false])) → ApartPost x y w (.returned v) W) := by
    intro v W hb h
    refine ⟨HB0.out.trans (hb.mono HB0.out.size), ?_⟩
    rcases h with ⟨u, a, n, cap, h1, h2, h3⟩ | ⟨h1, h2⟩
    · exact .inl ⟨u, a, n, cap, h1, by rw [h2], h3⟩
    · exact .inr ⟨h1, by rw [h2]⟩
  obtain ⟨PST, HP⟩ := nameIt (ApartPost x y w)
  rw [HP.out] at HPOST ⊢
  obtain ⟨b, off, vr, hae, c0, hsl⟩ := Rd.rowI_at HX.out.N hnx
  obtain ⟨r0, k0, rfl⟩ := hsl.form
  rw [ints_len, width_at hnx, Nat.add_zero] at c0
  have HIN : Hid (inf = 1099511627776) := rfl
  obtain ⟨P2, HP2⟩ := nameIt (fun a b => badP x y (dec2 x y a b))
  obtain ⟨n, HN⟩ := nameIt x.next.length
  obtain ⟨n', HN'⟩ := nameIt y.next.length
  obtain ⟨m, HM⟩ := nameIt x.width
  obtain ⟨la, HLA⟩ := nameIt x.acc.length
  obtain ⟨la', HLA'⟩ := nameIt y.acc.length
  simp only [HN.out, HN'.out, HM.out, HLA.out, HLA'.out, hsx, hsy] at HW0 X0 Y0 HGX HGY HNX HNY HXL HYL HPS HPY HPN HPR HPD HPF HLE hnx hny hnx2 hny2 hm16 ha0 hb0' HFP HGS HLT HNO HPOST c0 HD0
  rw [HN.out, HN'.out, HLA.out, HLA'.out, hsx, hsy]
  have hn0 : (0 : Int) < (n : Int) := by omega
  subst hae
  obtain ⟨x0, x1, x2⟩ := bx_cells3 X0.out
  obtain ⟨y0, y1, y2⟩ := bx_cells3 Y0.out
  have hgrid := fun W => gridI (n + 1) (n' + 1) W ⟨by omega, by omega⟩ ⟨by omega, by omega⟩
  have HGRID : Hid (∀ W, Calls Try.prog 23 #[.int .i64 ((n : Int) + 1), .int .i64 ((n' : Int) + 1)] W (GridIPost (n + 1) (n' + 1) W)) := by
    intro W; have := hgrid W; simpa using this
  clear hX hY hx hy hb0 hsl hwd hgrid hsx hsy
  go_enter Try.func14, Try.ntmps14
  go_upto_region 1 with fail
  rw [HW0.out]
  go_quiet (fail)
  clear x0 x1 x2 y0 y1 y2
  obtain ⟨wA, HWA⟩ := nameIt (w0.drewN nq)
  have HBA : Hid (Below w0.heap.size w0 wA) := by rw [← HWA.out]; exact below_drewN _ _
  rw [HWA.out]
  clear HWA
  go_wp2_with fail
  refine (HGRID.out wA).mono ?_
  rintro e w1 ⟨bt, rb, rfl, hgrd, hb1⟩
  have HG0 : Hid (GI wA bt (n + 1) (n' + 1) rb (part F0 0 0) w1) := by
    refine ⟨hgrd.eq fun k l _ _ _ => ?_, hb1⟩
    unfold part
    rw [if_neg (by omega)]; rfl
  clear hgrd hb1
  obtain ⟨N, HNN⟩ := nameIt (n + 1)
  obtain ⟨M, HMM⟩ := nameIt (n' + 1)
  have hNn : N = n + 1 := HNN.out.symm
  have hMn : M = n' + 1 := HMM.out.symm
  have hN1 : n < N := by omega
  have hN2 : N ≤ 201 := by omega
  have hM1 : n' < M := by omega
  have hM2 : M ≤ 201 := by omega
  have HNn := Lib.hid hNn
  have HMn := Lib.hid hMn
  rw [HNN.out, HMM.out] at HG0
  rw [HNN.out]
  simp only [HNN.out, HMM.out] at HPS HPD HPF
  clear hNn hMn HGRID
  have HKX : Hid (∀ (F : Nat → Nat → Nat) wr, GI wA bt N M rb F wr → wr.heap[w.heap.size]? = some (.cells #[.int .i64 (a0 : Int), .slice aa la ca, .slice (some ⟨b, off, none⟩) n cn] 25 (0, 0)) ∧ wr.heap[w.heap.size + 1]? = some (.cells #[.int .i64 (b0 : Int), .slice ba la' da, .slice bn n' dn] 25 (0, 0)) ∧ wr.cell? ⟨b, off, none⟩ = some (.slice r0 m k0) ∧ Below w0.heap.size w0 wr) := by
    intro F wr h
    have hb : Below w0.heap.size w0 wr := HBA.out.trans (h.bel.mono HBA.out.size)
    exact ⟨bx_keep X0.out hb, bx_keep Y0.out hb, (hb.cell (lt_of_cell c0)).trans c0, hb⟩

  go_wp2_with fail
  go_loopg [37] N (fun gg v37 wr => ∃ a : Nat, a ≤ N ∧ N - a ≤ gg ∧ v37 = .int .i64 a ∧ Hid (GI wA bt N M rb (part F0 a 0) wr))
  case atStart => exact ⟨0, by omega, by omega, rfl, HG0⟩
  case round =>
    clear HG0
    obtain ⟨a, ha, hg, rfl, HG⟩ := hrel
    obtain ⟨w2, rfl⟩ : ∃ ww : World, ww = wr := ⟨_, rfl⟩
    by_cases hlt : a < N
    · have hlt' : (a : Int) < (N : Int) := by omega
      have ha0' : (0 : Int) ≤ (a : Int) := by omega
      have han : a ≤ n := by have := HNn.out; omega
      have h0 := HG.out.tab.hdr hlt hlt
      go_wp2_with fail
      clear h0
      go_loopg [45] M (fun gg v45 wr => ∃ b : Nat, b ≤ M ∧ M - b ≤ gg ∧ v45 = .int .i64 b ∧ Hid (GI wA bt N M rb (part F0 a b) wr))
      case atStart => exact ⟨0, by omega, by omega, rfl, HG⟩
      case round =>
        clear HG
        obtain ⟨bb, hbb, hg2, rfl, HG⟩ := hrel
        obtain ⟨w3, rfl⟩ : ∃ ww : World, ww = wr := ⟨_, rfl⟩
        by_cases hltb : bb < M
        · have hltb' : (bb : Int) < (M : Int) := by omega
          have hb0'' : (0 : Int) ≤ (bb : Int) := by omega
          have hbn : bb ≤ n' := by have := HMn.out; omega
          have h0 := HG.out.tab.hdr hlt hlt
          have h1 := HG.out.tab.cell hlt hlt hltb
          have f1 := HG.out.tab.free hlt hlt bb
          have hG2 := HG.out.set hlt hltb 1099511627776
          obtain ⟨w4, HW4⟩ := nameIt (w3.setCell ⟨rb a, bb, none⟩ (.int .i64 (1099511627776 : Nat)))
          rw [HW4.out] at hG2
          have HW4' : Hid (w3.setCell ⟨rb a, bb, none⟩ (.int .i64 1099511627776) = w4) := HW4.out
          have HG2 := Lib.hid hG2
          clear hG2
          go_upto_region 12 with fail
          rw [HW4'.out]
          clear h0 h1 f1
          obtain ⟨kx, ky, -, hbk⟩ := HKX.out _ _ HG2.out
          have HGX4 := Lib.hid (fun W (hb : Below w4.heap.size w4 W) => HGX.out W (hbk.trans (hb.mono hbk.size)) a han)
          have HGY4 := Lib.hid (fun W (hb : Below w4.heap.size w4 W) => HGY.out W (hbk.trans (hb.mono hbk.size)) bb hbn)
          have hbp := HBP.out a bb
          obtain ⟨g1, HG1⟩ := nameIt (goodS x (decS x a))
          obtain ⟨g2, HG2'⟩ := nameIt (goodS y (decS y bb))
          rw [HG1.out] at HGX4 hbp
          rw [HG2'.out] at HGY4 hbp
          have HFT1 := Lib.hid (HFT.out a bb)
          have HFF1 := Lib.hid (HFF.out a bb)
          obtain ⟨bd, HBD⟩ := nameIt (badP x y (dec2 x y a bb))
          rw [HBD.out] at hbp HFT1 HFF1
          have k0' := aft_cell (bx_cells3 kx).1
          have k1' := aft_cell (bx_cells3 kx).2.1
          have k2' := aft_cell (bx_cells3 kx).2.2
          have k3' := aft_cell (bx_cells3 ky).1
          have k4' := aft_cell (bx_cells3 ky).2.1
          have k5' := aft_cell (bx_cells3 ky).2.2
          clear kx ky hbk
          cases g1 with
          | true =>
            cases g2 with
            | true =>
              obtain rfl : false = bd := hbp
              refine wp_region_after (by kernel_rfl) (by kernel_rfl) ?_
              repeat (go_big_quiet_step (with_reducible exact Calls.after (HGX4.out _ (Aft.bel _))))
              repeat (go_big_quiet_step (with_reducible exact Calls.after (HGY4.out _ (Aft.bel _))))
              refine wpQuiet_nil ?_
              rintro w7 ⟨⟨_, hb7⟩, rfl⟩
              clear k0' k1' k2' k3' k4' k5'
              have HG7 := Lib.hid (HG2.out.keep hb7)
              clear hb7
              have hz := HFF1.out rfl
              rw [HIN.out] at hz
              have HG9 := Lib.hid (HG7.out.eq (F' := part F0 a (bb + 1)) (fun k l _ _ => part_inf F0 a bb _ hz k l))
              clear hz
              go_wp2_with fail
              go_roundg (M - (bb + 1))
              case measure => omega
              case rel => exact ⟨bb + 1, by omega, by omega, by go_num, HG9⟩
            | false =>
              obtain rfl : true = bd := hbp
              refine wp_region_after (by kernel_rfl) (by kernel_rfl) ?_
              repeat (go_big_quiet_step (with_reducible exact Calls.after (HGX4.out _ (Aft.bel _))))
              repeat (go_big_quiet_step (with_reducible exact Calls.after (HGY4.out _ (Aft.bel _))))
              refine wpQuiet_nil ?_
              rintro w7 ⟨⟨_, hb7⟩, rfl⟩
              clear k0' k1' k2' k3' k4' k5'
              have HG7 := Lib.hid (HG2.out.keep hb7)
              clear hb7
              have hz := HFT1.out rfl
              have h0 := HG7.out.tab.hdr hlt hlt
              have h1 := HG7.out.tab.cell hlt hlt hltb
              have f1 := HG7.out.tab.free hlt hlt bb
              have hG9 := (HG7.out.set hlt hltb 0).eq (F' := part F0 a (bb + 1)) (fun k l _ _ => by rw [upd_upd]; exact part_inf F0 a bb 0 hz k l)
              have HG9 := Lib.hid hG9
              clear hG9 hz
              go_wp2_with fail
              go_roundg (M - (bb + 1))
              case measure => omega
              case rel => exact ⟨bb + 1, by omega, by omega, by go_num, HG9⟩
          | false =>
            cases g2 with
            | true =>
              obtain rfl : true = bd := hbp
              refine wp_region_after (by kernel_rfl) (by kernel_rfl) ?_
              repeat (go_big_quiet_step (with_reducible exact Calls.after (HGX4.out _ (Aft.bel _))))
              repeat (go_big_quiet_step (with_reducible exact Calls.after (HGY4.out _ (Aft.bel _))))
              refine wpQuiet_nil ?_
              rintro w7 ⟨⟨_, hb7⟩, rfl⟩
              clear k0' k1' k2' k3' k4' k5'
              have HG7 := Lib.hid (HG2.out.keep hb7)
              clear hb7
              have hz := HFT1.out rfl
              have h0 := HG7.out.tab.hdr hlt hlt
              have h1 := HG7.out.tab.cell hlt hlt hltb
              have f1 := HG7.out.tab.free hlt hlt bb
              have hG9 := (HG7.out.set hlt hltb 0).eq (F' := part F0 a (bb + 1)) (fun k l _ _ => by rw [upd_upd]; exact part_inf F0 a bb 0 hz k l)
              have HG9 := Lib.hid hG9
              clear hG9 hz
              go_wp2_with fail
              go_roundg (M - (bb + 1))
              case measure => omega
              case rel => exact ⟨bb + 1, by omega, by omega, by go_num, HG9⟩
            | false =>
              obtain rfl : false = bd := hbp
              refine wp_region_after (by kernel_rfl) (by kernel_rfl) ?_
              repeat (go_big_quiet_step (with_reducible exact Calls.after (HGX4.out _ (Aft.bel _))))
              repeat (go_big_quiet_step (with_reducible exact Calls.after (HGY4.out _ (Aft.bel _))))
              refine wpQuiet_nil ?_
              rintro w7 ⟨⟨_, hb7⟩, rfl⟩
              clear k0' k1' k2' k3' k4' k5'
              have HG7 := Lib.hid (HG2.out.keep hb7)
              clear hb7
              have hz := HFF1.out rfl
              rw [HIN.out] at hz
              have HG9 := Lib.hid (HG7.out.eq (F' := part F0 a (bb + 1)) (fun k l _ _ => part_inf F0 a bb _ hz k l))
              clear hz
              go_wp2_with fail
              go_roundg (M - (bb + 1))
              case measure => omega
              case rel => exact ⟨bb + 1, by omega, by omega, by go_num, HG9⟩
        · have hltb' : ¬ (bb : Int) < (M : Int) := by omega
          obtain rfl : bb = M := by omega
          have HG9 := Lib.hid (HG.out.eq (F' := part F0 (a + 1) 0) (fun k l _ hl => part_row F0 a bb k l hl))
          go_wp2_with fail
          go_roundg (N - (a + 1))
          case measure => omega
          case rel => exact ⟨a + 1, by omega, by omega, by go_num, HG9⟩
    · have hlt' : ¬ (a : Int) < (N : Int) := by omega
      obtain rfl : a = N := by omega
      have HG1 := Lib.hid (HG.out.eq (F' := F0) (fun k l hk hl => by unfold part; rw [if_pos (by omega)]))
      clear HG
      go_wp2_with fail
      go_loopg [13] (tot a M F0 + 1) (fun gg v13 wr => ∃ (ag : Bool) (F : Nat → Nat → Nat), v13 = .bool ag ∧ (ag = true → tot a M F + 1 ≤ gg) ∧ Hid (GI wA bt a M rb F wr) ∧ Hid (Ap x y F) ∧ Hid (ag = false → Bf.Far (stepP x y) m (badP x y) inf (farP x y F)))
      case atStart => exact ⟨true, F0, rfl, (fun _ => Nat.le_refl _), HG1, HAP0, (fun e => by cases e)⟩
      case round =>
        clear HG1 HAP0
        obtain ⟨ag, F, rfl, hgg, HG, HAP, HFR⟩ := hrel
        obtain ⟨w2, rfl⟩ : ∃ ww : World, ww = wr := ⟨_, rfl⟩
        cases ag with
        | true =>
          have hgg' := hgg rfl
          have HPS0 := Lib.hid (HPS.out F HAP.out)
          obtain ⟨T0, HT0⟩ := nameIt (tot a M F)
          rw [HT0.out] at HPS0 hgg'
          clear hgg HFR HAP
          go_wp2_with fail
          go_loopg [13, 74] a (fun gg v13 v74 wr => ∃ (k : Nat) (ag : Bool) (F : Nat → Nat → Nat), k ≤ a ∧ a - k ≤ gg ∧ v13 = .bool ag ∧ v74 = .int .i64 k ∧ Hid (GI wA bt a M rb F wr) ∧ Hid (Pas x y T0 ag F k 0 0))
          case atStart => exact ⟨0, false, F, by omega, by omega, rfl, rfl, HG, HPS0⟩
          case round =>
            clear HG HPS0
            obtain ⟨k, ag, F1, hk, hg3, rfl, rfl, HG, HPA⟩ := hrel
            obtain ⟨w3, rfl⟩ : ∃ ww : World, ww = wr := ⟨_, rfl⟩
            by_cases hkl : k < a
            · have hkl' : (k : Int) < (a : Int) := by omega
              have hk0 : (0 : Int) ≤ (k : Int) := by omega
              have hkn : k ≤ n := by have := HNn.out; omega
              have h0 := HG.out.tab.hdr hkl hkl
              go_wp2_with fail
              clear h0
              go_loopg [13, 82] M (fun gg v13 v82 wr => ∃ (l : Nat) (ag : Bool) (F : Nat → Nat → Nat), l ≤ M ∧ M - l ≤ gg ∧ v13 = .bool ag ∧ v82 = .int .i64 l ∧ Hid (GI wA bt a M rb F wr) ∧ Hid (Pas x y T0 ag F k l 0))
              case atStart => exact ⟨0, ag, F1, by omega, by omega, rfl, rfl, HG, HPA⟩
              case round =>
                clear HG HPA
                obtain ⟨l, ag, F2, hl, hg4, rfl, rfl, HG, HPA⟩ := hrel
                obtain ⟨w4, rfl⟩ : ∃ ww : World, ww = wr := ⟨_, rfl⟩
                by_cases hll : l < M
                · have hll' : (l : Int) < (M : Int) := by omega
                  have hl0 : (0 : Int) ≤ (l : Int) := by omega
                  have hln : l ≤ n' := by have := HMn.out; omega
                  obtain ⟨kx, -, hc0, -⟩ := HKX.out _ _ HG.out
                  obtain ⟨x0, x1, x2⟩ := bx_cells3 kx
                  clear kx
                  go_wp2_with fail
                  clear x0 x1 x2 hc0
                  go_loopg [13, 90] m (fun gg v13 v90 wr => ∃ (c : Nat) (ag : Bool) (F : Nat → Nat → Nat), c ≤ m ∧ m - c ≤ gg ∧ v13 = .bool ag ∧ v90 = .int .i64 c ∧ Hid (GI wA bt a M rb F wr) ∧ Hid (Pas x y T0 ag F k l c))
                  case atStart => exact ⟨0, ag, F2, by omega, by omega, rfl, rfl, HG, HPA⟩
                  case round =>
                    clear HG HPA
                    obtain ⟨c, ag, F3, hc, hg5, rfl, rfl, HG, HPA⟩ := hrel
                    obtain ⟨w5, rfl⟩ : ∃ ww : World, ww = wr := ⟨_, rfl⟩
                    by_cases hcm : c < m
                    · have hcm' : (c : Int) < (m : Int) := by omega
                      obtain ⟨kx, ky, -, hbk⟩ := HKX.out _ _ HG.out
                      have HNX5 := Lib.hid (fun W (hb : Below w5.heap.size w5 W) => HNX.out W (hbk.trans (hb.mono hbk.size)) k hkn c hcm)
                      have HNY5 := Lib.hid (fun W (hb : Below w5.heap.size w5 W) => HNY.out W (hbk.trans (hb.mono hbk.size)) l hln c hcm)
                      have hp1 := HXL.out k c
                      have hp2 := HYL.out l c
                      have HPYY := Lib.hid (fun h4 => HPY.out T0 ag F3 k l c HPA.out hkn hln hcm h4)
                      have HPNN := Lib.hid (fun h4 => HPN.out T0 ag F3 k l c HPA.out h4)
                      have hle1 := HLE.out F3 _ _ HPA.out.ap hp1 hp2
                      have hle2 := HLE.out F3 k l HPA.out.ap hkn hln
                      obtain ⟨p, HPE⟩ := nameIt (nxA x k c)
                      obtain ⟨q, HQE⟩ := nameIt (nxA y l c)
                      rw [HPE.out] at HNX5 hp1 hle1
                      rw [HQE.out] at HNY5 hp2 hle1
                      rw [HPE.out, HQE.out] at HPYY HPNN
                      have hpa : p < a := by have := HNn.out; omega
                      have hqM : q < M := by have := HMn.out; omega
                      have hpa' : (p : Int) < (a : Int) := by omega
                      have hqM' : (q : Int) < (M : Int) := by omega
                      have hp0 : (0 : Int) ≤ (p : Int) := by omega
                      have hq0 : (0 : Int) ≤ (q : Int) := by omega
                      have g0 := HG.out.tab.hdr hpa hpa
                      have g1 := HG.out.tab.cell hpa hpa hqM
                      obtain ⟨f1, HF1⟩ := nameIt (F3 p q)
                      obtain ⟨f2, HF2⟩ := nameIt (F3 k l)
                      rw [HF1.out] at hle1 g1 HPYY HPNN
                      rw [HF2.out] at hle2 HPYY HPNN
                      have k0' := aft_cell (bx_cells3 kx).1
                      have k1' := aft_cell (bx_cells3 kx).2.1
                      have k2' := aft_cell (bx_cells3 kx).2.2
                      have k3' := aft_cell (bx_cells3 ky).1
                      have k4' := aft_cell (bx_cells3 ky).2.1
                      have k5' := aft_cell (bx_cells3 ky).2.2
                      have k6' := aft_cell g0
                      have k7' := aft_cell g1
                      have hwr : IntKind.i64.wrap ((f1 : Int) + 1) = ((f1 + 1 : Nat) : Int) := by rw [IntWalk.i64_in _ (by omega)]; omega
                      clear kx ky hbk g0 g1
                      obtain ⟨v, HVV⟩ := nameIt (f1 + 1)
                      rw [HVV.out] at hwr HPYY HPNN
                      go_upto_region 28 with fail
                      refine wp_region_after (by kernel_rfl) (by kernel_rfl) ?_
                      repeat (go_big_quiet_step (with_reducible exact Calls.after (HNX5.out _ (Aft.bel _))))
                      repeat (go_big_quiet_step (with_reducible exact Calls.after (HNY5.out _ (Aft.bel _))))
                      refine wpQuiet_nil ?_
                      rintro w7 ⟨⟨_, hb7⟩, rfl⟩
                      clear k0' k1' k2' k3' k4' k5' k6' k7'
                      have HG7 := Lib.hid (HG.out.keep hb7)
                      clear hb7 HG
                      have g2 := HG7.out.tab.hdr hkl hkl
                      have g3 := HG7.out.tab.cell hkl hkl hll
                      rw [HF2.out] at g3
                      have ff := HG7.out.tab.free hkl hkl l
                      by_cases hvl : v < f2
                      · have hvl' : (v : Int) < (f2 : Int) := by omega
                        have HG9 := Lib.hid (HG7.out.set hkl hll v)
                        have HP9 := Lib.hid (HPYY.out hvl)
                        clear hwr
                        go_wp2_with fail
                        go_roundg (m - (c + 1))
                        case measure => omega
                        case rel => exact ⟨c + 1, true, _, by omega, by omega, rfl, by go_num, HG9, HP9⟩
                      · have hvl' : ¬ (v : Int) < (f2 : Int) := by omega
                        have HP9 := Lib.hid (HPNN.out hvl)
                        clear hwr
                        go_wp2_with fail
                        go_roundg (m - (c + 1))
                        case measure => omega
                        case rel => exact ⟨c + 1, ag, F3, by omega, by omega, rfl, by go_num, HG7, HP9⟩
                    · have hcm' : ¬ (c : Int) < (m : Int) := by omega
                      obtain rfl : c = m := by omega
                      have HP9 := Lib.hid (HPR.out T0 ag F3 k l HPA.out)
                      go_wp2_with fail
                      go_roundg (M - (l + 1))
                      case measure => omega
                      case rel => exact ⟨l + 1, ag, F3, by omega, by omega, rfl, by go_num, HG, HP9⟩
                · have hll' : ¬ (l : Int) < (M : Int) := by omega
                  obtain rfl : l = M := by omega
                  have HP9 := Lib.hid (HPD.out T0 ag F2 k HPA.out)
                  go_wp2_with fail
                  go_roundg (a - (k + 1))
                  case measure => omega
                  case rel => exact ⟨k + 1, ag, F2, by omega, by omega, rfl, by go_num, HG, HP9⟩
            · have hkl' : ¬ (k : Int) < (a : Int) := by omega
              obtain rfl : k = a := by omega
              have HAP9 : Hid (Ap x y F1) := HPA.out.ap
              have HFR9 : Hid (ag = false → Bf.Far (stepP x y) m (badP x y) inf (farP x y F1)) := by
                intro e; subst e; exact HPF.out T0 F1 HPA.out
              have HLS9 : Hid (ag = true → tot k M F1 < T0) := by
                intro e
                have := HPA.out.less e
                rw [HN.out, HN'.out, HNN.out, HMM.out] at this
                exact this
              go_wp2_with fail
              go_roundg T0
              case measure => omega
              case rel => exact ⟨ag, F1, rfl, (fun e => HLS9.out e), HG, HAP9, HFR9⟩
        | false =>
          have HFAR := Lib.hid (HFR.out rfl)
          clear hgg HFR
          obtain ⟨kx, ky, -, -⟩ := HKX.out _ _ HG.out
          obtain ⟨x0, x1, x2⟩ := bx_cells3 kx
          obtain ⟨y0, y1, y2⟩ := bx_cells3 ky
          clear kx ky
          go_wp2_with fail
          go_quiet (fail)
          clear x0 x1 x2 y0 y1 y2
          obtain ⟨wB, HWB⟩ := nameIt (w2.drewN nq)
          have HGB : Hid (GI wA bt a M rb F wB) := by rw [← HWB.out]; exact HG.out.keep (below_drewN _ _)
          rw [HWB.out]
          clear HWB HG
          have haa : a0 < a := by have := HNn.out; omega
          have hbM : b0 < M := by have := HMn.out; omega
          have haa' : (a0 : Int) < (a : Int) := by omega
          have hbM' : (b0 : Int) < (M : Int) := by omega
          have h0 := HGB.out.tab.hdr haa haa
          have h1 := HGB.out.tab.cell haa haa hbM
          obtain ⟨-, -, -, hbB⟩ := HKX.out _ _ HGB.out
          have HBB := Lib.hid hbB
          have HLT1 := Lib.hid (fun u h2 h3 => HLT.out F u HFAR.out h2 h3)
          have HNO1 := Lib.hid (HNO.out F HFAR.out)
          rw [HIN.out] at HLT1 HNO1
          have HNEAR : Hid (∀ k l, k ≤ n → l ≤ n' → F k l < 1099511627776 → 0 < F k l → ∃ c, c < m ∧ F (nxA x k c) (nxA y l c) + 1 = F k l) := by
            intro k l hk hl h3 h4
            have h5 := HFP.out F k l hk hl
            obtain ⟨c, h6, h7⟩ := HFAR.out.near (n := dec2 x y k l) (by rw [h5, HIN.out]; exact h3) (by rw [h5]; exact h4)
            rw [h5, HST2.out] at h7
            exact ⟨c, h6, h7⟩
          have HGR0 : Hid (∀ k l, k ≤ n → l ≤ n' → F k l = 0 → Bf.Greedy (stepP x y) m (farP x y F) (dec2 x y k l) []) := by
            intro k l hk hl h3
            exact .here (by rw [HFP.out F k l hk hl]; exact h3)
          have HGRS : Hid (∀ k l c u, k ≤ n → l ≤ n' → c < m → F (nxA x k c) (nxA y l c) + 1 = F k l → (∀ c', c' < c → F (nxA x k c') (nxA y l c') + 1 ≠ F k l) → Bf.Greedy (stepP x y) m (farP x y F) (dec2 x y (nxA x k c) (nxA y l c)) u → Bf.Greedy (stepP x y) m (farP x y F) (dec2 x y k l) (c :: u)) := by
            intro k l c u hk hl hc h3 h4 h5
            refine .there hc (by rw [HST2.out, HFP.out F k l hk hl]; exact h3) (fun c' hc' => by rw [HST2.out, HFP.out F k l hk hl]; exact h4 c' hc') (HGS.out F k l c u h5)
          obtain ⟨f0, HF0'⟩ := nameIt (F a0 b0)
          rw [HF0'.out] at h1 HLT1 HNO1
          by_cases hf : 1099511627776 ≤ f0
          · have hf' : (1099511627776 : Int) ≤ (f0 : Int) := by omega
            have HF := Lib.hid (HPOST.out _ wB HBB.out (.inr ⟨by rw [HIN.out]; exact HNO1.out hf, rfl⟩))
            go_wp2_with fail
            first | exact HF.out | (refine bodyPost_ret (results_tmp2 Try.results14 _ _ _) rfl ?_; exact HF.out)
          · have hf' : ¬ (1099511627776 : Int) ≤ (f0 : Int) := by omega
            have hf2 : f0 < 1099511627776 := by omega
            have ha0n : a0 ≤ n := by omega
            have hb0n : b0 ≤ n' := by omega
            go_wp2_with fail
            clear h0 h1
            go_loopg [18, 19, 20] (f0 + 1) (fun gg v18 v19 v20 wr => ∃ (k l : Nat) (out : List Nat), k ≤ n ∧ l ≤ n' ∧ F k l + 1 ≤ gg ∧ v18 = .int .i64 k ∧ v19 = .int .i64 l ∧ Hid (F k l < 1099511627776) ∧ Hid (out.length + F k l ≤ 1099511627776) ∧ Hid (∀ u, Bf.Greedy (stepP x y) m (farP x y F) (dec2 x y k l) u → Bf.Greedy (stepP x y) m (farP x y F) (dec2 x y a0 b0) (out ++ u)) ∧ Hid (wr.ownsRow wB.heap.size 3 1 v20 out.length (ints (List.map (fun (n : Nat) => (n : Int)) out))) ∧ Hid (Below wB.heap.size wB wr))
            case atStart =>
              refine ⟨a0, b0, [], ha0n, hb0n, by rw [HF0'.out]; exact Nat.le_refl _, rfl, rfl, by show _ < _; rw [HF0'.out]; exact hf2, by show _ ≤ _; rw [HF0'.out]; simp; omega, fun u h => h, ?_, Below.refl _ _⟩
              show World.ownsRow wB _ _ _ _ _ _
              simpa [ints] using World.ownsRow_nil wB wB.heap.size 3 1
            case round =>
              obtain ⟨k, l, out, hk, hl, hgg, rfl, rfl, HFL, HOL, HGG, HO, HB⟩ := hrel
              obtain ⟨w3, rfl⟩ : ∃ ww : World, ww = wr := ⟨_, rfl⟩
              have HG3 := Lib.hid (show GI wA bt a M rb F w3 from ⟨HGB.out.tab.grown (grown_of_below HB.out (Nat.le_refl _)) (fun k e => by cases e), HGB.out.bel.trans (HB.out.mono HGB.out.bel.size)⟩)
              have hka : k < a := by have := HNn.out; omega
              have hlM : l < M := by have := HMn.out; omega
              have hka' : (k : Int) < (a : Int) := by omega
              have hlM' : (l : Int) < (M : Int) := by omega
              have hk0 : (0 : Int) ≤ (k : Int) := by omega
              have hl0 : (0 : Int) ≤ (l : Int) := by omega
              have h0 := HG3.out.tab.hdr hka hka
              have h1 := HG3.out.tab.cell hka hka hlM
              obtain ⟨oa, oc, rfl, hoc, hoc2⟩ := own_len HO.out
              obtain ⟨ol, HOLN⟩ := nameIt out.length
              rw [HOLN.out] at HO HOL
              rw [HOLN.out]
              have HNR := Lib.hid (HNEAR.out k l hk hl HFL.out)
              have HGRZ := Lib.hid (HGR0.out k l hk hl)
              have HGRT := Lib.hid (fun c u => HGRS.out k l c u hk hl)
              obtain ⟨f2, HF2⟩ := nameIt (F k l)
              have hfl := HFL.out
              have hol := HOL.out
              rw [HF2.out] at h1 hgg HNR HGRZ HGRT hfl hol
              clear HFL HOL
              by_cases hpos : 0 < f2
              · have hpos' : (0 : Int) < (f2 : Int) := by omega
                obtain ⟨kx, ky, hc0, hbk⟩ := HKX.out _ _ HG3.out
                obtain ⟨x0, x1, x2⟩ := bx_cells3 kx
                clear kx ky hbk
                go_wp2_with fail
                clear h0 h1 x0 x1 x2 hc0
                obtain ⟨vO, HVO⟩ := nameIt (Value.slice oa ol oc)
                go_loopg [18, 19, 20, 153] m (fun gg v18 v19 v20 v153 wr => ∃ c : Nat, c ≤ m ∧ m - c ≤ gg ∧ v18 = .int .i64 k ∧ v19 = .int .i64 l ∧ v20 = .slice oa ol oc ∧ v153 = .int .i64 c ∧ Hid (∀ c', c' < c → F (nxA x k c') (nxA y l c') + 1 ≠ f2) ∧ Hid (Below w3.heap.size w3 wr))
                case atStart => exact ⟨0, by omega, by omega, rfl, rfl, rfl, rfl, (fun c' h => by omega), Below.refl _ _⟩
                case round =>
                  obtain ⟨c, hc, hg6, rfl, rfl, rfl, rfl, HNC, HB3⟩ := hrel
                  obtain ⟨w4, rfl⟩ : ∃ ww : World, ww = wr := ⟨_, rfl⟩
                  by_cases hcm : c < m
                  · have hcm' : (c : Int) < (m : Int) := by omega
                    have HG4 := Lib.hid (HG3.out.keep HB3.out)
                    obtain ⟨kx, ky, -, hbk⟩ := HKX.out _ _ HG4.out
                    have HNX5 := Lib.hid (fun W (hb : Below w4.heap.size w4 W) => HNX.out W (hbk.trans (hb.mono hbk.size)) k hk c hcm)
                    have HNY5 := Lib.hid (fun W (hb : Below w4.heap.size w4 W) => HNY.out W (hbk.trans (hb.mono hbk.size)) l hl c hcm)
                    have hp1 := HXL.out k c
                    have hp2 := HYL.out l c
                    have HGTT := Lib.hid (fun u => HGRT.out c u hcm)
                    have HNC1 : Hid (F (nxA x k c) (nxA y l c) + 1 ≠ f2 → ∀ c', c' < c + 1 → F (nxA x k c') (nxA y l c') + 1 ≠ f2) := by
                      intro h c' hc'
                      by_cases e : c' = c
                      · subst e; exact h
                      · exact HNC.out c' (by omega)
                    obtain ⟨p, HPE⟩ := nameIt (nxA x k c)
                    obtain ⟨q, HQE⟩ := nameIt (nxA y l c)
                    rw [HPE.out] at HNX5 hp1
                    rw [HQE.out] at HNY5 hp2
                    rw [HPE.out, HQE.out] at HGTT HNC1
                    have hpa : p < a := by have := HNn.out; omega
                    have hqM : q < M := by have := HMn.out; omega
                    have hpa' : (p : Int) < (a : Int) := by omega
                    have hqM' : (q : Int) < (M : Int) := by omega
                    have hp0 : (0 : Int) ≤ (p : Int) := by omega
                    have hq0 : (0 : Int) ≤ (q : Int) := by omega
                    have k0' := aft_cell (bx_cells3 kx).1
                    have k1' := aft_cell (bx_cells3 kx).2.1
                    have k2' := aft_cell (bx_cells3 kx).2.2
                    have k3' := aft_cell (bx_cells3 ky).1
                    have k4' := aft_cell (bx_cells3 ky).2.1
                    have k5' := aft_cell (bx_cells3 ky).2.2
                    have hwr : IntKind.i64.wrap ((f2 : Int) - 1) = (f2 : Int) - 1 := IntWalk.i64_in _ (by omega)
                    clear kx ky hbk
                    go_upto_region 42 with fail
                    refine wp_region_after (by kernel_rfl) (by kernel_rfl) ?_
                    repeat (go_big_quiet_step (with_reducible exact Calls.after (HNX5.out _ (Aft.bel _))))
                    repeat (go_big_quiet_step (with_reducible exact Calls.after (HNY5.out _ (Aft.bel _))))
                    refine wpQuiet_nil ?_
                    rintro w7 ⟨⟨_, hb7⟩, rfl⟩
                    clear k0' k1' k2' k3' k4' k5'
                    have HB7 := Lib.hid (HB3.out.trans (hb7.mono HB3.out.size))
                    have HG7 := Lib.hid (HG4.out.keep hb7)
                    clear hb7
                    have g0 := HG7.out.tab.hdr hpa hpa
                    have g1 := HG7.out.tab.cell hpa hpa hqM
                    have g2 := HG7.out.tab.hdr hka hka
                    have g3 := HG7.out.tab.cell hka hka hlM
                    rw [HF2.out] at g3
                    obtain ⟨f1, HF1⟩ := nameIt (F p q)
                    rw [HF1.out] at g1 HGTT HNC1
                    by_cases he : f1 + 1 = f2
                    · have heq : ((f1 : Int) == (f2 : Int) - 1) = true := by rw [beq_iff_eq]; omega
                      have HEQ := Lib.hid he
                      clear he
                      go_wp2_with fail
                      go_quiet (fail)
                      obtain ⟨w8, HW8⟩ := nameIt (w7.drewN nq)
                      have HB8 : Hid (Below w3.heap.size w3 w8) := by rw [← HW8.out]; exact HB7.out.trans ((below_drewN _ _).mono HB7.out.size)
                      rw [HW8.out]
                      clear g0 g1 g2 g3 HW8
                      have HB8B : Hid (Below wB.heap.size wB w8) := HB.out.trans (HB8.out.mono HB.out.size)
                      have HO8 := Lib.hid (own_keep HO.out HB8.out)
                      go_wp2_with (at_builtin; refine wp_app1at elInt rfl _ _ rfl HO8.out rfl rfl rfl rfl rfl (by omega) (by unfold maxLen; omega) HB8B.out.size ?_)
                      intro v9 w9 ho9 hg9 hat9
                      have HO9 : Hid (w9.ownsRow wB.heap.size 3 1 v9 (out ++ [c]).length (ints (List.map (fun (n : Nat) => (n : Int)) (out ++ [c])))) := by
                        rw [List.length_append, HOLN.out]
                        show World.ownsRow w9 _ _ _ _ _ _
                        simpa [ints] using ho9
                      have HB9 : Hid (Below wB.heap.size wB w9) := HB8B.out.grown hg9 HB8B.out.size (fun k e => (HO8.out.lt k e).1)
                      have HGG9 : Hid (∀ u, Bf.Greedy (stepP x y) m (farP x y F) (dec2 x y p q) u → Bf.Greedy (stepP x y) m (farP x y F) (dec2 x y a0 b0) ((out ++ [c]) ++ u)) := by
                        intro u hu
                        rw [List.append_assoc]
                        exact HGG.out _ (HGTT.out u HEQ.out HNC.out hu)
                      have hq9 := HEQ.out
                      have HFL9 : Hid (F p q < 1099511627776) := by show _ < _; rw [HF1.out]; omega
                      have HOL9 : Hid ((out ++ [c]).length + F p q ≤ 1099511627776) := by show _ ≤ _; rw [List.length_append, HOLN.out, HF1.out]; simp; omega
                      clear ho9 hg9 hat9 hq9 hwr
                      go_wp2_with fail
                      go_roundg (F p q + 1)
                      case measure => rw [HF1.out]; have := HEQ.out; omega
                      case rel => exact ⟨p, q, out ++ [c], hp1, hp2, Nat.le_refl _, rfl, rfl, HFL9, HOL9, HGG9, HO9, HB9⟩
                    · have heq : ((f1 : Int) == (f2 : Int) - 1) = false := by rw [beq_eq_false_iff_ne]; omega
                      have HNC9 := Lib.hid (HNC1.out he)
                      clear he
                      go_wp2_with fail
                      go_quiet (fail)
                      obtain ⟨w8, HW8⟩ := nameIt (w7.drewN nq)
                      have HB8 : Hid (Below w3.heap.size w3 w8) := by rw [← HW8.out]; exact HB7.out.trans ((below_drewN _ _).mono HB7.out.size)
                      rw [HW8.out]
                      clear g0 g1 g2 g3 HW8 hwr
                      go_wp2_with fail
                      go_roundg (m - (c + 1))
                      case measure => omega
                      case rel => exact ⟨c + 1, by omega, by omega, rfl, rfl, rfl, by go_num, HNC9, HB8⟩
                  · exfalso
                    obtain rfl : c = m := by omega
                    obtain ⟨c', h1, h2⟩ := HNR.out hpos
                    exact HNC.out c' h1 h2
              · have hpos' : ¬ (0 : Int) < (f2 : Int) := by omega
                have hz : f2 = 0 := by omega
                have HGF := Lib.hid (HGG.out [] (HGRZ.out hz))
                have HLW := Lib.hid (HLT1.out (out ++ []) HGF.out hf2)
                rw [List.append_nil] at HLW
                have HSL := Lib.hid (sl_of_own HO.out)
                have HF := Lib.hid (HPOST.out _ w3 (HBB.out.trans (HB.out.mono HBB.out.size)) (.inl ⟨out, oa, ol, oc, HLW.out, rfl, HSL.out⟩))
                clear hz
                go_wp2_with fail
                first | exact HF.out | (refine bodyPost_ret (results_tmp2 Try.results14 _ _ _) rfl ?_; exact HF.out)

end Df
end Go.Proofs.Ytenkhjmedolknaa
