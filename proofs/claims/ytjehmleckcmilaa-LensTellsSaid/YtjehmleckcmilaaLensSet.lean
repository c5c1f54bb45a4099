/- The walk of lens.Set. -/
import Derived.Test.YtjehmleckcmilaaLens
import Derived.Deep.DeepCutAuto
namespace Go.Proofs.Ytjehmleckcmilaa
open Go.RowKit
namespace Ln

def bls (l : List Bool) : List Value := l.map Value.bool
open Classical in
/-- which lengths up to n the words of a nonterminal have -/
noncomputable def lensL (K : List Rule) (n : Nat) (a : Int) : List Bool := (List.range (n + 1)).map fun k => decide (Has K a k)
def setErr (g : Gram) (n : Int) : Int := if checkG g ≠ 0 then checkG g else if n < 0 ∨ 200 < n then 1 else 0
open Classical in
noncomputable def setOf (g : Gram) (n : Int) : List Bool := if setErr g n = 0 then lensL g.rules n.toNat g.start else []
def SetPost (g : Gram) (n : Int) (w : World) (e : Ending) (w' : World) : Prop :=
  ∃ v, e = .returned (.tuple #[v, .int .i64 (setErr g n)]) ∧ Sl w' v (bls (setOf g n)) ∧ Below w.heap.size w w'
theorem slNilB (w : World) : Sl w (.slice none 0 0) (bls []) := sl_of_own (B := 0) (e := 4) (World.ownsRow_nil _ _ _ _)
theorem sl_brow {g m : Nat} {A : Nat → Bool} {wr : World} (h : Brow g m A wr) (hm : m ≤ maxLen) : Sl wr (.slice (some ⟨g, 0, none⟩) m m) (bls ((List.range m).map A)) := by
  obtain ⟨cs, h1, h2, h3⟩ := h
  refine ⟨some ⟨g, 0, none⟩, m, by simp [bls], by simp [bls], hm, (fun h => by cases h), fun i hi => ⟨_, rfl, ?_⟩⟩
  simp [bls] at hi
  rw [add_at, Nat.zero_add]
  simp [World.cell?, h1, h3 i hi, bls]
/-- what the rounds over the rules keep -/
structure PI (K : List Rule) (n N : Nat) (H0 : Nat → Nat → Bool) (ag : Bool) (H : Nat → Nat → Bool) (j : Nat) : Prop where
  sound : Sound K H
  more : trues N (n + 1) H0 ≤ trues N (n + 1) H ∧ (ag = true → trues N (n + 1) H0 < trues N (n + 1) H)
  closed : ag = false → ∀ i, i < j → Closed K n H i
/-- what the rounds over the places keep -/
structure RI (w : World) (bt N n : Nat) (G : Array Value) (rb : Nat → Nat) (H : Nat → Nat → Bool) (rx : Nat) (RB : Array Value) (sx : Nat) (SB : Array Value) (ga : Nat) (A : Nat → Bool) (gn : Nat) (M : Nat → Bool) (wr : World) : Prop where
  li : LI w bt N (n + 1) G rb N H wr
  rbox : wr.heap[rx]? = some (.cells RB 189 (0, 0))
  sbox : wr.heap[sx]? = some (.cells SB 88 (0, 0))
  arow : Brow ga (n + 1) A wr
  nrow : Brow gn (n + 1) M wr
  ne : w.heap.size < gn ∧ gn ≠ bt ∧ (∀ i, i < N → gn ≠ rb i) ∧ gn ≠ rx ∧ gn ≠ sx ∧ gn ≠ ga
section
variable {w : World} {bt N n : Nat} {G : Array Value} {rb : Nat → Nat} {H : Nat → Nat → Bool} {rx : Nat} {RB : Array Value} {sx : Nat} {SB : Array Value} {ga : Nat} {A : Nat → Bool} {gn : Nat} {M M' : Nat → Bool} {wr : World}
theorem RI.eq (h : RI w bt N n G rb H rx RB sx SB ga A gn M wr) (he : ∀ k, k < n + 1 → M k = M' k) : RI w bt N n G rb H rx RB sx SB ga A gn M' wr := ⟨h.li, h.rbox, h.sbox, h.arow, h.nrow.eq he, h.ne⟩
theorem RI.set (h : RI w bt N n G rb H rx RB sx SB ga A gn M wr) {j : Nat} (hj : j < n + 1) (he : ∀ k, k < n + 1 → M' k = if k = j then true else M k) : RI w bt N n G rb H rx RB sx SB ga A gn M' (wr.setCell ⟨gn, j, none⟩ (.bool true)) := by
  obtain ⟨h1, h2, h3, h4, h5, e1, e2, e3, e4, e5, e6⟩ := h
  exact ⟨h1.beside e1 e2 e3 _ _, bx_other h2 (fun e => e4 e.symm) _ _, bx_other h3 (fun e => e5 e.symm) _ _, h4.other (fun e => e6 e.symm) _ _, h5.set hj he, e1, e2, e3, e4, e5, e6⟩
end
/-- what the last rounds keep: the row is read into the table -/
structure P7 (K : List Rule) (n N : Nat) (H0 H : Nat → Nat → Bool) (A : Nat → Bool) (lf j : Nat) (ag : Bool) (H' : Nat → Nat → Bool) (i : Nat) : Prop where
  pi : PI K n N H0 ag H' j
  cur : ag = false → H' = H ∧ ∀ k, k < i → A k = true → H lf k = true

set_option maxHeartbeats 8000000 in
set_option maxRecDepth 100000 in
theorem setE (g : Gram) (nn : Int) (ar : Option Addr) (cr : Nat) (w : World) (hr : Rd AnyB w (.sl (g.rules.map Rule.d)) [.slice ar g.rules.length cr]) :
    Calls Try.prog 41 #[.agg #[.int .i64 g.terms, .int .i64 g.nons, .int .i64 g.start, .slice ar g.rules.length cr], .int .i64 nn] w (SetPost g nn w) := by
  have hbs := hr.bounds.2
  unfold maxLen at hbs
  obtain ⟨hc1, hc2⟩ := hbs
  obtain ⟨w0, HW0⟩ := nameIt (w.alloc (.cells #[.int .i64 g.terms, .int .i64 g.nons, .int .i64 g.start, .slice ar g.rules.length cr] 77))
  have HB0 : Hid (Below w.heap.size w w0) := by rw [← HW0.out]; exact (Below.refl _ _).alloc (Nat.le_refl _) _
  have X1 : Hid (w0.heap[w.heap.size]? = some (.cells #[.int .i64 g.terms, .int .i64 g.nons, .int .i64 g.start, .slice ar g.rules.length cr] 77 (0, 0))) := by rw [← HW0.out]; exact bx_new _ _ _ rfl
  have HCK := Lib.hid (checkE g ar cr w0 (hr.below HB0.out))
  have HRD := Lib.hid hr
  have HCZ := Lib.hid (fun h : checkG g = 0 => checkG_zero h)
  have HSE : Hid (setErr g nn = if checkG g ≠ 0 then checkG g else if nn < 0 ∨ 200 < nn then 1 else 0) := rfl
  have HBAD : Hid (∀ z W, setErr g nn = z → z ≠ 0 → Below w.heap.size w W → SetPost g nn w (.returned (.tuple #[.slice none 0 0, .int .i64 z])) W) := by
    intro z W h1 h2 hb
    refine ⟨.slice none 0 0, by rw [h1], ?_, hb⟩
    unfold setOf; rw [h1, if_neg h2]; exact slNilB W
  have HGOOD : Hid (∀ v W, setErr g nn = 0 → Sl W v (bls (lensL g.rules nn.toNat g.start)) → Below w.heap.size w W → SetPost g nn w (.returned (.tuple #[v, .int .i64 0])) W) := by
    intro v W h1 h2 hb
    refine ⟨v, by rw [h1], ?_, hb⟩
    unfold setOf; rw [if_pos h1]; exact h2
  obtain ⟨gt, HGT⟩ := nameIt g.terms
  obtain ⟨gn, HGN⟩ := nameIt g.nons
  obtain ⟨gs, HGS⟩ := nameIt g.start
  obtain ⟨K, HK⟩ := nameIt g.rules
  obtain ⟨ck, HC⟩ := nameIt (checkG g)
  rw [HGT.out, HGN.out, HGS.out, HK.out] at X1 HW0 HCK
  rw [HC.out] at HCK HCZ HSE
  rw [HK.out] at HRD hc1
  rw [HGS.out, HK.out] at HGOOD
  rw [HGT.out, HGN.out, HGS.out, HK.out] at HCZ
  rw [HGT.out, HGN.out, HGS.out, HK.out]
  obtain ⟨x0, x1, x2, x3⟩ := bx_cells4 X1.out
  clear hr
  go_enter Try.func41, Try.ntmps41
  go_upto_region 1 with fail
  rw [HW0.out]
  go_wp2_with fail
  refine HCK.out.mono ?_
  rintro e w1 ⟨rfl, hb1⟩
  have HB1 : Hid (Below w.heap.size w w1) := HB0.out.trans (hb1.mono HB0.out.size)
  have X2 := Lib.hid (bx_keep X1.out hb1)
  clear hb1 x0 x1 x2 x3
  by_cases hz : ck = 0
  · have hzb : (ck != 0) = false := by simpa using hz
    obtain ⟨⟨hg1, hg2, hg3, hg4, hg5, hg6⟩, hg7, hg8⟩ := HCZ.out hz
    have HRU := Lib.hid hg8
    have hse := HSE.out
    rw [if_neg (by simp [hz])] at hse
    have HS2 := Lib.hid hse
    clear hz hg8 hse
    by_cases hbad : nn < 0 ∨ 200 < nn
    · have HE : Hid (setErr g nn = 1) := by show _ = _; rw [HS2.out, if_pos hbad]
      by_cases hn0 : nn < 0
      · have hn0' : decide (nn < 0) = true := by simpa using hn0
        clear hbad hn0
        go_wp2_with fail
        exact bodyPost_ret (results_tmp2 Try.results41 _ _ _) rfl (HBAD.out 1 _ HE.out (by decide) HB1.out)
      · have hn0' : decide (nn < 0) = false := by simpa using hn0
        have hn1' : decide (200 < nn) = true := by simp; omega
        clear hbad hn0
        go_wp2_with fail
        exact bodyPost_ret (results_tmp2 Try.results41 _ _ _) rfl (HBAD.out 1 _ HE.out (by decide) HB1.out)
    · have HE : Hid (setErr g nn = 0) := by show _ = _; rw [HS2.out, if_neg hbad]
      have hn0' : decide (nn < 0) = false := by simp; omega
      have hn1' : decide (200 < nn) = false := by simp; omega
      obtain ⟨n, hnn⟩ : ∃ n : Nat, nn = (n : Int) := ⟨nn.toNat, by omega⟩
      have hn200 : n ≤ 200 := by omega
      obtain ⟨N, hN⟩ : ∃ N : Nat, gn = (N : Int) := ⟨gn.toNat, by omega⟩
      obtain ⟨st, hst⟩ : ∃ s : Nat, gs = (s : Int) := ⟨gs.toNat, by omega⟩
      subst hN hst hnn
      have hN1 : 1 ≤ N := by omega
      have hN10 : N ≤ 10 := by omega
      have hst1 : st < N := by omega
      have hmk1 : ∀ W : World, (Instr.makeSlice 186 (.int .i64 (N : Int)) (.int .i64 (N : Int))).run Try.prog W = .ok (.slice (some ⟨W.heap.size, 0, none⟩) N N) (W.alloc (.cells (madeCells #[.slice none 0 0] N) 78)) := fun W => by
        have := run_make_row' (P := Try.prog) 186 78 (.slice none 0 0) 24 Try.underlying186 (by kernel_rfl) rfl .i64 .i64 N (by omega) (by omega) W
        simpa using this
      have hmk2 : ∀ W : World, (Instr.makeSlice 78 (.int .i64 ((n : Int) + 1)) (.int .i64 ((n : Int) + 1))).run Try.prog W = .ok (.slice (some ⟨W.heap.size, 0, none⟩) (n + 1) (n + 1)) (W.alloc (.cells (madeCells #[.bool false] (n + 1)) 4)) := fun W => by
        have := run_make_row' (P := Try.prog) 78 4 (.bool false) 1 Try.underlying78 (by kernel_rfl) rfl .i64 .i64 (n + 1) (by omega) (by omega) W
        simpa using this
      obtain ⟨G, HG⟩ : ∃ G : Array Value, Hid (G = #[.int .i64 gt, .int .i64 N, .int .i64 st, .slice ar K.length cr]) := ⟨_, rfl⟩
      have hs1 : w.heap.size < w1.heap.size := (Array.getElem?_eq_some_iff.1 X2.out).1
      obtain ⟨bt, HBT⟩ := nameIt w1.heap.size
      have HI0 : Hid (∃ rb, LI w bt N (n + 1) G rb 0 (fun _ _ => false) (w1.alloc (.cells (madeCells #[.slice none 0 0] N) 78))) := by
        refine ⟨fun _ => 0, Grd.start _ _ _ HBT.out.symm (by omega), HB1.out.alloc (by omega) _, ?_⟩
        rw [HG.out]
        exact bx_keep X2.out ((Below.refl _ _).alloc (Nat.le_refl _) _)
      obtain ⟨x0, x1, x2, x3⟩ := bx_cells4 X2.out
      clear hbad
      go_wp2_with fail
      rw [HBT.out]
      clear x0 x1 x2 x3 hmk1 hn0' hn1'
      go_loopg [37] N (fun gg v37 wr => ∃ k : Nat, k ≤ N ∧ N - k ≤ gg ∧ v37 = .int .i64 k ∧ Hid (∃ rb, LI w bt N (n + 1) G rb k (fun _ _ => false) wr))
      case atStart => exact ⟨0, by omega, by omega, rfl, HI0⟩
      case round =>
        clear HI0
        obtain ⟨k, hk, hg, rfl, HI⟩ := hrel
        by_cases hkN : k < N
        · have hkN' : (k : Int) < (N : Int) := by omega
          obtain ⟨rb, hd⟩ := HI.out
          have hbt := hd.tab.lt
          have hbB := hd.tab.bB
          have hsz := hd.bel.size
          obtain ⟨⟨vc, hc8⟩, hf8⟩ := hd.tab.hcell hkN
          have HT1 : Hid (∃ rb, LI w bt N (n + 1) G rb (k + 1) (fun _ _ => false) ((wr.alloc (.cells (madeCells #[.bool false] (n + 1)) 4)).setCell ⟨bt, k, none⟩ (.slice (some ⟨wr.heap.size, 0, none⟩) (n + 1) (n + 1)))) := by
            refine ⟨_, hd.tab.add hkN (by omega), (hd.bel.alloc (by omega) _).setCell (by show w.heap.size ≤ bt; omega) _, ?_⟩
            exact bx_other (bx_keep hd.box ((Below.refl _ _).alloc (Nat.le_refl _) _)) (by show w.heap.size ≠ bt; omega) _ _
          have hne8 : ¬ bt = wr.heap.size := by omega
          have hne9 : ¬ wr.heap.size = bt := by omega
          obtain ⟨w2, HW2⟩ := nameIt ((wr.alloc (.cells (madeCells #[.bool false] (n + 1)) 4)).setCell ⟨bt, k, none⟩ (.slice (some ⟨wr.heap.size, 0, none⟩) (n + 1) (n + 1)))
          have hcomm : (wr.setCell ⟨bt, k, none⟩ (.slice (some ⟨wr.heap.size, 0, none⟩) (n + 1) (n + 1))).alloc (.cells (madeCells #[.bool false] (n + 1)) 4) = w2 := by
            rw [← HW2.out]
            simp [go_sem, hbt]
          have HCM := Lib.hid hcomm
          rw [HW2.out] at HT1
          clear hcomm hd
          go_upto_region 11 with fail
          rw [HCM.out]
          clear hc8 hf8 hne8 hne9
          go_wp2_with fail
          go_roundg (N - (k + 1))
          case measure => omega
          case rel => exact ⟨k + 1, by omega, by omega, by go_num, HT1⟩
        · have hkN' : ¬ (k : Int) < (N : Int) := by omega
          obtain ⟨rb, hd⟩ := HI.out
          have hkk : k = N := by omega
          rw [hkk] at hd
          have HD0 := Lib.hid hd
          have HSD : Hid (Sound K (fun _ _ => false)) := fun a k h => by cases h
          have HP0 : Hid (∀ i, i < K.length → ∀ s ∈ rt K i, s.term = false → 0 ≤ s.n) := by
            intro i hi s hs ht
            rw [rt_eq hi] at hs
            have h := (HRU.out K[i] (List.getElem_mem hi)).2.2.2 s hs
            unfold hasS at h
            simp at h; exact h.1
          have HP1 : Hid (∀ i, i < K.length → 0 ≤ lft K i) := by
            intro i hi
            rw [lft_eq hi]
            exact (HRU.out K[i] (List.getElem_mem hi)).1
          clear hd hkk HI
          go_wp2_with fail
          go_loopg [9] (N * (n + 1) + 1) (fun gg v9 wr => ∃ (c : Nat) (ag : Bool) (H : Nat → Nat → Bool), c ≤ gg ∧ v9 = .bool ag ∧ Hid (if ag then N * (n + 1) - trues N (n + 1) H + 1 ≤ c else ∀ i, i < K.length → Closed K n H i) ∧ Hid (Sound K H) ∧ Hid (LI w bt N (n + 1) G rb N H wr))
          case atStart => exact ⟨N * (n + 1) + 1, true, fun _ _ => false, Nat.le_refl _, rfl, Lib.hid (by simp), HSD, HD0⟩
          case round =>
            clear HD0 HSD
            obtain ⟨c, ag, H, hcg, rfl, HAG, HSO, HLI⟩ := hrel
            cases ag with
            | false =>
              have hcl : ∀ i, i < K.length → Closed K n H i := by simpa using HAG.out
              have HLL : Hid ((List.range (n + 1)).map (H st) = lensL K n (st : Int)) := by
                show _ = _
                unfold lensL
                refine List.map_congr_left fun k hk => ?_
                have h1 := set_right HSO.out hcl HP1.out (a := st) (k := k) (by simp at hk; omega)
                cases hH : H st k with
                | true => simp [h1.1 hH]
                | false =>
                  have : ¬ Has K (st : Int) k := fun h => by rw [h1.2 h] at hH; cases hH
                  simp [this]
              have hbx := HLI.out.box
              rw [HG.out] at hbx
              obtain ⟨x0, x1, x2, x3⟩ := bx_cells4 hbx
              have h0 := HLI.out.tab.hdr hst1 hst1
              have hst0 : (0 : Int) ≤ (st : Int) := by omega
              have hst2 : (st : Int) < (N : Int) := by omega
              have HSL : Hid (Sl wr (.slice (some ⟨rb st, 0, none⟩) (n + 1) (n + 1)) (bls (lensL K n (st : Int)))) := by
                rw [← HLL.out]
                exact sl_brow (HLI.out.tab.row st hst1 hst1) (by unfold maxLen; omega)
              obtain ⟨rs, HRS⟩ := nameIt (rb st)
              rw [HRS.out] at h0 HSL
              clear hbx hcl
              go_wp2_with fail
              refine bodyPost_ret (results_tmp2 Try.results41 _ _ _) rfl ?_
              exact HGOOD.out _ _ HE.out (by simpa using HSL.out) HLI.out.bel
            | true =>
              have HGG : Hid (N * (n + 1) - trues N (n + 1) H + 1 ≤ c) := Lib.hid (by simpa using HAG.out)
              have hbx := HLI.out.box
              rw [HG.out] at hbx
              obtain ⟨x0, x1, x2, x3⟩ := bx_cells4 hbx
              have HPI0 : Hid (PI K n N H false H 0) := ⟨HSO.out, ⟨Nat.le_refl _, fun h => by cases h⟩, fun _ i hi => by omega⟩
              obtain ⟨H0, HH0⟩ : ∃ H0 : Nat → Nat → Bool, Hid (H0 = H) := ⟨_, rfl⟩
              have HPI1 := HPI0
              rw [show PI K n N H false H 0 = PI K n N H0 false H 0 by rw [HH0.out]] at HPI1
              rw [← HH0.out] at HGG
              clear hbx
              go_wp2_with fail
              clear x0 x1 x2 x3
              go_loopg [9, 51] K.length (fun gg v9 v51 wr => ∃ (j : Nat) (ag : Bool) (H : Nat → Nat → Bool), j ≤ K.length ∧ K.length - j ≤ gg ∧ v51 = .int .i64 j ∧ v9 = .bool ag ∧ Hid (PI K n N H0 ag H j) ∧ Hid (LI w bt N (n + 1) G rb N H wr))
              case atStart => exact ⟨0, false, H, by omega, by omega, rfl, rfl, HPI1, HLI⟩
              case round =>
                clear HPI0 HPI1 HLI HSO HAG HH0 H
                obtain ⟨wj, rfl⟩ : ∃ wj : World, wj = wr := ⟨_, rfl⟩
                obtain ⟨j, ag, H, hj, hgj, rfl, rfl, HPI, HLI⟩ := hrel
                by_cases hjK : j < K.length
                · have hjK' : (j : Int) < (K.length : Int) := by omega
                  obtain ⟨b, off, vr, hae, -, hbl0, d0, d1, hkr⟩ := HRD.out.rule_at hjK
                  have c0 := (HLI.out.bel.cell (p := ⟨b, off + j * 2, none⟩) (lt_of_cell d0)).trans d0
                  have c1 := (HLI.out.bel.cell (p := ⟨b, off + j * 2 + 1, none⟩) (lt_of_cell d1)).trans d1
                  clear d0 d1
                  obtain ⟨av, cv, rfl, -, hcv⟩ := hkr.form
                  rw [List.length_map] at c1 hkr
                  obtain ⟨hl0, hl1, hl2, hl3⟩ := HRU.out K[j] (List.getElem_mem hjK)
                  have HRT := Lib.hid (rt_eq hjK)
                  have HLT := Lib.hid (lft_eq hjK)
                  obtain ⟨r, HRn⟩ := nameIt (K[j]'hjK)
                  rw [HRn.out] at c0 c1 hkr hl0 hl1 hl2 hl3 HRT HLT
                  obtain ⟨lf0, HLF⟩ := nameIt r.left
                  obtain ⟨R, HRR⟩ := nameIt r.right
                  rw [HLF.out] at c0 hl0 hl1 HLT
                  rw [HRR.out] at c1 hkr hl2 hl3 HRT
                  have HL3 := Lib.hid hl3
                  obtain ⟨lf, hlf⟩ : ∃ n : Nat, lf0 = (n : Int) := ⟨lf0.toNat, by omega⟩
                  subst hlf
                  have hlfN : lf < N := by omega
                  obtain ⟨w4, HW4⟩ := nameIt (wj.alloc (.cells #[.int .i64 lf, .slice av R.length cv] 189))
                  have hb4 : Below wj.heap.size wj w4 := by rw [← HW4.out]; exact (Below.refl _ _).alloc (Nat.le_refl _) _
                  have X4 : Hid (w4.heap[wj.heap.size]? = some (.cells #[.int .i64 lf, .slice av R.length cv] 189 (0, 0))) := by rw [← HW4.out]; exact bx_new _ _ _ rfl
                  have hs4 : w4.heap.size = wj.heap.size + 1 := by rw [← HW4.out]; simp
                  have HKR := Lib.hid hkr
                  have HLI4 := Lib.hid (HLI.out.keep hb4)
                  have HRBL : Hid (∀ k, k < N → rb k < wj.heap.size) := fun k hk => HLI.out.tab.rlt hk hk
                  have HBTL : Hid (bt < wj.heap.size) := HLI.out.tab.lt
                  have hbl : b < wj.heap.size := Nat.lt_of_lt_of_le hbl0 HLI.out.bel.size
                  have hwl : w.heap.size < wj.heap.size := (Array.getElem?_eq_some_iff.1 HLI.out.box).1
                  subst hae
                  clear hkr hl3
                  go_upto_region 18 with fail
                  rw [HW4.out]
                  obtain ⟨ga0, HGA⟩ := nameIt w4.heap.size
                  have hga : ga0 = wj.heap.size + 1 := by rw [← HGA.out]; exact hs4
                  have HGA2 := Lib.hid hga
                  have hbr0 := brow_new w4 (n + 1) HGA.out.symm
                  obtain ⟨w5, HW5⟩ := nameIt (w4.alloc (.cells (madeCells #[.bool false] (n + 1)) 4))
                  rw [HW5.out] at hbr0
                  have hb5 : Below w4.heap.size w4 w5 := by rw [← HW5.out]; exact (Below.refl _ _).alloc (Nat.le_refl _) _
                  have HLI5 := Lib.hid (HLI4.out.keep hb5)
                  have X5 := Lib.hid (bx_keep X4.out hb5)
                  have e0 := hbr0.cell (k := 0) (by omega)
                  have f0 := hbr0.free 0
                  have hn1 : (0 : Int) < (n : Int) + 1 := by omega
                  have HBR : Hid (Brow ga0 (n + 1) (atR H n (R.take 0)) (w5.setCell ⟨ga0, 0, none⟩ (.bool true))) := hbr0.set (by omega) (fun k _ => by by_cases e : k = 0 <;> simp [atR, e])
                  have HLI6 : Hid (LI w bt N (n + 1) G rb N H (w5.setCell ⟨ga0, 0, none⟩ (.bool true))) := HLI5.out.beside (by omega) (by have := HBTL.out; omega) (fun i hi => by have := HRBL.out i hi; omega) _ _
                  have X6 : Hid ((w5.setCell ⟨ga0, 0, none⟩ (.bool true)).heap[wj.heap.size]? = some (.cells #[.int .i64 lf, .slice av R.length cv] 189 (0, 0))) := bx_other X5.out (by omega) _ _
                  obtain ⟨w6, HW6⟩ := nameIt (w5.setCell ⟨ga0, 0, none⟩ (.bool true))
                  rw [HW6.out] at HBR HLI6 X6
                  obtain ⟨y0, y1⟩ := bx_cells2 X6.out
                  clear hbr0 hb5 hb4 hga hs4
                  go_upto_region 19 with fail
                  rw [HW5.out, HGA.out]
                  go_upto_region 20 with fail
                  rw [HW6.out]
                  go_wp2_with fail
                  clear y0 y1 e0 f0 c0 c1
                  go_loopg [12, 63] R.length (fun gg v12 v63 wr => ∃ (q ga : Nat), q ≤ R.length ∧ R.length - q ≤ gg ∧ v63 = .int .i64 q ∧ v12 = .slice (some ⟨ga, 0, none⟩) (n + 1) (n + 1) ∧ Hid (wj.heap.size < ga) ∧ Hid (Brow ga (n + 1) (atR H n (R.take q)) wr) ∧ Hid (LI w bt N (n + 1) G rb N H wr) ∧ Hid (wr.heap[wj.heap.size]? = some (.cells #[.int .i64 lf, .slice av R.length cv] 189 (0, 0))))
                  case atStart => exact ⟨0, ga0, by omega, by omega, rfl, rfl, Lib.hid (by have := HGA2.out; omega), HBR, HLI6, X6⟩
                  case round =>
                    clear HBR HLI6 X6 HLI5 X5 HLI4 X4
                    obtain ⟨wq, rfl⟩ : ∃ wq : World, wq = wr := ⟨_, rfl⟩
                    obtain ⟨q, ga, hq, hgq, rfl, rfl, HGL, HBR, HLQ, XQ⟩ := hrel
                    by_cases hqR : q < R.length
                    · have hqR' : (q : Int) < (R.length : Int) := by omega
                      obtain ⟨b', off', hae', -, hbl', d0, d1⟩ := HKR.out.sym_at hqR
                      have e0 := (HLQ.out.bel.cell (p := ⟨b', off' + q * 2, none⟩) (lt_of_cell d0)).trans d0
                      have e1 := (HLQ.out.bel.cell (p := ⟨b', off' + q * 2 + 1, none⟩) (lt_of_cell d1)).trans d1
                      have HTK : Hid (R.take (q + 1) = R.take q ++ [R[q]'hqR]) := List.take_succ_eq_append_getElem hqR
                      have hsb := HL3.out R[q] (List.getElem_mem hqR)
                      obtain ⟨s, HSn⟩ := nameIt (R[q]'hqR)
                      rw [HSn.out] at e0 e1 HTK hsb
                      unfold hasS at hsb
                      rw [HGN.out, HGT.out] at hsb
                      obtain ⟨A, HA⟩ := nameIt (atR H n (R.take q))
                      have HNX : Hid (atR H n (R.take (q + 1)) = nxt H n s A) := by show _ = _; rw [HTK.out, atR_snoc, HA.out]
                      rw [HA.out] at HBR
                      obtain ⟨stb, HST⟩ := nameIt s.term
                      obtain ⟨sn, HSN⟩ := nameIt s.n
                      rw [HST.out] at e0 hsb
                      rw [HSN.out] at e1 hsb
                      have HSB : Hid (∀ l, stB H s l = if stb then l == 1 else H sn.toNat l) := fun l => by unfold stB; rw [HST.out, HSN.out]
                      obtain ⟨w7, HW7⟩ := nameIt (wq.alloc (.cells #[.bool stb, .int .i64 sn] 88))
                      have hb7 : Below wq.heap.size wq w7 := by rw [← HW7.out]; exact (Below.refl _ _).alloc (Nat.le_refl _) _
                      have X7 : w7.heap[wq.heap.size]? = some (.cells #[.bool stb, .int .i64 sn] 88 (0, 0)) := by rw [← HW7.out]; exact bx_new _ _ _ rfl
                      have hs7 : w7.heap.size = wq.heap.size + 1 := by rw [← HW7.out]; simp
                      obtain ⟨gx, HGX⟩ := nameIt w7.heap.size
                      obtain ⟨w8, HW8⟩ := nameIt (w7.alloc (.cells (madeCells #[.bool false] (n + 1)) 4))
                      have hb8 : Below w7.heap.size w7 w8 := by rw [← HW8.out]; exact (Below.refl _ _).alloc (Nat.le_refl _) _
                      have hbr8 := brow_new w7 (n + 1) HGX.out.symm
                      rw [HW8.out] at hbr8
                      have HRI0 : Hid (RI w bt N n G rb H wj.heap.size #[.int .i64 lf, .slice av R.length cv] wq.heap.size #[.bool stb, .int .i64 sn] ga A gx (midN H n s A 0 0) w8) := by
                        have h1 := HLQ.out.tab.lt
                        have h2 := HBR.out.lt
                        have h3 := (Array.getElem?_eq_some_iff.1 XQ.out).1
                        have h4 := HGX.out
                        refine ⟨(HLQ.out.keep hb7).keep hb8, bx_keep (bx_keep XQ.out hb7) hb8, bx_keep X7 hb8, (HBR.out.keep hb7).keep hb8, hbr8.eq (fun k _ => (midN_start H n s A k).symm), by omega, by omega, fun i hi => by have := HLQ.out.tab.rlt hi hi; omega, by omega, by omega, by omega⟩
                      obtain ⟨sx, HSX⟩ := nameIt wq.heap.size
                      rw [HSX.out] at HRI0
                      have hbl8 : b' < wq.heap.size := Nat.lt_of_lt_of_le hbl' HLQ.out.bel.size
                      subst hae'
                      clear d0 d1 hb7 hb8 X7 hs7 hbr8
                      go_upto_region 23 with fail
                      rw [HW7.out, HSX.out]
                      go_upto_region 24 with fail
                      rw [HW8.out, HGX.out]
                      go_wp2_with fail
                      clear e0 e1
                      go_loopg [72] (n + 1) (fun gg v72 wr => ∃ i : Nat, i ≤ n + 1 ∧ n + 1 - i ≤ gg ∧ v72 = .int .i64 i ∧ Hid (RI w bt N n G rb H wj.heap.size #[.int .i64 lf, .slice (some ⟨b', off', none⟩) R.length cv] sx #[.bool stb, .int .i64 sn] ga A gx (midN H n s A i 0) wr))
                      case atStart => exact ⟨0, by omega, by omega, rfl, HRI0⟩
                      case round =>
                        clear HRI0
                        obtain ⟨i, hi, hgi, rfl, HRI⟩ := hrel
                        by_cases hin : i < n + 1
                        · have hin' : (i : Int) < (n : Int) + 1 := by omega
                          have hi0 : (0 : Int) ≤ (i : Int) := by omega
                          have a0 := HRI.out.arow.cell hin
                          obtain ⟨ab, HAB⟩ := nameIt (A i)
                          rw [HAB.out] at a0
                          have HRJ := HRI
                          go_wp2_with fail
                          clear a0
                          go_loopg [18] (n + 1) (fun gg v18 wr => ∃ l : Nat, i + l ≤ n + 1 ∧ n + 1 - l ≤ gg ∧ v18 = .int .i64 l ∧ Hid (RI w bt N n G rb H wj.heap.size #[.int .i64 lf, .slice (some ⟨b', off', none⟩) R.length cv] sx #[.bool stb, .int .i64 sn] ga A gx (midN H n s A i l) wr))
                          case atStart => exact ⟨0, by omega, by omega, rfl, HRJ⟩
                          case round =>
                            clear HRJ HRI
                            obtain ⟨l, hl, hgl, rfl, HRI⟩ := hrel
                            have hil : IntKind.i64.wrap ((i : Int) + (l : Int)) = (i : Int) + (l : Int) := IntWalk.i64_in _ (by omega)
                            cases ab with
                            | false =>
                              have HRN : Hid (RI w bt N n G rb H wj.heap.size #[.int .i64 lf, .slice (some ⟨b', off', none⟩) R.length cv] sx #[.bool stb, .int .i64 sn] ga A gx (midN H n s A (i + 1) 0) wr) := HRI.out.eq (fun k _ => midN_row (.inl HAB.out) k)
                              go_wp2_with fail
                              go_roundg (n + 1 - (i + 1))
                              case measure => omega
                              case rel => exact ⟨i + 1, by omega, by omega, by go_num, HRN⟩
                            | true =>
                              by_cases hle : i + l ≤ n
                              · have hle' : (i : Int) + (l : Int) ≤ (n : Int) := by omega
                                have hle2 : decide ((i : Int) + (l : Int) ≤ (n : Int)) = true := by simpa using hle'
                                obtain ⟨z0, z1⟩ := bx_cells2 HRI.out.sbox
                                obtain ⟨sv, HSV⟩ := nameIt (stB H s l)
                                have hsv : (if stb then l == 1 else H sn.toNat l) = sv := by rw [← HSV.out, HSB.out l]
                                go_upto_region 30 with fail
                                go_cut [107] (fun tt wx => tt = .bool sv ∧ wx = wr)
                                case first =>
                                  cases stb with
                                  | true =>
                                    have hl1 : ((l : Int) == 1) = sv := by rw [← hsv]; simp; rw [Bool.eq_iff_iff]; simp; omega
                                    cases sv
                                    · go_wp2_with fail
                                      go_meet
                                      exact ⟨rfl, rfl⟩
                                    · go_wp2_with fail
                                      go_meet
                                      exact ⟨rfl, rfl⟩
                                  | false =>
                                    simp at hsb
                                    obtain ⟨sm, hsm⟩ : ∃ k : Nat, sn = (k : Int) := ⟨sn.toNat, by omega⟩
                                    subst hsm
                                    have hsN : sm < N := by omega
                                    have hsN' : (sm : Int) < (N : Int) := by omega
                                    have hs0 : (0 : Int) ≤ (sm : Int) := by omega
                                    have hl0' : (0 : Int) ≤ (l : Int) := by omega
                                    have hl1' : (l : Int) < (n : Int) + 1 := by omega
                                    have t0 := HRI.out.li.tab.hdr hsN hsN
                                    have t1 := HRI.out.li.tab.cell hsN hsN (show l < n + 1 by omega)
                                    have hsv2 : H sm l = sv := by rw [← hsv]; simp
                                    rw [hsv2] at t1
                                    obtain ⟨rs, HRS⟩ := nameIt (rb sm)
                                    rw [HRS.out] at t0 t1
                                    clear hsb hsv hsv2
                                    go_wp2_with fail
                                    go_meet
                                    exact ⟨rfl, rfl⟩
                                case rest =>
                                  obtain ⟨rfl, rfl⟩ := hcut
                                  obtain ⟨wr, rfl⟩ : ∃ ww : World, ww = wc := ⟨_, rfl⟩
                                  clear z0 z1 hsv
                                  cases sv with
                                  | false =>
                                    have HRN : Hid (RI w bt N n G rb H wj.heap.size #[.int .i64 lf, .slice (some ⟨b', off', none⟩) R.length cv] sx #[.bool stb, .int .i64 sn] ga A gx (midN H n s A i (l + 1)) wr) := HRI.out.eq (fun k _ => by rw [midN_step HAB.out hle, HSV.out]; simp)
                                    go_wp2_with fail
                                    go_roundg (n + 1 - (l + 1))
                                    case measure => omega
                                    case rel => exact ⟨l + 1, by omega, by omega, by go_num, HRN⟩
                                  | true =>
                                    have hil0 : (0 : Int) ≤ (i : Int) + (l : Int) := by omega
                                    have hil1 : (i : Int) + (l : Int) < (n : Int) + 1 := by omega
                                    have u0 := HRI.out.nrow.cell (show i + l < n + 1 by omega)
                                    have u1 := HRI.out.nrow.free (i + l)
                                    have hto : ((i : Int) + (l : Int)).toNat = i + l := by omega
                                    have HRN : Hid (RI w bt N n G rb H wj.heap.size #[.int .i64 lf, .slice (some ⟨b', off', none⟩) R.length cv] sx #[.bool stb, .int .i64 sn] ga A gx (midN H n s A i (l + 1)) (wr.setCell ⟨gx, i + l, none⟩ (.bool true))) := HRI.out.set (by omega) (fun k _ => by rw [midN_step HAB.out hle, HSV.out]; simp)
                                    obtain ⟨mv, HMV⟩ := nameIt (midN H n s A i l (i + l))
                                    rw [HMV.out] at u0
                                    go_wp2_with fail
                                    go_roundg (n + 1 - (l + 1))
                                    case measure => omega
                                    case rel => exact ⟨l + 1, by omega, by omega, by go_num, HRN⟩
                              · have hle2 : decide ((i : Int) + (l : Int) ≤ (n : Int)) = false := by simp; omega
                                have HRN : Hid (RI w bt N n G rb H wj.heap.size #[.int .i64 lf, .slice (some ⟨b', off', none⟩) R.length cv] sx #[.bool stb, .int .i64 sn] ga A gx (midN H n s A (i + 1) 0) wr) := HRI.out.eq (fun k _ => midN_row (.inr (by omega)) k)
                                go_wp2_with fail
                                go_roundg (n + 1 - (i + 1))
                                case measure => omega
                                case rel => exact ⟨i + 1, by omega, by omega, by go_num, HRN⟩
                        · have hin' : ¬ (i : Int) < (n : Int) + 1 := by omega
                          have HBN : Hid (Brow gx (n + 1) (atR H n (R.take (q + 1))) wr) := HRI.out.nrow.eq (fun k _ => by rw [HNX.out, midN_end (by omega)])
                          have HGN2 : Hid (wj.heap.size < gx) := by
                            have h2 := HBR.out.lt
                            have h3 := (Array.getElem?_eq_some_iff.1 XQ.out).1
                            show _ < _
                            have h4 := HGX.out
                            have h5 : w7.heap.size = wq.heap.size + 1 := by rw [← HW7.out]; simp
                            omega
                          have HLN := Lib.hid HRI.out.li
                          have HXN := Lib.hid HRI.out.rbox
                          go_wp2_with fail
                          go_roundg (R.length - (q + 1))
                          case measure => omega
                          case rel => exact ⟨q + 1, gx, by omega, by omega, by go_num, rfl, HGN2, HBN, HLN, HXN⟩
                    · have hqR' : ¬ (q : Int) < (R.length : Int) := by omega
                      have hqe : R.take q = R := List.take_of_length_le (by omega)
                      have hbr := HBR.out
                      rw [hqe] at hbr
                      obtain ⟨A, HA⟩ := nameIt (atR H n R)
                      rw [HA.out] at hbr
                      have HBA := Lib.hid hbr
                      have HHAS : Hid (∀ k, A k = true → Has K (lf : Int) k) := by
                        intro k hk
                        rw [← HA.out] at hk
                        have h := at_sound (n := n) HPI.out.sound HP0.out hjK (rt K j).length k (Nat.le_refl _)
                        rw [List.take_length, HRT.out] at h
                        exact ⟨j, by rw [HRT.out]; exact h hk, HLT.out⟩
                      have HP70 : Hid (P7 K n N H0 H A lf j ag H 0) := ⟨HPI.out, fun _ => ⟨rfl, fun k hk => by omega⟩⟩
                      have hgaL := HGL.out
                      clear hqe hbr
                      go_wp2_with fail
                      go_loopg [9, 118] (n + 1) (fun gg v9 v118 wr => ∃ (i : Nat) (ag : Bool) (H' : Nat → Nat → Bool), i ≤ n + 1 ∧ n + 1 - i ≤ gg ∧ v118 = .int .i64 i ∧ v9 = .bool ag ∧ Hid (P7 K n N H0 H A lf j ag H' i) ∧ Hid (Brow ga (n + 1) A wr) ∧ Hid (LI w bt N (n + 1) G rb N H' wr) ∧ Hid (wr.heap[wj.heap.size]? = some (.cells #[.int .i64 lf, .slice av R.length cv] 189 (0, 0))))
                      case atStart => exact ⟨0, ag, H, by omega, by omega, rfl, rfl, HP70, HBA, HLQ, XQ⟩
                      case round =>
                        clear HP70 HBA HLQ XQ HBR
                        obtain ⟨i, ag', H', hi, hgi, rfl, rfl, HP7, HBA, HLR, XR⟩ := hrel
                        by_cases hin : i < n + 1
                        · have hin' : (i : Int) < (n : Int) + 1 := by omega
                          have hi0 : (0 : Int) ≤ (i : Int) := by omega
                          have hlfN' : (lf : Int) < (N : Int) := by omega
                          have hlf0 : (0 : Int) ≤ (lf : Int) := by omega
                          have a0 := HBA.out.cell hin
                          obtain ⟨y0, y1⟩ := bx_cells2 XR.out
                          have t0 := HLR.out.tab.hdr hlfN hlfN
                          have t1 := HLR.out.tab.cell hlfN hlfN hin
                          have t2 := HLR.out.tab.free hlfN hlfN i
                          obtain ⟨ab, HAB⟩ := nameIt (A i)
                          obtain ⟨hb', HHB⟩ := nameIt (H' lf i)
                          have HRBN : Hid (rb lf ≠ ga ∧ rb lf ≠ wj.heap.size) := by have := HRBL.out lf hlfN; exact ⟨by omega, by omega⟩
                          have HSET : Hid (ab = true → hb' = false → LI w bt N (n + 1) G rb N (fun a b => if a = lf ∧ b = i then true else H' a b) (wr.setCell ⟨rb lf, i, none⟩ (.bool true)) ∧ P7 K n N H0 H A lf j true (fun a b => if a = lf ∧ b = i then true else H' a b) (i + 1)) := by
                            intro h1 h2
                            refine ⟨HLR.out.set hlfN hin (fun a b _ _ => rfl), ⟨⟨fun a k h => ?_, ?_, fun h => by cases h⟩, fun h => by cases h⟩⟩
                            · by_cases e : a = lf ∧ k = i
                              · obtain ⟨rfl, rfl⟩ := e
                                exact HHAS.out _ (by rw [HAB.out]; exact h1)
                              · rw [if_neg e] at h
                                exact HP7.out.pi.sound a k h
                            · have h3 := trues_more (N := N) (m := n + 1) (H := H') (H' := fun a b => if a = lf ∧ b = i then true else H' a b) hlfN hin (by rw [HHB.out]; exact h2) (fun a b => rfl)
                              have h4 := HP7.out.pi.more.1
                              exact ⟨by omega, fun _ => by omega⟩
                          have HKEEP : Hid ((ab = true → hb' = true) → P7 K n N H0 H A lf j ag' H' (i + 1)) := by
                            intro h
                            refine ⟨HP7.out.pi, fun hf => ?_⟩
                            obtain ⟨h1, h2⟩ := HP7.out.cur hf
                            refine ⟨h1, fun k hk hA => ?_⟩
                            by_cases e : k = i
                            · subst e
                              rw [← h1, HHB.out]
                              exact h (by rw [← HAB.out]; exact hA)
                            · exact h2 k (by omega) hA
                          rw [HAB.out] at a0
                          rw [HHB.out] at t1
                          obtain ⟨rl, HRL⟩ := nameIt (rb lf)
                          rw [HRL.out] at t0 t1 t2 HSET HRBN
                          cases ab with
                          | false =>
                            have HPN := Lib.hid (HKEEP.out (fun h => by cases h))
                            go_wp2_with fail
                            go_roundg (n + 1 - (i + 1))
                            case measure => omega
                            case rel => exact ⟨i + 1, ag', H', by omega, by omega, by go_num, rfl, HPN, HBA, HLR, XR⟩
                          | true =>
                            cases hb' with
                            | true =>
                              have HPN := Lib.hid (HKEEP.out (fun _ => rfl))
                              go_wp2_with fail
                              go_roundg (n + 1 - (i + 1))
                              case measure => omega
                              case rel => exact ⟨i + 1, ag', H', by omega, by omega, by go_num, rfl, HPN, HBA, HLR, XR⟩
                            | false =>
                              have HPN := Lib.hid (HSET.out rfl rfl)
                              have HBN : Hid (Brow ga (n + 1) A (wr.setCell ⟨rl, i, none⟩ (.bool true))) := HBA.out.other (fun e => HRBN.out.1 e.symm) _ _
                              have XN : Hid ((wr.setCell ⟨rl, i, none⟩ (.bool true)).heap[wj.heap.size]? = some (.cells #[.int .i64 lf, .slice av R.length cv] 189 (0, 0))) := bx_other XR.out (fun e => HRBN.out.2 e.symm) _ _
                              go_wp2_with fail
                              go_roundg (n + 1 - (i + 1))
                              case measure => omega
                              case rel => exact ⟨i + 1, true, _, by omega, by omega, by go_num, rfl, HPN.out.2, HBN, HPN.out.1, XN⟩
                        · have hin' : ¬ (i : Int) < (n : Int) + 1 := by omega
                          have HPN : Hid (PI K n N H0 ag' H' (j + 1)) := by
                            refine ⟨HP7.out.pi.sound, HP7.out.pi.more, fun hf k hk => ?_⟩
                            by_cases e : k = j
                            · subst e
                              obtain ⟨h1, h2⟩ := HP7.out.cur hf
                              intro m hm hat
                              rw [h1, HRT.out, HA.out] at hat
                              rw [h1, HLT.out]
                              simpa using h2 m (by omega) hat
                            · exact HP7.out.pi.closed hf k (by omega)
                          go_wp2_with fail
                          go_roundg (K.length - (j + 1))
                          case measure => omega
                          case rel => exact ⟨j + 1, ag', H', by omega, by omega, by go_num, rfl, HPN, HLR⟩
                · have hjK' : ¬ (j : Int) < (K.length : Int) := by omega
                  have HMO := Lib.hid HPI.out.more
                  have HTL := Lib.hid (trues_le N (n + 1) H)
                  have HSO := Lib.hid HPI.out.sound
                  cases ag with
                  | true =>
                    have hm := HMO.out.2 rfl
                    have hg1' := HGG.out
                    have ht1 := HTL.out
                    have HAG : Hid (if true then N * (n + 1) - trues N (n + 1) H + 1 ≤ N * (n + 1) - trues N (n + 1) H + 1 else ∀ i, i < K.length → Closed K n H i) := Lib.hid (by simp)
                    go_wp2_with fail
                    go_roundg (N * (n + 1) - trues N (n + 1) H + 1)
                    case measure => omega
                    case rel => exact ⟨N * (n + 1) - trues N (n + 1) H + 1, true, H, Nat.le_refl _, rfl, HAG, HSO, HLI⟩
                  | false =>
                    have hg1' := HGG.out
                    have HAG : Hid (if false then N * (n + 1) - trues N (n + 1) H + 1 ≤ 0 else ∀ i, i < K.length → Closed K n H i) := Lib.hid (by simpa using fun i hi => HPI.out.closed rfl i (by omega))
                    go_wp2_with fail
                    go_roundg 0
                    case measure => omega
                    case rel => exact ⟨0, false, H, Nat.le_refl _, rfl, HAG, HSO, HLI⟩
  · have hzb : (ck != 0) = true := by simpa using hz
    have HE : Hid (setErr g nn = ck) := by show _ = _; rw [HSE.out, if_pos hz]
    have HZ := Lib.hid hz
    clear hz
    go_wp2_with fail
    exact bodyPost_ret (results_tmp2 Try.results41 _ _ _) rfl (HBAD.out ck _ HE.out HZ.out HB1.out)
end Ln
end Go.Proofs.Ytjehmleckcmilaa
