/- teach.plain. -/
import Derived.Test.YtenkhjmedolknaaPlainP
import Derived.Test.YtenkhjmedolknaaRegU
import Derived.Test.YtenkhjmedolknaaDfaRun
namespace Go.Proofs.Ytenkhjmedolknaa
open Go.RowKit
namespace Df

theorem inv_set {md : Region.Mode} {ops : Array Oper} {n i : Nat} {listed : Array Bool} (inv : HeadInv md ops n listed) (hr : (Region.ready md ops listed).contains i = true) (hin : i < n) : HeadInv md ops n (listed.setIfInBounds i true) := inv.set (by simpa using hr) hin
theorem plain_take {x : Dfa} {i : Nat} (h : i < x.acc.length) : (plainD x).acc.take (i + 1) = (plainD x).acc.take i ++ [min x.acc[i] 0] := by
  unfold plainD
  rw [List.take_succ_eq_append_getElem (by rw [List.length_map]; exact h), List.getElem_map]
def PlainPost (x : Dfa) (w : World) (e : Ending) (w' : World) : Prop := ∃ aa an ca cn, e = .returned (.agg #[.int .i64 x.start, .slice aa (plainD x).acc.length ca, .slice an (plainD x).next.length cn]) ∧ DfA (plainD x) aa an ca cn w' ∧ Below w.heap.size w w'
/-- what the rounds keep: three boxes, the rows -/
structure PI (x : Dfa) (s : Nat) (st : Int) (pv : Array Value) (w : World) (i : Nat) (wr : World) : Prop where
  bel : Below s w wr
  b1 : wr.heap[s]? = some (.cells pv 25 (0, 0))
  b2 : wr.heap[s + 1]? = some (.cells #[.int .i64 0, .slice none 0 0, .slice none 0 0] 25 (0, 0))
  b3 : ∃ vR vA, wr.heap[s + 1 + 1]? = some (.cells #[.int .i64 st, vA, vR] 25 (0, 0)) ∧ PS (s + 3) wr [] 0 (x.next.take i) ((plainD x).acc.take i) vR vA none none none wr
theorem PI.after {x : Dfa} {s : Nat} {st : Int} {pv : Array Value} {w wr W : World} {i : Nat} {vR vA vR' vA' : Value} {r : List Int} {m : Int} {LR : List (List Int)} {LA : List Int} (h : PI x s st pv w i wr) (h3 : wr.heap[s + 1 + 1]? = some (.cells #[.int .i64 st, vA, vR] 25 (0, 0)))
    (hp : PS (s + 3) wr r m LR LA vR' vA' none none none W) (hR : x.next.take (i + 1) = LR) (hA : (plainD x).acc.take (i + 1) = LA) : PI x s st pv w (i + 1) ((W.setCell ⟨s + 1 + 1, 2, none⟩ vR').setCell ⟨s + 1 + 1, 1, none⟩ vA') := by
  obtain ⟨h1, h2, h4, -⟩ := h
  have hlt := (Array.getElem?_eq_some_iff.1 h3).1
  have k1 := (hp.bel.block s (by omega)).trans h2
  have k2 := (hp.bel.block (s + 1) (by omega)).trans h4
  have k3 := (hp.bel.block (s + 1 + 1) (by omega)).trans h3
  have g1 : W.grownBy (W.setCell ⟨s + 1 + 1, 2, none⟩ vR') (some (s + 1 + 1)) := grown_cell W ⟨s + 1 + 1, 2, none⟩ vR'
  have g2 : (W.setCell ⟨s + 1 + 1, 2, none⟩ vR').grownBy ((W.setCell ⟨s + 1 + 1, 2, none⟩ vR').setCell ⟨s + 1 + 1, 1, none⟩ vA') (some (s + 1 + 1)) := grown_cell _ ⟨s + 1 + 1, 1, none⟩ vA'
  refine ⟨?_, bx_other (bx_other k1 (by omega) _ _) (by omega) _ _, bx_other (bx_other k2 (by omega) _ _) (by omega) _ _, vR', vA', ?_, ?_⟩
  · exact ((h1.trans (hp.bel.mono (by omega))).setCell (p := ⟨s + 1 + 1, 2, none⟩) (by show s ≤ s + 1 + 1; omega) _).setCell (p := ⟨s + 1 + 1, 1, none⟩) (by show s ≤ s + 1 + 1; omega) _
  · simpa using bx_set (bx_set k3 2 vR') 1 vA'
  · rw [hR, hA]
    exact (hp.store g1 (by omega) [] 0).store g2 (by omega) [] 0

set_option maxHeartbeats 8000000 in
set_option maxRecDepth 100000 in
theorem plainE (x : Dfa) (hx : Right x) (aa an : Option Addr) (ca cn : Nat) (w : World) (hD : DfA x aa an ca cn w) :
    Calls Try.prog 17 #[.agg #[.int .i64 x.start, .slice aa x.acc.length ca, .slice an x.next.length cn]] w (PlainPost x w) := by
  have hn := hx.states
  have hacc := hx.accs
  have hsy := hx.syms
  have HROWS := Lib.hid hx.rows
  have HFIN : Hid (∀ pv wr, PI x w.heap.size x.start pv w x.next.length wr → ∀ va vn, wr.heap[w.heap.size + 1 + 1]? = some (.cells #[.int .i64 x.start, va, vn] 25 (0, 0)) → ∀ W', wr.grownBy W' (some (w.heap.size + 1)) → Below w.heap.size w W' → PlainPost x w (.returned (.agg #[.int .i64 x.start, va, vn])) W') := by
    intro pv wr h va vn hv W' hb hbw
    obtain ⟨h1, h2, h4, vR, vA, h3, hp⟩ := h
    rw [h3] at hv
    cases hv
    have e1 : x.next.take x.next.length = (plainD x).next := List.take_length
    have e2 : (plainD x).acc.take x.next.length = (plainD x).acc := List.take_of_length_le (by show (x.acc.map _).length ≤ _; rw [List.length_map]; omega)
    rw [e1, e2] at hp
    replace hp := hp.store hb (by omega) [] 0
    obtain ⟨⟨xs, o1, o2⟩, o3⟩ := And.intro hp.rows hp.acc
    obtain ⟨ar, cr, rfl, -, -⟩ := own_len o1
    obtain ⟨a', c', rfl, -, -⟩ := own_len o3
    refine ⟨a', ar, c', cr, rfl, ⟨?_, ?_⟩, hbw⟩
    · exact sl_of_own o3
    · exact rd_of_own o1 o2.any (by simp) (fun _ _ => trivial)
  obtain ⟨w0, HW0⟩ := nameIt (((w.alloc (.cells #[.int .i64 x.start, .slice aa x.acc.length ca, .slice an x.next.length cn] 25)).alloc (.cells #[.int .i64 0, .slice none 0 0, .slice none 0 0] 25)).alloc (.cells #[.int .i64 x.start, .slice none 0 0, .slice none 0 0] 25))
  have hb0 : Below w.heap.size w w0 := by rw [← HW0.out]; exact (((Below.refl _ _).alloc (Nat.le_refl _) _).alloc (by simp) _).alloc (by simp; omega) _
  have hsz0 : w0.heap.size = w.heap.size + 3 := by rw [← HW0.out]; simp
  have HI0 : Hid (PI x w.heap.size x.start #[.int .i64 x.start, .slice aa x.acc.length ca, .slice an x.next.length cn] w 0 w0) := by
    refine ⟨hb0, ?_, ?_, .slice none 0 0, .slice none 0 0, ?_, ?_⟩
    · rw [← HW0.out]; exact bx_keep (bx_keep (bx_new _ _ _ rfl) ((Below.refl _ _).alloc (Nat.le_refl _) _)) ((Below.refl _ _).alloc (Nat.le_refl _) _)
    · rw [← HW0.out]; exact bx_keep (bx_new _ _ _ (by simp)) ((Below.refl _ _).alloc (Nat.le_refl _) _)
    · rw [← HW0.out]; exact bx_new _ _ _ (by simp)
    · simpa using PS.nil (w.heap.size + 3) w0 [] 0 (by omega)
  have HA := Lib.hid hD.A
  have HN' := Lib.hid hD.N
  obtain ⟨n, HN⟩ := nameIt x.next.length
  obtain ⟨la, HLA⟩ := nameIt x.acc.length
  obtain ⟨st, HST⟩ := nameIt x.start
  rw [HN.out, HLA.out, HST.out] at HW0 HI0
  rw [HN.out] at hn hacc HN'
  rw [HLA.out] at hacc HA
  rw [HN.out, HST.out] at HFIN
  obtain ⟨PST, HP⟩ := nameIt (PlainPost x w)
  rw [HP.out] at HFIN
  rw [HN.out, HLA.out, HST.out, HP.out]
  have hacc2 := Lib.hid hacc
  have hsz := Lib.hid hsz0
  clear hb0 hsz0 hD hacc hx
  go_enter Try.func17, Try.ntmps17
  go_upto_region 2 with fail
  rw [HW0.out]
  obtain ⟨x0, x1, x2⟩ := bx_cells3 HI0.out.b1
  go_wp2_with fail
  clear x0 x1 x2
  go_loopg [4, 5, 12] n (fun gg v4 v5 v12 wr => ∃ i : Nat, i ≤ n ∧ n - i ≤ gg ∧ v12 = .int .i64 i ∧ Hid (PI x w.heap.size st #[.int .i64 st, .slice aa la ca, .slice an n cn] w i wr))
  case atStart => exact ⟨0, by omega, by omega, rfl, HI0⟩
  case round =>
    clear HI0 HW0
    obtain ⟨i, hi, hg, rfl, HI⟩ := hrel
    obtain ⟨w1, rfl⟩ : ∃ ww : World, ww = wr := ⟨_, rfl⟩
    obtain ⟨vR, vA, hb3, hps⟩ := HI.out.b3
    have HB3 := Lib.hid hb3
    by_cases hlt : i < n
    · have hlt' : (i : Int) < (n : Int) := by omega
      have hi0 : (0 : Int) ≤ (i : Int) := by omega
      have hltx : i < x.next.length := by rw [HN.out]; exact hlt
      have hlta : i < x.acc.length := by have := hacc2.out; have := HLA.out; omega
      have hila : (i : Int) < (la : Int) := by have := HLA.out; omega
      obtain ⟨b', off', vi, hae, ci0, hsl⟩ := Rd.rowI_at HN'.out hltx
      obtain ⟨ai, ki, rfl⟩ := hsl.form
      rw [ints_len] at ci0 hsl
      have ci := (HI.out.bel.cell (lt_of_cell ci0)).trans ci0
      obtain ⟨ba, oa, hae2, hca⟩ := (HA.out.keep HI.out.bel).at (k := i) (by have := HLA.out; omega)
      have cA := hca i (by rw [ints_len]; exact hlta)
      rw [ints_get] at cA
      have hba : ba < w.heap.size := by
        obtain ⟨ba', oa', e, h⟩ := HA.out.at (k := i) (by have := HLA.out; omega)
        have := lt_of_cell (h i (by rw [ints_len]; exact hlta))
        rw [hae2] at e; cases e
        exact this
      have hrl : x.next[i].length ≤ 16 := by have := HROWS.out _ (List.getElem_mem hltx); omega
      have HTR : Hid (x.next.take (i + 1) = x.next.take i ++ [x.next[i]]) := List.take_succ_eq_append_getElem hltx
      have HTA := Lib.hid (plain_take hlta)
      have hRl : (x.next.take i).length = i := by rw [List.length_take]; omega
      have hAl : ((plainD x).acc.take i).length = i := by rw [List.length_take]; show min i (x.acc.map _).length = i; rw [List.length_map]; omega
      have hps2 := hps.next w1 x.next[i] (min x.acc[i] 0)
      obtain ⟨r, HR⟩ := nameIt x.next[i]
      obtain ⟨av, HAV⟩ := nameIt (x.acc[i]'hlta)
      obtain ⟨LR, HLR⟩ := nameIt (x.next.take i)
      obtain ⟨LA, HLAN⟩ := nameIt ((plainD x).acc.take i)
      rw [HR.out] at ci hsl hrl HTR hps2
      rw [HAV.out] at cA HTA hps2
      rw [HLR.out] at HTR hps2 hRl
      rw [HLAN.out] at HTA hps2 hAl
      obtain ⟨m, HM⟩ := nameIt (min av 0)
      rw [HM.out] at HTA hps2
      have hmin : min av 0 = m := HM.out
      have HPS := Lib.hid hps2
      obtain ⟨xs0, o1, -⟩ := hps2.rows
      obtain ⟨aR, cR, rfl, -, -⟩ := own_len o1
      obtain ⟨aA, cA', rfl, -, -⟩ := own_len hps2.acc
      rw [hRl] at HB3
      rw [hAl] at HB3
      have HRI := Lib.hid hRl
      have HAI := Lib.hid hAl
      have HCL : Hid (∀ W, Below (w.heap.size + 3) w1 W → Calls Try.prog 26 #[.slice ai r.length ki] W (NewInts r W)) := fun W hb =>
        clone_int _ r W (hsl.keep (HI.out.bel.trans (hb.mono (by omega)))) (by omega)
      have HS : Hid (∀ W, Below (w.heap.size + 3) w1 W → (fun w' => w'.cell? ⟨w.heap.size + 1 + 1, 0 + 2, none⟩ = some (.slice aR i cR) ∧ w'.cell? ⟨w.heap.size + 1 + 1, 0 + 1, none⟩ = some (.slice aA i cA') ∧ w'.cell? ⟨w.heap.size, 0 + 1, none⟩ = some (.slice (some ⟨ba, oa, none⟩) la ca) ∧ w'.cell? ⟨ba, oa + i, none⟩ = some (.int .i64 av)) W) := by
        intro W hb
        have hsz3 := hps2.le
        have e3 := (hb.block (w.heap.size + 1 + 1) (by omega)).trans HB3.out
        have e1 := (hb.block w.heap.size (by omega)).trans HI.out.b1
        obtain ⟨y0, y1, y2⟩ := bx_cells3 e3
        obtain ⟨z0, z1, z2⟩ := bx_cells3 e1
        rw [hae2] at z1
        exact ⟨y2, y1, z1, (hb.cell (p := ⟨ba, oa + i, none⟩) (by show ba < _; omega)).trans cA⟩
      have HHR := Lib.hid (hps2.fresh (Nat.le_refl _))
      subst hae2
      have hsz3 := hps2.le
      obtain ⟨rl, HRLN⟩ := nameIt r.length
      rw [HRLN.out] at hrl ci HCL
      subst hae
      have HPI := Lib.hid hps2
      rw [HRI.out, HAI.out] at HPI
      clear hps hps2 hb3 hca cA hsl ci0 o1 hRl hAl HPS
      go_upto_region 5 with fail
      refine wp_region_U (S := (fun w' => w'.cell? ⟨w.heap.size + 1 + 1, 0 + 2, none⟩ = some (.slice aR i cR) ∧ w'.cell? ⟨w.heap.size + 1 + 1, 0 + 1, none⟩ = some (.slice aA i cA') ∧ w'.cell? ⟨w.heap.size, 0 + 1, none⟩ = some (.slice (some ⟨ba, oa, none⟩) la ca) ∧ w'.cell? ⟨ba, oa + i, none⟩ = some (.int .i64 av))) 17 (by kernel_rfl) (fun inv => ?_)
      refine wpU_take (i := 0) (v := .pointer (some ⟨w.heap.size + 1 + 1, 0 + 2, none⟩)) rfl inv (by kernel_rfl) (by kernel_rfl) (by decide) (by decide) (by kernel_rfl) (by kernel_rfl) (by kernel_rfl) (fun _ _ _ h => h) (Or.inl ⟨by rfl, fun w' hw' => ?_⟩) (HS.out _ (Below.refl _ _).drew) (fun inv => ?_)
      · obtain ⟨h0, h1, h2, h3⟩ := hw'
        go_simp
      try simp only [Act.put, List.setIfInBounds_toArray, List.set_cons_zero, List.set_cons_succ]
      refine wpU_take (i := 1) (v := .slice aR i cR) rfl inv (by kernel_rfl) (by kernel_rfl) (by decide) (by decide) (by kernel_rfl) (by kernel_rfl) (by kernel_rfl) (fun _ _ _ h => h) (Or.inl ⟨by rfl, fun w' hw' => ?_⟩) (HS.out _ (Below.refl _ _).drew) (fun inv => ?_)
      · obtain ⟨h0, h1, h2, h3⟩ := hw'
        go_simp
      try simp only [Act.put, List.setIfInBounds_toArray, List.set_cons_zero, List.set_cons_succ]
      refine wpU_take (i := 2) (v := .slice ai rl ki) rfl inv (by kernel_rfl) (by kernel_rfl) (by decide) (by decide) (by kernel_rfl) (by kernel_rfl) (by kernel_rfl) (fun _ _ _ h => h) (Or.inl ⟨by rfl, fun w' hw' => ?_⟩) (HS.out _ (Below.refl _ _).drew) (fun inv => ?_)
      · obtain ⟨h0, h1, h2, h3⟩ := hw'
        go_simp
      try simp only [Act.put, List.setIfInBounds_toArray, List.set_cons_zero, List.set_cons_succ]
      refine wpU_take (i := 6) (v := .pointer (some ⟨w.heap.size + 1 + 1, 0 + 1, none⟩)) rfl inv (by kernel_rfl) (by kernel_rfl) (by decide) (by decide) (by kernel_rfl) (by kernel_rfl) (by kernel_rfl) (fun _ _ _ h => h) (Or.inl ⟨by rfl, fun w' hw' => ?_⟩) (HS.out _ (Below.refl _ _).drew) (fun inv => ?_)
      · obtain ⟨h0, h1, h2, h3⟩ := hw'
        go_simp
      try simp only [Act.put, List.setIfInBounds_toArray, List.set_cons_zero, List.set_cons_succ]
      refine wpU_take (i := 7) (v := .slice aA i cA') rfl inv (by kernel_rfl) (by kernel_rfl) (by decide) (by decide) (by kernel_rfl) (by kernel_rfl) (by kernel_rfl) (fun _ _ _ h => h) (Or.inl ⟨by rfl, fun w' hw' => ?_⟩) (HS.out _ (Below.refl _ _).drew) (fun inv => ?_)
      · obtain ⟨h0, h1, h2, h3⟩ := hw'
        go_simp
      try simp only [Act.put, List.setIfInBounds_toArray, List.set_cons_zero, List.set_cons_succ]
      refine wpU_take (i := 8) (v := .pointer (some ⟨w.heap.size, 0 + 1, none⟩)) rfl inv (by kernel_rfl) (by kernel_rfl) (by decide) (by decide) (by kernel_rfl) (by kernel_rfl) (by kernel_rfl) (fun _ _ _ h => h) (Or.inl ⟨by rfl, fun w' hw' => ?_⟩) (HS.out _ (Below.refl _ _).drew) (fun inv => ?_)
      · obtain ⟨h0, h1, h2, h3⟩ := hw'
        go_simp
      try simp only [Act.put, List.setIfInBounds_toArray, List.set_cons_zero, List.set_cons_succ]
      refine wpU_take (i := 9) (v := .slice (some ⟨ba, oa, none⟩) la ca) rfl inv (by kernel_rfl) (by kernel_rfl) (by decide) (by decide) (by kernel_rfl) (by kernel_rfl) (by kernel_rfl) (fun _ _ _ h => h) (Or.inl ⟨by rfl, fun w' hw' => ?_⟩) (HS.out _ (Below.refl _ _).drew) (fun inv => ?_)
      · obtain ⟨h0, h1, h2, h3⟩ := hw'
        go_simp
      try simp only [Act.put, List.setIfInBounds_toArray, List.set_cons_zero, List.set_cons_succ]
      refine wpU_take (i := 10) (v := .int .i64 (i : Int)) rfl inv (by kernel_rfl) (by kernel_rfl) (by decide) (by decide) (by kernel_rfl) (by kernel_rfl) (by kernel_rfl) (fun _ _ _ h => h) (Or.inl ⟨by rfl, fun w' hw' => ?_⟩) (HS.out _ (Below.refl _ _).drew) (fun inv => ?_)
      · obtain ⟨h0, h1, h2, h3⟩ := hw'
        go_simp
      try simp only [Act.put, List.setIfInBounds_toArray, List.set_cons_zero, List.set_cons_succ]
      refine wpU_take (i := 11) (v := .pointer (some ⟨ba, oa + i, none⟩)) rfl inv (by kernel_rfl) (by kernel_rfl) (by decide) (by decide) (by kernel_rfl) (by kernel_rfl) (by kernel_rfl) (fun _ _ _ h => h) (Or.inl ⟨by rfl, fun w' hw' => ?_⟩) (HS.out _ (Below.refl _ _).drew) (fun inv => ?_)
      · obtain ⟨h0, h1, h2, h3⟩ := hw'
        go_simp
      try simp only [Act.put, List.setIfInBounds_toArray, List.set_cons_zero, List.set_cons_succ]
      refine wpU_take (i := 12) (v := .int .i64 av) rfl inv (by kernel_rfl) (by kernel_rfl) (by decide) (by decide) (by kernel_rfl) (by kernel_rfl) (by kernel_rfl) (fun _ _ _ h => h) (Or.inl ⟨by rfl, fun w' hw' => ?_⟩) (HS.out _ (Below.refl _ _).drew) (fun inv => ?_)
      · obtain ⟨h0, h1, h2, h3⟩ := hw'
        go_simp
      try simp only [Act.put, List.setIfInBounds_toArray, List.set_cons_zero, List.set_cons_succ]
      refine wpU_take (i := 13) (v := .int .i64 m) rfl inv (by kernel_rfl) (by kernel_rfl) (by decide) (by decide) (by kernel_rfl) (by kernel_rfl) (by kernel_rfl) (fun _ _ _ h => h) (Or.inl ⟨by rfl, fun w' hw' => ?_⟩) (HS.out _ (Below.refl _ _).drew) (fun inv => ?_)
      · obtain ⟨h0, h1, h2, h3⟩ := hw'
        go_simp
      try simp only [Act.put, List.setIfInBounds_toArray, List.set_cons_zero, List.set_cons_succ]
      have HP0 : Hid (PS (w.heap.size + 3) w1 r m LR LA (.slice aR i cR) (.slice aA i cA') none none none w1.drew) := HPI.out.keep (Below.refl _ _).drew
      refine wpU_two (i := 3) (j := 14) (by kernel_rfl) rfl rfl (fun K hK => ?_) (fun K hK => ?_)
      · replace inv := inv_set (i := 3) inv (by kernel_rfl) (by decide)
        go_simp
        refine (HCL.out _ HP0.out.bel).mono ?_
        rintro e w1 ⟨a1, c1, rfl, hcl, hb1⟩
        have HP1 := Lib.hid (HP0.out.call hb1 hcl rfl)
        rw [HRLN.out] at HP1
        rw [HRLN.out]
        clear hcl hb1
        refine hK.out _ _ (fun _ => HS.out _ HP1.out.bel) ?_
        clear hK K
        try simp only [Act.put, List.setIfInBounds_toArray, List.set_cons_zero, List.set_cons_succ]
        refine wpU_two (i := 4) (j := 14) (by kernel_rfl) rfl rfl (fun K hK => ?_) (fun K hK => ?_)
        · replace inv := inv_set (i := 4) inv (by kernel_rfl) (by decide)
          go_simp
          have HP2 := Lib.hid (HP1.out.bltB (g := w1.heap.size) rfl)
          obtain ⟨w2, HW2⟩ := nameIt (w1.alloc (.cells #[.slice a1 rl c1] 22))
          rw [HW2.out] at HP2 ⊢
          refine hK.out _ _ (fun _ => HS.out _ HP2.out.bel) ?_
          clear hK K
          try simp only [Act.put, List.setIfInBounds_toArray, List.set_cons_zero, List.set_cons_succ]
          refine wpU_two (i := 5) (j := 14) (by kernel_rfl) rfl rfl (fun K hK => ?_) (fun K hK => ?_)
          · replace inv := inv_set (i := 5) inv (by kernel_rfl) (by decide)
            obtain ⟨xs3, hx3, hy3⟩ := HP2.out.rows
            obtain ⟨hT3, v3, hv3, hbx3⟩ := HP2.out.bB _ rfl
            cases hv3
            rw [HRI.out] at hx3
            refine step_appB elIntsP (by rfl) _ _ (by rfl) hx3 (by rfl) (by rfl) hbx3 (by rfl) (by rfl) (by omega) (by unfold maxLen; omega) HP2.out.size ?_
            intro g3 c3 w3 ho3 hg3 hat3 hlt3
            have HP3 := Lib.hid (HP2.out.appR hy3 (by rw [HRI.out]; exact ho3) hg3 (at_lies hat3) HTR.out)
            clear hx3 hy3 hT3 hbx3 ho3 hg3 hat3 hlt3
            refine hK.out _ _ (fun _ => HS.out _ HP3.out.bel) ?_
            clear hK K
            try simp only [Act.put, List.setIfInBounds_toArray, List.set_cons_zero, List.set_cons_succ]
            refine wpU_take (i := 16) (v := .pointer (some ⟨w.heap.size + 1 + 1, 0 + 2, none⟩)) rfl inv (by kernel_rfl) (by kernel_rfl) (by decide) (by decide) (by kernel_rfl) (by kernel_rfl) (by kernel_rfl) (fun _ _ _ h => h) (Or.inl ⟨by rfl, fun w' hw' => ?_⟩) (HS.out _ HP3.out.bel) (fun inv => ?_)
            · obtain ⟨h0, h1, h2, h3⟩ := hw'
              go_simp
            try simp only [Act.put, List.setIfInBounds_toArray, List.set_cons_zero, List.set_cons_succ]
            refine wpU_one (i := 14) (by kernel_rfl) rfl (fun K hK => ?_)
            replace inv := inv_set (i := 14) inv (by kernel_rfl) (by decide)
            go_simp
            have HP4 := Lib.hid (HP3.out.bltA (g := w3.heap.size) rfl)
            obtain ⟨w4, HW4⟩ := nameIt (w3.alloc (.cells #[.int .i64 m] 3))
            rw [HW4.out] at HP4 ⊢
            refine hK.out _ _ (fun _ => HS.out _ HP4.out.bel) ?_
            clear hK K
            try simp only [Act.put, List.setIfInBounds_toArray, List.set_cons_zero, List.set_cons_succ]
            refine wpU_one (i := 15) (by kernel_rfl) rfl (fun K hK => ?_)
            replace inv := inv_set (i := 15) inv (by kernel_rfl) (by decide)
            have hx5 := HP4.out.acc
            obtain ⟨hT5, hbx5⟩ := HP4.out.bA _ rfl
            rw [HAI.out] at hx5
            refine step_appB elInt (by rfl) _ _ (by rfl) hx5 (by rfl) (by rfl) hbx5 (by rfl) (by rfl) (by omega) (by unfold maxLen; omega) HP4.out.size ?_
            intro g5 c5 w5 ho5 hg5 hat5 hlt5
            have HP5 := Lib.hid (HP4.out.appA (by rw [HAI.out]; exact ho5) hg5 (at_lies hat5) HTA.out)
            clear hx5 hT5 hbx5 ho5 hg5 hat5 hlt5
            refine hK.out _ _ (fun _ => HS.out _ HP5.out.bel) ?_
            clear hK K
            try simp only [Act.put, List.setIfInBounds_toArray, List.set_cons_zero, List.set_cons_succ]
            have HNX := Lib.hid (HI.out.after HB3.out HP5.out rfl rfl)
            have Z3 := (HP5.out.bel.block (w.heap.size + 1 + 1) (by omega)).trans HB3.out
            obtain ⟨y0, y1, y2⟩ := bx_cells3 Z3
            obtain ⟨f0, f1, f2⟩ := bx_free3 Z3
            clear Z3
            refine wpU_one (i := 17) (by kernel_rfl) rfl (fun K hK => ?_)
            go_simp
            refine hK.out _ _ (fun h => absurd (show true = false from h) (by decide)) ?_
            clear hK K
            try simp only [Act.put, List.setIfInBounds_toArray, List.set_cons_zero, List.set_cons_succ]
            refine wpU_one (i := 18) (by kernel_rfl) rfl (fun K hK => ?_)
            go_simp
            refine hK.out _ _ (fun h => absurd (show true = false from h) (by decide)) ?_
            clear hK K
            try simp only [Act.put, List.setIfInBounds_toArray, List.set_cons_zero, List.set_cons_succ]
            refine wpU_one (i := 19) (by kernel_rfl) rfl (fun K hK => ?_)
            go_simp
            refine hK.out _ _ (fun h => absurd (show true = false from h) (by decide)) ?_
            clear hK K
            try simp only [Act.put, List.setIfInBounds_toArray, List.set_cons_zero, List.set_cons_succ]
            refine wpU_done (by kernel_rfl) ?_ _
            go_wp2_with fail
            go_roundg (n - (i + 1))
            case measure => omega
            case rel => exact ⟨i + 1, by omega, by omega, by go_num, HNX⟩
          · replace inv := inv_set (i := 14) inv (by kernel_rfl) (by decide)
            go_simp
            have HP6 := Lib.hid (HP2.out.bltA (g := w2.heap.size) rfl)
            obtain ⟨w6, HW6⟩ := nameIt (w2.alloc (.cells #[.int .i64 m] 3))
            rw [HW6.out] at HP6 ⊢
            refine hK.out _ _ (fun _ => HS.out _ HP6.out.bel) ?_
            clear hK K
            try simp only [Act.put, List.setIfInBounds_toArray, List.set_cons_zero, List.set_cons_succ]
            refine wpU_one (i := 5) (by kernel_rfl) rfl (fun K hK => ?_)
            replace inv := inv_set (i := 5) inv (by kernel_rfl) (by decide)
            obtain ⟨xs7, hx7, hy7⟩ := HP6.out.rows
            obtain ⟨hT7, v7, hv7, hbx7⟩ := HP6.out.bB _ rfl
            cases hv7
            rw [HRI.out] at hx7
            refine step_appB elIntsP (by rfl) _ _ (by rfl) hx7 (by rfl) (by rfl) hbx7 (by rfl) (by rfl) (by omega) (by unfold maxLen; omega) HP6.out.size ?_
            intro g7 c7 w7 ho7 hg7 hat7 hlt7
            have HP7 := Lib.hid (HP6.out.appR hy7 (by rw [HRI.out]; exact ho7) hg7 (at_lies hat7) HTR.out)
            clear hx7 hy7 hT7 hbx7 ho7 hg7 hat7 hlt7
            refine hK.out _ _ (fun _ => HS.out _ HP7.out.bel) ?_
            clear hK K
            try simp only [Act.put, List.setIfInBounds_toArray, List.set_cons_zero, List.set_cons_succ]
            refine wpU_take (i := 16) (v := .pointer (some ⟨w.heap.size + 1 + 1, 0 + 2, none⟩)) rfl inv (by kernel_rfl) (by kernel_rfl) (by decide) (by decide) (by kernel_rfl) (by kernel_rfl) (by kernel_rfl) (fun _ _ _ h => h) (Or.inl ⟨by rfl, fun w' hw' => ?_⟩) (HS.out _ HP7.out.bel) (fun inv => ?_)
            · obtain ⟨h0, h1, h2, h3⟩ := hw'
              go_simp
            try simp only [Act.put, List.setIfInBounds_toArray, List.set_cons_zero, List.set_cons_succ]
            refine wpU_one (i := 15) (by kernel_rfl) rfl (fun K hK => ?_)
            replace inv := inv_set (i := 15) inv (by kernel_rfl) (by decide)
            have hx8 := HP7.out.acc
            obtain ⟨hT8, hbx8⟩ := HP7.out.bA _ rfl
            rw [HAI.out] at hx8
            refine step_appB elInt (by rfl) _ _ (by rfl) hx8 (by rfl) (by rfl) hbx8 (by rfl) (by rfl) (by omega) (by unfold maxLen; omega) HP7.out.size ?_
            intro g8 c8 w8 ho8 hg8 hat8 hlt8
            have HP8 := Lib.hid (HP7.out.appA (by rw [HAI.out]; exact ho8) hg8 (at_lies hat8) HTA.out)
            clear hx8 hT8 hbx8 ho8 hg8 hat8 hlt8
            refine hK.out _ _ (fun _ => HS.out _ HP8.out.bel) ?_
            clear hK K
            try simp only [Act.put, List.setIfInBounds_toArray, List.set_cons_zero, List.set_cons_succ]
            have HNX := Lib.hid (HI.out.after HB3.out HP8.out rfl rfl)
            have Z3 := (HP8.out.bel.block (w.heap.size + 1 + 1) (by omega)).trans HB3.out
            obtain ⟨y0, y1, y2⟩ := bx_cells3 Z3
            obtain ⟨f0, f1, f2⟩ := bx_free3 Z3
            clear Z3
            refine wpU_one (i := 17) (by kernel_rfl) rfl (fun K hK => ?_)
            go_simp
            refine hK.out _ _ (fun h => absurd (show true = false from h) (by decide)) ?_
            clear hK K
            try simp only [Act.put, List.setIfInBounds_toArray, List.set_cons_zero, List.set_cons_succ]
            refine wpU_one (i := 18) (by kernel_rfl) rfl (fun K hK => ?_)
            go_simp
            refine hK.out _ _ (fun h => absurd (show true = false from h) (by decide)) ?_
            clear hK K
            try simp only [Act.put, List.setIfInBounds_toArray, List.set_cons_zero, List.set_cons_succ]
            refine wpU_one (i := 19) (by kernel_rfl) rfl (fun K hK => ?_)
            go_simp
            refine hK.out _ _ (fun h => absurd (show true = false from h) (by decide)) ?_
            clear hK K
            try simp only [Act.put, List.setIfInBounds_toArray, List.set_cons_zero, List.set_cons_succ]
            refine wpU_done (by kernel_rfl) ?_ _
            go_wp2_with fail
            go_roundg (n - (i + 1))
            case measure => omega
            case rel => exact ⟨i + 1, by omega, by omega, by go_num, HNX⟩
        · replace inv := inv_set (i := 14) inv (by kernel_rfl) (by decide)
          go_simp
          have HP9 := Lib.hid (HP1.out.bltA (g := w1.heap.size) rfl)
          obtain ⟨w9, HW9⟩ := nameIt (w1.alloc (.cells #[.int .i64 m] 3))
          rw [HW9.out] at HP9 ⊢
          refine hK.out _ _ (fun _ => HS.out _ HP9.out.bel) ?_
          clear hK K
          try simp only [Act.put, List.setIfInBounds_toArray, List.set_cons_zero, List.set_cons_succ]
          refine wpU_one (i := 4) (by kernel_rfl) rfl (fun K hK => ?_)
          replace inv := inv_set (i := 4) inv (by kernel_rfl) (by decide)
          go_simp
          have HP10 := Lib.hid (HP9.out.bltB (g := w9.heap.size) rfl)
          obtain ⟨w10, HW10⟩ := nameIt (w9.alloc (.cells #[.slice a1 rl c1] 22))
          rw [HW10.out] at HP10 ⊢
          refine hK.out _ _ (fun _ => HS.out _ HP10.out.bel) ?_
          clear hK K
          try simp only [Act.put, List.setIfInBounds_toArray, List.set_cons_zero, List.set_cons_succ]
          refine wpU_one (i := 5) (by kernel_rfl) rfl (fun K hK => ?_)
          replace inv := inv_set (i := 5) inv (by kernel_rfl) (by decide)
          obtain ⟨xs11, hx11, hy11⟩ := HP10.out.rows
          obtain ⟨hT11, v11, hv11, hbx11⟩ := HP10.out.bB _ rfl
          cases hv11
          rw [HRI.out] at hx11
          refine step_appB elIntsP (by rfl) _ _ (by rfl) hx11 (by rfl) (by rfl) hbx11 (by rfl) (by rfl) (by omega) (by unfold maxLen; omega) HP10.out.size ?_
          intro g11 c11 w11 ho11 hg11 hat11 hlt11
          have HP11 := Lib.hid (HP10.out.appR hy11 (by rw [HRI.out]; exact ho11) hg11 (at_lies hat11) HTR.out)
          clear hx11 hy11 hT11 hbx11 ho11 hg11 hat11 hlt11
          refine hK.out _ _ (fun _ => HS.out _ HP11.out.bel) ?_
          clear hK K
          try simp only [Act.put, List.setIfInBounds_toArray, List.set_cons_zero, List.set_cons_succ]
          refine wpU_take (i := 16) (v := .pointer (some ⟨w.heap.size + 1 + 1, 0 + 2, none⟩)) rfl inv (by kernel_rfl) (by kernel_rfl) (by decide) (by decide) (by kernel_rfl) (by kernel_rfl) (by kernel_rfl) (fun _ _ _ h => h) (Or.inl ⟨by rfl, fun w' hw' => ?_⟩) (HS.out _ HP11.out.bel) (fun inv => ?_)
          · obtain ⟨h0, h1, h2, h3⟩ := hw'
            go_simp
          try simp only [Act.put, List.setIfInBounds_toArray, List.set_cons_zero, List.set_cons_succ]
          refine wpU_one (i := 15) (by kernel_rfl) rfl (fun K hK => ?_)
          replace inv := inv_set (i := 15) inv (by kernel_rfl) (by decide)
          have hx12 := HP11.out.acc
          obtain ⟨hT12, hbx12⟩ := HP11.out.bA _ rfl
          rw [HAI.out] at hx12
          refine step_appB elInt (by rfl) _ _ (by rfl) hx12 (by rfl) (by rfl) hbx12 (by rfl) (by rfl) (by omega) (by unfold maxLen; omega) HP11.out.size ?_
          intro g12 c12 w12 ho12 hg12 hat12 hlt12
          have HP12 := Lib.hid (HP11.out.appA (by rw [HAI.out]; exact ho12) hg12 (at_lies hat12) HTA.out)
          clear hx12 hT12 hbx12 ho12 hg12 hat12 hlt12
          refine hK.out _ _ (fun _ => HS.out _ HP12.out.bel) ?_
          clear hK K
          try simp only [Act.put, List.setIfInBounds_toArray, List.set_cons_zero, List.set_cons_succ]
          have HNX := Lib.hid (HI.out.after HB3.out HP12.out rfl rfl)
          have Z3 := (HP12.out.bel.block (w.heap.size + 1 + 1) (by omega)).trans HB3.out
          obtain ⟨y0, y1, y2⟩ := bx_cells3 Z3
          obtain ⟨f0, f1, f2⟩ := bx_free3 Z3
          clear Z3
          refine wpU_one (i := 17) (by kernel_rfl) rfl (fun K hK => ?_)
          go_simp
          refine hK.out _ _ (fun h => absurd (show true = false from h) (by decide)) ?_
          clear hK K
          try simp only [Act.put, List.setIfInBounds_toArray, List.set_cons_zero, List.set_cons_succ]
          refine wpU_one (i := 18) (by kernel_rfl) rfl (fun K hK => ?_)
          go_simp
          refine hK.out _ _ (fun h => absurd (show true = false from h) (by decide)) ?_
          clear hK K
          try simp only [Act.put, List.setIfInBounds_toArray, List.set_cons_zero, List.set_cons_succ]
          refine wpU_one (i := 19) (by kernel_rfl) rfl (fun K hK => ?_)
          go_simp
          refine hK.out _ _ (fun h => absurd (show true = false from h) (by decide)) ?_
          clear hK K
          try simp only [Act.put, List.setIfInBounds_toArray, List.set_cons_zero, List.set_cons_succ]
          refine wpU_done (by kernel_rfl) ?_ _
          go_wp2_with fail
          go_roundg (n - (i + 1))
          case measure => omega
          case rel => exact ⟨i + 1, by omega, by omega, by go_num, HNX⟩
      · replace inv := inv_set (i := 14) inv (by kernel_rfl) (by decide)
        go_simp
        have HP13 := Lib.hid ((HPI.out.bltA (g := w1.heap.size) rfl).keep (Below.refl _ _).drew)
        obtain ⟨w13, HW13⟩ := nameIt (w1.alloc (.cells #[.int .i64 m] 3)).drew
        rw [HW13.out] at HP13 ⊢
        refine hK.out _ _ (fun _ => HS.out _ HP13.out.bel) ?_
        clear hK K
        try simp only [Act.put, List.setIfInBounds_toArray, List.set_cons_zero, List.set_cons_succ]
        refine wpU_one (i := 3) (by kernel_rfl) rfl (fun K hK => ?_)
        replace inv := inv_set (i := 3) inv (by kernel_rfl) (by decide)
        go_simp
        refine (HCL.out _ HP13.out.bel).mono ?_
        rintro e w14 ⟨a14, c14, rfl, hcl, hb14⟩
        have HP14 := Lib.hid (HP13.out.call hb14 hcl rfl)
        rw [HRLN.out] at HP14
        rw [HRLN.out]
        clear hcl hb14
        refine hK.out _ _ (fun _ => HS.out _ HP14.out.bel) ?_
        clear hK K
        try simp only [Act.put, List.setIfInBounds_toArray, List.set_cons_zero, List.set_cons_succ]
        refine wpU_one (i := 4) (by kernel_rfl) rfl (fun K hK => ?_)
        replace inv := inv_set (i := 4) inv (by kernel_rfl) (by decide)
        go_simp
        have HP15 := Lib.hid (HP14.out.bltB (g := w14.heap.size) rfl)
        obtain ⟨w15, HW15⟩ := nameIt (w14.alloc (.cells #[.slice a14 rl c14] 22))
        rw [HW15.out] at HP15 ⊢
        refine hK.out _ _ (fun _ => HS.out _ HP15.out.bel) ?_
        clear hK K
        try simp only [Act.put, List.setIfInBounds_toArray, List.set_cons_zero, List.set_cons_succ]
        refine wpU_one (i := 5) (by kernel_rfl) rfl (fun K hK => ?_)
        replace inv := inv_set (i := 5) inv (by kernel_rfl) (by decide)
        obtain ⟨xs16, hx16, hy16⟩ := HP15.out.rows
        obtain ⟨hT16, v16, hv16, hbx16⟩ := HP15.out.bB _ rfl
        cases hv16
        rw [HRI.out] at hx16
        refine step_appB elIntsP (by rfl) _ _ (by rfl) hx16 (by rfl) (by rfl) hbx16 (by rfl) (by rfl) (by omega) (by unfold maxLen; omega) HP15.out.size ?_
        intro g16 c16 w16 ho16 hg16 hat16 hlt16
        have HP16 := Lib.hid (HP15.out.appR hy16 (by rw [HRI.out]; exact ho16) hg16 (at_lies hat16) HTR.out)
        clear hx16 hy16 hT16 hbx16 ho16 hg16 hat16 hlt16
        refine hK.out _ _ (fun _ => HS.out _ HP16.out.bel) ?_
        clear hK K
        try simp only [Act.put, List.setIfInBounds_toArray, List.set_cons_zero, List.set_cons_succ]
        refine wpU_take (i := 16) (v := .pointer (some ⟨w.heap.size + 1 + 1, 0 + 2, none⟩)) rfl inv (by kernel_rfl) (by kernel_rfl) (by decide) (by decide) (by kernel_rfl) (by kernel_rfl) (by kernel_rfl) (fun _ _ _ h => h) (Or.inl ⟨by rfl, fun w' hw' => ?_⟩) (HS.out _ HP16.out.bel) (fun inv => ?_)
        · obtain ⟨h0, h1, h2, h3⟩ := hw'
          go_simp
        try simp only [Act.put, List.setIfInBounds_toArray, List.set_cons_zero, List.set_cons_succ]
        refine wpU_one (i := 15) (by kernel_rfl) rfl (fun K hK => ?_)
        replace inv := inv_set (i := 15) inv (by kernel_rfl) (by decide)
        have hx17 := HP16.out.acc
        obtain ⟨hT17, hbx17⟩ := HP16.out.bA _ rfl
        rw [HAI.out] at hx17
        refine step_appB elInt (by rfl) _ _ (by rfl) hx17 (by rfl) (by rfl) hbx17 (by rfl) (by rfl) (by omega) (by unfold maxLen; omega) HP16.out.size ?_
        intro g17 c17 w17 ho17 hg17 hat17 hlt17
        have HP17 := Lib.hid (HP16.out.appA (by rw [HAI.out]; exact ho17) hg17 (at_lies hat17) HTA.out)
        clear hx17 hT17 hbx17 ho17 hg17 hat17 hlt17
        refine hK.out _ _ (fun _ => HS.out _ HP17.out.bel) ?_
        clear hK K
        try simp only [Act.put, List.setIfInBounds_toArray, List.set_cons_zero, List.set_cons_succ]
        have HNX := Lib.hid (HI.out.after HB3.out HP17.out rfl rfl)
        have Z3 := (HP17.out.bel.block (w.heap.size + 1 + 1) (by omega)).trans HB3.out
        obtain ⟨y0, y1, y2⟩ := bx_cells3 Z3
        obtain ⟨f0, f1, f2⟩ := bx_free3 Z3
        clear Z3
        refine wpU_one (i := 17) (by kernel_rfl) rfl (fun K hK => ?_)
        go_simp
        refine hK.out _ _ (fun h => absurd (show true = false from h) (by decide)) ?_
        clear hK K
        try simp only [Act.put, List.setIfInBounds_toArray, List.set_cons_zero, List.set_cons_succ]
        refine wpU_one (i := 18) (by kernel_rfl) rfl (fun K hK => ?_)
        go_simp
        refine hK.out _ _ (fun h => absurd (show true = false from h) (by decide)) ?_
        clear hK K
        try simp only [Act.put, List.setIfInBounds_toArray, List.set_cons_zero, List.set_cons_succ]
        refine wpU_one (i := 19) (by kernel_rfl) rfl (fun K hK => ?_)
        go_simp
        refine hK.out _ _ (fun h => absurd (show true = false from h) (by decide)) ?_
        clear hK K
        try simp only [Act.put, List.setIfInBounds_toArray, List.set_cons_zero, List.set_cons_succ]
        refine wpU_done (by kernel_rfl) ?_ _
        go_wp2_with fail
        go_roundg (n - (i + 1))
        case measure => omega
        case rel => exact ⟨i + 1, by omega, by omega, by go_num, HNX⟩
    · obtain rfl : i = n := by omega
      have hlt' : ¬ (i : Int) < (i : Int) := by omega
      obtain ⟨xs, o1, -⟩ := hps.rows
      obtain ⟨aR, cR, rfl, -, -⟩ := own_len o1
      obtain ⟨aA, cA', rfl, -, -⟩ := own_len hps.acc
      obtain ⟨kR, HKR⟩ := nameIt (x.next.take i).length
      obtain ⟨kA, HKA⟩ := nameIt ((plainD x).acc.take i).length
      rw [HKR.out, HKA.out] at HB3
      obtain ⟨y0, y1, y2⟩ := bx_cells3 HB3.out
      obtain ⟨z0, z1, z2⟩ := bx_cells3 HI.out.b2
      obtain ⟨f0, f1, f2⟩ := bx_free3 HI.out.b2
      clear hb3 hps o1
      go_wp2_with fail
      have HE := HFIN.out _ _ HI.out _ _ HB3.out _ (grown_trans (grown_trans (grown_cell w1 ⟨w.heap.size + 1, 0, none⟩ (.int .i64 st)) (grown_cell _ ⟨w.heap.size + 1, 1, none⟩ (.slice aA kA cA'))) (grown_cell _ ⟨w.heap.size + 1, 2, none⟩ (.slice aR kR cR))) (((HI.out.bel.setCell (p := ⟨w.heap.size + 1, 0, none⟩) (by show _ ≤ w.heap.size + 1; omega) _).setCell (p := ⟨w.heap.size + 1, 1, none⟩) (by show _ ≤ w.heap.size + 1; omega) _).setCell (p := ⟨w.heap.size + 1, 2, none⟩) (by show _ ≤ w.heap.size + 1; omega) _)
      obtain ⟨j0, j1, j2⟩ := bx_cells3 (bx_set (bx_set (bx_set HI.out.b2 0 (.int .i64 st)) 1 (.slice aA kA cA')) 2 (.slice aR kR cR))
      refine bodyPost_ret (v := .agg #[.int .i64 st, .slice aA kA cA', .slice aR kR cR]) (by simp [results, Try.results17, go_sem, j0, j1, j2]) rfl ?_
      exact HE
end Df
end Go.Proofs.Ytenkhjmedolknaa
