/- parlref5.Census. parlref5.Total. parlref5.Census and Total, joined. What the law RankTells compares. -/
import Derived.Test.YtbnpemgmdnghgaaJRankTellsRow17
import Derived.Test.YtbnpemgmdnghgaaJRankTellsRow16
import Derived.Test.YtbnpemgmdnghgaaJRankTellsRow5
import Derived.Test.YtbnpemgmdnghgaaJRankTellsRow6
import Derived.Test.YtbnpemgmdnghgaaJRankTellsRow7
import Derived.Test.YtbnpemgmdnghgaaJRankTellsRow9
import Derived.Test.YtbnpemgmdnghgaaJRankTellsRow13
namespace Go.Proofs.Ytbnpemgmdnghgaa
open Go.RowKit
namespace Cs

/-- the numbers, as data -/
def tabF (F : Nat → Nat → Int) (N m : Nat) : List (List Int) := (List.range N).map fun a => (List.range m).map (F a)
def CensusPost (g : Gram) (n : Int) (w : World) (e : Ending) (w' : World) : Prop :=
  Below w.heap.size w w' ∧ ((errC g n ≠ 0 ∧ e = .returned (.tuple #[.slice none 0 0, .int .i64 (errC g n)])) ∨
    (errC g n = 0 ∧ ∃ (N n' : Nat) (a : Option Addr) (c : Nat) (F : Nat → Nat → Int), OkC g N ∧ n = (n' : Int) ∧ n' ≤ 24 ∧ e = .returned (.tuple #[.slice a N c, .int .i64 0]) ∧ Rd AnyB w' (.sl ((tabF F N (n' + 1)).map D.ints)) [.slice a N c] ∧
      (∀ a k, F a k = -1 ∨ (0 ≤ F a k ∧ F a k ≤ 1000000000)) ∧ ∀ S, DoneC g n' S → tabF F N (n' + 1) = tabC g S N n' N))
theorem fin_bd (rules : List Rule) (s a k : Nat) : fin rules s a k = -1 ∨ (0 ≤ fin rules s a k ∧ fin rules s a k ≤ 1000000000) := by
  unfold fin
  split
  · exact .inl rfl
  · exact .inr (by unfold cap9; omega)
/-- what up's contract gives -/
def UpOK : Prop := ∀ {gt gs : Int} {ra : Option Addr} {rcap N n : Nat} {d : Hs} {c c' : Nat → Nat → Nat} {rules : List Rule}, (∀ A i, c' A i ≤ c A i) → 1 ≤ N → N ≤ 10 → n ≤ 24 → (∀ r ∈ rules, ∀ s ∈ r.right, okS N s) → (∀ r ∈ rules, 0 ≤ r.left ∧ r.left.toNat < N) → ∀ (W : World),
    HI gt gs (.slice ra rules.length rcap) N n d (fun a k => cap9 (c a k)) (fun a k => decide (0 < c a k)) (fun a k => decide (c' a k < c a k)) W → Rd AnyB W (.sl (rules.map Rule.d)) [.slice ra rules.length rcap] →
    Calls Try.prog 33 #[.pointer (some ⟨d.hb, 0, none⟩)] W (UpPost gt gs (.slice ra rules.length rcap) N n rules d.hb c c' W)
set_option maxHeartbeats 16000000 in
set_option maxRecDepth 100000 in
theorem censusE (hup : UpOK) (g : Gram) (ra : Option Addr) (rcap : Nat) (n : Int) (w : World) (hr : Rd AnyB w (.sl (g.rules.map Rule.d)) [.slice ra g.rules.length rcap]) :
    Calls Try.prog 10 #[.agg #[.int .i64 g.terms, .int .i64 g.nons, .int .i64 g.start, .slice ra g.rules.length rcap], .int .i64 n] w (CensusPost g n w) := by
  obtain ⟨w0, HW0⟩ := nameIt (w.alloc (.cells #[.int .i64 g.terms, .int .i64 g.nons, .int .i64 g.start, .slice ra g.rules.length rcap] 24))
  have hb0 : Below w.heap.size w w0 := by rw [← HW0.out]; exact (Below.refl _ _).alloc (Nat.le_refl _) _
  have HB0 := Lib.hid hb0
  have X0 : Hid (w0.heap[w.heap.size]? = some (.cells #[.int .i64 g.terms, .int .i64 g.nons, .int .i64 g.start, .slice ra g.rules.length rcap] 24 (0, 0))) := by rw [← HW0.out]; exact bx_new _ _ _ rfl
  have HCK := Lib.hid (ruleFault g ra rcap w0 (hr.below hb0))
  obtain ⟨PST, HP⟩ := nameIt (CensusPost g n w)
  rw [HP.out]
  have HRD := Lib.hid (hr.below hb0)
  have hrc : rcap ≤ maxLen ∧ g.rules.length ≤ rcap := by obtain ⟨a', cap', L, e, h1, h2, _⟩ := hr; simp at e h1; omega
  unfold maxLen at hrc
  by_cases he : errC g n = 0
  · have hck : checkG g = 0 := by
      unfold errC at he
      by_cases h : checkG g = 0
      · exact h
      · rw [if_pos h] at he; exact absurd he h
    have hnn : 0 ≤ n ∧ n ≤ 24 := by
      unfold errC at he
      rw [if_neg (by simpa using hck)] at he
      by_cases h : n < 0 ∨ 24 < n
      · rw [if_pos h] at he; cases he
      · omega
    obtain ⟨N, hok⟩ := okC_of hck
    obtain ⟨n', rfl⟩ := Int.eq_ofNat_of_zero_le hnn.1
    obtain ⟨n, hn'⟩ : ∃ x : Nat, x = n' := ⟨_, rfl⟩
    subst hn'
    have hn24 : n ≤ 24 := by omega
    obtain ⟨mo, HMO⟩ := nameIt (sizeK N n)
    obtain ⟨m, HM⟩ := nameIt (n + 1)
    have HFIN : Hid (∀ (w1 : World) hb elo ehi et re E olo ohi ot ro w', Below w0.heap.size w0 w1 → CF w1 hb elo ehi et re N n E olo ohi ot ro (fin g.rules mo) w' → PST (.returned (.tuple #[.slice (some ⟨ot, 0, none⟩) N N, .int .i64 0])) w') := by
      intro w1 hb elo ehi et re E olo ohi ot ro w' h1 h2
      rw [← HP.out]
      refine ⟨(hb0.trans (h1.mono hb0.size)).trans (h2.bel.mono (by have := hb0.size; have := h1.size; omega)), .inr ⟨he, N, n, some ⟨ot, 0, none⟩, N, fin g.rules mo, hok, rfl, hn24, rfl, tb_rd h2.out.tb (by have := hok.n2; unfold maxLen; omega) (by unfold maxLen; omega), fin_bd _ _, fun S hS => ?_⟩⟩
      unfold tabC rowC tabF
      refine List.map_congr_left fun a ha => List.map_congr_left fun k hk => ?_
      rw [← HMO.out]
      exact fin_tC hok hS (by simpa using ha) (by have : k < n + 1 := by simpa using hk
                                                  omega)
    have hnons := hok.nons
    have hN1 := hok.n1
    have hN2 := hok.n2
    have HRI := Lib.hid hok.r
    have HLF := Lib.hid hok.l
    have HLN : Hid (∀ r ∈ g.rules, r.right.length ≤ 1000) := okC_len4 hck
    have HUP : Hid (∀ (h : Nat) (d : Hs) (W : World), Below w0.heap.size w0 W → HI g.terms g.start (.slice ra g.rules.length rcap) N n d (fun a k => cap9 (cnt g.rules h a k)) (fun a k => decide (0 < cnt g.rules h a k)) (fun a k => decide (cnt g.rules (h - 1) a k < cnt g.rules h a k)) W → Calls Try.prog 33 #[.pointer (some ⟨d.hb, 0, none⟩)] W (UpPost g.terms g.start (.slice ra g.rules.length rcap) N n g.rules d.hb (cnt g.rules h) (cnt g.rules (h - 1)) W)) := by
      intro h d W hb hh
      exact hup (fun A i => cnt_mono (by omega) A i) hN1 hN2 hn24 HRI.out HLF.out W hh (HRD.out.below hb)
    have hm1 : 1 ≤ m := by have := HM.out; omega
    have hm2 : m ≤ 25 := by have := HM.out; omega
    have hmn : n < m := by have := HM.out; omega
    have hm0 : (0 : Int) < (m : Int) := by omega
    have hN0 : (0 : Int) < (N : Int) := by omega
    have HMZ : Hid (((n : Int) + 1) = (m : Int)) := by show _ = _; rw [← HM.out]; omega
    have hw1 : IntKind.i64.wrap ((n : Int) + 1) = (m : Int) := by rw [IntWalk.i64_in _ (by omega), HMZ.out]
    have HMOE : Hid (mo = N * m) := by show _ = _; rw [← HMO.out, ← HM.out]; rfl
    have hmo : mo ≤ 250 := by
      rw [HMOE.out]
      exact Nat.le_trans (Nat.mul_le_mul hN2 hm2) (by decide)
    have hwm : IntKind.i64.wrap ((N : Int) * (m : Int)) = (mo : Int) := by
      have e : (N : Int) * (m : Int) = (mo : Int) := by rw [HMOE.out]; simp
      rw [e, IntWalk.i64_in _ (by omega)]
    have HGI : Hid (∀ w, Calls Try.prog 31 #[.int .i64 (N : Int), .int .i64 (m : Int)] w (Df.GridIPost N m w)) := fun w => Df.gridI N m w ⟨hN1, by omega⟩ ⟨hm1, by omega⟩
    have HGBO : Hid (∀ w, Calls Try.prog 32 #[.int .i64 (N : Int), .int .i64 (m : Int)] w (Ln.GridPost N m w)) := fun w => Ln.gridB N m w ⟨hN1, by omega⟩ ⟨hm1, by omega⟩
    obtain ⟨gt, HGT⟩ := nameIt g.terms
    obtain ⟨gs, HGS⟩ := nameIt g.start
    obtain ⟨rl, HRL⟩ := nameIt g.rules.length
    have hrl : rl ≤ 32 := by rw [← HRL.out]; exact hok.len
    rw [HGT.out, HGS.out, HRL.out, hnons] at HW0 X0 HCK
    rw [HGT.out, HGS.out, HRL.out] at HUP
    rw [HRL.out] at HRD hrc
    rw [HGT.out, HGS.out, HRL.out, hnons]
    rw [hck] at HCK
    obtain ⟨gb, HGBN⟩ := nameIt w.heap.size
    rw [HGBN.out] at X0
    have HGB0 : Hid (∀ W', Below w0.heap.size w0 W' → (fun w' => w'.cell? ⟨gb, 0, none⟩ = some (.int .i64 gt) ∧ w'.cell? ⟨gb, 0 + 1, none⟩ = some (.int .i64 (N : Int)) ∧ w'.cell? ⟨gb, 0 + 2, none⟩ = some (.int .i64 gs) ∧ w'.cell? ⟨gb, 0 + 3, none⟩ = some (.slice ra rl rcap)) W') := fun W' hb => bx_cells4 (bx_keep X0.out hb)
    obtain ⟨x0, x1, x2, x3⟩ := bx_cells4 X0.out
    have b1 : decide ((n : Int) < 0) = false := by simp
    have b2 : decide ((24 : Int) < (n : Int)) = false := by simp; omega
    clear hr hb0 HP X0 hck hok hnn he hnons HB0 hup
    go_enter Try.func10, Try.ntmps10
    go_upto_region 1 with fail
    rw [HW0.out, HGBN.out]
    clear HW0 HGBN
    go_wp2_with fail
    with_reducible refine HCK.out.mono ?_
    rintro e w1 ⟨rfl, hb1⟩
    have HB01 := Lib.hid hb1
    have HGB : Hid (∀ W', Below w1.heap.size w1 W' → (fun w' => w'.cell? ⟨gb, 0, none⟩ = some (.int .i64 gt) ∧ w'.cell? ⟨gb, 0 + 1, none⟩ = some (.int .i64 (N : Int)) ∧ w'.cell? ⟨gb, 0 + 2, none⟩ = some (.int .i64 gs) ∧ w'.cell? ⟨gb, 0 + 3, none⟩ = some (.slice ra rl rcap)) W') := fun W' hb => HGB0.out W' (HB01.out.trans (hb.mono HB01.out.size))
    have HRD1 := Lib.hid (HRD.out.below hb1)
    clear x0 x1 x2 x3 hb1 HCK HGB0 HRD
    obtain ⟨x0, x1, x2, x3⟩ := HGB.out w1 (Below.refl _ _)
    go_upto_region 6 with fail
    clear x0 x1 x2 x3 b1 b2
    go_cut [7] (fun t7 wx => ∃ (u : Ut) (hb : Nat), t7 = .pointer (some ⟨hb, 0, none⟩) ∧ Hid (CJ w1 u hb #[.int .i64 gt, .int .i64 (N : Int), .int .i64 gs, .slice ra rl rcap, .int .i64 (n : Int), .slice (some ⟨u.t1, 0, none⟩) N N, .slice (some ⟨u.t2, 0, none⟩) N N, .slice (some ⟨u.t3, 0, none⟩) N N] N m (M0 (g.rules.take 0)) (A0 (g.rules.take 0)) (A0 (g.rules.take 0)) wx))
    case first =>
      have HS : Hid (∀ W', Below w1.heap.size w1 W' → (fun w' => w'.cell? ⟨gb, 0, none⟩ = some (.int .i64 gt) ∧ w'.cell? ⟨gb, 0 + 1, none⟩ = some (.int .i64 (N : Int)) ∧ w'.cell? ⟨gb, 0 + 2, none⟩ = some (.int .i64 gs) ∧ w'.cell? ⟨gb, 0 + 3, none⟩ = some (.slice ra rl rcap)) W') := HGB
      have HBD : Hid (Below w1.heap.size w1 w1.drew) := (Below.refl _ _).drew
      have hsd : Hid (w1.drew.heap.size = w1.heap.size) := rfl
      obtain ⟨wd, HWD⟩ := nameIt w1.drew
      rw [HWD.out] at HBD hsd
      refine wp_region_U (S := (fun w' => w'.cell? ⟨gb, 0, none⟩ = some (.int .i64 gt) ∧ w'.cell? ⟨gb, 0 + 1, none⟩ = some (.int .i64 (N : Int)) ∧ w'.cell? ⟨gb, 0 + 2, none⟩ = some (.int .i64 gs) ∧ w'.cell? ⟨gb, 0 + 3, none⟩ = some (.slice ra rl rcap))) 19 (by kernel_rfl) (fun inv => ?_)
      rw [HWD.out]
      refine wpU_take (i := 0) (v := .agg #[.int .i64 gt, .int .i64 (N : Int), .int .i64 gs, .slice ra rl rcap]) rfl inv (by kernel_rfl) (by kernel_rfl) (by decide) (by decide) (by kernel_rfl) (by kernel_rfl) (by kernel_rfl) (fun _ _ _ h => h) (Or.inl ⟨by rfl, fun w' hw' => ?_⟩) (HS.out _ HBD.out) (fun inv => ?_)
      · obtain ⟨h0, h1, h2, h3⟩ := hw'
        go_simp
      try simp only [Act.put, List.setIfInBounds_toArray, List.set_cons_zero, List.set_cons_succ]
      refine wpU_take (i := 1) (v := .int .i64 (n : Int)) rfl inv (by kernel_rfl) (by kernel_rfl) (by decide) (by decide) (by kernel_rfl) (by kernel_rfl) (by kernel_rfl) (fun _ _ _ h => h) (Or.inl ⟨by rfl, fun w' hw' => ?_⟩) (HS.out _ HBD.out) (fun inv => ?_)
      · obtain ⟨h0, h1, h2, h3⟩ := hw'
        go_simp
      try simp only [Act.put, List.setIfInBounds_toArray, List.set_cons_zero, List.set_cons_succ]
      refine wpU_take (i := 2) (v := .pointer (some ⟨gb, 0 + 1, none⟩)) rfl inv (by kernel_rfl) (by kernel_rfl) (by decide) (by decide) (by kernel_rfl) (by kernel_rfl) (by kernel_rfl) (fun _ _ _ h => h) (Or.inl ⟨by rfl, fun w' hw' => ?_⟩) (HS.out _ HBD.out) (fun inv => ?_)
      · obtain ⟨h0, h1, h2, h3⟩ := hw'
        go_simp
      try simp only [Act.put, List.setIfInBounds_toArray, List.set_cons_zero, List.set_cons_succ]
      refine wpU_take (i := 3) (v := .int .i64 (N : Int)) rfl inv (by kernel_rfl) (by kernel_rfl) (by decide) (by decide) (by kernel_rfl) (by kernel_rfl) (by kernel_rfl) (fun _ _ _ h => h) (Or.inl ⟨by rfl, fun w' hw' => ?_⟩) (HS.out _ HBD.out) (fun inv => ?_)
      · obtain ⟨h0, h1, h2, h3⟩ := hw'
        go_simp
      try simp only [Act.put, List.setIfInBounds_toArray, List.set_cons_zero, List.set_cons_succ]
      refine wpU_take (i := 4) (v := .int .i64 (n : Int)) rfl inv (by kernel_rfl) (by kernel_rfl) (by decide) (by decide) (by kernel_rfl) (by kernel_rfl) (by kernel_rfl) (fun _ _ _ h => h) (Or.inl ⟨by rfl, fun w' hw' => ?_⟩) (HS.out _ HBD.out) (fun inv => ?_)
      · obtain ⟨h0, h1, h2, h3⟩ := hw'
        go_simp
      try simp only [Act.put, List.setIfInBounds_toArray, List.set_cons_zero, List.set_cons_succ]
      refine wpU_take (i := 5) (v := .int .i64 (m : Int)) rfl inv (by kernel_rfl) (by kernel_rfl) (by decide) (by decide) (by kernel_rfl) (by kernel_rfl) (by kernel_rfl) (fun _ _ _ h => h) (Or.inl ⟨by rfl, fun w' hw' => ?_⟩) (HS.out _ HBD.out) (fun inv => ?_)
      · obtain ⟨h0, h1, h2, h3⟩ := hw'
        go_simp
      try simp only [Act.put, List.setIfInBounds_toArray, List.set_cons_zero, List.set_cons_succ]
      refine wpU_take (i := 7) (v := .pointer (some ⟨gb, 0 + 1, none⟩)) rfl inv (by kernel_rfl) (by kernel_rfl) (by decide) (by decide) (by kernel_rfl) (by kernel_rfl) (by kernel_rfl) (fun _ _ _ h => h) (Or.inl ⟨by rfl, fun w' hw' => ?_⟩) (HS.out _ HBD.out) (fun inv => ?_)
      · obtain ⟨h0, h1, h2, h3⟩ := hw'
        go_simp
      try simp only [Act.put, List.setIfInBounds_toArray, List.set_cons_zero, List.set_cons_succ]
      refine wpU_take (i := 8) (v := .int .i64 (N : Int)) rfl inv (by kernel_rfl) (by kernel_rfl) (by decide) (by decide) (by kernel_rfl) (by kernel_rfl) (by kernel_rfl) (fun _ _ _ h => h) (Or.inl ⟨by rfl, fun w' hw' => ?_⟩) (HS.out _ HBD.out) (fun inv => ?_)
      · obtain ⟨h0, h1, h2, h3⟩ := hw'
        go_simp
      try simp only [Act.put, List.setIfInBounds_toArray, List.set_cons_zero, List.set_cons_succ]
      refine wpU_take (i := 9) (v := .int .i64 (n : Int)) rfl inv (by kernel_rfl) (by kernel_rfl) (by decide) (by decide) (by kernel_rfl) (by kernel_rfl) (by kernel_rfl) (fun _ _ _ h => h) (Or.inl ⟨by rfl, fun w' hw' => ?_⟩) (HS.out _ HBD.out) (fun inv => ?_)
      · obtain ⟨h0, h1, h2, h3⟩ := hw'
        go_simp
      try simp only [Act.put, List.setIfInBounds_toArray, List.set_cons_zero, List.set_cons_succ]
      refine wpU_take (i := 10) (v := .int .i64 (m : Int)) rfl inv (by kernel_rfl) (by kernel_rfl) (by decide) (by decide) (by kernel_rfl) (by kernel_rfl) (by kernel_rfl) (fun _ _ _ h => h) (Or.inl ⟨by rfl, fun w' hw' => ?_⟩) (HS.out _ HBD.out) (fun inv => ?_)
      · obtain ⟨h0, h1, h2, h3⟩ := hw'
        go_simp
      try simp only [Act.put, List.setIfInBounds_toArray, List.set_cons_zero, List.set_cons_succ]
      refine wpU_take (i := 12) (v := .pointer (some ⟨gb, 0 + 1, none⟩)) rfl inv (by kernel_rfl) (by kernel_rfl) (by decide) (by decide) (by kernel_rfl) (by kernel_rfl) (by kernel_rfl) (fun _ _ _ h => h) (Or.inl ⟨by rfl, fun w' hw' => ?_⟩) (HS.out _ HBD.out) (fun inv => ?_)
      · obtain ⟨h0, h1, h2, h3⟩ := hw'
        go_simp
      try simp only [Act.put, List.setIfInBounds_toArray, List.set_cons_zero, List.set_cons_succ]
      refine wpU_take (i := 13) (v := .int .i64 (N : Int)) rfl inv (by kernel_rfl) (by kernel_rfl) (by decide) (by decide) (by kernel_rfl) (by kernel_rfl) (by kernel_rfl) (fun _ _ _ h => h) (Or.inl ⟨by rfl, fun w' hw' => ?_⟩) (HS.out _ HBD.out) (fun inv => ?_)
      · obtain ⟨h0, h1, h2, h3⟩ := hw'
        go_simp
      try simp only [Act.put, List.setIfInBounds_toArray, List.set_cons_zero, List.set_cons_succ]
      refine wpU_take (i := 14) (v := .int .i64 (n : Int)) rfl inv (by kernel_rfl) (by kernel_rfl) (by decide) (by decide) (by kernel_rfl) (by kernel_rfl) (by kernel_rfl) (fun _ _ _ h => h) (Or.inl ⟨by rfl, fun w' hw' => ?_⟩) (HS.out _ HBD.out) (fun inv => ?_)
      · obtain ⟨h0, h1, h2, h3⟩ := hw'
        go_simp
      try simp only [Act.put, List.setIfInBounds_toArray, List.set_cons_zero, List.set_cons_succ]
      refine wpU_take (i := 15) (v := .int .i64 (m : Int)) rfl inv (by kernel_rfl) (by kernel_rfl) (by decide) (by decide) (by kernel_rfl) (by kernel_rfl) (by kernel_rfl) (fun _ _ _ h => h) (Or.inl ⟨by rfl, fun w' hw' => ?_⟩) (HS.out _ HBD.out) (fun inv => ?_)
      · obtain ⟨h0, h1, h2, h3⟩ := hw'
        go_simp
      try simp only [Act.put, List.setIfInBounds_toArray, List.set_cons_zero, List.set_cons_succ]
      clear HWD
      refine wpU_one (i := 6) (by kernel_rfl) rfl (fun K hK => ?_)
      replace inv := inv_setc (i := 6) inv (by kernel_rfl) (by decide)
      go_simp
      refine (HGI.out wd).mono ?_
      rintro e z1 ⟨bt1, rb1, rfl, hg1, hb1⟩
      have HG1 := Lib.hid (grd_tb hg1)
      have HC1 := Lib.hid hb1
      have HB1 : Hid (Below w1.heap.size w1 z1) := HBD.out.trans (hb1.mono (by have := HBD.out.size; have := hsd.out; omega))
      clear hg1 hb1
      refine hK.out _ _ (fun _ => HS.out _ HB1.out) ?_
      clear hK K
      try simp only [Act.put, List.setIfInBounds_toArray, List.set_cons_zero, List.set_cons_succ]
      refine wpU_one (i := 11) (by kernel_rfl) rfl (fun K hK => ?_)
      replace inv := inv_setc (i := 11) inv (by kernel_rfl) (by decide)
      go_simp
      refine (HGBO.out z1).mono ?_
      rintro e z2 ⟨bt2, rb2, rfl, hg2, hb2⟩
      have HG2 := Lib.hid (grd_tb hg2)
      have HC2 := Lib.hid hb2
      have HB2 : Hid (Below w1.heap.size w1 z2) := HB1.out.trans (hb2.mono (by have := HB1.out.size; have := hsd.out; omega))
      clear hg2 hb2
      refine hK.out _ _ (fun _ => HS.out _ HB2.out) ?_
      clear hK K
      try simp only [Act.put, List.setIfInBounds_toArray, List.set_cons_zero, List.set_cons_succ]
      refine wpU_one (i := 16) (by kernel_rfl) rfl (fun K hK => ?_)
      replace inv := inv_setc (i := 16) inv (by kernel_rfl) (by decide)
      go_simp
      refine (HGBO.out z2).mono ?_
      rintro e z3 ⟨bt3, rb3, rfl, hg3, hb3⟩
      have HG3 := Lib.hid (grd_tb hg3)
      have HC3 := Lib.hid hb3
      have HB3 : Hid (Below w1.heap.size w1 z3) := HB2.out.trans (hb3.mono (by have := HB2.out.size; have := hsd.out; omega))
      clear hg3 hb3
      refine hK.out _ _ (fun _ => HS.out _ HB3.out) ?_
      clear hK K
      try simp only [Act.put, List.setIfInBounds_toArray, List.set_cons_zero, List.set_cons_succ]
      refine wpU_one (i := 17) (by kernel_rfl) rfl (fun K hK => ?_)
      replace inv := inv_setc (i := 17) inv (by kernel_rfl) (by decide)
      go_simp
      refine hK.out _ _ (fun _ => HS.out _ HB3.out) ?_
      clear hK K
      try simp only [Act.put, List.setIfInBounds_toArray, List.set_cons_zero, List.set_cons_succ]
      refine wpU_one (i := 18) (by kernel_rfl) rfl (fun K hK => ?_)
      replace inv := inv_setc (i := 18) inv (by kernel_rfl) (by decide)
      go_simp
      obtain ⟨w4, HW4⟩ := nameIt (z3.alloc (.cells #[.int .i64 gt, .int .i64 (N : Int), .int .i64 gs, .slice ra rl rcap, .int .i64 (n : Int), .slice (some ⟨bt1, 0, none⟩) N N, .slice (some ⟨bt2, 0, none⟩) N N, .slice (some ⟨bt3, 0, none⟩) N N] 76))
      rw [HW4.out]
      have HB34 : Hid (Below z3.heap.size z3 w4) := by rw [← HW4.out]; exact (Below.refl _ _).alloc (Nat.le_refl _) _
      have HB4 : Hid (Below w1.heap.size w1 w4) := HB3.out.trans (HB34.out.mono HB3.out.size)
      have X4 : Hid (w4.heap[z3.heap.size]? = some (.cells #[.int .i64 gt, .int .i64 (N : Int), .int .i64 gs, .slice ra rl rcap, .int .i64 (n : Int), .slice (some ⟨bt1, 0, none⟩) N N, .slice (some ⟨bt2, 0, none⟩) N N, .slice (some ⟨bt3, 0, none⟩) N N] 76 (0, 0))) := by rw [← HW4.out]; exact bx_new _ _ _ rfl
      refine hK.out _ _ (fun _ => HS.out _ HB4.out) ?_
      clear hK K
      try simp only [Act.put, List.setIfInBounds_toArray, List.set_cons_zero, List.set_cons_succ]
      refine wpU_one (i := 19) (by kernel_rfl) rfl (fun K hK => ?_)
      go_simp
      refine hK.out _ _ (fun h => absurd (show true = false from h) (by decide)) ?_
      clear hK K
      try simp only [Act.put, List.setIfInBounds_toArray, List.set_cons_zero, List.set_cons_succ]
      refine wpU_done (by kernel_rfl) ?_ _
      obtain ⟨u, hu⟩ : ∃ u : Ut, u = ⟨wd.heap.size, z1.heap.size, z2.heap.size, z3.heap.size, bt1, bt2, bt3, rb1, rb2, rb3⟩ := ⟨_, rfl⟩
      have HU0 : Hid (UT ⟨wd.heap.size, z1.heap.size, z2.heap.size, z3.heap.size, bt1, bt2, bt3, rb1, rb2, rb3⟩ N m (fun _ _ => 0) (fun _ _ => false) (fun _ _ => false) z3) := ⟨(HG1.out.keep (Nat.le_refl _) HC2.out).keep HC2.out.size HC3.out, HG2.out.keep (Nat.le_refl _) HC3.out, HG3.out, Nat.le_refl _⟩
      rw [← hu] at HU0
      have e1 : bt1 = u.t1 := by rw [hu]
      have e2 : bt2 = u.t2 := by rw [hu]
      have e3 : bt3 = u.t3 := by rw [hu]
      have HUB : Hid (w1.heap.size ≤ u.b1) := by show _ ≤ _; rw [hu]; have := hsd.out; exact Nat.le_of_eq this.symm
      have HU4 : Hid (u.b4 ≤ z3.heap.size) := by show _ ≤ _; rw [hu]; exact Nat.le_refl _
      rw [e1, e2, e3] at X4
      obtain ⟨hb, HHB⟩ := nameIt z3.heap.size
      rw [HHB.out] at X4 HU4
      rw [HHB.out]
      have HCJ0 : Hid (CJ w1 u hb #[.int .i64 gt, .int .i64 (N : Int), .int .i64 gs, .slice ra rl rcap, .int .i64 (n : Int), .slice (some ⟨u.t1, 0, none⟩) N N, .slice (some ⟨u.t2, 0, none⟩) N N, .slice (some ⟨u.t3, 0, none⟩) N N] N m (M0 (g.rules.take 0)) (A0 (g.rules.take 0)) (A0 (g.rules.take 0)) w4) :=
        ⟨(HU0.out.keep (by have h := HB34.out; rw [HHB.out] at h ⊢; exact h)).eq (fun a k _ _ => M0_nil.symm) (fun a k _ _ => A0_nil.symm) (fun a k _ _ => A0_nil.symm), X4.out, HB4.out, HUB.out, HU4.out⟩
      clear hu e1 e2 e3 HUB HU4 X4 HU0 HG1 HG2 HG3 HC1 HC2 HC3 HB1 HB2 HB3 HBD hsd inv HB34 HW4 HS
      first | go_meet | (go_wp2_with fail; go_meet)
      exact ⟨u, hb, rfl, HCJ0⟩

    case rest =>
      obtain ⟨u, hb, rfl, HCJ0⟩ := hcut
      obtain ⟨w4, rfl⟩ : ∃ ww : World, ww = wc := ⟨_, rfl⟩
      obtain ⟨x0, x1, x2, x3⟩ := HGB.out w4 HCJ0.out.bel
      go_wp2_with fail
      clear x0 x1 x2 x3
      go_loopg [10, 54] rl (fun gg v10 v54 wr => ∃ q : Nat, q ≤ rl ∧ rl - q ≤ gg ∧ v54 = .int .i64 q ∧ Hid (CJ w1 u hb #[.int .i64 gt, .int .i64 (N : Int), .int .i64 gs, .slice ra rl rcap, .int .i64 (n : Int), .slice (some ⟨u.t1, 0, none⟩) N N, .slice (some ⟨u.t2, 0, none⟩) N N, .slice (some ⟨u.t3, 0, none⟩) N N] N m (M0 (g.rules.take q)) (A0 (g.rules.take q)) (A0 (g.rules.take q)) wr))
      case atStart => exact ⟨0, by omega, by omega, rfl, HCJ0⟩
      case round =>
        clear HCJ0
        obtain ⟨q, hq, hgq, rfl, HJ⟩ := hrel
        obtain ⟨w5, rfl⟩ : ∃ ww : World, ww = wr := ⟨_, rfl⟩
        by_cases hlt : q < rl
        ·   skip
            have hlt' : (q : Int) < (rl : Int) := by omega
            have hq0 : (0 : Int) ≤ (q : Int) := by omega
            have hix : q < g.rules.length := by rw [HRL.out]; exact hlt
            obtain ⟨rbk, ro, rv, hae, -, hrb, r0, r1, hrr⟩ := HRD1.out.rule_at hix
            obtain ⟨ar, cr, rfl, hcr1, hcr2⟩ := hrr.form
            rw [List.length_map] at r1 hrr hcr1
            unfold maxLen at hcr2
            have HB5 := Lib.hid HJ.out.bel
            have t0 := (HB5.out.cell (lt_of_cell r0)).trans r0
            have t1 := (HB5.out.cell (lt_of_cell r1)).trans r1
            have HTK : Hid (g.rules.take (q + 1) = g.rules.take q ++ [g.rules[q]'hix]) := List.take_succ_eq_append_getElem hix
            have HLL : Hid ((g.rules.take q).length ≤ 32) := by show _ ≤ _; rw [List.length_take]; omega
            have hol := HLF.out _ (List.getElem_mem hix)
            have hrn := HLN.out _ (List.getElem_mem hix)
            obtain ⟨r, HRN⟩ := nameIt (g.rules[q]'hix)
            rw [HRN.out] at t0 t1 HTK hcr1 hol hrr hrn
            obtain ⟨l, HL⟩ := nameIt (g.rules.take q)
            rw [HL.out] at HJ HTK HLL
            have HRR := Lib.hid hrr
            obtain ⟨rt, HRT⟩ := nameIt r.right
            rw [HRT.out] at t1 hcr1 HRR hrn
            obtain ⟨rn, HRNL⟩ := nameIt rt.length
            rw [HRNL.out] at t1 hcr1 HRR hrn
            obtain ⟨A, hA⟩ : ∃ A : Nat, r.left = (A : Int) := ⟨r.left.toNat, by omega⟩
            have hAN : A < N := by have := hol.2; rw [hA] at this; simpa using this
            have hAN' : (A : Int) < (N : Int) := by omega
            have hA0 : (0 : Int) ≤ (A : Int) := by omega
            have HAL : Hid (r.left = (A : Int)) := hA
            rw [hA] at t0
            obtain ⟨w6, HW6⟩ := nameIt (w5.alloc (.cells #[.int .i64 (A : Int), .slice ar rn cr] 48))
            have hb6 : Below w5.heap.size w5 w6 := by rw [← HW6.out]; exact (Below.refl _ _).alloc (Nat.le_refl _) _
            have HJ6 := Lib.hid (HJ.out.keep hb6)
            have X6 : Hid (w6.heap[w5.heap.size]? = some (.cells #[.int .i64 (A : Int), .slice ar rn cr] 48 (0, 0))) := by rw [← HW6.out]; exact bx_new _ _ _ rfl
            have HRX : Hid (hb < w5.heap.size) := (Array.getElem?_eq_some_iff.1 HJ.out.box).1
            obtain ⟨rbx, HRBX⟩ := nameIt w5.heap.size
            rw [HRBX.out] at X6 HRX
            subst hae
            clear hrr r0 r1 hA hol hb6 HJ HB5
            go_upto_region 10 with fail
            rw [HW6.out, HRBX.out]
            clear t0 t1 HW6 HRBX
            obtain ⟨y0, y1⟩ := bx_cells2 X6.out
            go_wp2_with fail
            clear y0 y1
            go_loopg [10, 61] rn (fun gg v10 v61 wr => ∃ j : Nat, j ≤ rn ∧ rn - j ≤ gg ∧ v61 = .int .i64 j ∧ v10 = .int .i64 (kf n (rt.take j) : Nat) ∧ Hid (CJ w1 u hb #[.int .i64 gt, .int .i64 (N : Int), .int .i64 gs, .slice (some ⟨rbk, ro, none⟩) rl rcap, .int .i64 (n : Int), .slice (some ⟨u.t1, 0, none⟩) N N, .slice (some ⟨u.t2, 0, none⟩) N N, .slice (some ⟨u.t3, 0, none⟩) N N] N m (M0 l) (A0 l) (A0 l) wr) ∧ Hid (wr.heap[rbx]? = some (.cells #[.int .i64 (A : Int), .slice ar rn cr] 48 (0, 0))))
            case atStart => exact ⟨0, by omega, by omega, rfl, rfl, HJ6, X6⟩
            case round =>
              clear HJ6 X6
              obtain ⟨j, hj, hgj, rfl, rfl, HJ, XJ⟩ := hrel
              obtain ⟨w7, rfl⟩ : ∃ ww : World, ww = wr := ⟨_, rfl⟩
              have hkb := kf_le n rt j
              by_cases hjr : j < rn
              · have hjr' : (j : Int) < (rn : Int) := by omega
                have hjx : j < rt.length := by rw [HRNL.out]; exact hjr
                have hj0 : (0 : Int) ≤ (j : Int) := by omega
                have hsy := HRR.out
                rw [← HRNL.out] at hsy
                obtain ⟨b', off', hae', -, hbl', d0, d1⟩ := hsy.sym_at hjx
                rw [HRNL.out] at hsy
                have e0 := (HJ.out.bel.cell (p := ⟨b', off' + j * 2, none⟩) (lt_of_cell d0)).trans d0
                have e1 := (HJ.out.bel.cell (p := ⟨b', off' + j * 2 + 1, none⟩) (lt_of_cell d1)).trans d1
                have HKN : Hid (kf n (rt.take (j + 1)) = (if (rt[j]'hjx).term then kf n (rt.take j) else n + 1) + 1) := by show _ = _; rw [List.take_succ_eq_append_getElem hjx, kf_snoc]
                obtain ⟨s, HSn⟩ := nameIt (rt[j]'hjx)
                rw [HSn.out] at e0 e1 HKN
                obtain ⟨stb, HST⟩ := nameIt s.term
                obtain ⟨sn, HSN⟩ := nameIt s.n
                rw [HST.out] at e0 HKN
                rw [HSN.out] at e1
                obtain ⟨kv, HKV⟩ := nameIt (kf n (rt.take j))
                obtain ⟨kv2, HKV2⟩ := nameIt (kf n (rt.take (j + 1)))
                rw [HKV.out] at HKN hkb
                rw [HKV2.out] at HKN
                rw [HKV.out]
                obtain ⟨w8, HW8⟩ := nameIt (w7.alloc (.cells #[.bool stb, .int .i64 sn] 65))
                have hb8 : Below w7.heap.size w7 w8 := by rw [← HW8.out]; exact (Below.refl _ _).alloc (Nat.le_refl _) _
                have X8 : Hid (w8.heap[w7.heap.size]? = some (.cells #[.bool stb, .int .i64 sn] 65 (0, 0))) := by rw [← HW8.out]; exact bx_new _ _ _ rfl
                have HJ8 := Lib.hid (HJ.out.keep hb8)
                have XJ8 := Lib.hid (bx_keep XJ.out hb8)
                obtain ⟨sx, HSX⟩ := nameIt w7.heap.size
                rw [HSX.out] at X8
                subst hae'
                clear d0 d1 hb8 hsy HJ XJ
                go_upto_region 14 with fail
                rw [HW8.out, HSX.out]
                clear e0 e1 HW8
                obtain ⟨z0, z1⟩ := bx_cells2 X8.out
                cases stb with
                | true =>
                  have hk2 : kv2 = kv + 1 := by rw [HKN.out]; rfl
                  have hwk : IntKind.i64.wrap ((kv : Int) + 1) = (kv2 : Int) := by rw [IntWalk.i64_in _ (by omega), hk2]; simp
                  clear HKN hk2
                  go_wp2_with fail
                  go_roundg (rn - (j + 1))
                  case measure => omega
                  case rel => exact ⟨j + 1, by omega, by omega, by go_num, by rw [HKV2.out], HJ8, XJ8⟩
                | false =>
                  have hk2 : kv2 = m + 1 := by rw [HKN.out, ← HM.out]; rfl
                  have hwk : IntKind.i64.wrap ((m : Int) + 1) = (kv2 : Int) := by rw [IntWalk.i64_in _ (by omega), hk2]; simp
                  clear HKN hk2
                  go_wp2_with fail
                  go_roundg (rn - (j + 1))
                  case measure => omega
                  case rel => exact ⟨j + 1, by omega, by omega, by go_num, by rw [HKV2.out], HJ8, XJ8⟩
              · have hjr' : ¬ (j : Int) < (rn : Int) := by omega
                have hje : rt.take j = r.right := by rw [List.take_of_length_le (by rw [HRNL.out]; omega), HRT.out]
                rw [hje] at hkb ⊢
                have HKH : Hid (kf n r.right ≤ n → M0 (l ++ [r]) A (kf n r.right) = M0 l A (kf n r.right) + 1 ∧ 0 ≤ M0 l A (kf n r.right) ∧ M0 l A (kf n r.right) ≤ 32) := fun h => M0_here HAL.out h HLL.out
                have HKA : Hid (kf n r.right ≤ n → A0 (l ++ [r]) A (kf n r.right) = true) := fun h => A0_here HAL.out h
                have HKO : Hid (∀ b i, i < m → ¬ (b = A ∧ i = kf n r.right) → M0 (l ++ [r]) b i = M0 l b i ∧ A0 (l ++ [r]) b i = A0 l b i) := fun b i hi h => ⟨M0_other HAL.out (n := n) (by have := HM.out; omega) h, A0_other HAL.out (n := n) (by have := HM.out; omega) h⟩
                obtain ⟨kk, HKK⟩ := nameIt (kf n r.right)
                rw [HKK.out] at hkb HKH HKA HKO
                rw [HKK.out]
                clear hje
                by_cases hkn : kk ≤ n
                · have hkm : kk < m := by omega
                  have hkm' : (kk : Int) < (m : Int) := by omega
                  have hkn' : (kk : Int) ≤ (n : Int) := by omega
                  have hkd : decide ((kk : Int) ≤ (n : Int)) = true := by simpa using hkn'
                  have hk0 : (0 : Int) ≤ (kk : Int) := by omega
                  obtain ⟨hn1, hn2, hn3⟩ := HKH.out hkn
                  have HN2 := Lib.hid (HKA.out hkn)
                  obtain ⟨g1, HG1⟩ := nameIt (u.r1 A)
                  obtain ⟨g2, HG2⟩ := nameIt (u.r2 A)
                  obtain ⟨g3, HG3⟩ := nameIt (u.r3 A)
                  have k0 := (bx_cells2 XJ.out).1
                  have k1 := (bx_cells8 HJ.out.box).2.2.2.2.2.1
                  have k2 := HJ.out.ut.h1.head hAN
                  have k3 := HJ.out.ut.h1.cell hAN hkm
                  rw [HG1.out] at k2 k3
                  obtain ⟨mv, HMV⟩ := nameIt (M0 l A kk)
                  rw [HMV.out] at k3 hn1 hn2 hn3
                  obtain ⟨mv2, HMV2⟩ := nameIt (M0 (l ++ [r]) A kk)
                  rw [HMV2.out] at hn1
                  have hwv : IntKind.i64.wrap (mv + 1) = mv2 := by rw [IntWalk.i64_in _ (by omega), hn1]
                  have i0 := aft_cell k0
                  have i1 := aft_cell k1
                  have i2 := aft_cell k2
                  have i3 := aft_cell k3
                  clear k0 k1 k2 k3 hn1
                  go_upto_region 19 with fail
                  refine wp_region_after_tail 13 (by kernel_rfl) (by kernel_rfl) ?_
                  simp only [List.take_succ_cons, List.take_zero, List.drop_succ_cons, List.drop_zero]
                  repeat (go_big_quiet_step (fail))
                  refine wpQuiet_nil ?_
                  rintro w9 ⟨⟨_, hb9⟩, rfl⟩
                  have HJ9 := Lib.hid (HJ.out.keep hb9)
                  have XJ9 := Lib.hid (bx_keep XJ.out hb9)
                  have e0 := HJ9.out.ut.h1.cell hAN hkm
                  have e9 := HJ9.out.ut.h1.free hAN kk
                  rw [HG1.out] at e0 e9
                  have HJA : Hid (CJ w1 u hb #[.int .i64 gt, .int .i64 (N : Int), .int .i64 gs, .slice (some ⟨rbk, ro, none⟩) rl rcap, .int .i64 (n : Int), .slice (some ⟨u.t1, 0, none⟩) N N, .slice (some ⟨u.t2, 0, none⟩) N N, .slice (some ⟨u.t3, 0, none⟩) N N] N m (M0 (l ++ [r])) (A0 l) (A0 l) (w9.setCell ⟨g1, kk, none⟩ (.int .i64 mv2))) := by
                    rw [← HG1.out]
                    exact HJ9.out.set1 hAN hkm (fun b i _ hi => by
                      by_cases e : b = A ∧ i = kk
                      · rw [if_pos e, e.1, e.2, HMV2.out]
                      · rw [if_neg e, (HKO.out b i hi e).1])
                  have XA : Hid ((w9.setCell ⟨g1, kk, none⟩ (.int .i64 mv2)).heap[rbx]? = some (.cells #[.int .i64 (A : Int), .slice ar rn cr] 48 (0, 0))) := by
                    refine bx_other XJ9.out ?_ _ _
                    have h1 := (HJ9.out.ut.h1.ne A hAN).2
                    have h2 := HJ9.out.ut.bs
                    have h3 := HJ9.out.lo
                    have h4 := HRX.out
                    rw [HG1.out] at h1
                    omega
                  clear hb9 i0 i1 i2 i3
                  go_upto_region 20 with fail
                  obtain ⟨wa, HWA⟩ := nameIt (w9.setCell ⟨g1, kk, none⟩ (.int .i64 mv2))
                  rw [HWA.out] at HJA XA
                  rw [HWA.out]
                  clear e0 e9 HWA HJ9 XJ9 HJ XJ hwv
                  have HJD := Lib.hid (HJA.out.keep (Below.refl _ _).drew)
                  have XD := Lib.hid (bx_keep XA.out (Below.refl _ _).drew)
                  obtain ⟨wdr, HWDR⟩ := nameIt wa.drew
                  rw [HWDR.out] at HJD XD
                  clear HJA XA
                  have HJB : Hid (CJ w1 u hb #[.int .i64 gt, .int .i64 (N : Int), .int .i64 gs, .slice (some ⟨rbk, ro, none⟩) rl rcap, .int .i64 (n : Int), .slice (some ⟨u.t1, 0, none⟩) N N, .slice (some ⟨u.t2, 0, none⟩) N N, .slice (some ⟨u.t3, 0, none⟩) N N] N m (M0 (l ++ [r])) (A0 (l ++ [r])) (A0 l) (wdr.setCell ⟨g2, kk, none⟩ (.bool true))) := by
                    rw [← HG2.out]
                    exact HJD.out.set2 hAN hkm (fun b i _ hi => by
                      by_cases e : b = A ∧ i = kk
                      · rw [if_pos e, e.1, e.2, HN2.out]
                      · rw [if_neg e, (HKO.out b i hi e).2])
                  have HJC : Hid (CJ w1 u hb #[.int .i64 gt, .int .i64 (N : Int), .int .i64 gs, .slice (some ⟨rbk, ro, none⟩) rl rcap, .int .i64 (n : Int), .slice (some ⟨u.t1, 0, none⟩) N N, .slice (some ⟨u.t2, 0, none⟩) N N, .slice (some ⟨u.t3, 0, none⟩) N N] N m (M0 (l ++ [r])) (A0 (l ++ [r])) (A0 (l ++ [r])) ((wdr.setCell ⟨g2, kk, none⟩ (.bool true)).setCell ⟨g3, kk, none⟩ (.bool true))) := by
                    rw [← HG3.out]
                    exact HJB.out.set3 hAN hkm (fun b i _ hi => by
                      by_cases e : b = A ∧ i = kk
                      · rw [if_pos e, e.1, e.2, HN2.out]
                      · rw [if_neg e, (HKO.out b i hi e).2])
                  rw [← HTK.out] at HJC
                  have HSA : Hid ((fun w' => w'.cell? ⟨hb, 0 + 6, none⟩ = some (.slice (some ⟨u.t2, 0, none⟩) N N) ∧ w'.cell? ⟨hb, 0 + 7, none⟩ = some (.slice (some ⟨u.t3, 0, none⟩) N N) ∧ w'.cell? ⟨rbx, 0, none⟩ = some (.int .i64 (A : Int)) ∧ w'.cell? ⟨u.t2, A, none⟩ = some (.slice (some ⟨g2, 0, none⟩) m m) ∧ w'.cell? ⟨u.t3, A, none⟩ = some (.slice (some ⟨g3, 0, none⟩) m m)) wdr) := ⟨(bx_cells8 HJD.out.box).2.2.2.2.2.2.1, (bx_cells8 HJD.out.box).2.2.2.2.2.2.2, (bx_cells2 XD.out).1, by rw [← HG2.out]; exact HJD.out.ut.h2.head hAN, by rw [← HG3.out]; exact HJD.out.ut.h3.head hAN⟩
                  have HSB : Hid ((fun w' => w'.cell? ⟨hb, 0 + 6, none⟩ = some (.slice (some ⟨u.t2, 0, none⟩) N N) ∧ w'.cell? ⟨hb, 0 + 7, none⟩ = some (.slice (some ⟨u.t3, 0, none⟩) N N) ∧ w'.cell? ⟨rbx, 0, none⟩ = some (.int .i64 (A : Int)) ∧ w'.cell? ⟨u.t2, A, none⟩ = some (.slice (some ⟨g2, 0, none⟩) m m) ∧ w'.cell? ⟨u.t3, A, none⟩ = some (.slice (some ⟨g3, 0, none⟩) m m)) (wdr.setCell ⟨g2, kk, none⟩ (.bool true))) := by
                    have y2 : rbx ≠ g2 := by
                      have := (HJD.out.ut.h2.ne A hAN).2
                      have := HJD.out.ut.bs
                      have := HJD.out.lo
                      have := HRX.out
                      rw [← HG2.out]
                      omega
                    have y3 := HJB.out
                    exact ⟨(bx_cells8 y3.box).2.2.2.2.2.2.1, (bx_cells8 y3.box).2.2.2.2.2.2.2, (bx_cells2 (bx_other XD.out y2 _ _)).1, by rw [← HG2.out]; rw [← HG2.out] at y3; exact y3.ut.h2.head hAN, by rw [← HG3.out]; exact y3.ut.h3.head hAN⟩
                  have e2 := HJD.out.ut.h2.cell hAN hkm
                  have e9 := HJD.out.ut.h2.free hAN kk
                  rw [HG2.out] at e2 e9
                  have d2 := HJB.out.ut.h3.cell hAN hkm
                  have d9 := HJB.out.ut.h3.free hAN kk
                  rw [HG3.out] at d2 d9
                  obtain ⟨wd2, HWD2⟩ := nameIt (wdr.setCell ⟨g2, kk, none⟩ (.bool true))
                  rw [HWD2.out] at HSB d2 d9 HJC
                  refine wp_region_U (S := (fun w' => w'.cell? ⟨hb, 0 + 6, none⟩ = some (.slice (some ⟨u.t2, 0, none⟩) N N) ∧ w'.cell? ⟨hb, 0 + 7, none⟩ = some (.slice (some ⟨u.t3, 0, none⟩) N N) ∧ w'.cell? ⟨rbx, 0, none⟩ = some (.int .i64 (A : Int)) ∧ w'.cell? ⟨u.t2, A, none⟩ = some (.slice (some ⟨g2, 0, none⟩) m m) ∧ w'.cell? ⟨u.t3, A, none⟩ = some (.slice (some ⟨g3, 0, none⟩) m m))) 20 (by kernel_rfl) (fun inv => ?_)
                  rw [HWDR.out]
                  have HSD := HSA
                  refine wpU_take (i := 0) (v := .pointer (some ⟨hb, 0, none⟩)) rfl inv (by kernel_rfl) (by kernel_rfl) (by decide) (by decide) (by kernel_rfl) (by kernel_rfl) (by kernel_rfl) (fun _ _ _ h => h) (Or.inl ⟨by rfl, fun w' hw' => ?_⟩) HSD.out (fun inv => ?_)
                  · obtain ⟨h0, h1, h2, h3, h4⟩ := hw'
                    go_simp
                  try simp only [Act.put, List.setIfInBounds_toArray, List.set_cons_zero, List.set_cons_succ]
                  refine wpU_take (i := 1) (v := .pointer (some ⟨hb, 0, none⟩)) rfl inv (by kernel_rfl) (by kernel_rfl) (by decide) (by decide) (by kernel_rfl) (by kernel_rfl) (by kernel_rfl) (fun _ _ _ h => h) (Or.inl ⟨by rfl, fun w' hw' => ?_⟩) HSD.out (fun inv => ?_)
                  · obtain ⟨h0, h1, h2, h3, h4⟩ := hw'
                    go_simp
                  try simp only [Act.put, List.setIfInBounds_toArray, List.set_cons_zero, List.set_cons_succ]
                  refine wpU_take (i := 2) (v := .pointer (some ⟨hb, 0 + 6, none⟩)) rfl inv (by kernel_rfl) (by kernel_rfl) (by decide) (by decide) (by kernel_rfl) (by kernel_rfl) (by kernel_rfl) (fun _ _ _ h => h) (Or.inl ⟨by rfl, fun w' hw' => ?_⟩) HSD.out (fun inv => ?_)
                  · obtain ⟨h0, h1, h2, h3, h4⟩ := hw'
                    go_simp
                  try simp only [Act.put, List.setIfInBounds_toArray, List.set_cons_zero, List.set_cons_succ]
                  refine wpU_take (i := 3) (v := .slice (some ⟨u.t2, 0, none⟩) N N) rfl inv (by kernel_rfl) (by kernel_rfl) (by decide) (by decide) (by kernel_rfl) (by kernel_rfl) (by kernel_rfl) (fun _ _ _ h => h) (Or.inl ⟨by rfl, fun w' hw' => ?_⟩) HSD.out (fun inv => ?_)
                  · obtain ⟨h0, h1, h2, h3, h4⟩ := hw'
                    go_simp
                  try simp only [Act.put, List.setIfInBounds_toArray, List.set_cons_zero, List.set_cons_succ]
                  refine wpU_take (i := 4) (v := .pointer (some ⟨rbx, 0, none⟩)) rfl inv (by kernel_rfl) (by kernel_rfl) (by decide) (by decide) (by kernel_rfl) (by kernel_rfl) (by kernel_rfl) (fun _ _ _ h => h) (Or.inl ⟨by rfl, fun w' hw' => ?_⟩) HSD.out (fun inv => ?_)
                  · obtain ⟨h0, h1, h2, h3, h4⟩ := hw'
                    go_simp
                  try simp only [Act.put, List.setIfInBounds_toArray, List.set_cons_zero, List.set_cons_succ]
                  refine wpU_take (i := 5) (v := .int .i64 (A : Int)) rfl inv (by kernel_rfl) (by kernel_rfl) (by decide) (by decide) (by kernel_rfl) (by kernel_rfl) (by kernel_rfl) (fun _ _ _ h => h) (Or.inl ⟨by rfl, fun w' hw' => ?_⟩) HSD.out (fun inv => ?_)
                  · obtain ⟨h0, h1, h2, h3, h4⟩ := hw'
                    go_simp
                  try simp only [Act.put, List.setIfInBounds_toArray, List.set_cons_zero, List.set_cons_succ]
                  refine wpU_take (i := 6) (v := .pointer (some ⟨u.t2, A, none⟩)) rfl inv (by kernel_rfl) (by kernel_rfl) (by decide) (by decide) (by kernel_rfl) (by kernel_rfl) (by kernel_rfl) (fun _ _ _ h => h) (Or.inl ⟨by rfl, fun w' hw' => ?_⟩) HSD.out (fun inv => ?_)
                  · obtain ⟨h0, h1, h2, h3, h4⟩ := hw'
                    go_simp
                  try simp only [Act.put, List.setIfInBounds_toArray, List.set_cons_zero, List.set_cons_succ]
                  refine wpU_take (i := 7) (v := .slice (some ⟨g2, 0, none⟩) m m) rfl inv (by kernel_rfl) (by kernel_rfl) (by decide) (by decide) (by kernel_rfl) (by kernel_rfl) (by kernel_rfl) (fun _ _ _ h => h) (Or.inl ⟨by rfl, fun w' hw' => ?_⟩) HSD.out (fun inv => ?_)
                  · obtain ⟨h0, h1, h2, h3, h4⟩ := hw'
                    go_simp
                  try simp only [Act.put, List.setIfInBounds_toArray, List.set_cons_zero, List.set_cons_succ]
                  refine wpU_take (i := 8) (v := .int .i64 (kk : Int)) rfl inv (by kernel_rfl) (by kernel_rfl) (by decide) (by decide) (by kernel_rfl) (by kernel_rfl) (by kernel_rfl) (fun _ _ _ h => h) (Or.inl ⟨by rfl, fun w' hw' => ?_⟩) HSD.out (fun inv => ?_)
                  · obtain ⟨h0, h1, h2, h3, h4⟩ := hw'
                    go_simp
                  try simp only [Act.put, List.setIfInBounds_toArray, List.set_cons_zero, List.set_cons_succ]
                  refine wpU_take (i := 9) (v := .pointer (some ⟨hb, 0, none⟩)) rfl inv (by kernel_rfl) (by kernel_rfl) (by decide) (by decide) (by kernel_rfl) (by kernel_rfl) (by kernel_rfl) (fun _ _ _ h => h) (Or.inl ⟨by rfl, fun w' hw' => ?_⟩) HSD.out (fun inv => ?_)
                  · obtain ⟨h0, h1, h2, h3, h4⟩ := hw'
                    go_simp
                  try simp only [Act.put, List.setIfInBounds_toArray, List.set_cons_zero, List.set_cons_succ]
                  refine wpU_take (i := 10) (v := .pointer (some ⟨hb, 0, none⟩)) rfl inv (by kernel_rfl) (by kernel_rfl) (by decide) (by decide) (by kernel_rfl) (by kernel_rfl) (by kernel_rfl) (fun _ _ _ h => h) (Or.inl ⟨by rfl, fun w' hw' => ?_⟩) HSD.out (fun inv => ?_)
                  · obtain ⟨h0, h1, h2, h3, h4⟩ := hw'
                    go_simp
                  try simp only [Act.put, List.setIfInBounds_toArray, List.set_cons_zero, List.set_cons_succ]
                  refine wpU_take (i := 11) (v := .pointer (some ⟨hb, 0 + 7, none⟩)) rfl inv (by kernel_rfl) (by kernel_rfl) (by decide) (by decide) (by kernel_rfl) (by kernel_rfl) (by kernel_rfl) (fun _ _ _ h => h) (Or.inl ⟨by rfl, fun w' hw' => ?_⟩) HSD.out (fun inv => ?_)
                  · obtain ⟨h0, h1, h2, h3, h4⟩ := hw'
                    go_simp
                  try simp only [Act.put, List.setIfInBounds_toArray, List.set_cons_zero, List.set_cons_succ]
                  refine wpU_take (i := 12) (v := .slice (some ⟨u.t3, 0, none⟩) N N) rfl inv (by kernel_rfl) (by kernel_rfl) (by decide) (by decide) (by kernel_rfl) (by kernel_rfl) (by kernel_rfl) (fun _ _ _ h => h) (Or.inl ⟨by rfl, fun w' hw' => ?_⟩) HSD.out (fun inv => ?_)
                  · obtain ⟨h0, h1, h2, h3, h4⟩ := hw'
                    go_simp
                  try simp only [Act.put, List.setIfInBounds_toArray, List.set_cons_zero, List.set_cons_succ]
                  refine wpU_take (i := 13) (v := .pointer (some ⟨rbx, 0, none⟩)) rfl inv (by kernel_rfl) (by kernel_rfl) (by decide) (by decide) (by kernel_rfl) (by kernel_rfl) (by kernel_rfl) (fun _ _ _ h => h) (Or.inl ⟨by rfl, fun w' hw' => ?_⟩) HSD.out (fun inv => ?_)
                  · obtain ⟨h0, h1, h2, h3, h4⟩ := hw'
                    go_simp
                  try simp only [Act.put, List.setIfInBounds_toArray, List.set_cons_zero, List.set_cons_succ]
                  refine wpU_take (i := 14) (v := .int .i64 (A : Int)) rfl inv (by kernel_rfl) (by kernel_rfl) (by decide) (by decide) (by kernel_rfl) (by kernel_rfl) (by kernel_rfl) (fun _ _ _ h => h) (Or.inl ⟨by rfl, fun w' hw' => ?_⟩) HSD.out (fun inv => ?_)
                  · obtain ⟨h0, h1, h2, h3, h4⟩ := hw'
                    go_simp
                  try simp only [Act.put, List.setIfInBounds_toArray, List.set_cons_zero, List.set_cons_succ]
                  refine wpU_take (i := 15) (v := .pointer (some ⟨u.t3, A, none⟩)) rfl inv (by kernel_rfl) (by kernel_rfl) (by decide) (by decide) (by kernel_rfl) (by kernel_rfl) (by kernel_rfl) (fun _ _ _ h => h) (Or.inl ⟨by rfl, fun w' hw' => ?_⟩) HSD.out (fun inv => ?_)
                  · obtain ⟨h0, h1, h2, h3, h4⟩ := hw'
                    go_simp
                  try simp only [Act.put, List.setIfInBounds_toArray, List.set_cons_zero, List.set_cons_succ]
                  refine wpU_take (i := 16) (v := .slice (some ⟨g3, 0, none⟩) m m) rfl inv (by kernel_rfl) (by kernel_rfl) (by decide) (by decide) (by kernel_rfl) (by kernel_rfl) (by kernel_rfl) (fun _ _ _ h => h) (Or.inl ⟨by rfl, fun w' hw' => ?_⟩) HSD.out (fun inv => ?_)
                  · obtain ⟨h0, h1, h2, h3, h4⟩ := hw'
                    go_simp
                  try simp only [Act.put, List.setIfInBounds_toArray, List.set_cons_zero, List.set_cons_succ]
                  refine wpU_take (i := 17) (v := .int .i64 (kk : Int)) rfl inv (by kernel_rfl) (by kernel_rfl) (by decide) (by decide) (by kernel_rfl) (by kernel_rfl) (by kernel_rfl) (fun _ _ _ h => h) (Or.inl ⟨by rfl, fun w' hw' => ?_⟩) HSD.out (fun inv => ?_)
                  · obtain ⟨h0, h1, h2, h3, h4⟩ := hw'
                    go_simp
                  try simp only [Act.put, List.setIfInBounds_toArray, List.set_cons_zero, List.set_cons_succ]
                  refine wpU_take (i := 18) (v := .pointer (some ⟨g2, kk, none⟩)) rfl inv (by kernel_rfl) (by kernel_rfl) (by decide) (by decide) (by kernel_rfl) (by kernel_rfl) (by kernel_rfl) (fun _ _ _ h => h) (Or.inl ⟨by rfl, fun w' hw' => ?_⟩) HSD.out (fun inv => ?_)
                  · obtain ⟨h0, h1, h2, h3, h4⟩ := hw'
                    go_simp
                  try simp only [Act.put, List.setIfInBounds_toArray, List.set_cons_zero, List.set_cons_succ]
                  refine wpU_one (i := 19) (by kernel_rfl) rfl (fun K hK => ?_)
                  replace inv := inv_setc (i := 19) inv (by kernel_rfl) (by decide)
                  go_simp
                  rw [HWD2.out]
                  refine hK.out _ _ (fun _ => HSB.out) ?_
                  clear hK K
                  try simp only [Act.put, List.setIfInBounds_toArray, List.set_cons_zero, List.set_cons_succ]
                  refine wpU_one (i := 20) (by kernel_rfl) rfl (fun K hK => ?_)
                  go_simp
                  refine hK.out _ _ (fun h => absurd (show true = false from h) (by decide)) ?_
                  clear hK K
                  try simp only [Act.put, List.setIfInBounds_toArray, List.set_cons_zero, List.set_cons_succ]
                  refine wpU_one (i := 21) (by kernel_rfl) rfl (fun K hK => ?_)
                  go_simp
                  refine hK.out _ _ (fun h => absurd (show true = false from h) (by decide)) ?_
                  clear hK K
                  try simp only [Act.put, List.setIfInBounds_toArray, List.set_cons_zero, List.set_cons_succ]
                  refine wpU_done (by kernel_rfl) ?_ _
                  go_wp2_with fail
                  go_roundg (rl - (q + 1))
                  case measure => omega
                  case rel => exact ⟨q + 1, by omega, by omega, by go_num, HJC⟩
                · have hkd : decide ((kk : Int) ≤ (n : Int)) = false := by simp; omega
                  have HJN : Hid (CJ w1 u hb #[.int .i64 gt, .int .i64 (N : Int), .int .i64 gs, .slice (some ⟨rbk, ro, none⟩) rl rcap, .int .i64 (n : Int), .slice (some ⟨u.t1, 0, none⟩) N N, .slice (some ⟨u.t2, 0, none⟩) N N, .slice (some ⟨u.t3, 0, none⟩) N N] N m (M0 (g.rules.take (q + 1))) (A0 (g.rules.take (q + 1))) (A0 (g.rules.take (q + 1))) w7) := by
                    rw [HTK.out]
                    exact HJ.out.eq (fun b i _ hi => ((HKO.out b i hi (by have := HM.out; omega)).1).symm) (fun b i _ hi => ((HKO.out b i hi (by have := HM.out; omega)).2).symm) (fun b i _ hi => ((HKO.out b i hi (by have := HM.out; omega)).2).symm)
                  go_wp2_with fail
                  go_roundg (rl - (q + 1))
                  case measure => omega
                  case rel => exact ⟨q + 1, by omega, by omega, by go_num, HJN⟩
        ·   skip
            have hlt' : ¬ (q : Int) < (rl : Int) := by omega
            have hqe : g.rules.take q = g.rules := List.take_of_length_le (by rw [HRL.out]; omega)
            rw [hqe] at HJ
            clear hqe
            obtain ⟨x0, x1, x2, x3⟩ := HGB.out w5 HJ.out.bel
            go_wp2_with fail
            with_reducible refine (HGBO.out _).mono ?_
            rintro e w6 ⟨et, re, rfl, hge, hb6⟩
            have HCK1 : Hid (∃ elo ehi d, CK w1 gt gs (.slice ra rl rcap) N n g.rules hb elo ehi et re 1 d (fun _ _ => false) w6) := by
              have h1 := grd_tb hge
              exact ⟨_, _, _, HJ.out.up HM.out hb6 (te := 4) h1⟩
            clear hge hb6 x0 x1 x2 x3 HJ
            obtain ⟨elo, ehi, d1, hck1⟩ := HCK1.out
            have HCK2 : Hid (∃ d, CK w1 gt gs (.slice ra rl rcap) N n g.rules hb elo ehi et re 1 d (ef g.rules mo 1) w6) := ⟨d1, hck1.eq (fun a k _ _ => (ef_start (by omega)).symm)⟩
            clear HCK1 hck1
            obtain ⟨m2, HM2⟩ := nameIt (2 * mo)
            obtain ⟨m3, HM3⟩ := nameIt (m2 + 2)
            have hm3 : m3 = 2 * mo + 2 := by have := HM2.out; have := HM3.out; omega
            have hw2 : IntKind.i64.wrap (2 * (mo : Int)) = (m2 : Int) := by rw [IntWalk.i64_in _ (by omega), ← HM2.out]; simp
            have hw3 : IntKind.i64.wrap ((m2 : Int) + 2) = (m3 : Int) := by rw [IntWalk.i64_in _ (by have := HM2.out; omega), ← HM3.out]; simp
            have HM3E := Lib.hid hm3
            clear hm3
            go_wp2_with fail
            go_loopg [15, 16, 17, 18] (m3 + 1) (fun gg v15 v16 v17 v18 wr => ∃ (h : Nat), 1 ≤ h ∧ h ≤ m3 + 1 ∧ m3 + 1 - h ≤ gg ∧ v16 = .int .i64 h ∧ Hid (∃ d, CK w1 gt gs (.slice ra rl rcap) N n g.rules hb elo ehi et re h d (ef g.rules mo h) wr) ∧
              ((h ≤ mo + 1 ∧ v15 = .slice none 0 0) ∨ (mo + 2 ≤ h ∧ ∃ olo ohi ot ro, v15 = .slice (some ⟨ot, 0, none⟩) N N ∧ Hid (TO w1.heap.size hb elo ehi N n olo ohi ot ro (fun a k => cap9 (cnt g.rules (mo + 1) a k)) wr))))
            case atStart => exact ⟨1, by omega, by omega, by omega, rfl, HCK2, .inl ⟨by omega, rfl⟩⟩
            case round =>
              clear HCK2
              obtain ⟨h, hh1, hh2, hgh, rfl, HCK, HOUT⟩ := hrel
              obtain ⟨w7, rfl⟩ : ∃ ww : World, ww = wr := ⟨_, rfl⟩
              obtain ⟨d, hck⟩ := HCK.out
              have HK := Lib.hid hck
              clear hck HCK
              have HHB : Hid (d.hb = hb) := HK.out.pl.2.2.2
              have hm3' := HM3E.out
              by_cases hle : h ≤ m3
              · have hle' : (h : Int) ≤ (m3 : Int) := by omega
                have hled : decide ((h : Int) ≤ (m3 : Int)) = true := by simpa using hle'
                go_upto_if 129 with fail
                go_cut [15, 17, 18] (fun t15 t17 t18 wx => Hid (CK w1 gt gs (.slice ra rl rcap) N n g.rules hb elo ehi et re h d (ef g.rules mo (h + 1)) wx) ∧ ((h ≤ mo ∧ t15 = .slice none 0 0) ∨ (mo + 1 ≤ h ∧ ∃ olo ohi ot ro, t15 = .slice (some ⟨ot, 0, none⟩) N N ∧ Hid (TO w1.heap.size hb elo ehi N n olo ohi ot ro (fun a k => cap9 (cnt g.rules (mo + 1) a k)) wx))))
                case first =>
                  by_cases hmo1 : mo < h
                  · have hmd : decide ((mo : Int) < (h : Int)) = true := by simp; omega
                    obtain ⟨bb, HBB⟩ := nameIt (decide (h = mo + 1))
                    go_upto_region 29 with fail
                    go_cut [131] (fun t131 wx => t131 = .bool bb ∧ wx = w7)
                    case first =>
                      rcases HOUT with ⟨ho, rfl⟩ | ⟨ho, olo, ohi, ot, ro, rfl, HTO⟩
                      · have hbb : bb = true := by rw [← HBB.out]; simp; omega
                        subst hbb
                        have hiso : ∀ W : World, Sem.run Try.prog (binOp BinOp.eql 29 (.slice none 0 0) (.slice none 0 0)) W = .ok (.bool true) W := fun _ => rfl
                        go_wp2_with fail
                        go_meet
                        exact ⟨rfl, rfl⟩
                      · have hbb : bb = false := by rw [← HBB.out]; simp; omega
                        subst hbb
                        have hiso : ∀ W : World, Sem.run Try.prog (binOp BinOp.eql 29 (.slice (some ⟨ot, 0, none⟩) N N) (.slice none 0 0)) W = .ok (.bool false) W := fun _ => rfl
                        go_wp2_with fail
                        go_meet
                        exact ⟨rfl, rfl⟩
                    case rest =>
                    obtain ⟨rfl, hwc⟩ := hcut
                    subst hwc
                    obtain ⟨w7, rfl⟩ : ∃ ww : World, ww = wc := ⟨_, rfl⟩
                    go_upto_if 131 with fail
                    go_cut [15] (fun t15 wx => ∃ olo ohi ot ro, t15 = .slice (some ⟨ot, 0, none⟩) N N ∧ wx = w7 ∧ Hid (TO w1.heap.size hb elo ehi N n olo ohi ot ro (fun a k => cap9 (cnt g.rules (mo + 1) a k)) wx))
                    case first =>
                      rcases HOUT with ⟨ho, rfl⟩ | ⟨ho, olo, ohi, ot, ro, rfl, HTO⟩
                      · have hhe : h = mo + 1 := by omega
                        have hbb : bb = true := by rw [← HBB.out]; simp; omega
                        subst hbb
                        have HTO : Hid (TO w1.heap.size hb elo ehi N n d.lo d.hi d.tm d.rm (fun a k => cap9 (cnt g.rules (mo + 1) a k)) w7) := by
                          rw [← hhe]; exact HK.out.out
                        have k5 := (bx_cells8 HK.out.hi.box).2.2.2.2.2.1
                        rw [HHB.out] at k5
                        clear hhe
                        go_wp2_with fail
                        go_meet
                        exact ⟨d.lo, d.hi, d.tm, d.rm, rfl, rfl, HTO⟩
                      · have hbb : bb = false := by rw [← HBB.out]; simp; omega
                        subst hbb
                        go_wp2_with fail
                        go_meet
                        exact ⟨olo, ohi, ot, ro, rfl, rfl, HTO⟩
                    case rest =>
                      obtain ⟨olo, ohi, ot, ro, rfl, hwc, HTO⟩ := hcut
                      subst hwc
                      clear HOUT
                      obtain ⟨w7, rfl⟩ : ∃ ww : World, ww = wc := ⟨_, rfl⟩
                      have HK0 : Hid (CK w1 gt gs (.slice ra rl rcap) N n g.rules hb elo ehi et re h d (upt 0 0 (ef g.rules mo (h + 1)) (ef g.rules mo h)) w7) := HK.out.eq (fun a k _ _ => by rw [upt_00])
                      go_wp2_with fail
                      go_loopg [17, 18, 138] N (fun gg v17 v18 v138 wr => ∃ a : Nat, a ≤ N ∧ N - a ≤ gg ∧ v138 = .int .i64 a ∧ Hid (CK w1 gt gs (.slice ra rl rcap) N n g.rules hb elo ehi et re h d (upt a 0 (ef g.rules mo (h + 1)) (ef g.rules mo h)) wr) ∧ Hid (TO w1.heap.size hb elo ehi N n olo ohi ot ro (fun a k => cap9 (cnt g.rules (mo + 1) a k)) wr))
                      case atStart => exact ⟨0, by omega, by omega, rfl, HK0, HTO⟩
                      case round =>
                        clear HK0 HTO HK
                        obtain ⟨a, ha, hga, rfl, HK, HTO⟩ := hrel
                        obtain ⟨w8, rfl⟩ : ∃ ww : World, ww = wr := ⟨_, rfl⟩
                        by_cases haN : a < N
                        · have haN' : (a : Int) < (N : Int) := by omega
                          have ha0 : (0 : Int) ≤ (a : Int) := by omega
                          have k1 := HK.out.en.head haN
                          rw [HM.out] at k1
                          have HKJ := HK
                          have HTJ := HTO
                          go_wp2_with fail
                          clear k1
                          go_loopg [18, 146] m (fun gg v18 v146 wr => ∃ k : Nat, k ≤ m ∧ m - k ≤ gg ∧ v146 = .int .i64 k ∧ Hid (CK w1 gt gs (.slice ra rl rcap) N n g.rules hb elo ehi et re h d (upt a k (ef g.rules mo (h + 1)) (ef g.rules mo h)) wr) ∧ Hid (TO w1.heap.size hb elo ehi N n olo ohi ot ro (fun a k => cap9 (cnt g.rules (mo + 1) a k)) wr))
                          case atStart => exact ⟨0, by omega, by omega, rfl, HKJ, HTJ⟩
                          case round =>
                            clear HKJ HTJ HK HTO
                            obtain ⟨k, hk, hgk, rfl, HK, HTO⟩ := hrel
                            obtain ⟨w9, rfl⟩ : ∃ ww : World, ww = wr := ⟨_, rfl⟩
                            by_cases hkm : k < m
                            · have hkm' : (k : Int) < (m : Int) := by omega
                              have hk0 : (0 : Int) ≤ (k : Int) := by omega
                              have hkn : k < n + 1 := by rw [HM.out]; exact hkm
                              have k1 := HK.out.en.head haN
                              have k2 := HK.out.en.cell haN hkn
                              have k3 := (bx_cells8 HK.out.hi.box).2.2.2.2.2.2.2
                              rw [HHB.out] at k3
                              have k4 := HK.out.hi.tj.head haN
                              have k5 := HK.out.hi.tj.cell haN hkn
                              have HEN : Hid ((ef g.rules mo h a k || decide (cnt g.rules (h - 1) a k < cnt g.rules h a k)) = ef g.rules mo (h + 1) a k) := ef_next (by omega)
                              rw [upt_here] at k2
                              rw [HM.out] at k1 k4
                              obtain ⟨ev, HEV⟩ := nameIt (ef g.rules mo h a k)
                              obtain ⟨jv, HJV⟩ := nameIt (decide (cnt g.rules (h - 1) a k < cnt g.rules h a k))
                              rw [HEV.out, HJV.out] at HEN
                              rw [HEV.out] at k2
                              rw [HJV.out] at k5
                              obtain ⟨g1, HG1⟩ := nameIt (re a)
                              obtain ⟨g2, HG2⟩ := nameIt (d.rj a)
                              obtain ⟨tj, HTJ⟩ := nameIt d.tj
                              rw [HG1.out] at k1 k2
                              rw [HG2.out] at k4 k5
                              rw [HTJ.out] at k3 k4
                              have HNX : Hid (∀ wz, Below w9.heap.size w9 wz → CK w1 gt gs (.slice ra rl rcap) N n g.rules hb elo ehi et re h d (upt a (k + 1) (ef g.rules mo (h + 1)) (ef g.rules mo h)) (wz.setCell ⟨g1, k, none⟩ (.bool (ev || jv))) ∧ TO w1.heap.size hb elo ehi N n olo ohi ot ro (fun a k => cap9 (cnt g.rules (mo + 1) a k)) (wz.setCell ⟨g1, k, none⟩ (.bool (ev || jv)))) := by
                                intro wz hbz
                                have y := HK.out.keep hbz
                                have hne := (y.en.ne a haN).2
                                have hp := y.pl
                                refine ⟨?_, ?_⟩
                                · rw [← HG1.out]
                                  exact y.set haN hkn (fun b i _ _ => by rw [upt_step, HEN.out])
                                · rw [HG1.out] at hne
                                  exact (HTO.out.keep hbz).other hne hp.2.1 _ _
                              have i1 := aft_cell k1
                              have i2 := aft_cell k2
                              have i3 := aft_cell k3
                              have i4 := aft_cell k4
                              have i5 := aft_cell k5
                              clear k1 k2 k3 k4 k5 HEN HEV HJV
                              go_upto_region 37 with fail
                              cases ev <;> (
                                refine wp_region_after_tail 25 (by kernel_rfl) (by kernel_rfl) ?_
                                simp only [List.take_succ_cons, List.take_zero, List.drop_succ_cons, List.drop_zero]
                                repeat (go_big_quiet_step (fail))
                                refine wpQuiet_nil ?_
                                rintro wz ⟨⟨_, hbz⟩, rfl⟩
                                have y := HK.out.keep hbz
                                have e0 := y.en.cell haN hkn
                                have e9 := y.en.free haN k
                                rw [HG1.out] at e0 e9
                                obtain ⟨hx1, hx2⟩ := HNX.out wz hbz
                                have HX1 := Lib.hid hx1
                                have HX2 := Lib.hid hx2
                                clear hbz i1 i2 i3 i4 i5 HNX y hx1 hx2
                                go_wp2_with fail
                                go_roundg (m - (k + 1))
                                case measure => omega
                                case rel => exact ⟨k + 1, by omega, by omega, by go_num, by simpa using HX1, by simpa using HX2⟩)
                            · have hkm' : ¬ (k : Int) < (m : Int) := by omega
                              have hke : k = m := by omega
                              have HKN : Hid (CK w1 gt gs (.slice ra rl rcap) N n g.rules hb elo ehi et re h d (upt (a + 1) 0 (ef g.rules mo (h + 1)) (ef g.rules mo h)) w9) := by
                                have y := HK.out
                                rw [hke, ← HM.out] at y
                                exact y.eq (fun b i _ hi => upt_row hi)
                              clear hke
                              go_wp2_with fail
                              go_roundg (N - (a + 1))
                              case measure => omega
                              case rel => exact ⟨a + 1, by omega, by omega, by go_num, HKN, HTO⟩
                        · have haN' : ¬ (a : Int) < (N : Int) := by omega
                          have hae : a = N := by omega
                          have HKN : Hid (CK w1 gt gs (.slice ra rl rcap) N n g.rules hb elo ehi et re h d (ef g.rules mo (h + 1)) w8) := by
                            have y := HK.out
                            rw [hae] at y
                            exact y.eq (fun b i hb _ => upt_end hb)
                          have hmh : mo + 1 ≤ h := hmo1
                          clear hae
                          go_wp2_with fail
                          go_meet
                          exact ⟨HKN, .inr ⟨hmh, olo, ohi, ot, ro, rfl, HTO⟩⟩
                  · have hmd : decide ((mo : Int) < (h : Int)) = false := by simp; omega
                    have HKN : Hid (CK w1 gt gs (.slice ra rl rcap) N n g.rules hb elo ehi et re h d (ef g.rules mo (h + 1)) w7) := HK.out.eq (fun a k _ _ => by rw [ef_start (by omega), ef_start (by omega)])
                    have hmh : h ≤ mo := by omega
                    rcases HOUT with ⟨ho, rfl⟩ | ⟨ho, olo, ohi, ot, ro, rfl, HTO⟩
                    · go_wp2_with fail
                      go_meet
                      exact ⟨HKN, .inl ⟨hmh, rfl⟩⟩
                    · exact absurd ho (by omega)
                case rest =>
                  obtain ⟨HKN, HO2⟩ := hcut
                  obtain ⟨w8, rfl⟩ : ∃ ww : World, ww = wc := ⟨_, rfl⟩
                  have HUPW := Lib.hid (HUP.out h d w8 (HB01.out.trans (HKN.out.bel.mono HB01.out.size)) HKN.out.hi)
                  rw [HHB.out] at HUPW
                  clear HOUT HK
                  go_upto_region 40 with fail
                  go_wp2_with fail
                  with_reducible refine HUPW.out.mono ?_
                  rintro e w9 hpo
                  have hpo2 := hpo
                  rw [← HHB.out] at hpo2
                  have HCN : Hid (∃ d, CK w1 gt gs (.slice ra rl rcap) N n g.rules hb elo ehi et re (h + 1) d (ef g.rules mo (h + 1)) w9) := HKN.out.next hh1 hpo2
                  obtain ⟨rfl, d', e1, e2, e3, hg⟩ := hpo
                  have HON : Hid (∀ olo ohi ot ro, TO w1.heap.size hb elo ehi N n olo ohi ot ro (fun a k => cap9 (cnt g.rules (mo + 1) a k)) w8 → TO w1.heap.size hb elo ehi N n olo ohi ot ro (fun a k => cap9 (cnt g.rules (mo + 1) a k)) w9) := by
                    intro olo ohi ot ro y
                    have hp := HKN.out.pl
                    have hen := HKN.out.en.pl
                    exact y.next (hb' := hb) rfl hp.2.1 (by omega) hg
                  clear e1 e2 e3 hg hpo2
                  rcases HO2 with ⟨ho, rfl⟩ | ⟨ho, olo, ohi, ot, ro, rfl, HTO⟩
                  · go_wp2_with fail
                    go_roundg (m3 + 1 - (h + 1))
                    case measure => omega
                    case rel => exact ⟨h + 1, by omega, by omega, by omega, by go_num, HCN, .inl ⟨by omega, rfl⟩⟩
                  · have HTN := Lib.hid (HON.out _ _ _ _ HTO.out)
                    go_wp2_with fail
                    go_roundg (m3 + 1 - (h + 1))
                    case measure => omega
                    case rel => exact ⟨h + 1, by omega, by omega, by omega, by go_num, HCN, .inr ⟨by omega, olo, ohi, ot, ro, rfl, HTN⟩⟩
              · have hled : decide ((h : Int) ≤ (m3 : Int)) = false := by simp; omega
                rcases HOUT with ⟨ho, rfl⟩ | ⟨ho, olo, ohi, ot, ro, rfl, HTO⟩
                · exact absurd ho (by omega)
                · have hhe : h = 2 * mo + 3 := by omega
                  have HF0 : Hid (CF w1 hb elo ehi et re N n (ef g.rules mo (2 * mo + 3)) olo ohi ot ro (upt 0 0 (fin g.rules mo) (fun a k => cap9 (cnt g.rules (mo + 1) a k))) w7) := by
                    have y := HK.out
                    rw [hhe] at y
                    have hp := y.pl
                    exact CF.eq ⟨y.en, HTO.out, y.bel, hp.2.1, hp.2.2.1⟩ (fun a k _ _ => by rw [upt_00])
                  have HFI := Lib.hid (fun w' h2 => HFIN.out w1 hb elo ehi et re (ef g.rules mo (2 * mo + 3)) olo ohi ot ro w' HB01.out h2)
                  clear hhe HK HTO HFIN
                  go_wp2_with fail
                  go_loopg [19, 20, 180] N (fun gg v19 v20 v180 wr => ∃ a : Nat, a ≤ N ∧ N - a ≤ gg ∧ v180 = .int .i64 a ∧ Hid (CF w1 hb elo ehi et re N n (ef g.rules mo (2 * mo + 3)) olo ohi ot ro (upt a 0 (fin g.rules mo) (fun a k => cap9 (cnt g.rules (mo + 1) a k))) wr))
                  case atStart => exact ⟨0, by omega, by omega, rfl, HF0⟩
                  case round =>
                    clear HF0
                    obtain ⟨a, ha, hga, rfl, HF⟩ := hrel
                    obtain ⟨w8, rfl⟩ : ∃ ww : World, ww = wr := ⟨_, rfl⟩
                    by_cases haN : a < N
                    · have haN' : (a : Int) < (N : Int) := by omega
                      have ha0 : (0 : Int) ≤ (a : Int) := by omega
                      have k1 := HF.out.out.tb.head haN
                      rw [HM.out] at k1
                      have HFJ := HF
                      go_wp2_with fail
                      clear k1
                      go_loopg [20, 188] m (fun gg v20 v188 wr => ∃ k : Nat, k ≤ m ∧ m - k ≤ gg ∧ v188 = .int .i64 k ∧ Hid (CF w1 hb elo ehi et re N n (ef g.rules mo (2 * mo + 3)) olo ohi ot ro (upt a k (fin g.rules mo) (fun a k => cap9 (cnt g.rules (mo + 1) a k))) wr))
                      case atStart => exact ⟨0, by omega, by omega, rfl, HFJ⟩
                      case round =>
                        clear HFJ HF
                        obtain ⟨k, hk, hgk, rfl, HF⟩ := hrel
                        obtain ⟨w9, rfl⟩ : ∃ ww : World, ww = wr := ⟨_, rfl⟩
                        by_cases hkm : k < m
                        · have hkm' : (k : Int) < (m : Int) := by omega
                          have hk0 : (0 : Int) ≤ (k : Int) := by omega
                          have hkn : k < n + 1 := by rw [HM.out]; exact hkm
                          have k1 := HF.out.en.head haN
                          have k2 := HF.out.en.cell haN hkn
                          have k3 := HF.out.out.tb.head haN
                          have k4 := HF.out.out.tb.cell haN hkn
                          have k9 := HF.out.out.tb.free haN k
                          have HFE : Hid (fin g.rules mo a k = if ef g.rules mo (2 * mo + 3) a k = true then -1 else cap9 (cnt g.rules (mo + 1) a k)) := rfl
                          rw [upt_here] at k4
                          rw [HM.out] at k1 k3
                          obtain ⟨ev, HEV⟩ := nameIt (ef g.rules mo (2 * mo + 3) a k)
                          rw [HEV.out] at k2 HFE
                          obtain ⟨g1, HG1⟩ := nameIt (re a)
                          obtain ⟨g2, HG2⟩ := nameIt (ro a)
                          rw [HG1.out] at k1 k2
                          rw [HG2.out] at k3 k4 k9
                          obtain ⟨ov, HOV⟩ := nameIt (cap9 (cnt g.rules (mo + 1) a k))
                          rw [HOV.out] at k4 HFE
                          cases ev with
                          | true =>
                            have hfe : fin g.rules mo a k = -1 := by rw [HFE.out]; rfl
                            have HFN : Hid (CF w1 hb elo ehi et re N n (ef g.rules mo (2 * mo + 3)) olo ohi ot ro (upt a (k + 1) (fin g.rules mo) (fun a k => cap9 (cnt g.rules (mo + 1) a k))) (w9.setCell ⟨g2, k, none⟩ (.int .i64 (-1)))) := by
                              rw [← HG2.out]
                              exact HF.out.set haN hkn (fun b i _ _ => by rw [upt_step, hfe])
                            clear hfe HFE
                            go_wp2_with fail
                            go_roundg (m - (k + 1))
                            case measure => omega
                            case rel => exact ⟨k + 1, by omega, by omega, by go_num, HFN⟩
                          | false =>
                            have hfe : fin g.rules mo a k = ov := by rw [HFE.out]; rfl
                            have HFN : Hid (CF w1 hb elo ehi et re N n (ef g.rules mo (2 * mo + 3)) olo ohi ot ro (upt a (k + 1) (fin g.rules mo) (fun a k => cap9 (cnt g.rules (mo + 1) a k))) w9) := by
                              refine HF.out.eq (fun b i _ _ => ?_)
                              rw [upt_step]
                              by_cases e : b = a ∧ i = k
                              · rw [if_pos e, e.1, e.2, upt_here, hfe, ← HOV.out]
                              · rw [if_neg e]
                            clear hfe HFE
                            go_wp2_with fail
                            go_roundg (m - (k + 1))
                            case measure => omega
                            case rel => exact ⟨k + 1, by omega, by omega, by go_num, HFN⟩
                        · have hkm' : ¬ (k : Int) < (m : Int) := by omega
                          have hke : k = m := by omega
                          have HFN : Hid (CF w1 hb elo ehi et re N n (ef g.rules mo (2 * mo + 3)) olo ohi ot ro (upt (a + 1) 0 (fin g.rules mo) (fun a k => cap9 (cnt g.rules (mo + 1) a k))) w9) := by
                            have y := HF.out
                            rw [hke, ← HM.out] at y
                            exact y.eq (fun b i _ hi => upt_row hi)
                          clear hke
                          go_wp2_with fail
                          go_roundg (N - (a + 1))
                          case measure => omega
                          case rel => exact ⟨a + 1, by omega, by omega, by go_num, HFN⟩
                    · have haN' : ¬ (a : Int) < (N : Int) := by omega
                      have hae : a = N := by omega
                      have HE : Hid (PST (.returned (.tuple #[.slice (some ⟨ot, 0, none⟩) N N, .int .i64 0])) w8) := by
                        have y := HF.out
                        rw [hae] at y
                        exact HFI.out w8 (y.eq (fun b i hb _ => upt_end hb))
                      clear hae HFI HF
                      go_wp2_with fail
                      first | exact HE.out | (refine bodyPost_ret (results_tmp2 Try.results10 _ _ _) rfl ?_; exact HE.out)
  · -- an error
    have HE : Hid (errC g n = if checkG g ≠ 0 then checkG g else if n < 0 ∨ 24 < n then 1 else 0) := rfl
    have HFIN : Hid (∀ w', Below w0.heap.size w0 w' → PST (.returned (.tuple #[.slice none 0 0, .int .i64 (errC g n)])) w') := by
      intro w' h
      rw [← HP.out]
      exact ⟨hb0.trans (h.mono hb0.size), .inl ⟨he, rfl⟩⟩
    obtain ⟨Rr, HR⟩ := nameIt (errC g n)
    rw [HR.out] at HE HFIN he
    obtain ⟨c, HC⟩ := nameIt (checkG g)
    rw [HC.out] at HE HCK
    obtain ⟨gt, HGT⟩ := nameIt g.terms
    obtain ⟨gn, HGN⟩ := nameIt g.nons
    obtain ⟨gs, HGS⟩ := nameIt g.start
    obtain ⟨rl, HRL⟩ := nameIt g.rules.length
    rw [HGT.out, HGN.out, HGS.out, HRL.out] at HW0 X0 HCK
    rw [HGT.out, HGN.out, HGS.out, HRL.out]
    obtain ⟨x0, x1, x2, x3⟩ := bx_cells4 X0.out
    clear hb0 hr HP HRD HB0 hup
    go_enter Try.func10, Try.ntmps10
    go_upto_region 1 with fail
    rw [HW0.out]
    go_wp2_with fail
    with_reducible refine HCK.out.mono ?_
    rintro e w1 ⟨rfl, hb1⟩
    have HFN := Lib.hid (HFIN.out w1 hb1)
    clear hb1 HFIN x0 x1 x2 x3 HW0
    by_cases hc : c = 0
    · subst hc
      have HE1 : Hid (Rr = if n < 0 ∨ 24 < n then 1 else 0) := by show _ = _; rw [HE.out]; simp
      by_cases hn : n < 0
      · obtain rfl : Rr = 1 := by rw [HE1.out, if_pos (.inl hn)]
        have b1 : decide (n < 0) = true := by simpa using hn
        go_wp2_with fail
        first | exact HFN.out | (refine bodyPost_ret (results_tmp2 Try.results10 _ _ _) rfl ?_; exact HFN.out)
      · have b1 : decide (n < 0) = false := by simpa using hn
        by_cases hn2 : 24 < n
        · obtain rfl : Rr = 1 := by rw [HE1.out, if_pos (.inr hn2)]
          have b2 : decide (24 < n) = true := by simpa using hn2
          go_wp2_with fail
          first | exact HFN.out | (refine bodyPost_ret (results_tmp2 Try.results10 _ _ _) rfl ?_; exact HFN.out)
        · exact absurd (by rw [HE1.out, if_neg (by omega)]) he
    · obtain rfl : Rr = c := by rw [HE.out, if_pos hc]
      have b1 : (Rr != 0) = true := by simpa using hc
      go_wp2_with fail
      first | exact HFN.out | (refine bodyPost_ret (results_tmp2 Try.results10 _ _ _) rfl ?_; exact HFN.out)
end Cs
end Go.Proofs.Ytbnpemgmdnghgaa
namespace Go.Proofs.Ytbnpemgmdnghgaa
open Go.RowKit
namespace Cs

/-- what Census' contract gives -/
def CensusOK (g : Gram) : Prop := ∀ (ra : Option Addr) (rcap : Nat) (n : Int) (w : World), Rd AnyB w (.sl (g.rules.map Rule.d)) [.slice ra g.rules.length rcap] →
    Calls Try.prog 10 #[.agg #[.int .i64 g.terms, .int .i64 g.nons, .int .i64 g.start, .slice ra g.rules.length rcap], .int .i64 n] w (CensusPost g n w)
theorem tabF_len (F : Nat → Nat → Int) (N m : Nat) : (tabF F N m).length = N := by simp [tabF]
end Cs
end Go.Proofs.Ytbnpemgmdnghgaa
namespace Go.Proofs.Ytbnpemgmdnghgaa
open Go.RowKit
namespace Cs

theorem up_ok : UpOK := fun hcc hN1 hN hn hR hL W h hrd => upE hcc hN1 hN hn hL W h hrd (fun r av cv w hr h1 h2 => rowE hcc hN hn r.right (hR r hr) av cv h h1 w h2)
theorem census_ok (g : Gram) : CensusOK g := fun ra rcap n w hr => censusE up_ok g ra rcap n w hr
end Cs
end Go.Proofs.Ytbnpemgmdnghgaa
namespace Go.Proofs.Ytbnpemgmdnghgaa
open Go.RowKit
namespace Cs

theorem done_same {g : Gram} {N n : Nat} {S S' : Nat → Nat → Bool} (hok : OkC g N) (h : DoneC g n S) (h' : DoneC g n S') : S = S' := by
  obtain ⟨⟨q, hq⟩, hp⟩ := h
  obtain ⟨⟨q', hq'⟩, hp'⟩ := h'
  have := done_eq (p := q') (N := N) (fun r hr => (hok.l r hr).2) hq hp (by rw [← hq']; exact hp')
  rw [this, hq']
theorem ls_empty {H : Nat → Nat → Bool} {most : Nat} {o : Sym → Nat → Option (List Tree)} {A : Int} {k : Nat} : ∀ (rs : List Rule) (j : Nat) (out : List Tree), (∀ r ∈ rs, r.left = A → canK H r.right k = false) → lsR H most o A k rs j out = some out
  | [], _, _, _ => rfl
  | r :: rs, j, out, h => by
    rw [lsR, if_neg]
    · exact ls_empty rs (j + 1) out fun r' h' => h r' (List.mem_cons_of_mem _ h')
    · intro e
      simp at e
      have := h r List.mem_cons_self e.1
      rw [e.2] at this; cases this
/-- what is listed is all there is, even nothing -/
theorem listed_all {g : Gram} {N n : Nat} {S : Nat → Nat → Bool} (hok : OkC g N) (hd : DoneC g n S) (h1 : startC g S N n ≠ -1) (h2 : startC g S N n < MaxC) {most deep : Nat} {L : List Tree} (h : lsT S most g.rules (deep + 1) ⟨false, g.start⟩ n = some L) : L = SE g S N n ⟨false, g.start⟩ n ∧ (L.length : Int) = startC g S N n ∧ (0 < L.length → MK g.rules S N n g.start.toNat n = false) := by
  obtain ⟨e1, e2, e3⟩ := start_val (S := S) (n := n) hok h1 h2
  have hL : L = SE g S N n ⟨false, g.start⟩ n := by
    cases hh : hasK S ⟨false, g.start⟩ n with
    | true =>
      by_cases hM : MK g.rules S N n g.start.toNat n = false
      · exact listed_SE hok hM hh h
      · -- endless: excluded
        exfalso
        obtain ⟨A, hA, hAN⟩ := start_off g N hok
        refine h1 ?_
        have hst : startC g S N n = symV S (valK g.rules S (MK g.rules S N n) MaxC (-1) (sizeK N n)) ⟨false, (A : Int)⟩ n := by
          show tC g S N n g.start.toNat n = _
          rw [hA]; rfl
        rw [hst]
        rw [hA] at hh hM
        rw [Int.toNat_natCast] at hM
        unfold symV
        rw [if_neg (by rw [hh]; decide)]
        simp only [Bool.false_eq_true, if_false, Int.toNat_natCast]
        have hS : S A n = true := hh
        rw [valK_eq (T := clK g.rules S N n) (ends_MK hok.r) hAN (Nat.le_refl _), if_neg (by rw [hS]; decide), if_pos (by simpa using hM)]
    | false =>
      have hSE : SE g S N n ⟨false, g.start⟩ n = [] := by unfold SE symE; rw [if_pos hh]
      rw [hSE]
      rw [lsT] at h
      simp only [Bool.false_eq_true, if_false] at h
      rw [ls_empty] at h
      · exact (Option.some.inj h).symm
      · intro r hr hl
        cases hc : canK S r.right n with
        | false => rfl
        | true =>
          have := p3_closed hd.2 hr (Nat.le_refl n) hc
          rw [hl] at this
          have h3 : hasK S ⟨false, g.start⟩ n = S g.start.toNat n := rfl
          rw [h3, this] at hh; cases hh
  refine ⟨hL, by rw [hL]; exact e1.symm, fun hp => e3 (by rw [← hL]; exact hp)⟩
def CV (g : Gram) (n x y : Int) : Prop := (errC g n ≠ 0 ∧ x = 0 ∧ y = errC g n) ∨
    (errC g n = 0 ∧ ∃ (N n' : Nat) (S : Nat → Nat → Bool), OkC g N ∧ n = (n' : Int) ∧ n' ≤ 24 ∧ DoneC g n' S ∧
      ((startC g S N n' = -1 ∧ x = 0 ∧ y = 9) ∨ (startC g S N n' ≠ -1 ∧ MaxC ≤ startC g S N n' ∧ x = 0 ∧ y = 2) ∨ (startC g S N n' ≠ -1 ∧ startC g S N n' < MaxC ∧ x = startC g S N n' ∧ y = 0)))
theorem cv_of {g : Gram} {n : Int} {w w' : World} {e : Ending} (h : CountPost g n w e w') : Below w.heap.size w w' ∧ ∃ x y : Int, e = .returned (.tuple #[.int .i64 x, .int .i64 y]) ∧ CV g n x y := by
  obtain ⟨hb, ⟨h1, rfl⟩ | ⟨h1, N, n', S, h2, h3, h4, h5, ⟨h6, rfl⟩ | ⟨h6, h7, rfl⟩ | ⟨h6, h7, rfl⟩⟩⟩ := h
  · exact ⟨hb, _, _, rfl, .inl ⟨h1, rfl, rfl⟩⟩
  · exact ⟨hb, _, _, rfl, .inr ⟨h1, N, n', S, h2, h3, h4, h5, .inl ⟨h6, rfl, rfl⟩⟩⟩
  · exact ⟨hb, _, _, rfl, .inr ⟨h1, N, n', S, h2, h3, h4, h5, .inr (.inl ⟨h6, h7, rfl, rfl⟩)⟩⟩
  · exact ⟨hb, _, _, rfl, .inr ⟨h1, N, n', S, h2, h3, h4, h5, .inr (.inr ⟨h6, h7, rfl, rfl⟩)⟩⟩
def SV (g : Gram) (n : Int) (a : Option Addr) (N c : Nat) (h : Int) (w' : World) : Prop :=
  (errC g n ≠ 0 ∧ a = none ∧ N = 0 ∧ c = 0 ∧ h = errC g n) ∨
    (errC g n = 0 ∧ h = 0 ∧ ∃ (n' : Nat) (F : Nat → Nat → Int), OkC g N ∧ n = (n' : Int) ∧ n' ≤ 24 ∧ Rd AnyB w' (.sl ((tabF F N (n' + 1)).map D.ints)) [.slice a N c] ∧ ∀ S, DoneC g n' S → F g.start.toNat n' = startC g S N n')
theorem sv_of {g : Gram} {n : Int} {w w' : World} {e : Ending} (h : CensusPost g n w e w') : Below w.heap.size w w' ∧ ∃ (a : Option Addr) (N c : Nat) (h : Int), e = .returned (.tuple #[.slice a N c, .int .i64 h]) ∧ SV g n a N c h w' := by
  obtain ⟨hb, ⟨h1, rfl⟩ | ⟨h1, N, n', a, c, F, h2, h3, h4, rfl, h5, h6, h7⟩⟩ := h
  · exact ⟨hb, _, _, _, _, rfl, .inl ⟨h1, rfl, rfl, rfl, rfl⟩⟩
  · refine ⟨hb, _, _, _, _, rfl, .inr ⟨h1, rfl, n', F, h2, h3, h4, h5, fun S hS => ?_⟩⟩
    have hst : g.start.toNat < N := by have := h2.s0; have := h2.s1; omega
    have h8 : ((tabF F N (n' + 1))[g.start.toNat]?).bind (·[n']?) = ((tabC g S N n' N)[g.start.toNat]?).bind (·[n']?) := by rw [h7 S hS]
    simpa [tabF, tabC, rowC, hst, startC] using h8
/-- the three answers together -/
def RtAll (g : Gram) (nn ii : Int) (x y : Int) (r tm : Int) (v : Value) (c : Int) (a : Option Addr) (Nm cm : Nat) (h : Int) (w' : World) : Prop :=
  (h ≠ 0 ∧ x = 0 ∧ y = h ∧ c = h ∧ r = 0 ∧ tm = 0 ∧ v = .slice none 0 0) ∨
  (h = 0 ∧ ∃ (N n : Nat) (S : Nat → Nat → Bool) (F : Nat → Nat → Int), errC g nn = 0 ∧ Nm = N ∧ OkC g N ∧ nn = (n : Int) ∧ n ≤ 24 ∧ DoneC g n S ∧ Rd AnyB w' (.sl ((tabF F N (n + 1)).map D.ints)) [.slice a N cm] ∧ F g.start.toNat n = startC g S N n ∧
    ((startC g S N n = -1 ∧ x = 0 ∧ y = 9 ∧ c = 9 ∧ r = 0 ∧ tm = 0 ∧ v = .slice none 0 0) ∨ (startC g S N n ≠ -1 ∧ MaxC ≤ startC g S N n ∧ x = 0 ∧ y = 2 ∧ c = 2 ∧ r = 0 ∧ tm = 0 ∧ v = .slice none 0 0) ∨
     (startC g S N n ≠ -1 ∧ startC g S N n < MaxC ∧ x = startC g S N n ∧ y = 0 ∧ (((ii < 0 ∨ startC g S N n ≤ ii) ∧ c = 5 ∧ r = 0 ∧ tm = 0 ∧ v = .slice none 0 0) ∨
       (0 ≤ ii ∧ ii < startC g S N n ∧ c = 0 ∧ ∃ t : Tree, (SE g S N n ⟨false, g.start⟩ n)[ii.toNat]? = some t ∧ r = t.rule ∧ tm = t.term ∧ Rd AnyB w' (.sl (t.kids.map Tree.d)) [v])))))
theorem rtAll_of {g : Gram} {nn ii x y r tm c h : Int} {v : Value} {a : Option Addr} {Nm cm B : Nat} {w5 w6 : World} (h1 : CV g nn x y) (h2 : RtV B g nn ii r tm v c w5) (h3 : SV g nn a Nm cm h w6) (hb : Below w5.heap.size w5 w6) : RtAll g nn ii x y r tm v c a Nm cm h w6 := by
  rcases h3 with ⟨he, -, -, -, rfl⟩ | ⟨he, rfl, n, F, hok, hn, h24, hrd, hF⟩
  · left
    rcases h1 with ⟨_, rfl, rfl⟩ | ⟨he', _⟩
    · rcases h2 with ⟨_, rfl, rfl, rfl, rfl⟩ | ⟨he', _⟩
      · exact ⟨he, rfl, rfl, rfl, rfl, rfl, rfl⟩
      · exact absurd he' he
    · exact absurd he' he
  · right
    rcases h1 with ⟨he', _⟩ | ⟨_, N1, n1, S, hok1, hn1, _, hd1, h1⟩
    · exact absurd he he'
    · obtain rfl : N1 = Nm := by have := hok.nons; have := hok1.nons; omega
      obtain rfl : n1 = n := by omega
      rcases h2 with ⟨he', _⟩ | ⟨_, N2, n2, S2, hok2, hn2, _, hd2, h2⟩
      · exact absurd he he'
      · obtain rfl : N2 = N1 := by have := hok1.nons; have := hok2.nons; omega
        obtain rfl : n2 = n1 := by omega
        obtain rfl : S2 = S := done_same hok hd2 hd1
        refine ⟨rfl, N2, n2, S2, F, he, rfl, hok, hn, h24, hd1, hrd, hF S2 hd1, ?_⟩
        rcases h2 with ⟨k1, rfl, rfl, rfl, rfl⟩ | ⟨k1, k2, rfl, rfl, rfl, rfl⟩ | ⟨k1, k2, h2⟩
        · rcases h1 with ⟨_, rfl, rfl⟩ | ⟨k3, _⟩ | ⟨k3, _⟩
          · exact .inl ⟨k1, rfl, rfl, rfl, rfl, rfl, rfl⟩
          · exact absurd k1 k3
          · exact absurd k1 k3
        · rcases h1 with ⟨k3, _⟩ | ⟨_, _, rfl, rfl⟩ | ⟨_, k3, _⟩
          · exact absurd k3 k1
          · exact .inr (.inl ⟨k1, k2, rfl, rfl, rfl, rfl, rfl, rfl⟩)
          · omega
        · rcases h1 with ⟨k3, _⟩ | ⟨_, k3, _⟩ | ⟨_, _, rfl, rfl⟩
          · exact absurd k3 k1
          · omega
          · refine .inr (.inr ⟨k1, k2, rfl, rfl, ?_⟩)
            rcases h2 with h2 | ⟨k3, k4, k5, t, k6, k7, k8, k9⟩
            · exact .inl h2
            · exact .inr ⟨k3, k4, k5, t, k6, k7, k8, k9.any.below hb⟩
/-- what rank.Of answers at a listed tree -/
theorem of_listed {g : Gram} {N n : Nat} {S : Nat → Nat → Bool} (hck : checkG g = 0) (he : errC g (n : Int) = 0) (hok : OkC g N) (hd : DoneC g n S) (h1 : startC g S N n ≠ -1) (h2 : startC g S N n < MaxC) {i : Nat} {t : Tree} (ht : (SE g S N n ⟨false, g.start⟩ n)[i]? = some t) {a b k : Int} (hv : RkV g t a b k) :
    if 5000 < (nodes t).length then a = 0 ∧ b = 0 ∧ k = 2 else a = (n : Int) ∧ b = (i : Int) ∧ k = 0 := by
  obtain ⟨e1, e2, e3⟩ := start_val (S := S) (n := n) hok h1 h2
  have hil := (List.getElem?_eq_some_iff.1 ht).1
  have hM := e3 (by omega)
  have hhas := start_has (g := g) (S := S) (N := N) (n := n) (by omega)
  have hSE : SE g S N n ⟨false, g.start⟩ n = EN g.rules S (sizeK N n) g.start.toNat n := by
    unfold SE symE
    rw [if_neg (by rw [hhas]; decide)]
    rfl
  rw [hSE] at ht e2
  have hct := checkT_en hck (List.mem_of_getElem? ht)
  have hwl : wl t = n := enF_wl _ _ _ _ (List.mem_of_getElem? ht)
  have hroot := (en_valid (fun r hr s hs => ((checkG_zero hck).2.2 r hr).2.2.2 s hs) _ _ _ t (List.mem_of_getElem? ht)).2.1
  have hs0 := hok.s0
  have hs1 := hok.s1
  have hst : ((g.start.toNat : Nat) : Int) = g.start := by omega
  rw [hst] at hroot
  by_cases h5 : 5000 < (nodes t).length
  · rw [if_pos h5] at hct ⊢
    rcases hv with ⟨_, rfl, rfl, hk⟩ | ⟨h0, _⟩ | ⟨h0, _⟩
    · exact ⟨rfl, rfl, by rw [hk, hct]⟩
    · rw [hct] at h0; cases h0
    · rw [hct] at h0; cases h0
  · rw [if_neg h5] at hct ⊢
    rcases hv with ⟨h0, _⟩ | ⟨_, h0, _⟩ | ⟨_, _, hv⟩
    · exact absurd hct h0
    · exact absurd hroot h0
    · rw [hwl] at hv
      rcases hv with ⟨h0, _⟩ | ⟨_, N', S', hok', hd', hv⟩
      · exact absurd he h0
      · obtain rfl : N' = N := by have := hok.nons; have := hok'.nons; omega
        obtain rfl : S' = S := done_same hok hd' hd
        rcases hv with ⟨_, _, _, h0⟩ | ⟨_, _, _, h0⟩ | ⟨rfl, rfl, rfl⟩
        · exact absurd h0 h1
        · omega
        · refine ⟨rfl, ?_, rfl⟩
          exact idx_val (many := -1) (ends_MM (rules := g.rules) (S := S') (N := N') (n := n) hok.r) 5000 t (by omega) g.start.toNat n i (by omega) (Nat.le_refl n) hM e2 ht
end Cs
end Go.Proofs.Ytbnpemgmdnghgaa
