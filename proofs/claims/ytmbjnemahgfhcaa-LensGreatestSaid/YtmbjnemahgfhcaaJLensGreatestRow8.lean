/- lens.grows: which nonterminals have a word that is not empty. slices.Grow of nil and slices.Concat at []api.Sym. A map of edges that is a set: store, and a range over it. lens.endless in plain Lean: which edges have been seen; what the answer says. lens.Greatest in plain Lean: the trimmed grammar, the table of longest words. The walk of lens.Set. The contract of two; sizes of trees. The contract of list. What list's grammar says of trees. The grammar of parllaw5.plain. LensGreatest in plain Lean. A still head by the quiet steps. -/
import Derived.Test.YtmbjnemahgfhcaaJLensGreatestRow7
import Derived.Test.YtmbjnemahgfhcaaJLensGreatestRow1
import Derived.Test.YtmbjnemahgfhcaaJLensGreatestRow3
import Derived.Maps.RangeWalk
import Derived.Test.YtmbjnemahgfhcaaJLensGreatestRow5
import Derived.Test.YtmbjnemahgfhcaaJLensGreatestRow6
import Derived.Test.YtmbjnemahgfhcaaJLensGreatestRow4
import Derived.Deep.DeepCutAuto
import Derived.Test.YtmbjnemahgfhcaaJLensGreatestRow2
import Derived.BigQuiet
import Derived.StillTailTactics
namespace Go.Proofs.Ytmbjnemahgfhcaa
open Go.RowKit
namespace Gr
open Cs

/-- a row of truth values, in a box -/
structure BoxM (b p N : Nat) (G : Nat → Bool) (W : World) : Prop where
  box : W.heap[b]? = some (.cells #[.slice (some ⟨p, 0, none⟩) N N] 33 (0, 0))
  row : Ln.Brow p N G W
theorem BoxM.keep {b p N : Nat} {G : Nat → Bool} {W W' : World} (h : BoxM b p N G W) (hb : Below W.heap.size W W') : BoxM b p N G W' := ⟨bx_keep h.box hb, h.row.keep hb⟩
def growS (G : Nat → Bool) (s : Sym) : Bool := s.term || G s.n.toNat
set_option maxHeartbeats 1000000 in
theorem growSymE (b p N : Nat) (G : Nat → Bool) (l : List Sym) (w : World) (hN : N ≤ 100) (h : BoxM b p N G w) (hl : ∀ s ∈ l, s.term = false → 0 ≤ s.n ∧ s.n.toNat < N) : PredSym 20 #[.pointer (some ⟨b, 0, none⟩)] l (growS G) w := by
  intro W ⟨st, sn⟩ hx hb
  have hk := h.keep hb
  have h1 := hl _ hx
  obtain ⟨w1, HW1⟩ := nameIt (W.alloc (.cells #[.bool st, .int .i64 sn] 42))
  have hb1 : Below W.heap.size W w1 := by rw [← HW1.out]; exact (Below.refl _ _).alloc (Nat.le_refl _) _
  have hx1 : w1.heap[W.heap.size]? = some (.cells #[.bool st, .int .i64 sn] 42 (0, 0)) := by rw [← HW1.out]; exact bx_new _ _ _ rfl
  have hk1 := hk.keep hb1
  obtain ⟨x0, x1⟩ := bx_cells2 hx1
  have y0 := bx_cells1 hk1.box
  have HB1 := Lib.hid hb1
  show Calls _ _ #[.agg #[.bool st, .int .i64 sn], .pointer (some ⟨b, 0, none⟩)] _ _
  cases st with
  | true =>
    have hE : Hid (growS G ⟨true, sn⟩ = true) := rfl
    rw [hE.out]
    clear hk hk1 hx1 hb1 h1
    go_enter Try.func20, Try.ntmps20
    go_upto_region 1 with fail
    rw [HW1.out]
    go_wp2_with fail
    go_ret
    exact ⟨rfl, HB1.out⟩
  | false =>
    obtain ⟨h2, h3⟩ := h1 rfl
    simp only at h2 h3
    obtain ⟨B, rfl⟩ : ∃ B : Nat, sn = (B : Int) := ⟨sn.toNat, by omega⟩
    rw [Int.toNat_natCast] at h3
    have hE : Hid (growS G ⟨false, (B : Int)⟩ = G B) := rfl
    rw [hE.out]
    have q0 := hk1.row.cell h3
    have hB0 : (0 : Int) ≤ (B : Int) := by omega
    have hB1 : (B : Int) < (N : Int) := by omega
    obtain ⟨xb, HXB⟩ := nameIt (G B)
    rw [HXB.out] at q0
    rw [HXB.out]
    clear hk hk1 hx1 hb1 h1 h2
    go_enter Try.func20, Try.ntmps20
    go_upto_region 1 with fail
    rw [HW1.out]
    go_wp2_with fail
    go_ret
    exact ⟨rfl, HB1.out⟩
set_option maxHeartbeats 1000000 in
theorem growSymE2 (b p N : Nat) (G : Nat → Bool) (l : List Sym) (w : World) (hN : N ≤ 100) (h : BoxM b p N G w) (hl : ∀ s ∈ l, s.term = false → 0 ≤ s.n ∧ s.n.toNat < N) : PredSym 19 #[.pointer (some ⟨b, 0, none⟩)] l (growS G) w := by
  intro W ⟨st, sn⟩ hx hb
  have hk := h.keep hb
  have h1 := hl _ hx
  obtain ⟨w1, HW1⟩ := nameIt (W.alloc (.cells #[.bool st, .int .i64 sn] 42))
  have hb1 : Below W.heap.size W w1 := by rw [← HW1.out]; exact (Below.refl _ _).alloc (Nat.le_refl _) _
  have hx1 : w1.heap[W.heap.size]? = some (.cells #[.bool st, .int .i64 sn] 42 (0, 0)) := by rw [← HW1.out]; exact bx_new _ _ _ rfl
  have hk1 := hk.keep hb1
  obtain ⟨x0, x1⟩ := bx_cells2 hx1
  have y0 := bx_cells1 hk1.box
  have HB1 := Lib.hid hb1
  show Calls _ _ #[.agg #[.bool st, .int .i64 sn], .pointer (some ⟨b, 0, none⟩)] _ _
  cases st with
  | true =>
    have hE : Hid (growS G ⟨true, sn⟩ = true) := rfl
    rw [hE.out]
    clear hk hk1 hx1 hb1 h1
    go_enter Try.func19, Try.ntmps19
    go_upto_region 1 with fail
    rw [HW1.out]
    go_wp2_with fail
    go_ret
    exact ⟨rfl, HB1.out⟩
  | false =>
    obtain ⟨h2, h3⟩ := h1 rfl
    simp only at h2 h3
    obtain ⟨B, rfl⟩ : ∃ B : Nat, sn = (B : Int) := ⟨sn.toNat, by omega⟩
    rw [Int.toNat_natCast] at h3
    have hE : Hid (growS G ⟨false, (B : Int)⟩ = G B) := rfl
    rw [hE.out]
    have q0 := hk1.row.cell h3
    have hB0 : (0 : Int) ≤ (B : Int) := by omega
    have hB1 : (B : Int) < (N : Int) := by omega
    obtain ⟨xb, HXB⟩ := nameIt (G B)
    rw [HXB.out] at q0
    rw [HXB.out]
    clear hk hk1 hx1 hb1 h1 h2
    go_enter Try.func19, Try.ntmps19
    go_upto_region 1 with fail
    rw [HW1.out]
    go_wp2_with fail
    go_ret
    exact ⟨rfl, HB1.out⟩
/-- which nonterminals have a word that is not empty -/
def GrOk (K : List Rule) (N : Nat) (G : Nat → Bool) : Prop := ∀ A, A < N → (G A = true ↔ ∃ k, 0 < k ∧ Dv K A k)
def GrSnd (K : List Rule) (G : Nat → Bool) : Prop := ∀ A, G A = true → ∃ k, 0 < k ∧ Dv K A k
def GrClo (G : Nat → Bool) (l : List Rule) : Prop := ∀ r ∈ l, r.right.any (growS G) = true → G r.left.toNat = true
theorem grClo_next {G : Nat → Bool} {K : List Rule} {i : Nat} (hi : i < K.length) (h : GrClo G (K.take i)) (hr : K[i].right.any (growS G) = true → G K[i].left.toNat = true) : GrClo G (K.take (i + 1)) := by
  intro r hm
  rw [List.take_succ_eq_append_getElem hi, List.mem_append] at hm
  rcases hm with hm | hm
  · exact h r hm
  · simp at hm; subst hm; exact hr
theorem grSnd_set {K : List Rule} {G : Nat → Bool} (hF : Full K) (h : GrSnd K G) {r : Rule} (hr : r ∈ K) {A : Nat} (hl : r.left = (A : Int)) (ha : r.right.any (growS G) = true) : GrSnd K (setI G A) := by
  intro B hB
  unfold setI at hB
  by_cases e : B = A
  · subst e
    obtain ⟨s, hs, hg⟩ := List.any_eq_true.1 ha
    have hgr : Grows K s := by
      unfold growS at hg
      cases ht : s.term with
      | true => exact ⟨1, by omega, by unfold Ds; rw [if_pos ht]⟩
      | false =>
        rw [ht, Bool.false_or] at hg
        obtain ⟨k, h0, hk⟩ := h _ hg
        exact ⟨k, h0, by unfold Ds; rw [if_neg (by simp [ht])]; exact hk⟩
    obtain ⟨k, h0, hk⟩ := row_more (K := K) (l := r.right) (fun x hx => hF r hr x hx) ⟨s, hs, hgr⟩
    exact ⟨k, h0, dv_rule hr hl (row_dl.1 hk)⟩
  · rw [if_neg e] at hB; exact h B hB
theorem grOk_of {K : List Rule} {G : Nat → Bool} {N : Nat} (hs : GrSnd K G) (hc : GrClo G K) : GrOk K N G := by
  intro A _
  refine ⟨hs A, fun ⟨k, h0, hk⟩ => ?_⟩
  have := dv_ind (P := fun A k => 0 < k → G A = true) (fun r hr A k hl hrow h0 => ?_) hk
  · exact this h0
  · have hA : r.left.toNat = A := by omega
    rw [← hA]
    refine hc r hr (List.any_eq_true.2 ?_)
    have : ∀ {l : List Sym} {k : Nat}, Row (fun s i => if s.term then i = 1 else (0 < i → G s.n.toNat = true)) l k → 0 < k → ∃ s ∈ l, growS G s = true := by
      intro l
      induction l with
      | nil => intro k h h0; have : k = 0 := h; omega
      | cons s l ih =>
        rintro k ⟨i, j, e, h1, h2⟩ h0
        by_cases hi : 0 < i
        · refine ⟨s, List.mem_cons_self, ?_⟩
          unfold growS
          cases ht : s.term with
          | true => rfl
          | false =>
            rw [if_neg (by simp [ht])] at h1
            simpa using h1 hi
        · obtain ⟨x, hx, hg⟩ := ih h2 (by omega)
          exact ⟨x, List.mem_cons_of_mem _ hx, hg⟩
    exact this hrow h0
/-- the row so far -/
structure GwM (K : List Rule) (N : Nat) (W0 : World) (b p : Nat) (G : Nat → Bool) (wr : World) : Prop where
  m : BoxM b p N G wr
  snd : GrSnd K G
  bel : Below W0.heap.size W0 wr
  lo : W0.heap.size ≤ p ∧ b ≠ p
section
variable {K : List Rule} {N b p : Nat} {W0 wr w' : World} {G : Nat → Bool}
theorem GwM.keep (h : GwM K N W0 b p G wr) (hb : Below wr.heap.size wr w') : GwM K N W0 b p G w' := ⟨h.m.keep hb, h.snd, h.bel.trans (hb.mono h.bel.size), h.lo⟩
theorem GwM.set (h : GwM K N W0 b p G wr) {A : Nat} (hA : A < N) (hs : GrSnd K (setI G A)) : GwM K N W0 b p (setI G A) (wr.setCell ⟨p, A, none⟩ (.bool true)) :=
  ⟨⟨bx_other h.m.box h.lo.2 _ _, h.m.row.set hA (fun k _ => rfl)⟩, hs, h.bel.setCell (p := ⟨p, A, none⟩) h.lo.1 _, h.lo⟩
end
def GwPost (K : List Rule) (N : Nat) (w : World) (e : Ending) (w' : World) : Prop :=
  ∃ p G, e = .returned (.slice (some ⟨p, 0, none⟩) N N) ∧ Ln.Brow p N G w' ∧ GrOk K N G ∧ Below w.heap.size w w'
set_option maxHeartbeats 8000000 in
set_option maxRecDepth 100000 in
theorem growsE (g : Gram) (N : Nat) (hok : OkC g N) (hF : Full g.rules) (ra : Option Addr) (rcap : Nat) (w : World) (hr : Rd AnyB w (.sl (g.rules.map Rule.d)) [.slice ra g.rules.length rcap]) :
    Calls Try.prog 10 #[.agg #[.int .i64 g.terms, .int .i64 g.nons, .int .i64 g.start, .slice ra g.rules.length rcap]] w (GwPost g.rules N w) := by
  have hN1 := hok.n1
  have hN2 := hok.n2
  have HGR := Lib.hid hok.r
  have HLF := Lib.hid hok.l
  have HFU := Lib.hid hF
  have hnn := hok.nons
  rw [hnn]
  obtain ⟨w0, HW0⟩ := nameIt (w.alloc (.cells #[.int .i64 g.terms, .int .i64 (N : Int), .int .i64 g.start, .slice ra g.rules.length rcap] 24))
  have hb0 : Below w.heap.size w w0 := by rw [← HW0.out]; exact (Below.refl _ _).alloc (Nat.le_refl _) _
  have X0 : Hid (w0.heap[w.heap.size]? = some (.cells #[.int .i64 g.terms, .int .i64 (N : Int), .int .i64 g.start, .slice ra g.rules.length rcap] 24 (0, 0))) := by rw [← HW0.out]; exact bx_new _ _ _ rfl
  have HRD := Lib.hid (hr.below hb0)
  obtain ⟨PST, HP⟩ := nameIt (GwPost g.rules N w)
  rw [HP.out]
  have HFIN : Hid (∀ b p G w', GwM g.rules N w0 b p G w' → GrClo G g.rules → PST (.returned (.slice (some ⟨p, 0, none⟩) N N)) w') := by
    intro b p G w' h1 h2
    rw [← HP.out]
    exact ⟨p, G, rfl, h1.m.row, grOk_of h1.snd h2, hb0.trans (h1.bel.mono hb0.size)⟩
  have hbs := hr.bounds.2
  unfold maxLen at hbs
  obtain ⟨hcv1, hcv2⟩ := hbs
  obtain ⟨gt, HGT⟩ := nameIt g.terms
  obtain ⟨gs, HGS⟩ := nameIt g.start
  obtain ⟨rl, HRL⟩ := nameIt g.rules.length
  rw [HGT.out, HGS.out, HRL.out] at HW0 X0
  rw [HRL.out] at HRD hcv1
  rw [HGT.out, HGS.out, HRL.out]
  have hmk : ∀ W : World, (Instr.makeSlice 33 (.int .i64 (N : Int)) (.int .i64 (N : Int))).run Try.prog W = .ok (.slice (some ⟨W.heap.size, 0, none⟩) N N) (W.alloc (.cells (madeCells #[.bool false] N) 4)) := fun W => by
    have := run_make_row' (P := Try.prog) 33 4 (.bool false) 1 Try.underlying33 (by kernel_rfl) rfl .i64 .i64 N (by omega) (by omega) W
    simpa using this
  obtain ⟨gb, HGBN⟩ := nameIt w.heap.size
  rw [HGBN.out] at X0
  obtain ⟨x0, x1, x2, x3⟩ := bx_cells4 X0.out
  have hb1 : Below w0.heap.size w0 (w0.alloc (.cells (madeCells #[.bool false] N) 4)) := (Below.refl _ _).alloc (Nat.le_refl _) _
  have hrow1 : Ln.Brow w0.heap.size N (fun _ => false) (w0.alloc (.cells (madeCells #[.bool false] N) 4)) := ⟨_, bx_new _ _ _ rfl, size_madeCells _ _, fun k hk => made_atV _ _ _ hk⟩
  obtain ⟨w1, HW1⟩ := nameIt (w0.alloc (.cells (madeCells #[.bool false] N) 4))
  rw [HW1.out] at hb1 hrow1
  have hs1 : w1.heap.size = w0.heap.size + 1 := by rw [← HW1.out]; simp
  obtain ⟨w2, HW2⟩ := nameIt (w1.alloc (.cells #[.slice (some ⟨w0.heap.size, 0, none⟩) N N] 33))
  have hb2 : Below w1.heap.size w1 w2 := by rw [← HW2.out]; exact (Below.refl _ _).alloc (Nat.le_refl _) _
  have HM2 : Hid (GwM g.rules N w0 (w0.heap.size + 1) w0.heap.size (fun _ => false) w2) :=
    ⟨⟨by rw [← HW2.out]; exact bx_new _ _ _ hs1.symm, hrow1.keep hb2⟩, (fun A h => by cases h), hb1.trans (hb2.mono hb1.size), Nat.le_refl _, by omega⟩
  obtain ⟨pp, HPP⟩ := nameIt w0.heap.size
  rw [HPP.out] at HM2 HW2 hs1
  obtain ⟨bb, HBB⟩ := nameIt (pp + 1)
  rw [HBB.out] at HM2
  have hs1' : w1.heap.size = bb := by rw [hs1]; exact HBB.out
  clear hb0 hr HP hok hnn hrow1 hb1 hb2 hF hs1
  go_enter Try.func10, Try.ntmps10
  go_upto_region 1 with fail
  rw [HW0.out, HGBN.out]
  go_upto_region 2 with fail
  rw [HW1.out, HPP.out, HBB.out, HW2.out]
  clear x0 x1 x2 x3 hmk HW2
  go_wp2_with fail
  go_loopg [4] (N + 1) (fun gg v4 wr => ∃ (ag : Bool) (I : Nat → Bool), v4 = .bool ag ∧ (ag = true → cfree I N + 1 ≤ gg) ∧ Hid (GwM g.rules N w0 bb pp I wr) ∧ Hid (ag = false → GrClo I g.rules))
  case atStart => exact ⟨true, _, rfl, (fun _ => by have := cfree_le (fun _ => false) N; omega), HM2, (fun e => by cases e)⟩
  case round =>
    clear HM2
    obtain ⟨ag, I, rfl, hgg, HL, HAG⟩ := hrel
    obtain ⟨w3, rfl⟩ : ∃ ww : World, ww = wr := ⟨_, rfl⟩
    have z0 := bx_cells1 HL.out.m.box
    cases ag with
    | false =>
      have HE := Lib.hid (HFIN.out bb pp I w3 HL.out (HAG.out rfl))
      clear hgg HAG
      go_wp2_with fail
      exact HE.out
    | true =>
      have hgg' := hgg rfl
      obtain ⟨mu, HMU⟩ := nameIt (cfree I N)
      rw [HMU.out] at hgg'
      obtain ⟨x0, x1, x2, x3⟩ := bx_cells4 (bx_keep X0.out HL.out.bel)
      have HC0 : Hid (GrClo I (g.rules.take 0)) := fun r hr => by simp at hr
      clear hgg HAG z0
      go_wp2_with fail
      clear x0 x1 x2 x3
      go_loopg [4, 14] rl (fun gg v4 v14 wr => ∃ (i : Nat) (J : Nat → Bool) (b : Bool), i ≤ rl ∧ rl - i ≤ gg ∧ v4 = .bool b ∧ v14 = .int .i64 i ∧ Hid (GwM g.rules N w0 bb pp J wr) ∧ Hid (b = false → J = I ∧ GrClo I (g.rules.take i)) ∧ Hid (cfree J N ≤ mu) ∧ Hid (b = true → cfree J N < mu))
      case atStart => exact ⟨0, I, false, by omega, by omega, rfl, rfl, HL, (fun _ => ⟨rfl, HC0.out⟩), Nat.le_of_eq HMU.out, (fun e => by cases e)⟩
      case round =>
        clear HL HC0
        obtain ⟨i, J, b, hi, hg2, rfl, rfl, HL, HC, HLE, HM⟩ := hrel
        obtain ⟨w4, rfl⟩ : ∃ ww : World, ww = wr := ⟨_, rfl⟩
        by_cases hlt : i < rl
        · have hlt' : (i : Int) < (rl : Int) := by omega
          have hi0 : (0 : Int) ≤ (i : Int) := by omega
          have hix : i < g.rules.length := by rw [HRL.out]; exact hlt
          obtain ⟨rbk, ro, rv, hae, -, hrb, r0, r1, hrr⟩ := HRD.out.rule_at hix
          obtain ⟨ar, cr, rfl, hcr1, hcr2⟩ := hrr.form
          rw [List.length_map] at r1 hrr hcr1
          unfold maxLen at hcr2
          have HRR := Lib.hid hrr
          have t0 := (HL.out.bel.cell (lt_of_cell r0)).trans r0
          have t1 := (HL.out.bel.cell (lt_of_cell r1)).trans r1
          have HOKR := Lib.hid (HGR.out _ (List.getElem_mem hix))
          have HOKL := Lib.hid (HLF.out _ (List.getElem_mem hix))
          have HMEM := Lib.hid (List.getElem_mem hix)
          have HNX : Hid (GrClo I (g.rules.take i) → (g.rules[i].right.any (growS I) = true → I g.rules[i].left.toNat = true) → GrClo I (g.rules.take (i + 1))) := fun h1 h2 => grClo_next hix h1 h2
          obtain ⟨r, HRN⟩ := nameIt (g.rules[i]'hix)
          rw [HRN.out] at t0 t1 HRR HOKR HOKL hcr1 HMEM HNX
          obtain ⟨A, hA⟩ : ∃ A : Nat, r.left = (A : Int) := ⟨r.left.toNat, by have := HOKL.out.1; omega⟩
          have hAN : A < N := by have := HOKL.out.2; rw [hA] at this; simpa using this
          have HLEFT : Hid (r.left.toNat = A) := by show _ = _; rw [hA]; simp
          have HLI : Hid (r.left = (A : Int)) := hA
          rw [HLEFT.out] at HNX
          rw [hA] at t0
          obtain ⟨w5, HW5⟩ := nameIt (w4.alloc (.cells #[.int .i64 (A : Int), .slice ar r.right.length cr] 32))
          have hb5 : Below w4.heap.size w4 w5 := by rw [← HW5.out]; exact (Below.refl _ _).alloc (Nat.le_refl _) _
          have HL5 := Lib.hid (HL.out.keep hb5)
          have Y5 : Hid (w5.heap[w4.heap.size]? = some (.cells #[.int .i64 (A : Int), .slice ar r.right.length cr] 32 (0, 0))) := by rw [← HW5.out]; exact bx_new _ _ _ rfl
          have HCF := Lib.hid (containsFuncSym 20 #[.pointer (some ⟨bb, 0, none⟩)] (growS J) ar cr r.right w5 (fun _ _ => by kernel_rfl) (growSymE bb pp N J r.right w5 (by omega) HL5.out.m (fun s hs ht => HOKR.out s hs ht)) (HRR.out.below HL5.out.bel))
          obtain ⟨AN, HAN⟩ := nameIt (r.right.any (growS J))
          rw [HAN.out] at HCF
          obtain ⟨rn, HRNL⟩ := nameIt r.right.length
          rw [HRNL.out] at t1 HRR hcr1 HCF HW5 Y5
          have HPW : Hid (pp < w4.heap.size) := HL.out.m.row.lt
          obtain ⟨rbx, HRBX⟩ := nameIt w4.heap.size
          rw [HRBX.out] at Y5 HPW
          have q0 := HL5.out.m.row.cell hAN
          have z0 := bx_cells1 HL5.out.m.box
          have hA0 : (0 : Int) ≤ (A : Int) := by omega
          have hA1 : (A : Int) < (N : Int) := by omega
          obtain ⟨ja, HJA⟩ := nameIt (J A)
          rw [HJA.out] at q0
          subst hae
          clear hrr r0 r1 hb5 hA
          go_upto_region 8 with fail
          rw [HW5.out, HRBX.out]
          clear t0 t1 HW5 HRBX HL
          obtain ⟨y0, y1⟩ := bx_cells2 Y5.out
          have HCN : Hid ((b = false → ja = true ∨ AN = false) → b = false → J = I ∧ GrClo I (g.rules.take (i + 1))) := by
            intro hh e
            obtain ⟨h1, h2⟩ := HC.out e
            refine ⟨h1, HNX.out h2 (fun h3 => ?_)⟩
            rw [← h1] at h3 ⊢
            rcases hh e with h5 | h5
            · rw [HJA.out]; exact h5
            · rw [HAN.out, h5] at h3; cases h3
          cases ja with
          | true =>
            have HC2 := Lib.hid (HCN.out (fun _ => .inl rfl))
            go_wp2_with fail
            go_roundg (rl - (i + 1))
            case measure => omega
            case rel => exact ⟨i + 1, J, b, by omega, by omega, rfl, by go_num, HL5, HC2, HLE, HM⟩
          | false =>
            go_wp2_with fail
            refine HCF.out.mono ?_
            rintro e w6 ⟨rfl, hb6⟩
            have HL6 := Lib.hid (HL5.out.keep hb6)
            have Y6 := Lib.hid (bx_keep Y5.out hb6)
            clear hb6 HL5 Y5 y0 y1 q0 z0 HCF
            obtain ⟨y0, y1⟩ := bx_cells2 Y6.out
            have z0 := bx_cells1 HL6.out.m.box
            have q0 := HL6.out.m.row.cell hAN
            have qf := HL6.out.m.row.free A
            have hpl := HL6.out.m.row.lt
            cases AN with
            | false =>
              have HC2 := Lib.hid (HCN.out (fun _ => .inr rfl))
              go_wp2_with fail
              go_roundg (rl - (i + 1))
              case measure => omega
              case rel => exact ⟨i + 1, J, b, by omega, by omega, rfl, by go_num, HL6, HC2, HLE, HM⟩
            | true =>
              have hset := cfree_set HJA.out hAN
              have HL8 := Lib.hid (HL6.out.set hAN (grSnd_set HFU.out HL6.out.snd HMEM.out HLI.out HAN.out))
              have HM3 : Hid (cfree (setI J A) N < mu) := Nat.lt_of_lt_of_le hset HLE.out
              have hpw2 := HPW.out
              have hnp : ¬ pp = rbx := by omega
              have hnp2 : ¬ rbx = pp := by omega
              clear hset
              go_wp2_with fail
              go_roundg (rl - (i + 1))
              case measure => omega
              case rel => exact ⟨i + 1, setI J A, true, by omega, by omega, rfl, by go_num, HL8, (fun e => by cases e), Nat.le_of_lt HM3.out, (fun _ => HM3.out)⟩
        · have hlt' : ¬ (i : Int) < (rl : Int) := by omega
          have HCE : Hid (b = false → GrClo J g.rules) := by
            intro e
            obtain ⟨h1, h2⟩ := HC.out e
            rw [List.take_of_length_le (by rw [HRL.out]; omega)] at h2
            rw [h1]; exact h2
          have HMM : Hid (b = true → cfree J N + 1 ≤ mu) := HM.out
          go_wp2_with fail
          go_roundg mu
          case measure => omega
          case rel => exact ⟨b, J, rfl, HMM.out, HL, HCE⟩
end Gr
end Go.Proofs.Ytmbjnemahgfhcaa
namespace Go.Proofs.Ytmbjnemahgfhcaa
open Go.RowKit
namespace Gr
open Cs

def NewSy (l : List Sym) (w : World) (e : Ending) (w' : World) : Prop :=
  ∃ v, e = .returned v ∧ RowD (fun _ => False) w.heap.size 42 2 (l.map Sym.d) v w' ∧ Below w.heap.size w w'
def slens (ls : List (List Sym)) : Nat := (ls.map List.length).foldl (· + ·) 0
theorem slens_snoc (ls : List (List Sym)) (l : List Sym) : slens (ls ++ [l]) = slens ls + l.length := by simp [slens, List.foldl_append]
theorem slens_flatten (ls : List (List Sym)) : slens ls = ls.flatten.length := by
  unfold slens
  have h : ∀ (ns : List Nat) (a : Nat), ns.foldl (· + ·) a = a + ns.sum := by
    intro ns
    induction ns with
    | nil => intro a; simp
    | cons n ns ih => intro a; rw [List.foldl_cons, ih]; simp [Nat.add_assoc]
  rw [h, List.length_flatten]; simp
theorem slens_take_le (ls : List (List Sym)) (k : Nat) : slens (ls.take k) ≤ slens ls := by
  rw [slens_flatten, slens_flatten]
  conv => rhs; rw [← List.take_append_drop k ls]
  rw [List.flatten_append, List.length_append]; omega
theorem syms_none {S T : Nat → Prop} {w : World} : ∀ {l : List Sym} {cs : List Value}, RdAll S w (l.map Sym.d) cs → RdAll T w (l.map Sym.d) cs
  | [], cs, h => h
  | s :: l, cs, ⟨c1, c2, e, h1, h2⟩ => ⟨c1, c2, e, by rw [Rd.sym h1]; exact rd_sym s, syms_none h2⟩
/-- what slices.Grow leaves of the nil slice: a row of the call's own with nothing in it -/
def Grown0S (w : World) (e : Ending) (w' : World) : Prop := ∃ v, e = .returned v ∧ w'.ownsRow w.heap.size 42 2 v 0 [] ∧ Below w.heap.size w w'

set_option maxHeartbeats 400000 in
set_option maxRecDepth 100000 in
theorem grow_nilS (n : Nat) (w : World) (hb : n * 16 ≤ 140737488355328) :
    Calls Try.prog 30 #[.slice none 0 0, .int .i64 n] w (Grown0S w) := by
  rcases Nat.eq_zero_or_pos n with h0 | h0
  · subst h0
    go_enter Try.func30, Try.ntmps30
    go_wp2
    go_ret
    exact ⟨_, rfl, World.ownsRow_nil _ _ _ _, Below.refl _ _⟩
  · obtain ⟨i0, hi, hz0, hz1, hz2⟩ := info_parts (show (Try.prog.info? 42).map (fun i => (i.zero, i.size, i.bytes)) = some (some (.agg #[.bool false, .int .i64 0]), 2, 16) by kernel_rfl)
    have hG63 := grownCap_le_maxLen w n 0 42 (by unfold maxLen; omega)
    have hGn := grownCap_ge w n 0 42
    have hrz : ∀ ty, (Builtin.append_ #[30, 3] ty #[.slice none 0 0, .int .i64 n]).run Try.prog w =
        .ok (.slice (some ⟨w.heap.size, 0, none⟩) n (grownCap w n 0 42)) (w.drew.alloc (.cells (#[] ++ Builtin.zeroCells (Value.agg #[.bool false, .int .i64 0]).cells n ++ Builtin.zeroCells (Value.agg #[.bool false, .int .i64 0]).cells (grownCap w n 0 42 - n)) 42)) := fun ty => by
      have h := Lib.run_append_grow_zeros w 30 3 ty 42 i0 (.agg #[.bool false, .int .i64 0]) .i64 .i64 Try.underlying30 Try.underlying3 hi hz0 none 0 0 [] (run_firstCells_none w.drew i0.size 0 0 0) n h0 (by rw [hz1]; omega) (by omega) (by omega) (by rw [hz2]; omega)
        (by rw [Nat.zero_add]; exact growslice_fits (by omega) (by rw [hz2]; omega))
      simpa using h
    obtain ⟨G, hG⟩ : ∃ G, G = grownCap w n 0 42 := ⟨_, rfl⟩
    rw [← hG] at hrz hGn hG63
    clear hG
    unfold maxLen at hG63
    have hsz : (#[] ++ Builtin.zeroCells (Value.agg #[.bool false, .int .i64 0]).cells n ++ Builtin.zeroCells (Value.agg #[.bool false, .int .i64 0]).cells (G - n)).size = G * 2 := by
      simp [Builtin.zeroCells, Value.cells]; omega
    generalize (#[] ++ Builtin.zeroCells (Value.agg #[.bool false, .int .i64 0]).cells n ++ Builtin.zeroCells (Value.agg #[.bool false, .int .i64 0]).cells (G - n)) = cur at *
    have HO : Hid ((w.drew.alloc (.cells cur 42)).ownsRow w.heap.size 42 2 (.slice (some ⟨w.heap.size, 0, none⟩) 0 G) 0 []) := World.ownsRow_made w.drew cur G (Nat.le_refl _) (by unfold maxLen; omega) hsz
    have HB : Hid (Below w.heap.size w (w.drew.alloc (.cells cur 42))) := (Below.refl w.heap.size w).drew.alloc (Nat.le_refl _) _
    have HRZ := Lib.hid hrz
    clear hsz hrz
    go_enter Try.func30, Try.ntmps30
    go_wp2_with (at_builtin; refine Lib.wpList_append_run _ rfl _ _ _ _ rfl _ _ rfl rfl _ _ (HRZ.out _) ?_)
    go_ret
    exact ⟨_, rfl, HO.out, HB.out⟩

set_option maxHeartbeats 1000000 in
set_option maxRecDepth 100000 in
/-- slices.Concat at []int: the slices vs read as the lists ls -/
theorem concatS (a : Option Addr) (cap : Nat) (vs : List Value) (ls : List (List Sym)) (w : World) (hv : Sl w (.slice a vs.length cap) vs) (hlen : vs.length = ls.length)
    (hs : ∀ i (h : i < vs.length), Rd AnyB w (.sl ((ls.getD i []).map Sym.d)) [vs[i]]) (hb : slens ls * 16 ≤ 140737488355328) :
    Calls Try.prog 18 #[.slice a vs.length cap] w (NewSy ls.flatten w) := by
  have HV := Lib.hid hv
  have HS := Lib.hid hs
  have HL := Lib.hid hlen
  obtain ⟨hc1, hc2⟩ := hv.len.2
  unfold maxLen at hc2
  clear hv hs hlen
  go_enter Try.func18, Try.ntmps18
  go_wp2
  go_loop [3, 11] (fun n t => ∃ k : Nat, k ≤ vs.length ∧ t = .int .i64 k ∧ n = .int .i64 (slens (ls.take k) : Nat)) (fun _ t => vs.length - (intOf t).toNat)
  case atStart => exact ⟨0, by omega, rfl, rfl⟩
  case round =>
    obtain ⟨k, hk, rfl, rfl⟩ := hrel
    have hle := slens_take_le ls k
    by_cases hlt : k < vs.length
    · obtain ⟨b, off, rfl, hc⟩ := HV.out.at hlt
      have hcell := hc k hlt
      have HSl := Lib.hid (HS.out k hlt)
      have HT : Hid (slens (ls.take (k + 1)) = slens (ls.take k) + (ls.getD k []).length) := by
        show _ = _
        rw [List.take_succ_eq_append_getElem (by rw [← HL.out]; exact hlt), slens_snoc, getD_get _ _ _ (by rw [← HL.out]; exact hlt)]
      have hle2 := slens_take_le ls (k + 1)
      obtain ⟨av, cv, HE⟩ : ∃ av cv, Hid (vs[k] = .slice av (ls.getD k []).length cv) := by
        obtain ⟨av, cv, h, _⟩ := HSl.out.form
        rw [List.length_map] at h
        exact ⟨av, cv, h⟩
      rw [HE.out] at hcell
      generalize (ls.getD k []).length = m at *
      have hm : slens (ls.take k) + m ≤ slens ls := by rw [← HT.out]; exact hle2
      clear hc HSl HE hle2
      go_wp2
      exact ⟨⟨k + 1, by omega, by go_num, by rw [HT.out]; go_num⟩, by simp [intOf]; omega⟩
    · have ek : Hid (ls.take k = ls) := List.take_of_length_le (by have := HL.out; omega)
      rw [ek.out] at hle ⊢
      clear ek
      go_wp2_with fail
      refine (grow_nilS (slens ls) w hb).mono ?_
      rintro e w1 ⟨v1, rfl, ho1, hb1⟩
      have HO1 := Lib.hid ho1
      have HB1 := Lib.hid hb1
      clear ho1 hb1
      go_wp2_with fail
      go_loopw [6, 27] (fun m t wr => ∃ k : Nat, k ≤ vs.length ∧ t = .int .i64 k ∧ Hid (RowD (fun _ => False) w.heap.size 42 2 ((ls.take k).flatten.map Sym.d) m wr) ∧ Hid (Below w.heap.size w wr)) (fun _ t _ => vs.length - (intOf t).toNat)
      case atStart => exact ⟨0, by omega, rfl, ⟨⟨[], HO1.out, by simp [RdAll]⟩, HB1.out.size⟩, HB1⟩
      case round =>
        clear HO1 HB1
        obtain ⟨k, hk, rfl, HO, HB⟩ := hrel
        by_cases hlt : k < vs.length
        · obtain ⟨b, off, rfl, hc⟩ := (HV.out.keep HB.out).at hlt
          have hcell := hc k hlt
          have HSl := Lib.hid ((HS.out k hlt).below HB.out)
          have HT : Hid (slens (ls.take (k + 1)) = slens (ls.take k) + (ls.getD k []).length) := by
            show _ = _
            rw [List.take_succ_eq_append_getElem (by rw [← HL.out]; exact hlt), slens_snoc, getD_get _ _ _ (by rw [← HL.out]; exact hlt)]
          have HF : Hid ((ls.take (k + 1)).flatten = (ls.take k).flatten ++ (ls.getD k [])) := by
            show _ = _
            rw [List.take_succ_eq_append_getElem (by rw [← HL.out]; exact hlt), List.flatten_append, getD_get _ _ _ (by rw [← HL.out]; exact hlt)]; simp
          have hle2 := slens_take_le ls (k + 1)
          generalize (ls.getD k []) = x at *
          generalize vs[k] = vk at *
          have hm : slens (ls.take k) + x.length ≤ slens ls := by rw [← HT.out]; exact hle2
          have hz := HB.out.size
          obtain ⟨ys, ho, hd⟩ := HO.out.own
          obtain ⟨nn, HNN⟩ := nameIt ((ls.take k).flatten.map Sym.d).length
          have hnl : nn ≤ slens (ls.take k) := by rw [← HNN.out, List.length_map, slens_flatten]; exact Nat.le_refl _
          rw [HNN.out] at ho
          have HOO := Lib.hid ho
          have HDD := Lib.hid hd
          have HXM : Hid ((x.map Sym.d).length = x.length) := List.length_map _
          clear hc hle2 ho hd
          go_wp2_with (at_builtin; refine wp_appD elSym rfl _ _ rfl HOO.out rfl HSl.out rfl (syms_cells _) ?_ ?_ hz ?_)
          · rw [HXM.out]; omega
          · rw [HXM.out]; unfold maxLen; omega
          · intro v' w' M hM hown hg hat
            have HO3 : Hid (RowD (fun _ => False) w.heap.size 42 2 ((ls.take (k + 1)).flatten.map Sym.d) v' w') := by
              rw [HF.out, List.map_append]
              exact RowD.step (T := fun _ => False) HOO.out HDD.out HNN.out.symm (syms_none hM) (fun k hk => hk.elim) hz (by rw [List.length_map]; exact hown) hg hat
            have HB3 := Lib.hid (HB.out.grown hg hz (fun b hb => (HOO.out.lt b hb).1))
            obtain ⟨a', c', rfl, -, -⟩ := own_len hown
            clear hown hg HO HB HSl hM hat
            go_wp2
            exact ⟨⟨k + 1, by omega, by go_num, HO3, HB3⟩, by simp [intOf]; omega⟩
        · have ek : Hid (ls.take k = ls) := List.take_of_length_le (by have := HL.out; omega)
          rw [ek.out] at HO
          clear ek
          go_wp2
          go_ret
          exact ⟨_, rfl, HO.out, HB.out⟩


end Gr
end Go.Proofs.Ytmbjnemahgfhcaa
namespace Go.Proofs.Ytmbjnemahgfhcaa
open Go.RowKit
namespace Gr

theorem edLaid : laidOutB Try.prog = true := by kernel_rfl
theorem edRow : (54 : TypeId) < Try.prog.types.size := of_decide_eq_true (by kernel_rfl)
theorem edWide : (match Try.prog.underlying 54 with | some (.array _ _) | some (.struct _) => true | _ => false) = true := by kernel_rfl
theorem edAt : Try.prog.keyTypeAt 2 54 = true := by kernel_rfl
set_option maxRecDepth 100000 in
theorem edLaw : WideMaps.KeyLaw Try.prog 54 := deep_law_laid edLaid (m := 2) (by omega) edRow edAt edWide
theorem edK : Go.Maps.Keyed Try.prog 54 := .of_law edLaw
def edL (u : Nat × Nat) : Lit := .string (keyBytes [.int .i64 u.1, .int .i64 u.2])
def edV (u : Nat × Nat) : Value := .agg #[.int .i64 (u.1 : Nat), .int .i64 (u.2 : Nat)]
def okU (u : Nat × Nat) : Prop := u.1 ≤ 1000 ∧ u.2 ≤ 1000
theorem edKey {u : Nat × Nat} (h : okU u) : keyOf Try.prog 54 (edV u) = some (edL u) := by
  obtain ⟨a, b⟩ := u
  obtain ⟨ha, hb⟩ := h
  show keyOf _ _ (.agg #[.int .i64 (a : Nat), .int .i64 (b : Nat)]) = _
  have h1 : Try.prog.keyType 54 = true := by kernel_rfl
  have h3 : Try.prog.cellsOf 54 = 2 := by kernel_rfl
  have h4 : Try.prog.cellsOf 3 = 1 := by kernel_rfl
  have h2 : (Value.agg #[.int .i64 a, .int .i64 b]).formed Try.prog 54 = true := by simp [Value.formed, Try.underlying54, h3]
  obtain ⟨m, hm⟩ : ∃ m, Try.prog.types.size = m + 1 := ⟨Try.prog.types.size - 1, by have h : 0 < Try.prog.types.size := of_decide_eq_true (by kernel_rfl); omega⟩
  have h5 : Try.prog.keyLits (Try.prog.types.size + 1) 54 [.int .i64 a, .int .i64 b] = some [.int .i64 a, .int .i64 b] := by
    rw [hm]
    simp [Program.keyLits, Try.underlying54, h3, h4, Try.underlying3, Ln.wf_small3 ha, Ln.wf_small3 hb]
  unfold keyOf
  simp only [Try.underlying54, h1, h2, Bool.and_self, if_true]
  show Option.map _ (Try.prog.keyLits _ _ [.int .i64 a, .int .i64 b]) = _
  rw [h5]
  rfl
theorem edV_inj {u v : Nat × Nat} (h : edV u = edV v) : u = v := by
  unfold edV at h
  simp at h
  exact Prod.ext (by omega) (by omega)
theorem edL_inj {u v : Nat × Nat} (hu : okU u) (hv : okU v) (h : edL u = edL v) : u = v := by
  have h1 := edKey hu
  have h2 := edKey hv
  rw [← h] at h2
  exact edV_inj (edK.inj h1 h2)
structure EdD (D : DataW Unit) (Q : Nat × Nat → Prop) (c : Nat) : Prop where
  size : Maps.size D = c
  has : ∀ l, Maps.has D l = true ↔ ∃ u, okU u ∧ Q u ∧ l = edL u
  yes : ∀ l zd, Maps.has D l = true → D.atKey l zd = .lit (.bool true)
/-- block b is a map of the edges of Q -/
def EdM (b : Nat) (Q : Nat × Nat → Prop) (c : Nat) (w : World) : Prop := ∃ D : DataW Unit, w.ownsMap Try.prog 54 (plainElem Try.prog 4) b c D ∧ EdD D Q c
section
variable {b c r cnt : Nat} {Q Q' L : Nat × Nat → Prop} {w w' : World} {D : DataW Unit} {u : Nat × Nat}
theorem EdM.kept {row : Option Nat} (h : EdM b Q c w) (hg : w.grownBy w' row) (hne : some b ≠ row) : EdM b Q c w' := by
  obtain ⟨D, h1, h2⟩ := h
  exact ⟨D, h1.kept hg hne, h2⟩
theorem EdM.keep (h : EdM b Q c w) (hb : Below w.heap.size w w') : EdM b Q c w' := h.kept (grown_below hb none) (by simp)
theorem EdM.lt (h : EdM b Q c w) : b < w.heap.size := by obtain ⟨D, h1, _⟩ := h; exact h1.lt
theorem EdM.eq (h : EdM b Q c w) (e : ∀ u, okU u → (Q u ↔ Q' u)) : EdM b Q' c w := by
  obtain ⟨D, h1, h2⟩ := h
  refine ⟨D, h1, h2.size, fun l => ?_, h2.yes⟩
  rw [h2.has l]
  constructor
  · rintro ⟨u, a1, a2, a3⟩; exact ⟨u, a1, (e u a1).1 a2, a3⟩
  · rintro ⟨u, a1, a2, a3⟩; exact ⟨u, a1, (e u a1).2 a2, a3⟩
theorem EdM.start (w : World) {b : Nat} (hb : b = w.heap.size) (hQ : ∀ u, okU u → ¬ Q u) : EdM b Q 0 (w.alloc (.map #[] 0)) := by
  subst hb
  exact ⟨.map [], World.ownsMap_made w _ _ _, rfl, fun l => ⟨fun h => by simp [Maps.has] at h, fun ⟨u, h1, h2, _⟩ => absurd h2 (hQ u h1)⟩, fun l zd h => by simp [Maps.has] at h⟩
theorem EdD.hasU (h : EdD D Q c) (hu : okU u) : Maps.has D (edL u) = true ↔ Q u := by
  rw [h.has]
  constructor
  · rintro ⟨v, h1, h2, h3⟩
    rw [edL_inj hu h1 h3]; exact h2
  · intro hq; exact ⟨u, hu, hq, rfl⟩
/-- m[k] = true -/
theorem EdM.add (h : EdM b Q c w) (hu : okU u) (hc : c < maxLen) (hQ : ∀ v, okU v → (Q' v ↔ Q v ∨ v = u)) :
    ∃ w' c', (Instr.mapUpdate 51 (.map (some b)) (edV u) (.bool true)).run Try.prog w = .ok () w' ∧ EdM b Q' c' w' ∧ w.grownBy w' (some b) ∧ c' ≤ c + 1 := by
  obtain ⟨D, h1, h2⟩ := h
  have hk := edKey hu
  obtain ⟨w', hrun, ho, htn⟩ := h1.store edK Try.underlying51 hc hk (plainElem_bool Try.underlying4 true)
  have hm := h1.isMap
  have hkk := edK.key hk
  have hty := h1.tidy edK
  have hsz := Maps.size_put (k := edL u) hty (.lit (.bool true))
  have hle := ho.size_le
  have hT : EdD (D.put (edL u) (.lit (.bool true))) Q' (Maps.size (D.put (edL u) (.lit (.bool true)))) := by
    refine ⟨rfl, fun l => ?_, fun l zd hh => ?_⟩
    · by_cases e : l = edL u
      · subst e
        rw [Maps.has_put_same hm hkk]
        exact ⟨fun _ => ⟨u, hu, (hQ u hu).2 (.inr rfl), rfl⟩, fun _ => rfl⟩
      · rw [Maps.has_put_other e, h2.has]
        constructor
        · rintro ⟨v, a1, a2, a3⟩; exact ⟨v, a1, (hQ v a1).2 (.inl a2), a3⟩
        · rintro ⟨v, a1, a2, a3⟩
          rcases (hQ v a1).1 a2 with a4 | rfl
          · exact ⟨v, a1, a4, a3⟩
          · exact absurd a3 e
    · by_cases e : l = edL u
      · subst e; exact Maps.atKey_put_same hm hkk _ _
      · rw [Maps.has_put_other e] at hh
        rw [Maps.atKey_put_other e]; exact h2.yes _ _ hh
  refine ⟨w', _, hrun, ⟨_, ?_, hT⟩, htn.grown, ?_⟩
  · obtain ⟨es, ck, a1, a2, a3, a4⟩ := ho
    refine ⟨es, ck, a1, a2, ?_, a4⟩
    rw [a4]
    show es.size ≤ _
    rw [Maps.size_eq, length_read]; exact Nat.le_refl _
  · rw [hsz, h2.size]; split <;> omega
/-- block r ranges over the map in b; L: the edges still to come -/
def RgE (b r : Nat) (Q L : Nat × Nat → Prop) (cnt : Nat) (w : World) : Prop :=
  ∃ (D : DataW Unit) (n c : Nat) (left : Lit → Bool), w.ranges Try.prog 54 (plainElem Try.prog 4) b r n D left cnt ∧ EdD D Q c ∧ (∀ kl, left kl = true → Maps.has D kl = true) ∧ ∀ u, okU u → (left (edL u) = true ↔ L u)
theorem RgE.keep (h : RgE b r Q L cnt w) (hb : Below w.heap.size w w') : RgE b r Q L cnt w' := by
  obtain ⟨D, n, c, left, h1, h2, h3, h4⟩ := h
  exact ⟨D, n, c, left, h1.kept (grown_below hb none) (by simp) (by simp), h2, h3, h4⟩
theorem RgE.lt (h : RgE b r Q L cnt w) : r < w.heap.size := by obtain ⟨D, n, c, left, h1, _⟩ := h; exact h1.lt
def rmvE (L : Nat × Nat → Prop) (u : Nat × Nat) : Nat × Nat → Prop := fun z => L z ∧ z ≠ u
/-- range m -/
theorem wpList_range_ed {ops : Array Oper} {rest : List Oper} {o : Oper} {a : Act} {K : Exit → Act → World → Prop} (w : World) (hg : o.guard = none) (m : Operand) (hop : o.op = Op.range 51 m)
    (hm : a.eval m = .map (some b)) (h : EdM b Q c w)
    (hK : ∀ w', RgE b w.heap.size Q Q c w' → Below w.heap.size w w' → w'.heap.size = w.heap.size + 1 → wpList Try.prog ops K rest (a.put o.dst (.pointer (some ⟨w.heap.size, 0, none⟩))) w') :
    wpList Try.prog ops K (o :: rest) a w := by
  obtain ⟨D, hown, hD⟩ := h
  refine wpList_range_own w hg m _ hop 54 4 edK Try.underlying51 _ b c D hm hown fun w' hrg hgr hs => ?_
  refine hK w' ⟨D, c, c, _, by rw [← hD.size]; rw [hD.size]; have := hrg; rw [hD.size] at this; exact this, hD, fun kl h => h, fun u hu => hD.hasU hu⟩ ?_ hs
  exact (Below.refl w.heap.size w).grown hgr (Nat.le_refl _) (fun j hj => by cases hj)
/-- the step -/
theorem wpList_next_ed {ops : Array Oper} {rest : List Oper} {o : Oper} {a : Act} {K : Exit → Act → World → Prop} (w : World) (hg : o.guard = none) (it : Operand) (hop : o.op = Op.next it false)
    (hit : a.eval it = .pointer (some ⟨r, 0, none⟩)) (h : RgE b r Q L cnt w)
    (hDone : (∀ u, okU u → ¬ L u) → wpList Try.prog ops K rest (a.put o.dst (.tuple #[.bool false])) w)
    (hMore : ∀ (u : Nat × Nat) (w' : World) (cnt' : Nat), okU u → Q u → L u → RgE b r Q (rmvE L u) cnt' w' → cnt' < cnt → w.grownBy w' (some r) → w'.heap.size = w.heap.size →
      (Instr.entry (.pointer (some ⟨r, 0, none⟩))).run Try.prog w' = .ok (.tuple #[.agg #[.int .i64 (u.1 : Nat), .int .i64 (u.2 : Nat)], .bool true]) w' → wpList Try.prog ops K rest (a.put o.dst (.tuple #[.bool true, .agg #[.int .i64 (u.1 : Nat), .int .i64 (u.2 : Nat)], .bool true])) w') :
    wpList Try.prog ops K (o :: rest) a w := by
  obtain ⟨D, n, c, left, h1, h2, h3, h4⟩ := h
  refine wpList_next_ranges w hg it hop 54 edK _ (id : Value → Value) Value.bool (fun key kl _ => ⟨key, rfl⟩) (fun v y hv => by obtain ⟨x, e, _⟩ := plainElem_bool_inv Try.underlying4 hv; exact ⟨x, e⟩) b r n D left cnt hit h1 (fun _ hl => hDone fun u hu hL => ?_) (fun x v kl y w' cnt' hkey hleft hRv hat hrg hlt hgr hsz hen => ?_)
  · have := (h4 u hu).2 hL
    rw [hl] at this; cases this
  · obtain ⟨u, hu, hQ, hkl⟩ := (h2.has _).1 (h3 _ hleft)
    subst hkl
    obtain rfl : x = edV u := edK.inj hkey (edKey hu)
    have hL : L u := (h4 u hu).1 hleft
    obtain rfl : v = true := by
      have h5 := h2.yes (edL u) (.lit (.bool false)) (h3 _ hleft)
      rw [hat] at h5
      obtain ⟨z, hz, hy⟩ := plainElem_bool_inv Try.underlying4 hRv
      cases hz
      rw [hy] at h5
      simpa using h5
    refine hMore u w' cnt' hu hQ hL ⟨D, n, c, _, hrg, h2, fun kl hk => h3 kl (by simp at hk; exact hk.1), fun z hz => ?_⟩ hlt hgr hsz hen
    have e1 : Lit.sameKey (edL z) (edL u) = decide (z = u) := by
      by_cases e : z = u
      · subst e; simp [Lit.sameKey, edL]
      · have : ¬ edL z = edL u := fun h => e (edL_inj hz hu h)
        unfold edL at this ⊢
        simp [Lit.sameKey, e] at this ⊢
        exact this
    rw [e1]
    simp only [Bool.and_eq_true, Bool.not_eq_true', decide_eq_false_iff_not, rmvE]
    rw [h4 z hz]
end
end Gr
end Go.Proofs.Ytmbjnemahgfhcaa
namespace Go.Proofs.Ytmbjnemahgfhcaa
open Go.RowKit
namespace Gr
open Cs

/-- the place p of the rule r has been seen -/
def Seen (K : List Rule) (i j : Nat) (r : Rule) (p : Nat) : Prop := (∃ i', i' < i ∧ K[i']? = some r ∧ p < r.right.length) ∨ (K[i]? = some r ∧ p < j)
def TE (K : List Rule) (i j A B : Nat) : Prop := ∃ r p s, Seen K i j r p ∧ r.right[p]? = some s ∧ s.term = false ∧ r.left.toNat = A ∧ s.n.toNat = B
def restG (G : Nat → Bool) (r : Rule) (p : Nat) : Bool := (r.right.take p ++ r.right.drop (p + 1)).any (growS G)
def ME (K : List Rule) (G : Nat → Bool) (i j : Nat) (u : Nat × Nat) : Prop := ∃ r p s, Seen K i j r p ∧ r.right[p]? = some s ∧ s.term = false ∧ r.left.toNat = u.1 ∧ s.n.toNat = u.2 ∧ restG G r p = true
section
variable {K : List Rule} {G : Nat → Bool} {i j N : Nat} {r : Rule} {s : Sym}
theorem seen_next (hi : K[i]? = some r) {q : Rule} {p : Nat} : Seen K i (j + 1) q p ↔ Seen K i j q p ∨ (q = r ∧ p = j) := by
  unfold Seen
  constructor
  · rintro (h | ⟨h1, h2⟩)
    · exact .inl (.inl h)
    · by_cases e : p = j
      · rw [hi] at h1; cases h1; exact .inr ⟨rfl, e⟩
      · exact .inl (.inr ⟨h1, by omega⟩)
  · rintro ((h | ⟨h1, h2⟩) | ⟨rfl, rfl⟩)
    · exact .inl h
    · exact .inr ⟨h1, by omega⟩
    · exact .inr ⟨hi, by omega⟩
theorem seen_line (hi : K[i]? = some r) {q : Rule} {p : Nat} : Seen K (i + 1) 0 q p ↔ Seen K i r.right.length q p := by
  unfold Seen
  constructor
  · rintro (⟨i', h1, h2, h3⟩ | ⟨h1, h2⟩)
    · by_cases e : i' = i
      · subst e; rw [hi] at h2; cases h2; exact .inr ⟨hi, h3⟩
      · exact .inl ⟨i', by omega, h2, h3⟩
    · omega
  · rintro (⟨i', h1, h2, h3⟩ | ⟨h1, h2⟩)
    · exact .inl ⟨i', by omega, h2, h3⟩
    · rw [hi] at h1; cases h1; exact .inl ⟨i, by omega, hi, h2⟩
theorem te_next (hi : K[i]? = some r) (hj : r.right[j]? = some s) {A B : Nat} : TE K i (j + 1) A B ↔ TE K i j A B ∨ (s.term = false ∧ r.left.toNat = A ∧ s.n.toNat = B) := by
  constructor
  · rintro ⟨q, p, s', h1, h2, h3, h4, h5⟩
    rcases (seen_next hi).1 h1 with h | ⟨rfl, rfl⟩
    · exact .inl ⟨q, p, s', h, h2, h3, h4, h5⟩
    · rw [hj] at h2; cases h2; exact .inr ⟨h3, h4, h5⟩
  · rintro (⟨q, p, s', h1, h2, h3, h4, h5⟩ | ⟨h3, h4, h5⟩)
    · exact ⟨q, p, s', (seen_next hi).2 (.inl h1), h2, h3, h4, h5⟩
    · exact ⟨r, j, s, (seen_next hi).2 (.inr ⟨rfl, rfl⟩), hj, h3, h4, h5⟩
theorem me_next (hi : K[i]? = some r) (hj : r.right[j]? = some s) {u : Nat × Nat} : ME K G i (j + 1) u ↔ ME K G i j u ∨ (s.term = false ∧ r.left.toNat = u.1 ∧ s.n.toNat = u.2 ∧ restG G r j = true) := by
  constructor
  · rintro ⟨q, p, s', h1, h2, h3, h4, h5⟩
    rcases (seen_next hi).1 h1 with h | ⟨rfl, rfl⟩
    · exact .inl ⟨q, p, s', h, h2, h3, h4, h5⟩
    · rw [hj] at h2; cases h2; exact .inr ⟨h3, h4, h5⟩
  · rintro (⟨q, p, s', h1, h2, h3, h4, h5⟩ | ⟨h3, h4, h5⟩)
    · exact ⟨q, p, s', (seen_next hi).2 (.inl h1), h2, h3, h4, h5⟩
    · exact ⟨r, j, s, (seen_next hi).2 (.inr ⟨rfl, rfl⟩), hj, h3, h4, h5⟩
theorem te_line (hi : K[i]? = some r) {A B : Nat} : TE K (i + 1) 0 A B ↔ TE K i r.right.length A B := by
  unfold TE
  constructor
  · rintro ⟨q, p, s', h1, h2⟩; exact ⟨q, p, s', (seen_line hi).1 h1, h2⟩
  · rintro ⟨q, p, s', h1, h2⟩; exact ⟨q, p, s', (seen_line hi).2 h1, h2⟩
theorem me_line (hi : K[i]? = some r) {u : Nat × Nat} : ME K G (i + 1) 0 u ↔ ME K G i r.right.length u := by
  unfold ME
  constructor
  · rintro ⟨q, p, s', h1, h2⟩; exact ⟨q, p, s', (seen_line hi).1 h1, h2⟩
  · rintro ⟨q, p, s', h1, h2⟩; exact ⟨q, p, s', (seen_line hi).2 h1, h2⟩
theorem te_start {A B : Nat} : ¬ TE K 0 0 A B := by
  rintro ⟨q, p, s', (⟨i', h, _⟩ | ⟨_, h⟩), _⟩ <;> omega
theorem me_start {u : Nat × Nat} : ¬ ME K G 0 0 u := by
  rintro ⟨q, p, s', (⟨i', h, _⟩ | ⟨_, h⟩), _⟩ <;> omega
theorem get_split {l : List Sym} {p : Nat} {s : Sym} (h : l[p]? = some s) : l = l.take p ++ s :: l.drop (p + 1) := by
  obtain ⟨hp, he⟩ := List.getElem?_eq_some_iff.1 h
  rw [← he]
  conv => lhs; rw [← List.take_append_drop p l, List.drop_eq_getElem_cons hp]
theorem te_end (hl : ∀ r ∈ K, 0 ≤ r.left) {A B : Nat} : TE K K.length 0 A B ↔ (A, B) ∈ kE K := by
  constructor
  · rintro ⟨q, p, s', hs, h2, h3, h4, h5⟩
    have hq : q ∈ K := by
      rcases hs with ⟨i', h, h6, _⟩ | ⟨_, h⟩
      · exact List.mem_of_getElem? h6
      · omega
    have := hl q hq
    exact edge_mem ⟨q, hq, by omega, _, s', _, get_split h2, h3, h5⟩
  · intro h
    obtain ⟨q, hq, h1, a, s', b, e, h3, h4⟩ := mem_edge hl h
    obtain ⟨i', hi', rfl⟩ := List.getElem_of_mem hq
    refine ⟨K[i'], a.length, s', .inl ⟨i', hi', by simp, by rw [e]; simp⟩, by rw [e]; simp, h3, by omega, h4⟩
theorem me_end (hl : ∀ r ∈ K, 0 ≤ r.left) (hr : ∀ r ∈ K, ∀ s ∈ r.right, s.term = false → s.n.toNat < N) (hG : GrOk K N G) {A B : Nat} : ME K G K.length 0 (A, B) ↔ More K A B := by
  have key : ∀ q ∈ K, ∀ p, restG G q p = true ↔ ∃ x ∈ q.right.take p ++ q.right.drop (p + 1), Grows K x := by
    intro q hq p
    unfold restG
    rw [List.any_eq_true]
    have hx : ∀ x ∈ q.right.take p ++ q.right.drop (p + 1), (growS G x = true ↔ Grows K x) := by
      intro x hx
      have hxm : x ∈ q.right := by
        rcases List.mem_append.1 hx with h | h
        · exact List.mem_of_mem_take h
        · exact List.mem_of_mem_drop h
      unfold growS Grows Ds
      cases ht : x.term with
      | true => simp
      | false =>
        have := hG x.n.toNat (hr q hq x hxm ht)
        simp [this]
    constructor
    · rintro ⟨x, h1, h2⟩; exact ⟨x, h1, (hx x h1).1 h2⟩
    · rintro ⟨x, h1, h2⟩; exact ⟨x, h1, (hx x h1).2 h2⟩
  constructor
  · rintro ⟨q, p, s', hs, h2, h3, h4, h5, h6⟩
    have hq : q ∈ K := by
      rcases hs with ⟨i', h, h6, _⟩ | ⟨_, h⟩
      · exact List.mem_of_getElem? h6
      · omega
    have h0 := hl q hq
    have h4' : q.left.toNat = A := h4
    exact ⟨q, hq, by omega, _, s', _, get_split h2, h3, h5, (key q hq p).1 h6⟩
  · rintro ⟨q, hq, h1, a, s', b, e, h3, h4, hx⟩
    obtain ⟨i', hi', he⟩ := List.getElem_of_mem hq
    refine ⟨q, a.length, s', .inl ⟨i', hi', by rw [List.getElem?_eq_getElem hi', he], by rw [e]; simp⟩, by rw [e]; simp, h3, by show q.left.toNat = A; omega, h4, (key q hq a.length).2 ?_⟩
    rw [e]
    simpa using hx
/-- the answer -/
def goodE (F : Nat → Nat → Bool) (u : Nat × Nat) : Bool := decide (u.1 = u.2) || F u.2 u.1
theorem good_grow {Q : Nat × Nat → Prop} (hE : ∀ e ∈ kE K, e.1 < N ∧ e.2 < N) (hQ : ∀ A B, Q (A, B) ↔ More K A B) : GrowC K ↔ ∃ u, Q u ∧ goodE (fw (kE K) N) u = true := by
  constructor
  · rintro ⟨P, R, hm, hc⟩
    refine ⟨(P, R), (hQ P R).2 hm, ?_⟩
    unfold goodE
    rcases hc with rfl | hc
    · simp
    · have := (fw_iff hE).2 hc
      simp [this]
  · rintro ⟨⟨P, R⟩, hq, hg⟩
    refine ⟨P, R, (hQ P R).1 hq, ?_⟩
    unfold goodE at hg
    simp at hg
    rcases hg with h | h
    · exact .inl h
    · exact .inr ((fw_iff hE).1 h)
end
/-- the tables of lens.endless while the rules are read -/
structure EI (wB : World) (bt N : Nat) (rb : Nat → Nat) (B2 mb : Nat) (T : Nat → Nat → Bool) (Q : Nat × Nat → Prop) (c : Nat) (wr : World) : Prop where
  li : LI wB bt N rb B2 T wr
  mp : EdM mb Q c wr
  ne : B2 ≤ mb ∧ bt < mb ∧ wB.heap.size ≤ mb
section
variable {wB wr w' : World} {bt N B2 mb c : Nat} {rb : Nat → Nat} {T : Nat → Nat → Bool} {Q Q' : Nat × Nat → Prop}
theorem EI.keep (h : EI wB bt N rb B2 mb T Q c wr) (hb : Below wr.heap.size wr w') : EI wB bt N rb B2 mb T Q c w' := ⟨h.li.keep hb, h.mp.keep hb, h.ne⟩
theorem EI.set (h : EI wB bt N rb B2 mb T Q c wr) {a b : Nat} (ha : a < N) (hb : b < N) : EI wB bt N rb B2 mb (updB T a b) Q c (wr.setCell ⟨rb a, b, none⟩ (.bool true)) :=
  ⟨h.li.set ha hb, h.mp.kept (grown_cell _ _ _) (fun e => by have := h.li.lo a ha; have := h.ne.1; simp at e; omega), h.ne⟩
theorem EI.put {c' : Nat} (h : EI wB bt N rb B2 mb T Q c wr) (hg : wr.grownBy w' (some mb)) (hm : EdM mb Q' c' w') : EI wB bt N rb B2 mb T Q' c' w' :=
  ⟨⟨h.li.tab.grown hg (fun k e => by cases e; exact ⟨by have := h.ne.2.1; omega, fun i _ hi => by have := h.li.lo i hi; have := h.ne.1; omega⟩), h.li.bel.grown hg (by have := h.li.bel.size; omega) (fun k e => by cases e; exact h.ne.2.2), h.li.lo⟩, hm, h.ne⟩
theorem EI.eq {T' : Nat → Nat → Bool} (h : EI wB bt N rb B2 mb T Q c wr) (h1 : ∀ k l, k < N → l < N → T k l = T' k l) (h2 : ∀ u, okU u → (Q u ↔ Q' u)) : EI wB bt N rb B2 mb T' Q' c wr := ⟨h.li.eq h1, h.mp.eq h2, h.ne⟩
theorem EI.setv (h : EI wB bt N rb B2 mb T Q c wr) {a b : Nat} (ha : a < N) (hb : b < N) (x : Bool) : EI wB bt N rb B2 mb (fun k l => if k = a ∧ l = b then x else T k l) Q c (wr.setCell ⟨rb a, b, none⟩ (.bool x)) :=
  ⟨h.li.setv ha hb x, h.mp.kept (grown_cell _ _ _) (fun e => by have := h.li.lo a ha; have := h.ne.1; simp at e; omega), h.ne⟩
theorem LI.grown' {rg : Nat} (h : LI wB bt N rb B2 T wr) (hg : wr.grownBy w' (some rg)) (h1 : bt < rg) (h2 : B2 ≤ rg) (h3 : wB.heap.size ≤ rg) : LI wB bt N rb B2 T w' :=
  ⟨h.tab.grown hg (fun k e => by cases e; exact ⟨by omega, fun i _ hi => by have := h.lo i hi; omega⟩), h.bel.grown hg (by have := h.bel.size; omega) (fun k e => by cases e; exact h3), h.lo⟩
theorem me_te {K : List Rule} {G : Nat → Bool} {i j : Nat} {u : Nat × Nat} (h : ME K G i j u) : TE K i j u.1 u.2 := by
  obtain ⟨r, p, s, h1, h2, h3, h4, h5, _⟩ := h
  exact ⟨r, p, s, h1, h2, h3, h4, h5⟩
theorem bx_grownE {w w' : World} {g : Nat} {o : Obj} {row : Option Nat} (h : w.heap[g]? = some o) (hg : w.grownBy w' row) (hne : some g ≠ row) : w'.heap[g]? = some o := by
  rw [hg.block g (Array.getElem?_eq_some_iff.1 h).1 hne]; exact h
end
end Gr
end Go.Proofs.Ytmbjnemahgfhcaa
namespace Go.Proofs.Ytmbjnemahgfhcaa
open Go.RowKit
namespace Gr
open Cs

theorem faults_ne5 {g : Gram} : ∀ {l : List Rule} {i : Nat}, faultsFrom g i l ≠ 5
  | [], i => by rw [faultsFrom]; decide
  | r :: l, i => by
    rw [faultsFrom]
    split
    · exact faults_ne5
    · unfold faultR
      split
      · decide
      · split
        · decide
        · split
          · decide
          · split <;> decide
theorem checkG_ne5 {g : Gram} : checkG g ≠ 5 := by
  unfold checkG
  split
  · decide
  · split
    · decide
    · exact faults_ne5
def trimG (g : Gram) (N S : Nat) (X : Nat → Int) (I : Nat → Bool) : Gram := ⟨g.terms, (((List.range N).filter I).length : Nat), (toF I S : Nat), trimR X I g.rules⟩
section
variable {g : Gram} {N S : Nat} {X : Nat → Int} {I : Nat → Bool} {vr vn vl : Value} {w' : World}
theorem trim_ok (h : TrimR g N S X I vr vn vl w') : OkC (trimG g N S X I) ((List.range N).filter I).length := by
  have ht := h.trm
  have hS := toF_lt ht.start ht.hS
  refine ⟨rfl, by omega, ?_, by simp [trimG], ?_, ?_, ?_, ?_⟩
  · have h1 := List.length_filter_le I (List.range N)
    rw [List.length_range] at h1
    exact Nat.le_trans h1 h.ok.n2
  · show ((toF I S : Nat) : Int) < _
    omega
  · intro r hr s hs hst
    obtain ⟨q, hq, h1, h2, rfl⟩ := mem_trim.1 (show r ∈ trimR X I g.rules from hr)
    obtain ⟨s', hs', rfl⟩ := List.mem_map.1 (show s ∈ q.right.map (renS I) from hs)
    rw [renS_term] at hst
    have h3 := ht.clo q hq h1 h2 s' hs' hst
    have h5 := toF_lt h3 (ht.lt _ h3)
    unfold renS
    rw [if_neg (by simp [hst])]
    exact ⟨by simp, by simpa using h5⟩
  · intro r hr
    obtain ⟨q, hq, h1, h2, rfl⟩ := mem_trim.1 (show r ∈ trimR X I g.rules from hr)
    have h5 := toF_lt h1 (ht.lt _ h1)
    exact ⟨by simp [renR], by simpa [renR] using h5⟩
  · show (trimR X I g.rules).length ≤ 32
    unfold trimR
    rw [List.length_map]
    exact Nat.le_trans (List.length_filter_le _ _) h.ok.len
theorem trim_right {M : Nat} (h : ∀ r ∈ g.rules, r.right.length ≤ M) : ∀ r ∈ trimR X I g.rules, r.right.length ≤ M := by
  intro r hr
  obtain ⟨q, hq, _, _, rfl⟩ := mem_trim.1 hr
  simpa [renR] using h q hq
end
/-- the table of longest words so far -/
def SndM (K : List Rule) (M : Nat → Nat) : Prop := ∀ B, M B = 0 ∨ ∃ k, Dv K B k ∧ M B ≤ k
def nS (M : Nat → Nat) (s : Sym) : Nat := if s.term then 1 else M s.n.toNat
def nL (M : Nat → Nat) (l : List Sym) : Nat := (l.map (nS M)).sum
def updN (M : Nat → Nat) (A x : Nat) : Nat → Nat := fun B => if B = A then x else M B
def ClM (M : Nat → Nat) (l : List Rule) : Prop := ∀ r ∈ l, nL M r.right ≤ M r.left.toNat
section
variable {K : List Rule} {M : Nat → Nat}
theorem nL_next {l : List Sym} {j : Nat} (hj : j < l.length) : nL M (l.take (j + 1)) = nL M (l.take j) + nS M l[j] := by
  unfold nL
  rw [List.take_succ_eq_append_getElem hj, List.map_append, List.sum_append]
  simp
theorem snd_row (hM : SndM K M) : ∀ {l : List Sym}, (∀ s ∈ l, ∃ k, Ds K s k) → ∃ k, Dl K l k ∧ nL M l ≤ k
  | [], _ => ⟨0, rfl, by simp [nL]⟩
  | s :: l, h => by
    obtain ⟨k, h1, h2⟩ := snd_row hM (l := l) (fun s hs => h s (by simp [hs]))
    obtain ⟨i, h3⟩ := h s (by simp)
    have h4 : ∃ i, Ds K s i ∧ nS M s ≤ i := by
      unfold nS
      cases ht : s.term with
      | true => unfold Ds at h3 ⊢; exact ⟨1, by rw [ht]; rfl, by simp⟩
      | false =>
        rcases hM s.n.toNat with e | ⟨k', e1, e2⟩
        · exact ⟨i, h3, by simp [e]⟩
        · exact ⟨k', by unfold Ds; rw [ht]; exact e1, by simpa using e2⟩
    obtain ⟨i, h3, h4⟩ := h4
    refine ⟨i + k, ⟨i, k, rfl, h3, h1⟩, ?_⟩
    unfold nL at h2 ⊢
    rw [List.map_cons, List.sum_cons]
    omega
theorem row_nL : ∀ {l : List Sym} {k : Nat}, Row (fun s i => if s.term then i = 1 else i ≤ M s.n.toNat) l k → k ≤ nL M l
  | [], k, h => by have : k = 0 := h; omega
  | s :: l, k, h => by
    obtain ⟨i, j, rfl, h1, h2⟩ := h
    have h3 := row_nL h2
    have h4 : i ≤ nS M s := by
      unfold nS
      cases ht : s.term with
      | true => simp only [ht] at h1; simp at h1 ⊢; omega
      | false => simp only [ht] at h1; simp at h1 ⊢; omega
    unfold nL at h3 ⊢
    rw [List.map_cons, List.sum_cons]
    omega
theorem clM_all (hl : ∀ r ∈ K, 0 ≤ r.left) (hc : ClM M K) {A k : Nat} (hd : Dv K A k) : k ≤ M A :=
  dv_ind (P := fun A k => k ≤ M A) (fun r hr A k hl hrow => by
    have h1 := row_nL hrow
    have h2 := hc r hr
    rw [hl] at h2
    exact Nat.le_trans h1 (by simpa using h2)) hd
theorem sndM_set (hF : Full K) (hM : SndM K M) {r : Rule} (hr : r ∈ K) {A : Nat} (hl : r.left = (A : Int)) : SndM K (updN M A (nL M r.right)) := by
  intro B
  unfold updN
  by_cases e : B = A
  · rw [if_pos e, e]
    obtain ⟨k, h1, h2⟩ := snd_row hM (hF r hr)
    exact .inr ⟨k, dv_rule hr hl h1, h2⟩
  · rw [if_neg e]; exact hM B
theorem clM_next {i : Nat} (hi : i < K.length) (h : ClM M (K.take i)) (hr : nL M K[i].right ≤ M K[i].left.toNat) : ClM M (K.take (i + 1)) := by
  intro r hm
  rw [List.take_succ_eq_append_getElem hi] at hm
  rcases List.mem_append.1 hm with h1 | h1
  · exact h r h1
  · simp at h1; rw [h1]; exact hr
/-- no word is longer -/
theorem sndM_le {d : Nat} (hd : 1 ≤ d) (hr : ∀ r ∈ K, r.right.length ≤ d) {N : Nat} (hK : ∀ r ∈ K, r.left.toNat < N) (hng : ¬ GrowC K) (hM : SndM K M) (B : Nat) : M B ≤ d ^ N := by
  rcases hM B with h | ⟨k, h1, h2⟩
  · omega
  · by_cases e : k ≤ d ^ N
    · omega
    · exact absurd (long_grow hd hr hK h1 (by omega)) hng
end
def muM (M : Nat → Nat) : Nat → Nat
  | 0 => 0
  | n + 1 => muM M n + M n
theorem muM_other {M : Nat → Nat} {A x : Nat} : ∀ {n : Nat}, n ≤ A → muM (updN M A x) n = muM M n
  | 0, _ => rfl
  | n + 1, h => by
    unfold muM
    rw [muM_other (by omega)]
    unfold updN
    rw [if_neg (by omega)]
theorem muM_set {M : Nat → Nat} {A x : Nat} : ∀ {N : Nat}, A < N → muM (updN M A x) N + M A = muM M N + x
  | 0, h => by omega
  | n + 1, h => by
    unfold muM
    by_cases e : A = n
    · subst e
      rw [muM_other (Nat.le_refl _)]
      unfold updN
      rw [if_pos rfl]
      omega
    · have := muM_set (M := M) (x := x) (show A < n by omega)
      unfold updN at this ⊢
      rw [if_neg (by omega)]
      omega
theorem muM_le {M : Nat → Nat} {C : Nat} (h : ∀ B, M B ≤ C) : ∀ N, muM M N ≤ N * C
  | 0 => by simp [muM]
  | n + 1 => by
    have h1 := muM_le h n
    have h2 := h n
    unfold muM
    rw [Nat.add_mul]
    omega
/-- the answer -/
def Grt (g : Gram) (v : Int) : Prop := (v = -1 ∧ ∀ k, ¬ Dv g.rules g.start.toNat k) ∨ (v = -2 ∧ ∀ m, ∃ k, m ≤ k ∧ Dv g.rules g.start.toNat k) ∨ (0 ≤ v ∧ Dv g.rules g.start.toNat v.toNat ∧ (∀ k, Dv g.rules g.start.toNat k → k ≤ v.toNat) ∧ ∀ d, 1 ≤ d → (∀ r ∈ g.rules, r.right.length ≤ d) → v.toNat ≤ d ^ g.nons.toNat)
def GstPost (g : Gram) (w : World) (e : Ending) (w' : World) : Prop :=
  Below w.heap.size w w' ∧ ((checkG g ≠ 0 ∧ e = .returned (.tuple #[.int .i64 0, .int .i64 (checkG g)])) ∨ (checkG g = 0 ∧ ∃ v : Int, e = .returned (.tuple #[.int .i64 v, .int .i64 0]) ∧ Grt g v))
section
variable {g : Gram} {N S : Nat} {X : Nat → Int} {I : Nat → Bool} {vr vn vl : Value} {w' : World}
theorem grt_endless (h : TrimR g N S X I vr vn vl w') (hg : GrowC (trimR X I g.rules)) : Grt g (-2) := by
  have hst : g.start.toNat = S := by rw [h.start]; simp
  refine .inr (.inl ⟨rfl, fun m => ?_⟩)
  obtain ⟨k, h1, h2⟩ := grow_long h.trm.full (fun r hr => ((trim_ok h).l r hr).1) h.trm.reach hg m
  rw [hst]
  exact ⟨k, h1, h.trm.from h2 S h.trm.start rfl⟩
theorem grt_most {M : Nat → Nat} (h : TrimR g N S X I vr vn vl w') (hs : SndM (trimR X I g.rules) M) (hc : ClM M (trimR X I g.rules)) (hng : ¬ GrowC (trimR X I g.rules)) : Grt g (M (toF I S) : Int) := by
  have hst : g.start.toNat = S := by rw [h.start]; simp
  have hl : ∀ r ∈ trimR X I g.rules, 0 ≤ r.left := fun r hr => ((trim_ok h).l r hr).1
  have h1 := ((h.trm.least S h.trm.hS).2.1 h.word)
  have h2 := h.trm.to h1 h.trm.start
  have h3 := clM_all hl hc h2
  refine .inr (.inr ⟨by omega, ?_, fun k hk => ?_, fun d hd h4 => ?_⟩)
  · rw [hst, Int.toNat_natCast]
    rcases hs (toF I S) with e | ⟨k, e1, e2⟩
    · rw [e] at h3 ⊢
      have h5 : (X S).toNat = 0 := by omega
      rw [h5] at h1; exact h1
    · have h6 := clM_all hl hc e1
      have h7 : M (toF I S) = k := by omega
      rw [h7]
      exact h.trm.from e1 S h.trm.start rfl
  · rw [hst] at hk
    rw [Int.toNat_natCast]
    exact clM_all hl hc (h.trm.to hk h.trm.start)
  · rw [Int.toNat_natCast]
    have h5 := sndM_le hd (trim_right h4) (fun r hr => ((trim_ok h).l r hr).2) hng hs (toF I S)
    have h6 := List.length_filter_le I (List.range N)
    rw [List.length_range] at h6
    refine Nat.le_trans h5 (Nat.pow_le_pow_right hd ?_)
    rw [h.ok.nons, Int.toNat_natCast]
    exact h6
end
structure MsI (K : List Rule) (wB : World) (p n : Nat) (M : Nat → Nat) (wr : World) : Prop where
  row : Vrow 3 p n (fun B => .int .i64 (M B : Nat)) wr
  snd : SndM K M
  bel : Below wB.heap.size wB wr
  lo : wB.heap.size ≤ p
theorem MsI.keep {K : List Rule} {wB wr w' : World} {p n : Nat} {M : Nat → Nat} (h : MsI K wB p n M wr) (hb : Below wr.heap.size wr w') : MsI K wB p n M w' := ⟨h.row.keep hb, h.snd, h.bel.trans (hb.mono h.bel.size), h.lo⟩
theorem MsI.set {K : List Rule} {wB wr : World} {p n : Nat} {M : Nat → Nat} (h : MsI K wB p n M wr) {A x : Nat} (hA : A < n) (hs : SndM K (updN M A x)) : MsI K wB p n (updN M A x) (wr.setCell ⟨p, A, none⟩ (.int .i64 (x : Nat))) :=
  ⟨h.row.set hA (fun k hk => by
    unfold updN
    by_cases e : k = A
    · rw [if_pos e, if_pos e]
    · rw [if_neg e, if_neg e]), hs, h.bel.setCell (by show _ ≤ p; exact h.lo) _, h.lo⟩
end Gr
end Go.Proofs.Ytmbjnemahgfhcaa
namespace Go.Proofs.Ytmbjnemahgfhcaa
open Go.RowKit
namespace Ln

def bls (l : List Bool) : List Value := l.map Value.bool
open Classical in
/-- which lengths up to n the words of a nonterminal have -/
noncomputable def lensL (K : List Rule) (n : Nat) (a : Int) : List Bool := (List.range (n + 1)).map fun k => decide (Has K a k)
def setErr (g : Gram) (n : Int) : Int := if checkG g ≠ 0 then checkG g else if n < 0 ∨ 200 < n then 1 else 0
open Classical in
noncomputable def setOf (g : Gram) (n : Int) : List Bool := if setErr g n = 0 then lensL g.rules n.toNat g.start else []
theorem sl_brow {g m : Nat} {A : Nat → Bool} {wr : World} (h : Brow g m A wr) (hm : m ≤ maxLen) : Sl wr (.slice (some ⟨g, 0, none⟩) m m) (bls ((List.range m).map A)) := by
  obtain ⟨cs, h1, h2, h3⟩ := h
  refine ⟨some ⟨g, 0, none⟩, m, by simp [bls], by simp [bls], hm, (fun h => by cases h), fun i hi => ⟨_, rfl, ?_⟩⟩
  simp [bls] at hi
  rw [add_at, Nat.zero_add]
  simp [World.cell?, h1, h3 i hi, bls]
/-- what the rounds over the rules keep -/
structure PI (K : List Rule) (n N : Nat) (H0 : Nat → Nat → Bool) (ag : Bool) (H : Nat → Nat → Bool) (j : Nat) : Prop where
  sound : Sound K H
  more : trues N (n + 1) H0 ≤ trues N (n + 1) H ∧ (ag = true → trues N (n + 1) H0 < trues N (n + 1) H)
  closed : ag = false → ∀ i, i < j → Closed K n H i
/-- what the rounds over the places keep -/
structure RI (w : World) (bt N n : Nat) (G : Array Value) (rb : Nat → Nat) (H : Nat → Nat → Bool) (rx : Nat) (RB : Array Value) (sx : Nat) (SB : Array Value) (ga : Nat) (A : Nat → Bool) (gn : Nat) (M : Nat → Bool) (wr : World) : Prop where
  li : LI w bt N (n + 1) G rb N H wr
  rbox : wr.heap[rx]? = some (.cells RB 32 (0, 0))
  sbox : wr.heap[sx]? = some (.cells SB 42 (0, 0))
  arow : Brow ga (n + 1) A wr
  nrow : Brow gn (n + 1) M wr
  ne : w.heap.size < gn ∧ gn ≠ bt ∧ (∀ i, i < N → gn ≠ rb i) ∧ gn ≠ rx ∧ gn ≠ sx ∧ gn ≠ ga
section
variable {w : World} {bt N n : Nat} {G : Array Value} {rb : Nat → Nat} {H : Nat → Nat → Bool} {rx : Nat} {RB : Array Value} {sx : Nat} {SB : Array Value} {ga : Nat} {A : Nat → Bool} {gn : Nat} {M M' : Nat → Bool} {wr : World}
theorem RI.eq (h : RI w bt N n G rb H rx RB sx SB ga A gn M wr) (he : ∀ k, k < n + 1 → M k = M' k) : RI w bt N n G rb H rx RB sx SB ga A gn M' wr := ⟨h.li, h.rbox, h.sbox, h.arow, h.nrow.eq he, h.ne⟩
theorem RI.set (h : RI w bt N n G rb H rx RB sx SB ga A gn M wr) {j : Nat} (hj : j < n + 1) (he : ∀ k, k < n + 1 → M' k = if k = j then true else M k) : RI w bt N n G rb H rx RB sx SB ga A gn M' (wr.setCell ⟨gn, j, none⟩ (.bool true)) := by
  obtain ⟨h1, h2, h3, h4, h5, e1, e2, e3, e4, e5, e6⟩ := h
  exact ⟨h1.beside e1 e2 e3 _ _, bx_other h2 (fun e => e4 e.symm) _ _, bx_other h3 (fun e => e5 e.symm) _ _, h4.other (fun e => e6 e.symm) _ _, h5.set hj he, e1, e2, e3, e4, e5, e6⟩
end
/-- what the last rounds keep: the row is read into the table -/
structure P7 (K : List Rule) (n N : Nat) (H0 H : Nat → Nat → Bool) (A : Nat → Bool) (lf j : Nat) (ag : Bool) (H' : Nat → Nat → Bool) (i : Nat) : Prop where
  pi : PI K n N H0 ag H' j
  cur : ag = false → H' = H ∧ ∀ k, k < i → A k = true → H lf k = true

end Ln
end Go.Proofs.Ytmbjnemahgfhcaa
namespace Go.Proofs.Ytmbjnemahgfhcaa
open Go.RowKit

mutual
theorem nodes_size : ∀ t : Tree, (nodes t).length ≤ t.size
  | .node r tm ks => by
    have := nodesL_size ks
    rw [nodes, Tree.size]
    by_cases h : r = -1 <;> simp [h] <;> omega
theorem nodesL_size : ∀ ks : List Tree, (nodesL ks).length ≤ sizeL ks
  | [] => by simp [nodesL, sizeL]
  | k :: ks => by
    have := nodes_size k
    have := nodesL_size ks
    simp [nodesL, sizeL]; omega
end

end Go.Proofs.Ytmbjnemahgfhcaa
namespace Go.Proofs.Ytmbjnemahgfhcaa
open Go.RowKit

def GramPost (g : Gram) (w : World) (e : Ending) (w' : World) : Prop := ∃ v, e = .returned (.agg #[.int .i64 g.terms, .int .i64 g.nons, .int .i64 g.start, v]) ∧ Rd AnyB w' (.sl (g.rules.map Rule.d)) [v] ∧ Below w.heap.size w w'

end Go.Proofs.Ytmbjnemahgfhcaa
namespace Go.Proofs.Ytmbjnemahgfhcaa
open Go.RowKit

end Go.Proofs.Ytmbjnemahgfhcaa
namespace Go.Proofs.Ytmbjnemahgfhcaa
open Go.RowKit

def plG : Gram := ⟨2, 1, 0, [⟨0, [⟨true, 0⟩]⟩, ⟨0, [⟨true, 1⟩, ⟨false, 0⟩]⟩]⟩
set_option maxHeartbeats 1000000 in
theorem plE (w : World) : Calls Try.prog 5 #[] w (GramPost plG w) := by
  go_enter Try.func5, Try.ntmps5
  go_wp2_with fail
  refine bodyPost_ret (v := .agg #[.int .i64 2, .int .i64 1, .int .i64 0, .slice (some ⟨w.heap.size + 1 + 1 + 1, 0, none⟩) 2 2]) (by simp [results, Try.results5, go_sem]) rfl ?_
  refine ⟨_, rfl, ?_, ((((Below.refl _ _).alloc (Nat.le_refl _) _).alloc (by simp) _).alloc (by simp; omega) _).alloc (by simp; omega) _⟩
  refine rd_of_own (own_of_block (bx_new _ _ _ (by simp)) (n := 2) (size := 2) rfl (by simp [maxLen])) ?_ rfl (fun _ _ => trivial)
  refine ⟨[.int .i64 0, .slice (some ⟨w.heap.size + 1, 0, none⟩) 1 1], [.int .i64 0, .slice (some ⟨w.heap.size + 1 + 1, 0, none⟩) 2 2], rfl, ?_, RdAll.one ?_⟩
  · refine rd_rule (r := ⟨0, [⟨true, 0⟩]⟩) ?_
    exact rd_of_own (own_of_block (bx_keep (bx_keep (bx_new _ _ _ (by simp)) ((Below.refl _ _).alloc (Nat.le_refl _) _)) ((Below.refl _ _).alloc (Nat.le_refl _) _)) (n := 1) (size := 2) rfl (by simp [maxLen])) (RdAll.one (rd_sym ⟨true, 0⟩)) rfl (fun _ _ => trivial)
  · refine rd_rule (r := ⟨0, [⟨true, 1⟩, ⟨false, 0⟩]⟩) ?_
    refine rd_of_own (own_of_block (bx_keep (bx_new _ _ _ (by simp)) ((Below.refl _ _).alloc (Nat.le_refl _) _)) (n := 2) (size := 2) rfl (by simp [maxLen])) ?_ rfl (fun _ _ => trivial)
    exact ⟨[.bool true, .int .i64 1], [.bool false, .int .i64 0], rfl, rd_sym ⟨true, 1⟩, RdAll.one (rd_sym ⟨false, 0⟩)⟩
theorem plG_ok : checkG plG = 0 := by decide
end Go.Proofs.Ytmbjnemahgfhcaa
namespace Go.Proofs.Ytmbjnemahgfhcaa
open Go.RowKit
namespace Gr
open Cs

/-- the last length below n -/
def lastT (f : Nat → Bool) : Nat → Int
  | 0 => -1
  | j + 1 => if f j then (j : Int) else lastT f j
section
variable {f : Nat → Bool}
theorem lastT_none : ∀ {n : Nat}, (∀ k, k < n → f k = false) → lastT f n = -1
  | 0, _ => rfl
  | n + 1, h => by
    unfold lastT
    rw [h n (by omega), if_neg (by simp)]
    exact lastT_none fun k hk => h k (by omega)
theorem lastT_big {m : Nat} (hm : f m = true) : ∀ {n : Nat}, m < n → (m : Int) ≤ lastT f n
  | 0, h => by omega
  | n + 1, h => by
    unfold lastT
    split
    · omega
    · next e =>
      by_cases e2 : m = n
      · subst e2; exact absurd hm e
      · exact lastT_big hm (by omega)
theorem lastT_max {m : Nat} (hm : f m = true) : ∀ {n : Nat}, m < n → (∀ k, k < n → f k = true → k ≤ m) → lastT f n = m
  | 0, h, _ => by omega
  | n + 1, h, hx => by
    unfold lastT
    by_cases e2 : m = n
    · subst e2; rw [if_pos hm]
    · have h1 : f n = false := by
        cases e : f n with
        | false => rfl
        | true => have := hx n (by omega) e; omega
      rw [h1, if_neg (by simp)]
      exact lastT_max hm (by omega) fun k hk => hx k (by omega)
theorem lg_plain {g : Gram} (hc : checkG g = 0) {v : Int} (h : Grt g v) (hK : ∀ r ∈ g.rules, g.nons ≤ 4 ∧ r.right.length ≤ 3) (hf : ∀ k, k ≤ 324 → (f k = true ↔ Dv g.rules g.start.toNat k)) : (if 81 < lastT f 325 then (-2 : Int) else lastT f 325) = v := by
  obtain ⟨⟨-, -, g1, -, -, -⟩, -, hr⟩ := checkG_zero hc
  rcases h with ⟨rfl, h⟩ | ⟨rfl, h⟩ | ⟨h0, h1, h2, h3⟩
  · have e : lastT f 325 = -1 := lastT_none fun k hk => by
      cases e : f k with
      | false => rfl
      | true => exact absurd ((hf k (by omega)).1 e) (h k)
    rw [e, if_neg (by omega)]
  · obtain ⟨k, hk, hd⟩ := h 82
    obtain ⟨k', h4, h5, h6⟩ := window (d := 3) (N := 4) (by omega) (fun r hm => (hK r hm).2) (fun r hm => by have := (hK r hm).1; have := (hr r hm).2.1; have := (hr r hm).1; omega) k hd (by show 81 < k; omega)
    have h7 : 81 < k' := h5
    have h8 : k' ≤ 324 := h6
    have h9 := lastT_big ((hf k' h8).2 h4) (show k' < 325 by omega)
    rw [if_pos (by omega)]
  · obtain ⟨r, hm, -, -⟩ := dv_cases h1
    have h4 := h3 3 (by omega) (fun r hm => (hK r hm).2)
    have h5 := (hK r hm).1
    have h6 : 3 ^ g.nons.toNat ≤ 3 ^ 4 := Nat.pow_le_pow_right (by omega) (by omega)
    have h7 : v.toNat ≤ 81 := Nat.le_trans h4 h6
    have h8 := lastT_max ((hf v.toNat (by omega)).2 h1) (show v.toNat < 325 by omega) (fun k hk he => h2 k ((hf k (by omega)).1 he))
    rw [h8, if_neg (by omega)]
    omega
end
theorem grt_plain {v : Int} (h : Grt plG v) : v = -2 := by
  have h1 : Dv plG.rules 0 1 := dv_rule (r := ⟨0, [⟨true, 0⟩]⟩) (by simp [plG]) rfl ⟨1, 0, rfl, rfl, rfl⟩
  have h2 : ∀ k, Dv plG.rules 0 k → Dv plG.rules 0 (1 + k) := fun k hk => dv_rule (r := ⟨0, [⟨true, 1⟩, ⟨false, 0⟩]⟩) (by simp [plG]) rfl ⟨1, k, rfl, rfl, k, 0, rfl, hk, rfl⟩
  rcases h with ⟨rfl, h⟩ | ⟨rfl, h⟩ | ⟨h0, h3, h4, -⟩
  · exact absurd h1 (h 1)
  · rfl
  · have := h4 _ (h2 _ h3)
    omega
noncomputable def fD (g : Gram) (k : Nat) : Bool := @decide (Dv g.rules g.start.toNat k) (Classical.propDecidable _)
theorem fD_iff {g : Gram} {k : Nat} : fD g k = true ↔ Dv g.rules g.start.toNat k := by unfold fD; exact @decide_eq_true_iff _ (Classical.propDecidable _)
theorem lens_at {g : Gram} (hc : checkG g = 0) {k : Nat} (hl : k < (Ln.bls (Ln.lensL g.rules 324 g.start)).length) : (Ln.bls (Ln.lensL g.rules 324 g.start))[k] = .bool (fD g k) := by
  obtain ⟨⟨-, -, -, -, g5, -⟩, -, hr⟩ := checkG_zero hc
  obtain ⟨N, hok⟩ := okC_of hc
  obtain ⟨A, hA⟩ : ∃ A : Nat, g.start = (A : Int) := ⟨g.start.toNat, by omega⟩
  have h1 : Ln.Has g.rules g.start k ↔ Dv g.rules g.start.toNat k := by
    rw [hA, Int.toNat_natCast]
    exact has_dv (fun r hm => (hr r hm).1) (fun r hm s hs ht => (hok.r r hm s hs ht).1)
  simp only [Ln.bls, Ln.lensL, List.getElem_map, List.getElem_range, fD]
  congr 1
  refine decide_eq_decide.2 ?_
  rw [List.getElem_range]
  exact h1
end Gr
end Go.Proofs.Ytmbjnemahgfhcaa
namespace Go.Proofs.Ytmbjnemahgfhcaa
open Go.RowKit

end Go.Proofs.Ytmbjnemahgfhcaa
