/- What useful.Trim asks of a rule; useful.reached. useful.reached, for any condition on rules. What the rounds of useful.Trim keep: two rows that grow. useful.Trim. -/
import Derived.Test.YtmbjnemahgfhcaaJLensGreatestRow6
import Derived.Test.YtmbjnemahgfhcaaJLensGreatestRow4
import Derived.Laws.EntriesVeiled
import Derived.Test.YtmbjnemahgfhcaaJLensGreatestRow1
import Derived.Test.YtmbjnemahgfhcaaJLensGreatestRow2
import Derived.Test.YtmbjnemahgfhcaaJLensGreatestRow5
import Derived.Deep.DeepCutAuto
namespace Go.Proofs.Ytmbjnemahgfhcaa
open Go.RowKit
namespace Gr
open Cs

/-- the lengths, in a box -/
structure UseM (b p N : Nat) (X : Nat → Int) (W : World) : Prop where
  box : W.heap[b]? = some (.cells #[.slice (some ⟨p, 0, none⟩) N N] 36 (0, 0))
  row : Vrow 3 p N (fun A => .int .i64 (X A)) W
theorem UseM.keep {b p N : Nat} {X : Nat → Int} {W W' : World} (h : UseM b p N X W) (hb : Below W.heap.size W W') : UseM b p N X W' := ⟨bx_keep h.box hb, h.row.keep hb⟩
def lackS (X : Nat → Int) (s : Sym) : Bool := !s.term && decide (X s.n.toNat < 0)
set_option maxHeartbeats 1000000 in
theorem lackE (b p N : Nat) (X : Nat → Int) (l : List Sym) (w : World) (hN : N ≤ 100) (h : UseM b p N X w) (hl : ∀ s ∈ l, s.term = false → 0 ≤ s.n ∧ s.n.toNat < N) : PredSym 16 #[.pointer (some ⟨b, 0, none⟩)] l (lackS X) w := by
  intro W ⟨st, sn⟩ hx hb
  have hk := h.keep hb
  have h1 := hl _ hx
  obtain ⟨w1, HW1⟩ := nameIt (W.alloc (.cells #[.bool st, .int .i64 sn] 42))
  have hb1 : Below W.heap.size W w1 := by rw [← HW1.out]; exact (Below.refl _ _).alloc (Nat.le_refl _) _
  have hx1 : w1.heap[W.heap.size]? = some (.cells #[.bool st, .int .i64 sn] 42 (0, 0)) := by rw [← HW1.out]; exact bx_new _ _ _ rfl
  have hk1 := hk.keep hb1
  obtain ⟨x0, x1⟩ := bx_cells2 hx1
  have y0 := bx_cells1 hk1.box
  have HB1 := Lib.hid hb1
  show Calls _ _ #[.agg #[.bool st, .int .i64 sn], .pointer (some ⟨b, 0, none⟩)] _ _
  cases st with
  | true =>
    have hE : Hid (lackS X ⟨true, sn⟩ = false) := rfl
    rw [hE.out]
    clear hk hk1 hx1 hb1 h1
    go_enter Try.func16, Try.ntmps16
    go_upto_region 1 with fail
    rw [HW1.out]
    go_wp2_with fail
    go_ret
    exact ⟨rfl, HB1.out⟩
  | false =>
    obtain ⟨h2, h3⟩ := h1 rfl
    simp only at h2 h3
    obtain ⟨B, rfl⟩ : ∃ B : Nat, sn = (B : Int) := ⟨sn.toNat, by omega⟩
    rw [Int.toNat_natCast] at h3
    have hE : Hid (lackS X ⟨false, (B : Int)⟩ = decide (X B < 0)) := rfl
    rw [hE.out]
    have q0 := hk1.row.cell h3
    have hB0 : (0 : Int) ≤ (B : Int) := by omega
    have hB1 : (B : Int) < (N : Int) := by omega
    obtain ⟨xb, HXB⟩ := nameIt (X B)
    rw [HXB.out] at q0
    rw [HXB.out]
    clear hk hk1 hx1 hb1 h1 h2
    go_enter Try.func16, Try.ntmps16
    go_upto_region 1 with fail
    rw [HW1.out]
    go_wp2_with fail
    go_ret
    exact ⟨rfl, HB1.out⟩
theorem use_lack (X : Nat → Int) (r : Rule) : useR X r = !(r.right.any (lackS X)) := rfl
set_option maxHeartbeats 1000000 in
theorem useFnE (b p N : Nat) (X : Nat → Int) (K : List Rule) (w : World) (hN : N ≤ 100) (h : UseM b p N X w) (hK : ∀ r ∈ K, ∀ s ∈ r.right, s.term = false → 0 ≤ s.n ∧ s.n.toNat < N) : PredRule 14 #[.pointer (some ⟨b, 0, none⟩)] K (useR X) w := by
  intro W r v hr hb hv
  obtain ⟨a, cap, rfl, hc1, hc2⟩ := hv.form
  rw [List.length_map] at hv hc1 ⊢
  have hk := h.keep hb
  have hsy := hK r hr
  rw [use_lack]
  obtain ⟨rn, HRN⟩ := nameIt r.right.length
  obtain ⟨w1, HW1⟩ := nameIt (W.alloc (.cells #[.int .i64 r.left, .slice a r.right.length cap] 32))
  have hb1 : Below W.heap.size W w1 := by rw [← HW1.out]; exact (Below.refl _ _).alloc (Nat.le_refl _) _
  have hx1 : w1.heap[W.heap.size]? = some (.cells #[.int .i64 r.left, .slice a r.right.length cap] 32 (0, 0)) := by rw [← HW1.out]; exact bx_new _ _ _ rfl
  have HCF := Lib.hid (containsFuncSym 16 #[.pointer (some ⟨b, 0, none⟩)] (lackS X) a cap r.right w1 (fun _ _ => by kernel_rfl) (lackE b p N X r.right w1 hN (hk.keep hb1) hsy) (hv.below hb1))
  obtain ⟨x0, x1⟩ := bx_cells2 hx1
  have HB1 := Lib.hid hb1
  obtain ⟨AN, HAN⟩ := nameIt (r.right.any (lackS X))
  rw [HAN.out] at HCF ⊢
  obtain ⟨rl, HRL⟩ := nameIt r.left
  rw [HRL.out] at x0 HW1
  rw [HRL.out]
  rw [HRN.out] at x1 HCF HW1
  rw [HRN.out]
  clear hk hx1 hb1 hv hsy hb
  show Calls _ _ #[.agg #[.int .i64 rl, .slice a rn cap], .pointer (some ⟨b, 0, none⟩)] _ _
  go_enter Try.func14, Try.ntmps14
  go_upto_region 1 with fail
  rw [HW1.out]
  go_wp2_with fail
  refine HCF.out.mono ?_
  rintro e w2 ⟨rfl, hb2⟩
  have HB2 := Lib.hid (HB1.out.trans (hb2.mono HB1.out.size))
  clear hb2
  go_wp2_with fail
  go_ret
  exact ⟨rfl, HB2.out⟩
end Gr
end Go.Proofs.Ytmbjnemahgfhcaa
namespace Go.Proofs.Ytmbjnemahgfhcaa
open Go.RowKit
namespace Gr
open Cs

def cfree (I : Nat → Bool) (N : Nat) : Nat := ((List.range N).filter fun a => !I a).length
def setI (I : Nat → Bool) (A : Nat) : Nat → Bool := fun x => if x = A then true else I x
theorem cfree_set {I : Nat → Bool} {A : Nat} (hI : I A = false) : ∀ {N : Nat}, A < N → cfree (setI I A) N < cfree I N := by
  have hle : ∀ N, cfree (setI I A) N ≤ cfree I N := by
    intro N
    induction N with
    | zero => simp [cfree]
    | succ N ih =>
      unfold cfree at ih ⊢
      rw [List.range_succ, List.filter_append, List.filter_append, List.length_append, List.length_append]
      have : (List.filter (fun a => !setI I A a) [N]).length ≤ (List.filter (fun a => !I a) [N]).length := by
        by_cases e : N = A
        · subst e; simp [setI]
        · have : setI I A N = I N := by unfold setI; rw [if_neg e]
          rw [List.filter_cons, List.filter_cons, this]; simp
      omega
  intro N hA
  induction N with
  | zero => omega
  | succ N ih =>
    by_cases e : A = N
    · subst e
      have h1 := hle A
      unfold cfree at h1 ⊢
      rw [List.range_succ, List.filter_append, List.filter_append, List.length_append, List.length_append]
      have h2 : (List.filter (fun a => !setI I A a) [A]).length = 0 := by simp [setI]
      have h3 : (List.filter (fun a => !I a) [A]).length = 1 := by simp [hI]
      omega
    · have h1 := ih (by omega)
      unfold cfree at h1 ⊢
      rw [List.range_succ, List.filter_append, List.filter_append, List.length_append, List.length_append]
      have : (List.filter (fun a => !setI I A a) [N]).length = (List.filter (fun a => !I a) [N]).length := by
        have h9 : setI I A N = I N := by unfold setI; rw [if_neg (by omega)]
        rw [List.filter_cons, List.filter_cons, h9]; simp
      omega
theorem cfree_le (I : Nat → Bool) (N : Nat) : cfree I N ≤ N := by unfold cfree; exact Nat.le_trans (List.length_filter_le _ _) (by simp)
/-- what is reached so far -/
structure RcI (K : List Rule) (u : Rule → Bool) (N S : Nat) (I : Nat → Bool) : Prop where
  start : I S = true
  lt : ∀ A, I A = true → A < N
  snd : ∀ A, I A = true → A = S ∨ Pth (kE (K.filter u)) S A
def RcClo (u : Rule → Bool) (I : Nat → Bool) (l : List Rule) : Prop := ∀ r ∈ l, I r.left.toNat = true → u r = true → ∀ s ∈ r.right, s.term = false → I s.n.toNat = true
theorem RcI.set {K : List Rule} {u : Rule → Bool} {N S : Nat} {I : Nat → Bool} (h : RcI K u N S I) {r : Rule} (hr : r ∈ K) (h0 : 0 ≤ r.left) (hu : u r = true) (hI : I r.left.toNat = true) {s : Sym} (hs : s ∈ r.right) (ht : s.term = false) (hn : s.n.toNat < N) : RcI K u N S (setI I s.n.toNat) := by
  refine ⟨by unfold setI; split
             · rfl
             · exact h.start, fun A hA => ?_, fun A hA => ?_⟩
  · unfold setI at hA
    by_cases e : A = s.n.toNat
    · omega
    · rw [if_neg e] at hA; exact h.lt A hA
  · unfold setI at hA
    by_cases e : A = s.n.toNat
    · obtain ⟨a, b, e2⟩ := List.append_of_mem hs
      have hm : (r.left.toNat, A) ∈ kE (K.filter u) := edge_mem ⟨r, by rw [List.mem_filter]; exact ⟨hr, hu⟩, by omega, a, s, b, e2, ht, e.symm⟩
      rcases h.snd _ hI with e3 | hp
      · rw [e3] at hm; exact .inr (.one hm)
      · exact .inr (hp.snoc hm)
    · rw [if_neg e] at hA; exact h.snd A hA
structure RcM (K : List Rule) (u : Rule → Bool) (N S : Nat) (W0 : World) (p : Nat) (I : Nat → Bool) (wr : World) : Prop where
  row : Ln.Brow p N I wr
  inv : RcI K u N S I
  bel : Below W0.heap.size W0 wr
  lo : W0.heap.size ≤ p
section
variable {K : List Rule} {u : Rule → Bool} {N S p : Nat} {W0 wr w' : World} {I : Nat → Bool}
theorem RcM.keep (h : RcM K u N S W0 p I wr) (hb : Below wr.heap.size wr w') : RcM K u N S W0 p I w' := ⟨h.row.keep hb, h.inv, h.bel.trans (hb.mono h.bel.size), h.lo⟩
theorem RcM.set (h : RcM K u N S W0 p I wr) {A : Nat} (hA : A < N) (hi : RcI K u N S (setI I A)) : RcM K u N S W0 p (setI I A) (wr.setCell ⟨p, A, none⟩ (.bool true)) :=
  ⟨h.row.set hA (fun k _ => rfl), hi, h.bel.setCell (p := ⟨p, A, none⟩) h.lo _, h.lo⟩
end
theorem rcClo_next {u : Rule → Bool} {I : Nat → Bool} {K : List Rule} {i : Nat} (hi : i < K.length) (h : RcClo u I (K.take i)) (hr : I K[i].left.toNat = true → u K[i] = true → ∀ s ∈ K[i].right, s.term = false → I s.n.toNat = true) : RcClo u I (K.take (i + 1)) := by
  intro r hm
  rw [List.take_succ_eq_append_getElem hi, List.mem_append] at hm
  rcases hm with hm | hm
  · exact h r hm
  · simp at hm; subst hm; exact hr
def RchPost (K : List Rule) (u : Rule → Bool) (N S : Nat) (w : World) (e : Ending) (w' : World) : Prop :=
  ∃ p I, e = .returned (.slice (some ⟨p, 0, none⟩) N N) ∧ Ln.Brow p N I w' ∧ RcI K u N S I ∧ RcClo u I K ∧ w.heap.size ≤ p ∧ Below w.heap.size w w'
set_option maxHeartbeats 8000000 in
set_option maxRecDepth 100000 in
theorem reachedE (g : Gram) (N S : Nat) (hok : OkC g N) (hS : g.start = (S : Int)) (u : Rule → Bool) (gf : Nat) (lb : Array Value) (ra : Option Addr) (rcap : Nat) (w : World) (eg : ∀ args w, (callFunc gf args).run Try.prog w = .ok (.enter gf args) w) (hf : PredRule gf lb g.rules u w) (hr : Rd AnyB w (.sl (g.rules.map Rule.d)) [.slice ra g.rules.length rcap]) :
    Calls Try.prog 17 #[.agg #[.int .i64 g.terms, .int .i64 g.nons, .int .i64 g.start, .slice ra g.rules.length rcap], .func (.func gf) #[] lb] w (RchPost g.rules u N S w) := by
  have hN1 := hok.n1
  have hN2 := hok.n2
  have hSN : S < N := by have := hok.s1; omega
  have HGR := Lib.hid hok.r
  have HLF := Lib.hid hok.l
  have hnn := hok.nons
  rw [hnn, hS]
  obtain ⟨w0, HW0⟩ := nameIt (w.alloc (.cells #[.int .i64 g.terms, .int .i64 (N : Int), .int .i64 (S : Int), .slice ra g.rules.length rcap] 24))
  have hb0 : Below w.heap.size w w0 := by rw [← HW0.out]; exact (Below.refl _ _).alloc (Nat.le_refl _) _
  have X0 : Hid (w0.heap[w.heap.size]? = some (.cells #[.int .i64 g.terms, .int .i64 (N : Int), .int .i64 (S : Int), .slice ra g.rules.length rcap] 24 (0, 0))) := by rw [← HW0.out]; exact bx_new _ _ _ rfl
  have HRD := Lib.hid (hr.below hb0)
  have HF := Lib.hid (fun (W : World) (x : Rule) (v : Value) (hx : x ∈ g.rules) (hb : Below w0.heap.size w0 W) => hf W x v hx (hb0.trans (hb.mono hb0.size)))
  obtain ⟨PST, HP⟩ := nameIt (RchPost g.rules u N S w)
  rw [HP.out]
  have HFIN : Hid (∀ p I w', RcM g.rules u N S w0 p I w' → RcClo u I g.rules → PST (.returned (.slice (some ⟨p, 0, none⟩) N N)) w') := by
    intro p I w' h1 h2
    rw [← HP.out]
    exact ⟨p, I, rfl, h1.row, h1.inv, h2, Nat.le_trans hb0.size h1.lo, hb0.trans (h1.bel.mono hb0.size)⟩
  have hbs := hr.bounds.2
  unfold maxLen at hbs
  obtain ⟨hcv1, hcv2⟩ := hbs
  obtain ⟨gt, HGT⟩ := nameIt g.terms
  obtain ⟨rl, HRL⟩ := nameIt g.rules.length
  rw [HGT.out, HRL.out] at HW0 X0
  rw [HRL.out] at HRD hcv1
  rw [HGT.out, HRL.out]
  have hmk : ∀ W : World, (Instr.makeSlice 33 (.int .i64 (N : Int)) (.int .i64 (N : Int))).run Try.prog W = .ok (.slice (some ⟨W.heap.size, 0, none⟩) N N) (W.alloc (.cells (madeCells #[.bool false] N) 4)) := fun W => by
    have := run_make_row' (P := Try.prog) 33 4 (.bool false) 1 Try.underlying33 (by kernel_rfl) rfl .i64 .i64 N (by omega) (by omega) W
    simpa using this
  obtain ⟨gb, HGBN⟩ := nameIt w.heap.size
  rw [HGBN.out] at X0
  have hgb : gb < w0.heap.size := (Array.getElem?_eq_some_iff.1 X0.out).1
  obtain ⟨x0, x1, x2, x3⟩ := bx_cells4 X0.out
  have hb1 : Below w0.heap.size w0 (w0.alloc (.cells (madeCells #[.bool false] N) 4)) := (Below.refl _ _).alloc (Nat.le_refl _) _
  have hrow1 : Ln.Brow w0.heap.size N (fun _ => false) (w0.alloc (.cells (madeCells #[.bool false] N) 4)) := ⟨_, bx_new _ _ _ rfl, size_madeCells _ _, fun k hk => made_atV _ _ _ hk⟩
  obtain ⟨w1, HW1⟩ := nameIt (w0.alloc (.cells (madeCells #[.bool false] N) 4))
  rw [HW1.out] at hb1 hrow1
  have HM1 : Hid (RcM g.rules u N S w0 w0.heap.size (setI (fun _ => false) S) (w1.setCell ⟨w0.heap.size, S, none⟩ (.bool true))) := by
    refine ⟨hrow1.set hSN (fun k _ => rfl), ⟨by simp [setI], fun A hA => ?_, fun A hA => ?_⟩, hb1.setCell (Nat.le_refl _) _, Nat.le_refl _⟩
    · unfold setI at hA; by_cases e : A = S <;> simp [e] at hA; omega
    · unfold setI at hA; by_cases e : A = S <;> simp [e] at hA; exact .inl e
  have hq1 := hrow1.free S
  have hlt1 := hrow1.lt
  have HQ1 := Lib.hid hrow1
  obtain ⟨pp, HPP⟩ := nameIt w0.heap.size
  have hS0 : (0 : Int) ≤ (S : Int) := by omega
  have hS1 : (S : Int) < (N : Int) := by omega
  have q1 := hrow1.cell hSN
  rw [HPP.out] at q1 hq1 HM1 hlt1 hgb
  obtain ⟨y0, y1, y2, y3⟩ := bx_cells4 (bx_keep X0.out hb1)
  have HPX : Hid (pp = w0.heap.size) := HPP.out.symm
  clear hb0 hr HP hok hnn hrow1 hf hb1
  go_enter Try.func17, Try.ntmps17
  go_upto_region 1 with fail
  rw [HW0.out, HGBN.out]
  go_upto_region 2 with fail
  rw [HW1.out, HPP.out]
  clear x0 x1 x2 x3
  obtain ⟨w2, HW2⟩ := nameIt (w1.setCell ⟨pp, S, none⟩ (.bool true))
  rw [HW2.out] at HM1
  go_upto_region 3 with fail
  rw [HW2.out]
  clear y0 y1 y2 y3 q1 hq1 hmk HW2
  go_wp2_with fail
  go_loopg [6] (N + 1) (fun gg v6 wr => ∃ (ag : Bool) (I : Nat → Bool), v6 = .bool ag ∧ (ag = true → cfree I N + 1 ≤ gg) ∧ Hid (RcM g.rules u N S w0 pp I wr) ∧ Hid (ag = false → RcClo u I g.rules))
  case atStart => exact ⟨true, _, rfl, (fun _ => by have := cfree_le (setI (fun _ => false) S) N; omega), HM1, (fun e => by cases e)⟩
  case round =>
    clear HM1
    obtain ⟨ag, I, rfl, hgg, HL, HAG⟩ := hrel
    obtain ⟨w3, rfl⟩ : ∃ ww : World, ww = wr := ⟨_, rfl⟩
    cases ag with
    | false =>
      have HE := Lib.hid (HFIN.out pp I w3 HL.out (HAG.out rfl))
      clear hgg HAG
      go_wp2_with fail
      exact HE.out
    | true =>
      have hgg' := hgg rfl
      obtain ⟨mu, HMU⟩ := nameIt (cfree I N)
      rw [HMU.out] at hgg'
      obtain ⟨x0, x1, x2, x3⟩ := bx_cells4 (bx_keep X0.out HL.out.bel)
      have HC0 : Hid (RcClo u I (g.rules.take 0)) := fun r hr => by simp at hr
      clear hgg HAG
      go_wp2_with fail
      clear x0 x1 x2 x3
      go_loopg [6, 22] rl (fun gg v6 v22 wr => ∃ (i : Nat) (J : Nat → Bool) (b : Bool), i ≤ rl ∧ rl - i ≤ gg ∧ v6 = .bool b ∧ v22 = .int .i64 i ∧ Hid (RcM g.rules u N S w0 pp J wr) ∧ Hid (b = false → J = I ∧ RcClo u I (g.rules.take i)) ∧ Hid (cfree J N ≤ mu) ∧ Hid (b = true → cfree J N < mu))
      case atStart => exact ⟨0, I, false, by omega, by omega, rfl, rfl, HL, (fun _ => ⟨rfl, HC0.out⟩), Nat.le_of_eq HMU.out, (fun e => by cases e)⟩
      case round =>
        clear HL HC0
        obtain ⟨i, J, b, hi, hg2, rfl, rfl, HL, HC, HLE, HM⟩ := hrel
        obtain ⟨w4, rfl⟩ : ∃ ww : World, ww = wr := ⟨_, rfl⟩
        by_cases hlt : i < rl
        · have hlt' : (i : Int) < (rl : Int) := by omega
          have hi0 : (0 : Int) ≤ (i : Int) := by omega
          have hix : i < g.rules.length := by rw [HRL.out]; exact hlt
          obtain ⟨rbk, ro, rv, hae, -, hrb, r0, r1, hrr⟩ := HRD.out.rule_at hix
          obtain ⟨ar, cr, rfl, hcr1, hcr2⟩ := hrr.form
          rw [List.length_map] at r1 hrr hcr1
          unfold maxLen at hcr2
          have HRR := Lib.hid hrr
          have t0 := (HL.out.bel.cell (lt_of_cell r0)).trans r0
          have t1 := (HL.out.bel.cell (lt_of_cell r1)).trans r1
          have HOKR := Lib.hid (HGR.out _ (List.getElem_mem hix))
          have HOKL := Lib.hid (HLF.out _ (List.getElem_mem hix))
          have HMEM := Lib.hid (List.getElem_mem hix)
          have HNX : Hid (RcClo u I (g.rules.take i) → (I g.rules[i].left.toNat = true → u g.rules[i] = true → ∀ s ∈ g.rules[i].right, s.term = false → I s.n.toNat = true) → RcClo u I (g.rules.take (i + 1))) := fun h1 h2 => rcClo_next hix h1 h2
          obtain ⟨r, HRN⟩ := nameIt (g.rules[i]'hix)
          rw [HRN.out] at t0 t1 HRR HOKR HOKL hcr1 HMEM HNX
          obtain ⟨A, hA⟩ : ∃ A : Nat, r.left = (A : Int) := ⟨r.left.toNat, by have := HOKL.out.1; omega⟩
          have hAN : A < N := by have := HOKL.out.2; rw [hA] at this; simpa using this
          have HLEFT : Hid (r.left.toNat = A) := by show _ = _; rw [hA]; simp
          rw [HLEFT.out] at HNX
          have HCU := Lib.hid (fun W (hb : Below w0.heap.size w0 W) => HF.out W r (.slice ar r.right.length cr) HMEM.out hb (HRR.out.below hb))
          rw [hA] at t0 HCU
          obtain ⟨rn, HRNL⟩ := nameIt r.right.length
          rw [HRNL.out] at t1 HRR hcr1 HCU
          obtain ⟨w5, HW5⟩ := nameIt (w4.alloc (.cells #[.int .i64 (A : Int), .slice ar rn cr] 32))
          have hb5 : Below w4.heap.size w4 w5 := by rw [← HW5.out]; exact (Below.refl _ _).alloc (Nat.le_refl _) _
          have HL5 := Lib.hid (HL.out.keep hb5)
          have Y5 : Hid (w5.heap[w4.heap.size]? = some (.cells #[.int .i64 (A : Int), .slice ar rn cr] 32 (0, 0))) := by rw [← HW5.out]; exact bx_new _ _ _ rfl
          have HPW : Hid (pp < w4.heap.size) := HL.out.row.lt
          obtain ⟨rbx, HRBX⟩ := nameIt w4.heap.size
          rw [HRBX.out] at Y5 HPW
          have q0 := HL5.out.row.cell hAN
          have hA0 : (0 : Int) ≤ (A : Int) := by omega
          have hA1 : (A : Int) < (N : Int) := by omega
          obtain ⟨ja, HJA⟩ := nameIt (J A)
          rw [HJA.out] at q0
          subst hae
          clear hrr r0 r1 hb5
          go_upto_region 9 with fail
          rw [HW5.out, HRBX.out]
          clear t0 t1 HW5 HRBX HL
          obtain ⟨y0, y1⟩ := bx_cells2 Y5.out
          have HCN : Hid ((b = false → ja = false ∨ u r = false) → b = false → J = I ∧ RcClo u I (g.rules.take (i + 1))) := by
            intro hh e
            obtain ⟨h1, h2⟩ := HC.out e
            refine ⟨h1, HNX.out h2 (fun h3 h4 => ?_)⟩
            rcases hh e with h5 | h5
            · rw [← h1, HJA.out, h5] at h3; cases h3
            · rw [h5] at h4; cases h4
          cases ja with
          | false =>
            have HC2 := Lib.hid (HCN.out (fun _ => .inl rfl))
            go_wp2_with fail
            go_roundg (rl - (i + 1))
            case measure => omega
            case rel => exact ⟨i + 1, J, b, by omega, by omega, rfl, by go_num, HL5, HC2, HLE, HM⟩
          | true =>
            go_wp2_with fail
            refine (HCU.out w5 HL5.out.bel).mono ?_
            rintro e w6 ⟨rfl, hb6⟩
            have HL6 := Lib.hid (HL5.out.keep hb6)
            have Y6 := Lib.hid (bx_keep Y5.out hb6)
            obtain ⟨ur, HUR⟩ := nameIt (u r)
            rw [HUR.out]
            clear hb6 HL5 Y5 y0 y1 q0 HCU
            obtain ⟨y0, y1⟩ := bx_cells2 Y6.out
            cases ur with
            | false =>
              have HC2 := Lib.hid (HCN.out (fun _ => .inr HUR.out))
              go_wp2_with fail
              go_roundg (rl - (i + 1))
              case measure => omega
              case rel => exact ⟨i + 1, J, b, by omega, by omega, rfl, by go_num, HL6, HC2, HLE, HM⟩
            | true =>
              have HOKR2 : Hid (∀ s ∈ r.right, s.term = false → 0 ≤ s.n ∧ s.n.toNat < N) := fun s hs ht => HOKR.out s hs ht
              have HK0 : Hid (∀ s ∈ r.right.take 0, s.term = false → J s.n.toNat = true) := fun s hs => by simp at hs
              go_wp2_with fail
              clear y0 y1
              go_loopg [6, 41] rn (fun gg v6 v41 wr => ∃ (j : Nat) (J2 : Nat → Bool) (b2 : Bool), j ≤ rn ∧ rn - j ≤ gg ∧ v6 = .bool b2 ∧ v41 = .int .i64 j ∧ Hid (RcM g.rules u N S w0 pp J2 wr) ∧ Hid (wr.heap[rbx]? = some (.cells #[.int .i64 (A : Int), .slice ar rn cr] 32 (0, 0))) ∧ Hid (J2 A = true) ∧ Hid (b2 = false → b = false ∧ J2 = J ∧ ∀ s ∈ r.right.take j, s.term = false → J s.n.toNat = true) ∧ Hid (cfree J2 N ≤ mu) ∧ Hid (b2 = true → cfree J2 N < mu))
              case atStart => exact ⟨0, J, b, by omega, by omega, rfl, rfl, HL6, Y6, HJA, (fun e => ⟨e, rfl, HK0.out⟩), HLE, HM⟩
              case round =>
                clear HL6 Y6 HK0
                obtain ⟨j, J2, b2, hj, hg3, rfl, rfl, HL5, Y5, HJ2, HB2, HLE2, HM2⟩ := hrel
                obtain ⟨w6, rfl⟩ : ∃ ww : World, ww = wr := ⟨_, rfl⟩
                by_cases hjm : j < rn
                · have hjm' : (j : Int) < (rn : Int) := by omega
                  have hj0 : (0 : Int) ≤ (j : Int) := by omega
                  have hjx : j < r.right.length := by rw [HRNL.out]; exact hjm
                  obtain ⟨sb, so, hae, -, hsb, s0, s1⟩ := (show Rd AnyB w0 (.sl (r.right.map Sym.d)) [.slice ar r.right.length cr] by rw [HRNL.out]; exact HRR.out).sym_at hjx
                  have u0 := (HL5.out.bel.cell (lt_of_cell s0)).trans s0
                  have u1 := (HL5.out.bel.cell (lt_of_cell s1)).trans s1
                  have HOS := Lib.hid (HOKR2.out _ (List.getElem_mem hjx))
                  have HTK : Hid (∀ s ∈ r.right.take (j + 1), s ∈ r.right.take j ∨ s = r.right[j]) := fun s hs => by
                    rw [List.take_succ_eq_append_getElem hjx, List.mem_append] at hs
                    rcases hs with hs | hs
                    · exact .inl hs
                    · simp at hs; exact .inr hs
                  have HSM := Lib.hid (List.getElem_mem hjx)
                  obtain ⟨⟨st, sn⟩, HSY⟩ := nameIt (r.right[j]'hjx)
                  rw [HSY.out] at u0 u1 HOS HTK HSM
                  simp only at u0 u1
                  obtain ⟨w7, HW7⟩ := nameIt (w6.alloc (.cells #[.bool st, .int .i64 sn] 42))
                  have hb7 : Below w6.heap.size w6 w7 := by rw [← HW7.out]; exact (Below.refl _ _).alloc (Nat.le_refl _) _
                  have HL7 := Lib.hid (HL5.out.keep hb7)
                  have Y7 := Lib.hid (bx_keep Y5.out hb7)
                  have S7 : Hid (w7.heap[w6.heap.size]? = some (.cells #[.bool st, .int .i64 sn] 42 (0, 0))) := by rw [← HW7.out]; exact bx_new _ _ _ rfl
                  have HPW2 : Hid (pp < w6.heap.size) := HL5.out.row.lt
                  subst hae
                  clear s0 s1 hb7
                  go_upto_region 13 with fail
                  rw [HW7.out]
                  clear u0 u1 HW7
                  obtain ⟨z0, z1⟩ := bx_cells2 S7.out
                  cases st with
                  | true =>
                    have HBN : Hid (b2 = false → b = false ∧ J2 = J ∧ ∀ s ∈ r.right.take (j + 1), s.term = false → J s.n.toNat = true) := fun e => by
                      obtain ⟨e1, e2, e3⟩ := HB2.out e
                      refine ⟨e1, e2, fun s hs ht => ?_⟩
                      rcases HTK.out s hs with h | h
                      · exact e3 s h ht
                      · rw [h] at ht; cases ht
                    go_wp2_with fail
                    go_roundg (rn - (j + 1))
                    case measure => omega
                    case rel => exact ⟨j + 1, J2, b2, by omega, by omega, rfl, by go_num, HL7, Y7, HJ2, HBN, HLE2, HM2⟩
                  | false =>
                    obtain ⟨hq1, hq2⟩ := HOS.out rfl
                    simp only at hq1 hq2
                    obtain ⟨B, rfl⟩ : ∃ B : Nat, sn = (B : Int) := ⟨sn.toNat, by omega⟩
                    rw [Int.toNat_natCast] at hq2
                    have hB0 : (0 : Int) ≤ (B : Int) := by omega
                    have hB1 : (B : Int) < (N : Int) := by omega
                    have q0 := HL7.out.row.cell hq2
                    have qf := HL7.out.row.free B
                    have hpl := HL7.out.row.lt
                    obtain ⟨jb, HJB⟩ := nameIt (J2 B)
                    rw [HJB.out] at q0
                    cases jb with
                    | true =>
                      have HBN : Hid (b2 = false → b = false ∧ J2 = J ∧ ∀ s ∈ r.right.take (j + 1), s.term = false → J s.n.toNat = true) := fun e => by
                        obtain ⟨e1, e2, e3⟩ := HB2.out e
                        refine ⟨e1, e2, fun s hs ht => ?_⟩
                        rcases HTK.out s hs with h | h
                        · exact e3 s h ht
                        · rw [h, ← e2]
                          show J2 ((B : Int)).toNat = true
                          rw [Int.toNat_natCast]; exact HJB.out
                      go_wp2_with fail
                      go_roundg (rn - (j + 1))
                      case measure => omega
                      case rel => exact ⟨j + 1, J2, b2, by omega, by omega, rfl, by go_num, HL7, Y7, HJ2, HBN, HLE2, HM2⟩
                    | false =>
                      have hset := cfree_set HJB.out hq2
                      have hinv : RcI g.rules u N S (setI J2 B) := by
                        have h := HL7.out.inv.set (s := ⟨false, (B : Int)⟩) HMEM.out (by rw [hA]; omega) HUR.out (by rw [HLEFT.out]; exact HJ2.out) HSM.out rfl (by show ((B : Int)).toNat < N; rw [Int.toNat_natCast]; exact hq2)
                        rwa [show (⟨false, (B : Int)⟩ : Sym).n.toNat = B from Int.toNat_natCast B] at h
                      have HL8 := Lib.hid (HL7.out.set hq2 hinv)
                      have hnb : rbx ≠ pp := by have := HPW.out; omega
                      have Y8 := Lib.hid (bx_other Y7.out hnb B (.bool true))
                      have HJ3 : Hid (setI J2 B A = true) := by
                        show _ = _
                        unfold setI; split
                        · rfl
                        · exact HJ2.out
                      have HM3 : Hid (cfree (setI J2 B) N < mu) := Nat.lt_of_lt_of_le hset HLE2.out
                      have hpw2 := HPW2.out
                      have hnp : ¬ pp = w6.heap.size := by omega
                      have hnp2 : ¬ w6.heap.size = pp := by omega
                      clear hset hinv hnb
                      go_wp2_with fail
                      go_roundg (rn - (j + 1))
                      case measure => omega
                      case rel => exact ⟨j + 1, setI J2 B, true, by omega, by omega, rfl, by go_num, HL8, Y8, HJ3, (fun e => by cases e), Nat.le_of_lt HM3.out, (fun _ => HM3.out)⟩
                · have hjm' : ¬ (j : Int) < (rn : Int) := by omega
                  have HC2 : Hid (b2 = false → J2 = I ∧ RcClo u I (g.rules.take (i + 1))) := by
                    intro e
                    obtain ⟨e1, e2, e3⟩ := HB2.out e
                    obtain ⟨h1, h2⟩ := HC.out e1
                    rw [List.take_of_length_le (by rw [HRNL.out]; omega)] at e3
                    refine ⟨e2.trans h1, HNX.out h2 (fun _ _ s hs ht => ?_)⟩
                    rw [← h1]; exact e3 s hs ht
                  go_wp2_with fail
                  go_roundg (rl - (i + 1))
                  case measure => omega
                  case rel => exact ⟨i + 1, J2, b2, by omega, by omega, rfl, by go_num, HL5, HC2, HLE2, HM2⟩
        · have hlt' : ¬ (i : Int) < (rl : Int) := by omega
          have HCE : Hid (b = false → RcClo u J g.rules) := by
            intro e
            obtain ⟨h1, h2⟩ := HC.out e
            rw [List.take_of_length_le (by rw [HRL.out]; omega)] at h2
            rw [h1]; exact h2
          have HMM : Hid (b = true → cfree J N + 1 ≤ mu) := HM.out
          go_wp2_with fail
          go_roundg mu
          case measure => omega
          case rel => exact ⟨b, J, rfl, HMM.out, HL, HCE⟩
end Gr
end Go.Proofs.Ytmbjnemahgfhcaa
namespace Go.Proofs.Ytmbjnemahgfhcaa
open Go.RowKit
namespace Gr
open Cs

def Apart (va vb : Value) : Prop := ∀ k, va.ownBlock = some k → vb.ownBlock ≠ some k
theorem Apart.l {va vb : Value} (h : Apart va vb) : va.ownBlock = none ∨ va.ownBlock ≠ vb.ownBlock := by
  cases e : va.ownBlock with
  | none => exact .inl rfl
  | some k => exact .inr fun h2 => h k e h2.symm
theorem Apart.r {va vb : Value} (h : Apart va vb) : vb.ownBlock = none ∨ vb.ownBlock ≠ va.ownBlock := by
  cases e : vb.ownBlock with
  | none => exact .inl rfl
  | some k => exact .inr fun h2 => h k h2.symm e
/-- a row of rules, whose header lies in a box, beside a row of numbers -/
structure TrI (w5 : World) (ob : Nat) (o0 o1 o2 : Int) (L : List Rule) (M : List Int) (va vb vo : Value) (wr : World) : Prop where
  out : wr.heap[ob]? = some (.cells #[.int .i64 o0, .int .i64 o1, .int .i64 o2, vo] 24 (0, 0))
  a : ∃ xs, wr.ownsRow w5.heap.size 32 2 va L.length xs ∧ RdAll (fun k => (w5.heap.size ≤ k ∧ vb.ownBlock ≠ some k) ∧ va.ownBlock ≠ some k) wr (L.map Rule.d) xs
  b : wr.ownsRow w5.heap.size 3 1 vb M.length (ints M)
  ne : Apart va vb
  gr : w5.grownBy wr (some ob)
  lt : ob < w5.heap.size
section
variable {w5 wr w' W0 W1 : World} {ob : Nat} {o0 o1 o2 : Int} {L : List Rule} {M : List Int} {va vb vo v' u : Value} {x : Rule}
theorem TrI.keep (h : TrI w5 ob o0 o1 o2 L M va vb vo wr) (hb : Below wr.heap.size wr w') : TrI w5 ob o0 o1 o2 L M va vb vo w' := by
  obtain ⟨xs, h1, h2⟩ := h.a
  exact ⟨bx_keep h.out hb, ⟨xs, own_keep h1 hb, h2.below hb⟩, own_keep h.b hb, h.ne, grown_trans h.gr (grown_below hb _), h.lt⟩
theorem grown_up {a b c : World} {ob : Nat} {row : Option Nat} (h : a.grownBy b (some ob)) (k : b.grownBy c row) (hr : ∀ q, row = some q → a.heap.size ≤ q) : a.grownBy c (some ob) :=
  ⟨k.os.trans h.os, k.tape.trans h.tape, k.output.trans h.output, Nat.le_trans h.size k.size, fun i hi hn => (k.block i (Nat.lt_of_lt_of_le hi h.size) (fun e => by have := hr i e.symm; omega)).trans (h.block i hi hn)⟩
/-- a rule more -/
theorem TrI.appA {n : Nat} {xs : List Value} {T : Nat → Prop} (h : TrI w5 ob o0 o1 o2 L M va vb vo W0) (h1 : W0.ownsRow w5.heap.size 32 2 va n xs) (h2 : RdAll (fun k => (w5.heap.size ≤ k ∧ vb.ownBlock ≠ some k) ∧ va.ownBlock ≠ some k) W0 (L.map Rule.d) xs) (hn : n = L.length)
    (hp : Rd T W0 (.sl (x.right.map Sym.d)) [u]) (hT : ∀ k, T k → k < W0.heap.size → (w5.heap.size ≤ k ∧ vb.ownBlock ≠ some k) ∧ va.ownBlock ≠ some k)
    (ho : W1.ownsRow w5.heap.size 32 2 v' (n + 1) (xs ++ [.int .i64 x.left, u])) (hg : W0.grownBy W1 va.ownBlock) (hat : v'.ownBlock = va.ownBlock ∨ ∃ k, v'.ownBlock = some k ∧ W0.heap.size ≤ k) : TrI w5 ob o0 o1 o2 (L ++ [x]) M v' vb vo W1 := by
  subst hn
  have hlt := h.lt
  refine ⟨?_, ⟨xs ++ [.int .i64 x.left, u], by rw [List.length_append]; exact ho, ?_⟩, h.b.kept hg h.ne.r, ?_, grown_up h.gr hg (fun q e => (h1.lt q e).1), hlt⟩
  · rw [hg.block _ (Nat.lt_of_lt_of_le hlt h.gr.size) (fun e => by have := (h1.lt _ e.symm).1; omega)]; exact h.out
  · rw [List.map_append]
    exact own_step (S := fun k => w5.heap.size ≤ k ∧ vb.ownBlock ≠ some k) h2 (RdAll.one (rd_rule (hp.mono hT))) hg hat
  · intro k hk hbk
    rcases hat with e | ⟨j, e, hj⟩
    · exact h.ne k (e.symm.trans hk) hbk
    · rw [e] at hk; cases hk
      have := (h.b.lt _ hbk).2; omega
/-- a number more -/
theorem TrI.appB {y : Int} (h : TrI w5 ob o0 o1 o2 L M va vb vo W0) (ho : W1.ownsRow w5.heap.size 3 1 v' (M.length + 1) (ints M ++ [.int .i64 y])) (hg : W0.grownBy W1 vb.ownBlock) (hat : v'.ownBlock = vb.ownBlock ∨ ∃ k, v'.ownBlock = some k ∧ W0.heap.size ≤ k) : TrI w5 ob o0 o1 o2 L (M ++ [y]) va v' vo W1 := by
  obtain ⟨xs, h1, h2⟩ := h.a
  have hlt := h.lt
  have hnew : ∀ k, vb.ownBlock ≠ some k → k < W0.heap.size → v'.ownBlock ≠ some k := by
    intro k hk hl
    rcases hat with e | ⟨j, e, hj⟩
    · rw [e]; exact hk
    · rw [e]; intro hh; cases hh; omega
  refine ⟨?_, ⟨xs, h1.kept hg h.ne.l, RdAll.keep (fun k hk hl => ⟨⟨⟨hk.1.1, hnew k hk.1.2 hl⟩, hk.2⟩, hg.block k hl (fun e => hk.1.2 e.symm)⟩) _ _ h2⟩, ?_, ?_, grown_up h.gr hg (fun q e => (h.b.lt q e).1), hlt⟩
  · rw [hg.block _ (Nat.lt_of_lt_of_le hlt h.gr.size) (fun e => by have := (h.b.lt _ e.symm).1; omega)]; exact h.out
  · rw [show ints (M ++ [y]) = ints M ++ [.int .i64 y] by simp [ints], List.length_append]; exact ho
  · intro k hk
    exact hnew k (h.ne k hk) (h1.lt k hk).2
/-- the header, stored -/
theorem TrI.store (h : TrI w5 ob o0 o1 o2 L M va vb vo wr) : TrI w5 ob o0 o1 o2 L M va vb va (wr.setCell ⟨ob, 3, none⟩ va) := by
  obtain ⟨xs, h1, h2⟩ := h.a
  have hlt := h.lt
  have hg : wr.grownBy (wr.setCell ⟨ob, 3, none⟩ va) (some ob) := grown_cell _ _ _
  refine ⟨?_, ⟨xs, h1.kept hg (.inr fun e => by have h9 : w5.heap.size ≤ ob := (h1.lt _ e).1; omega), RdAll.keep (fun k hk _ => ⟨hk, Below.heap_setCell _ _ _ _ (by have := hk.1.1; show k ≠ ob; omega)⟩) _ _ h2⟩, h.b.kept hg (.inr fun e => by have h9 : w5.heap.size ≤ ob := (h.b.lt _ e).1; omega), h.ne, grown_trans h.gr hg, hlt⟩
  rw [bx_set h.out]; rfl
end
theorem Brow_grown {g m : Nat} {A : Nat → Bool} {wr w' : World} {row : Option Nat} (h : Ln.Brow g m A wr) (hg : wr.grownBy w' row) (hr : row ≠ some g) : Ln.Brow g m A w' := by
  obtain ⟨cs, h1, h2⟩ := h
  exact ⟨cs, (hg.block g (Array.getElem?_eq_some_iff.1 h1).1 (fun e => hr e.symm)).trans h1, h2⟩
theorem UseM.grown {b p N : Nat} {X : Nat → Int} {W W' : World} {q : Nat} (h : UseM b p N X W) (hg : W.grownBy W' (some q)) (h1 : q ≠ b) (h2 : q ≠ p) : UseM b p N X W' :=
  ⟨(hg.block b (Array.getElem?_eq_some_iff.1 h.box).1 (fun e => h1 (by cases e; rfl))).trans h.box, h.row.grown hg (fun e => h2 (by cases e; rfl))⟩
end Gr
end Go.Proofs.Ytmbjnemahgfhcaa
namespace Go.Proofs.Ytmbjnemahgfhcaa
open Go.RowKit
namespace Gr
open Cs

def nonsOf (I : Nat → Bool) (N : Nat) : List Int := ((List.range N).filter I).map fun (a : Nat) => (a : Int)
/-- the numbers of the rules that are kept -/
def rulesOf (X : Nat → Int) (I : Nat → Bool) (K : List Rule) : Nat → List Int
  | 0 => []
  | i + 1 => rulesOf X I K i ++ (match K[i]? with | some r => if keepR X I r then [(i : Int)] else [] | none => [])
structure TrimR (g : Gram) (N S : Nat) (X : Nat → Int) (I : Nat → Bool) (vr vn vl : Value) (w' : World) : Prop where
  ok : OkC g N
  start : g.start = (S : Int)
  word : 0 ≤ X S
  trm : Trm g.rules N S X I
  rd : Rd AnyB w' (.sl ((trimR X I g.rules).map Rule.d)) [vr]
  nons : Sl w' vn (ints (nonsOf I N))
  rules : Sl w' vl (ints (rulesOf X I g.rules g.rules.length))
def TrimPost (g : Gram) (w : World) (e : Ending) (w' : World) : Prop :=
  Below w.heap.size w w' ∧ ((checkG g ≠ 0 ∧ e = .returned (.tuple #[.agg #[.int .i64 0, .int .i64 0, .int .i64 0, .slice none 0 0], .slice none 0 0, .slice none 0 0, .int .i64 (checkG g)])) ∨
    (checkG g = 0 ∧ (∀ k, ¬ Dv g.rules g.start.toNat k) ∧ e = .returned (.tuple #[.agg #[.int .i64 0, .int .i64 0, .int .i64 0, .slice none 0 0], .slice none 0 0, .slice none 0 0, .int .i64 5])) ∨
    (checkG g = 0 ∧ ∃ (N S : Nat) (X : Nat → Int) (I : Nat → Bool) (vr vn vl : Value), TrimR g N S X I vr vn vl w' ∧ e = .returned (.tuple #[.agg #[.int .i64 g.terms, .int .i64 (((List.range N).filter I).length : Nat), .int .i64 (toF I S : Nat), vr], vn, vl, .int .i64 0])))
theorem toF_step {I : Nat → Bool} {j : Nat} (h : I j = true) : toF I j = ((List.range j).filter I).length := by unfold toF; rw [if_pos h]
theorem nons_next {I : Nat → Bool} {j : Nat} : nonsOf I (j + 1) = if I j = true then nonsOf I j ++ [(j : Int)] else nonsOf I j := by
  unfold nonsOf
  rw [List.range_succ, List.filter_append, List.map_append]
  cases h : I j <;> simp [h]
theorem nons_len {I : Nat → Bool} {j : Nat} : (nonsOf I j).length = ((List.range j).filter I).length := by unfold nonsOf; simp
theorem nons_le {I : Nat → Bool} {j : Nat} : (nonsOf I j).length ≤ j := by rw [nons_len]; exact Nat.le_trans (List.length_filter_le _ _) (by simp)
/-- the new numbers, and the list of what is kept, so far -/
structure L1 (I : Nat → Bool) (N pt : Nat) (w4 : World) (j : Nat) (v : Value) (wr : World) : Prop where
  own : wr.ownsRow (pt + 1) 3 1 v (nonsOf I j).length (ints (nonsOf I j))
  row : Vrow 3 pt N (fun A => .int .i64 (if A < j then (toF I A : Int) else 0)) wr
  bel : Below w4.heap.size w4 wr
  lo : w4.heap.size ≤ pt
theorem L1.keep {I : Nat → Bool} {N pt : Nat} {w4 : World} {j : Nat} {v : Value} {wr w' : World} (h : L1 I N pt w4 j v wr) (hb : Below wr.heap.size wr w') : L1 I N pt w4 j v w' :=
  ⟨own_keep h.own hb, h.row.keep hb, h.bel.trans (hb.mono h.bel.size), h.lo⟩
theorem L1.skip {I : Nat → Bool} {N pt : Nat} {w4 : World} {j : Nat} {v : Value} {wr : World} (h : L1 I N pt w4 j v wr) (hI : I j = false) : L1 I N pt w4 (j + 1) v wr := by
  have e : nonsOf I (j + 1) = nonsOf I j := by rw [nons_next, if_neg (by simp [hI])]
  refine ⟨by rw [e]; exact h.own, h.row.eq fun k _ => ?_, h.bel, h.lo⟩
  by_cases e : k = j
  · subst e
    simp [toF, hI]
  · by_cases e2 : k < j
    · rw [if_pos e2, if_pos (by omega)]
    · rw [if_neg e2, if_neg (by omega)]
theorem L1.put {I : Nat → Bool} {N pt n : Nat} {w4 : World} {j : Nat} {v : Value} {wr : World} (h : L1 I N pt w4 j v wr) (hI : I j = true) (hj : j < N) (hn : (nonsOf I j).length = n) :
    Vrow 3 pt N (fun A => .int .i64 (if A < j + 1 then (toF I A : Int) else 0)) (wr.setCell ⟨pt, j, none⟩ (.int .i64 (n : Nat))) ∧ (wr.setCell ⟨pt, j, none⟩ (.int .i64 (n : Nat))).ownsRow (pt + 1) 3 1 v n (ints (nonsOf I j)) ∧ Below w4.heap.size w4 (wr.setCell ⟨pt, j, none⟩ (.int .i64 (n : Nat))) := by
  subst hn
  refine ⟨h.row.set hj fun k hk => ?_, h.own.kept (grown_cell _ _ _) (.inr fun e => by have h9 : pt + 1 ≤ pt := (h.own.lt _ e).1; omega), h.bel.setCell h.lo _⟩
  by_cases e : k = j
  · subst e
    rw [if_pos rfl, if_pos (by omega), toF_step hI, nons_len]
  · rw [if_neg e]
    by_cases e2 : k < j
    · rw [if_pos e2, if_pos (by omega)]
    · rw [if_neg e2, if_neg (by omega)]
theorem elInt2 : ElemT Try.prog 36 3 1 8 := ElemT.mk' (z := .int .i64 0) Try.underlying36 (by kernel_rfl) rfl (by decide)
theorem stored4g {w wp : World} {c0 c1 c2 c3 : Value} {b : Nat} (hw : Below w.heap.size w wp) (hb : w.heap.size ≤ b) :
    wp.grownBy ((((wp.setCell ⟨b, 0, none⟩ c0).setCell ⟨b, 1, none⟩ c1).setCell ⟨b, 2, none⟩ c2).setCell ⟨b, 3, none⟩ c3) (some b) ∧ Below w.heap.size w ((((wp.setCell ⟨b, 0, none⟩ c0).setCell ⟨b, 1, none⟩ c1).setCell ⟨b, 2, none⟩ c2).setCell ⟨b, 3, none⟩ c3) :=
  ⟨grown_trans (grown_trans (grown_trans (grown_cell _ _ _) (grown_cell _ _ _)) (grown_cell _ _ _)) (grown_cell _ _ _), (((hw.setCell hb _).setCell hb _).setCell hb _).setCell hb _⟩
theorem trimR_next {X : Nat → Int} {I : Nat → Bool} {K : List Rule} {i : Nat} (hi : i < K.length) : trimR X I (K.take (i + 1)) = if keepR X I K[i] = true then trimR X I (K.take i) ++ [renR I K[i]] else trimR X I (K.take i) := by
  unfold trimR
  rw [List.take_succ_eq_append_getElem hi, List.filter_append, List.map_append]
  cases h : keepR X I K[i] <;> simp [h]
theorem rulesOf_next {X : Nat → Int} {I : Nat → Bool} {K : List Rule} {i : Nat} (hi : i < K.length) : rulesOf X I K (i + 1) = if keepR X I K[i] = true then rulesOf X I K i ++ [(i : Int)] else rulesOf X I K i := by
  rw [rulesOf, List.getElem?_eq_getElem hi]
  cases h : keepR X I K[i] <;> simp [h]
theorem rulesOf_len {X : Nat → Int} {I : Nat → Bool} {K : List Rule} : ∀ i, (rulesOf X I K i).length ≤ i
  | 0 => by simp [rulesOf]
  | i + 1 => by
    rw [rulesOf, List.length_append]
    have := rulesOf_len (X := X) (I := I) (K := K) i
    split
    · split <;> simp <;> omega
    · simp; omega
theorem trimR_len {X : Nat → Int} {I : Nat → Bool} {K : List Rule} : (trimR X I K).length ≤ K.length := by unfold trimR; rw [List.length_map]; exact List.length_filter_le _ _
/-- the right side that is being made -/
structure XrI (w9 : World) (bx : Nat) (tl : Int) (L : List Sym) (vx : Value) (wr : World) : Prop where
  box : wr.heap[bx]? = some (.cells #[.int .i64 tl, vx] 32 (0, 0))
  row : RowD (fun _ => False) (bx + 1) 42 2 (L.map Sym.d) vx wr
  bel : Below w9.heap.size w9 wr
  lo : w9.heap.size ≤ bx
theorem XrI.keep {w9 wr w' : World} {bx : Nat} {tl : Int} {L : List Sym} {vx : Value} (h : XrI w9 bx tl L vx wr) (hb : Below wr.heap.size wr w') : XrI w9 bx tl L vx w' := ⟨bx_keep h.box hb, h.row.keep hb, h.bel.trans (hb.mono h.bel.size), h.lo⟩
theorem XrI.other {w9 wr : World} {bx b : Nat} {tl : Int} {L : List Sym} {vx : Value} (h : XrI w9 bx tl L vx wr) (hb : bx < b) (hne : ∀ k, vx.ownBlock = some k → k ≠ b) (j : Nat) (u : Value) : XrI w9 bx tl L vx (wr.setCell ⟨b, j, none⟩ u) := by
  obtain ⟨⟨xs, h1, h2⟩, h3⟩ := h.row
  have := h.lo
  refine ⟨bx_other h.box (by omega) _ _, ⟨⟨xs, ?_, RdAll.keep (fun k hk _ => hk.1.elim) _ _ h2⟩, by simpa [World.setCell] using h3⟩, h.bel.setCell (by show w9.heap.size ≤ b; omega) _, h.lo⟩
  refine h1.kept (grown_cell _ _ _) ?_
  cases e : vx.ownBlock with
  | none => exact .inl rfl
  | some k => exact .inr fun e2 => by cases e2; exact hne _ e rfl
theorem XrI.step {w9 W0 W1 : World} {bx n : Nat} {tl : Int} {L : List Sym} {vx v' : Value} {xs : List Value} {s : Sym} (h : XrI w9 bx tl L vx W0) (h1 : W0.ownsRow (bx + 1) 42 2 vx n xs) (h2 : RdAll (fun k => False ∧ vx.ownBlock ≠ some k) W0 (L.map Sym.d) xs) (hn : n = (L.map Sym.d).length)
    (ho : W1.ownsRow (bx + 1) 42 2 v' (n + 1) (xs ++ [.bool s.term, .int .i64 s.n])) (hg : W0.grownBy W1 vx.ownBlock) (hat : v'.ownBlock = vx.ownBlock ∨ ∃ k, v'.ownBlock = some k ∧ W0.heap.size ≤ k) :
    W1.heap[bx]? = some (.cells #[.int .i64 tl, vx] 32 (0, 0)) ∧ XrI w9 bx tl (L ++ [s]) v' (W1.setCell ⟨bx, 1, none⟩ v') := by
  have hlo := h.lo
  have hlt := (Array.getElem?_eq_some_iff.1 h.box).1
  have hb1 : W1.heap[bx]? = some (.cells #[.int .i64 tl, vx] 32 (0, 0)) := by rw [hg.block _ hlt (fun e => by have := (h1.lt _ e.symm).1; omega)]; exact h.box
  have hr : RowD (fun _ => False) (bx + 1) 42 2 ((L ++ [s]).map Sym.d) v' W1 := by
    rw [List.map_append]
    exact RowD.step (T := fun _ => False) (es := [s.d]) h1 h2 hn (RdAll.one (rd_sym s)) (fun k hk => hk.elim) h.row.le ho hg hat
  refine ⟨hb1, by rw [bx_set hb1]; rfl, ?_, ?_, hlo⟩
  · obtain ⟨⟨ys, k1, k2⟩, k3⟩ := hr
    exact ⟨⟨ys, k1.kept (grown_cell _ _ _) (.inr fun e => by have h9 : bx + 1 ≤ bx := (k1.lt _ e).1; omega), RdAll.keep (fun k hk _ => hk.1.elim) _ _ k2⟩, by simpa [World.setCell] using k3⟩
  · exact (h.bel.grown hg (by have := h.row.le; omega) (fun k e => by have := (h1.lt k e).1; omega)).setCell hlo _
set_option maxHeartbeats 16000000 in
set_option maxRecDepth 100000 in
theorem trimE (g : Gram) (ra : Option Addr) (rcap : Nat) (w : World) (hr : Rd AnyB w (.sl (g.rules.map Rule.d)) [.slice ra g.rules.length rcap]) :
    Calls Try.prog 8 #[.agg #[.int .i64 g.terms, .int .i64 g.nons, .int .i64 g.start, .slice ra g.rules.length rcap]] w (TrimPost g w) := by
  obtain ⟨w0, HW0⟩ := nameIt ((w.alloc (.cells #[.int .i64 g.terms, .int .i64 g.nons, .int .i64 g.start, .slice ra g.rules.length rcap] 24)).alloc (.cells #[.int .i64 0, .int .i64 0, .int .i64 0, .slice none 0 0] 24))
  have hb0 : Below w.heap.size w w0 := by rw [← HW0.out]; exact ((Below.refl _ _).alloc (Nat.le_refl _) _).alloc (by simp) _
  have X0 : Hid (w0.heap[w.heap.size]? = some (.cells #[.int .i64 g.terms, .int .i64 g.nons, .int .i64 g.start, .slice ra g.rules.length rcap] 24 (0, 0))) := by rw [← HW0.out]; exact bx_keep (bx_new _ _ _ rfl) ((Below.refl _ _).alloc (Nat.le_refl _) _)
  have R0 : Hid (w0.heap[w.heap.size + 1]? = some (.cells #[.int .i64 0, .int .i64 0, .int .i64 0, .slice none 0 0] 24 (0, 0))) := by rw [← HW0.out]; exact bx_new _ _ _ (by simp)
  have HCK := Lib.hid (checkE g ra rcap w0 (hr.below hb0))
  have HRD := Lib.hid (hr.below hb0)
  have HRX := Lib.hid hr
  have HLE : Hid (checkG g = 0 → ∃ N S, OkC g N ∧ g.start = ((S : Nat) : Int) ∧ ∀ W, Below w0.heap.size w0 W → Calls Try.prog 13 #[.agg #[.int .i64 g.terms, .int .i64 g.nons, .int .i64 g.start, .slice ra g.rules.length rcap]] W (LnPost g.rules N W)) := by
    intro h
    obtain ⟨N, hok⟩ := okC_of h
    exact ⟨N, g.start.toNat, hok, by have := hok.s0; omega, fun W hb => lengthsE g N hok (fun r hr => ((checkG_zero h).2.2 r hr).2.2.1) ra rcap W (HRD.out.below hb)⟩
  obtain ⟨PST, HP⟩ := nameIt (TrimPost g w)
  rw [HP.out]
  have HE1 : Hid (checkG g ≠ 0 → ∀ w', Below w.heap.size w w' → PST (.returned (.tuple #[.agg #[.int .i64 0, .int .i64 0, .int .i64 0, .slice none 0 0], .slice none 0 0, .slice none 0 0, .int .i64 (checkG g)])) w') := by
    intro he w' h
    rw [← HP.out]
    exact ⟨h, .inl ⟨he, rfl⟩⟩
  have HE2 : Hid (checkG g = 0 → (∀ k, ¬ Dv g.rules g.start.toNat k) → ∀ w', Below w.heap.size w w' → PST (.returned (.tuple #[.agg #[.int .i64 0, .int .i64 0, .int .i64 0, .slice none 0 0], .slice none 0 0, .slice none 0 0, .int .i64 5])) w') := by
    intro he hd w' h
    rw [← HP.out]
    exact ⟨h, .inr (.inl ⟨he, hd, rfl⟩)⟩
  have HE3 : Hid (checkG g = 0 → ∀ (N S : Nat) (X : Nat → Int) (I : Nat → Bool) (vr vn vl : Value) w', TrimR g N S X I vr vn vl w' → Below w.heap.size w w' → PST (.returned (.tuple #[.agg #[.int .i64 g.terms, .int .i64 (((List.range N).filter I).length : Nat), .int .i64 (toF I S : Nat), vr], vn, vl, .int .i64 0])) w') := by
    intro he N S X I vr vn vl w' h1 h2
    rw [← HP.out]
    exact ⟨h2, .inr (.inr ⟨he, N, S, X, I, vr, vn, vl, h1, rfl⟩)⟩
  have hbs := hr.bounds.2
  unfold maxLen at hbs
  obtain ⟨hcv1, hcv2⟩ := hbs
  obtain ⟨gt, HGT⟩ := nameIt g.terms
  obtain ⟨gn, HGN⟩ := nameIt g.nons
  obtain ⟨gs, HGS⟩ := nameIt g.start
  obtain ⟨rl, HRL⟩ := nameIt g.rules.length
  rw [HGT.out, HGN.out, HGS.out, HRL.out] at HW0 X0 HCK
  rw [HRL.out] at HRD hcv1 HRX
  rw [HGT.out, HGN.out, HGS.out, HRL.out] at HLE
  rw [HGT.out] at HE3
  rw [HGS.out] at HE2
  rw [HGT.out, HGN.out, HGS.out, HRL.out]
  obtain ⟨ck, HC⟩ := nameIt (checkG g)
  rw [HC.out] at HCK HE1 HE2 HE3 HLE
  obtain ⟨x0, x1, x2, x3⟩ := bx_cells4 X0.out
  have HB0 := Lib.hid hb0
  clear hb0 hr HP
  go_enter Try.func8, Try.ntmps8
  go_upto_region 1 with fail
  rw [HW0.out]
  go_wp2_with fail
  with_reducible refine HCK.out.mono ?_
  clear x0 x1 x2 x3
  rintro e w1 ⟨rfl, hb1⟩
  have X1 := Lib.hid (bx_keep X0.out hb1)
  have R1 := Lib.hid (bx_keep R0.out hb1)
  have HB1 := Lib.hid hb1
  have HS1 : Hid (w.heap.size + 1 < w1.heap.size) := (Array.getElem?_eq_some_iff.1 R1.out).1
  obtain ⟨x0, x1, x2, x3⟩ := bx_cells4 X1.out
  by_cases he : ck = 0
  · subst he
    obtain ⟨N, S, hok, hgs, hle⟩ := HLE.out rfl
    have HL1 := Lib.hid (hle w1 HB1.out)
    have HOK := Lib.hid hok
    have H4 : Hid (∀ r ∈ g.rules, r.right.length ≤ 4) := fun r hr => ((checkG_zero HC.out).2.2 r hr).2.2.1
    have hN1 := hok.n1
    have hN2 := hok.n2
    have hSN : S < N := by have := hok.s1; rw [HGS.out] at this; omega
    have hgn : gn = (N : Int) := by rw [← HGN.out]; exact hok.nons
    subst hgn hgs
    clear hb1 HLE hle hok HE1 HCK X0 R0
    go_wp2_with fail
    with_reducible refine HL1.out.mono ?_
    rintro e w2 ⟨p, X, rfl, hv, hl, hp, hb2⟩
    have X2 := Lib.hid (bx_keep X1.out hb2)
    have R2 := Lib.hid (bx_keep R1.out hb2)
    have HB2 := Lib.hid (HB1.out.trans (hb2.mono HB1.out.size))
    have HLV := Lib.hid hl
    have hpl := hv.lt
    obtain ⟨w3, HW3⟩ := nameIt (w2.alloc (.cells #[.slice (some ⟨p, 0, none⟩) N N] 36))
    have hb3 : Below w2.heap.size w2 w3 := by rw [← HW3.out]; exact (Below.refl _ _).alloc (Nat.le_refl _) _
    have HU3 : Hid (UseM w2.heap.size p N X w3) := ⟨by rw [← HW3.out]; exact bx_new _ _ _ rfl, hv.keep hb3⟩
    have X3 := Lib.hid (bx_keep X2.out hb3)
    have R3 := Lib.hid (bx_keep R2.out hb3)
    have HB3 := Lib.hid (HB2.out.trans (hb3.mono HB2.out.size))
    have hs3 : w2.heap.size < w3.heap.size := by rw [← HW3.out]; simp
    obtain ⟨bl, HBL⟩ := nameIt w2.heap.size
    rw [HBL.out] at HU3 hs3 hpl
    clear hv hl hp hb2 hb3 x0 x1 x2 x3 X1 R1 X2 R2
    go_upto_region 5 with fail
    rw [HW3.out, HBL.out]
    obtain ⟨x0, x1, x2, x3⟩ := bx_cells4 X3.out
    have u0 := bx_cells1 HU3.out.box
    have q0 := HU3.out.row.cell hSN
    have hS0 : (0 : Int) ≤ (S : Int) := by omega
    have hS1 : (S : Int) < (N : Int) := by omega
    have hXL := HLV.out S hSN
    obtain ⟨xs, HXS⟩ := nameIt (X S)
    rw [HXS.out] at q0 hXL
    have HXL := Lib.hid hXL
    clear hXL
    by_cases hx : xs < 0
    · have hne : ∀ k, ¬ Dv g.rules S k := fun k hk => by have := (HXL.out.2.2 k hk).1; omega
      have HF := Lib.hid (HE2.out (by first | rfl | trivial) (by rw [Int.toNat_natCast]; exact hne))
      obtain ⟨y0, y1, y2, y3⟩ := bx_cells4 R3.out
      obtain ⟨f0, f1, f2, f3⟩ := bx_free4 R3.out
      have hrl := (Array.getElem?_eq_some_iff.1 R3.out).1
      clear hne
      go_wp2_with fail
      refine bodyPost_ret (v := .tuple #[.agg #[.int .i64 0, .int .i64 0, .int .i64 0, .slice none 0 0], .slice none 0 0, .slice none 0 0, .int .i64 5]) (by simp [results, Try.results8, go_sem, y0, y1, y2, y3]) rfl ?_
      exact HF.out _ ((((((HB0.out.trans (HB3.out.mono HB0.out.size)).setCell (by show w.heap.size ≤ w.heap.size + 1; omega) _).setCell (by show w.heap.size ≤ w.heap.size + 1; omega) _).setCell (by show w.heap.size ≤ w.heap.size + 1; omega) _).setCell (by show w.heap.size ≤ w.heap.size + 1; omega) _))
    · have HMEM : Hid (∀ r ∈ g.rules, ∀ s ∈ r.right, s.term = false → 0 ≤ s.n ∧ s.n.toNat < N) := fun r hr s hs ht => HOK.out.r r hr s hs ht
      have hrc := reachedE g N S HOK.out HGS.out (useR X) 14 #[.pointer (some ⟨bl, 0, none⟩)] ra rcap w3 (fun _ _ => by kernel_rfl) (useFnE bl p N X g.rules w3 (by omega) HU3.out HMEM.out) (by rw [HRL.out]; exact HRD.out.below HB3.out)
      rw [HGT.out, HGN.out, HGS.out, HRL.out] at hrc
      have HRC := Lib.hid hrc
      clear hrc
      go_wp2_with fail
      refine HRC.out.mono ?_
      rintro e w4 ⟨pI, I, rfl, hbr, hri, hrcl, hpI, hb4⟩
      have HU4 := Lib.hid (HU3.out.keep hb4)
      have X4 := Lib.hid (bx_keep X3.out hb4)
      have R4 := Lib.hid (bx_keep R3.out hb4)
      have HB4 := Lib.hid (HB3.out.trans (hb4.mono HB3.out.size))
      have HI4 := Lib.hid hbr
      have HTM : Hid (Trm g.rules N S X I) := ⟨HLV.out, fun r hr => HOK.out.l r hr, HMEM.out, hSN, hri.start, hri.lt, fun r hr h1 h2 s hs ht => hrcl r hr h1 h2 s hs ht, hri.snd⟩
      have hIl := hbr.lt
      clear HRC hbr hri hrcl hb4 hpI x0 x1 x2 x3 u0 q0 X3 R3 HU3
      obtain ⟨x0, x1, x2, x3⟩ := bx_cells4 X4.out
      have hmk : ∀ W : World, (Instr.makeSlice 36 (.int .i64 (N : Int)) (.int .i64 (N : Int))).run Try.prog W = .ok (.slice (some ⟨W.heap.size, 0, none⟩) N N) (W.alloc (.cells (madeCells #[.int .i64 0] N) 3)) := fun W => by
        have := run_make_row' (P := Try.prog) 36 3 (.int .i64 0) 8 Try.underlying36 (by kernel_rfl) rfl .i64 .i64 N (by omega) (by omega) W
        simpa using this
      obtain ⟨w5, HW5⟩ := nameIt (w4.alloc (.cells (madeCells #[.int .i64 0] N) 3))
      obtain ⟨pt, HPT⟩ := nameIt w4.heap.size
      have HPTL : Hid (w.heap.size + 2 ≤ pt) := by
        show _ ≤ _
        rw [← HPT.out]
        have := (Array.getElem?_eq_some_iff.1 R4.out).1
        omega
      have HL0 : Hid (L1 I N pt w4 0 (.slice none 0 0) w5) := by
        rw [← HW5.out, ← HPT.out]
        refine ⟨World.ownsRow_nil _ _ _ _, (vrow_new w4 3 (.int .i64 0) N rfl).eq fun k _ => by simp, (Below.refl _ _).alloc (Nat.le_refl _) _, Nat.le_refl _⟩
      rw [HPT.out] at hIl
      go_upto_region 11 with fail
      rw [HW5.out, HPT.out]
      clear x0 x1 x2 x3 hmk HW5
      go_wp2_with fail
      go_loopg [10, 45] N (fun gg v10 v45 wr => ∃ j : Nat, j ≤ N ∧ N - j ≤ gg ∧ v45 = .int .i64 j ∧ Hid (L1 I N pt w4 j v10 wr))
      case atStart => exact ⟨0, by omega, by omega, rfl, HL0⟩
      case round =>
        clear HL0
        obtain ⟨j, hj, hg, rfl, HL⟩ := hrel
        obtain ⟨wq, rfl⟩ : ∃ ww : World, ww = wr := ⟨_, rfl⟩
        obtain ⟨a10, c10, rfl, hc1, hc2⟩ := own_len HL.out.own
        unfold maxLen at hc2
        have hnl := nons_le (I := I) (j := j)
        obtain ⟨n, HNN⟩ := nameIt (nonsOf I j).length
        rw [HNN.out] at HL hc1 hnl
        rw [HNN.out]
        have HNL := Lib.hid hnl
        by_cases hlt : j < N
        · have hlt' : (j : Int) < (N : Int) := by omega
          have hj0 : (0 : Int) ≤ (j : Int) := by omega
          have q0 := (HI4.out.keep HL.out.bel).cell hlt
          obtain ⟨ij, HIJ⟩ := nameIt (I j)
          rw [HIJ.out] at q0
          cases ij with
          | false =>
            have HN := Lib.hid (HL.out.skip HIJ.out)
            go_wp2_with fail
            go_roundg (N - (j + 1))
            case measure => omega
            case rel => exact ⟨j + 1, by omega, by omega, by go_num, HN⟩
          | true =>
            have hput := HL.out.put HIJ.out hlt HNN.out
            have HV1 := Lib.hid hput.1
            have HO1 := Lib.hid hput.2.1
            have HB1' := Lib.hid hput.2.2
            have qf := HL.out.row.free j
            have qc := HL.out.row.cell hlt
            have hpl2 := HL.out.row.lt
            have HLO := Lib.hid HL.out.lo
            obtain ⟨w6, HW6⟩ := nameIt (wq.setCell ⟨pt, j, none⟩ (.int .i64 (n : Nat)))
            rw [HW6.out] at HV1 HO1 HB1'
            have hs6 : pt < w6.heap.size := HV1.out.lt
            clear hput
            go_upto_region 16 with fail
            rw [HW6.out]
            clear q0 qf qc
            go_wp2_with (at_builtin; refine wp_app1at elInt2 rfl _ _ rfl HO1.out rfl rfl (by simp) rfl rfl (by omega) (by unfold maxLen; omega) (by omega) ?_)
            intro v' w' ho hg2 hat
            have HN : Hid (L1 I N pt w4 (j + 1) v' w') := by
              have e : nonsOf I (j + 1) = nonsOf I j ++ [(j : Int)] := by rw [nons_next, if_pos HIJ.out]
              refine ⟨?_, HV1.out.grown hg2 (fun e => by have h9 : pt + 1 ≤ pt := (HO1.out.lt _ e).1; omega), HB1'.out.grown hg2 (by have := HB1'.out.size; omega) (fun k e => by have := (HO1.out.lt k e).1; have := HLO.out; omega), HLO.out⟩
              rw [e, List.length_append, HNN.out, show ints (nonsOf I j ++ [(j : Int)]) = ints (nonsOf I j) ++ [.int .i64 (j : Int)] by simp [ints]]
              exact ho
            obtain ⟨a', c', rfl, -, -⟩ := own_len ho
            clear ho hg2 hat
            go_wp2_with fail
            go_roundg (N - (j + 1))
            case measure => omega
            case rel => exact ⟨j + 1, by omega, by omega, by go_num, HN⟩
        · have hlt' : ¬ (j : Int) < (N : Int) := by omega
          obtain rfl : N = j := by omega
          have hB : Below w.heap.size w wq := by
            have h1 := HB0.out.trans (HB4.out.mono HB0.out.size)
            exact h1.trans (HL.out.bel.mono h1.size)
          have HBQ := Lib.hid hB
          have X6 := Lib.hid (bx_keep X4.out HL.out.bel)
          have R6 := Lib.hid (bx_keep R4.out HL.out.bel)
          have HU6 := Lib.hid (HU4.out.keep HL.out.bel)
          have HI6 := Lib.hid (HI4.out.keep HL.out.bel)
          have HTO : Hid (Vrow 3 pt N (fun A => .int .i64 (toF I A : Nat)) wq) := HL.out.row.eq fun k hk => by rw [if_pos hk]
          have q0 := HTO.out.cell hSN
          obtain ⟨ts, HTS⟩ := nameIt ((toF I S : Nat) : Int)
          rw [HTS.out] at q0
          obtain ⟨x0, x1, x2, x3⟩ := bx_cells4 X6.out
          have HCS : Hid (∀ w', Below wq.heap.size wq w' → w'.cell? ⟨w.heap.size, 0, none⟩ = some (.int .i64 gt) ∧ w'.cell? ⟨w.heap.size, 0 + 2, none⟩ = some (.int .i64 (S : Int)) ∧ w'.cell? ⟨pt, S, none⟩ = some (.int .i64 ts)) := fun w' h => ⟨(h.cell (lt_of_cell x0)).trans x0, (h.cell (lt_of_cell x2)).trans x2, (h.cell (lt_of_cell q0)).trans q0⟩
          go_upto_region 18 with fail
          -- R18
          refine wp_region_U (S := (fun w' => w'.cell? ⟨w.heap.size, 0, none⟩ = some (.int .i64 gt) ∧ w'.cell? ⟨w.heap.size, 0 + 2, none⟩ = some (.int .i64 (S : Int)) ∧ w'.cell? ⟨pt, S, none⟩ = some (.int .i64 ts))) 11 (by kernel_rfl) (fun inv => ?_)
          refine wpU_take (i := 0) (v := .pointer (some ⟨w.heap.size, 0, none⟩)) rfl inv (by kernel_rfl) (by kernel_rfl) (by decide) (by decide) (by kernel_rfl) (by kernel_rfl) (by kernel_rfl) (fun _ _ _ h => h) (Or.inl ⟨by rfl, fun w' hw' => ?_⟩) (HCS.out _ (Below.refl _ _).drew) (fun inv => ?_)
          · obtain ⟨h0, h1, h2⟩ := hw'
            go_simp
          try simp only [Act.put, List.setIfInBounds_toArray, List.set_cons_zero, List.set_cons_succ]
          refine wpU_take (i := 1) (v := .int .i64 gt) rfl inv (by kernel_rfl) (by kernel_rfl) (by decide) (by decide) (by kernel_rfl) (by kernel_rfl) (by kernel_rfl) (fun _ _ _ h => h) (Or.inl ⟨by rfl, fun w' hw' => ?_⟩) (HCS.out _ (Below.refl _ _).drew) (fun inv => ?_)
          · obtain ⟨h0, h1, h2⟩ := hw'
            go_simp
          try simp only [Act.put, List.setIfInBounds_toArray, List.set_cons_zero, List.set_cons_succ]
          refine wpU_take (i := 2) (v := .slice a10 n c10) rfl inv (by kernel_rfl) (by kernel_rfl) (by decide) (by decide) (by kernel_rfl) (by kernel_rfl) (by kernel_rfl) (fun _ _ _ h => h) (Or.inl ⟨by rfl, fun w' hw' => ?_⟩) (HCS.out _ (Below.refl _ _).drew) (fun inv => ?_)
          · obtain ⟨h0, h1, h2⟩ := hw'
            go_simp
          try simp only [Act.put, List.setIfInBounds_toArray, List.set_cons_zero, List.set_cons_succ]
          refine wpU_take (i := 3) (v := .int .i64 (n : Nat)) rfl inv (by kernel_rfl) (by kernel_rfl) (by decide) (by decide) (by kernel_rfl) (by kernel_rfl) (by kernel_rfl) (fun _ _ _ h => h) (Or.inl ⟨by rfl, fun w' hw' => ?_⟩) (HCS.out _ (Below.refl _ _).drew) (fun inv => ?_)
          · obtain ⟨h0, h1, h2⟩ := hw'
            go_simp
          try simp only [Act.put, List.setIfInBounds_toArray, List.set_cons_zero, List.set_cons_succ]
          refine wpU_take (i := 4) (v := .slice (some ⟨pt, 0, none⟩) N N) rfl inv (by kernel_rfl) (by kernel_rfl) (by decide) (by decide) (by kernel_rfl) (by kernel_rfl) (by kernel_rfl) (fun _ _ _ h => h) (Or.inl ⟨by rfl, fun w' hw' => ?_⟩) (HCS.out _ (Below.refl _ _).drew) (fun inv => ?_)
          · obtain ⟨h0, h1, h2⟩ := hw'
            go_simp
          try simp only [Act.put, List.setIfInBounds_toArray, List.set_cons_zero, List.set_cons_succ]
          refine wpU_take (i := 5) (v := .pointer (some ⟨w.heap.size, 0 + 2, none⟩)) rfl inv (by kernel_rfl) (by kernel_rfl) (by decide) (by decide) (by kernel_rfl) (by kernel_rfl) (by kernel_rfl) (fun _ _ _ h => h) (Or.inl ⟨by rfl, fun w' hw' => ?_⟩) (HCS.out _ (Below.refl _ _).drew) (fun inv => ?_)
          · obtain ⟨h0, h1, h2⟩ := hw'
            go_simp
          try simp only [Act.put, List.setIfInBounds_toArray, List.set_cons_zero, List.set_cons_succ]
          refine wpU_take (i := 6) (v := .int .i64 (S : Int)) rfl inv (by kernel_rfl) (by kernel_rfl) (by decide) (by decide) (by kernel_rfl) (by kernel_rfl) (by kernel_rfl) (fun _ _ _ h => h) (Or.inl ⟨by rfl, fun w' hw' => ?_⟩) (HCS.out _ (Below.refl _ _).drew) (fun inv => ?_)
          · obtain ⟨h0, h1, h2⟩ := hw'
            go_simp
          try simp only [Act.put, List.setIfInBounds_toArray, List.set_cons_zero, List.set_cons_succ]
          refine wpU_take (i := 7) (v := .pointer (some ⟨pt, S, none⟩)) rfl inv (by kernel_rfl) (by kernel_rfl) (by decide) (by decide) (by kernel_rfl) (by kernel_rfl) (by kernel_rfl) (fun _ _ _ h => h) (Or.inl ⟨by rfl, fun w' hw' => ?_⟩) (HCS.out _ (Below.refl _ _).drew) (fun inv => ?_)
          · obtain ⟨h0, h1, h2⟩ := hw'
            go_simp
          try simp only [Act.put, List.setIfInBounds_toArray, List.set_cons_zero, List.set_cons_succ]
          refine wpU_take (i := 8) (v := .int .i64 ts) rfl inv (by kernel_rfl) (by kernel_rfl) (by decide) (by decide) (by kernel_rfl) (by kernel_rfl) (by kernel_rfl) (fun _ _ _ h => h) (Or.inl ⟨by rfl, fun w' hw' => ?_⟩) (HCS.out _ (Below.refl _ _).drew) (fun inv => ?_)
          · obtain ⟨h0, h1, h2⟩ := hw'
            go_simp
          try simp only [Act.put, List.setIfInBounds_toArray, List.set_cons_zero, List.set_cons_succ]
          refine wpU_take (i := 9) (v := .agg #[.int .i64 gt, .int .i64 (n : Nat), .int .i64 ts, .slice none 0 0]) rfl inv (by kernel_rfl) (by kernel_rfl) (by decide) (by decide) (by kernel_rfl) (by kernel_rfl) (by kernel_rfl) (fun _ _ _ h => h) (Or.inl ⟨by rfl, fun w' hw' => ?_⟩) (HCS.out _ (Below.refl _ _).drew) (fun inv => ?_)
          · obtain ⟨h0, h1, h2⟩ := hw'
            go_simp
          try simp only [Act.put, List.setIfInBounds_toArray, List.set_cons_zero, List.set_cons_succ]
          refine wpU_one (i := 10) (by kernel_rfl) rfl (fun K hK => ?_)
          replace inv := inv_setc (i := 10) inv (by kernel_rfl) (by decide)
          go_simp
          have HCQ := Lib.hid (HCS.out _ ((Below.refl _ wq).drew.alloc (Nat.le_refl _) (.cells #[.int .i64 0, .int .i64 0, .int .i64 0, .slice none 0 0] 24)))
          refine hK.out _ _ (fun _ => HCQ.out) ?_
          clear hK K
          try simp only [Act.put, List.setIfInBounds_toArray, List.set_cons_zero, List.set_cons_succ]
          refine wpU_one (i := 11) (by kernel_rfl) rfl (fun K hK => ?_)
          go_simp
          refine hK.out _ _ (fun h => absurd (show true = false from h) (by decide)) ?_
          clear hK K
          try simp only [Act.put, List.setIfInBounds_toArray, List.set_cons_zero, List.set_cons_succ]
          refine wpU_done (by kernel_rfl) ?_ _
          -- R18END
          obtain ⟨w7, HW7⟩ := nameIt (wq.alloc (.cells #[.int .i64 gt, .int .i64 (n : Nat), .int .i64 ts, .slice none 0 0] 24)).drew
          rw [HW7.out]
          have hb7 : Below wq.heap.size wq w7 := by rw [← HW7.out]; exact ((Below.refl _ _).alloc (Nat.le_refl _) _).drew
          have hx7 : w7.heap[wq.heap.size]? = some (.cells #[.int .i64 gt, .int .i64 (n : Nat), .int .i64 ts, .slice none 0 0] 24 (0, 0)) := by rw [← HW7.out]; exact bx_new wq _ _ rfl
          obtain ⟨ob, HOB⟩ := nameIt wq.heap.size
          rw [HOB.out]
          have HOBL : Hid (w.heap.size + 2 ≤ ob ∧ bl < ob ∧ p < ob ∧ pI < ob ∧ pt < ob) := by
            have a1 := (Array.getElem?_eq_some_iff.1 R6.out).1
            have a2 := (Array.getElem?_eq_some_iff.1 HU6.out.box).1
            have a3 := HU6.out.row.lt
            have a4 := HI6.out.lt
            have a5 := HTO.out.lt
            rw [HOB.out] at a1 a2 a3 a4 a5
            exact ⟨by omega, a2, a3, a4, a5⟩
          have X7 := Lib.hid (bx_keep X6.out hb7)
          have R7 := Lib.hid (bx_keep R6.out hb7)
          have HU7 := Lib.hid (HU6.out.keep hb7)
          have HI7 := Lib.hid (HI6.out.keep hb7)
          have HTO7 := Lib.hid (HTO.out.keep hb7)
          have hnown := HL.out.own
          rw [HNN.out] at hnown
          have HNO7 := Lib.hid (own_keep hnown hb7)
          clear hnown
          have HB7 := Lib.hid (HBQ.out.trans (hb7.mono HBQ.out.size))
          rw [HOB.out] at hx7
          have hob7 : ob < w7.heap.size := (Array.getElem?_eq_some_iff.1 hx7).1
          have HT0 : Hid (TrI w7 ob gt (n : Nat) ts (trimR X I (g.rules.take 0)) (rulesOf X I g.rules 0) (.slice none 0 0) (.slice none 0 0) (.slice none 0 0) w7) :=
            ⟨hx7, ⟨[], World.ownsRow_nil _ _ _ _, by simp [trimR, RdAll]⟩, World.ownsRow_nil _ _ _ _, (fun k h => by cases h), ⟨rfl, rfl, rfl, Nat.le_refl _, fun _ _ _ => rfl⟩, hob7⟩
          have HRW : Hid (∀ wr, w7.grownBy wr (some ob) → Below w.heap.size w wr ∧ Ln.Brow pI N I wr ∧ Vrow 3 pt N (fun A => .int .i64 (toF I A : Nat)) wr ∧ UseM bl p N X wr ∧ wr.heap[w.heap.size + 1]? = some (.cells #[.int .i64 0, .int .i64 0, .int .i64 0, .slice none 0 0] 24 (0, 0)) ∧ wr.ownsRow (pt + 1) 3 1 (.slice a10 n c10) n (ints (nonsOf I N))) := fun wr hg => by
            obtain ⟨o1, o2, o3, o4, o5⟩ := HOBL.out
            refine ⟨HB7.out.grown hg (by have := HB7.out.size; omega) (fun k e => by cases e; omega), Brow_grown HI7.out hg (fun e => by cases e; omega), HTO7.out.grown hg (fun e => by cases e; omega), HU7.out.grown hg (by omega) (by omega), (hg.block _ (by omega) (fun e => by cases e; omega)).trans R7.out, ?_⟩
            refine HNO7.out.kept hg (.inr fun e => ?_)
            have h9 := (HL.out.own.lt ob e).2
            rw [HOB.out] at h9; omega
          clear hb7 hx7 hB q0 x0 x1 x2 x3 HCS
          obtain ⟨x0, x1, x2, x3⟩ := bx_cells4 X7.out
          go_wp2_with fail
          clear x0 x1 x2 x3
          go_loopg [11, 74] rl (fun gg v11 v74 wr => ∃ (i : Nat) (va : Value), i ≤ rl ∧ rl - i ≤ gg ∧ v74 = .int .i64 i ∧ Hid (TrI w7 ob gt (n : Nat) ts (trimR X I (g.rules.take i)) (rulesOf X I g.rules i) va v11 va wr))
          case atStart => exact ⟨0, _, by omega, by omega, rfl, HT0⟩
          case round =>
            clear HT0
            obtain ⟨i, va, hi, hg1, rfl, HTI⟩ := hrel
            obtain ⟨wo, rfl⟩ : ∃ ww : World, ww = wr := ⟨_, rfl⟩
            obtain ⟨hbo, hIo, hTo, hUo, hRo, hNo⟩ := HRW.out wo HTI.out.gr
            have HBO := Lib.hid hbo
            have HIO := Lib.hid hIo
            have HTOO := Lib.hid hTo
            have HUO := Lib.hid hUo
            have HRO := Lib.hid hRo
            have HNO := Lib.hid hNo
            obtain ⟨a11, c11, rfl, hc3, hc4⟩ := own_len HTI.out.b
            unfold maxLen at hc4
            have hml := rulesOf_len (X := X) (I := I) (K := g.rules) i
            obtain ⟨ml, HML⟩ := nameIt (rulesOf X I g.rules i).length
            rw [HML.out] at HTI hc3 hml
            rw [HML.out]
            have hrl32 : rl ≤ 32 := by rw [← HRL.out]; exact HOK.out.len
            clear hbo hIo hTo hUo hRo hNo
            by_cases hit : i < rl
            · have hit' : (i : Int) < (rl : Int) := by omega
              have hix : i < g.rules.length := by rw [HRL.out]; exact hit
              obtain ⟨rbk, ro, rv, hae, -, hrb, r0, r1, hrr⟩ := HRX.out.rule_at hix
              obtain ⟨ar, cr, rfl, hcr1, hcr2⟩ := hrr.form
              rw [List.length_map] at r1 hrr hcr1
              unfold maxLen at hcr2
              have t0 := (HBO.out.cell (lt_of_cell r0)).trans r0
              have t1 := (HBO.out.cell (lt_of_cell r1)).trans r1
              have hrb' : rbk < wo.heap.size := Nat.lt_of_lt_of_le hrb HBO.out.size
              have HRR := Lib.hid (hrr.below HBO.out)
              have HOKL := Lib.hid (HOK.out.l _ (List.getElem_mem hix))
              have HRM := Lib.hid (List.getElem_mem hix)
              have hr4 := H4.out _ (List.getElem_mem hix)
              have HTN : Hid (trimR X I (g.rules.take (i + 1)) = if keepR X I g.rules[i] = true then trimR X I (g.rules.take i) ++ [renR I g.rules[i]] else trimR X I (g.rules.take i)) := trimR_next hix
              have HRN2 : Hid (rulesOf X I g.rules (i + 1) = if keepR X I g.rules[i] = true then rulesOf X I g.rules i ++ [(i : Int)] else rulesOf X I g.rules i) := rulesOf_next hix
              obtain ⟨r, HRN⟩ := nameIt (g.rules[i]'hix)
              rw [HRN.out] at t0 t1 HRR HOKL hcr1 HRM HTN HRN2 hr4
              obtain ⟨A, hA⟩ : ∃ A : Nat, r.left = (A : Int) := ⟨r.left.toNat, by have := HOKL.out.1; omega⟩
              have hAN : A < N := by have := HOKL.out.2; rw [hA] at this; simpa using this
              have HLEFT : Hid (r.left.toNat = A) := by show _ = _; rw [hA]; simp
              have HKP : Hid (keepR X I r = (I A && useR X r)) := by show _ = _; unfold keepR; rw [HLEFT.out]
              rw [hA] at t0
              have HCU := Lib.hid (fun W (hb : Below wo.heap.size wo W) (hu : UseM bl p N X W) => useFnE bl p N X g.rules W (by omega) hu HMEM.out W r (.slice ar r.right.length cr) HRM.out (Below.refl _ _) (HRR.out.below hb))
              rw [hA] at HCU
              obtain ⟨rn, HRNL⟩ := nameIt r.right.length
              rw [HRNL.out] at t1 HRR hcr1 HCU hr4
              obtain ⟨w8, HW8⟩ := nameIt (wo.alloc (.cells #[.int .i64 (A : Int), .slice ar rn cr] 32))
              have hb8 : Below wo.heap.size wo w8 := by rw [← HW8.out]; exact (Below.refl _ _).alloc (Nat.le_refl _) _
              have Y8 : Hid (w8.heap[wo.heap.size]? = some (.cells #[.int .i64 (A : Int), .slice ar rn cr] 32 (0, 0))) := by rw [← HW8.out]; exact bx_new _ _ _ rfl
              have HTI8 := Lib.hid (HTI.out.keep hb8)
              have q0 := (HIO.out.keep hb8).cell hAN
              have HCU8 := Lib.hid (HCU.out w8 hb8 (HUO.out.keep hb8))
              have HTO8 := Lib.hid (HTOO.out.keep hb8)
              have HB8 := Lib.hid hb8
              have hA0 : (0 : Int) ≤ (A : Int) := by omega
              have hA1 : (A : Int) < (N : Int) := by omega
              obtain ⟨rbx, HRBX⟩ := nameIt wo.heap.size
              rw [HRBX.out] at Y8
              have hrb2 : rbk < rbx := by rw [← HRBX.out]; exact hrb'
              obtain ⟨ia, HIA⟩ := nameIt (I A)
              rw [HIA.out] at q0 HKP
              subst hae
              clear hrr r0 r1 hb8 hrb'
              go_upto_region 22 with fail
              rw [HW8.out, HRBX.out]
              clear t0 t1 HW8
              obtain ⟨y0, y1⟩ := bx_cells2 Y8.out
              have HSKIP : Hid (keepR X I r = false → ∀ W, Below w8.heap.size w8 W → TrI w7 ob gt (n : Nat) ts (trimR X I (g.rules.take (i + 1))) (rulesOf X I g.rules (i + 1)) va (.slice a11 ml c11) va W) := fun h W hb => by
                rw [HTN.out, HRN2.out, if_neg (by simp [h]), if_neg (by simp [h])]
                exact HTI8.out.keep hb
              cases ia with
              | false =>
                have HN := Lib.hid (HSKIP.out (by rw [HKP.out]; rfl) w8 (Below.refl _ _))
                go_wp2_with fail
                go_roundg (rl - (i + 1))
                case measure => omega
                case rel => exact ⟨i + 1, va, by omega, by omega, by go_num, HN⟩
              | true =>
                go_wp2_with fail
                refine HCU8.out.mono ?_
                rintro e w9 ⟨rfl, hb9⟩
                obtain ⟨ur, HUR⟩ := nameIt (useR X r)
                rw [HUR.out] at HKP ⊢
                have HB9 := Lib.hid hb9
                have Y9 := Lib.hid (bx_keep Y8.out hb9)
                clear hb9 y0 y1 q0 HCU HCU8
                obtain ⟨y0, y1⟩ := bx_cells2 Y9.out
                cases ur with
                | false =>
                  have HN := Lib.hid (HSKIP.out (by rw [HKP.out]; rfl) w9 HB9.out)
                  go_wp2_with fail
                  go_roundg (rl - (i + 1))
                  case measure => omega
                  case rel => exact ⟨i + 1, va, by omega, by omega, by go_num, HN⟩
                | true =>
                  have HTI9 := Lib.hid (HTI8.out.keep HB9.out)
                  have HTO9 := Lib.hid (HTO8.out.keep HB9.out)
                  have HBW9 := Lib.hid (HB8.out.trans (HB9.out.mono HB8.out.size))
                  have q0 := HTO9.out.cell hAN
                  obtain ⟨ta, HTA⟩ := nameIt ((toF I A : Nat) : Int)
                  rw [HTA.out] at q0
                  obtain ⟨w10, HW10⟩ := nameIt (w9.alloc (.cells #[.int .i64 ta, .slice none 0 0] 32))
                  have hb10 : Below w9.heap.size w9 w10 := by rw [← HW10.out]; exact (Below.refl _ _).alloc (Nat.le_refl _) _
                  have hx10 : w10.heap[w9.heap.size]? = some (.cells #[.int .i64 ta, .slice none 0 0] 32 (0, 0)) := by rw [← HW10.out]; exact bx_new _ _ _ rfl
                  have Y10 := bx_keep Y9.out hb10
                  obtain ⟨bx, HBX⟩ := nameIt w9.heap.size
                  rw [HBX.out] at hx10
                  have HBXL : Hid (w9.heap.size ≤ bx) := Nat.le_of_eq HBX.out
                  have hs10 := (Array.getElem?_eq_some_iff.1 hx10).1
                  have HX0 : Hid (XrI w9 bx ta ((r.right.take 0).map (renS I)) (.slice none 0 0) w10) := ⟨hx10, RowD.nil _ _ _ _ _ (by omega), hb10, HBXL.out⟩
                  go_upto_region 24 with fail
                  rw [HW10.out, HBX.out]
                  clear y0 y1 q0 hx10
                  obtain ⟨y0, y1⟩ := bx_cells2 Y10
                  clear Y10
                  go_wp2_with fail
                  clear y0 y1 hb10
                  go_loopg [100] rn (fun gg v100 wr => ∃ (j : Nat) (vx : Value), j ≤ rn ∧ rn - j ≤ gg ∧ v100 = .int .i64 j ∧ Hid (XrI w9 bx ta ((r.right.take j).map (renS I)) vx wr))
                  case atStart => exact ⟨0, _, by omega, by omega, rfl, HX0⟩
                  case round =>
                    clear HX0 HW10
                    obtain ⟨j, vx, hj2, hg2, rfl, HX⟩ := hrel
                    obtain ⟨wn, rfl⟩ : ∃ ww : World, ww = wr := ⟨_, rfl⟩
                    obtain ⟨ax, cx, rfl, hx1, hx2, hx3⟩ := HX.out.row.form
                    have HXL := Lib.hid hx3
                    unfold maxLen at hx2
                    obtain ⟨nj, HNJ⟩ := nameIt (((r.right.take j).map (renS I)).map Sym.d).length
                    have hnj : nj ≤ j := by rw [← HNJ.out]; simp; omega
                    rw [HNJ.out] at HX hx1 HXL
                    clear hx3
                    by_cases hjm : j < rn
                    · have hjm' : (j : Int) < (rn : Int) := by omega
                      have hjx : j < r.right.length := by rw [HRNL.out]; exact hjm
                      obtain ⟨sb, so, hae, -, hsb, s0, s1⟩ := (show Rd AnyB wo (.sl (r.right.map Sym.d)) [.slice ar r.right.length cr] by rw [HRNL.out]; exact HRR.out).sym_at hjx
                      have hbn : Below wo.heap.size wo wn := HBW9.out.trans (HX.out.bel.mono HBW9.out.size)
                      have u0 := (hbn.cell (lt_of_cell s0)).trans s0
                      have u1 := (hbn.cell (lt_of_cell s1)).trans s1
                      have HOS := Lib.hid (HMEM.out r HRM.out _ (List.getElem_mem hjx))
                      have HT : Hid ((r.right.take (j + 1)).map (renS I) = (r.right.take j).map (renS I) ++ [renS I r.right[j]]) := by show _ = _; rw [List.take_succ_eq_append_getElem hjx, List.map_append]; rfl
                      have HTON := Lib.hid (HTO9.out.keep HX.out.bel)
                      obtain ⟨⟨st, sn⟩, HSY⟩ := nameIt (r.right[j]'hjx)
                      rw [HSY.out] at u0 u1 HOS HT
                      simp only at u0 u1
                      obtain ⟨w11, HW11⟩ := nameIt (wn.alloc (.cells #[.bool st, .int .i64 sn] 42))
                      have hb11 : Below wn.heap.size wn w11 := by rw [← HW11.out]; exact (Below.refl _ _).alloc (Nat.le_refl _) _
                      have hsb11 : w11.heap[wn.heap.size]? = some (.cells #[.bool st, .int .i64 sn] 42 (0, 0)) := by rw [← HW11.out]; exact bx_new _ _ _ rfl
                      have HX11 := Lib.hid (HX.out.keep hb11)
                      have hbxn : bx < wn.heap.size := (Array.getElem?_eq_some_iff.1 HX.out.box).1
                      have hsl2 : sb < wn.heap.size := Nat.lt_of_lt_of_le hsb hbn.size
                      have HTO11 := Lib.hid (HTON.out.keep hb11)
                      subst hae
                      clear s0 s1 hb11 hbn
                      go_upto_region 27 with fail
                      rw [HW11.out]
                      clear u0 u1 HW11
                      obtain ⟨z0, z1⟩ := bx_cells2 hsb11
                      cases st with
                      | true =>
                        have hx12 := HX11.out
                        have hsb12 := hsb11
                        rw [show renS I ⟨true, sn⟩ = ⟨true, sn⟩ from rfl] at HT
                        have HX12 := Lib.hid hx12
                        have hs12 := hx12.row.le
                        obtain ⟨ys, ho, hd⟩ := HX12.out.row.own
                        rw [HNJ.out] at ho
                        have HO12 := Lib.hid ho
                        have HD12 := Lib.hid hd
                        obtain ⟨s0, s1⟩ := bx_cells2 hsb12
                        obtain ⟨k0, k1⟩ := bx_cells2 HX12.out.box
                        clear ho hd hx12 hsb12
                        go_wp2_with (at_builtin; refine wp_app1at elSym rfl _ _ rfl HO12.out rfl rfl (by simp) rfl rfl (by omega) (by unfold maxLen; omega) (by omega) ?_)
                        intro v' w' ho hg3 hat
                        have hst := HX12.out.step (s := ⟨true, sn⟩) HO12.out HD12.out HNJ.out.symm ho hg3 hat
                        obtain ⟨k2, k3⟩ := bx_cells2 hst.1
                        obtain ⟨kf2, kf3⟩ := bx_free2 hst.1
                        have hbl3 := (Array.getElem?_eq_some_iff.1 hst.1).1
                        have HN := Lib.hid hst.2
                        rw [← HT.out] at HN
                        obtain ⟨a', c', rfl, -, -⟩ := own_len ho
                        clear ho hg3 hat hst s0 s1 k0 k1
                        go_wp2_with fail
                        go_roundg (rn - (j + 1))
                        case measure => omega
                        case rel => exact ⟨j + 1, _, by omega, by omega, by go_num, HN⟩

                      | false =>
                        obtain ⟨hq1, hq2⟩ := HOS.out rfl
                        simp only at hq1 hq2
                        obtain ⟨B, rfl⟩ : ∃ B : Nat, sn = (B : Int) := ⟨sn.toNat, by omega⟩
                        rw [Int.toNat_natCast] at hq2
                        have hB0 : (0 : Int) ≤ (B : Int) := by omega
                        have hB1 : (B : Int) < (N : Int) := by omega
                        have q0 := HTO11.out.cell hq2
                        rw [show renS I ⟨false, (B : Int)⟩ = ⟨false, ((toF I B : Nat) : Int)⟩ from by unfold renS; rw [if_neg (by simp)]; rfl] at HT
                        obtain ⟨tb, HTB⟩ := nameIt ((toF I B : Nat) : Int)
                        rw [HTB.out] at q0 HT
                        have zf := (bx_free2 hsb11).2
                        have hzl := (Array.getElem?_eq_some_iff.1 hsb11).1
                        have hx12 := HX11.out.other (b := wn.heap.size) hbxn (fun k e => by have := (HXL.out k e).2; omega) 1 (.int .i64 tb)
                        have hsb12 : (w11.setCell ⟨wn.heap.size, 1, none⟩ (.int .i64 tb)).heap[wn.heap.size]? = some (.cells #[.bool false, .int .i64 tb] 42 (0, 0)) := by rw [bx_set hsb11]; rfl
                        obtain ⟨w12, HW12⟩ := nameIt (w11.setCell ⟨wn.heap.size, 1, none⟩ (.int .i64 tb))
                        rw [HW12.out] at hx12 hsb12
                        go_upto_region 29 with fail
                        rw [HW12.out]
                        clear z0 z1 zf q0 hsb11
                        have HX12 := Lib.hid hx12
                        have hs12 := hx12.row.le
                        obtain ⟨ys, ho, hd⟩ := HX12.out.row.own
                        rw [HNJ.out] at ho
                        have HO12 := Lib.hid ho
                        have HD12 := Lib.hid hd
                        obtain ⟨s0, s1⟩ := bx_cells2 hsb12
                        obtain ⟨k0, k1⟩ := bx_cells2 HX12.out.box
                        clear ho hd hx12 hsb12
                        go_wp2_with (at_builtin; refine wp_app1at elSym rfl _ _ rfl HO12.out rfl rfl (by simp) rfl rfl (by omega) (by unfold maxLen; omega) (by omega) ?_)
                        intro v' w' ho hg3 hat
                        have hst := HX12.out.step (s := ⟨false, tb⟩) HO12.out HD12.out HNJ.out.symm ho hg3 hat
                        obtain ⟨k2, k3⟩ := bx_cells2 hst.1
                        obtain ⟨kf2, kf3⟩ := bx_free2 hst.1
                        have hbl3 := (Array.getElem?_eq_some_iff.1 hst.1).1
                        have HN := Lib.hid hst.2
                        rw [← HT.out] at HN
                        obtain ⟨a', c', rfl, -, -⟩ := own_len ho
                        clear ho hg3 hat hst s0 s1 k0 k1
                        go_wp2_with fail
                        go_roundg (rn - (j + 1))
                        case measure => omega
                        case rel => exact ⟨j + 1, _, by omega, by omega, by go_num, HN⟩

                    · have hjm' : ¬ (j : Int) < (rn : Int) := by omega
                      have htk : r.right.take j = r.right := List.take_of_length_le (by rw [HRNL.out]; omega)
                      rw [htk] at HX HNJ
                      have HTIn := Lib.hid (HTI9.out.keep HX.out.bel)
                      have hrr := HX.out.row.rd
                      have HKN : Hid (trimR X I (g.rules.take (i + 1)) = trimR X I (g.rules.take i) ++ [renR I r] ∧ rulesOf X I g.rules (i + 1) = rulesOf X I g.rules i ++ [(i : Int)]) := by
                        have hk : keepR X I r = true := by rw [HKP.out]; rfl
                        exact ⟨by rw [HTN.out, if_pos hk], by rw [HRN2.out, if_pos hk]⟩
                      have HRE : Hid (renR I r = ⟨ta, r.right.map (renS I)⟩) := by show _ = _; unfold renR; rw [HLEFT.out, HTA.out]
                      obtain ⟨xs, ho, hd⟩ := HTIn.out.a
                      obtain ⟨aa, ca, hvae, hc5, hc6⟩ := own_len ho
                      subst hvae
                      unfold maxLen at hc6
                      have hkl : (trimR X I (g.rules.take i)).length ≤ 32 := by
                        have h1 := trimR_len (X := X) (I := I) (K := g.rules.take i)
                        have h2 := HOK.out.len
                        rw [List.length_take] at h1; omega
                      have hbva := (HTI9.out.a)
                      obtain ⟨xs9, ho9, _⟩ := hbva
                      have HVA9 := Lib.hid ho9.lt
                      have HVB9 := Lib.hid HTI9.out.b.lt
                      have hb7n : w7.heap.size ≤ w9.heap.size := HTI9.out.gr.size
                      have hb79 : w7.heap.size ≤ wn.heap.size := HTIn.out.gr.size
                      have hobl := HTIn.out.lt
                      obtain ⟨kl, HKL3⟩ := nameIt (trimR X I (g.rules.take i)).length
                      rw [HKL3.out] at ho hd hc5 hkl HTIn HVA9
                      rw [HKL3.out] at HTI9
                      have HOA := Lib.hid ho
                      have HDA := Lib.hid hd
                      have HRX2 := Lib.hid hrr
                      obtain ⟨x0, x1⟩ := bx_cells2 HX.out.box
                      obtain ⟨o0, o1, o2, o3⟩ := bx_cells4 HTIn.out.out
                      clear ho hd hrr htk ho9 hx1 hg2
                      go_wp2_with (at_builtin; refine wp_app1at elRule rfl _ _ rfl HOA.out rfl rfl (by simp) rfl rfl (by omega) (by unfold maxLen; omega) (by omega) ?_)
                      intro v' w' ho hg3 hat
                      have hA1' := HTIn.out.appA (x := ⟨ta, r.right.map (renS I)⟩) (u := .slice ax nj cx) (T := fun k => False ∨ bx + 1 ≤ k) HOA.out HDA.out HKL3.out.symm HRX2.out (fun k hk hlt => by
                        have hk2 : bx + 1 ≤ k := hk.resolve_left id
                        have h3 := HBXL.out
                        exact ⟨⟨by omega, fun e => by have := (HVB9.out k e).2; omega⟩, fun e => by have := (HVA9.out k e).2; omega⟩) ho hg3 hat
                      obtain ⟨a', c', rfl, -, -⟩ := own_len ho
                      have HA := Lib.hid hA1'
                      have HOB' := hA1'.b
                      rw [HML.out] at HOB'
                      have HOB2 := Lib.hid HOB'
                      have hb7' : w7.heap.size ≤ w'.heap.size := hA1'.gr.size
                      clear ho hg3 hat hA1' HOB' x0 x1 o0 o1 o2 o3
                      go_wp2_with (at_builtin; refine wp_app1at elInt2 rfl _ _ rfl HOB2.out rfl rfl (by simp) rfl rfl (by omega) (by unfold maxLen; omega) (by omega) ?_)
                      intro v2 w'' ho hg3 hat
                      have hB2 := HA.out.appB (y := (i : Int)) (by rw [HML.out]; exact ho) hg3 hat
                      obtain ⟨a2, c2, rfl, -, -⟩ := own_len ho
                      obtain ⟨o0, o1, o2, o3⟩ := bx_cells4 hB2.out
                      obtain ⟨of0, of1, of2, of3⟩ := bx_free4 hB2.out
                      have hobl2 := (Array.getElem?_eq_some_iff.1 hB2.out).1
                      have HN := Lib.hid hB2.store
                      rw [← HRE.out, ← HKN.out.1, ← HKN.out.2] at HN
                      clear ho hg3 hat hB2
                      go_wp2_with fail
                      go_roundg (rl - (i + 1))
                      case measure => omega
                      case rel => exact ⟨i + 1, _, by omega, by omega, by go_num, HN⟩
            · have hit' : ¬ (i : Int) < (rl : Int) := by omega
              have hti := HTI.out
              rw [List.take_of_length_le (by rw [HRL.out]; omega)] at hti
              obtain rfl : i = rl := by omega
              obtain ⟨xs, ho, hd⟩ := hti.a
              obtain ⟨aa, ca, hvae, hc5, hc6⟩ := own_len ho
              subst hvae
              obtain ⟨kl, HKL3⟩ := nameIt (trimR X I g.rules).length
              rw [HKL3.out] at hti ho hd hc5
              obtain ⟨o0, o1, o2, o3⟩ := bx_cells4 hti.out
              obtain ⟨y0, y1, y2, y3⟩ := bx_cells4 HRO.out
              obtain ⟨f0, f1, f2, f3⟩ := bx_free4 HRO.out
              have hrl := (Array.getElem?_eq_some_iff.1 HRO.out).1
              have hob1 := hti.lt
              have HOA := Lib.hid ho
              have HDA := Lib.hid hd
              have HOB3 := Lib.hid hti.b
              obtain ⟨hol, _, _, _, hol5⟩ := HOBL.out
              have hne1 : ¬ w.heap.size + 1 = ob := by omega
              have hne2 : ¬ ob = w.heap.size + 1 := by omega
              have HF := Lib.hid (HE3.out (by first | rfl | trivial) N S X I)
              have HNL3 : Hid (((List.range N).filter I).length = n) := by show _ = _; rw [← nons_len]; exact HNN.out
              rw [HNL3.out, HTS.out] at HF
              have hst := stored4g (wp := wo) (w := w) (b := w.heap.size + 1) (c0 := .int .i64 gt) (c1 := .int .i64 (n : Nat)) (c2 := .int .i64 ts) (c3 := .slice aa kl ca) HBO.out (by omega)
              have HST := Lib.hid hst
              clear ho hd hti hst hc6 hc5
              go_wp2_with fail
              refine bodyPost_ret (v := .tuple #[.agg #[.int .i64 gt, .int .i64 (n : Nat), .int .i64 ts, .slice aa kl ca], .slice a10 n c10, .slice a11 ml c11, .int .i64 0]) (by simp [results, Try.results8, go_sem, y0, y1, y2, y3]) rfl ?_
              refine HF.out _ _ _ _ ⟨HOK.out, HGS.out, by rw [HXS.out]; omega, HTM.out, ?_, ?_, ?_⟩ HST.out.2
              · refine rd_of_own (HOA.out.kept HST.out.1 (.inr fun e => by have h9 : w7.heap.size ≤ w.heap.size + 1 := (HOA.out.lt _ e).1; omega)) (RdAll.keep (fun k hk hlt => ⟨trivial, HST.out.1.block k hlt (fun e => by have := hk.1.1; simp at e; omega)⟩) _ _ HDA.out) (by rw [List.length_map]; exact HKL3.out) (fun _ _ => trivial)
              · exact sl_of_own (HNO.out.kept HST.out.1 (.inr fun e => by have h9 : pt + 1 ≤ w.heap.size + 1 := (HNO.out.lt _ e).1; have := HPTL.out; omega))
              · have h8 := HOB3.out
                rw [HRL.out]
                rw [HML.out] at h8
                exact sl_of_own (h8.kept HST.out.1 (.inr fun e => by have h9 : w7.heap.size ≤ w.heap.size + 1 := (HOB3.out.lt _ e).1; omega))
  · have HF := Lib.hid (HE1.out he)
    have b1 : (ck != 0) = true := by simpa using he
    obtain ⟨y0, y1, y2, y3⟩ := bx_cells4 R1.out
    obtain ⟨f0, f1, f2, f3⟩ := bx_free4 R1.out
    have hrl := HS1.out
    clear hb1
    go_wp2_with fail
    refine bodyPost_ret (v := .tuple #[.agg #[.int .i64 0, .int .i64 0, .int .i64 0, .slice none 0 0], .slice none 0 0, .slice none 0 0, .int .i64 ck]) (by simp [results, Try.results8, go_sem, y0, y1, y2, y3]) rfl ?_
    exact HF.out _ ((((((HB0.out.trans (HB1.out.mono HB0.out.size)).setCell (by show w.heap.size ≤ w.heap.size + 1; omega) _).setCell (by show w.heap.size ≤ w.heap.size + 1; omega) _).setCell (by show w.heap.size ≤ w.heap.size + 1; omega) _).setCell (by show w.heap.size ≤ w.heap.size + 1; omega) _))
end Gr
end Go.Proofs.Ytmbjnemahgfhcaa
