/- draw.Tree. Plain: what the second implementation lists: all trees, if there are not too many, or too high. Maps that are sets: only 'true' is stored. Keys of rules, as RuleFault makes them: plain law. The contract of RuleFault: it is gram.Check's. Items as keys of a map. A row of the call's own that is also cut at its front: append to it. The lengths of words: two ways to reckon them, in plain Lean. -/
import Derived.Test.YtbnpemgmdnghgaaJDrawTreesRow10
import Derived.Test.YtbnpemgmdnghgaaJDrawTreesRow2
import Derived.Test.YtbnpemgmdnghgaaJDrawTreesRow1
import Derived.Maps.OwnSet
import Derived.Maps.Views
import Derived.Test.YtbnpemgmdnghgaaJDrawTreesRow4
import Derived.DeepKeys4
namespace Go.Proofs.Ytbnpemgmdnghgaa
open Go.RowKit
namespace Cs

set_option maxHeartbeats 8000000 in
set_option maxRecDepth 100000 in
theorem drawTreeE (g : Gram) (ra : Option Addr) (rcap : Nat) (nn : Int) (vl : Value) (l : List Bool) (w : World) (hr : Rd AnyB w (.sl (g.rules.map Rule.d)) [.slice ra g.rules.length rcap]) (hv : Sl w vl (bools l)) (hL : l.length ≤ 140737488355328) :
    Calls Try.prog 21 #[.agg #[.int .i64 g.terms, .int .i64 g.nons, .int .i64 g.start, .slice ra g.rules.length rcap], .int .i64 nn, vl] w (DtPost g nn l w) := by
  obtain ⟨w0, HW0⟩ := nameIt ((w.alloc (.cells #[.int .i64 g.terms, .int .i64 g.nons, .int .i64 g.start, .slice ra g.rules.length rcap] 24)).alloc (.cells #[.int .i64 0, .int .i64 0, .slice none 0 0] 42))
  have hb0 : Below w.heap.size w w0 := by rw [← HW0.out]; exact ((Below.refl _ _).alloc (Nat.le_refl _) _).alloc (by simp) _
  have X0 : Hid (w0.heap[w.heap.size]? = some (.cells #[.int .i64 g.terms, .int .i64 g.nons, .int .i64 g.start, .slice ra g.rules.length rcap] 24 (0, 0))) := by rw [← HW0.out]; exact bx_keep (bx_new _ _ _ rfl) ((Below.refl _ _).alloc (Nat.le_refl _) _)
  have R0 : Hid (w0.heap[w.heap.size + 1]? = some (.cells #[.int .i64 0, .int .i64 0, .slice none 0 0] 42 (0, 0))) := by rw [← HW0.out]; exact bx_new _ _ _ (by simp)
  have HCN := Lib.hid (rankCountE g ra rcap nn w0 (hr.below hb0))
  obtain ⟨al, cl, rfl, hlc, hc, -⟩ := id hv
  rw [bools_len] at hlc hv ⊢
  have HNUM : Hid (∀ (x : Int) W, Below w0.heap.size w0 W → 1 ≤ x → x ≤ 1000000000 → Calls Try.prog 43 #[.int .i64 x, .slice al l.length cl] W fun e w' => e = .returned (numRes (Draw.num x.toNat l)) ∧ W = w') :=
    fun x W hb h1 h2 => number x _ l W ((hv.keep hb0).keep hb) hL h1 h2
  obtain ⟨PST, HP⟩ := nameIt (DtPost g nn l w)
  rw [HP.out]
  have HERR : Hid (∀ w' (c : Int), Below w0.heap.size w0 w' → (∀ W, DtV g nn l 0 0 (.slice none 0 0) 0 c W) → PST (.returned (.tuple #[.agg #[.int .i64 0, .int .i64 0, .slice none 0 0], .int .i64 0, .int .i64 c])) (((w'.setCell ⟨w.heap.size + 1, 0, none⟩ (.int .i64 0)).setCell ⟨w.heap.size + 1, 1, none⟩ (.int .i64 0)).setCell ⟨w.heap.size + 1, 2, none⟩ (.slice none 0 0))) := by
    intro w' c hb hv
    rw [← HP.out]
    exact ⟨below_box3 (hb0.trans (hb.mono hb0.size)) (by omega) _ _ _, 0, 0, _, _, _, 0, c, rfl, hv _⟩
  have HRT : Hid (∀ (N n x u : Nat) (S : Nat → Nat → Bool), errC g nn = 0 → OkC g N → nn = (n : Int) → n ≤ 24 → DoneC g n S → startC g S N n ≠ -1 → startC g S N n < MaxC → Draw.num (startC g S N n).toNat l = some (x, u) → 0 < startC g S N n →
      ∃ t : Tree, (∀ W, Below w0.heap.size w0 W → Calls Try.prog 26 #[.agg #[.int .i64 g.terms, .int .i64 g.nons, .int .i64 g.start, .slice ra g.rules.length rcap], .int .i64 nn, .int .i64 (x : Int)] W (fun e w' => ∃ v, e = .returned (.tuple #[.agg #[.int .i64 t.rule, .int .i64 t.term, v], .int .i64 0]) ∧ Rd (fun k => W.heap.size ≤ k) w' (.sl (t.kids.map Tree.d)) [v] ∧ Below W.heap.size W w')) ∧
        ∀ (w' : World) (a : Option Addr) (m c : Nat) (W3 : World), Below w0.heap.size w0 w' → Below w.heap.size w W3 → Rd AnyB W3 (.sl (t.kids.map Tree.d)) [.slice a m c] → PST (.returned (.tuple #[.agg #[.int .i64 t.rule, .int .i64 t.term, .slice a m c], .int .i64 (u : Int), .int .i64 0])) W3) := by
    intro N n x u S he hok hnn h24 hd h1 h2 hnum h0
    have hx : (x : Int) < startC g S N n := by have := (Draw.num_lt hnum).1; omega
    have hst := (start_val hok h1 h2).1
    have hl : x < (SE g S N n ⟨false, g.start⟩ n).length := by omega
    refine ⟨(SE g S N n ⟨false, g.start⟩ n)[x], ?_, ?_⟩
    · intro W hb
      subst hnn
      obtain ⟨t, ht, hc⟩ := rankTree_at g ra rcap N n x S W ((hr.below hb0).below hb) hok he hd h1 h2 hx
      rw [List.getElem?_eq_getElem hl] at ht
      cases ht
      exact hc
    · intro w' a m c W3 _ hb3 hrd
      rw [← HP.out]
      exact ⟨hb3, _, _, a, m, c, _, _, rfl, .inr ⟨he, N, n, S, hok, hnn, h24, hd, .inr (.inr ⟨h1, h2, .inr ⟨h0, .inr ⟨x, u, _, hnum, rfl, rfl, List.getElem?_eq_getElem hl, rfl, rfl, hrd⟩⟩⟩)⟩⟩
  have HV : Hid (∀ (N n : Nat) (S : Nat → Nat → Bool), errC g nn = 0 → OkC g N → nn = (n : Int) → n ≤ 24 → DoneC g n S → (startC g S N n = -1 → ∀ W, DtV g nn l 0 0 (.slice none 0 0) 0 9 W) ∧ (startC g S N n ≠ -1 → MaxC ≤ startC g S N n → ∀ W, DtV g nn l 0 0 (.slice none 0 0) 0 2 W) ∧
      (startC g S N n ≠ -1 → startC g S N n < MaxC → (startC g S N n = 0 → ∀ W, DtV g nn l 0 0 (.slice none 0 0) 0 10 W) ∧ (0 < startC g S N n → Draw.num (startC g S N n).toNat l = none → ∀ W, DtV g nn l 0 0 (.slice none 0 0) 0 5 W))) :=
    fun N n S h1 h2 h3 h4 h5 => ⟨fun h W => .inr ⟨h1, N, n, S, h2, h3, h4, h5, .inl ⟨h, rfl, rfl⟩⟩, fun h h' W => .inr ⟨h1, N, n, S, h2, h3, h4, h5, .inr (.inl ⟨h, h', rfl, rfl⟩)⟩,
      fun h h' => ⟨fun hz W => .inr ⟨h1, N, n, S, h2, h3, h4, h5, .inr (.inr ⟨h, h', .inl ⟨hz, rfl, rfl⟩⟩)⟩, fun hp hn W => .inr ⟨h1, N, n, S, h2, h3, h4, h5, .inr (.inr ⟨h, h', .inr ⟨hp, .inl ⟨hn, rfl, rfl⟩⟩⟩)⟩⟩⟩
  have HV1 : Hid (errC g nn ≠ 0 → ∀ W, DtV g nn l 0 0 (.slice none 0 0) 0 (errC g nn) W) := fun h W => .inl ⟨h, rfl, rfl⟩
  obtain ⟨gt, HGT⟩ := nameIt g.terms
  obtain ⟨gn, HGN⟩ := nameIt g.nons
  obtain ⟨gs, HGS⟩ := nameIt g.start
  obtain ⟨rl, HRL⟩ := nameIt g.rules.length
  obtain ⟨ll, HLL⟩ := nameIt l.length
  rw [HGT.out, HGN.out, HGS.out, HRL.out] at HW0 X0 HCN
  simp only [HGT.out, HGN.out, HGS.out, HRL.out] at HRT
  simp only [HLL.out] at HNUM
  rw [HGT.out, HGN.out, HGS.out, HRL.out, HLL.out]
  have HGB : Hid (∀ W', Below w0.heap.size w0 W' → W'.cell? ⟨w.heap.size, 0, none⟩ = some (.int .i64 gt) ∧ W'.cell? ⟨w.heap.size, 0 + 1, none⟩ = some (.int .i64 gn) ∧ W'.cell? ⟨w.heap.size, 0 + 2, none⟩ = some (.int .i64 gs) ∧ W'.cell? ⟨w.heap.size, 0 + 3, none⟩ = some (.slice ra rl rcap)) := fun W' h => bx_cells4 (bx_keep X0.out h)
  have HRB : Hid (∀ W', Below w0.heap.size w0 W' → W'.heap[w.heap.size + 1]? = some (.cells #[.int .i64 0, .int .i64 0, .slice none 0 0] 42 (0, 0))) := fun W' h => bx_keep R0.out h
  have HB0 := Lib.hid hb0
  obtain ⟨gb, HGBN⟩ := nameIt w.heap.size
  have HGBE : Hid (w.heap.size ≤ gb) := by show _ ≤ _; rw [HGBN.out]; exact Nat.le_refl _
  rw [HGBN.out] at HERR HGB HRB
  obtain ⟨rb, HRBN⟩ := nameIt (gb + 1)
  have HRBE : Hid (w.heap.size ≤ rb) := by show _ ≤ _; rw [← HRBN.out]; have := HGBE.out; omega
  rw [HRBN.out] at HERR HRB
  obtain ⟨x0, x1, x2, x3⟩ := HGB.out w0 (Below.refl _ _)
  clear hr hb0 HP X0 R0 hv
  go_enter Try.func21, Try.ntmps21
  go_upto_region 1 with fail
  rw [HW0.out, HGBN.out]
  rw [HRBN.out]
  go_wp2_with fail
  with_reducible refine HCN.out.mono ?_
  clear x0 x1 x2 x3
  rintro e w3 ⟨hb3, ⟨h1, rfl⟩ | ⟨h1, N, n, S, h2, h3, h4, h5, ⟨h6, rfl⟩ | ⟨h6, h7, rfl⟩ | ⟨h6, h7, rfl⟩⟩⟩
  · have HBX := Lib.hid hb3
    have HF := Lib.hid (HERR.out w3 _ hb3 (HV1.out h1))
    obtain ⟨c, HC⟩ := nameIt (errC g nn)
    rw [HC.out] at HF h1
    rw [HC.out]
    have hc' : (c != 0) = true := by simpa using h1
    clear h1 hb3 HERR HRT HV1 HV
    obtain ⟨y0, y1, y2⟩ := bx_cells3 (HRB.out _ HBX.out)
    obtain ⟨f0, f1, f2⟩ := bx_free3 (HRB.out _ HBX.out)
    go_wp2_with fail
    refine bodyPost_ret (v := .tuple #[.agg #[.int .i64 0, .int .i64 0, .slice none 0 0], .int .i64 0, .int .i64 c]) (by simp [results, Try.results21, go_sem, y0, y1, y2]) rfl ?_
    simpa using HF.out
  · have HBX := Lib.hid hb3
    have HF := Lib.hid (HERR.out w3 _ hb3 ((HV.out N n S h1 h2 h3 h4 h5).1 h6))
    clear h1 h2 h3 h4 h5 h6 hb3 HERR HRT HV1 HV
    obtain ⟨y0, y1, y2⟩ := bx_cells3 (HRB.out _ HBX.out)
    obtain ⟨f0, f1, f2⟩ := bx_free3 (HRB.out _ HBX.out)
    go_wp2_with fail
    refine bodyPost_ret (v := .tuple #[.agg #[.int .i64 0, .int .i64 0, .slice none 0 0], .int .i64 0, .int .i64 9]) (by simp [results, Try.results21, go_sem, y0, y1, y2]) rfl ?_
    simpa using HF.out
  · have HBX := Lib.hid hb3
    have HF := Lib.hid (HERR.out w3 _ hb3 ((HV.out N n S h1 h2 h3 h4 h5).2.1 h6 h7))
    clear h1 h2 h3 h4 h5 h6 h7 hb3 HERR HRT HV1 HV
    obtain ⟨y0, y1, y2⟩ := bx_cells3 (HRB.out _ HBX.out)
    obtain ⟨f0, f1, f2⟩ := bx_free3 (HRB.out _ HBX.out)
    go_wp2_with fail
    refine bodyPost_ret (v := .tuple #[.agg #[.int .i64 0, .int .i64 0, .slice none 0 0], .int .i64 0, .int .i64 2]) (by simp [results, Try.results21, go_sem, y0, y1, y2]) rfl ?_
    simpa using HF.out
  · have HBX := Lib.hid hb3
    have hnn := start_nn h2 h6 h7
    have hRT := fun x u => HRT.out N n x u S h1 h2 h3 h4 h5 h6 h7
    obtain ⟨hz, hp⟩ := (HV.out N n S h1 h2 h3 h4 h5).2.2 h6 h7
    obtain ⟨st, HST⟩ := nameIt (startC g S N n)
    simp only [HST.out] at hRT hz hp hnn h7
    rw [HST.out]
    have hst9 : st ≤ 1000000000 := by unfold MaxC at h7; omega
    by_cases hs0 : st = 0
    · subst hs0
      have HF := Lib.hid (HERR.out w3 _ hb3 (hz rfl))
      clear h1 h2 h3 h4 h5 h6 h7 hb3 HERR HRT HV1 HV hRT hz hp HST hnn hst9
      obtain ⟨y0, y1, y2⟩ := bx_cells3 (HRB.out _ HBX.out)
      obtain ⟨f0, f1, f2⟩ := bx_free3 (HRB.out _ HBX.out)
      go_wp2_with fail
      refine bodyPost_ret (v := .tuple #[.agg #[.int .i64 0, .int .i64 0, .slice none 0 0], .int .i64 0, .int .i64 10]) (by simp [results, Try.results21, go_sem, y0, y1, y2]) rfl ?_
      simpa using HF.out
    · have hs0' : (st == 0) = false := by simpa using hs0
      have hs1 : 1 ≤ st := by omega
      have HNUM1 := Lib.hid (HNUM.out st w3 hb3 hs1 hst9)
      cases hnum : Draw.num st.toNat l with
      | none =>
        rw [hnum] at HNUM1
        simp only [numRes] at HNUM1
        have HF := Lib.hid (HERR.out w3 _ hb3 (hp (by omega) hnum))
        clear h1 h2 h3 h4 h5 h6 h7 hb3 HERR HRT HV1 HV hRT hz hp HST hnn hst9 hnum
        go_wp2_with fail
        refine HNUM1.out.mono ?_
        rintro e w' ⟨rfl, rfl⟩
        obtain ⟨y0, y1, y2⟩ := bx_cells3 (HRB.out _ HBX.out)
        obtain ⟨f0, f1, f2⟩ := bx_free3 (HRB.out _ HBX.out)
        go_wp2_with fail
        refine bodyPost_ret (v := .tuple #[.agg #[.int .i64 0, .int .i64 0, .slice none 0 0], .int .i64 0, .int .i64 5]) (by simp [results, Try.results21, go_sem, y0, y1, y2]) rfl ?_
        simpa using HF.out
      | some xu =>
        obtain ⟨x, u⟩ := xu
        rw [hnum] at HNUM1
        simp only [numRes] at HNUM1
        obtain ⟨t, htr, hok⟩ := hRT x u hnum (by omega)
        have HTR := Lib.hid (htr w3 hb3)
        have HOK := Lib.hid hok
        obtain ⟨x0, x1, x2, x3⟩ := HGB.out w3 hb3
        clear h1 h2 h3 h4 h5 h6 h7 hb3 HERR HRT HV1 HV hRT hz hp HST hnn hst9 hnum htr hok
        go_wp2_with fail
        refine HNUM1.out.mono ?_
        rintro e w' ⟨rfl, rfl⟩
        go_wp2_with fail
        with_reducible refine HTR.out.mono ?_
        rintro e w4 ⟨v4, rfl, hrd4, hb4⟩
        have HB4 := Lib.hid (HBX.out.trans (hb4.mono HBX.out.size))
        have HRD4 := Lib.hid hrd4
        obtain ⟨a4, c4, rfl, -, -⟩ := hrd4.form
        rw [List.length_map] at HRD4
        rw [List.length_map]
        obtain ⟨tr, HTRN⟩ := nameIt t.rule
        obtain ⟨tm, HTMN⟩ := nameIt t.term
        obtain ⟨tk, HTK⟩ := nameIt t.kids.length
        rw [HTK.out] at HRD4
        rw [HTRN.out, HTMN.out, HTK.out]
        obtain ⟨w5, HW5⟩ := nameIt (w4.alloc (.cells #[.int .i64 tr, .int .i64 tm, .slice a4 tk c4] 42))
        have HB45 : Hid (Below w4.heap.size w4 w5) := by rw [← HW5.out]; exact (Below.refl _ _).alloc (Nat.le_refl _) _
        have HB5 := Lib.hid (HB4.out.trans (HB45.out.mono HB4.out.size))
        have X5 : Hid (w5.heap[w4.heap.size]? = some (.cells #[.int .i64 tr, .int .i64 tm, .slice a4 tk c4] 42 (0, 0))) := by rw [← HW5.out]; exact bx_new _ _ _ rfl
        have HRD5 := Lib.hid (HRD4.out.below HB45.out)
        obtain ⟨tb, HTB⟩ := nameIt w4.heap.size
        rw [HTB.out] at X5
        clear hrd4 hb4 x0 x1 x2 x3
        go_upto_region 10 with fail
        rw [HW5.out, HTB.out]
        obtain ⟨z0, z1, z2⟩ := bx_cells3 X5.out
        obtain ⟨y0, y1, y2⟩ := bx_cells3 (HRB.out _ HB5.out)
        obtain ⟨f0, f1, f2⟩ := bx_free3 (HRB.out _ HB5.out)
        go_wp2_with fail
        refine bodyPost_ret (v := .tuple #[.agg #[.int .i64 tr, .int .i64 tm, .slice a4 tk c4], .int .i64 (u : Int), .int .i64 0]) (by simp [results, Try.results21, go_sem, y0, y1, y2]) rfl ?_
        have HW3 := below_box3 (HB0.out.trans (HB5.out.mono HB0.out.size)) HRBE.out (.int .i64 tr) (.int .i64 tm) (.slice a4 tk c4)
        have hrl := (Array.getElem?_eq_some_iff.1 (HRB.out _ HBX.out)).1
        have hq := HOK.out w5 a4 tk c4 _ HB5.out HW3 ((Rd.box3 (b := rb) (HRD5.out.mono (S' := fun k => k ≠ rb) fun k hk _ e => by subst e; exact absurd hrl (Nat.not_lt.2 hk)) (by simp) _ _ _).any)
        rw [HTRN.out, HTMN.out] at hq
        simpa using hq
end Cs
end Go.Proofs.Ytbnpemgmdnghgaa
namespace Go.Proofs.Ytbnpemgmdnghgaa
open Go.RowKit
namespace Cs

def lsStep (most : Nat) (out : List (List Tree)) (a : Option (List Tree)) (b : Option (List (List Tree))) : Option (List (List Tree)) :=
  match a, b with
  | some a, some b => if most < (out ++ prodL a b).length then none else some (out ++ prodL a b)
  | _, _ => none
def lsL (H : Nat → Nat → Bool) (most : Nat) (o : Sym → Nat → Option (List Tree)) : List Sym → Nat → Option (List (List Tree))
  | [], k => if k = 0 then some [[]] else none
  | s :: l, k => (List.range (k + 1)).foldl (fun acc j => acc.bind fun out => if (hasK H s j && canK H l (k - j)) = true then lsStep most out (o s j) (lsL H most o l (k - j)) else some out) (some [])
def lsR (H : Nat → Nat → Bool) (most : Nat) (o : Sym → Nat → Option (List Tree)) (A : Int) (k : Nat) : List Rule → Nat → List Tree → Option (List Tree)
  | [], _, out => some out
  | r :: rs, j, out => if (decide (r.left = A) && canK H r.right k) = true then
      (match lsL H most o r.right k with
       | none => none
       | some b => if most < (out ++ b.map fun ks => Tree.node (j : Int) 0 ks).length then none else lsR H most o A k rs (j + 1) (out ++ b.map fun ks => Tree.node (j : Int) 0 ks))
    else lsR H most o A k rs (j + 1) out
def lsT (H : Nat → Nat → Bool) (most : Nat) (rules : List Rule) : Nat → Sym → Nat → Option (List Tree)
  | 0, s, k => if s.term then some (if k = 1 then [.node (-1) s.n []] else []) else none
  | d + 1, s, k => if s.term then some (if k = 1 then [.node (-1) s.n []] else []) else lsR H most (lsT H most rules d) s.n k rules 0 []
theorem lsStep_some {most : Nat} {out R : List (List Tree)} {a : Option (List Tree)} {b : Option (List (List Tree))} (h : lsStep most out a b = some R) : ∃ x y, a = some x ∧ b = some y ∧ R = out ++ prodL x y ∧ R.length ≤ most := by
  cases a with
  | none => simp [lsStep] at h
  | some x =>
    cases b with
    | none => simp [lsStep] at h
    | some y =>
      unfold lsStep at h
      simp only at h
      by_cases hm : most < (out ++ prodL x y).length
      · rw [if_pos hm] at h; cases h
      · rw [if_neg hm] at h
        cases h
        exact ⟨x, y, rfl, rfl, rfl, by omega⟩
/-- the first lengths -/
def lsF (H : Nat → Nat → Bool) (most : Nat) (o : Sym → Nat → Option (List Tree)) (s : Sym) (l : List Sym) (k m : Nat) : Option (List (List Tree)) := (List.range m).foldl (fun acc j => acc.bind fun out => if (hasK H s j && canK H l (k - j)) = true then lsStep most out (o s j) (lsL H most o l (k - j)) else some out) (some [])
theorem lsF_zero {H : Nat → Nat → Bool} {most : Nat} {o : Sym → Nat → Option (List Tree)} {s : Sym} {l : List Sym} {k : Nat} : lsF H most o s l k 0 = some [] := rfl
theorem lsF_next {H : Nat → Nat → Bool} {most : Nat} {o : Sym → Nat → Option (List Tree)} {s : Sym} {l : List Sym} {k m : Nat} : lsF H most o s l k (m + 1) = (lsF H most o s l k m).bind fun out => if (hasK H s m && canK H l (k - m)) = true then lsStep most out (o s m) (lsL H most o l (k - m)) else some out := by
  unfold lsF; rw [List.range_succ, List.foldl_append]; rfl
theorem lsL_F {H : Nat → Nat → Bool} {most : Nat} {o : Sym → Nat → Option (List Tree)} {s : Sym} {l : List Sym} {k : Nat} : lsL H most o (s :: l) k = lsF H most o s l k (k + 1) := by rw [lsL]; rfl
theorem lsF_none {H : Nat → Nat → Bool} {most : Nat} {o : Sym → Nat → Option (List Tree)} {s : Sym} {l : List Sym} {k m m' : Nat} (h : lsF H most o s l k m = none) (hm : m ≤ m') : lsF H most o s l k m' = none := by
  induction m' with
  | zero => obtain rfl : m = 0 := by omega
            exact h
  | succ m' ih =>
    by_cases e : m = m' + 1
    · subst e; exact h
    · rw [lsF_next, ih (by omega)]; rfl
theorem enL_zero {H : Nat → Nat → Bool} {e : Sym → Nat → List Tree} : ∀ (l : List Sym) (k : Nat), canK H l k = false → enL H e l k = []
  | [], k, h => by
    unfold canK at h
    unfold enL
    rw [if_neg (by simpa using h)]
  | s :: l, k, h => by
    rw [enL]
    rw [List.flatMap_eq_nil_iff]
    intro i hi
    rw [if_neg]
    intro c
    rw [Bool.and_eq_true] at c
    have : canK H (s :: l) k = true := canK_cons.2 ⟨i, by have := List.mem_range.1 hi; omega, c.1, c.2⟩
    rw [this] at h; cases h
theorem lsL_enO {H : Nat → Nat → Bool} {most : Nat} {o : Sym → Nat → Option (List Tree)} {e : Sym → Nat → List Tree} : ∀ (l : List Sym), (∀ s ∈ l, ∀ j L, hasK H s j = true → o s j = some L → L = e s j) → ∀ (k : Nat) (R : List (List Tree)), lsL H most o l k = some R → R = enL H e l k
  | [], _, k, R, h => by
    unfold lsL at h
    unfold enL
    by_cases hk : k = 0
    · rw [if_pos hk] at h ⊢; cases h; rfl
    · rw [if_neg hk] at h; cases h
  | s :: l, ho, k, R, h => by
    rw [lsL_F] at h
    rw [enL_pre]
    have key : ∀ m R, lsF H most o s l k m = some R → R = pre H e s l k m := by
      intro m
      induction m with
      | zero => intro R h; rw [lsF_zero] at h; cases h; rfl
      | succ m ih =>
        intro R h
        rw [lsF_next] at h
        cases h0 : lsF H most o s l k m with
        | none => rw [h0] at h; cases h
        | some out =>
          rw [h0] at h
          simp only [Option.bind_some] at h
          rw [pre_next, ← ih out h0]
          unfold blk
          by_cases c : (hasK H s m && canK H l (k - m)) = true
          · rw [if_pos c] at h ⊢
            obtain ⟨x, y, hx, hy, rfl, _⟩ := lsStep_some h
            rw [Bool.and_eq_true] at c
            rw [ho s List.mem_cons_self m x c.1 hx, lsL_enO l (fun s' hs' => ho s' (List.mem_cons_of_mem _ hs')) (k - m) y hy]
          · rw [if_neg c] at h ⊢
            cases h
            simp
    exact key _ _ h
theorem lsR_enO {H : Nat → Nat → Bool} {most : Nat} (rules : List Rule) (hn : ∀ r ∈ rules, ∀ s ∈ r.right, s.term = false → 0 ≤ s.n) {d : Nat} (ih : ∀ (s : Sym) (k : Nat) (L : List Tree), (s.term = false → 0 ≤ s.n) → hasK H s k = true → lsT H most rules d s k = some L → L = symE H (enF rules H d) s k) {A : Int} {k : Nat} : ∀ (rs : List Rule), (∀ r ∈ rs, r ∈ rules) → ∀ (j : Nat) (out L : List Tree), lsR H most (lsT H most rules d) A k rs j out = some L → L = out ++ enR H (symE H (enF rules H d)) A k rs j
  | [], _, j, out, L, h => by unfold lsR at h; cases h; simp [enR]
  | r :: rs, hrs, j, out, L, h => by
    rw [lsR] at h
    rw [enR]
    by_cases c : (decide (r.left = A) && canK H r.right k) = true
    · rw [if_pos c] at h
      rw [Bool.and_eq_true, decide_eq_true_eq] at c
      rw [if_pos c.1]
      cases hb : lsL H most (lsT H most rules d) r.right k with
      | none => rw [hb] at h; cases h
      | some b =>
        rw [hb] at h
        simp only at h
        by_cases hm : most < (out ++ b.map fun ks => Tree.node (j : Int) 0 ks).length
        · rw [if_pos hm] at h; cases h
        · rw [if_neg hm] at h
          rw [lsR_enO rules hn ih rs (fun r' h' => hrs r' (List.mem_cons_of_mem _ h')) (j + 1) _ L h, lsL_enO r.right (fun s hs j' L' h1 h2 => ih s j' L' (hn r (hrs r List.mem_cons_self) s hs) h1 h2) _ _ hb, List.append_assoc]
    · rw [if_neg c] at h
      have hz : (if r.left = A then (enL H (symE H (enF rules H d)) r.right k).map fun ks => Tree.node (j : Int) 0 ks else []) = [] := by
        by_cases hl : r.left = A
        · rw [if_pos hl]
          have hc : canK H r.right k = false := by
            cases hc : canK H r.right k with
            | false => rfl
            | true => rw [hc] at c; simp [hl] at c
          rw [enL_zero _ _ hc]; rfl
        · rw [if_neg hl]
      rw [hz, List.nil_append]
      exact lsR_enO rules hn ih rs (fun r' h' => hrs r' (List.mem_cons_of_mem _ h')) (j + 1) out L h
theorem lsT_en {H : Nat → Nat → Bool} {most : Nat} {rules : List Rule} (hn : ∀ r ∈ rules, ∀ s ∈ r.right, s.term = false → 0 ≤ s.n) : ∀ (d : Nat) (s : Sym) (k : Nat) (L : List Tree), (s.term = false → 0 ≤ s.n) → hasK H s k = true → lsT H most rules d s k = some L → L = symE H (enF rules H d) s k := by
  intro d
  have hterm : ∀ (d : Nat) (s : Sym) (k : Nat) (L : List Tree), s.term = true → hasK H s k = true → lsT H most rules d s k = some L → L = symE H (enF rules H d) s k := by
    intro d s k L ht hh h
    have hk : k = 1 := by unfold hasK at hh; rw [ht] at hh; simpa using hh
    have h1 : lsT H most rules d s k = some (if k = 1 then [.node (-1) s.n []] else []) := by cases d <;> (unfold lsT; rw [ht]; rfl)
    rw [h1, if_pos hk] at h
    cases h
    unfold symE
    rw [if_neg (by rw [hh]; decide), ht]
    rfl
  induction d with
  | zero =>
    intro s k L hs hh h
    cases ht : s.term with
    | true => exact hterm 0 s k L ht hh h
    | false => unfold lsT at h; rw [ht] at h; cases h
  | succ d ih =>
    intro s k L hs hh h
    cases ht : s.term with
    | true => exact hterm (d + 1) s k L ht hh h
    | false =>
      rw [lsT, ht] at h
      simp only [Bool.false_eq_true, if_false] at h
      have hS : H s.n.toNat k = true := by unfold hasK at hh; rw [ht] at hh; simpa using hh
      have hl := lsR_enO rules hn ih rules (fun r hr => hr) 0 [] L h
      rw [hl, List.nil_append]
      have he : symE H (enF rules H (d + 1)) s k = enF rules H (d + 1) s.n.toNat k := by
        unfold symE
        rw [if_neg (by rw [hh]; decide), ht]
        rfl
      rw [he, enF, if_neg (by rw [hS]; decide), Int.toNat_of_nonneg (hs ht)]
theorem lsL_mono {H : Nat → Nat → Bool} {most : Nat} {o o' : Sym → Nat → Option (List Tree)} (ho : ∀ s j L, o s j = some L → o' s j = some L) : ∀ (l : List Sym) (k : Nat) (R : List (List Tree)), lsL H most o l k = some R → lsL H most o' l k = some R
  | [], k, R, h => h
  | s :: l, k, R, h => by
    rw [lsL_F] at h ⊢
    have key : ∀ m R, lsF H most o s l k m = some R → lsF H most o' s l k m = some R := by
      intro m
      induction m with
      | zero => intro R h; exact h
      | succ m ih =>
        intro R h
        rw [lsF_next] at h ⊢
        cases h0 : lsF H most o s l k m with
        | none => rw [h0] at h; cases h
        | some out =>
          rw [h0] at h
          rw [ih out h0]
          simp only [Option.bind_some] at h ⊢
          by_cases c : (hasK H s m && canK H l (k - m)) = true
          · rw [if_pos c] at h ⊢
            obtain ⟨x, y, hx, hy, rfl, hm⟩ := lsStep_some h
            rw [ho s m x hx, lsL_mono ho l (k - m) y hy]
            unfold lsStep
            simp only
            rw [if_neg (by omega)]
          · rw [if_neg c] at h ⊢
            exact h
    exact key _ _ h
theorem lsR_mono {H : Nat → Nat → Bool} {most : Nat} {o o' : Sym → Nat → Option (List Tree)} (ho : ∀ s j L, o s j = some L → o' s j = some L) {A : Int} {k : Nat} : ∀ (rs : List Rule) (j : Nat) (out L : List Tree), lsR H most o A k rs j out = some L → lsR H most o' A k rs j out = some L
  | [], j, out, L, h => h
  | r :: rs, j, out, L, h => by
    rw [lsR] at h ⊢
    by_cases c : (decide (r.left = A) && canK H r.right k) = true
    · rw [if_pos c] at h ⊢
      cases hb : lsL H most o r.right k with
      | none => rw [hb] at h; cases h
      | some b =>
        rw [hb] at h
        rw [lsL_mono ho _ _ _ hb]
        simp only at h ⊢
        by_cases hm : most < (out ++ b.map fun ks => Tree.node (j : Int) 0 ks).length
        · rw [if_pos hm] at h; cases h
        · rw [if_neg hm] at h ⊢
          exact lsR_mono ho rs (j + 1) _ L h
    · rw [if_neg c] at h ⊢
      exact lsR_mono ho rs (j + 1) out L h
theorem lsT_mono {H : Nat → Nat → Bool} {most : Nat} {rules : List Rule} : ∀ (d : Nat) (s : Sym) (k : Nat) (L : List Tree), lsT H most rules d s k = some L → lsT H most rules (d + 1) s k = some L
  | 0, s, k, L, h => by
    unfold lsT at h
    cases ht : s.term with
    | true => rw [ht] at h; unfold lsT; rw [ht]; exact h
    | false => rw [ht] at h; cases h
  | d + 1, s, k, L, h => by
    rw [lsT] at h ⊢
    cases ht : s.term with
    | true => rw [ht] at h; exact h
    | false =>
      rw [ht] at h
      simp only [Bool.false_eq_true, if_false] at h ⊢
      exact lsR_mono (fun s j L h => lsT_mono d s j L h) _ _ _ _ h
theorem lsT_le {H : Nat → Nat → Bool} {most : Nat} {rules : List Rule} {d d' : Nat} (hd : d ≤ d') {s : Sym} {k : Nat} {L : List Tree} (h : lsT H most rules d s k = some L) : lsT H most rules d' s k = some L := by
  induction d' with
  | zero => obtain rfl : d = 0 := by omega
            exact h
  | succ d' ih =>
    by_cases e : d = d' + 1
    · subst e; exact h
    · exact lsT_mono _ _ _ _ (ih (by omega))
theorem lsR_len {H : Nat → Nat → Bool} {most : Nat} {o : Sym → Nat → Option (List Tree)} {A : Int} {k : Nat} : ∀ (rs : List Rule) (j : Nat) (out L : List Tree), out.length ≤ most → lsR H most o A k rs j out = some L → L.length ≤ most
  | [], j, out, L, h0, h => by unfold lsR at h; cases h; exact h0
  | r :: rs, j, out, L, h0, h => by
    rw [lsR] at h
    by_cases c : (decide (r.left = A) && canK H r.right k) = true
    · rw [if_pos c] at h
      cases hb : lsL H most o r.right k with
      | none => rw [hb] at h; cases h
      | some b =>
        rw [hb] at h
        simp only at h
        by_cases hm : most < (out ++ b.map fun ks => Tree.node (j : Int) 0 ks).length
        · rw [if_pos hm] at h; cases h
        · rw [if_neg hm] at h
          exact lsR_len rs (j + 1) _ L (by omega) h
    · rw [if_neg c] at h
      exact lsR_len rs (j + 1) out L h0 h
theorem lsT_len {H : Nat → Nat → Bool} {most : Nat} {rules : List Rule} (hm : 1 ≤ most) : ∀ (d : Nat) (s : Sym) (k : Nat) (L : List Tree), lsT H most rules d s k = some L → L.length ≤ most := by
  intro d s k L h
  have ht : s.term = true → lsT H most rules d s k = some (if k = 1 then [.node (-1) s.n []] else []) := fun h2 => by cases d <;> (unfold lsT; rw [h2]; rfl)
  cases hs : s.term with
  | true =>
    rw [ht hs] at h
    cases h
    split <;> simp <;> omega
  | false =>
    cases d with
    | zero => unfold lsT at h; rw [hs] at h; cases h
    | succ d =>
      unfold lsT at h
      rw [hs] at h
      exact lsR_len _ _ _ _ (by simp) h
theorem lsF_len {H : Nat → Nat → Bool} {most : Nat} {o : Sym → Nat → Option (List Tree)} {s : Sym} {l : List Sym} {k : Nat} : ∀ m R, lsF H most o s l k m = some R → R.length ≤ most := by
  intro m
  induction m with
  | zero => intro R h; rw [lsF_zero] at h; cases h; simp
  | succ m ih =>
    intro R h
    rw [lsF_next] at h
    cases h0 : lsF H most o s l k m with
    | none => rw [h0] at h; cases h
    | some out =>
      rw [h0] at h
      simp only [Option.bind_some] at h
      by_cases c : (hasK H s m && canK H l (k - m)) = true
      · rw [if_pos c] at h
        obtain ⟨x, y, hx, hy, rfl, hm⟩ := lsStep_some h
        exact hm
      · rw [if_neg c] at h
        cases h
        exact ih _ h0
theorem lsL_len {H : Nat → Nat → Bool} {most : Nat} {o : Sym → Nat → Option (List Tree)} (hm : 1 ≤ most) : ∀ (l : List Sym) (k : Nat) (R : List (List Tree)), lsL H most o l k = some R → R.length ≤ most
  | [], k, R, h => by
    unfold lsL at h
    by_cases hk : k = 0
    · rw [if_pos hk] at h; cases h; simp; omega
    · rw [if_neg hk] at h; cases h
  | s :: l, k, R, h => by rw [lsL_F] at h; exact lsF_len _ _ h
end Cs
end Go.Proofs.Ytbnpemgmdnghgaa
namespace Go.Proofs.Ytbnpemgmdnghgaa
open Go.RowKit

/-- block b is a map that has the keys of which S holds, all of them true -/
def SetM (P : Program) (k e : TypeId) (b c : Nat) (S : Lit → Bool) (w : World) : Prop :=
  ∃ D : DataW Unit, w.ownsMap P k (plainElem P e) b c D ∧ ∀ (key : Value) (l : Lit), keyOf P k key = some l → D.atKey l (.lit (.bool false)) = .lit (.bool (S l))
section
variable {P : Program} {k e t : TypeId} {b c : Nat} {S : Lit → Bool} {w w' : World}
theorem SetM.kept {row : Option Nat} (h : SetM P k e b c S w) (hg : w.grownBy w' row) (hne : some b ≠ row) : SetM P k e b c S w' := by
  obtain ⟨D, h1, h2⟩ := h
  exact ⟨D, h1.kept hg hne, h2⟩
theorem SetM.keep (h : SetM P k e b c S w) (hb : Below w.heap.size w w') : SetM P k e b c S w' := h.kept (grown_below hb none) (by simp)
theorem SetM.lt (h : SetM P k e b c S w) : b < w.heap.size := by obtain ⟨D, h1, h2⟩ := h; exact h1.lt
theorem SetM.start (P : Program) (k e : TypeId) (w : World) {b : Nat} (hb : b = w.heap.size) {S : Lit → Bool} (hS : ∀ l, S l = false) : SetM P k e b 0 S (w.alloc (.map #[] 0)) := by
  subst hb
  exact ⟨.map [], World.ownsMap_made w _ _ _, fun _ l _ => by simp [DataW.atKey, hS l]⟩
theorem plainElem_bool_inv (he : P.underlying e = some .bool) {v : Value} {z : DataW Unit × List MemPlace} (h : plainElem P e v = some z) : ∃ x, v = .bool x ∧ z = (.lit (.bool x), []) := by
  unfold plainElem at h
  rw [he] at h
  split at h
  · rename_i x _
    cases h
    exact ⟨_, rfl, rfl⟩
  · rename_i h1; cases h1
  · rename_i h1; cases h1
  · cases h
/-- m[k] -/
theorem SetM.look (h : SetM P k e b c S w) (hK : Maps.Keyed P k) (ht : P.underlying t = some (.map k e)) (he : P.underlying e = some .bool) (hz : (zeroValue e).run P w = .ok (.bool false) w) {key : Value} {l : Lit} (hkey : keyOf P k key = some l) :
    (Instr.lookup t (.map (some b)) key false).run P w = .ok (.bool (S l)) w := by
  obtain ⟨D, h1, h2⟩ := h
  obtain ⟨v, ps, hrun, hv⟩ := h1.lookup hK ht hz (plainElem_bool he false) hkey
  rw [h2 key l hkey] at hv
  obtain ⟨x, rfl, hx⟩ := plainElem_bool_inv he hv
  simp at hx
  rw [hrun, ← hx.1]
/-- m[k] = true -/
theorem SetM.add (h : SetM P k e b c S w) (hK : Maps.Keyed P k) (ht : P.underlying t = some (.map k e)) (he : P.underlying e = some .bool) (hc : c < maxLen) {key : Value} {l : Lit} (hkey : keyOf P k key = some l) {S' : Lit → Bool} (hS : S' l = true) (hO : ∀ l', l' ≠ l → S' l' = S l') :
    ∃ w', (Instr.mapUpdate t (.map (some b)) key (.bool true)).run P w = .ok () w' ∧ SetM P k e b (c + 1) S' w' ∧ w.grownBy w' (some b) := by
  obtain ⟨D, h1, h2⟩ := h
  obtain ⟨w', hrun, ho, ht'⟩ := h1.store hK ht hc hkey (plainElem_bool he true)
  refine ⟨w', hrun, ⟨_, ho, fun key' l' hk' => ?_⟩, ht'.grown⟩
  by_cases el : l' = l
  · subst el
    rw [Go.Maps.atKey_put_same h1.isMap (hK.key hkey), hS]
  · rw [Go.Maps.atKey_put_other el, h2 key' l' hk', hO l' el]
end
end Go.Proofs.Ytbnpemgmdnghgaa
namespace Go.Proofs.Ytbnpemgmdnghgaa
open Go.RowKit

def symB (s : Sym) : List UInt8 := [if s.term then 116 else 110, UInt8.ofNat s.n.toNat]
def keyB (l : Int) (ss : List Sym) : List UInt8 := UInt8.ofNat l.toNat :: ss.flatMap symB
def small (n : Int) : Prop := 0 ≤ n ∧ n < 10
theorem byte_inj {a b : Int} (ha : small a) (hb : small b) (h : UInt8.ofNat a.toNat = UInt8.ofNat b.toNat) : a = b := by
  have h2 := congrArg UInt8.toNat h
  simp at h2
  obtain ⟨a0, a1⟩ := ha
  obtain ⟨b0, b1⟩ := hb
  rw [Nat.mod_eq_of_lt (by omega), Nat.mod_eq_of_lt (by omega)] at h2
  omega
theorem syms_inj : ∀ {l m : List Sym}, (∀ s ∈ l, small s.n) → (∀ s ∈ m, small s.n) → l.flatMap symB = m.flatMap symB → l = m
  | [], [], _, _, _ => rfl
  | [], y :: m, _, _, h => by simp [symB] at h
  | x :: l, [], _, _, h => by simp [symB] at h
  | x :: l, y :: m, hl, hm, h => by
    simp only [List.flatMap_cons, symB, List.cons_append, List.nil_append, List.cons.injEq] at h
    obtain ⟨h1, h2, h3⟩ := h
    have e1 := syms_inj (fun s hs => hl s (List.mem_cons_of_mem _ hs)) (fun s hs => hm s (List.mem_cons_of_mem _ hs)) h3
    have e2 := byte_inj (hl x List.mem_cons_self) (hm y List.mem_cons_self) h2
    have e3 : x.term = y.term := by
      cases hx : x.term <;> cases hy : y.term <;> simp_all
    obtain ⟨xt, xn⟩ := x
    obtain ⟨yt, yn⟩ := y
    simp at e2 e3
    subst e1 e2 e3
    rfl
def okR (r : Rule) : Prop := small r.left ∧ ∀ s ∈ r.right, small s.n
theorem keyB_inj {r q : Rule} (hr : okR r) (hq : okR q) (h : keyB r.left r.right = keyB q.left q.right) : r = q := by
  simp only [keyB, List.cons.injEq] at h
  have e1 := byte_inj hr.1 hq.1 h.1
  have e2 := syms_inj hr.2 hq.2 h.2
  obtain ⟨_, _⟩ := r
  obtain ⟨_, _⟩ := q
  simp_all
/-- the keys of rules -/
def keysOf (l : List Rule) : Lit → Bool
  | .string b => l.any fun r => keyB r.left r.right == b
  | _ => false
theorem keysOf_same {l : List Rule} {r : Rule} (hl : ∀ x ∈ l, okR x) (hr : okR r) : keysOf l (.string (keyB r.left r.right)) = l.any fun x => cmpR x r == 0 := by
  simp only [keysOf]
  induction l with
  | nil => rfl
  | cons x l ih =>
    simp only [List.any_cons]
    rw [ih fun y hy => hl y (List.mem_cons_of_mem _ hy)]
    have e1 : (keyB x.left x.right == keyB r.left r.right) = (cmpR x r == 0) := by
     by_cases e : x = r
     · subst e
       have : cmpR x x = 0 := cmpR_zero.2 rfl
       simp [this]
     · have h1 : ¬ keyB x.left x.right = keyB r.left r.right := fun h => e (keyB_inj (hl x List.mem_cons_self) hr h)
       have h2 : ¬ cmpR x r = 0 := fun h => e (cmpR_zero.1 h)
       rw [beq_eq_false_iff_ne.2 h1, beq_eq_false_iff_ne.2 h2]
    rw [e1]
theorem keysOf_add {l : List Rule} {r : Rule} : keysOf (l ++ [r]) (.string (keyB r.left r.right)) = true := by simp [keysOf]
theorem keysOf_other {l : List Rule} {r : Rule} {x : Lit} (h : x ≠ .string (keyB r.left r.right)) : keysOf (l ++ [r]) x = keysOf l x := by
  cases x <;> simp [keysOf] at h ⊢
  intro h2
  exact absurd h2.symm h
theorem enc_small {n : Int} (h : small n) : Utf8.encode n = ⟨#[UInt8.ofNat n.toNat]⟩ := by
  obtain ⟨h0, h1⟩ := h
  have hv : Utf8.valid n = true := by simp [Utf8.valid]; omega
  simp only [Utf8.encode, hv, if_true]
  rw [if_pos (by omega)]
/-- a string's bytes -/
def Bts (s : ByteArray) (l : List UInt8) : Prop := s.data.toList = l
theorem Bts.app {s t : ByteArray} {l m : List UInt8} (h : Bts s l) (k : Bts t m) : Bts (s ++ t) (l ++ m) := by
  unfold Bts at *
  rw [ByteArray.data_append, Array.toList_append, h, k]
theorem bts_enc {n : Int} (h : small n) : Bts (Utf8.encode n) [UInt8.ofNat n.toNat] := by rw [enc_small h]; rfl
theorem Bts.size {s : ByteArray} {l : List UInt8} (h : Bts s l) : s.size = l.length := by
  unfold Bts at h
  rw [← h]; rfl
theorem keyB_take {l : Int} {ss : List Sym} {q : Nat} (h : q < ss.length) : keyB l (ss.take (q + 1)) = keyB l (ss.take q) ++ [if ss[q].term then 116 else 110] ++ [UInt8.ofNat ss[q].n.toNat] := by
  unfold keyB
  rw [List.take_succ_eq_append_getElem h, List.flatMap_append]
  simp only [List.flatMap_cons, List.flatMap_nil, symB, List.append_nil, List.cons_append, List.append_assoc, List.nil_append]
theorem keyB_len {l : Int} {ss : List Sym} : (keyB l ss).length = 1 + 2 * ss.length := by
  simp only [keyB, List.length_cons]
  induction ss with
  | nil => rfl
  | cons x ss ih => simp only [List.flatMap_cons, List.length_append, symB, List.length_cons, List.length_nil] at ih ⊢; omega
theorem key_string (s : ByteArray) (l : List UInt8) (h : Bts s l) (hs : s.size ≤ maxLen) : keyOf Try.prog 9 (.string s) = some (.string l) := by
  unfold Bts at h
  subst h
  simp [keyOf, Try.underlying9, mapKey, hs]
end Go.Proofs.Ytbnpemgmdnghgaa
namespace Go.Proofs.Ytbnpemgmdnghgaa
open Go.RowKit

theorem zeroB (w : World) : (zeroValue 4).run Try.prog w = .ok (.bool false) w := by
  obtain ⟨i, hi, hz, _⟩ := info_parts (show (Try.prog.info? 4).map (fun i => (i.zero, i.size, i.bytes)) = some (some (.bool false), 1, 1) by kernel_rfl)
  simp [zeroValue, typeInfo, hi, hz]
theorem strK : Go.Maps.Keyed Try.prog 9 := Go.Maps.string_keyed Try.underlying9
abbrev StrSet (b c : Nat) (S : Lit → Bool) (w : World) : Prop := SetM Try.prog 9 4 b c S w
theorem conv_rune (n : Int) (hn : small n) (w : World) : (convert 3 21 (.int .i64 n)).run Try.prog w = .ok (.int .i32 n) w := by
  have h : IntKind.i32.wrap n = n := by obtain ⟨h1, h2⟩ := hn; simp [IntKind.wrap, IntKind.signed, IntKind.bits, IntKind.min, IntKind.max]; omega
  simp [convert, run_underlying Try.underlying3, run_underlying Try.underlying21, Conv.intToInt, h]
theorem conv_str (n : Int) (w : World) : (convert 21 9 (.int .i32 n)).run Try.prog w = .ok (.string (Utf8.encode n)) w := by
  simp [convert, run_underlying Try.underlying21, run_underlying Try.underlying9, Conv.intToString]

/-- what the rounds keep -/
structure FltI (w0 : World) (mb : Nat) (g : Gram) (K : List Rule) (i : Nat) (wr : World) : Prop where
  set : StrSet mb i (keysOf (K.take i)) wr
  bel : Below w0.heap.size w0 wr
  lo : w0.heap.size ≤ mb
  ok : ∀ r ∈ K.take i, okR r
  flt : faultsFrom g i (K.drop i) = faultsFrom g 0 K

set_option maxHeartbeats 4000000 in
set_option maxRecDepth 100000 in
theorem ruleFault (g : Gram) (ar : Option Addr) (cr : Nat) (w : World) (hr : Rd AnyB w (.sl (g.rules.map Rule.d)) [.slice ar g.rules.length cr]) :
    Calls Try.prog 15 #[.agg #[.int .i64 g.terms, .int .i64 g.nons, .int .i64 g.start, .slice ar g.rules.length cr]] w fun e w' => e = .returned (.int .i64 (checkG g)) ∧ Below w.heap.size w w' := by
  have hbs := hr.bounds.2
  unfold maxLen at hbs
  obtain ⟨hc1, hc2⟩ := hbs
  obtain ⟨gt, HGT⟩ := nameIt g.terms
  obtain ⟨gn, HGN⟩ := nameIt g.nons
  obtain ⟨gs, HGS⟩ := nameIt g.start
  obtain ⟨K, HK⟩ := nameIt g.rules
  have HBC := Lib.hid (@badHead_cases g)
  have HGH := Lib.hid (@goodHead g)
  rw [HGT.out, HGN.out, HGS.out] at HBC HGH
  obtain ⟨w0, HW0⟩ := nameIt (w.alloc (.cells #[.int .i64 gt, .int .i64 gn, .int .i64 gs, .slice ar K.length cr] 24))
  have HB0 : Hid (Below w.heap.size w w0) := by rw [← HW0.out]; exact (Below.refl _ _).alloc (Nat.le_refl _) _
  have X1 : Hid (w0.heap[w.heap.size]? = some (.cells #[.int .i64 gt, .int .i64 gn, .int .i64 gs, .slice ar K.length cr] 24 (0, 0))) := by rw [← HW0.out]; exact bx_new _ _ _ rfl
  have HR := Lib.hid (hr.below HB0.out)
  rw [HK.out] at HR hc1
  rw [HGT.out, HGN.out, HGS.out, HK.out]
  obtain ⟨x0, x1, x2, x3⟩ := bx_cells4 X1.out
  clear hr
  by_cases hbad : badHead g = true
  · have HE : Hid (checkG g = 1) := by show _ = _; simp [checkG, hbad]
    rcases HBC.out hbad with h1 | ⟨h1, h2⟩ | ⟨h1, h2, h3⟩ | ⟨h1, h2, h3, h4⟩ | ⟨h1, h2, h3, h4, h5⟩ | ⟨h1, h2, h3, h4, h5, h6⟩
    all_goals
      clear hbad
      go_enter Try.func15, Try.ntmps15
      go_upto_region 1 with fail
      rw [HW0.out]
      go_wp2_with fail
      go_ret
      exact ⟨by rw [HE.out]; rfl, HB0.out⟩
  · obtain ⟨h1, h2, h3, h4, h5, h6⟩ := HGH.out hbad
    have HBD := Lib.hid hbad
    clear hbad
    by_cases hlen : 32 < K.length
    · have HE : Hid (checkG g = 2) := by show _ = _; rw [checkG, if_neg HBD.out, HK.out, if_pos hlen]
      have hlen' : (32 : Int) < (K.length : Int) := by omega
      go_enter Try.func15, Try.ntmps15
      go_upto_region 1 with fail
      rw [HW0.out]
      go_wp2_with fail
      go_ret
      exact ⟨by rw [HE.out]; rfl, HB0.out⟩
    · have HE : Hid (checkG g = faultsFrom g 0 K) := by show _ = _; rw [checkG, if_neg HBD.out, HK.out, if_neg hlen]
      have hlen' : ¬ (32 : Int) < (K.length : Int) := by omega
      have HI0 : Hid (FltI w0 w0.heap.size g K 0 (w0.alloc (.map #[] 0))) := ⟨SetM.start _ _ _ _ rfl (fun l => by cases l <;> simp [keysOf]), (Below.refl _ _).alloc (Nat.le_refl _) _, Nat.le_refl _, by simp, rfl⟩
      have hmk : ∀ W : World, (Instr.makeMap 78 none).run Try.prog W = .ok (.map (some W.heap.size)) (W.alloc (.map #[] 0)) := fun W => by
        simp [Instr.makeMap, run_underlying Try.underlying78]; try rfl
      have hl0 : w.heap.size < w0.heap.size := (Array.getElem?_eq_some_iff.1 X1.out).1
      have hgn : gn ≤ 10 := by simp at h4; omega
      have hgt : gt ≤ 8 := by simp at h2; omega
      go_enter Try.func15, Try.ntmps15
      go_upto_region 1 with fail
      rw [HW0.out]
      go_wp2_with fail
      clear h1 h2 h3 h4 h5 h6 x0 x1 x2 x3
      obtain ⟨mb, HMB⟩ := nameIt w0.heap.size
      rw [HMB.out] at HI0
      rw [HMB.out]
      go_loopg [48] K.length (fun gg v48 wr => ∃ i : Nat, i ≤ K.length ∧ K.length - i ≤ gg ∧ v48 = .int .i64 i ∧ Hid (FltI w0 mb g K i wr))
      case atStart => exact ⟨0, by omega, by omega, rfl, HI0⟩
      case round =>
        clear HI0
        obtain ⟨wo, rfl⟩ : ∃ wo : World, wo = wr := ⟨_, rfl⟩
        obtain ⟨i, hi, hg, rfl, HI⟩ := hrel
        by_cases hlt : i < K.length
        · have hlt' : (i : Int) < (K.length : Int) := by omega
          have hmb := HI.out.set.lt
          have hlo := HI.out.lo
          obtain ⟨b, off, vr, hae, -, hbl, c0, c1, hkr⟩ := (HR.out.below HI.out.bel).rule_at hlt
          obtain ⟨av, cv, rfl, -, hcv⟩ := hkr.form
          rw [List.length_map] at c1 hkr
          have h1 := HI.out.flt
          have hrl : i < g.rules.length := by rw [HK.out]; exact hlt
          rw [← HK.out, faultsFrom_at hrl] at h1
          simp only [HK.out] at h1
          obtain ⟨r, HRn⟩ := nameIt (K[i]'hlt)
          rw [HRn.out] at c0 c1 hkr h1
          obtain ⟨w4, HW4⟩ := nameIt (wo.alloc (.cells #[.int .i64 r.left, .slice av r.right.length cv] 48))
          have hb4 : Below wo.heap.size wo w4 := by rw [← HW4.out]; exact (Below.refl _ _).alloc (Nat.le_refl _) _
          have X4 : Hid (w4.heap[wo.heap.size]? = some (.cells #[.int .i64 r.left, .slice av r.right.length cv] 48 (0, 0))) := by rw [← HW4.out]; exact bx_new _ _ _ rfl
          have HB4 : Hid (Below w0.heap.size w0 w4) := HI.out.bel.trans (hb4.mono HI.out.bel.size)
          have HS4 := Lib.hid (HI.out.set.keep hb4)
          have HKR := Lib.hid (hkr.below hb4)
          have X1' := Lib.hid (bx_keep X1.out HB4.out)
          have HH1 := Lib.hid h1
          have hwl : wo.heap.size < w4.heap.size := (Array.getElem?_eq_some_iff.1 X4.out).1
          obtain ⟨lf, HLF⟩ := nameIt r.left
          obtain ⟨R, HRR⟩ := nameIt r.right
          have hfr : faultR g i r = if lf < 0 ∨ gn ≤ lf then 3 else if 4 < R.length then 2 else if R.any (fun s => !hasS g s) then 3 else if (K.take i).any (fun x => cmpR x r == 0) then 6 else 0 := by
            unfold faultR; rw [HLF.out, HGN.out, HRR.out, HK.out]
          have HFR := Lib.hid hfr
          have HW4' := HW4
          have X4' := X4
          rw [HLF.out, HRR.out] at X4'
          rw [HLF.out] at c0 HW4'
          rw [HRR.out] at c1 HW4' HKR
          obtain ⟨y0, y1⟩ := bx_cells2 X4'.out
          obtain ⟨x0, x1, x2, x3⟩ := bx_cells4 X1'.out
          subst hae
          clear h1 hkr hb4 hfr
          have FIN : Hid (∀ z W, z ≠ 0 → faultR g i r = z → Below w0.heap.size w0 W → (Ending.returned (.int .i64 z) = .returned (.int .i64 (checkG g)) ∧ Below w.heap.size w W)) := by
            intro z W hz hf hb
            refine ⟨?_, HB0.out.trans (hb.mono HB0.out.size)⟩
            rw [HE.out, ← HH1.out, hf, if_neg hz]
          by_cases hlf : lf < 0 ∨ gn ≤ lf
          · have hz := HFR.out
            rw [if_pos hlf] at hz
            have HZ := Lib.hid hz
            clear hz
            by_cases hl0 : lf < 0
            · have hl0' : decide (lf < 0) = true := by simpa using hl0
              clear hlf hl0
              go_upto_region 9 with fail
              rw [HW4'.out]
              go_wp2_with fail
              go_ret
              exact FIN.out 3 _ (by decide) HZ.out HB4.out
            · have hl0' : decide (lf < 0) = false := by simpa using hl0
              have hl1' : decide (gn ≤ lf) = true := by simp; omega
              clear hlf hl0
              go_upto_region 9 with fail
              rw [HW4'.out]
              go_wp2_with fail
              go_ret
              exact FIN.out 3 _ (by decide) HZ.out HB4.out
          · have hl0' : decide (lf < 0) = false := by simp; omega
            have hl1' : decide (gn ≤ lf) = false := by simp; omega
            have hsm : small lf := ⟨by omega, by omega⟩
            have HSM := Lib.hid hsm
            have hf1 := HFR.out
            rw [if_neg hlf] at hf1
            have HF1 := Lib.hid hf1
            clear hf1 hlf
            by_cases hbig : 4 < R.length
            · have hbig' : (4 : Int) < (R.length : Int) := by omega
              have hz := HF1.out
              rw [if_pos hbig] at hz
              have HZ := Lib.hid hz
              clear hz
              go_upto_region 9 with fail
              rw [HW4'.out]
              go_wp2_with fail
              go_ret
              exact FIN.out 2 _ (by decide) HZ.out HB4.out
            · have hbig' : ¬ (4 : Int) < (R.length : Int) := by omega
              have hf2 := HF1.out
              rw [if_neg hbig] at hf2
              have HF2 := Lib.hid hf2
              have cr1 := conv_rune lf HSM.out
              have cr2 := conv_str lf
              clear hf2 hsm
              go_upto_region 9 with fail
              rw [HW4'.out]
              go_wp2_with fail
              have HK0 : Hid (Bts (Utf8.encode lf) (keyB lf (R.take 0))) := bts_enc HSM.out
              obtain ⟨k0, HK0n⟩ := nameIt (Utf8.encode lf)
              rw [HK0n.out] at HK0
              rw [HK0n.out]
              clear cr1 cr2 x0 x1 x2 x3 y0 y1 c0 c1 hl0' hl1' hbig'
              go_loopg [6, 73] R.length (fun gg v6 v73 wr => ∃ (q : Nat) (ks : ByteArray), q ≤ R.length ∧ R.length - q ≤ gg ∧ v6 = .string ks ∧ v73 = .int .i64 q ∧ Hid (Bts ks (keyB lf (R.take q))) ∧ Hid (∀ s ∈ R.take q, hasS g s = true) ∧ Hid (Below w4.heap.size w4 wr))
              case atStart => exact ⟨0, k0, by omega, by omega, rfl, rfl, HK0, Lib.hid (by simp), Below.refl _ _⟩
              case round =>
                obtain ⟨q, ks, hq, hgq, rfl, rfl, HKS, HHS, HBW⟩ := hrel
                have hks := HKS.out.size
                rw [keyB_len, List.length_take] at hks
                by_cases hql : q < R.length
                · have hql' : (q : Int) < (R.length : Int) := by omega
                  obtain ⟨b', off', hae', -, hbl', e0, e1⟩ := (HKR.out.below HBW.out).sym_at hql
                  have HKT := Lib.hid (keyB_take (l := lf) hql)
                  have HTK : Hid (R.take (q + 1) = R.take q ++ [R[q]'hql]) := List.take_succ_eq_append_getElem hql
                  have HMM : Hid (R[q]'hql ∈ R) := List.getElem_mem hql
                  obtain ⟨s, HSn⟩ := nameIt (R[q]'hql)
                  rw [HSn.out] at e0 e1 HKT HTK HMM
                  obtain ⟨st, HST⟩ := nameIt s.term
                  obtain ⟨sn, HSN⟩ := nameIt s.n
                  rw [HST.out] at e0 HKT
                  rw [HSN.out] at e1 HKT
                  obtain ⟨w5, HW5⟩ := nameIt (wr.alloc (.cells #[.bool st, .int .i64 sn] 65))
                  have hb5 : Below wr.heap.size wr w5 := by rw [← HW5.out]; exact (Below.refl _ _).alloc (Nat.le_refl _) _
                  have X5 : Hid (w5.heap[wr.heap.size]? = some (.cells #[.bool st, .int .i64 sn] 65 (0, 0))) := by rw [← HW5.out]; exact bx_new _ _ _ rfl
                  have HB5 : Hid (Below w4.heap.size w4 w5) := HBW.out.trans (hb5.mono HBW.out.size)
                  obtain ⟨x0, x1, x2, x3⟩ := bx_cells4 (bx_keep X1'.out HB5.out)
                  obtain ⟨z0, z1⟩ := bx_cells2 X5.out
                  have hhs : hasS g s = (decide (0 ≤ sn) && (st && decide (sn < gt) || !st && decide (sn < gn))) := by unfold hasS; rw [HST.out, HSN.out, HGT.out, HGN.out]
                  have HHH := Lib.hid hhs
                  have BAD : Hid (hasS g s = false → faultR g i r = 3) := by
                    intro h
                    rw [HF2.out, if_pos]
                    exact List.any_eq_true.2 ⟨s, HMM.out, by rw [h]; rfl⟩
                  have HB5w : Hid (Below w0.heap.size w0 w5) := HB4.out.trans (HB5.out.mono HB4.out.size)
                  subst hae'
                  clear hb5 hhs
                  cases st with
                  | true =>
                    by_cases hs0 : sn < 0
                    · have hs0' : decide (sn < 0) = true := by simpa using hs0
                      have HBX : Hid (faultR g i r = 3) := BAD.out (by rw [HHH.out]; simp; omega)
                      clear hs0
                      go_upto_region 17 with fail
                      rw [HW5.out]
                      go_wp2_with fail
                      go_ret
                      exact FIN.out 3 _ (by decide) HBX.out HB5w.out
                    · have hs0' : decide (sn < 0) = false := by simpa using hs0
                      by_cases hs1 : gt ≤ sn
                      · have hs1' : decide (gt ≤ sn) = true := by simpa using hs1
                        have HBX : Hid (faultR g i r = 3) := BAD.out (by rw [HHH.out]; simp; omega)
                        clear hs0 hs1
                        go_upto_region 17 with fail
                        rw [HW5.out]
                        go_wp2_with fail
                        go_ret
                        exact FIN.out 3 _ (by decide) HBX.out HB5w.out
                      · have hs1' : decide (gt ≤ sn) = false := by simpa using hs1
                        have HSS : Hid (small sn) := ⟨by omega, by omega⟩
                        have HOK : Hid (hasS g s = true) := by show _ = _; rw [HHH.out]; simp; omega
                        have cr1 := conv_rune sn HSS.out
                        have cr2 := conv_str sn
                        have hen := (bts_enc HSS.out).size
                        simp only [List.length_cons, List.length_nil] at hen
                        have HKN : Hid (Bts (ks ++ ⟨#[116]⟩ ++ Utf8.encode sn) (keyB lf (R.take (q + 1)))) := by
                          show Bts _ _
                          rw [HKT.out]
                          exact (HKS.out.app (t := ⟨#[116]⟩) (m := [116]) rfl).app (bts_enc HSS.out)
                        have HHN : Hid (∀ x ∈ R.take (q + 1), hasS g x = true) := by
                          intro x hx
                          rw [HTK.out] at hx
                          rcases List.mem_append.1 hx with h | h
                          · exact HHS.out x h
                          · simp at h; subst h; exact HOK.out
                        clear hs0 hs1
                        go_upto_region 17 with fail
                        rw [HW5.out]
                        go_wp2_with fail
                        go_roundg (R.length - (q + 1))
                        case measure => omega
                        case rel => exact ⟨q + 1, _, by omega, by omega, rfl, by go_num, HKN, HHN, HB5⟩
                  | false =>
                    by_cases hs0 : sn < 0
                    · have hs0' : decide (sn < 0) = true := by simpa using hs0
                      have HBX : Hid (faultR g i r = 3) := BAD.out (by rw [HHH.out]; simp; omega)
                      clear hs0
                      go_upto_region 17 with fail
                      rw [HW5.out]
                      go_wp2_with fail
                      go_ret
                      exact FIN.out 3 _ (by decide) HBX.out HB5w.out
                    · have hs0' : decide (sn < 0) = false := by simpa using hs0
                      by_cases hs1 : gn ≤ sn
                      · have hs1' : decide (gn ≤ sn) = true := by simpa using hs1
                        have HBX : Hid (faultR g i r = 3) := BAD.out (by rw [HHH.out]; simp; omega)
                        clear hs0 hs1
                        go_upto_region 17 with fail
                        rw [HW5.out]
                        go_wp2_with fail
                        go_ret
                        exact FIN.out 3 _ (by decide) HBX.out HB5w.out
                      · have hs1' : decide (gn ≤ sn) = false := by simpa using hs1
                        have HSS : Hid (small sn) := ⟨by omega, by omega⟩
                        have HOK : Hid (hasS g s = true) := by show _ = _; rw [HHH.out]; simp; omega
                        have cr1 := conv_rune sn HSS.out
                        have cr2 := conv_str sn
                        have hen := (bts_enc HSS.out).size
                        simp only [List.length_cons, List.length_nil] at hen
                        have HKN : Hid (Bts (ks ++ ⟨#[110]⟩ ++ Utf8.encode sn) (keyB lf (R.take (q + 1)))) := by
                          show Bts _ _
                          rw [HKT.out]
                          exact (HKS.out.app (t := ⟨#[110]⟩) (m := [110]) rfl).app (bts_enc HSS.out)
                        have HHN : Hid (∀ x ∈ R.take (q + 1), hasS g x = true) := by
                          intro x hx
                          rw [HTK.out] at hx
                          rcases List.mem_append.1 hx with h | h
                          · exact HHS.out x h
                          · simp at h; subst h; exact HOK.out
                        clear hs0 hs1
                        go_upto_region 17 with fail
                        rw [HW5.out]
                        go_wp2_with fail
                        go_roundg (R.length - (q + 1))
                        case measure => omega
                        case rel => exact ⟨q + 1, _, by omega, by omega, rfl, by go_num, HKN, HHN, HB5⟩
                · have hql' : ¬ (q : Int) < (R.length : Int) := by omega
                  have hqe : R.take q = R := List.take_of_length_le (by omega)
                  have HSB : Hid (okR r) := by
                    refine ⟨by rw [HLF.out]; exact HSM.out, fun s hs => ?_⟩
                    rw [HRR.out, ← hqe] at hs
                    have h := HHS.out s hs
                    unfold hasS at h
                    rw [HGT.out, HGN.out] at h
                    simp at h
                    exact ⟨h.1, by omega⟩
                  have hnb : R.any (fun s => !hasS g s) = false := by
                    rw [List.any_eq_false]
                    intro s hs
                    rw [← hqe] at hs
                    rw [HHS.out s hs]; decide
                  have HKE : Hid (Bts ks (keyB r.left r.right)) := by
                    have h := HKS.out
                    rw [hqe] at h
                    rw [HLF.out, HRR.out]
                    exact h
                  have hf3 := HF2.out
                  rw [hnb] at hf3
                  simp only [Bool.false_eq_true, if_false] at hf3
                  have HSW := Lib.hid (HS4.out.keep HBW.out)
                  have hkey := key_string ks _ HKE.out (by rw [hks]; unfold maxLen; omega)
                  have hlk := HSW.out.look strK Try.underlying78 Try.underlying4 (zeroB wr) hkey
                  rw [keysOf_same HI.out.ok HSB.out] at hlk
                  obtain ⟨A2, HA2⟩ := nameIt ((K.take i).any fun x => cmpR x r == 0)
                  rw [HA2.out] at hlk hf3
                  have HTK : Hid (K.take (i + 1) = K.take i ++ [r]) := by show _ = _; rw [List.take_succ_eq_append_getElem hlt, HRn.out]
                  obtain ⟨w6, hup, hset, hgrow⟩ := HSW.out.add strK Try.underlying78 Try.underlying4 (by unfold maxLen; omega) hkey (S' := keysOf (K.take (i + 1))) (by rw [HTK.out]; exact keysOf_add) (fun l' h => by rw [HTK.out]; exact keysOf_other h)
                  have HF3 := Lib.hid hf3
                  have HB6 : Hid (Below w0.heap.size w0 wr) := HB4.out.trans (HBW.out.mono HB4.out.size)
                  have HBW6 : Hid (Below w0.heap.size w0 w6) := HB6.out.grown hgrow HB6.out.size (fun k e => by cases e; exact hlo)
                  have HSET := Lib.hid hset
                  clear hf3 hnb hqe hset hgrow hkey hks
                  cases A2 with
                  | true =>
                    have HZ : Hid (faultR g i r = 6) := HF3.out
                    go_wp2_with fail
                    go_ret
                    exact FIN.out 6 _ (by decide) HZ.out HB6.out
                  | false =>
                    have HIN : Hid (FltI w0 mb g K (i + 1) w6) := by
                      refine ⟨HSET.out, HBW6.out, hlo, fun x hx => ?_, ?_⟩
                      · rw [HTK.out] at hx
                        rcases List.mem_append.1 hx with h | h
                        · exact HI.out.ok x h
                        · simp at h; subst h; exact HSB.out
                      · have h := HH1.out
                        have hz : faultR g i r = 0 := HF3.out
                        rw [hz, if_pos rfl] at h
                        exact h
                    go_wp2_with fail
                    go_roundg (K.length - (i + 1))
                    case measure => omega
                    case rel => exact ⟨i + 1, by omega, by omega, by go_num, HIN⟩
        · have hlt' : ¬ (i : Int) < (K.length : Int) := by omega
          have HZ : Hid (faultsFrom g 0 K = 0) := by show _ = _; rw [← HI.out.flt, List.drop_of_length_le (by omega), faultsFrom]
          go_wp2_with fail
          go_ret
          exact ⟨by rw [HE.out, HZ.out]; rfl, HB0.out.trans (HI.out.bel.mono HB0.out.size)⟩
end Go.Proofs.Ytbnpemgmdnghgaa
namespace Go.Proofs.Ytbnpemgmdnghgaa
open Go.RowKit
namespace Ln

theorem itemLaid : laidOutB Try.prog = true := by kernel_rfl
theorem itemRow : (120 : TypeId) < Try.prog.types.size := of_decide_eq_true (by kernel_rfl)
theorem itemWide : (match Try.prog.underlying 120 with | some (.array _ _) | some (.struct _) => true | _ => false) = true := by kernel_rfl
theorem itemAt : Try.prog.keyTypeAt 2 120 = true := by kernel_rfl
set_option maxRecDepth 100000 in
theorem itemLaw : WideMaps.KeyLaw Try.prog 120 := deep_law_laid itemLaid (m := 2) (by omega) itemRow itemAt itemWide
theorem itemK : Go.Maps.Keyed Try.prog 120 := .of_law itemLaw
def itL (a b c : Nat) : Lit := .string (keyBytes [.int .i64 a, .int .i64 b, .int .i64 c])
theorem wf_small3 {i : Nat} (h : i ≤ 1000) : (Lit.int .i64 (i : Int)).wf = true := by
  simp [Lit.wf, IntKind.min, IntKind.max, IntKind.signed, IntKind.bits]; omega
theorem keyLits_int (d : Nat) {x : Int} (h : (Lit.int .i64 x).wf = true) : Try.prog.keyLits (d + 1) 3 [.int .i64 x] = some [.int .i64 x] := by
  simp [Program.keyLits, Try.underlying3, h]
theorem itemKey {a b c : Nat} (ha : a ≤ 1000) (hb : b ≤ 1000) (hc : c ≤ 1000) : keyOf Try.prog 120 (.agg #[.int .i64 a, .int .i64 b, .int .i64 c]) = some (itL a b c) := by
  have h1 : Try.prog.keyType 120 = true := by kernel_rfl
  have h3 : Try.prog.cellsOf 120 = 3 := by kernel_rfl
  have h4 : Try.prog.cellsOf 3 = 1 := by kernel_rfl
  have h2 : (Value.agg #[.int .i64 a, .int .i64 b, .int .i64 c]).formed Try.prog 120 = true := by simp [Value.formed, Try.underlying120, h3]
  obtain ⟨m, hm⟩ : ∃ m, Try.prog.types.size = m + 1 := ⟨Try.prog.types.size - 1, by have h : 0 < Try.prog.types.size := of_decide_eq_true (by kernel_rfl); omega⟩
  have h5 : Try.prog.keyLits (Try.prog.types.size + 1) 120 [.int .i64 a, .int .i64 b, .int .i64 c] = some [.int .i64 a, .int .i64 b, .int .i64 c] := by
    rw [hm]
    simp [Program.keyLits, Try.underlying120, h3, h4, Try.underlying3, wf_small3 ha, wf_small3 hb, wf_small3 hc]
  unfold keyOf
  simp only [Try.underlying120, h1, h2, Bool.and_self, if_true]
  show Option.map _ (Try.prog.keyLits _ _ [.int .i64 a, .int .i64 b, .int .i64 c]) = _
  rw [h5]
  rfl
theorem itL_inj {a b c a' b' c' : Nat} (ha : a ≤ 1000) (hb : b ≤ 1000) (hc : c ≤ 1000) (ha' : a' ≤ 1000) (hb' : b' ≤ 1000) (hc' : c' ≤ 1000) (h : itL a b c = itL a' b' c') : a = a' ∧ b = b' ∧ c = c' := by
  have h1 := itemKey ha hb hc
  have h2 := itemKey ha' hb' hc'
  rw [← h] at h2
  have := itemK.inj h1 h2
  simp at this
  omega
end Ln
end Go.Proofs.Ytbnpemgmdnghgaa
namespace Go.Proofs.Ytbnpemgmdnghgaa
open Go.RowKit

/-- as World.ownsRow, but the row may begin anywhere in its block -/
def ownsQ (w : World) (B : Nat) (e : TypeId) (size : Nat) (v : Value) (n : Nat) (xs : List Value) : Prop :=
  xs.length = n * size ∧
  ((v = .slice none 0 0 ∧ n = 0) ∨
   ∃ g off cap cur, v = .slice (some ⟨g, off, none⟩) n cap ∧ B ≤ g ∧ w.heap[g]? = some (.cells cur e (0, 0)) ∧ n ≤ cap ∧ cap ≤ maxLen ∧ off + cap * size ≤ cur.size ∧ (cur.toList.drop off).take (n * size) = xs)
theorem ownsQ_of {w : World} {B : Nat} {e : TypeId} {size : Nat} {v : Value} {n : Nat} {xs : List Value} (h : w.ownsRow B e size v n xs) : ownsQ w B e size v n xs := by
  obtain ⟨h1, h2⟩ := h
  refine ⟨h1, ?_⟩
  rcases h2 with h2 | ⟨g, cap, cur, rfl, a, b, c, d, f, t⟩
  · exact .inl h2
  · exact .inr ⟨g, 0, cap, cur, rfl, a, b, c, d, by omega, by simpa using t⟩
section
variable {w w' : World} {B : Nat} {e : TypeId} {size : Nat} {v : Value} {n : Nat} {xs : List Value}
theorem ownsQ.lt (h : ownsQ w B e size v n xs) : ∀ k, v.ownBlock = some k → B ≤ k ∧ k < w.heap.size := by
  intro k hk
  rcases h.2 with ⟨rfl, _⟩ | ⟨g, off, cap, cur, rfl, a, b, _⟩
  · cases hk
  · cases hk; exact ⟨a, (Array.getElem?_eq_some_iff.1 b).1⟩
theorem ownsQ.other {row : Option Nat} (h : ownsQ w B e size v n xs) (hg : w.grownBy w' row) (hne : ∀ k, v.ownBlock = some k → row ≠ some k) : ownsQ w' B e size v n xs := by
  have hlt := h.lt
  obtain ⟨h1, h2⟩ := h
  refine ⟨h1, ?_⟩
  rcases h2 with h2 | ⟨g, off, cap, cur, rfl, a, b, r⟩
  · exact .inl h2
  · exact .inr ⟨g, off, cap, cur, rfl, a, (hg.block g (hlt g rfl).2 (fun e => hne g rfl e.symm)).trans b, r⟩
theorem ownsQ.keep (h : ownsQ w B e size v n xs) (hb : Below w.heap.size w w') : ownsQ w' B e size v n xs := h.other (grown_below hb none) (fun k _ e => by cases e)
theorem ownsQ.form (h : ownsQ w B e size v n xs) : ∃ a cap, v = .slice a n cap ∧ n ≤ cap ∧ cap ≤ maxLen := by
  rcases h.2 with ⟨rfl, rfl⟩ | ⟨g, off, cap, cur, rfl, _, _, h1, h2, _⟩
  · exact ⟨_, _, rfl, by simp, by simp⟩
  · exact ⟨_, _, rfl, h1, h2⟩
theorem ownsQ.cells (h : ownsQ w B e size v n xs) (hn : 0 < n) : ∃ g off cap, v = .slice (some ⟨g, off, none⟩) n cap ∧ ∀ j u, xs[j]? = some u → w.cell? ⟨g, off + j, none⟩ = some u := by
  rcases h.2 with ⟨_, h0⟩ | ⟨g, off, cap, cur, rfl, _, hh, h1, h2, h3, ht⟩
  · omega
  · refine ⟨g, off, cap, rfl, fun j u hj => ?_⟩
    have hl := h.1
    have hj2 := (List.getElem?_eq_some_iff.1 hj).1
    rw [← ht, List.getElem?_take, if_pos (by omega), List.getElem?_drop] at hj
    simp [World.cell?, hh]
    simpa using hj
/-- x[1:] -/
theorem ownsQ.tail {g off cap : Nat} {ys : List Value} (h : ownsQ w B e size (.slice (some ⟨g, off, none⟩) (n + 1) cap) (n + 1) (ys ++ xs)) (hy : ys.length = size) (hs : 0 < size) : ownsQ w B e size (.slice (if cap = 1 then some ⟨g, off, none⟩ else some ⟨g, off + size, none⟩) n (cap - 1)) n xs := by
  obtain ⟨h1, h2⟩ := h
  rw [List.length_append, Nat.add_mul, hy] at h1
  refine ⟨by omega, ?_⟩
  rcases h2 with ⟨h2, _⟩ | ⟨g', off', cap', cur, hv, a, b, c, d, f, t⟩
  · cases h2
  · cases hv
    right
    by_cases e1 : cap = 1
    · subst e1
      obtain rfl : n = 0 := by omega
      have hx : xs = [] := List.eq_nil_of_length_eq_zero (by omega)
      refine ⟨g, off, 0, cur, by simp, a, b, by omega, by unfold maxLen; omega, by omega, by simp [hx]⟩
    · refine ⟨g, off + size, cap - 1, cur, by simp [e1], a, b, by omega, by omega, ?_, ?_⟩
      · have : cap * size = size + (cap - 1) * size := by
          obtain ⟨c', rfl⟩ : ∃ c', cap = c' + 1 := ⟨cap - 1, by omega⟩
          simp [Nat.add_mul]; omega
        omega
      · have h3 : (cur.toList.drop off).take (n * size + size) = ys ++ xs := by rw [← t]; congr 1; simp [Nat.add_mul]
        have h4 := congrArg (List.drop size) h3
        have h5 : List.drop size (ys ++ xs) = xs := by rw [← hy]; simp
        rw [List.drop_take, List.drop_drop, h5, Nat.add_sub_cancel] at h4
        exact h4
end
theorem run_append_roomQ {P : Program} (w : World) (t ty e : TypeId) (i : TypeInfo) (ht : P.underlying t = some (.slice e)) (hi : P.info? e = some i)
    (g off sLen sCap : Nat) (cur : Array Value) (hg : w.heap[g]? = some (.cells cur e (0, 0)))
    (a : Addr) (m c : Nat) (news : List Value) (hl : news.length = m * i.size) (hnews : ∀ j u, news[j]? = some u → w.cell? (a.add j) = some u) (h1 : ∀ u ∈ news, u.oneCell' = true)
    (hroom : sLen + m ≤ sCap) (hfit : off + sLen * i.size + news.length ≤ cur.size) :
    (Builtin.append_ #[t, t] ty #[.slice (some ⟨g, off, none⟩) sLen sCap, .slice (some a) m c]).run P w =
      .ok (.slice (some ⟨g, off, none⟩) (sLen + m) sCap) (w.setRow g (cur.toList.take (off + sLen * i.size) ++ news ++ cur.toList.drop (off + sLen * i.size + news.length)).toArray) := by
  have hf := run_firstCells_some (P := P) w i.size m a m c news hl hnews
  have hst := run_storeCells_at P g (off + sLen * i.size) e news 0 cur w hg (by simpa using hfit) h1
  simp only [Nat.add_zero] at hst
  simp [Builtin.append_, run_underlying ht, sizeOf, typeInfo, hi, Builtin.lenOf, hroom, hf, add_at, hst]

theorem run_append_q {P : Program} (w : World) (B : Nat) (t ty e : TypeId) (i : TypeInfo) (z : Value) (size bytes : Nat) (ht : P.underlying t = some (.slice e)) (hi : P.info? e = some i) (hz : i.zero = some z)
    (hsize : i.size = size) (hby : i.bytes = bytes) (hzs : z.cells.size = size) (hsz : 0 < size)
    (v : Value) (n : Nat) (xs : List Value) (hown : ownsQ w B e size v n xs)
    (a : Addr) (m c : Nat) (news : List Value) (hl : news.length = m * size) (hnews : ∀ j u, news[j]? = some u → w.cell? (a.add j) = some u) (h1 : ∀ u ∈ news, u.oneCell' = true) (hm : 0 < m)
    (h63 : n + m ≤ maxLen) (hbytes : (n + m) * bytes ≤ 140737488355328) (hbase : B ≤ w.heap.size) :
    ∃ g off cap w', (Builtin.append_ #[t, t] ty #[v, .slice (some a) m c]).run P w = .ok (.slice (some ⟨g, off, none⟩) (n + m) cap) w' ∧ ownsQ w' B e size (.slice (some ⟨g, off, none⟩) (n + m) cap) (n + m) (xs ++ news) ∧ w.grownBy w' v.ownBlock ∧ ((∃ cap0, v = .slice (some ⟨g, off, none⟩) n cap0) ∨ (g = w.heap.size ∧ w.grownBy w' none)) ∧ g < w'.heap.size := by
  subst hsize
  subst hby
  have hsmall : n + m ≤ 9223372036854775807 := by simp only [maxLen] at h63; omega
  have hlen : (xs ++ news).length = (n + m) * i.size := by rw [List.length_append, hown.1, hl, Nat.add_mul]
  have grown : ∀ (old : Nat), old < n + m → ∀ (row : Option Nat),
      ownsQ (w.drew.alloc (.cells (xs.toArray ++ news.toArray ++ Builtin.zeroCells z.cells (grownCap w (n + m) old e - (n + m))) e)) B e i.size
        (.slice (some ⟨w.heap.size, 0, none⟩) (n + m) (grownCap w (n + m) old e)) (n + m) (xs ++ news) ∧
      w.grownBy (w.drew.alloc (.cells (xs.toArray ++ news.toArray ++ Builtin.zeroCells z.cells (grownCap w (n + m) old e - (n + m))) e)) row := by
    intro old ho row
    have hge := grownCap_ge w (n + m) old e
    have hcm : grownCap w (n + m) old e ≤ maxLen := grownCap_le_maxLen w (n + m) old e h63
    refine ⟨ownsQ_of ⟨hlen, .inr ⟨w.heap.size, _, _, rfl, hbase, heap_alloc_new w.drew _, hge, hcm, ?_, ?_⟩⟩, ⟨rfl, rfl, rfl, by simp, fun k hk _ => ((Below.refl w.drew.heap.size w.drew).alloc (Nat.le_refl _) _).block k hk⟩⟩
    · simp only [Array.size_append, List.size_toArray, size_zeroCells, hzs, hown.1, hl, ← Nat.add_mul]
      congr 1
      omega
    · simp only [Array.toList_append, List.append_assoc]
      rw [← List.append_assoc, ← hlen]
      exact List.take_left
  rcases hown.2 with ⟨rfl, rfl⟩ | ⟨g, off, cap, cur, rfl, hbg, hg, hnc, hcm, hcs, htake⟩
  · have hx : xs = [] := List.eq_nil_of_length_eq_zero (by simpa using hown.1)
    subst hx
    have hr := run_append_nil (P := P) w t ty e i z ht hi hz a m c news hl hnews (by omega) (by omega) (by have hb := hbytes; simp only [Nat.zero_add] at hb; omega)
    have hgr := grown 0 (by omega) (Value.ownBlock (.slice none 0 0))
    have hgn := grown 0 (by omega) none
    simp only [Nat.zero_add, List.nil_append, Array.empty_append] at hgr hgn ⊢
    exact ⟨_, _, _, _, hr, hgr.1, hgr.2, .inr ⟨rfl, hgn.2⟩, by simp⟩
  · by_cases hroom : n + m ≤ cap
    · have hfit : off + n * i.size + news.length ≤ cur.size := by
        have h2 := Nat.mul_le_mul_right i.size hroom
        rw [Nat.add_mul] at h2
        omega
      have hr := run_append_roomQ (P := P) w t ty e i ht hi g off n cap cur hg a m c news hl hnews h1 hroom hfit
      refine ⟨_, _, _, _, hr, ⟨hlen, .inr ⟨g, off, cap, _, rfl, hbg, setRow_heap w g cur _ e _ hg, hroom, hcm, ?_, ?_⟩⟩, ⟨rfl, rfl, rfl, by simp, fun k _ hk => setRow_other w g k _ (fun e => hk (by simp [Value.ownBlock, e]))⟩, .inl ⟨cap, rfl⟩, by simpa using (Array.getElem?_eq_some_iff.1 hg).1⟩
      · simp only [List.size_toArray, List.length_append, List.length_take, List.length_drop, Array.length_toList]
        omega
      · have h3 : cur.toList.take (off + n * i.size) = cur.toList.take off ++ xs := by rw [List.take_add, htake]
        have h4 : (cur.toList.take off).length = off := by simp; omega
        simp only [h3, List.append_assoc]
        rw [List.drop_append_of_le_length (by omega), List.drop_eq_nil_of_le (by omega), List.nil_append, ← List.append_assoc, ← hlen]
        exact List.take_left
    · have holds : ∀ j u, xs[j]? = some u → w.cell? ((⟨g, off, none⟩ : Addr).add j) = some u := by
        intro j u hj
        rw [add_at]
        have hj2 := (List.getElem?_eq_some_iff.1 hj).1
        have hl' := hown.1
        rw [← htake, List.getElem?_take, if_pos (by omega), List.getElem?_drop] at hj
        simp [World.cell?, hg]
        simpa using hj
      have hr := run_append_grow (P := P) w t ty e i z ht hi hz ⟨g, off, none⟩ n cap xs hown.1 holds a m c news hl hnews (by omega) (by omega) (growslice_fits (by omega) hbytes)
      have hgr := grown cap (by omega) (Value.ownBlock (.slice (some ⟨g, off, none⟩) n cap))
      have hgn := grown cap (by omega) none
      exact ⟨_, _, _, _, hr, hgr.1, hgr.2, .inr ⟨rfl, hgn.2⟩, by simp⟩
/-- append of what lies in one block, at a step of a region that draws its order -/
theorem step_appQ {P : Program} {ops : Array Oper} {o : Oper} {a : Act} {K : Act → World → Prop} {Q : Exit → Act → World → Prop} {E' : Prop} {w0 : World} {t e : TypeId} {size bytes : Nat} (E : ElemT P t e size bytes)
    (hgd : o.guard = none) (s x : Operand) (ho : o.op = .call { callee := .builtin .append, args := #[s, x], argTypes := #[t, t] })
    {B : Nat} {v : Value} {n : Nat} {xs : List Value} {news : Array Value} (hown : ownsQ w0 B e size v n xs) (hs : a.eval s = v) {g0 : Nat} (hx : a.eval x = .slice (some ⟨g0, 0, none⟩) 1 1) (hg0 : w0.heap[g0]? = some (.cells news e (0, 0)))
    (hn : news.size = size) (h1 : news.toList.all Value.oneCell' = true) (hb : (n + 1) * bytes ≤ 140737488355328) (hm : n + 1 ≤ maxLen) (hB : B ≤ w0.heap.size)
    (h : ∀ g off cap w', ownsQ w' B e size (.slice (some ⟨g, off, none⟩) (n + 1) cap) (n + 1) (xs ++ news.toList) → w0.grownBy w' v.ownBlock → ((∃ cap0, v = .slice (some ⟨g, off, none⟩) n cap0) ∨ (g = w0.heap.size ∧ w0.grownBy w' none)) → g < w'.heap.size → K (a.put o.dst (.slice (some ⟨g, off, none⟩) (n + 1) cap)) w') :
    if Region.wanted o (yielded ops a.tmps) = true then Oper.wp P o a w0 K Q else E' := by
  obtain ⟨hu, ⟨i, z, hi, hz, hsz, hby, hzs⟩, hp⟩ := E
  have hw : Region.wanted o (yielded ops a.tmps) = true := by simp [Region.wanted, hgd]
  rw [if_pos hw]
  obtain ⟨g, off, cap, w', hr, h2, h3, h4, h5⟩ := run_append_q (P := P) w0 B t o.type e i z size bytes hu hi hz hsz hby hzs hp v n xs hown ⟨g0, 0, none⟩ 1 1 news.toList (by simp [hn]) (World.news_of_block hg0) (List.all_eq_true.1 h1) (by omega) hm hb hB
  unfold Oper.wp execOp
  simp only [ho, resolve, invoke, builtin, Sem.run_bind, Sem.run_pure, Result.andThen_ok, List.map_toArray, List.map_cons, List.map_nil, hs, hx, hr]
  exact h g off cap w' h2 h3 h4 h5
end Go.Proofs.Ytbnpemgmdnghgaa
namespace Go.Proofs.Ytbnpemgmdnghgaa
open Go.RowKit
namespace Ln

def rt (K : List Rule) (i : Nat) : List Sym := (K[i]?.map Rule.right).getD []
def lft (K : List Rule) (i : Nat) : Int := (K[i]?.map Rule.left).getD 0
theorem rt_eq {K : List Rule} {i : Nat} (h : i < K.length) : rt K i = K[i].right := by simp [rt, h]
theorem lft_eq {K : List Rule} {i : Nat} (h : i < K.length) : lft K i = K[i].left := by simp [lft, h]
/-- the first d symbols of rule i have a word of length l -/
inductive It (K : List Rule) : Nat → Nat → Nat → Prop
  | start {i : Nat} : i < K.length → It K i 0 0
  | term {i d l : Nat} {s : Sym} : It K i d l → (rt K i)[d]? = some s → s.term = true → It K i (d + 1) (l + 1)
  | non {i d l j k : Nat} {s : Sym} : It K i d l → (rt K i)[d]? = some s → s.term = false → It K j (rt K j).length k → lft K j = s.n → It K i (d + 1) (l + k)
theorem It.lt {K : List Rule} {i d l : Nat} (h : It K i d l) : i < K.length := by
  induction h with
  | start h => exact h
  | term _ _ _ ih => exact ih
  | non _ _ _ _ _ ih _ => exact ih
theorem It.dot {K : List Rule} {i d l : Nat} (h : It K i d l) : d ≤ (rt K i).length := by
  induction h with
  | start h => omega
  | term _ hs _ _ => have := (List.getElem?_eq_some_iff.1 hs).1; omega
  | non _ hs _ _ _ _ _ => have := (List.getElem?_eq_some_iff.1 hs).1; omega
/-- nonterminal a has a word of length k -/
def Has (K : List Rule) (a : Int) (k : Nat) : Prop := ∃ j, It K j (rt K j).length k ∧ lft K j = a

/-- the way of lens.Set: one symbol more -/
def stB (H : Nat → Nat → Bool) (s : Sym) (j : Nat) : Bool := if s.term then j == 1 else H s.n.toNat j
def nxt (H : Nat → Nat → Bool) (n : Nat) (s : Sym) (A : Nat → Bool) (m : Nat) : Bool := decide (m ≤ n) && (List.range (m + 1)).any fun i => A i && stB H s (m - i)
def atR (H : Nat → Nat → Bool) (n : Nat) (R : List Sym) : Nat → Bool := R.foldl (fun A s => nxt H n s A) (fun m => m == 0)
theorem atR_snoc (H : Nat → Nat → Bool) (n : Nat) (R : List Sym) (s : Sym) : atR H n (R ++ [s]) = nxt H n s (atR H n R) := by simp [atR]
theorem nxt_iff {H : Nat → Nat → Bool} {n : Nat} {s : Sym} {A : Nat → Bool} {m : Nat} : nxt H n s A m = true ↔ m ≤ n ∧ ∃ i j, i + j = m ∧ A i = true ∧ stB H s j = true := by
  unfold nxt
  simp only [Bool.and_eq_true, decide_eq_true_eq, List.any_eq_true, List.mem_range]
  constructor
  · rintro ⟨h1, i, hi, h2, h3⟩
    exact ⟨h1, i, m - i, by omega, h2, h3⟩
  · rintro ⟨h1, i, j, h2, h3, h4⟩
    exact ⟨h1, i, by omega, h3, by rw [show m - i = j by omega]; exact h4⟩
theorem nxt_le {H : Nat → Nat → Bool} {n : Nat} {s : Sym} {A : Nat → Bool} {m : Nat} (h : nxt H n s A m = true) : m ≤ n := (nxt_iff.1 h).1
/-- H tells true lengths alone -/
def Sound (K : List Rule) (H : Nat → Nat → Bool) : Prop := ∀ a k, H a k = true → Has K (a : Int) k
/-- what the rules give is there -/
def Closed (K : List Rule) (n : Nat) (H : Nat → Nat → Bool) (i : Nat) : Prop := ∀ m, m ≤ n → atR H n (rt K i) m = true → H (lft K i).toNat m = true
variable {K : List Rule} {n : Nat} {H : Nat → Nat → Bool}
theorem at_sound (hs : Sound K H) (hp : ∀ i, i < K.length → ∀ s ∈ rt K i, s.term = false → 0 ≤ s.n) {i : Nat} (hi : i < K.length) : ∀ d m, d ≤ (rt K i).length → atR H n ((rt K i).take d) m = true → It K i d m
  | 0, m, _, h => by
    simp [atR] at h
    subst h
    exact .start hi
  | d + 1, m, hd, h => by
    rw [List.take_succ_eq_append_getElem (by omega), atR_snoc, nxt_iff] at h
    obtain ⟨_, a, b, rfl, h1, h2⟩ := h
    have ih := at_sound hs hp hi d a (by omega) h1
    have hg : (rt K i)[d]? = some ((rt K i)[d]'(by omega)) := List.getElem?_eq_getElem (by omega)
    unfold stB at h2
    cases ht : ((rt K i)[d]'(by omega)).term with
    | true =>
      rw [ht] at h2
      simp at h2
      subst h2
      exact .term ih hg ht
    | false =>
      rw [ht] at h2
      simp only [Bool.false_eq_true, if_false] at h2
      obtain ⟨j, h3, h4⟩ := hs _ _ h2
      have h0 := hp i hi _ (List.getElem_mem (by omega)) ht
      exact .non ih hg ht h3 (by rw [h4]; omega)
theorem at_complete (hc : ∀ i, i < K.length → Closed K n H i) {i d l : Nat} (h : It K i d l) : l ≤ n → atR H n ((rt K i).take d) l = true := by
  induction h with
  | start h => intro _; simp [atR]
  | @term i d l s h1 hs ht ih =>
    intro hl
    obtain ⟨hd, he⟩ := List.getElem?_eq_some_iff.1 hs
    rw [List.take_succ_eq_append_getElem hd, atR_snoc, nxt_iff, he]
    exact ⟨hl, l, 1, rfl, ih (by omega), by simp [stB, ht]⟩
  | @non i d l j k s h1 hs ht h2 he2 ih1 ih2 =>
    intro hl
    obtain ⟨hd, he⟩ := List.getElem?_eq_some_iff.1 hs
    rw [List.take_succ_eq_append_getElem hd, atR_snoc, nxt_iff, he]
    refine ⟨hl, l, k, rfl, ih1 (by omega), ?_⟩
    have h3 := ih2 (by omega)
    rw [List.take_length] at h3
    have h4 := hc j h2.lt k (by omega) h3
    rw [he2] at h4
    simp [stB, ht, h4]
/-- where nothing more is to be added, H is right -/
theorem set_right (hs : Sound K H) (hc : ∀ i, i < K.length → Closed K n H i) (hp : ∀ i, i < K.length → 0 ≤ lft K i) {a : Nat} {k : Nat} (hk : k ≤ n) : H a k = true ↔ Has K (a : Int) k := by
  refine ⟨hs a k, ?_⟩
  rintro ⟨j, h1, h2⟩
  have h3 := at_complete hc h1 hk
  rw [List.take_length] at h3
  have h4 := hc j h1.lt k hk h3
  rw [h2] at h4
  simpa using h4
/-- the way of lengthsOf: the items that are known, of which the first p are done; C: the lengths that they tell -/
structure Items (K : List Rule) (n : Nat) (L : List (Nat × Nat × Nat)) (p : Nat) (C : Nat → Nat → Bool) : Prop where
  sound : ∀ x ∈ L, It K x.1 x.2.1 x.2.2 ∧ x.2.2 ≤ n
  nodup : L.Nodup
  start : ∀ i, i < K.length → (i, 0, 0) ∈ L
  csound : ∀ a k, C a k = true → ∃ x ∈ L.take p, x.2.1 = (rt K x.1).length ∧ lft K x.1 = (a : Int) ∧ x.2.2 = k
  full : ∀ x ∈ L.take p, x.2.1 = (rt K x.1).length → C (lft K x.1).toNat x.2.2 = true
  term : ∀ x ∈ L.take p, ∀ s, (rt K x.1)[x.2.1]? = some s → s.term = true → x.2.2 + 1 ≤ n → (x.1, x.2.1 + 1, x.2.2 + 1) ∈ L
  non : ∀ x ∈ L.take p, ∀ s, (rt K x.1)[x.2.1]? = some s → s.term = false → ∀ k, C s.n.toNat k = true → x.2.2 + k ≤ n → (x.1, x.2.1 + 1, x.2.2 + k) ∈ L
theorem items_all {L : List (Nat × Nat × Nat)} {p : Nat} {C : Nat → Nat → Bool} (h : Items K n L p C) (hp : L.length ≤ p) {i d l : Nat} (hi : It K i d l) : l ≤ n → (i, d, l) ∈ L := by
  have ht : L.take p = L := List.take_of_length_le hp
  have h3 := h.full
  have h4 := h.term
  have h5 := h.non
  rw [ht] at h3 h4 h5
  induction hi with
  | start hi => intro _; exact h.start _ hi
  | term _ hs hb ih => intro hl; exact h4 _ (ih (by omega)) _ hs hb hl
  | @non i d l j k s _ hs hb _ he ih1 ih2 =>
    intro hl
    have h6 := h3 _ (ih2 (by omega)) rfl
    simp only [he] at h6
    exact h5 _ (ih1 (by omega)) _ hs hb k h6 hl
/-- where all items are done, C is right -/
theorem items_right {L : List (Nat × Nat × Nat)} {p : Nat} {C : Nat → Nat → Bool} (h : Items K n L p C) (hp : L.length ≤ p) {a k : Nat} (hk : k ≤ n) : C a k = true ↔ Has K (a : Int) k := by
  have ht : L.take p = L := List.take_of_length_le hp
  constructor
  · intro hc
    obtain ⟨x, hx, h1, h2, h3⟩ := h.csound a k hc
    rw [ht] at hx
    have h4 := (h.sound x hx).1
    rw [h1, h3] at h4
    exact ⟨x.1, h4, h2⟩
  · rintro ⟨j, h1, h2⟩
    have h3 := items_all h hp h1 hk
    have h4 := h.full
    rw [ht] at h4
    have h5 := h4 _ h3 rfl
    simp only [h2] at h5
    simpa using h5
end Ln
end Go.Proofs.Ytbnpemgmdnghgaa
