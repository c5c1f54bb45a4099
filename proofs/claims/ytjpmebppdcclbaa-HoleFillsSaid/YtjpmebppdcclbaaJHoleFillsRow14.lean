/- For every input the law HoleFills returns true, and its arguments read afterwards as before. No condition. -/
import Derived.Test.YtjpmebppdcclbaaJHoleFillsRow5
import Derived.Test.YtjpmebppdcclbaaJHoleFillsRow13
import Derived.Deep.CutBlock
import Derived.Deep.CutRange
import Derived.Test.YtjpmebppdcclbaaJHoleFillsRow9
import Derived.Test.YtjpmebppdcclbaaRows
import Derived.Test.YtjpmebppdcclbaaJHoleFillsRow1
import Derived.ChangeArms
import Derived.ChangeSame
import Derived.SizedLaws
import Derived.Deep.Slices
import Derived.Test.YtjpmebppdcclbaaJHoleFillsRow2
import Derived.Lib.SmallJoins
import Derived.Test.YtjpmebppdcclbaaJHoleFillsRow4
import Derived.OpenShut
import Derived.ChangeOld
import Derived.Carry
import Derived.JoinedCond
namespace Go.Proofs.Ytjpmebppdcclbaa
open Go.RowKit
namespace Rp
open Al

/-- the table, the corrector and the grammar in memory -/
structure MT (W : World) (gt : Int) (N st : Nat) (gr : Value) (cb bk hi bb : Nat) (ra : Nat → Nat) (rb : Nat → Nat → Nat) (c : Co) (w : List Int) (T : Tb) (wr : World) : Prop where
  bel : Below W.heap.size W wr
  gbox : wr.heap[W.heap.size]? = some (.cells #[.int .i64 gt, .int .i64 (N : Int), .int .i64 (st : Int), gr] 24 (0, 0))
  cm : CM cb gt N st gr (.slice (some ⟨bb, 0, none⟩) N bk) c w wr
  bt : BT (fun k => hi ≤ k) 0 bb ra rb N w.length T wr
  lt : ∀ a i, a < N → i ≤ w.length → rb a i < hi ∧ cb < rb a i ∧ W.heap.size + 1 < rb a i
  le : hi ≤ wr.heap.size
theorem MT.keep {W : World} {gt : Int} {N st : Nat} {gr : Value} {cb bk hi bb : Nat} {ra : Nat → Nat} {rb : Nat → Nat → Nat} {c : Co} {w : List Int} {T : Tb} {wr w' : World} (h : MT W gt N st gr cb bk hi bb ra rb c w T wr) (hb : Below wr.heap.size wr w') : MT W gt N st gr cb bk hi bb ra rb c w T w' :=
  ⟨h.bel.trans (hb.mono h.bel.size), bx_keep h.gbox hb, h.cm.keep hb, h.bt.keep hb, h.lt, Nat.le_trans h.le hb.size⟩
theorem MT.set {W : World} {gt : Int} {N st : Nat} {gr : Value} {cb bk hi bb : Nat} {ra : Nat → Nat} {rb : Nat → Nat → Nat} {c : Co} {w : List Int} {T : Tb} {wr : World} (h : MT W gt N st gr cb bk hi bb ra rb c w T wr) {a i j : Nat} (ha : a < N) (hi' : i ≤ w.length) (hj : j ≤ w.length) {o : Option Val} {u : Value} (hu : Rd (fun k => hi ≤ k) wr (D.ints (oW o)) [u]) :
    MT W gt N st gr cb bk hi bb ra rb c w (upd T (a : Int) i j o) ((((wr.setCell ⟨rb a i, j * 4, none⟩ (.int .i64 (oC o))).setCell ⟨rb a i, j * 4 + 1, none⟩ (.int .i64 (oN o))).setCell ⟨rb a i, j * 4 + 2, none⟩ u).setCell ⟨rb a i, j * 4 + 3, none⟩ (.bool o.isSome)) := by
  have hg := grown_cellsAt wr (rb a i) (j * 4) (j * 4 + 1) (j * 4 + 2) (j * 4 + 3) (.int .i64 (oC o)) (.int .i64 (oN o)) u (.bool o.isSome)
  obtain ⟨h1, h2, h3⟩ := h.lt a i ha hi'
  refine ⟨h.bel.grown hg h.bel.size (fun k e => by cases e; omega), (hg.block _ (Array.getElem?_eq_some_iff.1 h.gbox).1 (by simp; omega)).trans h.gbox, h.cm.grown hg (fun k e => by cases e; exact h2), h.bt.set ha hi' hj hu, h.lt, Nat.le_trans h.le hg.size⟩
theorem BU.mt {W : World} {gt : Int} {N st : Nat} {gr : Value} {cb : Nat} {c : Co} {w : List Int} {n1 : Nat} {ra : Nat → Nat} {bv : Value} {wr : World} (h : BU W gt N st gr cb c w n1 N ra bv wr) (hn1 : n1 = w.length + 1) (hN : 0 < N) (hW : W.heap.size + 1 < cb) :
    ∃ bb bk, MT W gt N st gr cb bk wr.heap.size bb ra (fun a i => ra a + 1 + i) c w (fun _ _ _ => none) wr := by
  subst hn1
  have hsl := sl_of_own h.own
  obtain ⟨g, k, hbv, _, _⟩ := h.own.form hN
  subst hbv
  have hob := h.ob g rfl
  refine ⟨g, k, h.bel, h.gbox, h.cm, ⟨fun a ha => ?_, fun a ha i hi => h.mid a ha i (by omega), fun a ha i hi => (h.row a ha i (by omega)).mono (fun _ h _ => h.elim), fun _ _ _ _ => Nat.zero_le _, fun a a' i i' ha ha' hi hi' e => ?_, fun a i ha hi => ⟨?_, fun a' ha' => ?_⟩, fun a i ha hi hh => ?_⟩, fun a i ha hi => ⟨?_, ?_, ?_⟩, Nat.le_refl _⟩
  · obtain ⟨bb, oo, hae, hcc⟩ := hsl.at (k := a) ha
    have := hcc a (by simpa using ha)
    cases hae
    simpa using this
  · rcases Nat.lt_trichotomy a a' with h1 | h1 | h1
    · have := h.sep a a' h1 ha'; omega
    · subst h1; exact ⟨rfl, by omega⟩
    · have := h.sep a' a h1 ha; omega
  · have := hob a ha; omega
  · rcases Nat.lt_trichotomy a a' with h1 | h1 | h1
    · have := h.sep a a' h1 ha'; omega
    · subst h1; omega
    · have := h.sep a' a h1 ha; omega
  · have := (h.lb a ha).2
    omega
  · have := (h.lb a ha).2; omega
  · have := (h.lb a ha).1; omega
  · have := (h.lb a ha).1; omega
end Rp
end Go.Proofs.Ytjpmebppdcclbaa
namespace Go.Proofs.Ytjpmebppdcclbaa
open Go.RowKit
namespace Rp
open Al

end Rp
end Go.Proofs.Ytjpmebppdcclbaa
namespace Go.Proofs.Ytjpmebppdcclbaa
open Go.RowKit
namespace Rp

end Rp
end Go.Proofs.Ytjpmebppdcclbaa
namespace Go.Proofs.Ytjpmebppdcclbaa
open Go.RowKit
namespace Rp
open Al

section
variable {c : Co} {w : List Int} {n N tm : Nat} {K : List Rule}
end
end Rp
end Go.Proofs.Ytjpmebppdcclbaa
namespace Go.Proofs.Ytjpmebppdcclbaa
open Go.RowKit
namespace Rp

theorem rd_block {S : Nat → Prop} {w : World} {b : Nat} {cs : Array Value} {T : TypeId} {ds : List D} (hb : w.heap[b]? = some (.cells cs T (0, 0))) (hr : RdAll S w ds cs.toList) (hS : S b) (hl : ds.length ≤ maxLen) : Rd S w (.sl ds) [.slice (some ⟨b, 0, none⟩) ds.length ds.length] := by
  refine ⟨some ⟨b, 0, none⟩, ds.length, cs.toList, rfl, Nat.le_refl _, hl, (fun e => by cases e), fun i hi => ⟨⟨b, 0, none⟩, rfl, hS, ?_⟩, hr⟩
  rw [add_at]
  have hi' : i < cs.size := by simpa using hi
  simp [World.cell?, hb, hi']
theorem syms_lit {w : World} (l : List Sym) (cs : List Value) (h : cs = l.flatMap fun s => [.bool s.term, .int .i64 s.n]) : RdAll AnyB w (l.map Sym.d) cs := by
  subst h
  induction l with
  | nil => simp [RdAll]
  | cons s l ih => exact ⟨[.bool s.term, .int .i64 s.n], _, rfl, rd_sym s, ih⟩
theorem six (W : World) (A B C D E F : Obj) : (((((((W.alloc A).alloc B).alloc C).alloc D).alloc E).alloc F).heap[W.heap.size + 1 + 1 + 1]? = some D) ∧ (((((((W.alloc A).alloc B).alloc C).alloc D).alloc E).alloc F).heap[W.heap.size + 1 + 1 + 1 + 1]? = some E) ∧ (((((((W.alloc A).alloc B).alloc C).alloc D).alloc E).alloc F).heap[W.heap.size + 1 + 1 + 1 + 1 + 1]? = some F) ∧ Below W.heap.size W ((((((W.alloc A).alloc B).alloc C).alloc D).alloc E).alloc F) := by
  have al : ∀ (w : World) (o : Obj), Below w.heap.size w (w.alloc o) := fun w o => (Below.refl _ _).alloc (Nat.le_refl _) _
  have h3 := bx_new (((W.alloc A).alloc B).alloc C) D (W.heap.size + 1 + 1 + 1) (by simp)
  have h4 := bx_new ((((W.alloc A).alloc B).alloc C).alloc D) E (W.heap.size + 1 + 1 + 1 + 1) (by simp)
  have h5 := bx_new (((((W.alloc A).alloc B).alloc C).alloc D).alloc E) F (W.heap.size + 1 + 1 + 1 + 1 + 1) (by simp)
  exact ⟨bx_keep (bx_keep h3 (al _ _)) (al _ _), bx_keep h4 (al _ _), h5, ((((((Below.refl W.heap.size W).alloc (Nat.le_refl _) _).alloc (by simp) _).alloc (by simp; omega) _).alloc (by simp; omega) _).alloc (by simp; omega) _).alloc (by simp; omega) _⟩
set_option maxHeartbeats 1000000 in
theorem pairsE (W : World) : Calls Try.prog 8 #[] W fun e w' => ∃ a k, e = .returned (.agg #[.int .i64 2, .int .i64 1, .int .i64 0, .slice a 2 k]) ∧ Rd AnyB w' (.sl (pK.map Rule.d)) [.slice a 2 k] ∧ Below W.heap.size W w' := by
  go_enter Try.func8, Try.ntmps8
  go_wp2
  refine bodyPost_ret (v := .agg #[.int .i64 2, .int .i64 1, .int .i64 0, .slice (some ⟨W.heap.size + 1 + 1 + 1 + 1 + 1, 0, none⟩) 2 2]) (by simp [results, Try.results8, go_sem]) rfl ?_
  obtain ⟨h3, h4, h5, hb⟩ := six W (.cells #[.int .i64 2, .int .i64 1, .int .i64 0, .slice (some ⟨W.heap.size + 1 + 1 + 1 + 1 + 1, 0, none⟩) 2 2] 24) (.cells #[.bool true, .int .i64 0] 44) (.cells #[.bool true, .int .i64 1] 44) (.cells #[.bool true, .int .i64 0, .bool false, .int .i64 0, .bool true, .int .i64 1] 44) (.cells #[.bool true, .int .i64 0, .bool true, .int .i64 1] 44) (.cells #[.int .i64 0, .slice (some ⟨W.heap.size + 1 + 1 + 1, 0, none⟩) 3 3, .int .i64 0, .slice (some ⟨W.heap.size + 1 + 1 + 1 + 1, 0, none⟩) 2 2] 69)
  refine ⟨_, _, rfl, rd_block (ds := pK.map Rule.d) h5 ?_ trivial (by simp [pK, maxLen]), hb⟩
  refine ⟨[.int .i64 0, .slice (some ⟨W.heap.size + 1 + 1 + 1, 0, none⟩) 3 3], [.int .i64 0, .slice (some ⟨W.heap.size + 1 + 1 + 1 + 1, 0, none⟩) 2 2], rfl, rd_rule (r := ⟨0, [⟨true, 0⟩, ⟨false, 0⟩, ⟨true, 1⟩]⟩) ?_, RdAll.one (rd_rule (r := ⟨0, [⟨true, 0⟩, ⟨true, 1⟩]⟩) ?_)⟩
  · exact rd_block (ds := [⟨true, 0⟩, ⟨false, 0⟩, ⟨true, 1⟩].map Sym.d) h3 (syms_lit [⟨true, 0⟩, ⟨false, 0⟩, ⟨true, 1⟩] _ rfl) trivial (by simp [maxLen])
  · exact rd_block (ds := [⟨true, 0⟩, ⟨true, 1⟩].map Sym.d) h4 (syms_lit [⟨true, 0⟩, ⟨true, 1⟩] _ rfl) trivial (by simp [maxLen])
end Rp
end Go.Proofs.Ytjpmebppdcclbaa
namespace Go.Proofs.Ytjpmebppdcclbaa
open Go.RowKit
namespace Hl
open Rp Al

def hG : Gram := ⟨2, 1, 0, pK⟩
theorem hG_ok : checkG hG = 0 := by decide
theorem hP_ok : patF hG pL = 0 := by decide
theorem anyE (W : World) : Calls Try.prog 18 #[] W fun e w' => e = .returned (.agg #[.bool true, .int .i64 (-1)]) ∧ Below W.heap.size W w' := by
  go_enter Try.func18, Try.ntmps18
  go_wp2
  exact bodyPost_ret (v := .agg #[.bool true, .int .i64 (-1)]) (by simp [results, Try.results18, go_sem]) rfl ⟨rfl, (Below.refl _ _).alloc (Nat.le_refl _) _⟩
/-- what is known of a valid grammar -/
theorem kg_of {g : Gram} (h : checkG g = 0) : ∃ N tm st : Nat, Cs.OkC g N ∧ g.nons = (N : Int) ∧ N ≤ 10 ∧ g.terms = (tm : Int) ∧ tm ≤ 8 ∧ g.start = (st : Int) ∧ st < N ∧ KG N g.rules (okS N tm) ∧ ∀ r ∈ g.rules, r.right.length ≤ 4 := by
  obtain ⟨N, hok⟩ := Cs.okC_of h
  obtain ⟨⟨h1, h2, h3, h4, h5, h6⟩, _, h7⟩ := checkG_zero h
  have hn := hok.nons
  refine ⟨N, g.terms.toNat, g.start.toNat, hok, hn, by omega, by omega, by omega, by omega, by omega, fun r hr => ?_, fun r hr => (h7 r hr).2.2.1⟩
  obtain ⟨q1, q2, q3, q4⟩ := h7 r hr
  refine ⟨q1, by omega, fun s hs => ?_⟩
  have := q4 s hs
  unfold hasS at this
  unfold okS
  cases ht : s.term with
  | true =>
    rw [ht] at this
    simp at this
    exact ⟨this.1, fun _ => by omega, fun e => by cases e⟩
  | false =>
    rw [ht] at this
    simp at this
    exact ⟨this.1, (fun e => by cases e), fun _ => by omega⟩
theorem pat_zero {g : Gram} {l : List Sym} (h : patF g l = 0) : checkG g = 0 ∧ l.length ≤ 12 ∧ ∀ N tm : Nat, g.nons = (N : Int) → g.terms = (tm : Int) → ∀ c ∈ l, cellOk N tm c := by
  unfold patF at h
  by_cases h1 : checkG g = 0
  · rw [if_neg (by simpa using h1)] at h
    by_cases h2 : 12 < l.length
    · rw [if_pos h2] at h; cases h
    · rw [if_neg h2] at h
      refine ⟨h1, by omega, fun N tm hN ht c hc => ?_⟩
      by_cases h3 : l.any (badS g) = true
      · rw [if_pos h3] at h; cases h
      · have hb : badS g c = false := by
          cases e : badS g c with
          | false => rfl
          | true => exact absurd (List.any_eq_true.2 ⟨c, hc, e⟩) h3
        obtain ⟨ct, cn⟩ := c
        unfold badS hasS at hb
        unfold cellOk
        rw [hN, ht] at hb
        cases ct with
        | true =>
          simp at hb
          refine ⟨fun _ => ?_, fun e => by cases e⟩
          show cn < (tm : Int)
          by_cases e : cn = -1
          · omega
          · by_cases h5 : 0 ≤ cn
            · by_cases h6 : cn < (tm : Int)
              · exact h6
              · exact absurd (hb (.inr (by omega))) e
            · exact absurd (hb (.inl (by omega))) e
        | false =>
          simp at hb
          exact ⟨(fun e => by cases e), fun _ => hb⟩
  · rw [if_pos h1] at h; exact absurd h h1
section
variable (g : Gram) (l : List Sym) (ga : Option Addr) (gc : Nat) (la : Option Addr) (lk : Nat) (W : World) (hgr : Rd AnyB W (.sl (g.rules.map Rule.d)) [.slice ga g.rules.length gc]) (hrl : Rd AnyB W (.sl (l.map Sym.d)) [.slice la l.length lk])
include hgr hrl
/-- hole.Fill of a valid pattern, for any table of least words -/
theorem fillV (hp : patF g l = 0) {N tm st : Nat} (hok : Cs.OkC g N) (htm : g.terms = (tm : Int)) (hst : g.start = (st : Int)) (hsN : st < N) (hK : KG N g.rules (okS N tm)) (hr4 : ∀ r ∈ g.rules, r.right.length ≤ 4) {V : Sym → Nat → Nat → Option Val} (hV : VO leafS emS 0 g.rules (okS N tm) (GS tm) V) (hVc : Closed g.rules (clL leafS 0) (clE emS 0) (clV 0 V)) (hs : SvOk N tm 1048576 (fun y => V y 0 0)) :
    Calls Try.prog 17 #[.agg #[.int .i64 g.terms, .int .i64 g.nons, .int .i64 g.start, .slice ga g.rules.length gc], .slice la l.length lk] W (FillPost (cvOf (fun y => V y 0 0) l g.rules N tm ⟨false, (st : Int)⟩ 0 l.length) W) := by
  obtain ⟨hck, hl12, hcl⟩ := pat_zero hp
  have hcl := hcl N tm hok.nons htm
  refine fillOk g l ga gc la lk W hgr hrl hp _ ?_ (fun W' hb => ?_)
  · rcases oneV_vo (leaf := leafH (fun y => V y 0 0) l) (em := emH) (n := l.length) (K := g.rules) (ok := okS N tm) (G := GH (fun y => V y 0 0) l tm) ⟨false, (st : Int)⟩ 0 l.length with e | ⟨V', h1, _, e⟩
    · intro v ev
      unfold cvOf at ev
      rw [e] at ev; cases ev
    · intro v ev
      unfold cvOf at ev
      rw [e] at ev
      exact h1.1 _ _ _ v ev
  · exact fillE g (fun y => V y 0 0) l hl12 N hok.nons hok.n1 hok.n2 st hst hsN tm 1048576 (Nat.le_refl _) hs hK hr4 hcl ga gc la lk W' (hgr.below hb) (hrl.below hb)
      (fun W2 h2 => lenE hck hok hK hr4 hV hVc ga gc W2 ((hgr.below hb).below h2)) (fun a v ha hv W2 h2 => lstE hck hok hK hr4 hV hVc a v ha hv ga gc W2 ((hgr.below hb).below h2))
end
set_option maxHeartbeats 8000000 in
set_option maxRecDepth 100000 in
theorem lawHF (g : Gram) (u0 : Value) (l : List Sym) (v1 : Value) (W : World) (hr : Rd AnyB W (.sl (g.rules.map Rule.d)) [u0]) (hs : Rd AnyB W (.sl (l.map Sym.d)) [v1]) :
    Calls Try.prog 5 #[.agg #[.int .i64 g.terms, .int .i64 g.nons, .int .i64 g.start, u0], v1] W fun e w' => e = .returned (.bool true) ∧ Below W.heap.size W w' := by
  obtain ⟨ga, gc, rfl, hgc1, hgc2⟩ := hr.form
  rw [List.length_map] at hr hgc1 ⊢
  obtain ⟨la, lk, rfl, hlc1, hlc2⟩ := hs.form
  rw [List.length_map] at hs hlc1 ⊢
  obtain ⟨PST, HP⟩ := nameIt (fun (e : Ending) (w' : World) => e = .returned (.bool true) ∧ Below W.heap.size W w')
  have HFIN : Hid (∀ w', Below W.heap.size W w' → PST (.returned (.bool true)) w') := by
    intro w' h; rw [← HP.out]; exact ⟨rfl, h⟩
  rw [HP.out]
  obtain ⟨w0, HW0⟩ := nameIt (W.alloc (.cells #[.int .i64 g.terms, .int .i64 g.nons, .int .i64 g.start, .slice ga g.rules.length gc] 24))
  have hw0 : Below W.heap.size W w0 := by rw [← HW0.out]; exact (Below.refl _ _).alloc (Nat.le_refl _) _
  have HG0 : Hid (w0.heap[W.heap.size]? = some (.cells #[.int .i64 g.terms, .int .i64 g.nons, .int .i64 g.start, .slice ga g.rules.length gc] 24 (0, 0))) := by rw [← HW0.out]; exact bx_new _ _ _ rfl
  have HB0 := Lib.hid hw0
  -- the fixed call
  have HPB : Hid (∀ a k W', Rd AnyB W' (.sl (pK.map Rule.d)) [.slice a 2 k] → Calls Try.prog 17 #[.agg #[.int .i64 2, .int .i64 1, .int .i64 0, .slice a 2 k], .slice (some ⟨W'.heap.size, 0, none⟩) 4 4] (W'.alloc (.cells #[.bool true, .int .i64 (-1), .bool true, .int .i64 (-1), .bool true, .int .i64 1, .bool true, .int .i64 (-1)] 44)) fun e w' => ∃ v, e = .returned (.tuple #[v, .int .i64 0]) ∧ Sl w' v (ints [0, 0, 1, 1]) ∧ Below W'.heap.size W' w') := by
    intro a k W' hrd
    have hal : Below W'.heap.size W' (W'.alloc (.cells #[.bool true, .int .i64 (-1), .bool true, .int .i64 (-1), .bool true, .int .i64 1, .bool true, .int .i64 (-1)] 44)) := (Below.refl _ _).alloc (Nat.le_refl _) _
    have hrl : Rd AnyB (W'.alloc (.cells #[.bool true, .int .i64 (-1), .bool true, .int .i64 (-1), .bool true, .int .i64 1, .bool true, .int .i64 (-1)] 44)) (.sl (pL.map Sym.d)) [.slice (some ⟨W'.heap.size, 0, none⟩) pL.length 4] :=
      rd_block (ds := pL.map Sym.d) (bx_new W' _ _ rfl) (syms_lit pL _ rfl) trivial (by simp [pL, maxLen])
    obtain ⟨N, hok⟩ := Cs.okC_of hG_ok
    have hN1 : N = 1 := by have := hok.nons; have e : hG.nons = 1 := rfl; omega
    subst hN1
    have hpk4 : ∀ r ∈ pK, r.right.length ≤ 4 := by decide
    refine (fillV hG pL a k (some ⟨W'.heap.size, 0, none⟩) 4 _ (hrd.below hal) hrl hP_ok hok (tm := 2) (st := 0) rfl rfl (by decide) pKG hpk4 pVO0 pCl0 pSvOk).mono ?_
    rintro e w' ⟨v, z, h1, h2, h3⟩
    have e2 : cvOf (fun y => pV0 y 0 0) pL pK 1 2 ⟨false, ((0 : Nat) : Int)⟩ 0 pL.length = some ⟨0, 4, [0, 0, 1, 1]⟩ := pVal
    rw [show hG.rules = pK from rfl, e2] at h3
    have h4 : Sl w' v (ints [0, 0, 1, 1]) ∧ z = 0 := h3
    obtain ⟨h5, rfl⟩ := h4
    exact ⟨v, h1, h5, hal.trans (h2.mono hal.size)⟩
  have HPF : Hid (∀ W', Below w0.heap.size w0 W' → Calls Try.prog 19 #[.agg #[.int .i64 g.terms, .int .i64 g.nons, .int .i64 g.start, .slice ga g.rules.length gc], .slice la l.length lk] W' fun e w' => e = .returned (.int .i64 (patF g l)) ∧ Below W'.heap.size W' w') := fun W' hb => patFE g l ga gc la lk W' (hr.below (hw0.trans (hb.mono hw0.size))) (hs.below (hw0.trans (hb.mono hw0.size)))
  have HCK : Hid (∀ W', Below w0.heap.size w0 W' → Calls Try.prog 20 #[.agg #[.int .i64 g.terms, .int .i64 g.nons, .int .i64 g.start, .slice ga g.rules.length gc], .slice la l.length lk] W' fun e w' => e = .returned (.int .i64 (patF g l)) ∧ Below W'.heap.size W' w') := fun W' hb => checkPE g l ga gc la lk W' (hr.below (hw0.trans (hb.mono hw0.size))) (hs.below (hw0.trans (hb.mono hw0.size)))
  have HBD : Hid (patF g l ≠ 0 → ∀ W', Below w0.heap.size w0 W' → Calls Try.prog 17 #[.agg #[.int .i64 g.terms, .int .i64 g.nons, .int .i64 g.start, .slice ga g.rules.length gc], .slice la l.length lk] W' fun e w' => e = .returned (.tuple #[.slice none 0 0, .int .i64 (patF g l)]) ∧ Below W'.heap.size W' w') := fun h W' hb => fillBad g l ga gc la lk W' (hr.below (hw0.trans (hb.mono hw0.size))) (hs.below (hw0.trans (hb.mono hw0.size))) h
  have HOKF : Hid (patF g l = 0 → ∃ o, WfO o ∧ ∀ W', Below w0.heap.size w0 W' → Calls Try.prog 21 #[.agg #[.int .i64 g.terms, .int .i64 g.nons, .int .i64 g.start, .slice ga g.rules.length gc], .slice la l.length lk] W' fun e w' => ∃ x, e = .returned x ∧ VR (fun k => W'.heap.size ≤ k) w' x o ∧ Below W'.heap.size W' w' ∧
      ∀ W2, Below w0.heap.size w0 W2 → Calls Try.prog 17 #[.agg #[.int .i64 g.terms, .int .i64 g.nons, .int .i64 g.start, .slice ga g.rules.length gc], .slice la l.length lk] W2 (FillPost o W2)) := by
    intro hp
    obtain ⟨hck, hl12, hcl⟩ := pat_zero hp
    obtain ⟨N, tm, st, hok, hN, hN1, htm, htm1, hst, hsN, hK, hr4⟩ := kg_of hck
    refine ⟨cvOf (svOf g.rules N tm) l g.rules N tm ⟨false, (st : Int)⟩ 0 l.length, ?_, fun W' hb => ?_⟩
    · rcases oneV_vo (leaf := leafH (svOf g.rules N tm) l) (em := emH) (n := l.length) (K := g.rules) (ok := okS N tm) (G := GH (svOf g.rules N tm) l tm) ⟨false, (st : Int)⟩ 0 l.length with e | ⟨V', h1, _, e⟩
      · intro v ev
        unfold cvOf at ev
        rw [e] at ev; cases ev
      · intro v ev
        unfold cvOf at ev
        rw [e] at ev
        exact h1.1 _ _ _ v ev
    · have hr' := hr.below (hw0.trans (hb.mono hw0.size))
      have hs' := hs.below (hw0.trans (hb.mono hw0.size))
      rw [hst]
      refine (completeE g.rules N tm st hN1 (by omega) hsN hK hr4 l hl12 g.terms g.nons ga gc la lk W' hr' hs').mono ?_
      rintro e w' ⟨S, x, ⟨hcg, hjs, hclo⟩, h2, h3, h4⟩
      refine ⟨x, h2, h3, h4, fun W2 hb2 => ?_⟩
      have hsv : svOf g.rules N tm = fun y => ofT leafS S y 0 0 := funext fun y => (sv_eqT hcg hclo y).symm
      have hso := svOk hN1 hcg hjs hclo
      rw [hsv] at hso ⊢
      have hfin := fillV g l ga gc la lk W2 (hr.below (hw0.trans (hb2.mono hw0.size))) (hs.below (hw0.trans (hb2.mono hw0.size))) hp hok htm hst hsN hK hr4 (of_vo (gokS N tm) hcg) (closed_of (gokS N tm) (cg_wf (gokS N tm) hcg) hclo) hso
      rw [hst] at hfin
      exact hfin
  obtain ⟨z, HZ⟩ := nameIt (patF g l)
  obtain ⟨gt, HGT⟩ := nameIt g.terms
  obtain ⟨gn, HGN⟩ := nameIt g.nons
  obtain ⟨gs, HGS⟩ := nameIt g.start
  obtain ⟨kn, HKN⟩ := nameIt g.rules.length
  obtain ⟨n, HN⟩ := nameIt l.length
  rw [HZ.out, HGT.out, HGN.out, HGS.out, HKN.out, HN.out] at HPF HCK HBD HOKF
  rw [HGT.out, HGN.out, HGS.out, HKN.out] at HG0 HW0
  rw [HGT.out, HGN.out, HGS.out, HKN.out, HN.out]
  clear hw0 HP hr hs HZ
  go_enter Try.func5, Try.ntmps5
  go_upto_region 1 with fail
  rw [HW0.out]
  clear HW0
  go_wp2_with fail
  refine (pairsE w0).mono ?_
  rintro e w1 ⟨a, k, rfl, hrd, hb1⟩
  have HB1 := Lib.hid hb1
  have HRD := Lib.hid hrd
  clear hb1 hrd
  go_wp2_with fail
  refine (anyE w1).mono ?_
  rintro e w2 ⟨rfl, hb2⟩
  have HB2 := Lib.hid (HB1.out.trans (hb2.mono HB1.out.size))
  have HRD2 := Lib.hid (HRD.out.below hb2)
  clear hb2
  go_wp2_with fail
  refine (anyE w2).mono ?_
  rintro e w3 ⟨rfl, hb3⟩
  have HB3 := Lib.hid (HB2.out.trans (hb3.mono HB2.out.size))
  have HRD3 := Lib.hid (HRD2.out.below hb3)
  clear hb3
  go_wp2_with fail
  refine (anyE w3).mono ?_
  rintro e w4 ⟨rfl, hb4⟩
  have HB4 := Lib.hid (HB3.out.trans (hb4.mono HB3.out.size))
  have HRD4 := Lib.hid (HRD3.out.below hb4)
  clear hb4
  go_wp2_with fail
  refine (HPB.out a k w4 HRD4.out).mono ?_
  rintro e w5 ⟨v, rfl, hsv, hb5⟩
  have HB5 := Lib.hid (HB4.out.trans (hb5.mono HB4.out.size))
  obtain ⟨va, vk, hvf⟩ := hsv.form
  subst hvf
  have heq := equal _ _ [0, 0, 1, 1] [0, 0, 1, 1] (w5.alloc (.cells #[.int .i64 0, .int .i64 0, .int .i64 1, .int .i64 1] 3)) (hsv.keep ((Below.refl _ _).alloc (Nat.le_refl _) _)) (sl_lit (w := w5) (v := #[.int .i64 0, .int .i64 0, .int .i64 1, .int .i64 1]) rfl (by simp [maxLen]))
  have HEQ := Lib.hid heq
  clear hb5 hsv heq
  go_wp2_with fail
  refine HEQ.out.mono ?_
  rintro e w6 ⟨rfl, hb6⟩
  rw [show ([(0 : Int), 0, 1, 1] == [0, 0, 1, 1]) = true from rfl]
  have hal2 : Below w5.heap.size w5 (w5.alloc (.cells #[.int .i64 0, .int .i64 0, .int .i64 1, .int .i64 1] 3)) := (Below.refl _ _).alloc (Nat.le_refl _) _
  have HB6 := Lib.hid (HB5.out.trans ((hal2.trans (hb6.mono hal2.size)).mono HB5.out.size))
  obtain ⟨x0, x1, x2, x3⟩ := bx_cells4 (bx_keep HG0.out HB6.out)
  clear hb6 hal2 HEQ HPB
  go_wp2_with fail
  refine (HPF.out w6 HB6.out).mono ?_
  rintro e w7 ⟨rfl, hb7⟩
  have HB7 := Lib.hid (HB6.out.trans (hb7.mono HB6.out.size))
  obtain ⟨x0, x1, x2, x3⟩ := bx_cells4 (bx_keep HG0.out HB7.out)
  clear hb7
  go_wp2_with fail
  refine (HCK.out w7 HB7.out).mono ?_
  rintro e w8 ⟨rfl, hb8⟩
  have HB8 := Lib.hid (HB7.out.trans (hb8.mono HB7.out.size))
  clear hb8
  have hzz : (z != z) = false := by simp
  obtain ⟨wA, HWA⟩ := nameIt (w8.alloc (.cells #[.bool false, .int .i64 0, .int .i64 0, .slice none 0 0] 36))
  have hwA : Below w8.heap.size w8 wA := by rw [← HWA.out]; exact (Below.refl _ _).alloc (Nat.le_refl _) _
  have HZA : Hid (wA.heap[w8.heap.size]? = some (.cells #[.bool false, .int .i64 0, .int .i64 0, .slice none 0 0] 36 (0, 0))) := by rw [← HWA.out]; exact bx_new _ _ _ rfl
  have HBA := Lib.hid (HB8.out.trans (hwA.mono HB8.out.size))
  have hlA : w8.heap.size < wA.heap.size := (Array.getElem?_eq_some_iff.1 HZA.out).1
  have hl6 := HB8.out.size
  obtain ⟨b11, HB11⟩ := nameIt w8.heap.size
  rw [HB11.out] at HZA hlA hl6
  clear hwA
  go_upto_region 8 with fail
  rw [HWA.out, HB11.out]
  clear HWA HB11
  obtain ⟨x0, x1, x2, x3⟩ := bx_cells4 (bx_keep HG0.out HBA.out)
  by_cases e1 : z = 0
  · subst e1
    obtain ⟨o, hwo, hcomp⟩ := HOKF.out rfl
    have HCO := Lib.hid (hcomp wA HBA.out)
    clear hcomp
    go_wp2_with fail
    refine HCO.out.mono ?_
    rintro e w9 ⟨x, rfl, hv, hb9, hfl⟩
    obtain ⟨a1, m1, k1, rfl, hrd⟩ := vr_form hv
    have HB9 := Lib.hid (HBA.out.trans (hb9.mono HBA.out.size))
    have HZ9 := Lib.hid (bx_keep HZA.out hb9)
    have hg := grown_cell4 w9 b11 (.bool o.isSome) (.int .i64 (oC o)) (.int .i64 (oN o)) (.slice a1 m1 k1)
    have hset := set4 HZ9.out (.bool o.isSome) (.int .i64 (oC o)) (.int .i64 (oN o)) (.slice a1 m1 k1)
    have hb10 := HB9.out.grown hg HB9.out.size (fun k e => by cases e; exact hl6)
    have hrd10 := rd_grown hrd hg (fun k e h => by cases e; have h2 : wA.heap.size ≤ b11 := h; omega)
    obtain ⟨z0, z1, z2, z3⟩ := bx_cells4 HZ9.out
    obtain ⟨f0, f1, f2, f3⟩ := bx_free4 HZ9.out
    obtain ⟨w10, HW10⟩ := nameIt ((((w9.setCell ⟨b11, 0, none⟩ (.bool o.isSome)).setCell ⟨b11, 0 + 1, none⟩ (.int .i64 (oC o))).setCell ⟨b11, 0 + 2, none⟩ (.int .i64 (oN o))).setCell ⟨b11, 0 + 3, none⟩ (.slice a1 m1 k1))
    rw [HW10.out] at hset hb10 hrd10
    have HX10 := Lib.hid hset
    have HB10 := Lib.hid hb10
    have HRD10 := Lib.hid hrd10
    have HFP := Lib.hid (hfl w10 hb10)
    clear hv hb9 hg hset hb10 hrd10 hrd hfl x0 x1 x2 x3
    go_upto_region 10 with fail
    simp only [Nat.zero_add] at HW10
    rw [HW10.out]
    clear HW10 z0 z1 z2 z3 f0 f1 f2 f3
    obtain ⟨z0, z1, z2, z3⟩ := bx_cells4 HX10.out
    obtain ⟨x0, x1, x2, x3⟩ := bx_cells4 (bx_keep HG0.out HB10.out)
    cases o with
    | none =>
      simp only [Option.isSome] at z0
      go_wp2_with fail
      refine HFP.out.mono ?_
      rintro e wB ⟨vv, zz, rfl, hbB, h1, h2⟩
      subst h1 h2
      have HE := Lib.hid (HFIN.out wB (HB0.out.trans ((HB10.out.trans (hbB.mono HB10.out.size)).mono HB0.out.size)))
      clear hbB
      go_wp2_with fail
      exact HE.out
    | some v =>
      simp only [Option.isSome] at z0
      obtain ⟨vn, HVN⟩ := nameIt (oN (some v))
      have e0 : v.n = vn := HVN.out
      rw [HVN.out] at z2
      by_cases hbig : 2000 < vn
      · have hbig' : (2000 : Int) < (vn : Int) := by omega
        have HBV : Hid (2000 < v.n) := by show _ < _; omega
        clear e0 hwo
        go_wp2_with fail
        refine HFP.out.mono ?_
        rintro e wB ⟨vv, zz, rfl, hbB, hm⟩
        have hm2 : vv = .slice none 0 0 ∧ zz = 2 := by
          have h : (if 2000 < v.n then vv = .slice none 0 0 ∧ zz = 2 else Sl wB vv (ints v.w) ∧ zz = 0) := hm
          rw [if_pos HBV.out] at h
          exact h
        obtain ⟨h1, h2⟩ := hm2
        subst h1 h2
        have HE := Lib.hid (HFIN.out wB (HB0.out.trans ((HB10.out.trans (hbB.mono HB10.out.size)).mono HB0.out.size)))
        clear hbB hm
        go_wp2_with fail
        exact HE.out
      · have hbig' : ¬ (2000 : Int) < (vn : Int) := by omega
        have HBV : Hid (¬ 2000 < v.n) := by show ¬ _; omega
        clear e0 hwo
        go_wp2_with fail
        refine HFP.out.mono ?_
        rintro e wB ⟨vv, zz, rfl, hbB, hm⟩
        have hm2 : Sl wB vv (ints v.w) ∧ zz = 0 := by
          have h : (if 2000 < v.n then vv = .slice none 0 0 ∧ zz = 2 else Sl wB vv (ints v.w) ∧ zz = 0) := hm
          rw [if_neg HBV.out] at h
          exact h
        obtain ⟨h1, h2⟩ := hm2
        subst h2
        obtain ⟨av, kv, hvf⟩ := h1.form
        subst hvf
        have heq := equal _ _ v.w v.w wB h1 ((sl_rd HRD10.out).keep hbB)
        have ebb : (v.w == v.w) = true := by simp
        rw [ebb] at heq
        obtain ⟨nw, HNW⟩ := nameIt (ints v.w).length
        rw [HNW.out] at heq
        rw [HNW.out]
        have HEQ := Lib.hid heq
        obtain ⟨z0, z1, z2, z3⟩ := bx_cells4 (bx_keep HX10.out hbB)
        have HBB := Lib.hid (HB10.out.trans (hbB.mono HB10.out.size))
        clear hbB h1 heq ebb hm
        go_wp2_with fail
        refine HEQ.out.mono ?_
        rintro e wC ⟨rfl, hbC⟩
        have HE := Lib.hid (HFIN.out wC (HB0.out.trans ((HBB.out.trans (hbC.mono HBB.out.size)).mono HB0.out.size)))
        clear hbC
        go_wp2_with fail
        exact HE.out
  · have hne : (z == 0) = false := by simpa using e1
    have hne' : (z != 0) = true := by simpa using e1
    have HBZ := Lib.hid (HBD.out e1 wA HBA.out)
    clear e1
    go_wp2_with fail
    refine HBZ.out.mono ?_
    rintro e w9 ⟨rfl, hb9⟩
    have HE := Lib.hid (HFIN.out w9 (HB0.out.trans ((HBA.out.trans (hb9.mono HBA.out.size)).mono HB0.out.size)))
    clear hb9
    go_wp2_with fail
    exact HE.out
end Hl
end Go.Proofs.Ytjpmebppdcclbaa
namespace Go.Proofs.Ytjpmebppdcclbaa
open Go.RowKit Go.ChangeShapes Go.WideShapes Go.Deep

/-- data of a type read as plain data, as far as the fuel N goes: sz: at most its bulk; ok: what its numbers keep; lim: what the reach gives -/
def OpensF {α : Type} (P : Program) (t : TypeId) (e : α → D) (sz : α → Nat) (ok lim : α → Prop) (N : Nat) : Prop :=
  ∀ (H : Type) (enc : TypeId × Value → H) (w : World) (n : Nat) (cs : List Value) (x : DataW H × List MemPlace), n ≤ N → DataW.trod enc P w 0 (fun _ => true) true n t cs = some x →
    ∃ a : α, Rd AnyB w (e a) cs ∧ sz a ≤ Rows.uptoBulk x.1 ∧ ok a ∧ ((∀ y ∈ DataW.weights P t x.1, y ≤ reachBytes) → lim a)
def Opens {α : Type} (P : Program) (t : TypeId) (e : α → D) (sz : α → Nat) (ok lim : α → Prop) : Prop := ∀ N, OpensF P t e sz ok lim N

def i64 (n : Int) : Prop := -9223372036854775808 ≤ n ∧ n ≤ 9223372036854775807
def one {α : Type} (_ : α) : Nat := 1
def any {α : Type} (_ : α) : Prop := True

theorem opens_int {P : Program} {t : TypeId} (ht : P.underlying t = some (.int .i64)) : Opens P t D.int one i64 any := by
  intro N H enc w n cs x _ h
  obtain ⟨z, h1, h2, h3⟩ := DataW.trod_int ht h
  subst h1 h2
  refine ⟨z, rfl, by simp [Rows.uptoBulk, one], ?_, fun _ => trivial⟩
  simpa [Lit.wf, IntKind.min, IntKind.max, IntKind.signed, IntKind.bits, i64] using h3
theorem opens_bool {P : Program} {t : TypeId} (ht : P.underlying t = some .bool) : Opens P t D.bool one any any := by
  intro N H enc w n cs x _ h
  obtain ⟨z, h1, h2⟩ := DataW.trod_bool ht h
  subst h1 h2
  exact ⟨z, rfl, by simp [Rows.uptoBulk, one], trivial, fun _ => trivial⟩

theorem bulkAll_append {H : Type} (l r : List (DataW H)) : Rows.uptoBulkAll (l ++ r) = Rows.uptoBulkAll l + Rows.uptoBulkAll r := by
  induction l with
  | nil => simp [Rows.uptoBulkAll]
  | cons x l ih => simp only [List.cons_append, Rows.uptoBulkAll, ih]; omega
theorem weightsAll_append {H : Type} (P : Program) (e : TypeId) (l r : List (DataW H)) : DataW.weightsAll P e (l ++ r) = DataW.weightsAll P e l ++ DataW.weightsAll P e r := by
  induction l with
  | nil => simp [DataW.weightsAll]
  | cons x l ih => simp [DataW.weightsAll, ih]

def slD {α : Type} (e : α → D) (l : List α) : D := .sl (l.map e)
def slSz {α : Type} (sz : α → Nat) (l : List α) : Nat := (l.map sz).sum + 1
def slOk {α : Type} (ok : α → Prop) (l : List α) : Prop := ∀ a ∈ l, ok a
def slLim {α : Type} (b : Nat) (lim : α → Prop) (l : List α) : Prop := l.length * b ≤ reachBytes ∧ ∀ a ∈ l, lim a

theorem opens_slice {α : Type} {P : Program} {t el : TypeId} {e : α → D} {sz : α → Nat} {ok lim : α → Prop} {N b : Nat} (ht : P.underlying t = some (.slice el)) (hby : P.bytesOf el = b) (ho : OpensF P el e sz ok lim N) :
    OpensF P t (slD e) (slSz sz) (slOk ok) (slLim b lim) N := by
  intro H enc w n cs x hn h
  rcases DataW.trod_slice ht h with ⟨rfl, rfl⟩ | ⟨a, len, cap, elems, rest, n', hf, rfl, rfl, hb, hl, hm, hlen, hel, _, _⟩
  · exact ⟨[], ⟨none, 0, [], rfl, by simp, by simp [maxLen], fun _ => rfl, fun i hi => by simp at hi, rfl⟩, by simp [Rows.uptoBulk, slSz], by simp [slOk], fun _ => ⟨by simp, by simp⟩⟩
  · have key : ∀ k, k ≤ len → ∃ (l : List α) (L : List Value), l.length = k ∧ RdAll AnyB w (l.map e) L ∧ L.length = k * P.cellsOf el ∧ (∀ j (hj : j < L.length), w.cell? (a.add j) = some L[j]) ∧
        (l.map sz).sum ≤ Rows.uptoBulkAll ((elems.take k).map (·.1)) ∧ slOk ok l ∧ ((∀ y ∈ DataW.weightsAll P el ((elems.take k).map (·.1)), y ≤ reachBytes) → ∀ a ∈ l, lim a) := by
      intro k
      induction k with
      | zero => intro _; exact ⟨[], [], rfl, by simp [RdAll], by simp, fun j hj => by simp at hj, by simp, by simp [slOk], fun _ => by simp⟩
      | succ k ih =>
        intro hk
        obtain ⟨l, L, h1, h2, h3, h4, h5, h6, h7⟩ := ih (by omega)
        have hk' : k < elems.length := by omega
        have he := hel k (by omega)
        rw [List.getElem?_eq_getElem hk'] at he
        obtain ⟨cs', hc1, hc2⟩ := Option.bind_eq_some_iff.1 he
        obtain ⟨a', r1, r2, r3, r4⟩ := ho H enc w n' cs' elems[k] (by omega) hc2
        obtain ⟨_, hcl, hcc⟩ := World.cells?_some hc1
        refine ⟨l ++ [a'], L ++ cs', by simp [h1], by rw [List.map_append]; exact RdAll.append h2 (RdAll.one r1), by simp [h3, hcl, Nat.add_mul], ?_, ?_, ?_, ?_⟩
        · intro j hj
          by_cases hjl : j < L.length
          · rw [List.getElem_append_left hjl]; exact h4 j hjl
          · simp at hj
            rw [List.getElem_append_right (by omega)]
            have := hcc (j - L.length) (by omega)
            rw [Deep.add_add, ← h3, show L.length + (j - L.length) = j by omega] at this
            rw [this, List.getElem?_eq_getElem (by omega)]
        · rw [List.take_succ_eq_append_getElem hk', List.map_append, List.map_append, bulkAll_append]
          simp [Rows.uptoBulkAll]
          simp at h5
          omega
        · intro y hy
          rcases List.mem_append.1 hy with h | h
          · exact h6 y h
          · simp at h; subst h; exact r3
        · intro hw y hy
          rw [List.take_succ_eq_append_getElem hk', List.map_append, weightsAll_append] at hw
          rcases List.mem_append.1 hy with h | h
          · exact h7 (fun z hz => hw z (List.mem_append_left _ hz)) y h
          · simp at h; subst h
            exact r4 (fun z hz => hw z (List.mem_append_right _ (by simpa [DataW.weightsAll] using hz)))
    obtain ⟨l, L, h1, h2, h3, h4, h5, h6, h7⟩ := key len (Nat.le_refl _)
    rw [List.take_of_length_le (by omega)] at h5 h7
    refine ⟨l, ⟨some a, cap, L, by simp [h1], by simpa [h1] using hl, hm, (fun h => by cases h), fun i hi => ⟨a, rfl, trivial, h4 i hi⟩, h2⟩, ?_, h6, ?_⟩
    · simp only [Rows.uptoBulk, slSz]; omega
    · intro hw
      simp only [DataW.weights, ht] at hw
      refine ⟨?_, h7 fun y hy => hw y (by simp [hy])⟩
      have := hw ((elems.map (·.1)).length + (rest.map (·.1)).length |>.mul (P.bytesOf el)) (by left)
      rw [h1, ← hlen, ← hby]
      have h8 : elems.length * P.bytesOf el ≤ ((elems.map (·.1)).length + (rest.map (·.1)).length) * P.bytesOf el := Nat.mul_le_mul_right _ (by simp)
      exact Nat.le_trans h8 this

theorem split2 {cs : List Value} {c0 c1 : Nat} (h : cs.length = c0 + c1) : cs = (cs.drop 0).take c0 ++ (cs.drop c0).take c1 := by
  rw [List.drop_zero, List.take_of_length_le (l := cs.drop c0) (by simp; omega), List.take_append_drop]
theorem split3 {cs : List Value} {c0 c1 c2 : Nat} (h : cs.length = c0 + c1 + c2) : cs = (cs.drop 0).take c0 ++ ((cs.drop c0).take c1 ++ (cs.drop (c0 + c1)).take c2) := by
  rw [← List.drop_drop, ← split2' (cs := cs.drop c0) (by simp; omega)]
  simp
where
  split2' {cs : List Value} {c1 c2 : Nat} (h : cs.length = c1 + c2) : cs = cs.take c1 ++ (cs.drop c1).take c2 := by
    have := split2 h
    simpa using this
theorem split4 {cs : List Value} {c0 c1 c2 c3 : Nat} (h : cs.length = c0 + c1 + c2 + c3) : cs = (cs.drop 0).take c0 ++ ((cs.drop c0).take c1 ++ ((cs.drop (c0 + c1)).take c2 ++ (cs.drop (c0 + c1 + c2)).take c3)) := by
  have h3 := split3 (cs := cs.drop c0) (c0 := c1) (c1 := c2) (c2 := c3) (by simp; omega)
  simp only [List.drop_drop, List.drop_zero] at h3 ⊢
  rw [← Nat.add_assoc, Nat.add_zero] at h3
  rw [← h3, List.take_append_drop]

theorem opens_struct2 {α β δ : Type} {P : Program} {t : TypeId} {f0 f1 : Field} {e0 : α → D} {e1 : β → D} {s0 : α → Nat} {s1 : β → Nat} {k0 l0 : α → Prop} {k1 l1 : β → Prop} {N c0 c1 : Nat} (mk : α → β → δ) {e : δ → D} {sz : δ → Nat} {ok lim : δ → Prop}
    (ht : P.underlying t = some (.struct #[f0, f1])) (ho : f0.offset = 0 ∧ f1.offset = c0 ∧ P.cellsOf f0.type = c0 ∧ P.cellsOf f1.type = c1 ∧ P.cellsOf t = c0 + c1)
    (h0 : OpensF P f0.type e0 s0 k0 l0 N) (h1 : OpensF P f1.type e1 s1 k1 l1 N)
    (he : ∀ a b, e (mk a b) = .agg [e0 a, e1 b]) (hs : ∀ a b, sz (mk a b) ≤ s0 a + s1 b + 1) (hk : ∀ a b, k0 a → k1 b → ok (mk a b)) (hl : ∀ a b, l0 a → l1 b → lim (mk a b)) : OpensF P t e sz ok lim (N + 1) := by
  intro H enc w n cs x hn h
  obtain ⟨xs, n', hf, rfl, hcl, hlen, hfs⟩ := DataW.trod_struct ht h
  obtain ⟨o0, o1, p0, p1, p2⟩ := ho
  match xs, hlen with
  | [y0, y1], _ =>
    have g0 : DataW.trod enc P w 0 (fun _ => true) true n' f0.type ((cs.drop f0.offset).take (P.cellsOf f0.type)) = some y0 := by simpa using hfs 0 f0 rfl
    have g1 : DataW.trod enc P w 0 (fun _ => true) true n' f1.type ((cs.drop f1.offset).take (P.cellsOf f1.type)) = some y1 := by simpa using hfs 1 f1 rfl
    obtain ⟨a, r1, r2, r3, r4⟩ := h0 H enc w n' _ _ (by omega) g0
    obtain ⟨b, q1, q2, q3, q4⟩ := h1 H enc w n' _ _ (by omega) g1
    rw [o0, p0] at r1
    rw [o1, p1] at q1
    refine ⟨mk a b, ?_, ?_, hk a b r3 q3, fun hw => ?_⟩
    · rw [he, split2 (hcl.trans p2)]
      exact ⟨_, _, rfl, r1, RdAll.one q1⟩
    · have := hs a b
      simp [Rows.uptoBulk, Rows.uptoBulkAll]; omega
    · simp [DataW.weights, ht, DataW.weightsEach] at hw
      exact hl a b (r4 fun y hy => hw y (by simp [hy])) (q4 fun y hy => hw y (by simp [hy]))

theorem opens_struct4 {α β γ ε δ : Type} {P : Program} {t : TypeId} {f0 f1 f2 f3 : Field} {e0 : α → D} {e1 : β → D} {e2 : γ → D} {e3 : ε → D} {s0 : α → Nat} {s1 : β → Nat} {s2 : γ → Nat} {s3 : ε → Nat} {k0 l0 : α → Prop} {k1 l1 : β → Prop} {k2 l2 : γ → Prop} {k3 l3 : ε → Prop} {N c0 c1 c2 c3 : Nat} (mk : α → β → γ → ε → δ) {e : δ → D} {sz : δ → Nat} {ok lim : δ → Prop}
    (ht : P.underlying t = some (.struct #[f0, f1, f2, f3])) (ho : f0.offset = 0 ∧ f1.offset = c0 ∧ f2.offset = c0 + c1 ∧ f3.offset = c0 + c1 + c2 ∧ P.cellsOf f0.type = c0 ∧ P.cellsOf f1.type = c1 ∧ P.cellsOf f2.type = c2 ∧ P.cellsOf f3.type = c3 ∧ P.cellsOf t = c0 + c1 + c2 + c3)
    (h0 : OpensF P f0.type e0 s0 k0 l0 N) (h1 : OpensF P f1.type e1 s1 k1 l1 N) (h2 : OpensF P f2.type e2 s2 k2 l2 N) (h3 : OpensF P f3.type e3 s3 k3 l3 N)
    (he : ∀ a b c d, e (mk a b c d) = .agg [e0 a, e1 b, e2 c, e3 d]) (hs : ∀ a b c d, sz (mk a b c d) ≤ s0 a + s1 b + s2 c + s3 d + 1) (hk : ∀ a b c d, k0 a → k1 b → k2 c → k3 d → ok (mk a b c d)) (hl : ∀ a b c d, l0 a → l1 b → l2 c → l3 d → lim (mk a b c d)) : OpensF P t e sz ok lim (N + 1) := by
  intro H enc w n cs x hn h
  obtain ⟨xs, n', hf, rfl, hcl, hlen, hfs⟩ := DataW.trod_struct ht h
  obtain ⟨o0, o1, o2, o3, p0, p1, p2, p3, p4⟩ := ho
  match xs, hlen with
  | [y0, y1, y2, y3], _ =>
    have g0 : DataW.trod enc P w 0 (fun _ => true) true n' f0.type ((cs.drop f0.offset).take (P.cellsOf f0.type)) = some y0 := by simpa using hfs 0 f0 rfl
    have g1 : DataW.trod enc P w 0 (fun _ => true) true n' f1.type ((cs.drop f1.offset).take (P.cellsOf f1.type)) = some y1 := by simpa using hfs 1 f1 rfl
    have g2 : DataW.trod enc P w 0 (fun _ => true) true n' f2.type ((cs.drop f2.offset).take (P.cellsOf f2.type)) = some y2 := by simpa using hfs 2 f2 rfl
    have g3 : DataW.trod enc P w 0 (fun _ => true) true n' f3.type ((cs.drop f3.offset).take (P.cellsOf f3.type)) = some y3 := by simpa using hfs 3 f3 rfl
    obtain ⟨a, r1, r2, r3, r4⟩ := h0 H enc w n' _ _ (by omega) g0
    obtain ⟨b, q1, q2, q3, q4⟩ := h1 H enc w n' _ _ (by omega) g1
    obtain ⟨c, u1, u2, u3, u4⟩ := h2 H enc w n' _ _ (by omega) g2
    obtain ⟨d, v1, v2, v3, v4⟩ := h3 H enc w n' _ _ (by omega) g3
    rw [o0, p0] at r1
    rw [o1, p1] at q1
    rw [o2, p2] at u1
    rw [o3, p3] at v1
    refine ⟨mk a b c d, ?_, ?_, hk a b c d r3 q3 u3 v3, fun hw => ?_⟩
    · rw [he, split4 (hcl.trans p4)]
      exact ⟨_, _, rfl, r1, _, _, rfl, q1, _, _, rfl, u1, RdAll.one v1⟩
    · have := hs a b c d
      simp [Rows.uptoBulk, Rows.uptoBulkAll]; omega
    · simp [DataW.weights, ht, DataW.weightsEach] at hw
      exact hl a b c d (r4 fun y hy => hw y (by simp [hy])) (q4 fun y hy => hw y (by simp [hy])) (u4 fun y hy => hw y (by simp [hy])) (v4 fun y hy => hw y (by simp [hy]))

/-- the argument j -/
theorem open_arg {α : Type} {P : Program} {t : TypeId} {e : α → D} {sz : α → Nat} {ok lim : α → Prop} (ho : Opens P t e sz ok lim) {H : Type} {enc : TypeId × Value → H} {W : World} {v : Value} {d : DataW H} {p : List MemPlace} (h : DataW.Trod enc P W 0 (fun _ => true) true t v d p) :
    ∃ a : α, Rd AnyB W (e a) v.cells.toList ∧ sz a ≤ Rows.uptoBulk d ∧ ok a ∧ ((∀ y ∈ DataW.weights P t d, y ≤ reachBytes) → lim a) := by
  obtain ⟨n, hn⟩ := h
  exact ho n H enc W n _ _ (Nat.le_refl _) hn
end Go.Proofs.Ytjpmebppdcclbaa
namespace Go.Proofs.Ytjpmebppdcclbaa
open Go.RowKit Go.ChangeShapes Go.WideShapes Go.Deep Go.Joins

def okSym (s : Sym) : Prop := i64 s.n
def okRule (r : Rule) : Prop := i64 r.left ∧ ∀ s ∈ r.right, okSym s
def okGram (g : Gram) : Prop := i64 g.terms ∧ i64 g.nons ∧ i64 g.start ∧ ∀ r ∈ g.rules, okRule r
def szSym (_ : Sym) : Nat := 1
def szRule (r : Rule) : Nat := slSz szSym r.right
def szGram (g : Gram) : Nat := slSz szRule g.rules

set_option maxRecDepth 100000 in
theorem opens_symF (N : Nat) : OpensF Try.prog 44 Sym.d szSym okSym any (N + 1) :=
  opens_struct2 (c0 := 1) (c1 := 1) (fun a b => Sym.mk a b) Try.underlying44 ⟨rfl, rfl, by kernel_rfl, by kernel_rfl, by kernel_rfl⟩ (opens_bool Try.underlying4 N) (opens_int Try.underlying3 N)
    (fun _ _ => rfl) (fun _ _ => by simp [szSym]) (fun _ _ _ h => h) (fun _ _ _ _ => trivial)
set_option maxRecDepth 100000 in
theorem opens_ruleF (N : Nat) : OpensF Try.prog 69 Rule.d szRule okRule any (N + 1 + 1) :=
  opens_struct2 (c0 := 1) (c1 := 1) (fun a b => Rule.mk a b) Try.underlying69 ⟨rfl, rfl, by kernel_rfl, by kernel_rfl, by kernel_rfl⟩ (opens_int Try.underlying3 (N + 1)) (opens_slice Try.underlying47 (b := 16) (by kernel_rfl) (opens_symF N))
    (fun _ _ => rfl) (fun _ _ => by simp [szRule]; omega) (fun _ _ h k => ⟨h, k⟩) (fun _ _ _ _ => trivial)
set_option maxRecDepth 100000 in
theorem opens_gramF (N : Nat) : OpensF Try.prog 24 Gram.d szGram okGram any (N + 1 + 1 + 1) :=
  opens_struct4 (c0 := 1) (c1 := 1) (c2 := 1) (c3 := 1) (fun a b c d => Gram.mk a b c d) Try.underlying24 ⟨rfl, rfl, rfl, rfl, by kernel_rfl, by kernel_rfl, by kernel_rfl, by kernel_rfl, by kernel_rfl⟩ (opens_int Try.underlying3 (N + 1 + 1)) (opens_int Try.underlying3 (N + 1 + 1)) (opens_int Try.underlying3 (N + 1 + 1)) (opens_slice Try.underlying22 (b := 32) (by kernel_rfl) (opens_ruleF N))
    (fun _ _ _ _ => rfl) (fun _ _ _ _ => by simp [szGram]; omega) (fun _ _ _ _ h1 h2 h3 h4 => ⟨h1, h2, h3, h4⟩) (fun _ _ _ _ _ _ _ _ => trivial)
theorem opens_gram : Opens Try.prog 24 Gram.d szGram okGram any := by
  intro N H enc w n cs x hn h
  exact opens_gramF N H enc w n cs x (by omega) h

set_option maxRecDepth 100000 in
theorem open_gramV {W : World} {base : Nat} {v : Value} {g : Gram} (hv : Value.okWide Try.prog W .any base 24 v) (h : Rd AnyB W g.d v.cells.toList) : ∃ u, v = .agg #[.int .i64 g.terms, .int .i64 g.nons, .int .i64 g.start, u] ∧ Rd AnyB W (.sl (g.rules.map Rule.d)) [u] := by
  obtain ⟨cs, rfl, hsz⟩ := okWide_struct Try.underlying24 hv
  obtain ⟨c1, r1, e1, h1, h2⟩ := h
  obtain ⟨c2, r2, rfl, h2, h3⟩ := h2
  obtain ⟨c3, r3, rfl, h3, h4⟩ := h3
  rw [RdAll.one_iff] at h4
  simp [Rd] at h1 h2 h3
  subst h1 h2 h3
  have h5 := h4
  obtain ⟨a, cap, L, e, _⟩ := h4
  subst e
  refine ⟨_, ?_, h5⟩
  congr 1
  exact Array.toList_inj.1 e1
end Go.Proofs.Ytjpmebppdcclbaa
namespace Go.Proofs.Ytjpmebppdcclbaa
open Go.RowKit Go.ChangeShapes Go.WideShapes Go.Deep Go.Joins

end Go.Proofs.Ytjpmebppdcclbaa
namespace Go.Proofs.Ytjpmebppdcclbaa
open Go.RowKit Go.ChangeShapes Go.WideShapes Go.Deep

set_option maxRecDepth 100000 in
theorem opens_syms : Opens Try.prog 47 (slD Sym.d) (slSz szSym) (slOk okSym) (slLim 16 any) := by
  intro N H enc w n cs x hn h
  exact opens_slice Try.underlying47 (b := 16) (by kernel_rfl) (opens_symF N) H enc w n cs x (by omega) h
set_option maxRecDepth 100000 in
theorem open_symsV {W : World} {base : Nat} {v : Value} {l : List Sym} (hv : Value.okWide Try.prog W .any base 47 v) (h : Rd AnyB W (slD Sym.d l) v.cells.toList) : Rd AnyB W (.sl (l.map Sym.d)) [v] := by
  obtain ⟨ad, len, cap, rfl⟩ := okWide_slice Try.underlying47 hv
  exact h
end Go.Proofs.Ytjpmebppdcclbaa
namespace Go.Proofs.Ytjpmebppdcclbaa.RowHoleFills
open Go.ChangeShapes Go.WideShapes Go.ChangeAt Go.RowKit
theorem own : ownKnob Try.prog.godebug = none := by kernel_rfl
theorem laidOut : laidOutB Try.prog = true := by kernel_rfl

set_option maxRecDepth 100000 in
theorem contract (H : Type) (enc : TypeId × Value → H) (W : World) (base : Nat) (args : Array Value) (ds gs : List (DataW H)) (before : List MemPlace)
    (hval0 : ∀ (j : Nat) t v, Try.f5.params[j]? = some t → args[j]? = some v → Value.okWide Try.prog W .any base t v)
    (hW : DataW.Whole enc Try.prog Try.f5.params.toList Rows.holeFillsSpec.vars false W args.toList ds gs before)
    (hsz0 : (DataW.weightsEach Try.prog (Try.f5.params.toList ++ Rows.holeFillsSpec.plain.varTypes Try.prog) (ds ++ gs)).all (· ≤ reachBytes) = true) :
    Calls Try.prog 5 args W fun e W' => ∃ v, e = .returned v ∧ Rows.holeFillsSpec.post enc Try.prog Try.f5 false true false false W args v W' := by
  have hval : ∀ (j : Nat) t v, Try.f5.params[j]? = some t → args[j]? = some v → Value.okWide Try.prog W .any base t v := hval0
  have hW' := hW
  obtain ⟨p, q, hA0, hV, rfl, hfz, hnd⟩ := hW
  have hA : DataW.TrodAll enc Try.prog W 0 (fun _ => true) true Try.f5.params.toList args.toList ds p := hA0
  have hsz : (DataW.weightsEach Try.prog (Try.f5.params.toList ++ Rows.holeFillsSpec.plain.varTypes Try.prog) (ds ++ gs)).all (· ≤ reachBytes) = true := hsz0
  rw [Try.params5] at hA hval hsz
  obtain ⟨v0, vs0, d0, ds0, p0, q0, hargs, rfl, rfl, h0, r0'⟩ := trodAll_cons hA
  obtain ⟨v1, vs1, d1, ds1, p1, q1, rfl, rfl, rfl, h1, r1'⟩ := trodAll_cons r0'
  obtain ⟨rfl, rfl, rfl⟩ := trodAll_nil r1'
  obtain rfl : args = #[v0, v1] := by cases args; simp_all
  obtain ⟨rfl, rfl⟩ := trodVars_none hV
  have lt0 : ∀ x ∈ p0, x.block < W.heap.size := by obtain ⟨m, hm⟩ := h0; exact DataW.trod_lt m _ _ _ hm
  have tr0 := h0
  have lt1 : ∀ x ∈ p1, x.block < W.heap.size := by obtain ⟨m, hm⟩ := h1; exact DataW.trod_lt m _ _ _ hm
  have tr1 := h1
  have weightsAt : ∀ (j : Nat) {t : TypeId} {d : DataW H}, (Try.f5.params.toList ++ Rows.holeFillsSpec.plain.varTypes Try.prog)[j]? = some t → ([d0, d1] ++ [])[j]? = some d → ∀ y ∈ DataW.weights Try.prog t d, y ≤ reachBytes := fun j t d ht hd y hy => of_decide_eq_true (List.all_eq_true.1 hsz0 y (DataW.weights_mem_each ht hd y hy))
  obtain ⟨a0, rd0, sz0, k0, li0⟩ := open_arg opens_gram h0
  have lim0 := li0 (weightsAt 0 rfl rfl)
  obtain ⟨u0, rfl, r0⟩ := open_gramV (hval 0 24 v0 rfl rfl) rd0
  obtain ⟨a1, rd1, sz1, k1, li1⟩ := open_arg opens_syms h1
  have lim1 := li1 (weightsAt 1 rfl rfl)
  have r1 := open_symsV (hval 1 47 v1 rfl rfl) rd1
  clear hA0 hval0
  refine (Hl.lawHF a0 u0 a1 v1 W r0 r1).mono fun e W' ⟨he, bel⟩ => ?_
  subst he
  exact ⟨_, rfl, _, _, _, [], _, [], hW', trodAll_mk1 (shut_bool Try.underlying4 _), (trodAll_cons_mk (Below.trod laidOut (by kernel_rfl) (of_decide_eq_true (by kernel_rfl)) tr0 bel lt0) (trodAll_cons_mk (Below.trod laidOut (by kernel_rfl) (of_decide_eq_true (by kernel_rfl)) tr1 bel lt1) trodAll_mk0)), rfl, bel.frame _, fun h => by cases h⟩

set_option maxRecDepth 100000 in
theorem lifted (os : Os) (started : os.Started) (H : Type) (enc : TypeId × Value → H) :
    ReturnsInHanded {} Try.checked os 5 .any (Rows.holeFillsSpec.pre6 enc Try.prog Try.f5 Rows.holeFillsRow.domain false) (Rows.holeFillsSpec.post enc Try.prog Try.f5 false true false false) := by
  refine returnsInHanded_of_change_sized (C := Try.checked) own started (by kernel_rfl) Try.func5
    (ChangeSpec.witness6 (enc := enc) (C := Try.checked) false ⟨#[], #[.agg #[.int .i64 0, .int .i64 0, .int .i64 0, .slice none 0 0], .slice none 0 0], []⟩ 8 (by kernel_rfl) (by kernel_rfl) (by kernel_rfl) (by kernel_rfl)) ?_
  intro W base args ds gs before hval0 hW hcnd hsz0 _
  exact contract H enc W base args ds gs before hval0 hW hsz0

theorem over : Rows.holeFillsRow.holds Try.pinned (OpenSpec.ofChange Rows.holeFillsSpec) :=
  OpenClaim.holds_of_wide 5 Try.f5 rfl rfl rfl rfl rfl rfl rfl ⟨rfl, rfl, rfl, rfl, rfl⟩ rfl rfl rfl rfl rfl (by kernel_rfl) Try.func5 (by kernel_rfl)
    (of_decide_eq_true (by kernel_rfl)) (by unfold Func.isWrapper; first | (rw [if_pos (by decide +kernel)]; kernel_rfl) | (rw [if_neg (by decide +kernel)]; exact ⟨rfl, rfl⟩))
    (fun os started H enc _ => lifted os started H enc)
end Go.Proofs.Ytjpmebppdcclbaa.RowHoleFills
namespace Go.Proofs.Ytjpmebppdcclbaa
theorem holeFills_holds : Rows.HoleFillsSaid := RowHoleFills.over
#print axioms holeFills_holds
end Go.Proofs.Ytjpmebppdcclbaa
