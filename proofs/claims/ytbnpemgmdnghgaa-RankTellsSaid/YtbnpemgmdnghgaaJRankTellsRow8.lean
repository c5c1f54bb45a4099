/- rank.numberer.of. The contracts of gram.Root and of the functions of tree.valid. The contracts of tree.valid, tree.Check and tree.Symbol. -/
import Derived.Test.YtbnpemgmdnghgaaJRankTellsRow6
import Derived.Test.YtbnpemgmdnghgaaJRankTellsRow5
import Derived.BigQuiet
import Derived.Test.YtbnpemgmdnghgaaJRankTellsRow3
import Derived.Deep.QuietTactic
import Derived.Laws.StructEq
namespace Go.Proofs.Ytbnpemgmdnghgaa
open Go.RowKit
namespace Cs

def idxC (g : Gram) (S : Nat → Nat → Bool) (N n f : Nat) (t : Tree) : Int := idxF g.rules (symV S (valK g.rules S (MK g.rules S N n) MaxC (-1) (sizeK N n))) (listV S MaxC (symV S (valK g.rules S (MK g.rules S N n) MaxC (-1) (sizeK N n)))) f t
/-- what 'of' answers -/
def OfTPost (g : Gram) (vr : Value) (N n : Nat) (d : Cid) (S : Nat → Nat → Bool) (w1 : World) (f : Nat) (t : Tree) (W : World) (e : Ending) (W' : World) : Prop :=
  ∃ i : Int, e = .returned (.tuple #[.int .i64 (wl t : Int), .int .i64 i]) ∧ i = idxC g S N n f t ∧ Fr N d W W' ∧ CntR g vr N n d S w1 W'
theorem idxC_node {g : Gram} {S : Nat → Nat → Bool} {N n f j : Nat} {t : Tree} (hr : t.rule = (j : Int)) (hj : j < g.rules.length) : idxC g S N n (f + 1) t = kidI (symV S (valK g.rules S (MK g.rules S N n) MaxC (-1) (sizeK N n))) (listV S MaxC (symV S (valK g.rules S (MK g.rules S N n) MaxC (-1) (sizeK N n)))) (idxC g S N n f) t.kids g.rules[j].right
    ((g.rules.take j).foldl (ruleI (listV S MaxC (symV S (valK g.rules S (MK g.rules S N n) MaxC (-1) (sizeK N n)))) g.rules[j].left (wl t)) 0) (wl t) := by
  have h1 : rightI g.rules t = g.rules[j] := by unfold rightI; rw [hr, Int.toNat_natCast, List.getElem?_eq_getElem hj]; rfl
  have h2 : ¬ t.rule = -1 := by omega
  unfold idxC
  rw [idxF, if_neg h2, h1, hr, Int.toNat_natCast]
theorem fold_next {α β : Type} {F : β → α → β} {b : β} {l : List α} {k : Nat} (hk : k < l.length) : (l.take (k + 1)).foldl F b = F ((l.take k).foldl F b) l[k] := by rw [List.take_succ_eq_append_getElem hk, List.foldl_append]; rfl
set_option maxHeartbeats 16000000 in
set_option maxRecDepth 100000 in
theorem ofTE {g : Gram} {ra : Option Addr} {rcap N n : Nat} {d : Cid} {S : Nat → Nat → Bool} {w1 : World} {xb : Nat} (hok : OkC g N) (hn : n ≤ 24) (hR : Rd AnyB w1 (.sl (g.rules.map Rule.d)) [.slice ra g.rules.length rcap]) (hxb : d.cb < xb) :
    ∀ (f : Nat) (t : Tree), (nodes t).length ≤ f → f ≤ 1000000 → OkT g t → wl t ≤ n → ∀ (at' : Option Addr) (ct : Nat) (W : World), Rd AnyB w1 (.sl (t.kids.map Tree.d)) [.slice at' t.kids.length ct] → CntR g (.slice ra g.rules.length rcap) N n d S w1 W →
      W.heap[xb]? = some (.cells #[.int .i64 g.terms, .int .i64 g.nons, .int .i64 g.start, .slice ra g.rules.length rcap, .pointer (some ⟨d.cb, 0, none⟩)] 85 (0, 0)) →
      Calls Try.prog 38 #[.pointer (some ⟨xb, 0, none⟩), .agg #[.int .i64 t.rule, .int .i64 t.term, .slice at' t.kids.length ct]] W (OfTPost g (.slice ra g.rules.length rcap) N n d S w1 f t W) := by
  intro f
  induction f with
  | zero => intro t ht; have := nodes_pos t; omega
  | succ f ih =>
    intro t ht hf1 hv hwl at' ct W hkd hC hx
    obtain ⟨PST, HP⟩ := nameIt (OfTPost g (.slice ra g.rules.length rcap) N n d S w1 (f + 1) t W)
    obtain ⟨w0, HW0⟩ := nameIt (W.alloc (.cells #[.int .i64 t.rule, .int .i64 t.term, .slice at' t.kids.length ct] 42))
    have hb0 : Below W.heap.size W w0 := by rw [← HW0.out]; exact (Below.refl _ _).alloc (Nat.le_refl _) _
    have HC0 := Lib.hid (hC.keep hb0)
    have X0 : Hid (w0.heap[W.heap.size]? = some (.cells #[.int .i64 t.rule, .int .i64 t.term, .slice at' t.kids.length ct] 42 (0, 0))) := by rw [← HW0.out]; exact bx_new _ _ _ rfl
    have HFIN : Hid (∀ (i : Int) W', i = idxC g S N n (f + 1) t → Fr N d w0 W' → CntR g (.slice ra g.rules.length rcap) N n d S w1 W' → PST (.returned (.tuple #[.int .i64 (wl t : Int), .int .i64 i])) W') := by
      intro i W' h0 h1 h2
      rw [← HP.out]
      exact ⟨i, rfl, h0, (Fr.of hb0).trans h1, h2⟩
    rw [HP.out]
    have HTN : Hid (∀ a, a < N → d.rc a ≠ W.heap.size) := hC.big (Nat.le_refl _)
    have HXN : Hid (∀ a, a < N → d.rc a ≠ xb) := hC.over hxb
    have X1 := Lib.hid (bx_keep hx hb0)
    obtain ⟨tb, HTBN⟩ := nameIt W.heap.size
    rw [HTBN.out] at X0 HTN
    rcases hv.cases with hr | ⟨j, hj, hr, hkl⟩
    · have HF := Lib.hid (HFIN.out 0 w0 (by unfold idxC; rw [idxF, if_pos hr]) (Fr.refl _ _ _) HC0.out)
      rw [wl_leaf hr] at HF
      rw [hr] at X0 HW0
      rw [hr]
      obtain ⟨nk, HNK⟩ := nameIt t.kids.length
      obtain ⟨tm, HTM⟩ := nameIt t.term
      rw [HNK.out, HTM.out] at HW0 X0
      rw [HNK.out, HTM.out]
      obtain ⟨y0, y1, y2⟩ := bx_cells3 X0.out
      clear hv hkd hC hx hb0 HP ih ht X0 X1 HC0 hr
      go_enter Try.func38, Try.ntmps38
      go_upto_region 1 with fail
      rw [HW0.out, HTBN.out]
      go_wp2_with fail
      first | exact HF.out | (refine bodyPost_ret (results_tmp2 Try.results38 _ _ _) rfl ?_; exact HF.out)
    · have hrn : t.rule ≠ -1 := by omega
      have HIDX := Lib.hid (idxC_node (S := S) (N := N) (n := n) (f := f) hr hj)
      obtain ⟨V, HVN⟩ := nameIt (symV S (valK g.rules S (MK g.rules S N n) MaxC (-1) (sizeK N n)))
      have HWL := Lib.hid (wl_node hrn)
      have HIH : Hid (∀ i, (hi : i < t.kids.length) → wl t.kids[i] ≤ n → ∀ (a : Option Addr) (c : Nat) (W : World), Rd AnyB w1 (.sl (t.kids[i].kids.map Tree.d)) [.slice a t.kids[i].kids.length c] → CntR g (.slice ra g.rules.length rcap) N n d S w1 W →
          W.heap[xb]? = some (.cells #[.int .i64 g.terms, .int .i64 g.nons, .int .i64 g.start, .slice ra g.rules.length rcap, .pointer (some ⟨d.cb, 0, none⟩)] 85 (0, 0)) →
          Calls Try.prog 38 #[.pointer (some ⟨xb, 0, none⟩), .agg #[.int .i64 t.kids[i].rule, .int .i64 t.kids[i].term, .slice a t.kids[i].kids.length c]] W (OfTPost g (.slice ra g.rules.length rcap) N n d S w1 f t.kids[i] W)) := by
        intro i hi h1 a c W' h2 h3 h4
        exact ih _ (by have := OkT.size hrn hi; omega) (by omega) (hv.kid hrn (List.getElem_mem hi)) h1 a c W' h2 h3 h4
      have HWD : Hid (∀ W', CntR g (.slice ra g.rules.length rcap) N n d S w1 W' → Calls Try.prog 20 #[.agg #[.int .i64 t.rule, .int .i64 t.term, .slice at' t.kids.length ct]] W' (IntsPost (leavesOf (nodes t)) W')) := fun W' hc => wordT t _ W' (hkd.below hc.bel) (by omega)
      have HLS : Hid (∀ (l : List Sym), (∀ s ∈ l, okS N s) → ∀ k, k ≤ n → ∀ a cap, Rd AnyB w1 (.sl (l.map Sym.d)) [.slice a l.length cap] → ∃ v : Int, v = listV S MaxC V l k ∧ ∀ W, CntR g (.slice ra g.rules.length rcap) N n d S w1 W → Calls Try.prog 57 #[.pointer (some ⟨d.cb, 0, none⟩), .slice a l.length cap, .int .i64 (k : Int)] W fun e W' => e = .returned (.int .i64 v) ∧ Fr N d W W' ∧ CntR g (.slice ra g.rules.length rcap) N n d S w1 W') := by
        intro l hl k hk a cap hrd
        refine ⟨listV S MaxC (symV S (valK g.rules S (MK g.rules S N n) MaxC (-1) (sizeK N n))) l k, by rw [HVN.out], fun W hc => ?_⟩
        obtain ⟨C, hc⟩ := hc
        exact (listE (n := n) (by omega) (ofE (d := d) (w0 := w1) (n := n) (by omega) (by have := hok.n2; omega) hok.r (ends_MK (rules := g.rules) (S := S) (N := N) (n := n) hok.r) hR (sizeK N n + 1)) l hl k hk (fun _ _ _ _ _ _ _ _ _ _ => okK_all _ _ _ (Nat.lt_succ_self _)) a cap C W hc hrd)
      have HOS : Hid (∀ (s : Sym), okS N s → ∀ k, k ≤ n → ∃ v : Int, v = V s k ∧ ∀ W, CntR g (.slice ra g.rules.length rcap) N n d S w1 W → Calls Try.prog 29 #[.pointer (some ⟨d.cb, 0, none⟩), .agg #[.bool s.term, .int .i64 s.n], .int .i64 (k : Int)] W fun e W' => e = .returned (.int .i64 v) ∧ Fr N d W W' ∧ CntR g (.slice ra g.rules.length rcap) N n d S w1 W') := by
        intro s hs k hk
        refine ⟨symV S (valK g.rules S (MK g.rules S N n) MaxC (-1) (sizeK N n)) s k, by rw [HVN.out], fun W hc => ?_⟩
        obtain ⟨C, hc⟩ := hc
        exact (ofE (d := d) (w0 := w1) (n := n) (by omega) (by have := hok.n2; omega) hok.r (ends_MK (rules := g.rules) (S := S) (N := N) (n := n) hok.r) hR (sizeK N n + 1) s k C W hs hk (fun _ => okK_all _ _ _ (Nat.lt_succ_self _)) hc)
      obtain ⟨F, HFN⟩ := nameIt (idxC g S N n f)
      obtain ⟨TOT, HTOT⟩ := nameIt (idxC g S N n (f + 1) t)
      obtain ⟨LV, HLVN⟩ := nameIt (listV S MaxC V)
      rw [HVN.out, HLVN.out, HFN.out, HTOT.out] at HIDX
      rw [HTOT.out] at HFIN
      rw [HLVN.out] at HLS
      have HKD := Lib.hid hkd
      have HRD := Lib.hid hR
      have HOKR := Lib.hid hok.r
      have hnons := hok.nons
      have hrc : rcap ≤ maxLen ∧ g.rules.length ≤ rcap := by obtain ⟨a', cap', L, e, h1, h2, _⟩ := hR; simp at e h1; omega
      have hkc : ct ≤ maxLen ∧ t.kids.length ≤ ct := by obtain ⟨a', cap', L, e, h1, h2, _⟩ := hkd; simp at e h1; omega
      unfold maxLen at hrc hkc
      obtain ⟨rbk, ro, rv, hae, -, hrb, r0, r1, hrr⟩ := hR.rule_at hj
      obtain ⟨ar, cr, rfl, hcr1, hcr2⟩ := hrr.form
      rw [List.length_map] at r1 hrr hcr1
      unfold maxLen at hcr2
      have HRR := Lib.hid hrr
      have HOKJ := Lib.hid (hok.r _ (List.getElem_mem hj))
      rw [hkl] at X0 HW0 HWD HKD hkc
      obtain ⟨r, HRN⟩ := nameIt (g.rules[j]'hj)
      rw [HRN.out] at r0 r1 HRR HOKJ hcr1 X0 HW0 HWD HKD hkc
      rw [HRN.out] at HIDX
      rw [hkl, HRN.out]
      have hkl2 : t.kids.length = r.right.length := by rw [hkl, HRN.out]
      obtain ⟨rn, HRNL⟩ := nameIt r.right.length
      rw [HRNL.out] at r1 HRR hcr1 X0 HW0 HWD HKD hkc hkl2
      rw [HRNL.out]
      obtain ⟨lf, HLF⟩ := nameIt r.left
      rw [HLF.out] at r0 HIDX
      obtain ⟨tm, HTM⟩ := nameIt t.term
      rw [hr, HTM.out] at X0 HW0 HWD
      rw [hr, HTM.out]
      obtain ⟨rl, HRL⟩ := nameIt g.rules.length
      obtain ⟨gt, HGT⟩ := nameIt g.terms
      obtain ⟨gs, HGS⟩ := nameIt g.start
      rw [HGT.out, hnons, HGS.out, HRL.out] at X1
      simp only [HGT.out, hnons, HGS.out, HRL.out] at HIH
      rw [HRL.out] at HC0 HFIN HWD HLS HOS HRD hrc
      have hjr : j < rl := by rw [← HRL.out]; exact hj
      have hjr' : (j : Int) < (rl : Int) := by omega
      have hj0 : (0 : Int) ≤ (j : Int) := by omega
      subst hae
      have HNI0 : Hid (NI g (.slice (some ⟨rbk, ro, none⟩) rl rcap) N n d S w1 w0 w0) := NI.start HC0.out
      have HXB : Hid (∀ W', Fr N d w0 W' → W'.heap[xb]? = some (.cells #[.int .i64 gt, .int .i64 (N : Int), .int .i64 gs, .slice (some ⟨rbk, ro, none⟩) rl rcap, .pointer (some ⟨d.cb, 0, none⟩)] 85 (0, 0))) := fun W' h => h.bx X1.out HXN.out
      have HTB : Hid (∀ W', Fr N d w0 W' → W'.heap[tb]? = some (.cells #[.int .i64 (j : Int), .int .i64 tm, .slice at' rn ct] 42 (0, 0))) := fun W' h => h.bx X0.out HTN.out
      have HR0 : Hid (∀ W', Below w1.heap.size w1 W' → W'.cell? ⟨rbk, ro + j * 2, none⟩ = some (.int .i64 lf) ∧ W'.cell? ⟨rbk, ro + j * 2 + 1, none⟩ = some (.slice ar rn cr)) := fun W' h => ⟨(h.cell (lt_of_cell r0)).trans r0, (h.cell (lt_of_cell r1)).trans r1⟩
      obtain ⟨L, HL⟩ := nameIt (wl t)
      have HLV : Hid ((leavesOf (nodes t)).length = L) := HL.out
      rw [HL.out] at HFIN HWL hwl HIDX
      obtain ⟨y0, y1, y2⟩ := bx_cells3 X0.out
      clear hv hkd hC hx hb0 HP ih ht hr hrn hkl hR hrr r0 r1 hok
      go_enter Try.func38, Try.ntmps38
      go_upto_region 1 with fail
      rw [HW0.out, HTBN.out]
      go_wp2_with fail
      with_reducible refine (HWD.out _ HC0.out).mono ?_
      rintro e w2 ⟨v2, rfl, hsl2, hb2⟩
      obtain ⟨av, cv, rfl⟩ := hsl2.form
      have HNI2 := Lib.hid (HNI0.out.keep hb2)
      clear y0 y1 y2 hsl2 hb2
      rw [ints_len, HLV.out]
      obtain ⟨y0, y1, y2⟩ := bx_cells3 (HTB.out _ HNI2.out.fr)
      obtain ⟨x0, x1, x2, x3, x4⟩ := bx_cells5c (HXB.out _ HNI2.out.fr)
      obtain ⟨q0, q1⟩ := HR0.out _ HNI2.out.cs.bel
      go_wp2_with fail
      go_quiet (fail)
      obtain ⟨w3, HW3⟩ := nameIt (w2.drewN nq)
      have HNI3 : Hid (NI g (.slice (some ⟨rbk, ro, none⟩) rl rcap) N n d S w1 w0 w3) := by rw [← HW3.out]; exact HNI2.out.keep (below_drewN _ _)
      rw [HW3.out]
      clear y0 y1 y2 x0 x1 x2 x3 x4 q0 q1 HW3 HNI2
      obtain ⟨y0, y1, y2⟩ := bx_cells3 (HTB.out _ HNI3.out.fr)
      obtain ⟨x0, x1, x2, x3, x4⟩ := bx_cells5c (HXB.out _ HNI3.out.fr)
      have hjc : (j : Int) ≤ (rcap : Int) := by omega
      go_wp2_with fail
      go_quiet (fail)
      obtain ⟨w4, HW4⟩ := nameIt (w3.drewN nq)
      have HNI4 : Hid (NI g (.slice (some ⟨rbk, ro, none⟩) rl rcap) N n d S w1 w0 w4) := by rw [← HW4.out]; exact HNI3.out.keep (below_drewN _ _)
      rw [HW4.out]
      clear y0 y1 y2 x0 x1 x2 x3 x4 HW4 HNI3
      go_wp2_with fail
      go_loopg [8, 44] j (fun gg v8 v44 wr => ∃ (k : Nat) (x : Int), k ≤ j ∧ j - k ≤ gg ∧ v8 = .int .i64 x ∧ v44 = .int .i64 k ∧ Hid (x = (g.rules.take k).foldl (ruleI LV lf L) 0) ∧ Hid (NI g (.slice (some ⟨rbk, ro, none⟩) rl rcap) N n d S w1 w0 wr))
      case atStart => exact ⟨0, 0, by omega, by omega, rfl, rfl, rfl, HNI4⟩
      case round =>
        clear HNI4
        obtain ⟨k, x, hk, hg, rfl, rfl, HX5, HNI5⟩ := hrel
        obtain ⟨w5, rfl⟩ : ∃ ww : World, ww = wr := ⟨_, rfl⟩
        by_cases hkj : k < j
        · have hkj' : (k : Int) < (j : Int) := by omega
          have hk0 : (0 : Int) ≤ (k : Int) := by omega
          have hkx : k < g.rules.length := by rw [HRL.out]; omega
          obtain ⟨rbk2, ro2, rv2, hae2, -, hrb2, s0, s1, hrr2⟩ := HRD.out.rule_at hkx
          cases hae2
          obtain ⟨ak, kc, rfl, hkc1, hkc2⟩ := hrr2.form
          rw [List.length_map] at s1 hrr2 hkc1
          unfold maxLen at hkc2
          have t0 := (HNI5.out.cs.bel.cell (lt_of_cell s0)).trans s0
          have t1 := (HNI5.out.cs.bel.cell (lt_of_cell s1)).trans s1
          obtain ⟨lv, hlve, hlv⟩ := HLS.out g.rules[k].right (HOKR.out _ (List.getElem_mem hkx)) L hwl ak kc hrr2
          have HLVE : Hid ((g.rules.take (k + 1)).foldl (ruleI LV lf L) 0 = if g.rules[k].left = lf then IntKind.i64.wrap (x + lv) else x) := by
            show _ = _; rw [fold_next hkx, ← HX5.out, hlve]; rfl
          have HLK := Lib.hid hlv
          clear hlve
          obtain ⟨kn, HKN⟩ := nameIt (g.rules[k]'hkx).right.length
          obtain ⟨kl, HKL⟩ := nameIt (g.rules[k]'hkx).left
          rw [HKN.out] at t1 HLK hkc1
          rw [HKL.out] at t0 HLVE
          obtain ⟨w6, HW6⟩ := nameIt (w5.alloc (.cells #[.int .i64 kl, .slice ak kn kc] 48))
          have HNI6 : Hid (NI g (.slice (some ⟨rbk, ro, none⟩) rl rcap) N n d S w1 w0 w6) := by rw [← HW6.out]; exact HNI5.out.keep ((Below.refl _ _).alloc (Nat.le_refl _) _)
          have Z6 : Hid (w6.heap[w5.heap.size]? = some (.cells #[.int .i64 kl, .slice ak kn kc] 48 (0, 0))) := by rw [← HW6.out]; exact bx_new _ _ _ rfl
          have HZN : Hid (∀ a, a < N → d.rc a ≠ w5.heap.size) := HNI5.out.cs.big (Nat.le_refl _)
          obtain ⟨rbx, HRBX⟩ := nameIt w5.heap.size
          rw [HRBX.out] at Z6 HZN
          clear hrr2 s0 s1 hlv
          go_upto_region 9 with fail
          rw [HW6.out, HRBX.out]
          clear t0 t1
          obtain ⟨y0, y1, y2⟩ := bx_cells3 (HTB.out _ HNI6.out.fr)
          obtain ⟨z0, z1⟩ := bx_cells2 Z6.out
          obtain ⟨eb, HEB⟩ : ∃ eb : Bool, Hid ((kl == lf) = eb) := ⟨_, rfl⟩
          have hebi := HEB.out
          cases eb with
          | false =>
            have HXN : Hid (x = (g.rules.take (k + 1)).foldl (ruleI LV lf L) 0) := by
              show _ = _; rw [HLVE.out, if_neg (by intro e; rw [e] at hebi; simp at hebi)]
            clear HLVE
            go_wp2_with fail
            go_roundg (j - (k + 1))
            case measure => omega
            case rel => exact ⟨k + 1, x, by omega, by omega, rfl, by go_num, HXN, HNI6⟩
          | true =>
            have HXN : Hid (IntKind.i64.wrap (x + lv) = (g.rules.take (k + 1)).foldl (ruleI LV lf L) 0) := by
              show _ = _; rw [HLVE.out, if_pos (by simpa using hebi)]
            clear HLVE
            first
            | (go_upto_region 10 with fail
               clear y0 y1 y2 z0 z1)
            | skip
            have HNC := HNI6
            have HS : Hid (∀ W', Fr N d w6 W' → (fun w' => w'.cell? ⟨xb, 0 + 4, none⟩ = some (.pointer (some ⟨d.cb, 0, none⟩)) ∧ w'.cell? ⟨rbx, 0 + 1, none⟩ = some (.slice ak kn kc)) W') := by
              intro W' hf
              obtain ⟨x0, x1, x2, x3, x4⟩ := bx_cells5c (HXB.out _ (HNI6.out.fr.trans hf))
              obtain ⟨z0, z1⟩ := bx_cells2 (hf.bx Z6.out HZN.out)
              exact ⟨x4, z1⟩
            have HND := Lib.hid (HNI6.out.keep (Below.refl _ _).drew)
            refine wp_region_U (S := (fun w' => w'.cell? ⟨xb, 0 + 4, none⟩ = some (.pointer (some ⟨d.cb, 0, none⟩)) ∧ w'.cell? ⟨rbx, 0 + 1, none⟩ = some (.slice ak kn kc))) 10 (by kernel_rfl) (fun inv => ?_)
            refine wpU_take (i := 0) (v := .int .i64 x) rfl inv (by kernel_rfl) (by kernel_rfl) (by decide) (by decide) (by kernel_rfl) (by kernel_rfl) (by kernel_rfl) (fun _ _ _ h => h) (Or.inl ⟨by rfl, fun w' hw' => ?_⟩) (HS.out _ (Fr.of (Below.refl _ _).drew)) (fun inv => ?_)
            · obtain ⟨h0, h1⟩ := hw'
              go_simp
            try simp only [Act.put, List.setIfInBounds_toArray, List.set_cons_zero, List.set_cons_succ]
            refine wpU_take (i := 1) (v := .pointer (some ⟨xb, 0, none⟩)) rfl inv (by kernel_rfl) (by kernel_rfl) (by decide) (by decide) (by kernel_rfl) (by kernel_rfl) (by kernel_rfl) (fun _ _ _ h => h) (Or.inl ⟨by rfl, fun w' hw' => ?_⟩) (HS.out _ (Fr.of (Below.refl _ _).drew)) (fun inv => ?_)
            · obtain ⟨h0, h1⟩ := hw'
              go_simp
            try simp only [Act.put, List.setIfInBounds_toArray, List.set_cons_zero, List.set_cons_succ]
            refine wpU_take (i := 2) (v := .pointer (some ⟨xb, 0, none⟩)) rfl inv (by kernel_rfl) (by kernel_rfl) (by decide) (by decide) (by kernel_rfl) (by kernel_rfl) (by kernel_rfl) (fun _ _ _ h => h) (Or.inl ⟨by rfl, fun w' hw' => ?_⟩) (HS.out _ (Fr.of (Below.refl _ _).drew)) (fun inv => ?_)
            · obtain ⟨h0, h1⟩ := hw'
              go_simp
            try simp only [Act.put, List.setIfInBounds_toArray, List.set_cons_zero, List.set_cons_succ]
            refine wpU_take (i := 3) (v := .pointer (some ⟨xb, 0 + 4, none⟩)) rfl inv (by kernel_rfl) (by kernel_rfl) (by decide) (by decide) (by kernel_rfl) (by kernel_rfl) (by kernel_rfl) (fun _ _ _ h => h) (Or.inl ⟨by rfl, fun w' hw' => ?_⟩) (HS.out _ (Fr.of (Below.refl _ _).drew)) (fun inv => ?_)
            · obtain ⟨h0, h1⟩ := hw'
              go_simp
            try simp only [Act.put, List.setIfInBounds_toArray, List.set_cons_zero, List.set_cons_succ]
            refine wpU_take (i := 4) (v := .pointer (some ⟨d.cb, 0, none⟩)) rfl inv (by kernel_rfl) (by kernel_rfl) (by decide) (by decide) (by kernel_rfl) (by kernel_rfl) (by kernel_rfl) (fun _ _ _ h => h) (Or.inl ⟨by rfl, fun w' hw' => ?_⟩) (HS.out _ (Fr.of (Below.refl _ _).drew)) (fun inv => ?_)
            · obtain ⟨h0, h1⟩ := hw'
              go_simp
            try simp only [Act.put, List.setIfInBounds_toArray, List.set_cons_zero, List.set_cons_succ]
            refine wpU_take (i := 5) (v := .pointer (some ⟨rbx, 0 + 1, none⟩)) rfl inv (by kernel_rfl) (by kernel_rfl) (by decide) (by decide) (by kernel_rfl) (by kernel_rfl) (by kernel_rfl) (fun _ _ _ h => h) (Or.inl ⟨by rfl, fun w' hw' => ?_⟩) (HS.out _ (Fr.of (Below.refl _ _).drew)) (fun inv => ?_)
            · obtain ⟨h0, h1⟩ := hw'
              go_simp
            try simp only [Act.put, List.setIfInBounds_toArray, List.set_cons_zero, List.set_cons_succ]
            refine wpU_take (i := 6) (v := .slice ak kn kc) rfl inv (by kernel_rfl) (by kernel_rfl) (by decide) (by decide) (by kernel_rfl) (by kernel_rfl) (by kernel_rfl) (fun _ _ _ h => h) (Or.inl ⟨by rfl, fun w' hw' => ?_⟩) (HS.out _ (Fr.of (Below.refl _ _).drew)) (fun inv => ?_)
            · obtain ⟨h0, h1⟩ := hw'
              go_simp
            try simp only [Act.put, List.setIfInBounds_toArray, List.set_cons_zero, List.set_cons_succ]
            refine wpU_take (i := 7) (v := .int .i64 (L : Int)) rfl inv (by kernel_rfl) (by kernel_rfl) (by decide) (by decide) (by kernel_rfl) (by kernel_rfl) (by kernel_rfl) (fun _ _ _ h => h) (Or.inl ⟨by rfl, fun w' hw' => ?_⟩) (HS.out _ (Fr.of (Below.refl _ _).drew)) (fun inv => ?_)
            · obtain ⟨h0, h1⟩ := hw'
              go_simp
            try simp only [Act.put, List.setIfInBounds_toArray, List.set_cons_zero, List.set_cons_succ]
            refine wpU_one (i := 8) (by kernel_rfl) rfl (fun K hK => ?_)
            replace inv := inv_setc (i := 8) inv (by kernel_rfl) (by decide)
            go_simp
            with_reducible refine (HLK.out _ HND.out.cs).mono ?_
            rintro e w7 ⟨rfl, hf, hc⟩
            have HNw7 := Lib.hid (HND.out.of hf hc)
            have HFS : Hid (Fr N d w6 w7) := (Fr.of (Below.refl _ _).drew).trans hf
            clear hf hc HND
            refine hK.out _ _ (fun _ => HS.out _ HFS.out) ?_
            clear hK K
            try simp only [Act.put, List.setIfInBounds_toArray, List.set_cons_zero, List.set_cons_succ]
            refine wpU_one (i := 9) (by kernel_rfl) rfl (fun K hK => ?_)
            replace inv := inv_setc (i := 9) inv (by kernel_rfl) (by decide)
            go_simp
            refine hK.out _ _ (fun _ => HS.out _ HFS.out) ?_
            clear hK K
            try simp only [Act.put, List.setIfInBounds_toArray, List.set_cons_zero, List.set_cons_succ]
            refine wpU_one (i := 10) (by kernel_rfl) rfl (fun K hK => ?_)
            go_simp
            refine hK.out _ _ (fun h => absurd (show true = false from h) (by decide)) ?_
            clear hK K
            try simp only [Act.put, List.setIfInBounds_toArray, List.set_cons_zero, List.set_cons_succ]
            refine wpU_done (by kernel_rfl) ?_ _
            clear HS HFS
            go_wp2_with fail
            go_roundg (j - (k + 1))
            case measure => omega
            case rel => exact ⟨k + 1, _, by omega, by omega, rfl, by go_num, HXN, HNw7⟩
        · have hkj' : ¬ (k : Int) < (j : Int) := by omega
          have HK0 : Hid (kidI V LV F (t.kids.drop 0) (r.right.drop 0) x L = TOT) := by
            show _ = _; rw [List.drop_zero, List.drop_zero, HX5.out, show k = j by omega]; exact HIDX.out.symm
          obtain ⟨y0, y1, y2⟩ := bx_cells3 (HTB.out _ HNI5.out.fr)
          obtain ⟨x0, x1, x2, x3, x4⟩ := bx_cells5c (HXB.out _ HNI5.out.fr)
          obtain ⟨q0, q1⟩ := HR0.out _ HNI5.out.cs.bel
          go_wp2_with fail
          go_quiet (fail)
          obtain ⟨w6, HW6⟩ := nameIt (w5.drewN nq)
          have HNI6 : Hid (NI g (.slice (some ⟨rbk, ro, none⟩) rl rcap) N n d S w1 w0 w6) := by rw [← HW6.out]; exact HNI5.out.keep (below_drewN _ _)
          rw [HW6.out]
          clear y0 y1 y2 x0 x1 x2 x3 x4 q0 q1 HW6 HNI5
          obtain ⟨y0, y1, y2⟩ := bx_cells3 (HTB.out _ HNI6.out.fr)
          have HL0 : Hid (L = L - wlp t.kids 0) := by show _ = _; rw [wlp_zero]; omega
          go_wp2_with fail
          clear y0 y1 y2
          go_loopg [8, 11, 84] rn (fun gg v8 v11 v84 wr => ∃ (i : Nat) (x : Int) (rest : Nat), i ≤ rn ∧ rn - i ≤ gg ∧ v8 = .int .i64 x ∧ v11 = .int .i64 (rest : Int) ∧ v84 = .int .i64 i ∧ Hid (rest = L - wlp t.kids i) ∧ Hid (kidI V LV F (t.kids.drop i) (r.right.drop i) x rest = TOT) ∧ Hid (NI g (.slice (some ⟨rbk, ro, none⟩) rl rcap) N n d S w1 w0 wr))
          case atStart => exact ⟨0, x, L, by omega, by omega, rfl, rfl, rfl, HL0, HK0, HNI6⟩
          case round =>
            clear HNI6 HL0 HK0
            obtain ⟨i, x, rest, hi, hg2, rfl, rfl, rfl, HRS, HKI, HNI6⟩ := hrel
            obtain ⟨w6, rfl⟩ : ∃ ww : World, ww = wr := ⟨_, rfl⟩
            by_cases hirn : i < rn
            · have hirn' : (i : Int) < (rn : Int) := by omega
              have hi0 : (0 : Int) ≤ (i : Int) := by omega
              have hik : i < t.kids.length := by omega
              have hir : i < r.right.length := by rw [HRNL.out]; exact hirn
              obtain ⟨kb, ko, kv, hke, -, hkb, s0, s1, s2, hkk⟩ := HKD.out.kid hik
              obtain ⟨ak, kc, rfl, hkc1, hkc2⟩ := hkk.form
              rw [List.length_map] at s2 hkk hkc1
              unfold maxLen at hkc2
              obtain ⟨sb, so, hse, -, hsb, u0, u1⟩ := HRR.out.sym_at hir
              have HKN1 : Hid (kidI V LV F (t.kids.drop (i + 1)) (r.right.drop (i + 1)) (IntKind.i64.wrap (posI (V r.right[i]) (LV (r.right.drop (i + 1))) rest (wl t.kids[i]) x + IntKind.i64.wrap (F t.kids[i] * LV (r.right.drop (i + 1)) (rest - wl t.kids[i])))) (rest - wl t.kids[i]) = TOT) := by
                show _ = _; rw [← kidI_at hik hir]; exact HKI.out
              have HSYC : Hid (∀ W, Below w1.heap.size w1 W → ∀ W', Fr N d W W' → W'.cell? ⟨sb, so + i * 2, none⟩ = some (.bool r.right[i].term) ∧ W'.cell? ⟨sb, so + i * 2 + 1, none⟩ = some (.int .i64 r.right[i].n)) := by
                intro W2 hb W' hf
                have hlo : ∀ a, a < N → d.rc a ≠ sb := HC0.out.low hsb
                have e1 := hf.block sb (by have := hb.size; omega) hlo
                have e2 := hb.block sb hsb
                have hcell : ∀ o, W'.cell? ⟨sb, o, none⟩ = w1.cell? ⟨sb, o, none⟩ := fun o => World.cell?_of_block (w := w1) (e1.trans e2)
                exact ⟨(hcell _).trans u0, (hcell _).trans u1⟩
              have HOKS := Lib.hid (HOKJ.out _ (List.getElem_mem hir))
              obtain ⟨⟨st, sn⟩, HSY⟩ := nameIt (r.right[i]'hir)
              rw [HSY.out] at HSYC HOKS HKN1
              simp only at HSYC
              have t0 := (HNI6.out.cs.bel.cell (lt_of_cell s0)).trans s0
              have t1 := (HNI6.out.cs.bel.cell (lt_of_cell s1)).trans s1
              have t2 := (HNI6.out.cs.bel.cell (lt_of_cell s2)).trans s2
              have HW9 := Lib.hid (wlp_next hik)
              have hle := wlp_le t.kids (i + 1)
              have hLw : L = wlp t.kids t.kids.length := HWL.out
              obtain ⟨m, HM⟩ := nameIt (wl t.kids[i])
              rw [HM.out] at HKN1
              have hmr : m ≤ rest := by have h1 := HRS.out; have h2 := HW9.out; rw [HM.out] at h2; omega
              have hrestL : rest ≤ L := by have := HRS.out; omega
              have HRS2 : Hid (rest - m = L - wlp t.kids (i + 1)) := by show _ = _; have h1 := HRS.out; have h2 := HW9.out; rw [HM.out] at h2; omega
              have hic := fun W h3 h4 => HIH.out i hik (by rw [HM.out]; omega) ak kc W hkk h3 h4
              have HPO : Hid (∀ W e W', OfTPost g (.slice (some ⟨rbk, ro, none⟩) rl rcap) N n d S w1 f t.kids[i] W e W' → ∃ y : Int, y = F t.kids[i] ∧ e = .returned (.tuple #[.int .i64 (m : Int), .int .i64 y]) ∧ Fr N d W W' ∧ CntR g (.slice (some ⟨rbk, ro, none⟩) rl rcap) N n d S w1 W') := by
                rintro W2 e W' ⟨y, h1, h0, h2, h3⟩
                rw [HM.out] at h1
                exact ⟨y, by rw [← HFN.out]; exact h0, h1, h2, h3⟩
              obtain ⟨kid, HKID⟩ := nameIt (t.kids[i]'hik)
              rw [HKID.out] at t0 t1 t2 hic hkc1 HPO HKN1
              obtain ⟨kr, HKR⟩ := nameIt kid.rule
              obtain ⟨ktm, HKT⟩ := nameIt kid.term
              obtain ⟨kn, HKN⟩ := nameIt kid.kids.length
              rw [HKR.out, HKT.out, HKN.out] at hic
              rw [HKR.out] at t0
              rw [HKT.out] at t1
              rw [HKN.out] at t2 hkc1
              have HIC := Lib.hid hic
              obtain ⟨k1, HK1⟩ := nameIt (i + 1)
              have hrr3 := HRR.out
              rw [hse] at hrr3
              have HRT := Lib.hid (rd_rest (k := 2) (i + 1) hrr3 (syms_cells _) (by omega))
              rw [← List.map_drop, HK1.out] at HRT
              clear hrr3
              have hk1w : IntKind.i64.wrap ((i : Int) + 1) = (k1 : Int) := by rw [IntWalk.i64_in _ (by omega)]; have := HK1.out; omega
              have hk1n : k1 ≤ rn := by have := HK1.out; omega
              have hk1n' : (k1 : Int) ≤ (rn : Int) := by omega
              have hk1c' : (k1 : Int) ≤ (cr : Int) := by omega
              have hk10 : (0 : Int) ≤ (k1 : Int) := by omega
              obtain ⟨soff, HSO⟩ := nameIt (if cr = k1 then so else so + k1 * 2)
              obtain ⟨n2, HN2⟩ := nameIt (rn - k1)
              obtain ⟨c2, HC2⟩ := nameIt (cr - k1)
              have HLL : Hid (∀ k, k ≤ n → ∃ v : Int, v = LV (r.right.drop k1) k ∧ ∀ W, CntR g (.slice (some ⟨rbk, ro, none⟩) rl rcap) N n d S w1 W → Calls Try.prog 57 #[.pointer (some ⟨d.cb, 0, none⟩), .slice (some ⟨sb, soff, none⟩) n2 c2, .int .i64 (k : Int)] W fun e W' => e = .returned (.int .i64 v) ∧ Fr N d W W' ∧ CntR g (.slice (some ⟨rbk, ro, none⟩) rl rcap) N n d S w1 W') := by
                intro k hk
                have hl := HLS.out (r.right.drop k1) (fun s hs => HOKJ.out s (List.mem_of_mem_drop hs)) k hk (some ⟨sb, soff, none⟩) c2
                rw [List.length_drop, HRNL.out, HN2.out] at hl
                refine hl ?_
                rw [← HSO.out, ← HN2.out, ← HC2.out]
                exact HRT.out
              obtain ⟨w7, HW7⟩ := nameIt (w6.alloc (.cells #[.int .i64 kr, .int .i64 ktm, .slice ak kn kc] 42))
              have HNI7 : Hid (NI g (.slice (some ⟨rbk, ro, none⟩) rl rcap) N n d S w1 w0 w7) := by rw [← HW7.out]; exact HNI6.out.keep ((Below.refl _ _).alloc (Nat.le_refl _) _)
              have Z7 : Hid (w7.heap[w6.heap.size]? = some (.cells #[.int .i64 kr, .int .i64 ktm, .slice ak kn kc] 42 (0, 0))) := by rw [← HW7.out]; exact bx_new _ _ _ rfl
              have HICW := Lib.hid (HIC.out w7 HNI7.out.cs (HXB.out _ HNI7.out.fr))
              subst hke
              subst hse
              clear s0 s1 s2 u0 u1 hkk hic hle hLw
              go_upto_region 17 with fail
              rw [HW7.out]
              clear t0 t1 t2
              obtain ⟨z0, z1, z2⟩ := bx_cells3 Z7.out
              go_wp2_with fail
              with_reducible refine HICW.out.mono ?_
              intro e w8 hpo
              obtain ⟨y, hye, rfl, hf8, hc8⟩ := HPO.out _ _ _ hpo
              have HYE := Lib.hid hye
              rw [← hye, HK1.out] at HKN1
              obtain ⟨xs, HXS⟩ : ∃ xs : Int, Hid (xs = x) := ⟨x, rfl⟩
              rw [← HXS.out] at HKN1
              have HP0 : Hid (x = posI (V ⟨st, sn⟩) (LV (r.right.drop k1)) rest 0 xs) := HXS.out.symm
              clear hye
              have HNI8 := Lib.hid (HNI7.out.of hf8 hc8)
              clear z0 z1 z2 hpo hf8 hc8
              go_wp2_with fail
              go_loopg [8, 96] m (fun gg v8 v96 wr => ∃ (p : Nat) (x : Int), p ≤ m ∧ m - p ≤ gg ∧ v8 = .int .i64 x ∧ v96 = .int .i64 p ∧ Hid (x = posI (V ⟨st, sn⟩) (LV (r.right.drop k1)) rest p xs) ∧ Hid (NI g (.slice (some ⟨rbk, ro, none⟩) rl rcap) N n d S w1 w0 wr))
              case atStart => exact ⟨0, x, by omega, by omega, rfl, rfl, HP0, HNI8⟩
              case round =>
                clear HNI8 HP0
                obtain ⟨p, x, hp, hg3, rfl, rfl, HPX, HNI8⟩ := hrel
                obtain ⟨w8, rfl⟩ : ∃ ww : World, ww = wr := ⟨_, rfl⟩
                by_cases hpm : p < m
                · have hpm' : (p : Int) < (m : Int) := by omega
                  obtain ⟨rp, HRP⟩ := nameIt (rest - p)
                  have hrpw : IntKind.i64.wrap ((rest : Int) - (p : Int)) = (rp : Int) := by rw [IntWalk.i64_in _ (by omega)]; have := HRP.out; omega
                  obtain ⟨ways, hwe, hlp⟩ := HLL.out rp (by have := HRP.out; omega)
                  have HLP := Lib.hid hlp
                  obtain ⟨ov, hoe, hop⟩ := HOS.out ⟨st, sn⟩ HOKS.out p (by omega)
                  have HOP := Lib.hid hop
                  simp only at HOP
                  have HPN : Hid (posI (V ⟨st, sn⟩) (LV (r.right.drop k1)) rest (p + 1) xs = if 0 < ways then IntKind.i64.wrap (x + IntKind.i64.wrap (ov * ways)) else x) := by
                    show _ = _; rw [posI_next, ← HPX.out]; unfold posS; rw [HRP.out, ← hwe, ← hoe]
                  clear hlp hop hwe hoe
                  have HS : Hid (∀ W', Fr N d w8 W' → (fun w' => w'.cell? ⟨xb, 0 + 4, none⟩ = some (.pointer (some ⟨d.cb, 0, none⟩))) W') := by
                    intro W' hf
                    obtain ⟨x0, x1, x2, x3, x4⟩ := bx_cells5c (HXB.out _ (HNI8.out.fr.trans hf))
                    exact x4
                  have HND := Lib.hid (HNI8.out.keep (Below.refl _ _).drew)
                  go_upto_region 21 with fail
                  refine wp_region_U (S := (fun w' => w'.cell? ⟨xb, 0 + 4, none⟩ = some (.pointer (some ⟨d.cb, 0, none⟩)))) 12 (by kernel_rfl) (fun inv => ?_)
                  refine wpU_take (i := 0) (v := .pointer (some ⟨xb, 0, none⟩)) rfl inv (by kernel_rfl) (by kernel_rfl) (by decide) (by decide) (by kernel_rfl) (by kernel_rfl) (by kernel_rfl) (fun _ _ _ h => h) (Or.inl ⟨by rfl, fun w' hw' => ?_⟩) (HS.out _ (Fr.of (Below.refl _ _).drew)) (fun inv => ?_)
                  · obtain h0 := hw'
                    go_simp
                  try simp only [Act.put, List.setIfInBounds_toArray, List.set_cons_zero, List.set_cons_succ]
                  refine wpU_take (i := 1) (v := .pointer (some ⟨xb, 0, none⟩)) rfl inv (by kernel_rfl) (by kernel_rfl) (by decide) (by decide) (by kernel_rfl) (by kernel_rfl) (by kernel_rfl) (fun _ _ _ h => h) (Or.inl ⟨by rfl, fun w' hw' => ?_⟩) (HS.out _ (Fr.of (Below.refl _ _).drew)) (fun inv => ?_)
                  · obtain h0 := hw'
                    go_simp
                  try simp only [Act.put, List.setIfInBounds_toArray, List.set_cons_zero, List.set_cons_succ]
                  refine wpU_take (i := 2) (v := .pointer (some ⟨xb, 0 + 4, none⟩)) rfl inv (by kernel_rfl) (by kernel_rfl) (by decide) (by decide) (by kernel_rfl) (by kernel_rfl) (by kernel_rfl) (fun _ _ _ h => h) (Or.inl ⟨by rfl, fun w' hw' => ?_⟩) (HS.out _ (Fr.of (Below.refl _ _).drew)) (fun inv => ?_)
                  · obtain h0 := hw'
                    go_simp
                  try simp only [Act.put, List.setIfInBounds_toArray, List.set_cons_zero, List.set_cons_succ]
                  refine wpU_take (i := 3) (v := .pointer (some ⟨d.cb, 0, none⟩)) rfl inv (by kernel_rfl) (by kernel_rfl) (by decide) (by decide) (by kernel_rfl) (by kernel_rfl) (by kernel_rfl) (fun _ _ _ h => h) (Or.inl ⟨by rfl, fun w' hw' => ?_⟩) (HS.out _ (Fr.of (Below.refl _ _).drew)) (fun inv => ?_)
                  · obtain h0 := hw'
                    go_simp
                  try simp only [Act.put, List.setIfInBounds_toArray, List.set_cons_zero, List.set_cons_succ]
                  refine wpU_take (i := 4) (v := .slice (some ⟨sb, so, none⟩) rn cr) rfl inv (by kernel_rfl) (by kernel_rfl) (by decide) (by decide) (by kernel_rfl) (by kernel_rfl) (by kernel_rfl) (fun _ _ _ h => h) (Or.inl ⟨by rfl, fun w' hw' => ?_⟩) (HS.out _ (Fr.of (Below.refl _ _).drew)) (fun inv => ?_)
                  · obtain h0 := hw'
                    go_simp
                  try simp only [Act.put, List.setIfInBounds_toArray, List.set_cons_zero, List.set_cons_succ]
                  refine wpU_take (i := 5) (v := .int .i64 (i : Int)) rfl inv (by kernel_rfl) (by kernel_rfl) (by decide) (by decide) (by kernel_rfl) (by kernel_rfl) (by kernel_rfl) (fun _ _ _ h => h) (Or.inl ⟨by rfl, fun w' hw' => ?_⟩) (HS.out _ (Fr.of (Below.refl _ _).drew)) (fun inv => ?_)
                  · obtain h0 := hw'
                    go_simp
                  try simp only [Act.put, List.setIfInBounds_toArray, List.set_cons_zero, List.set_cons_succ]
                  refine wpU_take (i := 6) (v := .int .i64 (k1 : Int)) rfl inv (by kernel_rfl) (by kernel_rfl) (by decide) (by decide) (by kernel_rfl) (by kernel_rfl) (by kernel_rfl) (fun _ _ _ h => h) (Or.inl ⟨by rfl, fun w' hw' => ?_⟩) (HS.out _ (Fr.of (Below.refl _ _).drew)) (fun inv => ?_)
                  · obtain h0 := hw'
                    go_simp
                  try simp only [Act.put, List.setIfInBounds_toArray, List.set_cons_zero, List.set_cons_succ]
                  refine wpU_take (i := 7) (v := .slice (some ⟨sb, soff, none⟩) n2 c2) rfl inv (by kernel_rfl) (by kernel_rfl) (by decide) (by decide) (by kernel_rfl) (by kernel_rfl) (by kernel_rfl) (fun _ _ _ h => h) (Or.inl ⟨by rfl, fun w' hw' => ?_⟩) (HS.out _ (Fr.of (Below.refl _ _).drew)) (fun inv => ?_)
                  · obtain h0 := hw'
                    rw [← HSO.out, ← HN2.out, ← HC2.out]; by_cases hct : cr = k1; (rw [if_pos hct, show rn - k1 = 0 by omega, show cr - k1 = 0 by omega]; subst hct; go_simp); (rw [if_neg hct]; go_simp)
                  try simp only [Act.put, List.setIfInBounds_toArray, List.set_cons_zero, List.set_cons_succ]
                  refine wpU_take (i := 8) (v := .int .i64 (rest : Int)) rfl inv (by kernel_rfl) (by kernel_rfl) (by decide) (by decide) (by kernel_rfl) (by kernel_rfl) (by kernel_rfl) (fun _ _ _ h => h) (Or.inl ⟨by rfl, fun w' hw' => ?_⟩) (HS.out _ (Fr.of (Below.refl _ _).drew)) (fun inv => ?_)
                  · obtain h0 := hw'
                    go_simp
                  try simp only [Act.put, List.setIfInBounds_toArray, List.set_cons_zero, List.set_cons_succ]
                  refine wpU_take (i := 9) (v := .int .i64 (p : Int)) rfl inv (by kernel_rfl) (by kernel_rfl) (by decide) (by decide) (by kernel_rfl) (by kernel_rfl) (by kernel_rfl) (fun _ _ _ h => h) (Or.inl ⟨by rfl, fun w' hw' => ?_⟩) (HS.out _ (Fr.of (Below.refl _ _).drew)) (fun inv => ?_)
                  · obtain h0 := hw'
                    go_simp
                  try simp only [Act.put, List.setIfInBounds_toArray, List.set_cons_zero, List.set_cons_succ]
                  refine wpU_take (i := 10) (v := .int .i64 (rp : Int)) rfl inv (by kernel_rfl) (by kernel_rfl) (by decide) (by decide) (by kernel_rfl) (by kernel_rfl) (by kernel_rfl) (fun _ _ _ h => h) (Or.inl ⟨by rfl, fun w' hw' => ?_⟩) (HS.out _ (Fr.of (Below.refl _ _).drew)) (fun inv => ?_)
                  · obtain h0 := hw'
                    go_simp
                  try simp only [Act.put, List.setIfInBounds_toArray, List.set_cons_zero, List.set_cons_succ]
                  refine wpU_one (i := 11) (by kernel_rfl) rfl (fun K hK => ?_)
                  replace inv := inv_setc (i := 11) inv (by kernel_rfl) (by decide)
                  go_simp
                  with_reducible refine (HLP.out _ HND.out.cs).mono ?_
                  rintro e w9 ⟨rfl, hf, hc⟩
                  have HNw9 := Lib.hid (HND.out.of hf hc)
                  have HFS : Hid (Fr N d w8 w9) := (Fr.of (Below.refl _ _).drew).trans hf
                  clear hf hc HND
                  refine hK.out _ _ (fun _ => HS.out _ HFS.out) ?_
                  clear hK K
                  try simp only [Act.put, List.setIfInBounds_toArray, List.set_cons_zero, List.set_cons_succ]
                  refine wpU_one (i := 12) (by kernel_rfl) rfl (fun K hK => ?_)
                  go_simp
                  refine hK.out _ _ (fun h => absurd (show true = false from h) (by decide)) ?_
                  clear hK K
                  try simp only [Act.put, List.setIfInBounds_toArray, List.set_cons_zero, List.set_cons_succ]
                  refine wpU_done (by kernel_rfl) ?_ _
                  clear HS HFS
                  by_cases hwy : 0 < ways
                  · have hwb : decide (0 < ways) = true := by simpa using hwy
                    have HPN2 : Hid (IntKind.i64.wrap (x + IntKind.i64.wrap (ov * ways)) = posI (V ⟨st, sn⟩) (LV (r.right.drop k1)) rest (p + 1) xs) := by
                      show _ = _; rw [HPN.out, if_pos hwy]
                    clear HPN
                    have HS : Hid (∀ W', Fr N d w9 W' → (fun w' => w'.cell? ⟨xb, 0 + 4, none⟩ = some (.pointer (some ⟨d.cb, 0, none⟩)) ∧ w'.cell? ⟨sb, so + i * 2, none⟩ = some (.bool st) ∧ w'.cell? ⟨sb, so + i * 2 + 1, none⟩ = some (.int .i64 sn)) W') := by
                      intro W' hf
                      obtain ⟨x0, x1, x2, x3, x4⟩ := bx_cells5c (HXB.out _ (HNw9.out.fr.trans hf))
                      obtain ⟨k0, k1⟩ := HSYC.out _ (HNw9.out.cs.bel) W' hf
                      exact ⟨x4, k0, k1⟩
                    have HND := Lib.hid (HNw9.out.keep (Below.refl _ _).drew)
                    go_upto_region 23 with fail
                    refine wp_region_U (S := (fun w' => w'.cell? ⟨xb, 0 + 4, none⟩ = some (.pointer (some ⟨d.cb, 0, none⟩)) ∧ w'.cell? ⟨sb, so + i * 2, none⟩ = some (.bool st) ∧ w'.cell? ⟨sb, so + i * 2 + 1, none⟩ = some (.int .i64 sn))) 14 (by kernel_rfl) (fun inv => ?_)
                    refine wpU_take (i := 0) (v := .int .i64 x) rfl inv (by kernel_rfl) (by kernel_rfl) (by decide) (by decide) (by kernel_rfl) (by kernel_rfl) (by kernel_rfl) (fun _ _ _ h => h) (Or.inl ⟨by rfl, fun w' hw' => ?_⟩) (HS.out _ (Fr.of (Below.refl _ _).drew)) (fun inv => ?_)
                    · obtain ⟨h0, h1, h2⟩ := hw'
                      go_simp
                    try simp only [Act.put, List.setIfInBounds_toArray, List.set_cons_zero, List.set_cons_succ]
                    refine wpU_take (i := 1) (v := .pointer (some ⟨xb, 0, none⟩)) rfl inv (by kernel_rfl) (by kernel_rfl) (by decide) (by decide) (by kernel_rfl) (by kernel_rfl) (by kernel_rfl) (fun _ _ _ h => h) (Or.inl ⟨by rfl, fun w' hw' => ?_⟩) (HS.out _ (Fr.of (Below.refl _ _).drew)) (fun inv => ?_)
                    · obtain ⟨h0, h1, h2⟩ := hw'
                      go_simp
                    try simp only [Act.put, List.setIfInBounds_toArray, List.set_cons_zero, List.set_cons_succ]
                    refine wpU_take (i := 2) (v := .pointer (some ⟨xb, 0, none⟩)) rfl inv (by kernel_rfl) (by kernel_rfl) (by decide) (by decide) (by kernel_rfl) (by kernel_rfl) (by kernel_rfl) (fun _ _ _ h => h) (Or.inl ⟨by rfl, fun w' hw' => ?_⟩) (HS.out _ (Fr.of (Below.refl _ _).drew)) (fun inv => ?_)
                    · obtain ⟨h0, h1, h2⟩ := hw'
                      go_simp
                    try simp only [Act.put, List.setIfInBounds_toArray, List.set_cons_zero, List.set_cons_succ]
                    refine wpU_take (i := 3) (v := .pointer (some ⟨xb, 0 + 4, none⟩)) rfl inv (by kernel_rfl) (by kernel_rfl) (by decide) (by decide) (by kernel_rfl) (by kernel_rfl) (by kernel_rfl) (fun _ _ _ h => h) (Or.inl ⟨by rfl, fun w' hw' => ?_⟩) (HS.out _ (Fr.of (Below.refl _ _).drew)) (fun inv => ?_)
                    · obtain ⟨h0, h1, h2⟩ := hw'
                      go_simp
                    try simp only [Act.put, List.setIfInBounds_toArray, List.set_cons_zero, List.set_cons_succ]
                    refine wpU_take (i := 4) (v := .pointer (some ⟨d.cb, 0, none⟩)) rfl inv (by kernel_rfl) (by kernel_rfl) (by decide) (by decide) (by kernel_rfl) (by kernel_rfl) (by kernel_rfl) (fun _ _ _ h => h) (Or.inl ⟨by rfl, fun w' hw' => ?_⟩) (HS.out _ (Fr.of (Below.refl _ _).drew)) (fun inv => ?_)
                    · obtain ⟨h0, h1, h2⟩ := hw'
                      go_simp
                    try simp only [Act.put, List.setIfInBounds_toArray, List.set_cons_zero, List.set_cons_succ]
                    refine wpU_take (i := 5) (v := .slice (some ⟨sb, so, none⟩) rn cr) rfl inv (by kernel_rfl) (by kernel_rfl) (by decide) (by decide) (by kernel_rfl) (by kernel_rfl) (by kernel_rfl) (fun _ _ _ h => h) (Or.inl ⟨by rfl, fun w' hw' => ?_⟩) (HS.out _ (Fr.of (Below.refl _ _).drew)) (fun inv => ?_)
                    · obtain ⟨h0, h1, h2⟩ := hw'
                      go_simp
                    try simp only [Act.put, List.setIfInBounds_toArray, List.set_cons_zero, List.set_cons_succ]
                    refine wpU_take (i := 6) (v := .int .i64 (i : Int)) rfl inv (by kernel_rfl) (by kernel_rfl) (by decide) (by decide) (by kernel_rfl) (by kernel_rfl) (by kernel_rfl) (fun _ _ _ h => h) (Or.inl ⟨by rfl, fun w' hw' => ?_⟩) (HS.out _ (Fr.of (Below.refl _ _).drew)) (fun inv => ?_)
                    · obtain ⟨h0, h1, h2⟩ := hw'
                      go_simp
                    try simp only [Act.put, List.setIfInBounds_toArray, List.set_cons_zero, List.set_cons_succ]
                    refine wpU_take (i := 7) (v := .pointer (some ⟨sb, so + i * 2, none⟩)) rfl inv (by kernel_rfl) (by kernel_rfl) (by decide) (by decide) (by kernel_rfl) (by kernel_rfl) (by kernel_rfl) (fun _ _ _ h => h) (Or.inl ⟨by rfl, fun w' hw' => ?_⟩) (HS.out _ (Fr.of (Below.refl _ _).drew)) (fun inv => ?_)
                    · obtain ⟨h0, h1, h2⟩ := hw'
                      go_simp
                    try simp only [Act.put, List.setIfInBounds_toArray, List.set_cons_zero, List.set_cons_succ]
                    refine wpU_take (i := 8) (v := .agg #[.bool st, .int .i64 sn]) rfl inv (by kernel_rfl) (by kernel_rfl) (by decide) (by decide) (by kernel_rfl) (by kernel_rfl) (by kernel_rfl) (fun _ _ _ h => h) (Or.inl ⟨by rfl, fun w' hw' => ?_⟩) (HS.out _ (Fr.of (Below.refl _ _).drew)) (fun inv => ?_)
                    · obtain ⟨h0, h1, h2⟩ := hw'
                      go_simp
                    try simp only [Act.put, List.setIfInBounds_toArray, List.set_cons_zero, List.set_cons_succ]
                    refine wpU_take (i := 9) (v := .int .i64 (p : Int)) rfl inv (by kernel_rfl) (by kernel_rfl) (by decide) (by decide) (by kernel_rfl) (by kernel_rfl) (by kernel_rfl) (fun _ _ _ h => h) (Or.inl ⟨by rfl, fun w' hw' => ?_⟩) (HS.out _ (Fr.of (Below.refl _ _).drew)) (fun inv => ?_)
                    · obtain ⟨h0, h1, h2⟩ := hw'
                      go_simp
                    try simp only [Act.put, List.setIfInBounds_toArray, List.set_cons_zero, List.set_cons_succ]
                    refine wpU_take (i := 11) (v := .int .i64 ways) rfl inv (by kernel_rfl) (by kernel_rfl) (by decide) (by decide) (by kernel_rfl) (by kernel_rfl) (by kernel_rfl) (fun _ _ _ h => h) (Or.inl ⟨by rfl, fun w' hw' => ?_⟩) (HS.out _ (Fr.of (Below.refl _ _).drew)) (fun inv => ?_)
                    · obtain ⟨h0, h1, h2⟩ := hw'
                      go_simp
                    try simp only [Act.put, List.setIfInBounds_toArray, List.set_cons_zero, List.set_cons_succ]
                    refine wpU_one (i := 10) (by kernel_rfl) rfl (fun K hK => ?_)
                    replace inv := inv_setc (i := 10) inv (by kernel_rfl) (by decide)
                    go_simp
                    with_reducible refine (HOP.out _ HND.out.cs).mono ?_
                    rintro e w10 ⟨rfl, hf, hc⟩
                    have HNw10 := Lib.hid (HND.out.of hf hc)
                    have HFS : Hid (Fr N d w9 w10) := (Fr.of (Below.refl _ _).drew).trans hf
                    clear hf hc HND
                    refine hK.out _ _ (fun _ => HS.out _ HFS.out) ?_
                    clear hK K
                    try simp only [Act.put, List.setIfInBounds_toArray, List.set_cons_zero, List.set_cons_succ]
                    refine wpU_one (i := 12) (by kernel_rfl) rfl (fun K hK => ?_)
                    replace inv := inv_setc (i := 12) inv (by kernel_rfl) (by decide)
                    go_simp
                    refine hK.out _ _ (fun _ => HS.out _ HFS.out) ?_
                    clear hK K
                    try simp only [Act.put, List.setIfInBounds_toArray, List.set_cons_zero, List.set_cons_succ]
                    refine wpU_one (i := 13) (by kernel_rfl) rfl (fun K hK => ?_)
                    replace inv := inv_setc (i := 13) inv (by kernel_rfl) (by decide)
                    go_simp
                    refine hK.out _ _ (fun _ => HS.out _ HFS.out) ?_
                    clear hK K
                    try simp only [Act.put, List.setIfInBounds_toArray, List.set_cons_zero, List.set_cons_succ]
                    refine wpU_one (i := 14) (by kernel_rfl) rfl (fun K hK => ?_)
                    go_simp
                    refine hK.out _ _ (fun h => absurd (show true = false from h) (by decide)) ?_
                    clear hK K
                    try simp only [Act.put, List.setIfInBounds_toArray, List.set_cons_zero, List.set_cons_succ]
                    refine wpU_done (by kernel_rfl) ?_ _
                    clear HS HFS
                    go_wp2_with fail
                    go_roundg (m - (p + 1))
                    case measure => omega
                    case rel => exact ⟨p + 1, _, by omega, by omega, rfl, by go_num, HPN2, HNw10⟩
                  · have hwb : decide (0 < ways) = false := by simpa using hwy
                    have HPN2 : Hid (x = posI (V ⟨st, sn⟩) (LV (r.right.drop k1)) rest (p + 1) xs) := by
                      show _ = _; rw [HPN.out, if_neg hwy]
                    clear HPN
                    go_wp2_with fail
                    go_roundg (m - (p + 1))
                    case measure => omega
                    case rel => exact ⟨p + 1, x, by omega, by omega, rfl, by go_num, HPN2, HNw9⟩
                · have hpm' : ¬ (p : Int) < (m : Int) := by omega
                  obtain ⟨rest2, HR2⟩ := nameIt (rest - m)
                  have hrw : IntKind.i64.wrap ((rest : Int) - (m : Int)) = (rest2 : Int) := by rw [IntWalk.i64_in _ (by omega)]; have := HR2.out; omega
                  obtain ⟨lr, hlre, hlr⟩ := HLL.out rest2 (by have := HR2.out; omega)
                  have HKE : Hid (kidI V LV F (t.kids.drop (i + 1)) (r.right.drop (i + 1)) (IntKind.i64.wrap (x + IntKind.i64.wrap (y * lr))) rest2 = TOT) := by
                    show _ = _; rw [hlre, HPX.out, show p = m by omega, ← HR2.out, HK1.out]; exact HKN1.out
                  have HLR := Lib.hid hlr
                  clear hlre
                  have HRS3 : Hid (rest2 = L - wlp t.kids (i + 1)) := by show _ = _; rw [← HR2.out]; exact HRS2.out
                  clear hlr
                  have HS : Hid (∀ W', Fr N d w8 W' → (fun w' => w'.cell? ⟨xb, 0 + 4, none⟩ = some (.pointer (some ⟨d.cb, 0, none⟩))) W') := by
                    intro W' hf
                    obtain ⟨x0, x1, x2, x3, x4⟩ := bx_cells5c (HXB.out _ (HNI8.out.fr.trans hf))
                    exact x4
                  have HND := Lib.hid (HNI8.out.keep (Below.refl _ _).drew)
                  go_upto_region 26 with fail
                  refine wp_region_U (S := (fun w' => w'.cell? ⟨xb, 0 + 4, none⟩ = some (.pointer (some ⟨d.cb, 0, none⟩)))) 14 (by kernel_rfl) (fun inv => ?_)
                  refine wpU_take (i := 0) (v := .int .i64 x) rfl inv (by kernel_rfl) (by kernel_rfl) (by decide) (by decide) (by kernel_rfl) (by kernel_rfl) (by kernel_rfl) (fun _ _ _ h => h) (Or.inl ⟨by rfl, fun w' hw' => ?_⟩) (HS.out _ (Fr.of (Below.refl _ _).drew)) (fun inv => ?_)
                  · obtain h0 := hw'
                    go_simp
                  try simp only [Act.put, List.setIfInBounds_toArray, List.set_cons_zero, List.set_cons_succ]
                  refine wpU_take (i := 1) (v := .int .i64 y) rfl inv (by kernel_rfl) (by kernel_rfl) (by decide) (by decide) (by kernel_rfl) (by kernel_rfl) (by kernel_rfl) (fun _ _ _ h => h) (Or.inl ⟨by rfl, fun w' hw' => ?_⟩) (HS.out _ (Fr.of (Below.refl _ _).drew)) (fun inv => ?_)
                  · obtain h0 := hw'
                    go_simp
                  try simp only [Act.put, List.setIfInBounds_toArray, List.set_cons_zero, List.set_cons_succ]
                  refine wpU_take (i := 2) (v := .pointer (some ⟨xb, 0, none⟩)) rfl inv (by kernel_rfl) (by kernel_rfl) (by decide) (by decide) (by kernel_rfl) (by kernel_rfl) (by kernel_rfl) (fun _ _ _ h => h) (Or.inl ⟨by rfl, fun w' hw' => ?_⟩) (HS.out _ (Fr.of (Below.refl _ _).drew)) (fun inv => ?_)
                  · obtain h0 := hw'
                    go_simp
                  try simp only [Act.put, List.setIfInBounds_toArray, List.set_cons_zero, List.set_cons_succ]
                  refine wpU_take (i := 3) (v := .pointer (some ⟨xb, 0, none⟩)) rfl inv (by kernel_rfl) (by kernel_rfl) (by decide) (by decide) (by kernel_rfl) (by kernel_rfl) (by kernel_rfl) (fun _ _ _ h => h) (Or.inl ⟨by rfl, fun w' hw' => ?_⟩) (HS.out _ (Fr.of (Below.refl _ _).drew)) (fun inv => ?_)
                  · obtain h0 := hw'
                    go_simp
                  try simp only [Act.put, List.setIfInBounds_toArray, List.set_cons_zero, List.set_cons_succ]
                  refine wpU_take (i := 4) (v := .pointer (some ⟨xb, 0 + 4, none⟩)) rfl inv (by kernel_rfl) (by kernel_rfl) (by decide) (by decide) (by kernel_rfl) (by kernel_rfl) (by kernel_rfl) (fun _ _ _ h => h) (Or.inl ⟨by rfl, fun w' hw' => ?_⟩) (HS.out _ (Fr.of (Below.refl _ _).drew)) (fun inv => ?_)
                  · obtain h0 := hw'
                    go_simp
                  try simp only [Act.put, List.setIfInBounds_toArray, List.set_cons_zero, List.set_cons_succ]
                  refine wpU_take (i := 5) (v := .pointer (some ⟨d.cb, 0, none⟩)) rfl inv (by kernel_rfl) (by kernel_rfl) (by decide) (by decide) (by kernel_rfl) (by kernel_rfl) (by kernel_rfl) (fun _ _ _ h => h) (Or.inl ⟨by rfl, fun w' hw' => ?_⟩) (HS.out _ (Fr.of (Below.refl _ _).drew)) (fun inv => ?_)
                  · obtain h0 := hw'
                    go_simp
                  try simp only [Act.put, List.setIfInBounds_toArray, List.set_cons_zero, List.set_cons_succ]
                  refine wpU_take (i := 6) (v := .slice (some ⟨sb, so, none⟩) rn cr) rfl inv (by kernel_rfl) (by kernel_rfl) (by decide) (by decide) (by kernel_rfl) (by kernel_rfl) (by kernel_rfl) (fun _ _ _ h => h) (Or.inl ⟨by rfl, fun w' hw' => ?_⟩) (HS.out _ (Fr.of (Below.refl _ _).drew)) (fun inv => ?_)
                  · obtain h0 := hw'
                    go_simp
                  try simp only [Act.put, List.setIfInBounds_toArray, List.set_cons_zero, List.set_cons_succ]
                  refine wpU_take (i := 7) (v := .int .i64 (i : Int)) rfl inv (by kernel_rfl) (by kernel_rfl) (by decide) (by decide) (by kernel_rfl) (by kernel_rfl) (by kernel_rfl) (fun _ _ _ h => h) (Or.inl ⟨by rfl, fun w' hw' => ?_⟩) (HS.out _ (Fr.of (Below.refl _ _).drew)) (fun inv => ?_)
                  · obtain h0 := hw'
                    go_simp
                  try simp only [Act.put, List.setIfInBounds_toArray, List.set_cons_zero, List.set_cons_succ]
                  refine wpU_take (i := 8) (v := .int .i64 (k1 : Int)) rfl inv (by kernel_rfl) (by kernel_rfl) (by decide) (by decide) (by kernel_rfl) (by kernel_rfl) (by kernel_rfl) (fun _ _ _ h => h) (Or.inl ⟨by rfl, fun w' hw' => ?_⟩) (HS.out _ (Fr.of (Below.refl _ _).drew)) (fun inv => ?_)
                  · obtain h0 := hw'
                    go_simp
                  try simp only [Act.put, List.setIfInBounds_toArray, List.set_cons_zero, List.set_cons_succ]
                  refine wpU_take (i := 9) (v := .slice (some ⟨sb, soff, none⟩) n2 c2) rfl inv (by kernel_rfl) (by kernel_rfl) (by decide) (by decide) (by kernel_rfl) (by kernel_rfl) (by kernel_rfl) (fun _ _ _ h => h) (Or.inl ⟨by rfl, fun w' hw' => ?_⟩) (HS.out _ (Fr.of (Below.refl _ _).drew)) (fun inv => ?_)
                  · obtain h0 := hw'
                    rw [← HSO.out, ← HN2.out, ← HC2.out]; by_cases hct : cr = k1; (rw [if_pos hct, show rn - k1 = 0 by omega, show cr - k1 = 0 by omega]; subst hct; go_simp); (rw [if_neg hct]; go_simp)
                  try simp only [Act.put, List.setIfInBounds_toArray, List.set_cons_zero, List.set_cons_succ]
                  refine wpU_take (i := 10) (v := .int .i64 (rest2 : Int)) rfl inv (by kernel_rfl) (by kernel_rfl) (by decide) (by decide) (by kernel_rfl) (by kernel_rfl) (by kernel_rfl) (fun _ _ _ h => h) (Or.inl ⟨by rfl, fun w' hw' => ?_⟩) (HS.out _ (Fr.of (Below.refl _ _).drew)) (fun inv => ?_)
                  · obtain h0 := hw'
                    go_simp
                  try simp only [Act.put, List.setIfInBounds_toArray, List.set_cons_zero, List.set_cons_succ]
                  refine wpU_one (i := 11) (by kernel_rfl) rfl (fun K hK => ?_)
                  replace inv := inv_setc (i := 11) inv (by kernel_rfl) (by decide)
                  go_simp
                  with_reducible refine (HLR.out _ HND.out.cs).mono ?_
                  rintro e w9 ⟨rfl, hf, hc⟩
                  have HNw9 := Lib.hid (HND.out.of hf hc)
                  have HFS : Hid (Fr N d w8 w9) := (Fr.of (Below.refl _ _).drew).trans hf
                  clear hf hc HND
                  refine hK.out _ _ (fun _ => HS.out _ HFS.out) ?_
                  clear hK K
                  try simp only [Act.put, List.setIfInBounds_toArray, List.set_cons_zero, List.set_cons_succ]
                  refine wpU_one (i := 12) (by kernel_rfl) rfl (fun K hK => ?_)
                  replace inv := inv_setc (i := 12) inv (by kernel_rfl) (by decide)
                  go_simp
                  refine hK.out _ _ (fun _ => HS.out _ HFS.out) ?_
                  clear hK K
                  try simp only [Act.put, List.setIfInBounds_toArray, List.set_cons_zero, List.set_cons_succ]
                  refine wpU_one (i := 13) (by kernel_rfl) rfl (fun K hK => ?_)
                  replace inv := inv_setc (i := 13) inv (by kernel_rfl) (by decide)
                  go_simp
                  refine hK.out _ _ (fun _ => HS.out _ HFS.out) ?_
                  clear hK K
                  try simp only [Act.put, List.setIfInBounds_toArray, List.set_cons_zero, List.set_cons_succ]
                  refine wpU_one (i := 14) (by kernel_rfl) rfl (fun K hK => ?_)
                  go_simp
                  refine hK.out _ _ (fun h => absurd (show true = false from h) (by decide)) ?_
                  clear hK K
                  try simp only [Act.put, List.setIfInBounds_toArray, List.set_cons_zero, List.set_cons_succ]
                  refine wpU_done (by kernel_rfl) ?_ _
                  clear HS HFS
                  go_wp2_with fail
                  go_roundg (rn - (i + 1))
                  case measure => omega
                  case rel => exact ⟨i + 1, _, rest2, by omega, by omega, rfl, rfl, by first | rw [HK1.out] | (have := HK1.out; go_num), HRS3, HKE, HNw9⟩
            · have hirn' : ¬ (i : Int) < (rn : Int) := by omega
              have hke : x = TOT := by
                have := HKI.out
                rw [List.drop_of_length_le (by omega), List.drop_of_length_le (by rw [HRNL.out]; omega)] at this
                exact this
              have HE := Lib.hid (HFIN.out x w6 hke HNI6.out.fr HNI6.out.cs)
              clear hke
              go_wp2_with fail
              first | exact HE.out | (refine bodyPost_ret (results_tmp2 Try.results38 _ _ _) rfl ?_; exact HE.out)
end Cs
end Go.Proofs.Ytbnpemgmdnghgaa
namespace Go.Proofs.Ytbnpemgmdnghgaa
open Go.RowKit

set_option maxHeartbeats 1000000 in
set_option maxRecDepth 100000 in
theorem rootE (g : Gram) (ar : Option Addr) (cr : Nat) (t : Tree) (at' : Option Addr) (nt ct : Nat) (w : World) (hr : Rd AnyB w (.sl (g.rules.map Rule.d)) [.slice ar g.rules.length cr]) :
    Calls Try.prog 37 #[.agg #[.int .i64 g.terms, .int .i64 g.nons, .int .i64 g.start, .slice ar g.rules.length cr], .agg #[.int .i64 t.rule, .int .i64 t.term, .slice at' nt ct]] w fun e w' =>
      e = .returned (.agg #[.bool (rootS g t).term, .int .i64 (rootS g t).n]) ∧ Below w.heap.size w w' := by
  have hbs := hr.bounds.2
  unfold maxLen at hbs
  obtain ⟨hc1, hc2⟩ := hbs
  obtain ⟨gt, HGT⟩ := nameIt g.terms
  obtain ⟨gn, HGN⟩ := nameIt g.nons
  obtain ⟨gs, HGS⟩ := nameIt g.start
  obtain ⟨K, HK⟩ := nameIt g.rules
  obtain ⟨r, HRr⟩ := nameIt t.rule
  obtain ⟨tm, HRt⟩ := nameIt t.term
  obtain ⟨S, HS⟩ := nameIt (rootS g t)
  have HSV : Hid (S = if r < 0 then ⟨true, tm⟩ else match K[r.toNat]? with | some x => ⟨false, x.left⟩ | none => ⟨true, tm⟩) := by
    show _ = _; rw [← HS.out]; unfold rootS; rw [HRr.out, HRt.out, HK.out]; rfl
  have HR := Lib.hid hr
  rw [HK.out] at HR hc1
  rw [HGT.out, HGN.out, HGS.out, HK.out, HRr.out, HRt.out, HS.out]
  have hB : Below w.heap.size w (((w.alloc (.cells #[.int .i64 gt, .int .i64 gn, .int .i64 gs, .slice ar K.length cr] 24)).alloc (.cells #[.int .i64 r, .int .i64 tm, .slice at' nt ct] 42)).alloc (.cells #[.bool S.term, .int .i64 S.n] 65)) := (((Below.refl _ _).alloc (Nat.le_refl _) _).alloc (by simp) _).alloc (by simp; omega) _
  have HB := Lib.hid hB
  clear hr hB
  by_cases h0 : r < 0
  · obtain rfl : S = ⟨true, tm⟩ := by rw [HSV.out, if_pos h0]
    have b0 : decide (r < 0) = true := by simpa using h0
    clear h0
    go_enter Try.func37, Try.ntmps37
    go_wp2_with fail
    exact bodyPost_ret (v := .agg #[.bool true, .int .i64 tm]) (by simp [results, Try.results37, go_sem]) rfl ⟨rfl, HB.out⟩
  · obtain ⟨j, rfl⟩ := Int.eq_ofNat_of_zero_le (show 0 ≤ r by omega)
    have b0 : decide ((j : Int) < 0) = false := by simp
    by_cases h1 : j < K.length
    · have b1 : decide ((K.length : Int) ≤ (j : Int)) = false := by simp; omega
      have b1' : decide (K.length ≤ j) = false := by simp; omega
      have h1' : (j : Int) < (K.length : Int) := by omega
      obtain ⟨b, off, vr, hae, -, hbl, c0, -, -⟩ := HR.out.rule_at h1
      have hS : S = ⟨false, K[j].left⟩ := by rw [HSV.out, if_neg h0]; simp [h1]
      obtain ⟨lf, HLF⟩ := nameIt (K[j]'h1).left
      rw [HLF.out] at c0 hS
      subst hS
      subst hae
      clear h0
      have hbl1 : b < w.heap.size + 1 := by omega
      have hbl2 : b < w.heap.size + 1 + 1 := by omega
      have hn0 : ¬ b = w.heap.size := by omega
      have hn1 : ¬ b = w.heap.size + 1 := by omega
      have hn2 : ¬ b = w.heap.size + 1 + 1 := by omega
      go_enter Try.func37, Try.ntmps37
      go_wp2_with fail
      exact bodyPost_ret (v := .agg #[.bool false, .int .i64 lf]) (by simp [results, Try.results37, go_sem]) rfl ⟨rfl, HB.out⟩
    · have b1 : decide ((K.length : Int) ≤ (j : Int)) = true := by simp; omega
      have b1' : decide (K.length ≤ j) = true := by simp; omega
      obtain rfl : S = ⟨true, tm⟩ := by rw [HSV.out, if_neg h0]; simp [show K.length ≤ j by omega]
      clear h0
      go_enter Try.func37, Try.ntmps37
      go_wp2_with fail
      exact bodyPost_ret (v := .agg #[.bool true, .int .i64 tm]) (by simp [results, Try.results37, go_sem]) rfl ⟨rfl, HB.out⟩

theorem symEq (a c : Bool) (b d : Int) (w : World) : (binOp .eql 65 (.agg #[.bool a, .int .i64 b]) (.agg #[.bool c, .int .i64 d])).run Try.prog w = .ok (.bool (a == c && b == d)) w := by
  have h1 : Try.prog.underlying 65 = some (.struct (Try.prog.fieldsOf 65)) := by kernel_rfl
  have h2 : Try.prog.stoodInHeld 65 = false := by kernel_rfl
  have h3 := Try.underlying65
  have h4 := Try.underlying4
  have h5 := Try.underlying3
  rw [run_eql_struct, run_equalIn_agg (d := 9999) _ _ _ _ h1 h2]
  simp only [Program.fieldsOf, h3]
  cases hac : (a == c) <;> by_cases hbd : b = d <;> simp [Op.eqFields, go_sem, h4, h5, hac, hbd]

/-- the boxes of a grammar, a tree and a symbol -/
theorem cells9 {W w' : World} (hb : Below W.heap.size W w') {b1 b2 b3 : Nat} {T1 T2 T3 : TypeId} {a0 a1 a2 a3 c0 c1 c2 d0 d1 : Value} (h1 : W.heap[b1]? = some (.cells #[a0, a1, a2, a3] T1 (0, 0))) (h2 : W.heap[b2]? = some (.cells #[c0, c1, c2] T2 (0, 0))) (h3 : W.heap[b3]? = some (.cells #[d0, d1] T3 (0, 0))) :
    w'.cell? ⟨b1, 0, none⟩ = some a0 ∧ w'.cell? ⟨b1, 0 + 1, none⟩ = some a1 ∧ w'.cell? ⟨b1, 0 + 2, none⟩ = some a2 ∧ w'.cell? ⟨b1, 0 + 3, none⟩ = some a3 ∧ w'.cell? ⟨b2, 0, none⟩ = some c0 ∧ w'.cell? ⟨b2, 0 + 1, none⟩ = some c1 ∧ w'.cell? ⟨b2, 0 + 2, none⟩ = some c2 ∧ w'.cell? ⟨b3, 0, none⟩ = some d0 ∧ w'.cell? ⟨b3, 0 + 1, none⟩ = some d1 := by
  obtain ⟨x1, x2, x3, x4⟩ := bx_cells4 (bx_keep h1 hb)
  obtain ⟨y1, y2, y3⟩ := bx_cells3 (bx_keep h2 hb)
  obtain ⟨z1, z2⟩ := bx_cells2 (bx_keep h3 hb)
  exact ⟨x1, x2, x3, x4, y1, y2, y3, z1, z2⟩

set_option maxHeartbeats 2000000 in
set_option maxRecDepth 100000 in
theorem kidOkE (g : Gram) (b : Nat) (ar : Option Addr) (cr : Nat) (k : Tree) (ak : Option Addr) (nk ck : Nat) (s : Sym) (w : World) (hx : w.heap[b]? = some (.cells #[.int .i64 g.terms, .int .i64 g.nons, .int .i64 g.start, .slice ar g.rules.length cr] 24 (0, 0)))
    (hr : Rd AnyB w (.sl (g.rules.map Rule.d)) [.slice ar g.rules.length cr]) :
    Calls Try.prog 68 #[.agg #[.int .i64 k.rule, .int .i64 k.term, .slice ak nk ck], .agg #[.bool s.term, .int .i64 s.n], .pointer (some ⟨b, 0, none⟩)] w fun e w' => e = .returned (.bool (kidOk g k s)) ∧ Below w.heap.size w w' := by
  have hbs := hr.bounds.2
  unfold maxLen at hbs
  obtain ⟨hc1, hc2⟩ := hbs
  obtain ⟨w0, HW0⟩ := nameIt ((w.alloc (.cells #[.int .i64 k.rule, .int .i64 k.term, .slice ak nk ck] 42)).alloc (.cells #[.bool s.term, .int .i64 s.n] 65))
  have hb0 : Below w.heap.size w w0 := by rw [← HW0.out]; exact ((Below.refl _ _).alloc (Nat.le_refl _) _).alloc (by simp) _
  have X1 := Lib.hid (bx_keep hx hb0)
  have X3 : Hid (w0.heap[w.heap.size]? = some (.cells #[.int .i64 k.rule, .int .i64 k.term, .slice ak nk ck] 42 (0, 0))) := by
    rw [← HW0.out]; exact bx_keep (bx_new _ _ _ rfl) ((Below.refl _ _).alloc (Nat.le_refl _) _)
  have X4 : Hid (w0.heap[w.heap.size + 1]? = some (.cells #[.bool s.term, .int .i64 s.n] 65 (0, 0))) := by
    rw [← HW0.out]; exact bx_new _ _ _ (by simp)
  have CR := Lib.hid (fun W (hb : Below w0.heap.size w0 W) => rootE g ar cr k ak nk ck W ((hr.below hb0).below hb))
  have HB0 := Lib.hid hb0
  obtain ⟨B, HBn⟩ := nameIt (kidOk g k s)
  have HBV : Hid (B = (decide (-1 ≤ k.rule) && (decide (k.rule < g.rules.length) && decide (rootS g k = s)))) := by show _ = _; rw [← HBn.out]; rfl
  obtain ⟨gt, HGT⟩ := nameIt g.terms
  obtain ⟨gn, HGN⟩ := nameIt g.nons
  obtain ⟨gs, HGS⟩ := nameIt g.start
  obtain ⟨n, HKn⟩ := nameIt g.rules.length
  obtain ⟨r, HRr⟩ := nameIt k.rule
  obtain ⟨tm, HRt⟩ := nameIt k.term
  obtain ⟨S, HS⟩ := nameIt (rootS g k)
  obtain ⟨s0, HS0⟩ := nameIt s.term
  obtain ⟨s1, HS1⟩ := nameIt s.n
  rw [HGT.out, HGN.out, HGS.out, HKn.out] at X1
  rw [HRr.out, HRt.out] at X3 HW0
  rw [HS0.out, HS1.out] at X4 HW0
  rw [HGT.out, HGN.out, HGS.out, HKn.out, HRr.out, HRt.out, HS.out] at CR
  rw [HRr.out, HKn.out, HS.out] at HBV
  rw [HKn.out] at hc1
  rw [HRr.out, HRt.out, HS0.out, HS1.out, HBn.out]
  have hk0 := cells9 (Below.refl w0.heap.size w0) X1.out X3.out X4.out
  obtain ⟨x0, x1, x2, x3, y0, y1, y2, z0, z1⟩ := hk0
  clear hx hr hb0
  go_enter Try.func68, Try.ntmps68
  go_wp2_with fail
  rw [HW0.out]
  by_cases h0 : -1 ≤ r
  · have b0 : decide (-1 ≤ r) = true := by simpa using h0
    by_cases h1 : r < n
    · have b1 : decide (r < (n : Int)) = true := by simpa using h1
      have HBV2 : Hid (B = decide (S = s)) := by show _ = _; rw [HBV.out, b0, b1]; rfl
      obtain ⟨S0, HSS0⟩ := nameIt S.term
      obtain ⟨S1, HSS1⟩ := nameIt S.n
      rw [HSS0.out, HSS1.out] at CR
      have HBV3 : Hid (B = (S0 == s0 && S1 == s1)) := by
        show _ = _
        rw [HBV2.out, ← HSS0.out, ← HSS1.out, ← HS0.out, ← HS1.out, Bool.eq_iff_iff]
        cases S; cases s; simp
      have heq := symEq S0 s0 S1 s1
      have heg : Try.prog.eqGuardType Try.prog.depth 65 = false := by kernel_rfl
      clear h0 h1
      go_region_held3 (fun w' => w'.cell? ⟨b, 0, none⟩ = some (.int .i64 gt) ∧ w'.cell? ⟨b, 0 + 1, none⟩ = some (.int .i64 gn) ∧ w'.cell? ⟨b, 0 + 2, none⟩ = some (.int .i64 gs) ∧ w'.cell? ⟨b, 0 + 3, none⟩ = some (.slice ar n cr) ∧ w'.cell? ⟨w.heap.size, 0, none⟩ = some (.int .i64 r) ∧ w'.cell? ⟨w.heap.size, 0 + 1, none⟩ = some (.int .i64 tm) ∧ w'.cell? ⟨w.heap.size, 0 + 2, none⟩ = some (.slice ak nk ck) ∧ w'.cell? ⟨w.heap.size + 1, 0, none⟩ = some (.bool s0) ∧ w'.cell? ⟨w.heap.size + 1, 0 + 1, none⟩ = some (.int .i64 s1))
        (first | exact cells9 (Below.refl _ _).drew X1.out X3.out X4.out | exact cells9 HB1.out X1.out X3.out X4.out | fail)
        (first
          | (go_at_call 37; (with_reducible refine (CR.out _ (Below.refl _ _).drew).mono ?_); rintro e w1 ⟨rfl, hb1⟩; have HB1 : Hid (Below w0.heap.size w0 w1) := (Below.refl _ _).drew.trans hb1; clear hb1)
          | fail)
      go_wp2_with fail
      go_ret
      exact ⟨by rw [HBV3.out]; rfl, HB0.out.trans (HB1.out.mono HB0.out.size)⟩
    · have b1 : decide (r < (n : Int)) = false := by simpa using h1
      obtain rfl : B = false := by rw [HBV.out, b1]; simp
      clear h0 h1
      go_quiet (fail)
      go_wp2_with fail
      go_ret
      exact ⟨rfl, HB0.out.trans ((below_drewN _ _).mono HB0.out.size)⟩
  · have b0 : decide (-1 ≤ r) = false := by simpa using h0
    obtain rfl : B = false := by rw [HBV.out, b0]; simp
    clear h0
    go_quiet (fail)
    go_wp2_with fail
    go_ret
    exact ⟨rfl, HB0.out.trans ((below_drewN _ _).mono HB0.out.size)⟩
end Go.Proofs.Ytbnpemgmdnghgaa
namespace Go.Proofs.Ytbnpemgmdnghgaa
open Go.RowKit

def PairAt (g : Nat) (lb : Array Value) (p : Tree → Sym → Bool) (w : World) : Prop :=
  ∀ (W : World) (k : Tree) (v : Value) (s : Sym), Below w.heap.size w W → Rd AnyB W (.sl (k.kids.map Tree.d)) [v] → Calls Try.prog g (#[.agg #[.int .i64 k.rule, .int .i64 k.term, v], .agg #[.bool s.term, .int .i64 s.n]] ++ lb) W fun e w' => e = .returned (.bool (p k s)) ∧ Below W.heap.size W w'
def eqAll (p : Tree → Sym → Bool) (ks : List Tree) (l : List Sym) : Bool := decide (ks.length = l.length) && (List.zip ks l).all fun x => p x.1 x.2
theorem eqAll_ne {p : Tree → Sym → Bool} {ks : List Tree} {l : List Sym} (h : ks.length ≠ l.length) : eqAll p ks l = false := by simp [eqAll, h]
theorem eqAll_bad {p : Tree → Sym → Bool} {ks : List Tree} {l : List Sym} {i : Nat} (h : i < ks.length) (h2 : i < l.length) (hp : p ks[i] l[i] = false) : eqAll p ks l = false := by
  unfold eqAll
  rw [Bool.and_eq_false_iff]
  right
  rw [List.all_eq_false]
  exact ⟨(ks[i], l[i]), List.mem_iff_getElem.2 ⟨i, by simp; omega, by simp⟩, by simp [hp]⟩
theorem eqAll_good {p : Tree → Sym → Bool} {ks : List Tree} {l : List Sym} (h : ks.length = l.length) (hp : ∀ i (h1 : i < ks.length) (h2 : i < l.length), p ks[i] l[i] = true) : eqAll p ks l = true := by
  unfold eqAll
  rw [Bool.and_eq_true]
  refine ⟨by simpa using h, List.all_eq_true.2 ?_⟩
  intro x hx
  obtain ⟨i, hi, rfl⟩ := List.mem_iff_getElem.1 hx
  simp at hi
  simpa using hp i (by omega) (by omega)

set_option maxHeartbeats 1000000 in
set_option maxRecDepth 100000 in
theorem equalFuncTS (g : Nat) (lb : Array Value) (p : Tree → Sym → Bool) (a a' : Option Addr) (c c' : Nat) (ks : List Tree) (l : List Sym) (w : World) (eg : ∀ args w, (callFunc g args).run Try.prog w = .ok (.enter g args) w) (hf : PairAt g lb p w)
    (hk : Rd AnyB w (.sl (ks.map Tree.d)) [.slice a ks.length c]) (hl : Rd AnyB w (.sl (l.map Sym.d)) [.slice a' l.length c']) :
    Calls Try.prog 67 #[.slice a ks.length c, .slice a' l.length c', .func (.func g) #[] lb] w fun e w' => e = .returned (.bool (eqAll p ks l)) ∧ Below w.heap.size w w' := by
  have HK := Lib.hid hk
  have HL := Lib.hid hl
  have HF := Lib.hid hf
  have hc := hk.bounds.2
  have hc' := hl.bounds.2
  unfold maxLen at hc hc'
  obtain ⟨hc1, hc2⟩ := hc
  obtain ⟨hc3, hc4⟩ := hc'
  clear hk hl hf
  by_cases hlen : ks.length = l.length
  · have hlb : ((ks.length : Int) != (l.length : Int)) = false := by simp [hlen]
    have HLEN := Lib.hid hlen
    have hle : ks.length ≤ l.length := by omega
    clear hlen
    go_enter Try.func67, Try.ntmps67
    go_wp2_with fail
    go_loopg [17] ks.length (fun gg v17 wr => ∃ i : Nat, i ≤ ks.length ∧ ks.length - i ≤ gg ∧ v17 = .int .i64 i ∧ Hid (Below w.heap.size w wr) ∧ Hid (∀ j (h1 : j < ks.length) (h2 : j < l.length), j < i → p ks[j] l[j] = true))
    case atStart => exact ⟨0, by omega, by omega, rfl, Below.refl _ _, fun j _ _ hj => by omega⟩
    case round =>
      obtain ⟨i, hi, hg, rfl, HB, HN⟩ := hrel
      by_cases hlt : i < ks.length
      · have hlt' : (i : Int) < (ks.length : Int) := by omega
        have hlt2 : i < l.length := by omega
        have hlt2' : (i : Int) < (l.length : Int) := by omega
        obtain ⟨b, off, v, hae, -, hbl, c0, c1, c2, hkid⟩ := (HK.out.below HB.out).kid hlt
        obtain ⟨av, cv, rfl, -, -⟩ := hkid.form
        obtain ⟨nv, HNV⟩ := nameIt (ks[i].kids.map Tree.d).length
        rw [HNV.out] at c2 hkid
        obtain ⟨b', off', hae', -, hbl', d0, d1⟩ := (HL.out.below HB.out).sym_at hlt2
        have hcall := fun W (hb : Below wr.heap.size wr W) => HF.out W ks[i] _ l[i] (HB.out.trans (hb.mono HB.out.size)) (hkid.below hb)
        obtain ⟨q0, HQ0⟩ := nameIt (ks[i]'hlt).rule
        obtain ⟨q1, HQ1⟩ := nameIt (ks[i]'hlt).term
        obtain ⟨s0, HS0⟩ := nameIt (l[i]'hlt2).term
        obtain ⟨s1, HS1⟩ := nameIt (l[i]'hlt2).n
        obtain ⟨B, HBn⟩ := nameIt (p (ks[i]'hlt) (l[i]'hlt2))
        rw [HQ0.out] at c0 hcall
        rw [HQ1.out] at c1 hcall
        rw [HS0.out] at d0 hcall
        rw [HS1.out] at d1 hcall
        rw [HBn.out] at hcall
        have hn1 : ¬ b' = wr.heap.size := by omega
        have HC := Lib.hid (hcall _ (((Below.refl wr.heap.size wr).alloc (Nat.le_refl _) (.cells #[.int .i64 q0, .int .i64 q1, .slice av nv cv] 42)).alloc (by simp) (.cells #[.bool s0, .int .i64 s1] 65)))
        have HBB := Lib.hid (HB.out.trans ((((Below.refl wr.heap.size wr).alloc (Nat.le_refl _) (.cells #[.int .i64 q0, .int .i64 q1, .slice av nv cv] 42)).alloc (by simp) (.cells #[.bool s0, .int .i64 s1] 65)).mono HB.out.size))
        subst hae hae'
        clear hkid hcall
        go_wp2_with fail
        refine HC.out.mono ?_
        rintro e w6 ⟨rfl, hb6⟩
        have HB6 := Lib.hid (HBB.out.trans (hb6.mono HBB.out.size))
        clear hb6 c0 c1 c2 d0 d1 HC
        cases B with
        | false =>
          have HE : Hid (eqAll p ks l = false) := eqAll_bad hlt hlt2 HBn.out
          go_wp2_with fail
          go_ret
          exact ⟨by rw [HE.out]; rfl, HB6.out⟩
        | true =>
          have HN2 : Hid (∀ j (h1 : j < ks.length) (h2 : j < l.length), j < i + 1 → p ks[j] l[j] = true) := by
            intro j h1 h2 hj
            by_cases e : j = i
            · subst e; exact HBn.out
            · exact HN.out j h1 h2 (by omega)
          go_wp2_with fail
          go_roundg (ks.length - (i + 1))
          case measure => omega
          case rel => exact ⟨i + 1, by omega, by omega, by go_num, HB6, HN2⟩
      · have hlt' : ¬ (i : Int) < (ks.length : Int) := by omega
        have HE : Hid (eqAll p ks l = true) := eqAll_good HLEN.out fun j h1 h2 => HN.out j h1 h2 (by omega)
        go_wp2_with fail
        go_ret
        exact ⟨by rw [HE.out]; rfl, HB.out⟩
  · have hlb : ((ks.length : Int) != (l.length : Int)) = true := by simp; omega
    have HE : Hid (eqAll p ks l = false) := eqAll_ne hlen
    clear hlen
    go_enter Try.func67, Try.ntmps67
    go_wp2_with fail
    go_ret
    exact ⟨by rw [HE.out]; rfl, Below.refl _ _⟩

def ValidI (w0 : World) (_ : List Tree) (S : Nat → Prop) (W : World) : Prop := Below w0.heap.size w0 W ∧ ∀ k, ¬ S k

/-- the boxes of a grammar and of a tree -/
theorem cells7 {W w' : World} (hb : Below W.heap.size W w') {b1 b2 : Nat} {T1 T2 : TypeId} {a0 a1 a2 a3 c0 c1 c2 : Value} (h1 : W.heap[b1]? = some (.cells #[a0, a1, a2, a3] T1 (0, 0))) (h2 : W.heap[b2]? = some (.cells #[c0, c1, c2] T2 (0, 0))) :
    w'.cell? ⟨b1, 0, none⟩ = some a0 ∧ w'.cell? ⟨b1, 0 + 1, none⟩ = some a1 ∧ w'.cell? ⟨b1, 0 + 2, none⟩ = some a2 ∧ w'.cell? ⟨b1, 0 + 3, none⟩ = some a3 ∧ w'.cell? ⟨b2, 0, none⟩ = some c0 ∧ w'.cell? ⟨b2, 0 + 1, none⟩ = some c1 ∧ w'.cell? ⟨b2, 0 + 2, none⟩ = some c2 := by
  obtain ⟨x1, x2, x3, x4⟩ := bx_cells4 (bx_keep h1 hb)
  obtain ⟨y1, y2, y3⟩ := bx_cells3 (bx_keep h2 hb)
  exact ⟨x1, x2, x3, x4, y1, y2, y3⟩
end Go.Proofs.Ytbnpemgmdnghgaa
