/- The contracts of gram.Root and of the functions of tree.valid. The contracts of tree.valid, tree.Check and tree.Symbol. The contract of tree.valid. The contracts of tree.Symbol and of Label. slices.Equal of symbols. The contracts of gram.CopyTree and tree.Clone. The contracts of Nodes, Yield and Codes. -/
import Derived.Test.YtfocooehnmpndaaGreatJDemandSomeRow2
import Derived.Test.YtfocooehnmpndaaGreatJDemandSomeRow3
import Derived.Test.YtfocooehnmpndaaGreatJDemandSomeRow6
import Derived.Deep.QuietTactic
import Derived.BigQuiet
import Derived.Laws.StructEq
import Derived.Deep.RegionHeld3
import Derived.WalkSmall
namespace Go.Proofs.YtfocooehnmpndaaGreat
open Go.RowKit
set_option maxHeartbeats 1000000 in
set_option maxRecDepth 100000 in
theorem rootE (g : Gram) (ar : Option Addr) (cr : Nat) (t : Tree) (at' : Option Addr) (nt ct : Nat) (w : World) (hr : Rd AnyB w (.sl (g.rules.map Rule.d)) [.slice ar g.rules.length cr]) :
    Calls Tryz.prog 98 #[.agg #[.int .i64 g.terms, .int .i64 g.nons, .int .i64 g.start, .slice ar g.rules.length cr], .agg #[.int .i64 t.rule, .int .i64 t.term, .slice at' nt ct]] w fun e w' =>
      e = .returned (.agg #[.bool (rootS g t).term, .int .i64 (rootS g t).n]) ∧ Below w.heap.size w w' := by
  have hbs := hr.bounds.2
  unfold maxLen at hbs
  obtain ⟨hc1, hc2⟩ := hbs
  obtain ⟨gt, HGT⟩ := nameIt g.terms
  obtain ⟨gn, HGN⟩ := nameIt g.nons
  obtain ⟨gs, HGS⟩ := nameIt g.start
  obtain ⟨K, HK⟩ := nameIt g.rules
  obtain ⟨r, HRr⟩ := nameIt t.rule
  obtain ⟨tm, HRt⟩ := nameIt t.term
  obtain ⟨S, HS⟩ := nameIt (rootS g t)
  have HSV : Hid (S = if r < 0 then ⟨true, tm⟩ else match K[r.toNat]? with | some x => ⟨false, x.left⟩ | none => ⟨true, tm⟩) := by
    show _ = _; rw [← HS.out]; unfold rootS; rw [HRr.out, HRt.out, HK.out]; try rfl
  have HR := Lib.hid hr
  rw [HK.out] at HR hc1
  rw [HGT.out, HGN.out, HGS.out, HK.out, HRr.out, HRt.out, HS.out]
  have hB : Below w.heap.size w (((w.alloc (.cells #[.int .i64 gt, .int .i64 gn, .int .i64 gs, .slice ar K.length cr] 24)).alloc (.cells #[.int .i64 r, .int .i64 tm, .slice at' nt ct] 31)).alloc (.cells #[.bool S.term, .int .i64 S.n] 78)) := (((Below.refl _ _).alloc (Nat.le_refl _) _).alloc (by simp) _).alloc (by first | (simp; done) | (simp; omega)) _
  have HB := Lib.hid hB
  clear hr hB
  by_cases h0 : r < 0
  · obtain rfl : S = ⟨true, tm⟩ := by rw [HSV.out, if_pos h0]
    have b0 : decide (r < 0) = true := by simpa using h0
    clear h0
    go_enter Tryz.func98, Tryz.ntmps98
    go_wp2_with fail
    exact bodyPost_ret (v := .agg #[.bool true, .int .i64 tm]) (by simp [results, Tryz.results98, go_sem]) rfl ⟨rfl, HB.out⟩
  · obtain ⟨j, rfl⟩ := Int.eq_ofNat_of_zero_le (show 0 ≤ r by omega)
    have b0 : decide ((j : Int) < 0) = false := by simp
    by_cases h1 : j < K.length
    · have b1 : decide ((K.length : Int) ≤ (j : Int)) = false := by simp; omega
      have b1' : decide (K.length ≤ j) = false := by simp; omega
      have h1' : (j : Int) < (K.length : Int) := by omega
      obtain ⟨b, off, vr, hae, -, hbl, c0, -, -⟩ := HR.out.rule_at h1
      have hS : S = ⟨false, K[j].left⟩ := by rw [HSV.out, if_neg h0]; simp [h1]
      obtain ⟨lf, HLF⟩ := nameIt (K[j]'h1).left
      rw [HLF.out] at c0 hS
      subst hS
      subst hae
      clear h0
      have hbl1 : b < w.heap.size + 1 := by omega
      have hbl2 : b < w.heap.size + 1 + 1 := by omega
      have hn0 : ¬ b = w.heap.size := by omega
      have hn1 : ¬ b = w.heap.size + 1 := by omega
      have hn2 : ¬ b = w.heap.size + 1 + 1 := by omega
      go_enter Tryz.func98, Tryz.ntmps98
      go_wp2_with fail
      exact bodyPost_ret (v := .agg #[.bool false, .int .i64 lf]) (by simp [results, Tryz.results98, go_sem]) rfl ⟨rfl, HB.out⟩
    · have b1 : decide ((K.length : Int) ≤ (j : Int)) = true := by simp; omega
      have b1' : decide (K.length ≤ j) = true := by simp; omega
      obtain rfl : S = ⟨true, tm⟩ := by rw [HSV.out, if_neg h0]; simp [show K.length ≤ j by omega]
      clear h0
      go_enter Tryz.func98, Tryz.ntmps98
      go_wp2_with fail
      exact bodyPost_ret (v := .agg #[.bool true, .int .i64 tm]) (by simp [results, Tryz.results98, go_sem]) rfl ⟨rfl, HB.out⟩
theorem symEq (a c : Bool) (b d : Int) (w : World) : (binOp .eql 78 (.agg #[.bool a, .int .i64 b]) (.agg #[.bool c, .int .i64 d])).run Tryz.prog w = .ok (.bool (a == c && b == d)) w := by
  have h1 : Tryz.prog.underlying 78 = some (.struct (Tryz.prog.fieldsOf 78)) := by kernel_rfl
  have h2 : Tryz.prog.stoodInHeld 78 = false := by kernel_rfl
  have h3 := Tryz.underlying78
  have h4 := Tryz.underlying4
  have h5 := Tryz.underlying3
  rw [run_eql_struct, run_equalIn_agg (d := 9999) _ _ _ _ h1 h2]
  simp only [Program.fieldsOf, h3]
  cases hac : (a == c) <;> by_cases hbd : b = d <;> simp [Op.eqFields, go_sem, h4, h5, hac, hbd]
theorem cells9 {W w' : World} (hb : Below W.heap.size W w') {b1 b2 b3 : Nat} {T1 T2 T3 : TypeId} {a0 a1 a2 a3 c0 c1 c2 d0 d1 : Value} (h1 : W.heap[b1]? = some (.cells #[a0, a1, a2, a3] T1 (0, 0))) (h2 : W.heap[b2]? = some (.cells #[c0, c1, c2] T2 (0, 0))) (h3 : W.heap[b3]? = some (.cells #[d0, d1] T3 (0, 0))) :
    w'.cell? ⟨b1, 0, none⟩ = some a0 ∧ w'.cell? ⟨b1, 0 + 1, none⟩ = some a1 ∧ w'.cell? ⟨b1, 0 + 2, none⟩ = some a2 ∧ w'.cell? ⟨b1, 0 + 3, none⟩ = some a3 ∧ w'.cell? ⟨b2, 0, none⟩ = some c0 ∧ w'.cell? ⟨b2, 0 + 1, none⟩ = some c1 ∧ w'.cell? ⟨b2, 0 + 2, none⟩ = some c2 ∧ w'.cell? ⟨b3, 0, none⟩ = some d0 ∧ w'.cell? ⟨b3, 0 + 1, none⟩ = some d1 := by
  obtain ⟨x1, x2, x3, x4⟩ := bx_cells4 (bx_keep h1 hb)
  obtain ⟨y1, y2, y3⟩ := bx_cells3 (bx_keep h2 hb)
  obtain ⟨z1, z2⟩ := bx_cells2 (bx_keep h3 hb)
  exact ⟨x1, x2, x3, x4, y1, y2, y3, z1, z2⟩
set_option maxHeartbeats 2000000 in
set_option maxRecDepth 100000 in
theorem kidOkE (g : Gram) (b : Nat) (ar : Option Addr) (cr : Nat) (k : Tree) (ak : Option Addr) (nk ck : Nat) (s : Sym) (w : World) (hx : w.heap[b]? = some (.cells #[.int .i64 g.terms, .int .i64 g.nons, .int .i64 g.start, .slice ar g.rules.length cr] 24 (0, 0)))
    (hr : Rd AnyB w (.sl (g.rules.map Rule.d)) [.slice ar g.rules.length cr]) :
    Calls Tryz.prog 137 #[.agg #[.int .i64 k.rule, .int .i64 k.term, .slice ak nk ck], .agg #[.bool s.term, .int .i64 s.n], .pointer (some ⟨b, 0, none⟩)] w fun e w' => e = .returned (.bool (kidOk g k s)) ∧ Below w.heap.size w w' := by
  have hbs := hr.bounds.2
  unfold maxLen at hbs
  obtain ⟨hc1, hc2⟩ := hbs
  obtain ⟨w0, HW0⟩ := nameIt ((w.alloc (.cells #[.int .i64 k.rule, .int .i64 k.term, .slice ak nk ck] 31)).alloc (.cells #[.bool s.term, .int .i64 s.n] 78))
  have hb0 : Below w.heap.size w w0 := by rw [← HW0.out]; exact ((Below.refl _ _).alloc (Nat.le_refl _) _).alloc (by simp) _
  have X1 := Lib.hid (bx_keep hx hb0)
  have X3 : Hid (w0.heap[w.heap.size]? = some (.cells #[.int .i64 k.rule, .int .i64 k.term, .slice ak nk ck] 31 (0, 0))) := by
    rw [← HW0.out]; exact bx_keep (bx_new _ _ _ rfl) ((Below.refl _ _).alloc (Nat.le_refl _) _)
  have X4 : Hid (w0.heap[w.heap.size + 1]? = some (.cells #[.bool s.term, .int .i64 s.n] 78 (0, 0))) := by
    rw [← HW0.out]; exact bx_new _ _ _ (by simp)
  have CR := Lib.hid (fun W (hb : Below w0.heap.size w0 W) => rootE g ar cr k ak nk ck W ((hr.below hb0).below hb))
  have HB0 := Lib.hid hb0
  obtain ⟨B, HBn⟩ := nameIt (kidOk g k s)
  have HBV : Hid (B = (decide (-1 ≤ k.rule) && (decide (k.rule < g.rules.length) && decide (rootS g k = s)))) := by show _ = _; rw [← HBn.out]; rfl
  obtain ⟨gt, HGT⟩ := nameIt g.terms
  obtain ⟨gn, HGN⟩ := nameIt g.nons
  obtain ⟨gs, HGS⟩ := nameIt g.start
  obtain ⟨n, HKn⟩ := nameIt g.rules.length
  obtain ⟨r, HRr⟩ := nameIt k.rule
  obtain ⟨tm, HRt⟩ := nameIt k.term
  obtain ⟨S, HS⟩ := nameIt (rootS g k)
  obtain ⟨s0, HS0⟩ := nameIt s.term
  obtain ⟨s1, HS1⟩ := nameIt s.n
  rw [HGT.out, HGN.out, HGS.out, HKn.out] at X1
  rw [HRr.out, HRt.out] at X3 HW0
  rw [HS0.out, HS1.out] at X4 HW0
  rw [HGT.out, HGN.out, HGS.out, HKn.out, HRr.out, HRt.out, HS.out] at CR
  rw [HRr.out, HKn.out, HS.out] at HBV
  rw [HKn.out] at hc1
  rw [HRr.out, HRt.out, HS0.out, HS1.out, HBn.out]
  have hk0 := cells9 (Below.refl w0.heap.size w0) X1.out X3.out X4.out
  obtain ⟨x0, x1, x2, x3, y0, y1, y2, z0, z1⟩ := hk0
  clear hx hr hb0
  go_enter Tryz.func137, Tryz.ntmps137
  go_wp2_with fail
  rw [HW0.out]
  by_cases h0 : -1 ≤ r
  · have b0 : decide (-1 ≤ r) = true := by simpa using h0
    by_cases h1 : r < n
    · have b1 : decide (r < (n : Int)) = true := by simpa using h1
      have HBV2 : Hid (B = decide (S = s)) := by show _ = _; rw [HBV.out, b0, b1]; rfl
      obtain ⟨S0, HSS0⟩ := nameIt S.term
      obtain ⟨S1, HSS1⟩ := nameIt S.n
      rw [HSS0.out, HSS1.out] at CR
      have HBV3 : Hid (B = (S0 == s0 && S1 == s1)) := by
        show _ = _
        rw [HBV2.out, ← HSS0.out, ← HSS1.out, ← HS0.out, ← HS1.out, Bool.eq_iff_iff]
        cases S; cases s; simp
      have heq := symEq S0 s0 S1 s1
      have heg : Tryz.prog.eqGuardType Tryz.prog.depth 78 = false := by kernel_rfl
      clear h0 h1
      go_region_held3 (fun w' => w'.cell? ⟨b, 0, none⟩ = some (.int .i64 gt) ∧ w'.cell? ⟨b, 0 + 1, none⟩ = some (.int .i64 gn) ∧ w'.cell? ⟨b, 0 + 2, none⟩ = some (.int .i64 gs) ∧ w'.cell? ⟨b, 0 + 3, none⟩ = some (.slice ar n cr) ∧ w'.cell? ⟨w.heap.size, 0, none⟩ = some (.int .i64 r) ∧ w'.cell? ⟨w.heap.size, 0 + 1, none⟩ = some (.int .i64 tm) ∧ w'.cell? ⟨w.heap.size, 0 + 2, none⟩ = some (.slice ak nk ck) ∧ w'.cell? ⟨w.heap.size + 1, 0, none⟩ = some (.bool s0) ∧ w'.cell? ⟨w.heap.size + 1, 0 + 1, none⟩ = some (.int .i64 s1))
        (first | exact cells9 (Below.refl _ _).drew X1.out X3.out X4.out | exact cells9 HB1.out X1.out X3.out X4.out | fail)
        (first
          | (go_at_call 98; (with_reducible refine (CR.out _ (Below.refl _ _).drew).mono ?_); rintro e w1 ⟨rfl, hb1⟩; have HB1 : Hid (Below w0.heap.size w0 w1) := (Below.refl _ _).drew.trans hb1; clear hb1)
          | fail)
      go_wp2_with fail
      go_ret
      exact ⟨by rw [HBV3.out]; rfl, HB0.out.trans (HB1.out.mono HB0.out.size)⟩
    · have b1 : decide (r < (n : Int)) = false := by simpa using h1
      obtain rfl : B = false := by rw [HBV.out, b1]; simp
      clear h0 h1
      go_quiet (fail)
      go_wp2_with fail
      go_ret
      exact ⟨rfl, HB0.out.trans ((below_drewN _ _).mono HB0.out.size)⟩
  · have b0 : decide (-1 ≤ r) = false := by simpa using h0
    obtain rfl : B = false := by rw [HBV.out, b0]; simp
    clear h0
    go_quiet (fail)
    go_wp2_with fail
    go_ret
    exact ⟨rfl, HB0.out.trans ((below_drewN _ _).mono HB0.out.size)⟩
end Go.Proofs.YtfocooehnmpndaaGreat
namespace Go.Proofs.YtfocooehnmpndaaGreat
open Go.RowKit
def PairAt (g : Nat) (lb : Array Value) (p : Tree → Sym → Bool) (w : World) : Prop :=
  ∀ (W : World) (k : Tree) (v : Value) (s : Sym), Below w.heap.size w W → Rd AnyB W (.sl (k.kids.map Tree.d)) [v] → Calls Tryz.prog g (#[.agg #[.int .i64 k.rule, .int .i64 k.term, v], .agg #[.bool s.term, .int .i64 s.n]] ++ lb) W fun e w' => e = .returned (.bool (p k s)) ∧ Below W.heap.size W w'
def eqAll (p : Tree → Sym → Bool) (ks : List Tree) (l : List Sym) : Bool := decide (ks.length = l.length) && (List.zip ks l).all fun x => p x.1 x.2
theorem eqAll_ne {p : Tree → Sym → Bool} {ks : List Tree} {l : List Sym} (h : ks.length ≠ l.length) : eqAll p ks l = false := by simp [eqAll, h]
theorem eqAll_bad {p : Tree → Sym → Bool} {ks : List Tree} {l : List Sym} {i : Nat} (h : i < ks.length) (h2 : i < l.length) (hp : p ks[i] l[i] = false) : eqAll p ks l = false := by
  unfold eqAll
  rw [Bool.and_eq_false_iff]
  right
  rw [List.all_eq_false]
  exact ⟨(ks[i], l[i]), List.mem_iff_getElem.2 ⟨i, by simp; omega, by simp⟩, by simp [hp]⟩
theorem eqAll_good {p : Tree → Sym → Bool} {ks : List Tree} {l : List Sym} (h : ks.length = l.length) (hp : ∀ i (h1 : i < ks.length) (h2 : i < l.length), p ks[i] l[i] = true) : eqAll p ks l = true := by
  unfold eqAll
  rw [Bool.and_eq_true]
  refine ⟨by simpa using h, List.all_eq_true.2 ?_⟩
  intro x hx
  obtain ⟨i, hi, rfl⟩ := List.mem_iff_getElem.1 hx
  simp at hi
  simpa using hp i (by omega) (by omega)
set_option maxHeartbeats 1000000 in
set_option maxRecDepth 100000 in
theorem equalFuncTS (g : Nat) (lb : Array Value) (p : Tree → Sym → Bool) (a a' : Option Addr) (c c' : Nat) (ks : List Tree) (l : List Sym) (w : World) (eg : ∀ args w, (callFunc g args).run Tryz.prog w = .ok (.enter g args) w) (hf : PairAt g lb p w)
    (hk : Rd AnyB w (.sl (ks.map Tree.d)) [.slice a ks.length c]) (hl : Rd AnyB w (.sl (l.map Sym.d)) [.slice a' l.length c']) :
    Calls Tryz.prog 136 #[.slice a ks.length c, .slice a' l.length c', .func (.func g) #[] lb] w fun e w' => e = .returned (.bool (eqAll p ks l)) ∧ Below w.heap.size w w' := by
  have HK := Lib.hid hk
  have HL := Lib.hid hl
  have HF := Lib.hid hf
  have hc := hk.bounds.2
  have hc' := hl.bounds.2
  unfold maxLen at hc hc'
  obtain ⟨hc1, hc2⟩ := hc
  obtain ⟨hc3, hc4⟩ := hc'
  clear hk hl hf
  by_cases hlen : ks.length = l.length
  · have hlb : ((ks.length : Int) != (l.length : Int)) = false := by simp [hlen]
    have HLEN := Lib.hid hlen
    have hle : ks.length ≤ l.length := by omega
    clear hlen
    go_enter Tryz.func136, Tryz.ntmps136
    go_wp2_with fail
    go_loopg [17] ks.length (fun gg v17 wr => ∃ i : Nat, i ≤ ks.length ∧ ks.length - i ≤ gg ∧ v17 = .int .i64 i ∧ Hid (Below w.heap.size w wr) ∧ Hid (∀ j (h1 : j < ks.length) (h2 : j < l.length), j < i → p ks[j] l[j] = true))
    case atStart => exact ⟨0, by omega, by omega, rfl, Below.refl _ _, fun j _ _ hj => by omega⟩
    case round =>
      obtain ⟨i, hi, hg, rfl, HB, HN⟩ := hrel
      by_cases hlt : i < ks.length
      · have hlt' : (i : Int) < (ks.length : Int) := by omega
        have hlt2 : i < l.length := by omega
        have hlt2' : (i : Int) < (l.length : Int) := by omega
        obtain ⟨b, off, v, hae, -, hbl, c0, c1, c2, hkid⟩ := (HK.out.below HB.out).kid hlt
        obtain ⟨av, cv, rfl, -, -⟩ := hkid.form
        obtain ⟨nv, HNV⟩ := nameIt (ks[i].kids.map Tree.d).length
        rw [HNV.out] at c2 hkid
        obtain ⟨b', off', hae', -, hbl', d0, d1⟩ := (HL.out.below HB.out).sym_at hlt2
        have hcall := fun W (hb : Below wr.heap.size wr W) => HF.out W ks[i] _ l[i] (HB.out.trans (hb.mono HB.out.size)) (hkid.below hb)
        obtain ⟨q0, HQ0⟩ := nameIt (ks[i]'hlt).rule
        obtain ⟨q1, HQ1⟩ := nameIt (ks[i]'hlt).term
        obtain ⟨s0, HS0⟩ := nameIt (l[i]'hlt2).term
        obtain ⟨s1, HS1⟩ := nameIt (l[i]'hlt2).n
        obtain ⟨B, HBn⟩ := nameIt (p (ks[i]'hlt) (l[i]'hlt2))
        rw [HQ0.out] at c0 hcall
        rw [HQ1.out] at c1 hcall
        rw [HS0.out] at d0 hcall
        rw [HS1.out] at d1 hcall
        rw [HBn.out] at hcall
        have hn1 : ¬ b' = wr.heap.size := by omega
        have HC := Lib.hid (hcall _ (((Below.refl wr.heap.size wr).alloc (Nat.le_refl _) (.cells #[.int .i64 q0, .int .i64 q1, .slice av nv cv] 31)).alloc (by simp) (.cells #[.bool s0, .int .i64 s1] 78)))
        have HBB := Lib.hid (HB.out.trans ((((Below.refl wr.heap.size wr).alloc (Nat.le_refl _) (.cells #[.int .i64 q0, .int .i64 q1, .slice av nv cv] 31)).alloc (by simp) (.cells #[.bool s0, .int .i64 s1] 78)).mono HB.out.size))
        subst hae hae'
        clear hkid hcall
        go_wp2_with fail
        refine HC.out.mono ?_
        rintro e w6 ⟨rfl, hb6⟩
        have HB6 := Lib.hid (HBB.out.trans (hb6.mono HBB.out.size))
        clear hb6 c0 c1 c2 d0 d1 HC
        cases B with
        | false =>
          have HE : Hid (eqAll p ks l = false) := eqAll_bad hlt hlt2 HBn.out
          go_wp2_with fail
          go_ret
          exact ⟨by rw [HE.out]; rfl, HB6.out⟩
        | true =>
          have HN2 : Hid (∀ j (h1 : j < ks.length) (h2 : j < l.length), j < i + 1 → p ks[j] l[j] = true) := by
            intro j h1 h2 hj
            by_cases e : j = i
            · subst e; exact HBn.out
            · exact HN.out j h1 h2 (by omega)
          go_wp2_with fail
          go_roundg (ks.length - (i + 1))
          case measure => omega
          case rel => exact ⟨i + 1, by omega, by omega, by go_num, HB6, HN2⟩
      · have hlt' : ¬ (i : Int) < (ks.length : Int) := by omega
        have HE : Hid (eqAll p ks l = true) := eqAll_good HLEN.out fun j h1 h2 => HN.out j h1 h2 (by omega)
        go_wp2_with fail
        go_ret
        exact ⟨by rw [HE.out]; rfl, HB.out⟩
  · have hlb : ((ks.length : Int) != (l.length : Int)) = true := by simp; omega
    have HE : Hid (eqAll p ks l = false) := eqAll_ne hlen
    clear hlen
    go_enter Tryz.func136, Tryz.ntmps136
    go_wp2_with fail
    go_ret
    exact ⟨by rw [HE.out]; rfl, Below.refl _ _⟩
def ValidI (w0 : World) (_ : List Tree) (S : Nat → Prop) (W : World) : Prop := Below w0.heap.size w0 W ∧ ∀ k, ¬ S k
theorem cells7 {W w' : World} (hb : Below W.heap.size W w') {b1 b2 : Nat} {T1 T2 : TypeId} {a0 a1 a2 a3 c0 c1 c2 : Value} (h1 : W.heap[b1]? = some (.cells #[a0, a1, a2, a3] T1 (0, 0))) (h2 : W.heap[b2]? = some (.cells #[c0, c1, c2] T2 (0, 0))) :
    w'.cell? ⟨b1, 0, none⟩ = some a0 ∧ w'.cell? ⟨b1, 0 + 1, none⟩ = some a1 ∧ w'.cell? ⟨b1, 0 + 2, none⟩ = some a2 ∧ w'.cell? ⟨b1, 0 + 3, none⟩ = some a3 ∧ w'.cell? ⟨b2, 0, none⟩ = some c0 ∧ w'.cell? ⟨b2, 0 + 1, none⟩ = some c1 ∧ w'.cell? ⟨b2, 0 + 2, none⟩ = some c2 := by
  obtain ⟨x1, x2, x3, x4⟩ := bx_cells4 (bx_keep h1 hb)
  obtain ⟨y1, y2, y3⟩ := bx_cells3 (bx_keep h2 hb)
  exact ⟨x1, x2, x3, x4, y1, y2, y3⟩
end Go.Proofs.YtfocooehnmpndaaGreat
namespace Go.Proofs.YtfocooehnmpndaaGreat
open Go.RowKit
theorem cells8 {W w' : World} (hb : Below W.heap.size W w') {b1 b2 b3 o3 : Nat} {T1 T2 : TypeId} {a0 a1 a2 a3 c0 c1 c2 d : Value} (h1 : W.heap[b1]? = some (.cells #[a0, a1, a2, a3] T1 (0, 0))) (h2 : W.heap[b2]? = some (.cells #[c0, c1, c2] T2 (0, 0))) (h3 : W.cell? ⟨b3, o3, none⟩ = some d) :
    w'.cell? ⟨b1, 0, none⟩ = some a0 ∧ w'.cell? ⟨b1, 0 + 1, none⟩ = some a1 ∧ w'.cell? ⟨b1, 0 + 2, none⟩ = some a2 ∧ w'.cell? ⟨b1, 0 + 3, none⟩ = some a3 ∧ w'.cell? ⟨b2, 0, none⟩ = some c0 ∧ w'.cell? ⟨b2, 0 + 1, none⟩ = some c1 ∧ w'.cell? ⟨b2, 0 + 2, none⟩ = some c2 ∧ w'.cell? ⟨b3, o3, none⟩ = some d := by
  obtain ⟨x1, x2, x3, x4, y1, y2, y3⟩ := cells7 hb h1 h2
  exact ⟨x1, x2, x3, x4, y1, y2, y3, (hb.cell (p := ⟨b3, o3, none⟩) (lt_of_cell h3)).trans h3⟩
set_option maxHeartbeats 4000000 in
set_option maxRecDepth 100000 in
theorem nodeOkE (g : Gram) (b : Nat) (ar : Option Addr) (cr : Nat) (t : Tree) (ak : Option Addr) (ck : Nat) (w : World) (hx : w.heap[b]? = some (.cells #[.int .i64 g.terms, .int .i64 g.nons, .int .i64 g.start, .slice ar g.rules.length cr] 24 (0, 0)))
    (hr : Rd AnyB w (.sl (g.rules.map Rule.d)) [.slice ar g.rules.length cr]) (hk : Rd AnyB w (.sl (t.kids.map Tree.d)) [.slice ak t.kids.length ck]) :
    Calls Tryz.prog 135 #[.agg #[.int .i64 t.rule, .int .i64 t.term, .slice ak t.kids.length ck], .pointer (some ⟨b, 0, none⟩)] w fun e w' => e = .returned (.bool (nodeOk g t)) ∧ Below w.heap.size w w' := by
  have hbs := hr.bounds.2
  have hbk := hk.bounds.2
  unfold maxLen at hbs hbk
  obtain ⟨hc1, hc2⟩ := hbs
  obtain ⟨hc3, hc4⟩ := hbk
  obtain ⟨w0, HW0⟩ := nameIt (w.alloc (.cells #[.int .i64 t.rule, .int .i64 t.term, .slice ak t.kids.length ck] 31))
  have hb0 : Below w.heap.size w w0 := by rw [← HW0.out]; exact (Below.refl _ _).alloc (Nat.le_refl _) _
  have X1 := Lib.hid (bx_keep hx hb0)
  have X2 : Hid (w0.heap[w.heap.size]? = some (.cells #[.int .i64 t.rule, .int .i64 t.term, .slice ak t.kids.length ck] 31 (0, 0))) := by
    rw [← HW0.out]; exact bx_new _ _ _ rfl
  have HX1 := X1
  have HR := Lib.hid (hr.below hb0)
  have HKD := Lib.hid (hk.below hb0)
  have HB0 := Lib.hid hb0
  have PA : Hid (∀ W, Below w0.heap.size w0 W → PairAt 137 #[.pointer (some ⟨b, 0, none⟩)] (kidOk g) W) := by
    intro W hb W' k v s hb' hv
    obtain ⟨a, n, c, rfl⟩ := treeBox hv
    have hbb := hb.trans (hb'.mono hb.size)
    exact kidOkE g b ar cr k a n c s W' (bx_keep HX1.out hbb) (HR.out.below hbb)
  obtain ⟨B, HBn⟩ := nameIt (nodeOk g t)
  have HBV : Hid (nodeOk g t = B) := HBn
  obtain ⟨gt, HGT⟩ := nameIt g.terms
  obtain ⟨gn, HGN⟩ := nameIt g.nons
  obtain ⟨gs, HGS⟩ := nameIt g.start
  obtain ⟨R, HRn⟩ := nameIt g.rules
  obtain ⟨r, HRr⟩ := nameIt t.rule
  obtain ⟨tm, HRt⟩ := nameIt t.term
  obtain ⟨K, HKn⟩ := nameIt t.kids
  rw [HGT.out, HGN.out, HGS.out, HRn.out] at X1
  rw [HRr.out, HRt.out, HKn.out] at X2 HW0
  rw [HKn.out] at HKD hc3
  rw [HRn.out] at HR hc1
  unfold nodeOk at HBV
  rw [HRr.out, HRt.out, HKn.out, HGT.out, HRn.out] at HBV
  rw [HRr.out, HRt.out, HKn.out, HBn.out]
  obtain ⟨x0, x1, x2, x3, y0, y1, y2⟩ := cells7 (Below.refl w0.heap.size w0) X1.out X2.out
  clear hx hr hk hb0
  go_enter Tryz.func135, Tryz.ntmps135
  go_upto_region 1 with fail
  rw [HW0.out]
  by_cases h0 : r = -1
  · have hv := HBV.out
    rw [if_pos h0] at hv
    have hrb : (r == -1) = true := by simpa using h0
    clear h0
    by_cases h1 : 0 ≤ tm
    · have b1 : decide (0 ≤ tm) = true := by simpa using h1
      by_cases h2 : tm < gt
      · have b2 : decide (tm < gt) = true := by simpa using h2
        have HE : Hid (B = ((K.length : Int) == 0)) := by show _ = _; rw [← hv, b1, b2, Bool.eq_iff_iff]; simp
        clear hv
        go_wp2_with fail
        go_ret
        exact ⟨by rw [HE.out]; rfl, HB0.out⟩
      · have b2 : decide (tm < gt) = false := by simpa using h2
        obtain rfl : B = false := by rw [← hv, b2]; simp
        clear hv
        go_wp2_with fail
        go_ret
        exact ⟨rfl, HB0.out⟩
    · have b1 : decide (0 ≤ tm) = false := by simpa using h1
      obtain rfl : B = false := by rw [← hv, b1]; simp
      clear hv
      go_wp2_with fail
      go_ret
      exact ⟨rfl, HB0.out⟩
  · have hv := HBV.out
    rw [if_neg h0] at hv
    have hrb : (r == -1) = false := by simpa using h0
    clear h0
    by_cases h1 : r < 0
    · have b1 : decide (r < 0) = true := by simpa using h1
      obtain rfl : B = false := by rw [← hv, if_pos h1]
      clear hv
      go_wp2_with fail
      go_ret
      exact ⟨rfl, HB0.out⟩
    · rw [if_neg h1] at hv
      obtain ⟨j, rfl⟩ := Int.eq_ofNat_of_zero_le (show 0 ≤ r by omega)
      have b1 : decide ((j : Int) < 0) = false := by simp
      by_cases h2 : j < R.length
      · have b2 : decide (R.length ≤ j) = false := by simp; omega
        have b2' : decide ((R.length : Int) ≤ (j : Int)) = false := by simp; omega
        have h2' : (j : Int) < (R.length : Int) := by omega
        have h2'' : (0 : Int) ≤ (j : Int) := by omega
        rw [show R[(j : Int).toNat]? = some R[j] by simp [h2]] at hv
        by_cases h3 : tm = 0
        · subst h3
          obtain ⟨br, orr, vr, hae, -, hbl, -, e1, hkr⟩ := HR.out.rule_at h2
          obtain ⟨av, cv, rfl, -, -⟩ := hkr.form
          rw [List.length_map] at e1 hkr
          obtain ⟨L, HLn⟩ := nameIt (R[j]'h2).right
          rw [HLn.out] at e1 hkr
          have hv' : (decide ((0 : Int) = 0) && kidsOk g K (R[j]'h2).right) = B := hv
          rw [HLn.out] at hv'
          have HE : Hid (eqAll (kidOk g) K L = B) := by show _ = _; rw [← hv']; simp [kidsOk, eqAll]
          clear hv'
          have CE := Lib.hid (fun W (hb : Below w0.heap.size w0 W) => equalFuncTS 137 #[.pointer (some ⟨b, 0, none⟩)] (kidOk g) ak av ck cv K L W (fun _ _ => by kernel_rfl) (PA.out W hb) (HKD.out.below hb) (hkr.below hb))
          rw [HE.out] at CE
          have E1 := Lib.hid e1
          subst hae
          clear hv hkr
          go_upto_region 5 with fail
          go_region_held3 (fun w' => w'.cell? ⟨b, 0, none⟩ = some (.int .i64 gt) ∧ w'.cell? ⟨b, 0 + 1, none⟩ = some (.int .i64 gn) ∧ w'.cell? ⟨b, 0 + 2, none⟩ = some (.int .i64 gs) ∧ w'.cell? ⟨b, 0 + 3, none⟩ = some (.slice (some ⟨br, orr, none⟩) R.length cr) ∧ w'.cell? ⟨w.heap.size, 0, none⟩ = some (.int .i64 j) ∧ w'.cell? ⟨w.heap.size, 0 + 1, none⟩ = some (.int .i64 0) ∧ w'.cell? ⟨w.heap.size, 0 + 2, none⟩ = some (.slice ak K.length ck) ∧ w'.cell? ⟨br, orr + j * 2 + 1, none⟩ = some (.slice av L.length cv))
            (first | exact cells8 (Below.refl _ _).drew X1.out X2.out E1.out | exact cells8 HB1.out X1.out X2.out E1.out | fail)
            (first
              | (go_at_call 136; (with_reducible refine (CE.out _ (Below.refl _ _).drew).mono ?_); rintro e w1 ⟨rfl, hb1⟩; have HB1 : Hid (Below w0.heap.size w0 w1) := (Below.refl _ _).drew.trans hb1; clear hb1)
              | fail)
          go_wp2_with fail
          go_ret
          exact ⟨rfl, HB0.out.trans (HB1.out.mono HB0.out.size)⟩
        · have b3 : (tm != 0) = true := by simpa using h3
          obtain rfl : B = false := by rw [← hv]; simp [h3]
          clear hv h3
          go_wp2_with fail
          go_ret
          exact ⟨rfl, HB0.out⟩
      · have b2 : decide (R.length ≤ j) = true := by simp; omega
        have b2' : decide ((R.length : Int) ≤ (j : Int)) = true := by simp; omega
        obtain rfl : B = false := by rw [← hv, show R[(j : Int).toNat]? = none by simp; omega]
        clear hv
        go_wp2_with fail
        go_ret
        exact ⟨rfl, HB0.out⟩
theorem validF (g : Gram) (b : Nat) (ar : Option Addr) (cr : Nat) (w0 : World) (N : Nat) (hx : w0.heap[b]? = some (.cells #[.int .i64 g.terms, .int .i64 g.nons, .int .i64 g.start, .slice ar g.rules.length cr] 24 (0, 0)))
    (hr : Rd AnyB w0 (.sl (g.rules.map Rule.d)) [.slice ar g.rules.length cr]) : NodeFn 135 #[.pointer (some ⟨b, 0, none⟩)] w0 (nodeOk g) N (ValidI w0) where
  below := fun h => h.1
  own := fun h k hk => absurd hk (h.2 k)
  keep := fun h hb => ⟨h.1.trans (hb.mono h.1.size), h.2⟩
  call := by
    intro s S W t v h hv _
    obtain ⟨a, c, rfl, -, -⟩ := hv.form
    rw [List.length_map] at hv ⊢
    refine (nodeOkE g b ar cr t a c W (bx_keep hx h.1) (hr.below h.1) (hv.below h.1)).mono ?_
    rintro e W' ⟨rfl, hb⟩
    exact ⟨S, rfl, ⟨h.1.trans (hb.mono h.1.size), h.2⟩, Below.keeps hb, fun k hk => .inl hk⟩
set_option maxHeartbeats 1000000 in
set_option maxRecDepth 100000 in
theorem validE (g : Gram) (ar : Option Addr) (cr : Nat) (t : Tree) (at' : Option Addr) (ct : Nat) (w : World) (hr : Rd AnyB w (.sl (g.rules.map Rule.d)) [.slice ar g.rules.length cr]) (hk : Rd AnyB w (.sl (t.kids.map Tree.d)) [.slice at' t.kids.length ct]) :
    Calls Tryz.prog 121 #[.agg #[.int .i64 g.terms, .int .i64 g.nons, .int .i64 g.start, .slice ar g.rules.length cr], .agg #[.int .i64 t.rule, .int .i64 t.term, .slice at' t.kids.length ct]] w fun e w' => e = .returned (.bool (validT g t)) ∧ Below w.heap.size w w' := by
  obtain ⟨w0, HW0⟩ := nameIt ((w.alloc (.cells #[.int .i64 g.terms, .int .i64 g.nons, .int .i64 g.start, .slice ar g.rules.length cr] 24)).alloc (.cells #[.int .i64 t.rule, .int .i64 t.term, .slice at' t.kids.length ct] 31))
  have hb0 : Below w.heap.size w w0 := by rw [← HW0.out]; exact ((Below.refl _ _).alloc (Nat.le_refl _) _).alloc (by simp) _
  have hx : w0.heap[w.heap.size]? = some (.cells #[.int .i64 g.terms, .int .i64 g.nons, .int .i64 g.start, .slice ar g.rules.length cr] 24 (0, 0)) := by
    rw [← HW0.out]; exact bx_keep (bx_new _ _ _ rfl) ((Below.refl _ _).alloc (Nat.le_refl _) _)
  have X2 : Hid (w0.heap[w.heap.size + 1]? = some (.cells #[.int .i64 t.rule, .int .i64 t.term, .slice at' t.kids.length ct] 31 (0, 0))) := by
    rw [← HW0.out]; exact bx_new _ _ _ (by simp)
  have HC := Lib.hid (walkE 135 #[.pointer (some ⟨w.heap.size, 0, none⟩)] w0 (nodeOk g) (nodes t).length (ValidI w0) (fun _ _ => by kernel_rfl) (validF g w.heap.size ar cr w0 _ hx (hr.below hb0)) (nodes t).length t _ [] (fun _ => False) w0 (Nat.le_refl _) ⟨Below.refl _ _, fun _ h => h⟩ (hk.below hb0) (by simp))
  have HB0 := Lib.hid hb0
  obtain ⟨y0, y1, y2⟩ := bx_cells3 X2.out
  obtain ⟨gt, HGT⟩ := nameIt g.terms
  obtain ⟨gn, HGN⟩ := nameIt g.nons
  obtain ⟨gs, HGS⟩ := nameIt g.start
  obtain ⟨n, HKn⟩ := nameIt g.rules.length
  obtain ⟨r, HRr⟩ := nameIt t.rule
  obtain ⟨tm, HRt⟩ := nameIt t.term
  obtain ⟨m, HMn⟩ := nameIt t.kids.length
  rw [HGT.out, HGN.out, HGS.out, HKn.out, HRr.out, HRt.out, HMn.out] at HW0
  rw [HRr.out] at y0
  rw [HRt.out] at y1
  rw [HMn.out] at y2
  rw [HRr.out, HRt.out, HMn.out] at HC
  rw [HGT.out, HGN.out, HGS.out, HKn.out, HRr.out, HRt.out, HMn.out]
  clear hr hk hx hb0
  go_enter Tryz.func121, Tryz.ntmps121
  go_upto_region 1 with fail
  rw [HW0.out]
  go_wp2_with fail
  refine HC.out.mono ?_
  rintro e w1 ⟨S', rfl, ⟨h1, h2⟩, h3, h4⟩
  have HB1 := Lib.hid h1
  obtain ⟨B, HBn⟩ := nameIt ((nodes t).all (nodeOk g))
  rw [HBn.out]
  clear h1 h2 h3 h4
  go_wp2_with fail
  go_ret
  exact ⟨by rw [← HBn.out]; rfl, HB0.out.trans (HB1.out.mono HB0.out.size)⟩
set_option maxHeartbeats 1000000 in
set_option maxRecDepth 100000 in
theorem treeCheckE (g : Gram) (ar : Option Addr) (cr : Nat) (t : Tree) (at' : Option Addr) (ct : Nat) (w : World) (hr : Rd AnyB w (.sl (g.rules.map Rule.d)) [.slice ar g.rules.length cr]) (hk : Rd AnyB w (.sl (t.kids.map Tree.d)) [.slice at' t.kids.length ct]) (hN : (nodes t).length ≤ 1099511627776) :
    Calls Tryz.prog 97 #[.agg #[.int .i64 g.terms, .int .i64 g.nons, .int .i64 g.start, .slice ar g.rules.length cr], .agg #[.int .i64 t.rule, .int .i64 t.term, .slice at' t.kids.length ct]] w fun e w' => e = .returned (.int .i64 (checkT g t)) ∧ Below w.heap.size w w' := by
  obtain ⟨w0, HW0⟩ := nameIt ((w.alloc (.cells #[.int .i64 g.terms, .int .i64 g.nons, .int .i64 g.start, .slice ar g.rules.length cr] 24)).alloc (.cells #[.int .i64 t.rule, .int .i64 t.term, .slice at' t.kids.length ct] 31))
  have hb0 : Below w.heap.size w w0 := by rw [← HW0.out]; exact ((Below.refl _ _).alloc (Nat.le_refl _) _).alloc (by simp) _
  have X1 : Hid (w0.heap[w.heap.size]? = some (.cells #[.int .i64 g.terms, .int .i64 g.nons, .int .i64 g.start, .slice ar g.rules.length cr] 24 (0, 0))) := by
    rw [← HW0.out]; exact bx_keep (bx_new _ _ _ rfl) ((Below.refl _ _).alloc (Nat.le_refl _) _)
  have X2 : Hid (w0.heap[w.heap.size + 1]? = some (.cells #[.int .i64 t.rule, .int .i64 t.term, .slice at' t.kids.length ct] 31 (0, 0))) := by
    rw [← HW0.out]; exact bx_new _ _ _ (by simp)
  have C1 := Lib.hid (checkE g ar cr w0 (hr.below hb0))
  have C2 := Lib.hid (fun W (hb : Below w0.heap.size w0 W) => sizeE t _ W ((hk.below hb0).below hb) (by omega))
  have C3 := Lib.hid (fun W (hb : Below w0.heap.size w0 W) => validE g ar cr t at' ct W ((hr.below hb0).below hb) ((hk.below hb0).below hb))
  have HB0 := Lib.hid hb0
  obtain ⟨E1, HE1⟩ := nameIt (checkG g)
  obtain ⟨M, HM⟩ := nameIt (nodes t).length
  obtain ⟨V, HV⟩ := nameIt (validT g t)
  obtain ⟨B, HBn⟩ := nameIt (checkT g t)
  have HBV : Hid (B = if E1 ≠ 0 then E1 else if 5000 < M then 2 else if V then 0 else 3) := by show _ = _; rw [← HBn.out]; unfold checkT; rw [HE1.out, HM.out, HV.out]
  obtain ⟨gt, HGT⟩ := nameIt g.terms
  obtain ⟨gn, HGN⟩ := nameIt g.nons
  obtain ⟨gs, HGS⟩ := nameIt g.start
  obtain ⟨n, HKn⟩ := nameIt g.rules.length
  obtain ⟨r, HRr⟩ := nameIt t.rule
  obtain ⟨tm, HRt⟩ := nameIt t.term
  obtain ⟨m, HMn⟩ := nameIt t.kids.length
  rw [HGT.out, HGN.out, HGS.out, HKn.out, HRr.out, HRt.out, HMn.out] at HW0
  rw [HGT.out, HGN.out, HGS.out, HKn.out] at X1
  rw [HRr.out, HRt.out, HMn.out] at X2
  rw [HGT.out, HGN.out, HGS.out, HKn.out, HE1.out] at C1
  rw [HRr.out, HRt.out, HMn.out, HM.out] at C2
  rw [HGT.out, HGN.out, HGS.out, HKn.out, HRr.out, HRt.out, HMn.out, HV.out] at C3
  rw [HGT.out, HGN.out, HGS.out, HKn.out, HRr.out, HRt.out, HMn.out, HBn.out]
  rw [HM.out] at hN
  obtain ⟨x0, x1, x2, x3, y0, y1, y2⟩ := cells7 (Below.refl w0.heap.size w0) X1.out X2.out
  clear hr hk hb0
  go_enter Tryz.func97, Tryz.ntmps97
  go_upto_region 1 with fail
  rw [HW0.out]
  go_wp2_with fail
  refine C1.out.mono ?_
  rintro e w1 ⟨rfl, hb1⟩
  have HB1 := Lib.hid hb1
  obtain ⟨x0, x1, x2, x3, y0, y1, y2⟩ := cells7 hb1 X1.out X2.out
  clear hb1
  by_cases h1 : E1 = 0
  · subst h1
    have hv := HBV.out
    rw [if_neg (by simp)] at hv
    have HV2 := Lib.hid hv
    clear hv
    go_wp2_with fail
    refine (C2.out _ HB1.out).mono ?_
    rintro e w2 ⟨rfl, hb2⟩
    have HB2 := Lib.hid (HB1.out.trans (hb2.mono HB1.out.size))
    clear hb2 x0 x1 x2 x3 y0 y1 y2
    obtain ⟨x0, x1, x2, x3, y0, y1, y2⟩ := cells7 HB2.out X1.out X2.out
    by_cases h2 : 5000 < M
    · have h2' : (5000 : Int) < (M : Int) := by omega
      obtain rfl : B = 2 := by rw [HV2.out, if_pos h2]
      go_wp2_with fail
      go_ret
      exact ⟨rfl, HB0.out.trans (HB2.out.mono HB0.out.size)⟩
    · have h2' : ¬ (5000 : Int) < (M : Int) := by omega
      have hv := HV2.out
      rw [if_neg h2] at hv
      have HV3 := Lib.hid hv
      clear hv
      go_wp2_with fail
      refine (C3.out _ HB2.out).mono ?_
      rintro e w3 ⟨rfl, hb3⟩
      have HB3 := Lib.hid (HB2.out.trans (hb3.mono HB2.out.size))
      clear hb3 x0 x1 x2 x3 y0 y1 y2
      cases V with
      | true =>
        obtain rfl : B = 0 := by rw [HV3.out]; rfl
        go_wp2_with fail
        go_ret
        exact ⟨rfl, HB0.out.trans (HB3.out.mono HB0.out.size)⟩
      | false =>
        obtain rfl : B = 3 := by rw [HV3.out]; rfl
        go_wp2_with fail
        go_ret
        exact ⟨rfl, HB0.out.trans (HB3.out.mono HB0.out.size)⟩
  · have hne : (E1 != 0) = true := by simpa using h1
    obtain rfl : B = E1 := by rw [HBV.out, if_pos h1]
    clear h1
    go_wp2_with fail
    go_ret
    exact ⟨rfl, HB0.out.trans (HB1.out.mono HB0.out.size)⟩
end Go.Proofs.YtfocooehnmpndaaGreat
namespace Go.Proofs.YtfocooehnmpndaaGreat
open Go.RowKit
theorem below_box2 {B b : Nat} {w w' : World} (h : Below B w w') (hb : B ≤ b) (x y : Value) : Below B w ((w'.setCell ⟨b, 0, none⟩ x).setCell ⟨b, 1, none⟩ y) :=
  (h.setCell (p := ⟨b, 0, none⟩) hb x).setCell (p := ⟨b, 1, none⟩) hb y
def symOf (g : Gram) (t : Tree) : Sym := if checkT g t = 0 then rootS g t else ⟨false, 0⟩
set_option maxHeartbeats 1000000 in
set_option maxRecDepth 100000 in
theorem symbolE (g : Gram) (ar : Option Addr) (cr : Nat) (t : Tree) (at' : Option Addr) (ct : Nat) (w : World) (hr : Rd AnyB w (.sl (g.rules.map Rule.d)) [.slice ar g.rules.length cr]) (hk : Rd AnyB w (.sl (t.kids.map Tree.d)) [.slice at' t.kids.length ct]) (hN : (nodes t).length ≤ 1099511627776) :
    Calls Tryz.prog 60 #[.agg #[.int .i64 g.terms, .int .i64 g.nons, .int .i64 g.start, .slice ar g.rules.length cr], .agg #[.int .i64 t.rule, .int .i64 t.term, .slice at' t.kids.length ct]] w fun e w' => e = .returned (.tuple #[.agg #[.bool (symOf g t).term, .int .i64 (symOf g t).n], .int .i64 (checkT g t)]) ∧ Below w.heap.size w w' := by
  obtain ⟨w0, HW0⟩ := nameIt (((w.alloc (.cells #[.int .i64 g.terms, .int .i64 g.nons, .int .i64 g.start, .slice ar g.rules.length cr] 24)).alloc (.cells #[.int .i64 t.rule, .int .i64 t.term, .slice at' t.kids.length ct] 31)).alloc (.cells #[.bool false, .int .i64 0] 78))
  have hb0 : Below w.heap.size w w0 := by rw [← HW0.out]; exact (((Below.refl _ _).alloc (Nat.le_refl _) _).alloc (by simp) _).alloc (by simp; omega) _
  have X1 : Hid (w0.heap[w.heap.size]? = some (.cells #[.int .i64 g.terms, .int .i64 g.nons, .int .i64 g.start, .slice ar g.rules.length cr] 24 (0, 0))) := by
    rw [← HW0.out]; exact bx_keep (bx_keep (bx_new _ _ _ rfl) ((Below.refl _ _).alloc (Nat.le_refl _) _)) ((Below.refl _ _).alloc (Nat.le_refl _) _)
  have X2 : Hid (w0.heap[w.heap.size + 1]? = some (.cells #[.int .i64 t.rule, .int .i64 t.term, .slice at' t.kids.length ct] 31 (0, 0))) := by
    rw [← HW0.out]; exact bx_keep (bx_new _ _ _ (by simp)) ((Below.refl _ _).alloc (Nat.le_refl _) _)
  have X3 : Hid (w0.heap[w.heap.size + 1 + 1]? = some (.cells #[.bool false, .int .i64 0] 78 (0, 0))) := by
    rw [← HW0.out]; exact bx_new _ _ _ (by simp)
  have C1 := Lib.hid (treeCheckE g ar cr t at' ct w0 (hr.below hb0) (hk.below hb0) hN)
  have C2 := Lib.hid (fun W (hb : Below w0.heap.size w0 W) => rootE g ar cr t at' t.kids.length ct W ((hr.below hb0).below hb))
  have HB0 := Lib.hid hb0
  obtain ⟨E1, HE1⟩ := nameIt (checkT g t)
  obtain ⟨Y, HY⟩ := nameIt (symOf g t)
  have HYV : Hid (Y = if E1 = 0 then rootS g t else ⟨false, 0⟩) := by show _ = _; rw [← HY.out]; unfold symOf; rw [HE1.out]
  obtain ⟨Z, HZ⟩ := nameIt (rootS g t)
  rw [HZ.out] at HYV C2
  obtain ⟨gt, HGT⟩ := nameIt g.terms
  obtain ⟨gn, HGN⟩ := nameIt g.nons
  obtain ⟨gs, HGS⟩ := nameIt g.start
  obtain ⟨n, HKn⟩ := nameIt g.rules.length
  obtain ⟨r, HRr⟩ := nameIt t.rule
  obtain ⟨tm, HRt⟩ := nameIt t.term
  obtain ⟨m, HMn⟩ := nameIt t.kids.length
  rw [HGT.out, HGN.out, HGS.out, HKn.out, HRr.out, HRt.out, HMn.out] at HW0 C2
  rw [HGT.out, HGN.out, HGS.out, HKn.out, HRr.out, HRt.out, HMn.out, HE1.out] at C1
  rw [HGT.out, HGN.out, HGS.out, HKn.out] at X1
  rw [HRr.out, HRt.out, HMn.out] at X2
  rw [HGT.out, HGN.out, HGS.out, HKn.out, HRr.out, HRt.out, HMn.out, HE1.out, HY.out]
  obtain ⟨x0, x1, x2, x3, y0, y1, y2, z0, z1⟩ := cells9 (Below.refl w0.heap.size w0) X1.out X2.out X3.out
  clear hr hk hb0
  go_enter Tryz.func60, Tryz.ntmps60
  go_upto_region 1 with fail
  rw [HW0.out]
  go_wp2_with fail
  refine C1.out.mono ?_
  rintro e w1 ⟨rfl, hb1⟩
  have HB1 := Lib.hid hb1
  obtain ⟨x0, x1, x2, x3, y0, y1, y2, z0, z1⟩ := cells9 hb1 X1.out X2.out X3.out
  obtain ⟨f0, f1⟩ := bx_free2 (bx_keep X3.out hb1)
  clear hb1
  by_cases h1 : E1 = 0
  · subst h1
    have hy := HYV.out
    rw [if_pos rfl] at hy
    subst hy
    go_wp2_with fail
    refine (C2.out _ HB1.out).mono ?_
    rintro e w2 ⟨rfl, hb2⟩
    have HB2 := Lib.hid (HB1.out.trans (hb2.mono HB1.out.size))
    clear hb2 x0 x1 x2 x3 y0 y1 y2 z0 z1 f0 f1
    obtain ⟨x0, x1, x2, x3, y0, y1, y2, z0, z1⟩ := cells9 HB2.out X1.out X2.out X3.out
    obtain ⟨f0, f1⟩ := bx_free2 (bx_keep X3.out HB2.out)
    obtain ⟨Y0, HY0⟩ := nameIt Y.term
    obtain ⟨Y1, HY1⟩ := nameIt Y.n
    rw [HY0.out, HY1.out]
    go_wp2_with fail
    exact bodyPost_ret (v := .tuple #[.agg #[.bool Y0, .int .i64 Y1], .int .i64 0]) (by simp [results, Tryz.results60, go_sem, z0, z1]) rfl ⟨by rw [← HY0.out, ← HY1.out], below_box2 (HB0.out.trans (HB2.out.mono HB0.out.size)) (by omega) _ _⟩
  · have hne : (E1 != 0) = true := by simpa using h1
    obtain rfl : Y = ⟨false, 0⟩ := by rw [HYV.out, if_neg h1]
    clear h1
    go_wp2_with fail
    exact bodyPost_ret (v := .tuple #[.agg #[.bool false, .int .i64 0], .int .i64 E1]) (by simp [results, Tryz.results60, go_sem, z0, z1]) rfl ⟨rfl, below_box2 (HB0.out.trans (HB1.out.mono HB0.out.size)) (by omega) _ _⟩
def labS (g : Gram) (t : Tree) : Sym := (label g t).getD ⟨false, 0⟩
set_option maxHeartbeats 1000000 in
set_option maxRecDepth 100000 in
theorem labelE (g : Gram) (ar : Option Addr) (cr : Nat) (t : Tree) (at' : Option Addr) (ct : Nat) (w : World) (hr : Rd AnyB w (.sl (g.rules.map Rule.d)) [.slice ar g.rules.length cr]) :
    Calls Tryz.prog 34 #[.agg #[.int .i64 g.terms, .int .i64 g.nons, .int .i64 g.start, .slice ar g.rules.length cr], .agg #[.int .i64 t.rule, .int .i64 t.term, .slice at' t.kids.length ct]] w fun e w' => e = .returned (.tuple #[.agg #[.bool (labS g t).term, .int .i64 (labS g t).n], .bool (label g t).isSome]) ∧ Below w.heap.size w w' := by
  have hbs := hr.bounds.2
  unfold maxLen at hbs
  obtain ⟨hc1, hc2⟩ := hbs
  obtain ⟨gt, HGT⟩ := nameIt g.terms
  obtain ⟨gn, HGN⟩ := nameIt g.nons
  obtain ⟨gs, HGS⟩ := nameIt g.start
  obtain ⟨K, HK⟩ := nameIt g.rules
  obtain ⟨r, HRr⟩ := nameIt t.rule
  obtain ⟨tm, HRt⟩ := nameIt t.term
  obtain ⟨m, HMn⟩ := nameIt t.kids.length
  obtain ⟨S, HS⟩ := nameIt (labS g t)
  obtain ⟨q, HQ⟩ := nameIt (label g t)
  have HSV : Hid (S = q.getD ⟨false, 0⟩) := by show _ = _; rw [← HS.out, ← HQ.out]; rfl
  have HQV : Hid (q = if r = -1 ∧ m = 0 ∧ 0 ≤ tm ∧ tm < gt then some ⟨true, tm⟩ else if r < 0 ∨ tm ≠ 0 then none else (K[r.toNat]?).map fun x => ⟨false, x.left⟩) := by
    show _ = _; rw [← HQ.out]; unfold label; rw [HRr.out, HRt.out, HK.out, HMn.out, HGT.out]
  have HR := Lib.hid hr
  rw [HK.out] at HR hc1
  rw [HGT.out, HGN.out, HGS.out, HK.out, HRr.out, HRt.out, HMn.out, HS.out, HQ.out]
  have HB : Hid (Below w.heap.size w (((w.alloc (.cells #[.int .i64 gt, .int .i64 gn, .int .i64 gs, .slice ar K.length cr] 24)).alloc (.cells #[.int .i64 r, .int .i64 tm, .slice at' m ct] 31)).alloc (.cells #[.bool S.term, .int .i64 S.n] 78))) := (((Below.refl _ _).alloc (Nat.le_refl _) _).alloc (by simp) _).alloc (by simp; omega) _
  clear hr
  by_cases h0 : r = -1
  · have a0 : (r == -1) = true := by simpa using h0
    have a5 : decide (0 ≤ r) = false := by simp; omega
    by_cases h1 : m = 0
    · have a1 : ((m : Int) == 0) = true := by simpa using h1
      by_cases h2 : 0 ≤ tm
      · have a2 : decide (0 ≤ tm) = true := by simpa using h2
        by_cases h3 : tm < gt
        · have a3 : decide (tm < gt) = true := by simpa using h3
          obtain rfl : q = some ⟨true, tm⟩ := by rw [HQV.out, if_pos ⟨h0, h1, h2, h3⟩]
          obtain rfl : S = ⟨true, tm⟩ := HSV.out
          clear h0 h1 h2 h3
          go_enter Tryz.func34, Tryz.ntmps34
          go_wp2_with fail
          exact bodyPost_ret (v := .tuple #[.agg #[.bool true, .int .i64 tm], .bool true]) (by simp [results, Tryz.results34, go_sem]) rfl ⟨rfl, HB.out⟩
        · have a3 : decide (tm < gt) = false := by simpa using h3
          obtain rfl : q = none := by rw [HQV.out, if_neg (by omega), if_pos (by omega)]
          obtain rfl : S = ⟨false, 0⟩ := HSV.out
          clear h0 h1 h2 h3
          go_enter Tryz.func34, Tryz.ntmps34
          go_wp2_with fail
          exact bodyPost_ret (v := .tuple #[.agg #[.bool false, .int .i64 0], .bool false]) (by simp [results, Tryz.results34, go_sem]) rfl ⟨rfl, HB.out⟩
      · have a2 : decide (0 ≤ tm) = false := by simpa using h2
        obtain rfl : q = none := by rw [HQV.out, if_neg (by omega), if_pos (by omega)]
        obtain rfl : S = ⟨false, 0⟩ := HSV.out
        clear h0 h1 h2
        go_enter Tryz.func34, Tryz.ntmps34
        go_wp2_with fail
        exact bodyPost_ret (v := .tuple #[.agg #[.bool false, .int .i64 0], .bool false]) (by simp [results, Tryz.results34, go_sem]) rfl ⟨rfl, HB.out⟩
    · have a1 : ((m : Int) == 0) = false := by simpa using h1
      obtain rfl : q = none := by rw [HQV.out, if_neg (by omega), if_pos (by omega)]
      obtain rfl : S = ⟨false, 0⟩ := HSV.out
      clear h0 h1
      go_enter Tryz.func34, Tryz.ntmps34
      go_wp2_with fail
      exact bodyPost_ret (v := .tuple #[.agg #[.bool false, .int .i64 0], .bool false]) (by simp [results, Tryz.results34, go_sem]) rfl ⟨rfl, HB.out⟩
  · have a0 : (r == -1) = false := by simpa using h0
    have hq := HQV.out
    rw [if_neg (fun h => h0 h.1)] at hq
    clear h0
    by_cases h1 : r < 0
    · have a5 : decide (0 ≤ r) = false := by simpa using h1
      obtain rfl : q = none := by rw [hq, if_pos (.inl h1)]
      obtain rfl : S = ⟨false, 0⟩ := HSV.out
      clear h1 hq
      go_enter Tryz.func34, Tryz.ntmps34
      go_wp2_with fail
      exact bodyPost_ret (v := .tuple #[.agg #[.bool false, .int .i64 0], .bool false]) (by simp [results, Tryz.results34, go_sem]) rfl ⟨rfl, HB.out⟩
    · obtain ⟨j, rfl⟩ := Int.eq_ofNat_of_zero_le (show 0 ≤ r by omega)
      have b0 : decide ((j : Int) < 0) = false := by simp
      have b0' : (0 : Int) ≤ (j : Int) := by omega
      by_cases h2 : j < K.length
      · have b1 : decide ((j : Int) < (K.length : Int)) = true := by simp; omega
        have b1' : decide (j < K.length) = true := by simp; omega
        have h2' : (j : Int) < (K.length : Int) := by omega
        by_cases h3 : tm = 0
        · subst h3
          obtain ⟨b, off, vr, hae, -, hbl, c0, -, -⟩ := HR.out.rule_at h2
          obtain ⟨lf, HLF⟩ := nameIt (K[j]'h2).left
          obtain rfl : q = some ⟨false, lf⟩ := by rw [hq, if_neg (by omega)]; simp [h2, HLF.out]
          obtain rfl : S = ⟨false, lf⟩ := HSV.out
          rw [HLF.out] at c0
          subst hae
          clear h1 hq
          have hbl1 : b < w.heap.size + 1 := by omega
          have hbl2 : b < w.heap.size + 1 + 1 := by omega
          have hn0 : ¬ b = w.heap.size := by omega
          have hn1 : ¬ b = w.heap.size + 1 := by omega
          have hn2 : ¬ b = w.heap.size + 1 + 1 := by omega
          go_enter Tryz.func34, Tryz.ntmps34
          go_wp2_with fail
          exact bodyPost_ret (v := .tuple #[.agg #[.bool false, .int .i64 lf], .bool true]) (by simp [results, Tryz.results34, go_sem]) rfl ⟨rfl, HB.out⟩
        · have b3 : (tm == 0) = false := by simpa using h3
          obtain rfl : q = none := by rw [hq, if_pos (.inr h3)]
          obtain rfl : S = ⟨false, 0⟩ := HSV.out
          clear h1 h3 hq
          go_enter Tryz.func34, Tryz.ntmps34
          go_wp2_with fail
          exact bodyPost_ret (v := .tuple #[.agg #[.bool false, .int .i64 0], .bool false]) (by simp [results, Tryz.results34, go_sem]) rfl ⟨rfl, HB.out⟩
      · have b1 : decide ((j : Int) < (K.length : Int)) = false := by simp; omega
        have b1' : decide (j < K.length) = false := by simp; omega
        obtain rfl : q = none := by
          rw [hq]
          by_cases h3 : tm = 0
          · rw [if_neg (by omega)]; simp [show K.length ≤ j by omega]
          · rw [if_pos (.inr h3)]
        obtain rfl : S = ⟨false, 0⟩ := HSV.out
        clear h1 hq
        go_enter Tryz.func34, Tryz.ntmps34
        go_wp2_with fail
        exact bodyPost_ret (v := .tuple #[.agg #[.bool false, .int .i64 0], .bool false]) (by simp [results, Tryz.results34, go_sem]) rfl ⟨rfl, HB.out⟩
end Go.Proofs.YtfocooehnmpndaaGreat
namespace Go.Proofs.YtfocooehnmpndaaGreat
open Go.RowKit
theorem symNe (a c : Bool) (b d : Int) (w : World) : (binOp .neq 78 (.agg #[.bool a, .int .i64 b]) (.agg #[.bool c, .int .i64 d])).run Tryz.prog w = .ok (.bool (!(a == c && b == d))) w := by
  have h1 : Tryz.prog.underlying 78 = some (.struct (Tryz.prog.fieldsOf 78)) := by kernel_rfl
  have h2 : Tryz.prog.stoodInHeld 78 = false := by kernel_rfl
  have h3 := Tryz.underlying78
  have h4 := Tryz.underlying4
  have h5 := Tryz.underlying3
  rw [run_neq_struct, run_equalIn_agg (d := 9999) _ _ _ _ h1 h2]
  simp only [Program.fieldsOf, h3]
  cases hac : (a == c) <;> by_cases hbd : b = d <;> simp [Op.eqFields, go_sem, h4, h5, hac, hbd]
theorem sym_beq (x y : Sym) : (x.term == y.term && x.n == y.n) = decide (x = y) := by
  rw [Bool.eq_iff_iff]; cases x; cases y; simp
set_option maxHeartbeats 1000000 in
set_option maxRecDepth 100000 in
theorem equalSyms (a a' : Option Addr) (c c' : Nat) (l m : List Sym) (w : World) (hl : Rd AnyB w (.sl (l.map Sym.d)) [.slice a l.length c]) (hm : Rd AnyB w (.sl (m.map Sym.d)) [.slice a' m.length c']) :
    Calls Tryz.prog 74 #[.slice a l.length c, .slice a' m.length c'] w fun e w' => e = .returned (.bool (decide (l = m))) ∧ Below w.heap.size w w' := by
  have HL := Lib.hid hl
  have HM := Lib.hid hm
  have hc := hl.bounds.2
  have hc' := hm.bounds.2
  unfold maxLen at hc hc'
  obtain ⟨hc1, hc2⟩ := hc
  obtain ⟨hc3, hc4⟩ := hc'
  clear hl hm
  by_cases hlen : l.length = m.length
  · have hlb : ((l.length : Int) != (m.length : Int)) = false := by simp [hlen]
    have hle : l.length ≤ m.length := by omega
    have HLEN := Lib.hid hlen
    clear hlen
    have heg : Tryz.prog.eqGuardType Tryz.prog.depth 78 = false := by kernel_rfl
    go_enter Tryz.func74, Tryz.ntmps74
    go_wp2_with fail
    go_loopg [13] l.length (fun gg v13 wr => ∃ i : Nat, i ≤ l.length ∧ l.length - i ≤ gg ∧ v13 = .int .i64 i ∧ Hid (Below w.heap.size w wr) ∧ Hid (∀ j (h1 : j < l.length) (h2 : j < m.length), j < i → l[j] = m[j]))
    case atStart => exact ⟨0, by omega, by omega, rfl, Below.refl _ _, fun j _ _ hj => by omega⟩
    case round =>
      obtain ⟨i, hi, hg, rfl, HB, HN⟩ := hrel
      by_cases hlt : i < l.length
      · have hlt' : (i : Int) < (l.length : Int) := by omega
        have hlt2 : i < m.length := by omega
        have hlt2' : (i : Int) < (m.length : Int) := by omega
        have hi0 : (0 : Int) ≤ (i : Int) := by omega
        obtain ⟨b, off, hae, -, hbl, c0, c1⟩ := (HL.out.below HB.out).sym_at hlt
        obtain ⟨b', off', hae', -, hbl', d0, d1⟩ := (HM.out.below HB.out).sym_at hlt2
        obtain ⟨x, HX⟩ := nameIt (l[i]'hlt)
        obtain ⟨y, HY⟩ := nameIt (m[i]'hlt2)
        rw [HX.out] at c0 c1
        rw [HY.out] at d0 d1
        have hne := symNe x.term y.term x.n y.n
        rw [sym_beq] at hne
        obtain ⟨q, HQ⟩ := nameIt (decide (x = y))
        obtain ⟨x0, HX0⟩ := nameIt x.term
        obtain ⟨x1, HX1⟩ := nameIt x.n
        obtain ⟨y0, HY0⟩ := nameIt y.term
        obtain ⟨y1, HY1⟩ := nameIt y.n
        rw [HQ.out, HX0.out, HX1.out, HY0.out, HY1.out] at hne
        rw [HX0.out] at c0
        rw [HX1.out] at c1
        rw [HY0.out] at d0
        rw [HY1.out] at d1
        subst hae hae'
        have HBD := Lib.hid (HB.out.trans ((below_drewN wr 9).mono HB.out.size))
        go_wp2_with fail
        go_quiet (fail)
        cases q with
        | false =>
          have HE : Hid (decide (l = m) = false) := by
            show _ = _
            rw [decide_eq_false_iff_not]
            intro h
            subst h
            have h2 := HX.out.symm.trans HY.out
            subst h2
            have := HQ.out
            simp at this
          go_wp2_with fail
          go_ret
          exact ⟨by rw [HE.out]; rfl, HB.out.trans ((below_drewN _ _).mono HB.out.size)⟩
        | true =>
          have HN2 : Hid (∀ j (h1 : j < l.length) (h2 : j < m.length), j < i + 1 → l[j] = m[j]) := by
            intro j h1 h2 hj
            by_cases e : j = i
            · subst e; rw [HX.out, HY.out]; simpa using HQ.out
            · exact HN.out j h1 h2 (by omega)
          go_wp2_with fail
          go_roundg (l.length - (i + 1))
          case measure => omega
          case rel => exact ⟨i + 1, by omega, by omega, by go_num, HB.out.trans ((below_drewN _ _).mono HB.out.size), HN2⟩
      · have hlt' : ¬ (i : Int) < (l.length : Int) := by omega
        have HE : Hid (decide (l = m) = true) := by
          show _ = _
          rw [decide_eq_true_iff]
          exact List.ext_getElem HLEN.out fun j h1 h2 => HN.out j h1 h2 (by omega)
        go_wp2_with fail
        go_ret
        exact ⟨by rw [HE.out]; rfl, HB.out⟩
  · have hlb : ((l.length : Int) != (m.length : Int)) = true := by simp; omega
    have HE : Hid (decide (l = m) = false) := by show _ = _; rw [decide_eq_false_iff_not]; intro h; exact hlen (by rw [h])
    clear hlen
    go_enter Tryz.func74, Tryz.ntmps74
    go_wp2_with fail
    go_ret
    exact ⟨by rw [HE.out]; rfl, Below.refl _ _⟩
end Go.Proofs.YtfocooehnmpndaaGreat
namespace Go.Proofs.YtfocooehnmpndaaGreat
open Go.RowKit
mutual
def Tree.size : Tree → Nat
  | .node _ _ ks => sizeL ks + 1
def sizeL : List Tree → Nat
  | [] => 0
  | k :: ks => Tree.size k + sizeL ks
end
theorem Tree.size_eq (t : Tree) : t.size = sizeL t.kids + 1 := by cases t; simp [Tree.size, Tree.kids]
theorem Tree.size_pos (t : Tree) : 0 < t.size := by rw [Tree.size_eq]; omega
theorem sizeL_get : ∀ {ks : List Tree} {i : Nat} (h : i < ks.length), ks[i].size ≤ sizeL ks
  | [], i, h => by simp at h
  | k :: ks, 0, h => by simp [sizeL]
  | k :: ks, i + 1, h => by have := sizeL_get (ks := ks) (i := i) (by simpa using h); simp [sizeL]; omega
theorem sizeL_len : ∀ (ks : List Tree), ks.length ≤ sizeL ks
  | [] => by simp
  | k :: ks => by have := sizeL_len ks; have := k.size_pos; simp [sizeL]; omega
theorem elTree : ElemT Tryz.prog 29 31 3 40 := ElemT.mk' (z := .agg #[.int .i64 0, .int .i64 0, .slice none 0 0]) Tryz.underlying29 (by kernel_rfl) rfl (by decide)
structure RowRel (T : Nat → Prop) (B b : Nat) (r tm : Int) (ts : List Tree) (vr : Value) (wr : World) : Prop where
  out : wr.heap[b]? = some (.cells #[.int .i64 r, .int .i64 tm, vr] 31 (0, 0))
  own : ∃ xs, wr.ownsRow B 31 3 vr ts.length xs ∧ RdAll (fun k => T k ∧ vr.ownBlock ≠ some k) wr (ts.map Tree.d) xs
  lt : b < B
  nt : ¬ T b
  le : B ≤ wr.heap.size
theorem RowRel.len {T : Nat → Prop} {B b : Nat} {r tm : Int} {ts : List Tree} {vr : Value} {wr : World} (h : RowRel T B b r tm ts vr wr) : ∃ a cap, vr = .slice a ts.length cap ∧ ts.length ≤ cap ∧ cap ≤ maxLen := by
  obtain ⟨xs, h1, _⟩ := h.own; exact own_len h1
theorem RowRel.keep {T : Nat → Prop} {B b : Nat} {r tm : Int} {ts : List Tree} {vr : Value} {wr w' : World} (h : RowRel T B b r tm ts vr wr) (hb : Below wr.heap.size wr w') : RowRel T B b r tm ts vr w' := by
  obtain ⟨xs, h1, h2⟩ := h.own
  exact ⟨bx_keep h.out hb, ⟨xs, own_keep h1 hb, h2.below hb⟩, h.lt, h.nt, Nat.le_trans h.le hb.size⟩
theorem RowRel.step {T : Nat → Prop} {B b g cap n : Nat} {r tm : Int} {ts : List Tree} {t : Tree} {vr v : Value} {w2 w3 : World} {xs : List Value} (h : RowRel T B b r tm ts vr w2) (hn : ts.length = n) (ho : w2.ownsRow B 31 3 vr n xs) (hd : RdAll (fun k => T k ∧ vr.ownBlock ≠ some k) w2 (ts.map Tree.d) xs)
    (hr : Rd (fun k => T k ∧ vr.ownBlock ≠ some k) w2 (.sl (t.kids.map Tree.d)) [v])
    (ho3 : w3.ownsRow B 31 3 (.slice (some ⟨g, 0, none⟩) (n + 1) cap) (n + 1) (xs ++ [.int .i64 t.rule, .int .i64 t.term, v])) (hg : w2.grownBy w3 vr.ownBlock) (hat : vr.ownBlock = some g ∨ w2.heap.size ≤ g) :
    w3.heap[b]? = some (.cells #[.int .i64 r, .int .i64 tm, vr] 31 (0, 0)) ∧ RowRel T B b r tm (ts ++ [t]) (.slice (some ⟨g, 0, none⟩) (n + 1) cap) (w3.setCell ⟨b, 2, none⟩ (.slice (some ⟨g, 0, none⟩) (n + 1) cap)) := by
  have hlt := (Array.getElem?_eq_some_iff.1 h.out).1
  have hb3 : w3.heap[b]? = some (.cells #[.int .i64 r, .int .i64 tm, vr] 31 (0, 0)) := by
    rw [hg.block b hlt (fun e => by have := (ho.lt b e.symm).1; have := h.lt; omega)]; exact h.out
  have hne : b ≠ g := by
    have h1 := (ho3.lt g rfl).1
    have := h.lt; omega
  refine ⟨hb3, ?_, ⟨xs ++ [.int .i64 t.rule, .int .i64 t.term, v], ?_, ?_⟩, h.lt, h.nt, by simp [World.setCell]; exact Nat.le_trans h.le hg.size⟩
  · rw [bx_set hb3]; rfl
  · rw [List.length_append, hn]
    exact ho3.kept (grown_cell w3 ⟨b, 2, none⟩ _) (.inr (by simpa [Value.ownBlock] using fun e => hne e.symm))
  · have h1 := own_step (S := T) (v' := .slice (some ⟨g, 0, none⟩) (n + 1) cap) hd (RdAll.one (rd_tree hr)) hg (by
      rcases hat with e | e
      · exact .inl e.symm
      · exact .inr ⟨g, rfl, e⟩)
    rw [List.map_append]
    refine RdAll.keep (fun k hk _ => ⟨hk, Below.heap_setCell _ _ _ _ ?_⟩) _ _ h1
    intro e
    simp at e
    subst e
    exact h.nt hk.1
structure CopyRel (t : Tree) (w : World) (i : Nat) (vr : Value) (wr : World) : Prop where
  row : RowRel (fun k => w.heap.size + 1 + 1 + 1 ≤ k) (w.heap.size + 1 + 1 + 1) (w.heap.size + 1 + 1) t.rule t.term (t.kids.take i) vr wr
  res : wr.heap[w.heap.size + 1]? = some (.cells #[.int .i64 0, .int .i64 0, .slice none 0 0] 31 (0, 0))
  bel : Below w.heap.size w wr
end Go.Proofs.YtfocooehnmpndaaGreat
namespace Go.Proofs.YtfocooehnmpndaaGreat
open Go.RowKit
theorem len_nodesL : ∀ (l : List Tree), l.length ≤ (nodesL l).length
  | [] => by simp
  | t :: l => by have := len_nodesL l; have := nodes_pos t; simp [nodesL]; omega
theorem own_lit {w : World} {B g : Nat} {e : TypeId} {size n : Nat} {news : Array Value} (hg : g = w.heap.size) (hB : B ≤ w.heap.size) (hn : news.size = n * size) (hm : n ≤ maxLen) : (w.alloc (.cells news e)).ownsRow B e size (.slice (some ⟨g, 0, none⟩) n n) n news.toList := by
  subst hg
  exact ⟨by simpa using hn, .inr ⟨_, n, news, rfl, hB, heap_alloc_new w _, Nat.le_refl _, hm, hn, by rw [← hn]; exact List.take_of_length_le (by simp)⟩⟩
def RowT (w : World) (B : Nat) (v : Value) (ts : List Tree) (wr : World) : Prop := ∃ xs, wr.ownsRow B 31 3 v ts.length xs ∧ RdAll AnyB w (ts.map Tree.d) xs
theorem RowT.form {w : World} {B : Nat} {v : Value} {ts : List Tree} {wr : World} (h : RowT w B v ts wr) : ∃ a cap, v = .slice a ts.length cap ∧ ts.length ≤ cap ∧ cap ≤ maxLen := by
  obtain ⟨xs, h1, _⟩ := h; exact own_len h1
theorem RowT.lt {w : World} {B : Nat} {v : Value} {ts : List Tree} {wr : World} (h : RowT w B v ts wr) : ∀ k, v.ownBlock = some k → B ≤ k ∧ k < wr.heap.size := by
  obtain ⟨xs, h1, _⟩ := h; exact h1.lt
theorem RowT.keep {w : World} {B : Nat} {v : Value} {ts : List Tree} {wr w' : World} (h : RowT w B v ts wr) (hb : Below wr.heap.size wr w') : RowT w B v ts w' := by
  obtain ⟨xs, h1, h2⟩ := h; exact ⟨xs, own_keep h1 hb, h2⟩
theorem RowT.kept {w : World} {B : Nat} {v : Value} {ts : List Tree} {wr w' : World} {row : Option Nat} (h : RowT w B v ts wr) (hg : wr.grownBy w' row) (hne : ∀ k, v.ownBlock = some k → row ≠ some k) : RowT w B v ts w' := by
  obtain ⟨xs, h1, h2⟩ := h
  refine ⟨xs, h1.kept hg ?_, h2⟩
  cases e : v.ownBlock with
  | none => exact .inl rfl
  | some k => exact .inr fun h => hne k e h.symm
theorem RowT.rd {w : World} {B : Nat} {v : Value} {ts : List Tree} {wr : World} (h : RowT w B v ts wr) (hb : Below w.heap.size w wr) : Rd AnyB wr (.sl (ts.map Tree.d)) [v] := by
  obtain ⟨xs, h1, h2⟩ := h
  exact rd_of_own h1 (h2.below hb) (by simp) (fun _ _ => trivial)
theorem RowT.step {w : World} {B : Nat} {v' u : Value} {ts : List Tree} {t : Tree} {w' : World} {xs : List Value} {n : Nat} (hn : ts.length = n) (hd : RdAll AnyB w (ts.map Tree.d) xs) (hk : Rd AnyB w (.sl (t.kids.map Tree.d)) [u])
    (ho : w'.ownsRow B 31 3 v' (n + 1) (xs ++ [.int .i64 t.rule, .int .i64 t.term, u])) : RowT w B v' (ts ++ [t]) w' :=
  ⟨_, by rw [List.length_append, hn]; exact ho, by rw [List.map_append]; exact RdAll.append hd (RdAll.one (rd_tree hk))⟩
theorem RowT.pop {w : World} {B g cap n : Nat} {ts : List Tree} {t : Tree} {wr : World} (hn : ts.length = n) (h : RowT w B (.slice (some ⟨g, 0, none⟩) (n + 1) cap) (ts ++ [t]) wr) : RowT w B (.slice (some ⟨g, 0, none⟩) n cap) ts wr := by
  obtain ⟨xs, h1, h2⟩ := h
  rw [List.map_append] at h2
  obtain ⟨c1, c2, rfl, h3, h4⟩ := h2.split
  refine ⟨c1, ?_, h3⟩
  rw [List.length_append, hn] at h1
  rw [hn]
  exact ownsRow_pop (by rw [RdAll.len _ _ h3, cellsAll_eq (trees_cells ts)]; simp [hn]) h1
theorem RowT.top {w : World} {B g cap n : Nat} {ts : List Tree} {t : Tree} {wr : World} (hn : ts.length = n) (h : RowT w B (.slice (some ⟨g, 0, none⟩) (n + 1) cap) (ts ++ [t]) wr) :
    ∃ u, wr.cell? ⟨g, n * 3, none⟩ = some (.int .i64 t.rule) ∧ wr.cell? ⟨g, n * 3 + 1, none⟩ = some (.int .i64 t.term) ∧ wr.cell? ⟨g, n * 3 + 2, none⟩ = some u ∧ Rd AnyB w (.sl (t.kids.map Tree.d)) [u] := by
  obtain ⟨xs, h1, h2⟩ := h
  rw [List.map_append] at h2
  obtain ⟨c1, c2, rfl, h3, h4⟩ := h2.split
  rw [List.map_cons, List.map_nil, RdAll.one_iff] at h4
  obtain ⟨u, rfl, hk⟩ := h4.tree
  have hl : c1.length = n * 3 := by rw [RdAll.len _ _ h3, cellsAll_eq (trees_cells ts)]; simp [hn]
  have hc := fun j u hj => h1.cells (g := g) rfl j u hj
  simp only [add_at, Nat.zero_add] at hc
  refine ⟨u, hc _ _ ?_, hc _ _ ?_, hc _ _ ?_, hk⟩ <;> simp [← hl]
theorem RowT.block {w : World} {B n : Nat} {v : Value} {ts : List Tree} {wr : World} (h : RowT w B v ts wr) (hn : ts.length = n + 1) : ∃ g cap, v = .slice (some ⟨g, 0, none⟩) (n + 1) cap ∧ n + 1 ≤ cap ∧ cap ≤ maxLen ∧ B ≤ g ∧ g < wr.heap.size := by
  obtain ⟨xs, h1, h2⟩ := h
  have hlt := h1.lt
  rcases h1.2 with ⟨_, h0⟩ | ⟨g, cap, cur, hv, hg, hh, hn', hc, _⟩
  · omega
  · rw [hn] at hv hn'
    subst hv
    exact ⟨g, cap, rfl, hn', hc, (hlt g rfl).1, (hlt g rfl).2⟩
structure NodesRel (w : World) (st out : List Tree) (vt vo : Value) (wr : World) : Prop where
  ot : RowT w w.heap.size vt st wr
  oo : RowT w w.heap.size vo out wr
  ne : ∀ k, vt.ownBlock = some k → vo.ownBlock ≠ some k
  bel : Below w.heap.size w wr
structure InnerRel (w : World) (st out : List Tree) (vt vo : Value) (bx : Nat) (cs : Array Value) (wr : World) : Prop where
  rel : NodesRel w st out vt vo wr
  box : wr.heap[bx]? = some (.cells cs 31 (0, 0))
  apart : vt.ownBlock ≠ some bx
theorem nodes_leaf {t x : Tree} {s' out : List Tree} (h : out ++ nodesL (s' ++ [x]).reverse = nodes t) (hr : x.rule = -1) : (out ++ [x]) ++ nodesL s'.reverse = nodes t := by
  rw [← h]
  simp [nodesL, nodes_eq x, kidsOf, hr]
theorem nodes_inner {t x : Tree} {s' out : List Tree} (h : out ++ nodesL (s' ++ [x]).reverse = nodes t) (hr : x.rule ≠ -1) : (out ++ [x]) ++ nodesL (s' ++ x.kids.reverse).reverse = nodes t := by
  rw [← h]
  simp [nodesL, nodes_eq x, kidsOf, hr, nodesL_append]
theorem nodesL_rev_cons (s' : List Tree) (x : Tree) : (nodesL (s' ++ [x]).reverse).length = (nodes x).length + (nodesL s'.reverse).length := by simp [nodesL]
def NodesPost (t : Tree) (w : World) (e : Ending) (w' : World) : Prop := ∃ v, e = .returned v ∧ Rd AnyB w' (.sl ((nodes t).map Tree.d)) [v] ∧ Below w.heap.size w w'
set_option maxHeartbeats 2000000 in
set_option maxRecDepth 100000 in
theorem nodesE (t : Tree) (v : Value) (w : World) (hv : Rd AnyB w (.sl (t.kids.map Tree.d)) [v]) (hN : (nodes t).length ≤ 1099511627776) :
    Calls Tryz.prog 55 #[.agg #[.int .i64 t.rule, .int .i64 t.term, v]] w (NodesPost t w) := by
  obtain ⟨a, cap, rfl, -, -⟩ := hv.form
  obtain ⟨n, HN⟩ := nameIt (t.kids.map Tree.d).length
  rw [HN.out] at hv
  rw [HN.out]
  obtain ⟨w0, HW0⟩ := nameIt ((w.alloc (.cells #[.int .i64 t.rule, .int .i64 t.term, .slice a n cap] 31)).alloc (.cells #[.int .i64 t.rule, .int .i64 t.term, .slice a n cap] 31))
  have HR0 : Hid (NodesRel w [t] [] (.slice (some ⟨w.heap.size + 1, 0, none⟩) 1 1) (.slice none 0 0) w0) := by
    rw [← HW0.out]
    refine ⟨⟨_, own_lit (by simp) (by simp) rfl (by simp [maxLen]), RdAll.one (rd_tree hv)⟩, ⟨[], World.ownsRow_nil _ _ _ _, by simp [RdAll]⟩, by simp [Value.ownBlock], ((Below.refl _ _).alloc (Nat.le_refl _) _).alloc (by simp) _⟩
  have HNN := Lib.hid hN
  clear hv hN
  go_enter Tryz.func55, Tryz.ntmps55
  go_wp2_with fail
  rw [HW0.out]
  go_loopg [3, 4] (nodes t).length (fun gg v3 v4 wr => ∃ (st out : List Tree), Hid (out ++ nodesL st.reverse = nodes t) ∧ (nodesL st.reverse).length ≤ gg ∧ Hid (NodesRel w st out v3 v4 wr))
  case atStart => exact ⟨[t], [], by show _ = _; simp [nodesL], by simp [nodesL], HR0⟩
  case round =>
    clear HR0 HW0
    obtain ⟨wo, rfl⟩ : ∃ wo : World, wo = wr := ⟨_, rfl⟩
    obtain ⟨st, out, HE, hg, HR⟩ := hrel
    obtain ⟨a4, c4, rfl, ho1, ho2⟩ := HR.out.oo.form
    unfold maxLen at ho2
    rcases List.eq_nil_or_concat st with rfl | ⟨s', x, rfl⟩
    · obtain ⟨a3, c3, rfl, ht1, ht2⟩ := HR.out.ot.form
      have HE2 : Hid (nodes t = out) := by have h := HE.out; simp [nodesL] at h; exact h.symm
      simp only [List.length_nil]
      clear HE
      go_wp2_with fail
      go_ret
      exact ⟨_, rfl, by rw [HE2.out]; exact HR.out.oo.rd HR.out.bel, HR.out.bel⟩
    · rw [List.concat_eq_append] at *
      obtain ⟨k, HK⟩ := nameIt s'.length
      obtain ⟨gt, ct, rfl, ht1, ht2, ht3, ht4⟩ := HR.out.ot.block (n := k) (by simp [HK.out])
      obtain ⟨u, x0, x1, x2, hku⟩ := HR.out.ot.top HK.out
      obtain ⟨au, cu, rfl, hqq, hcu⟩ := hku.form
      obtain ⟨q, HQ⟩ := nameIt (x.kids.map Tree.d).length
      rw [HQ.out] at hqq
      rw [HQ.out] at x2 hku
      have HKU := Lib.hid hku
      have HPOP := Lib.hid (HR.out.ot.pop HK.out)
      obtain ⟨xs, hoo, hdo⟩ := HR.out.oo
      have HOO := Lib.hid hoo
      have HDO := Lib.hid hdo
      have hsz := HR.out.bel.size
      have hout : out.length ≤ (nodes t).length := by have h := congrArg List.length HE.out; simp at h; omega
      have hout2 : k + 1 ≤ (nodes t).length := by
        have h := congrArg List.length HE.out
        have h2 := len_nodesL (s' ++ [x]).reverse
        have h3 := HK.out
        simp at h h2; omega
      have hNN := HNN.out
      unfold maxLen at ht2 hcu
      obtain ⟨r, HXr⟩ := nameIt x.rule
      obtain ⟨tm, HXt⟩ := nameIt x.term
      rw [HXr.out] at x0
      rw [HXt.out] at x1
      have HB1 := Lib.hid ((Below.refl wo.heap.size wo).alloc (Nat.le_refl _) (.cells #[.int .i64 r, .int .i64 tm, .slice au q cu] 31))
      clear hku hoo hdo
      go_wp2_with (at_builtin; refine wp_app1at elTree rfl _ _ rfl (own_keep HOO.out HB1.out) rfl rfl (by simp) rfl rfl (by omega) (by unfold maxLen; omega) (by simp; omega) ?_)
      intro v' w' ho hg2 hat
      have hat' : v'.ownBlock = (Value.slice a4 out.length c4).ownBlock ∨ ∃ k, v'.ownBlock = some k ∧ wo.heap.size < k := by
        rcases hat with e | ⟨k, e, hk⟩
        · exact .inl e
        · exact .inr ⟨k, e, by first | omega | (simp at hk; omega)⟩
      have hR' : NodesRel w s' (out ++ [x]) (.slice (some ⟨gt, 0, none⟩) k ct) v' w' := by
        refine ⟨(HPOP.out.keep HB1.out).kept hg2 (fun k' e => fun h => HR.out.ne k' e h), RowT.step rfl HDO.out HKU.out (by rw [HXr.out, HXt.out]; exact ho), ?_, (HR.out.bel.trans (HB1.out.mono hsz)).grown hg2 (by simp; omega) (fun k' e => (HOO.out.lt k' e).1)⟩
        intro k' e
        rcases hat' with h | ⟨j, h, hj⟩
        · rw [h]; exact HR.out.ne k' e
        · rw [h]; intro h2; cases h2; have : gt = k' := (by simpa [Value.ownBlock] using e); omega
      have hbx : w'.heap[wo.heap.size]? = some (.cells #[.int .i64 r, .int .i64 tm, .slice au q cu] 31 (0, 0)) := by
        rw [hg2.block _ (by simp) (fun e => by have := (HOO.out.lt _ e.symm).2; omega)]
        exact bx_new _ _ _ rfl
      obtain ⟨a5, c5, hv', -, -⟩ := own_len ho
      subst hv'
      have HR' := Lib.hid hR'
      have HBX := Lib.hid hbx
      have hgtw : wo.heap.size < w'.heap.size := (Array.getElem?_eq_some_iff.1 hbx).1
      obtain ⟨y0, y1, y2⟩ := bx_cells3 hbx
      clear ho hg2 hat hat' hR' hbx HOO HDO HPOP HB1 x0 x1 x2
      by_cases hr : r = -1
      · have HE2 := Lib.hid (nodes_leaf HE.out (by rw [HXr.out, hr]))
        have hms : (nodesL s'.reverse).length < gk := by rw [nodesL_rev_cons] at hg; have := nodes_pos x; omega
        subst hr
        go_wp2_with fail
        go_roundg (nodesL s'.reverse).length
        case measure => exact hms
        case rel => exact ⟨s', out ++ [x], HE2, Nat.le_refl _, HR'⟩
      · have HE2 := Lib.hid (nodes_inner HE.out (by rw [HXr.out]; exact hr))
        have hrb : (r == -1) = false := by simpa using hr
        have HQK : Hid (x.kids.length = q) := by have h := HQ.out; rw [List.length_map] at h; exact h
        clear hr
        have HI0 : Hid (InnerRel w (s' ++ (x.kids.drop q).reverse) (out ++ [x]) (.slice (some ⟨gt, 0, none⟩) k ct) (.slice a5 (out.length + 1) c5) wo.heap.size #[.int .i64 r, .int .i64 tm, .slice au q cu] w') := by
          refine ⟨?_, HBX.out, by simp [Value.ownBlock]; omega⟩
          rw [List.drop_of_length_le (by rw [HQK.out]; omega)]
          simpa using HR'.out
        have hkq : ∀ j, (s' ++ (x.kids.drop j).reverse).length ≤ (nodes t).length := by
          intro j
          have h1 := congrArg List.length HE2.out
          have h2 := len_nodesL (s' ++ x.kids.reverse).reverse
          simp at h1 h2 ⊢
          omega
        have HKQ := Lib.hid hkq
        have hms : (nodesL (s' ++ x.kids.reverse).reverse).length < gk := by
          have h1 := congrArg List.length HE.out
          have h2 := congrArg List.length HE2.out
          simp only [List.length_append, List.length_cons, List.length_nil] at h1 h2
          omega
        clear HR' HBX hkq
        go_wp2_with fail
        go_loopg [3, 6] q (fun gg v3 v6 wq => ∃ (j : Nat) (z : Int), v6 = .int .i64 z ∧ Hid (z = (j : Int) - 1) ∧ j ≤ q ∧ j ≤ gg ∧ Hid (InnerRel w (s' ++ (x.kids.drop j).reverse) (out ++ [x]) v3 (.slice a5 (out.length + 1) c5) wo.heap.size #[.int .i64 r, .int .i64 tm, .slice au q cu] wq))
        case atStart => exact ⟨q, _, rfl, rfl, by omega, by omega, HI0⟩
        case round =>
          clear HI0 y0 y1 y2
          obtain ⟨j, z, rfl, HZ, hj, hjg, HI⟩ := hrel
          obtain ⟨y0, y1, y2⟩ := bx_cells3 HI.out.box
          cases j with
          | zero =>
            obtain rfl : z = -1 := by have := HZ.out; omega
            go_wp2_with fail
            go_roundg (nodesL (s' ++ x.kids.reverse).reverse).length
            case measure => exact hms
            case rel => exact ⟨_, out ++ [x], HE2, Nat.le_refl _, HI.out.rel⟩
          | succ i =>
            obtain rfl : z = (i : Int) := by have := HZ.out; omega
            have hiq : i < x.kids.length := by rw [HQK.out]; omega
            obtain ⟨b, off, u, hae, -, hbl, c0, c1, c2, hkid⟩ := HKU.out.kid hiq
            obtain ⟨av, cv, rfl, -, -⟩ := hkid.form
            obtain ⟨nv, HNV⟩ := nameIt (x.kids[i].kids.map Tree.d).length
            rw [HNV.out] at c2 hkid
            have hbel := HI.out.rel.bel
            have e0 := (hbel.cell (p := ⟨b, off + i * 3, none⟩) hbl).trans c0
            have e1 := (hbel.cell (p := ⟨b, off + i * 3 + 1, none⟩) hbl).trans c1
            have e2 := (hbel.cell (p := ⟨b, off + i * 3 + 2, none⟩) hbl).trans c2
            have HST : Hid (s' ++ (x.kids.drop i).reverse = (s' ++ (x.kids.drop (i + 1)).reverse) ++ [x.kids[i]]) := by
              show _ = _
              rw [List.drop_eq_getElem_cons hiq]; simp
            obtain ⟨kid, HKI⟩ := nameIt (x.kids[i]'hiq)
            rw [HKI.out] at e0 e1 hkid HST
            obtain ⟨q0, HQ0⟩ := nameIt kid.rule
            obtain ⟨q1, HQ1⟩ := nameIt kid.term
            rw [HQ0.out] at e0
            rw [HQ1.out] at e1
            obtain ⟨st, HSTN⟩ := nameIt (s' ++ (x.kids.drop (i + 1)).reverse)
            have hstl := HKQ.out (i + 1)
            rw [HSTN.out] at HI HST hstl
            obtain ⟨xs, hot, hdt⟩ := HI.out.rel.ot
            obtain ⟨at', ct', rfl, -, hct'⟩ := own_len hot
            unfold maxLen at hct'
            have hsz2 := hbel.size
            have hlt5 := (Array.getElem?_eq_some_iff.1 HI.out.box).1
            have HKD := Lib.hid hkid
            have HOT := Lib.hid hot
            have HDT := Lib.hid hdt
            subst hae
            clear hkid hot hdt hbel c0 c1 c2
            have i1 : (i : Int) < (q : Int) := by omega
            go_wp2_with (at_builtin; refine wp_app1at elTree rfl _ _ rfl HOT.out rfl rfl (by simp) rfl rfl (by omega) (by unfold maxLen; omega) (by omega) ?_)
            intro v3' w3 ho hg3 hat
            have hI' : InnerRel w (s' ++ (x.kids.drop i).reverse) (out ++ [x]) v3' (.slice a5 (out.length + 1) c5) wo.heap.size #[.int .i64 r, .int .i64 tm, .slice (some ⟨b, off, none⟩) q cu] w3 := by
              rw [HST.out]
              refine ⟨⟨RowT.step rfl HDT.out HKD.out (by rw [HQ0.out, HQ1.out]; exact ho), HI.out.rel.oo.kept hg3 (fun k' e h => HI.out.rel.ne k' h e), ?_, HI.out.rel.bel.grown hg3 (by omega) (fun k' e => (HOT.out.lt k' e).1)⟩, ?_, ?_⟩
              · intro k' e
                rcases hat with h | ⟨j', h, hj'⟩
                · rw [h] at e; exact HI.out.rel.ne k' e
                · rw [h] at e
                  cases e
                  intro h2
                  have := (HI.out.rel.oo.lt _ h2).2
                  omega
              · rw [hg3.block _ hlt5 (fun e => HI.out.apart e.symm)]; exact HI.out.box
              · rcases hat with h | ⟨j', h, hj'⟩
                · rw [h]; exact HI.out.apart
                · rw [h]; intro e; cases e; omega
            have HI' := Lib.hid hI'
            obtain ⟨a6, c6, hv6, -, -⟩ := own_len ho
            subst hv6
            clear ho hg3 hat hI' HKD HOT HDT HI y0 y1 y2 e0 e1 e2
            go_wp2_with fail
            go_roundg i
            case measure => omega
            case rel => exact ⟨i, _, rfl, by show _ = _; go_num, by omega, by omega, HI'⟩
end Go.Proofs.YtfocooehnmpndaaGreat
