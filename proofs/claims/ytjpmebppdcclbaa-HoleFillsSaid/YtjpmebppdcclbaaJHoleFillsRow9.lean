/- hole.fill of valid arguments. hole.Fill. Which nonterminals derive others: two ways to reckon it, in plain Lean. Plain: what a census asks: which lengths lists of symbols can have; why counting ends. Plain: the edges of a census, the passes of its tables; why counting ends. Plain: all trees of a symbol with a length, in order; how many, and which has a number. Plain: which tree has a number: first the rule, then the lengths. A table of numbers in memory, that is being filled. Tables in memory whose rows were appended; the contracts of census.table. -/
import Derived.Test.YtjpmebppdcclbaaJHoleFillsRow8
import Derived.Deep.CutBlock
import Derived.Deep.CutRange
import Derived.Test.YtjpmebppdcclbaaJHoleFillsRow7
import Derived.Test.YtjpmebppdcclbaaJHoleFillsRow2
import Derived.Test.YtjpmebppdcclbaaJHoleFillsRow1
import Derived.Deep.OwnRows
import Derived.Deep.LoopGhost
import Derived.Deep.DeepCutAuto
namespace Go.Proofs.Ytjpmebppdcclbaa
open Go.RowKit
namespace Hl
open Rp Al

def lenV (sv : Sym → Option Val) (A : Nat) : Int := match sv ⟨false, (A : Int)⟩ with
  | none => -1
  | some v => v.n
/-- what useful.Lengths answers -/
def LenC (g : Gram) (gr : Value) (sv : Sym → Option Val) (N : Nat) (W : World) : Prop :=
  Calls Try.prog 79 #[.agg #[.int .i64 g.terms, .int .i64 g.nons, .int .i64 g.start, gr]] W fun e w' => ∃ p, e = .returned (.tuple #[.slice (some ⟨p, 0, none⟩) N N, .int .i64 0]) ∧ Vrow 3 p N (fun A => .int .i64 (lenV sv A)) w' ∧ W.heap.size ≤ p ∧ Below W.heap.size W w'
/-- what useful.Least answers for a nonterminal with words -/
def LstC (g : Gram) (gr : Value) (a : Nat) (v : Val) (W : World) : Prop :=
  Calls Try.prog 89 #[.agg #[.int .i64 g.terms, .int .i64 g.nons, .int .i64 g.start, gr], .int .i64 (a : Nat)] W fun e w' => ∃ u z, e = .returned (.tuple #[u, .int .i64 z]) ∧ Rd (fun k => W.heap.size ≤ k) w' (D.ints v.w) [u] ∧ Below W.heap.size W w'
theorem start_row {sv : Sym → Option Val} {l : List Sym} {a i k : Nat} (hi : i < l.length) (hk : k ≤ l.length) : startH (leafH sv l) l.length (a : Int) i k = if k = i + 1 ∧ l[i] = ⟨false, (a : Int)⟩ then sv ⟨false, (a : Int)⟩ else none := by
  have hg : l.getD i ⟨true, 0⟩ = l[i] := by rw [List.getD_eq_getElem?_getD, List.getElem?_eq_getElem hi]; rfl
  unfold startH leafH
  rw [hg]
  have hf : fitB ⟨false, (a : Int)⟩ l[i] = decide (l[i] = ⟨false, (a : Int)⟩) := by
    unfold fitB
    simp only [Bool.false_and, Bool.or_false]
    exact decide_eq_decide.2 ⟨fun h => h.symm, fun h => h.symm⟩
  rw [hf]
  by_cases h1 : k = i + 1
  · rw [if_pos ⟨by omega, hk⟩]
    by_cases h2 : l[i] = ⟨false, (a : Int)⟩
    · rw [if_pos ⟨h1, by simpa using h2, hi⟩, if_pos ⟨h1, h2⟩]
    · rw [if_neg (fun h => h2 (by simpa using h.2.1)), if_neg (fun h => h2 h.2)]
  · rw [if_neg (fun h : k = i + 1 ∧ l[i] = _ => h1 h.1), if_neg (fun h : k = i + 1 ∧ _ ∧ _ => h1 h.1)]
    split <;> rfl
theorem start_last {sv : Sym → Option Val} {l : List Sym} {A : Int} {i k : Nat} (hi : ¬ i < l.length) : startH (leafH sv l) l.length A i k = none := by
  unfold startH leafH
  rw [if_neg (fun h : k = i + 1 ∧ _ ∧ _ => hi h.2.2)]
  split <;> rfl
section
variable {sv : Sym → Option Val} {l : List Sym} {N tm B0 : Nat} {K : List Rule} {T : Tb}
theorem inv_cell (hs : SvOk N tm B0 sv) (h : InvH (leafH sv l) l.length N K (GH sv l tm) T) (A : Int) (x y : Nat) : WfO (T A x y) ∧ cO (T A x y) := by
  refine ⟨cg_wf (gokH hs) h.1 A x y, ?_⟩
  show oC (T A x y) = 0
  cases e : T A x y with
  | none => rfl
  | some v => exact (h.1 A x y v e).2.2.2.2.1.2.1
theorem inv_sym (hs : SvOk N tm B0 sv) (h : InvH (leafH sv l) l.length N K (GH sv l tm) T) (s : Sym) (hsk : okS N tm s) (i j : Nat) (hij : i ≤ j) (hj : j ≤ l.length) : Bd (S0 sv l l.length) (hlT (leafH sv l) T s i j) ∧ cO (hlT (leafH sv l) T s i j) := by
  have hv := hl_vo (gokH hs) h.1
  have hw := hv.1 s i j
  unfold cO
  cases e : hlT (leafH sv l) T s i j with
  | none => exact ⟨bd_none _, rfl⟩
  | some v =>
    obtain ⟨h1, h2, h3, _⟩ := (hv.2 s i j v hij hj e).2 hsk
    have := S0_mono (sv := sv) (l := l) hj
    rw [e] at hw
    exact ⟨⟨hw, by show v.c ≤ _; omega, by show v.n ≤ _; omega⟩, h2⟩
theorem inv_rv (hs : SvOk N tm B0 sv) (hK : KG N K (okS N tm)) (h : InvH (leafH sv l) l.length N K (GH sv l tm) T) (r : Rule) (hr : r ∈ K) (i j : Nat) (hi : i ≤ l.length) (hj : j ≤ l.length) : WfO (rvH (leafH sv l) l.length T r i j) ∧ cO (rvH (leafH sv l) l.length T r i j) := by
  have hv : ∀ s ∈ r.right, ∀ k j, k ≤ j → j ≤ l.length → _ := fun s hsr k j h1 h2 => inv_sym hs h s ((hK r hr).2.2 s hsr) k j h1 h2
  exact ⟨(bd_foldF hi r.right (startF i) 0 (fun s hsr k j h1 h2 => (hv s hsr k j h1 h2).1) (fun j _ => bd_startF i j) j hj).1, cO_foldF hi r.right (startF i) (fun s hsr k j h1 h2 => (hv s hsr k j h1 h2).2) (fun j _ => cO_startF i j) j hj⟩
end
set_option maxHeartbeats 16000000 in
set_option maxRecDepth 100000 in
theorem fillE (g : Gram) (sv : Sym → Option Val) (l : List Sym) (hl : l.length ≤ 12) (N : Nat) (hN : g.nons = (N : Int)) (hN0 : 0 < N) (hN1 : N ≤ 10) (st : Nat) (hst : g.start = (st : Int)) (hsN : st < N) (tm B0 : Nat) (hB : B0 ≤ 1048576) (hs : SvOk N tm B0 sv) (hK : KG N g.rules (okS N tm)) (hr4 : ∀ r ∈ g.rules, r.right.length ≤ 4) (hcl : ∀ c ∈ l, cellOk N tm c)
    (ga : Option Addr) (gcap : Nat) (pa : Option Addr) (lk : Nat) (W : World) (hgr : Rd AnyB W (.sl (g.rules.map Rule.d)) [.slice ga g.rules.length gcap]) (hlv : Rd AnyB W (.sl (l.map Sym.d)) [.slice pa l.length lk])
    (hlen : ∀ W', Below W.heap.size W W' → LenC g (.slice ga g.rules.length gcap) sv N W') (hlst : ∀ a v, a < N → sv ⟨false, ((a : Nat) : Int)⟩ = some v → ∀ W', Below W.heap.size W W' → LstC g (.slice ga g.rules.length gcap) a v W') :
    Calls Try.prog 50 #[.agg #[.int .i64 g.terms, .int .i64 g.nons, .int .i64 g.start, .slice ga g.rules.length gcap], .slice pa l.length lk] W fun e w' =>
      ∃ x, e = .returned x ∧ HR (fun k => W.heap.size ≤ k) w' x (cvOf sv l g.rules N tm ⟨false, (st : Int)⟩ 0 l.length) ∧ Below W.heap.size W w' := by
  have hgb := hgr.bounds.2
  unfold maxLen at hgb
  obtain ⟨hgc1, hgc2⟩ := hgb
  have hlb := hlv.bounds.2
  unfold maxLen at hlb
  obtain ⟨hlc1, hlc2⟩ := hlb
  obtain ⟨n, HNN⟩ := nameIt l.length
  obtain ⟨RV, HRV0⟩ := nameIt (rvH (leafH sv l) l.length)
  obtain ⟨INV, HINV⟩ := nameIt (InvH (leafH sv l) l.length N g.rules (GH sv l tm))
  obtain ⟨mu, HMU⟩ := nameIt (muU (valsU tm 0 (S0 sv l l.length)) N l.length)
  obtain ⟨T00, HT00⟩ := nameIt (startH (leafH sv l) l.length)
  obtain ⟨M, HM⟩ := nameIt (S0 sv l l.length)
  have hM : M ≤ 288230376151711744 := by
    have := S0_le (l := l) hs l.length
    have h2 : l.length * (B0 + 1) ≤ 12 * 1048577 := Nat.mul_le_mul hl (by omega)
    rw [← HM.out]; omega
  have hpl := planF (l := l) hs hK
  rw [HRV0.out, HINV.out, HMU.out, HNN.out] at hpl
  have HPL := Lib.hid hpl
  have HSTART : Hid (INV T00) := by
    rw [← HINV.out, ← HT00.out]; exact inv_startH (gokH hs) (hloH hcl)
  have HCELL : Hid (∀ T, INV T → ∀ A x y, WfO (T A x y) ∧ cO (T A x y)) := by
    intro T h A x y; rw [← HINV.out] at h; exact inv_cell hs h A x y
  have HSYMB : Hid (∀ T, INV T → ∀ r ∈ g.rules, hruleOk (hlT (leafH sv l) T) M l.length r) := by
    intro T h r hr s hsr k j h1 h2
    rw [← HINV.out] at h
    have := inv_sym hs h s ((hK r hr).2.2 s hsr) k j h1 h2
    rw [HM.out] at this
    exact this
  have HRVB : Hid (∀ T, INV T → ∀ r ∈ g.rules, ∀ i j, i ≤ n → j ≤ n → WfO (RV T r i j) ∧ cO (RV T r i j)) := by
    intro T h r hr i j hi hj
    rw [← HINV.out] at h
    rw [← HRV0.out]
    exact inv_rv hs hK h r hr i j (by rw [HNN.out]; exact hi) (by rw [HNN.out]; exact hj)
  obtain ⟨cvo, HCVO⟩ := nameIt (cvOf sv l g.rules N tm ⟨false, (st : Int)⟩ 0 l.length)
  have HVAL : Hid (∀ T, INV T → ClosedG g.rules RV n T → T (st : Int) 0 n = cvo) := by
    intro T h hc
    rw [← HINV.out] at h
    rw [← HRV0.out, ← HNN.out] at hc
    rw [← HCVO.out, ← HNN.out]
    exact cv_eqF hs h hc (st : Int) (Nat.zero_le _) (Nat.le_refl _)
  have hsv := hs.tn
  have HSV := Lib.hid hsv
  have HKO := Lib.hid hK
  have HR4 := Lib.hid hr4
  have HKS : Hid (∀ r ∈ g.rules, ∀ s ∈ r.right, s.term = false → 0 ≤ s.n ∧ s.n < N) := fun r hr s hsr ht => ⟨((hK r hr).2.2 s hsr).1, ((hK r hr).2.2 s hsr).2.2 ht⟩
  have HSWF : Hid (∀ y, WfO (sv y)) := hs.wf
  rw [HCVO.out]
  clear hpl hs hK hr4 hsv HM HCVO HMU hcl
  obtain ⟨w0, HW0⟩ := nameIt (((W.alloc (.cells #[.int .i64 g.terms, .int .i64 g.nons, .int .i64 g.start, .slice ga g.rules.length gcap] 24)).alloc (.cells #[.int .i64 0, .slice none 0 0, .bool false] 91)).alloc (.cells #[.int .i64 g.terms, .int .i64 g.nons, .int .i64 g.start, .slice ga g.rules.length gcap, .slice pa l.length lk, .slice none 0 0] 137))
  have al : ∀ (w : World) (o : Obj), Below w.heap.size w (w.alloc o) := fun w o => (Below.refl _ _).alloc (Nat.le_refl _) _
  have hw0 : Below W.heap.size W w0 := by
    rw [← HW0.out]
    exact (((Below.refl _ _).alloc (Nat.le_refl _) _).alloc (by simp) _).alloc (by simp; omega) _
  have HSZ0 : Hid (w0.heap.size = W.heap.size + 1 + 1 + 1) := by show _ = _; rw [← HW0.out]; simp
  have HG0 : Hid (w0.heap[W.heap.size]? = some (.cells #[.int .i64 g.terms, .int .i64 g.nons, .int .i64 g.start, .slice ga g.rules.length gcap] 24 (0, 0))) := by
    rw [← HW0.out]; exact bx_keep (bx_keep (bx_new _ _ _ rfl) (al _ _)) (al _ _)
  have HO0 : Hid (w0.heap[W.heap.size + 1]? = some (.cells #[.int .i64 0, .slice none 0 0, .bool false] 91 (0, 0))) := by
    rw [← HW0.out]; exact bx_keep (bx_new _ _ _ (by simp)) (al _ _)
  have HF0 : Hid (w0.heap[W.heap.size + 1 + 1]? = some (.cells #[.int .i64 g.terms, .int .i64 g.nons, .int .i64 g.start, .slice ga g.rules.length gcap, .slice pa l.length lk, .slice none 0 0] 137 (0, 0))) := by
    rw [← HW0.out]; exact bx_new _ _ _ (by simp)
  have HLEN : Hid (∀ W', Below w0.heap.size w0 W' → LenC g (.slice ga g.rules.length gcap) sv N W') := fun W' hb => hlen W' (hw0.trans (hb.mono hw0.size))
  have HLST := Lib.hid hlst
  obtain ⟨gt, HGT⟩ := nameIt g.terms
  obtain ⟨kn, HKN⟩ := nameIt g.rules.length
  have hlen0 := HLEN.out w0 (Below.refl _ _)
  have hlst0 := HLST.out
  unfold LenC at hlen0
  unfold LstC at hlst0
  rw [HGT.out, hN, hst, HKN.out] at hlen0 hlst0 HG0
  rw [HGT.out, hN, hst, HKN.out, HNN.out] at HF0 HW0
  rw [HNN.out] at hl hlc1
  have HL0 := Lib.hid hlen0
  have HLS := Lib.hid hlst0
  obtain ⟨PST, HP⟩ := nameIt (fun (e : Ending) (w' : World) => ∃ x, e = .returned x ∧ HR (fun k => W.heap.size ≤ k) w' x cvo ∧ Below W.heap.size W w')
  rw [HP.out, HGT.out, hN, hst, HKN.out, HNN.out]
  have HFIN : Hid (∀ x w', HR (fun k => W.heap.size ≤ k) w' x cvo → Below W.heap.size W w' → PST (.returned x) w') := by
    intro x w' h1 h2; rw [← HP.out]; exact ⟨x, rfl, h1, h2⟩
  have HGR := Lib.hid (hgr.mono (S' := fun k => k < W.heap.size) (fun k _ hl => hl))
  rw [HKN.out] at HGR
  have HLV0 : Hid (Rd (fun k => k < W.heap.size + 1 + 1) w0 (.sl (l.map Sym.d)) [.slice pa n lk]) := by
    rw [← HNN.out]
    exact (hlv.mono (S' := fun k => k < W.heap.size + 1 + 1) (fun k _ hl => by show k < W.heap.size + 1 + 1; omega)).below hw0
  have HB0 := Lib.hid hw0
  obtain ⟨x0, x1, x2, x3⟩ := bx_cells4 HG0.out
  clear hgr hlv hlen hlst hlen0 hlst0 HLEN HLST hw0 al HP
  go_enter Try.func50, Try.ntmps50
  go_upto_region 2 with fail
  rw [HW0.out]
  clear HW0
  go_wp2_with fail
  refine HL0.out.mono ?_
  rintro e w1 ⟨p, rfl, hvp, hpl, hb1⟩
  obtain ⟨x0, x1, x2, x3⟩ := bx_cells4 (bx_keep HG0.out hb1)
  have HB1 := Lib.hid hb1
  have HVP := Lib.hid hvp
  have HPLT : Hid (W.heap.size + 1 + 1 < p) := by have := HSZ0.out; show _ < _; omega
  obtain ⟨fb, HFB⟩ := nameIt (W.heap.size + 1 + 1)
  rw [HFB.out] at HF0 HLV0 HPLT
  rw [HFB.out]
  have HBU0 : Hid (BUH W gt N st (.slice ga kn gcap) (.slice pa n lk) fb l T00 (n + 1) 0 (fun _ => 0) (fun _ _ => 0) (.slice none 0 0) w1) := by
    refine ⟨HB0.out.trans (hb1.mono HB0.out.size), bx_keep HG0.out hb1, bx_keep HO0.out hb1, ⟨bx_keep HF0.out hb1, HLV0.out.below hb1⟩, World.ownsRow_nil _ _ _ _, fun a' ha => (by omega), fun a' ha => (by omega), fun a' ha => (by omega), fun a' ha => (by omega), fun a' a'' _ ha => (by omega), fun k e => (by cases e)⟩
  have HFBW : Hid (W.heap.size + 1 < fb) := by show _ < _; rw [← HFB.out]; omega
  clear hb1 hvp hpl
  go_upto_block 0 with fail
  go_cut [8, 9, 10, 11, 12] from 30 to 99 (fun t8 t9 t10 t11 t12 wx => ∃ bk hi bb ra rb, Hid (MTH W gt N st (.slice ga kn gcap) (.slice pa n lk) fb bk hi bb ra rb l T00 wx))
  case first =>
    obtain ⟨n1, HN1⟩ := nameIt (n + 1)
    have hwn1 : IntKind.i64.wrap ((n : Int) + 1) = (n1 : Int) := by have := HN1.out; rw [IntWalk.i64_in _ (by omega)]; omega
    have hn13 : n1 ≤ 13 := by have := HN1.out; omega
    have hmkR : ∀ W : World, (Instr.makeSlice 138 (.int .i64 (n1 : Int)) (.int .i64 (n1 : Int))).run Try.prog W = .ok (.slice (some ⟨W.heap.size, 0, none⟩) n1 n1) (W.alloc (.cells (madeCells #[.slice none 0 0] n1) 139)) := fun W => by
      have := HN1.out
      have := run_make_row' (P := Try.prog) 138 139 (.slice none 0 0) 24 Try.underlying138 (by kernel_rfl) rfl .i64 .i64 n1 (by omega) (by omega) W
      simpa using this
    have hmkW : ∀ W : World, (Instr.makeSlice 139 (.int .i64 (n1 : Int)) (.int .i64 (n1 : Int))).run Try.prog W = .ok (.slice (some ⟨W.heap.size, 0, none⟩) n1 n1) (W.alloc (.cells (madeCells #[.int .i64 0, .slice none 0 0, .bool false] (n1 * 3)) 91)) := fun W => by
      obtain ⟨ti, h1, h2, h3, h4⟩ := info_parts (show (Try.prog.info? 91).map (fun i => (i.zero, i.size, i.bytes)) = some (some (.agg #[.int .i64 0, .slice none 0 0, .bool false]), 3, 40) by kernel_rfl)
      have := HN1.out
      have := run_makeSlice W 139 91 ti _ Try.underlying139 h1 h2 .i64 .i64 (n1 : Int) (n1 : Int) (by omega) (by omega) (by rw [h3]; omega) (by rw [h4]; omega) (by omega)
      simpa [h3, Value.cells] using this
    have HMKR := Lib.hid hmkR
    have HMKW := Lib.hid hmkW
    rw [HN1.out] at HBU0
    clear hmkR hmkW
    go_wp2_with fail
    go_loopg [8, 9, 10, 11, 12, 30] N (fun gg v8 v9 v10 v11 v12 v30 wr => ∃ (a : Nat) (ra : Nat → Nat) (rb : Nat → Nat → Nat) (bv : Value), a ≤ N ∧ N - a ≤ gg ∧ v30 = .int .i64 (a : Nat) ∧ Hid (BUH W gt N st (.slice ga kn gcap) (.slice pa n lk) fb l T00 n1 a ra rb bv wr) ∧ Hid (Vrow 3 p N (fun A => .int .i64 (lenV sv A)) wr) ∧ Hid (bv.ownBlock ≠ some p))
    case atStart => exact ⟨0, _, _, _, by omega, by omega, rfl, HBU0, HVP, (fun e => by cases e)⟩
    case round =>
      clear HBU0 HB1 HVP
      obtain ⟨a, ra, rb, bv, haN, hgg, rfl, HBU, HVP, HNO⟩ := hrel
      obtain ⟨w5, rfl⟩ : ∃ wo : World, wo = wr := ⟨_, rfl⟩
      by_cases hlt : a < N
      · have hlt' : (a : Int) < (N : Int) := by omega
        obtain ⟨w6, HW6⟩ := nameIt (w5.alloc (.cells (madeCells #[.slice none 0 0] n1) 139))
        have hw6 : Below w5.heap.size w5 w6 := by rw [← HW6.out]; exact (Below.refl _ _).alloc (Nat.le_refl _) _
        have HRU0 : Hid (RUH n1 w5.heap.size (T00 (a : Int)) 0 (fun _ => 0) w6) := by
          refine ⟨?_, fun x hx => (by omega), fun x hx => (by omega), fun x y _ hy => (by omega)⟩
          rw [← HW6.out]
          exact (vrow_new w5 _ (.slice none 0 0) n1 rfl).eq (fun k _ => by rw [if_neg (by omega)])
        have HB6 := Lib.hid hw6
        have hmr := HMKR.out w5
        clear hw6
        obtain ⟨R, HRN⟩ := nameIt w5.heap.size
        rw [HRN.out] at HRU0
        have HPR : Hid (p < R) := by show _ < _; rw [← HRN.out]; exact HVP.out.lt
        go_upto_region 7 with fail
        rw [HW6.out, HRN.out]
        clear HW6 hmr
        go_wp2_with fail
        go_loopg [10, 11, 12, 39] n1 (fun gg v10 v11 v12 v39 wr => ∃ (i : Nat) (rbf : Nat → Nat), i ≤ n1 ∧ n1 - i ≤ gg ∧ v39 = .int .i64 (i : Nat) ∧ Hid (Below w5.heap.size w5 wr) ∧ Hid (RUH n1 R (T00 (a : Int)) i rbf wr))
        case atStart => exact ⟨0, _, by omega, by omega, rfl, HB6, HRU0⟩
        case round =>
          clear HRU0 HB6 w6
          obtain ⟨i, rbf, hin, hgg2, rfl, HB6, HRU⟩ := hrel
          obtain ⟨w6, rfl⟩ : ∃ wo : World, wo = wr := ⟨_, rfl⟩
          by_cases hi1 : i < n1
          · have hi1' : (i : Int) < (n1 : Int) := by omega
            have hal : Below w6.heap.size w6 (w6.alloc (.cells (madeCells #[.int .i64 0, .slice none 0 0, .bool false] (n1 * 3)) 91)) := (Below.refl _ _).alloc (Nat.le_refl _) _
            have hrow := HRU.out.rows.keep hal
            have v0 := hrow.cell hi1
            have f0 := hrow.free i
            have hmw := HMKW.out w6
            obtain ⟨w7, HW7⟩ := nameIt ((w6.alloc (.cells (madeCells #[.int .i64 0, .slice none 0 0, .bool false] (n1 * 3)) 91)).setCell ⟨R, i, none⟩ (.slice (some ⟨w6.heap.size, 0, none⟩) n1 n1))
            have hst := HRU.out.step hi1
            rw [HW7.out] at hst
            have HB7 : Hid (Below w5.heap.size w5 w7) := by
              rw [← HW7.out]
              have h1 := HB6.out.trans (hal.mono HB6.out.size)
              exact h1.setCell (p := ⟨R, i, none⟩) (by show w5.heap.size ≤ R; rw [HRN.out]; exact Nat.le_refl _) _
            obtain ⟨g0, HG0N⟩ := nameIt w6.heap.size
            rw [HG0N.out] at hst
            have HST := Lib.hid hst
            clear hal hrow hst
            go_upto_region 11 with fail
            rw [HW7.out]
            clear HW7 hmw v0 f0 HG0N
            obtain ⟨cb, HCB⟩ : ∃ cb : Bool, Hid (cb = (decide (i < n) && ((l.getD i ⟨true, 0⟩).term == false && (l.getD i ⟨true, 0⟩).n == (a : Int)) && decide (0 ≤ lenV sv a))) := ⟨_, rfl⟩
            have HBU7 := Lib.hid (HBU.out.keep HB7.out)
            have HVP7 := Lib.hid (HVP.out.keep HB7.out)
            have HNV : Hid (∀ W', Below w7.heap.size w7 W' → Calls Try.prog 60 #[.int .i64 (a : Int)] W' fun e w' => e = .returned (.agg #[.bool false, .int .i64 (a : Int)]) ∧ Below W'.heap.size W' w') := fun W' _ => gramN (a : Int) W'
            go_cut [68] (fun t wx => t = .bool cb ∧ Hid (Below w7.heap.size w7 wx))
            case first =>
              by_cases hin2 : i < n
              · have hin2' : (i : Int) < (n : Int) := by omega
                have hil : i < l.length := by rw [HNN.out]; exact hin2
                obtain ⟨b', off', hae, -, -, q0, q1⟩ := (show Rd (fun k => k < fb) w7 (.sl (l.map Sym.d)) [.slice pa n lk] from HBU7.out.fm.row).sym_at hil
                have hg : l.getD i ⟨true, 0⟩ = l[i] := by rw [List.getD_eq_getElem?_getD, List.getElem?_eq_getElem hil]; rfl
                have hcb := HCB.out
                rw [hg, show decide (i < n) = true by simpa using hin2, Bool.true_and] at hcb
                obtain ⟨⟨ct, cn⟩, HC⟩ := nameIt l[i]
                rw [HC.out] at q0 q1 hcb
                simp only at q0 q1 hcb
                subst hae
                have v0 := HVP7.out.cell hlt
                obtain ⟨lv, HLVN⟩ := nameIt (lenV sv a)
                rw [HLVN.out] at v0 hcb
                have hse := symEq ct false cn (a : Int)
                obtain ⟨q, HQ⟩ := nameIt (ct == false && cn == (a : Int))
                rw [HQ.out] at hse hcb
                have i0 := aft_cell q0
                have i1 := aft_cell q1
                have i2 := aft_cell v0
                clear HC HQ HLVN hg hil q0 q1 v0
                cases q with
                | false =>
                  have hcb2 : cb = false := by rw [hcb]; simp
                  subst hcb2
                  clear hcb
                  refine wp_region_after (by kernel_rfl) (by kernel_rfl) ?_
                  repeat (go_big_quiet_step (with_reducible exact Calls.after (HNV.out _ (Aft.bel _))))
                  refine wpQuiet_nil ?_
                  rintro w8 ⟨⟨_, hb8⟩, rfl⟩
                  go_wp2_with fail
                  go_meet
                  exact ⟨rfl, hb8⟩
                | true =>
                  have hge : decide ((0 : Int) ≤ lv) = cb := by rw [hcb]; simp
                  clear hcb
                  refine wp_region_after (by kernel_rfl) (by kernel_rfl) ?_
                  repeat (go_big_quiet_step (with_reducible exact Calls.after (HNV.out _ (Aft.bel _))))
                  refine wpQuiet_nil ?_
                  rintro w8 ⟨⟨_, hb8⟩, rfl⟩
                  go_wp2_with fail
                  go_meet
                  exact ⟨rfl, hb8⟩
              · have hin2' : ¬ (i : Int) < (n : Int) := by omega
                have hcb2 : cb = false := by rw [HCB.out, show decide (i < n) = false by simpa using hin2]; simp
                subst hcb2
                refine wp_region_after (by kernel_rfl) (by kernel_rfl) ?_
                repeat (go_big_quiet_step (with_reducible exact Calls.after (HNV.out _ (Aft.bel _))))
                refine wpQuiet_nil ?_
                rintro w8 ⟨⟨_, hb8⟩, rfl⟩
                go_wp2_with fail
                go_meet
                exact ⟨rfl, hb8⟩
            case rest =>
            obtain ⟨rfl, HB78⟩ := hcut
            obtain ⟨w8, HW8⟩ := nameIt wc
            rw [HW8.out] at HB78 ⊢
            clear HW8 HNV
            have HST8 := Lib.hid (HST.out.keep HB78.out)
            have HB8 := Lib.hid (HB7.out.trans (HB78.out.mono HB7.out.size))
            cases cb with
            | false =>
              have HST9 : Hid (RUH n1 R (T00 (a : Int)) (i + 1) (fun x => if x = i then g0 else rbf x) w8) := by
                refine HST8.out.eqv (fun x hx k hk => ?_)
                by_cases e : x = i
                · rw [if_pos e, e, ← HT00.out]
                  by_cases hin2 : i < n
                  · have hil : i < l.length := by rw [HNN.out]; exact hin2
                    rw [start_row hil (by rw [HNN.out]; have := HN1.out; omega)]
                    have hg : l.getD i ⟨true, 0⟩ = l[i] := by rw [List.getD_eq_getElem?_getD, List.getElem?_eq_getElem hil]; rfl
                    have hcb := HCB.out
                    rw [hg, show decide (i < n) = true by simpa using hin2, Bool.true_and] at hcb
                    by_cases hc : k = i + 1 ∧ l[i] = ⟨false, (a : Int)⟩
                    · rw [if_pos hc]
                      rw [hc.2] at hcb
                      simp at hcb
                      unfold lenV at hcb
                      cases hsv : sv ⟨false, (a : Int)⟩ with
                      | none => rfl
                      | some v => rw [hsv] at hcb; simp at hcb; omega
                    · rw [if_neg hc]
                  · rw [start_last (by rw [HNN.out]; exact hin2)]
                · rw [if_neg e]
              go_wp2_with fail
              go_roundg (n1 - (i + 1))
              case measure => omega
              case rel => exact ⟨i + 1, _, by omega, by omega, by go_num, HB8, HST9⟩
            | true =>
              have hcb := HCB.out
              have hcc : i < n ∧ l.getD i ⟨true, 0⟩ = ⟨false, (a : Int)⟩ ∧ 0 ≤ lenV sv a := by
                have h := hcb.symm
                simp only [Bool.and_eq_true, decide_eq_true_eq, beq_iff_eq] at h
                obtain ⟨⟨h1, h2, h3⟩, h4⟩ := h
                have hx : ∀ c : Sym, c.term = false → c.n = (a : Int) → c = ⟨false, (a : Int)⟩ := by
                  rintro ⟨c1, c2⟩ h5 h6
                  simp only at h5 h6
                  rw [h5, h6]
                exact ⟨h1, hx _ h2 h3, h4⟩
              obtain ⟨hin2, hgd, hlv0⟩ := hcc
              obtain ⟨v, hv⟩ : ∃ v, sv ⟨false, (a : Int)⟩ = some v := by
                unfold lenV at hlv0
                cases hsv : sv ⟨false, (a : Int)⟩ with
                | none => rw [hsv] at hlv0; simp at hlv0
                | some v => exact ⟨v, rfl⟩
              have hlen : lenV sv a = ((oN (some v) : Nat) : Int) := by unfold lenV; rw [hv]; rfl
              have HLEN := Lib.hid hlen
              have HVV := Lib.hid hv
              have HGD := Lib.hid hgd
              have HBU8 := Lib.hid (HBU7.out.keep HB78.out)
              have HVP8 := Lib.hid (HVP7.out.keep HB78.out)
              have HLQ := Lib.hid (HLS.out a v hlt hv w8 HBU8.out.bel)
              obtain ⟨x0, x1, x2, x3⟩ := bx_cells4 HBU8.out.gbox
              clear hcb hgd hlv0 hlen hv
              go_wp2_with fail
              refine HLQ.out.mono ?_
              rintro e w9 ⟨u, z, rfl, hru, hb9⟩
              have HRU9 := Lib.hid hru
              obtain ⟨ua, uk, rfl⟩ := (sl_rd hru).form
              obtain ⟨um, HUM⟩ := nameIt (ints v.w).length
              rw [HUM.out] at HRU9 ⊢
              have HST9 := Lib.hid (HST8.out.keep hb9)
              have HB9 := Lib.hid (HB8.out.trans (hb9.mono HB8.out.size))
              have HVP9 := Lib.hid (HVP8.out.keep hb9)
              have HW89 : Hid (w8.heap.size ≤ w9.heap.size) := hb9.size
              have v0 := HST9.out.rows.cell hi1
              rw [if_pos (Nat.lt_succ_self i), if_pos rfl] at v0
              have v1 := HVP9.out.cell hlt
              rw [HLEN.out] at v1
              obtain ⟨i1, HI1⟩ := nameIt (i + 1)
              have hwi : IntKind.i64.wrap ((i : Int) + 1) = (i1 : Int) := by have := HI1.out; rw [IntWalk.i64_in _ (by omega)]; omega
              have hi1n : i1 < n1 := by have := HI1.out; have := HN1.out; omega
              have hi1n' : (i1 : Int) < (n1 : Int) := by omega
              have j0 := aft_cell v0
              have j1 := aft_cell v1
              clear hru hb9 v0 v1 x0 x1 x2 x3
              go_upto_region 13 with fail
              refine wp_region_after_tail 13 (by kernel_rfl) (by kernel_rfl) ?_
              simp only [List.take_succ_cons, List.take_zero, List.drop_succ_cons, List.drop_zero]
              repeat (go_big_quiet_step (fail))
              refine wpQuiet_nil ?_
              rintro wa ⟨⟨_, hba⟩, rfl⟩
              clear j0 j1
              have HSTA := Lib.hid (HST9.out.keep hba)
              have HBA := Lib.hid (HB9.out.trans (hba.mono HB9.out.size))
              have hrow := HSTA.out.row i (by omega)
              rw [if_pos rfl] at hrow
              have hfr := hrow.free
              obtain ⟨ae, me, ke, hge, -⟩ := hrow.get (j := i1) hi1n
              obtain ⟨d0, d1, d2⟩ := hge wa rfl
              have f0 := hfr (i1 * 3)
              have f1 := hfr (i1 * 3 + 1)
              have f2 := hfr (i1 * 3 + 2)
              have hrua := HRU9.out.below hba
              have HSET : Hid (RUH n1 R (T00 (a : Int)) (i + 1) (fun x => if x = i then g0 else rbf x) (((wa.setCell ⟨g0, i1 * 3, none⟩ (.int .i64 (oN (some v)))).setCell ⟨g0, i1 * 3 + 1, none⟩ (.slice ua um uk)).setCell ⟨g0, i1 * 3 + 2, none⟩ (.bool true))) := by
                have h1 := HSTA.out.set (x := i) (j := i1) (vals' := T00 (a : Int)) (o := some v) (u := .slice ua um uk) (by omega) hi1n (hrua.mono (fun k hk _ => ?_)) (fun y hy k hk => ?_)
                · rw [if_pos rfl] at h1; exact h1
                · have h2 := HST8.out.rows.lt
                  have h3 : w8.heap.size ≤ k := hk
                  refine ⟨by omega, fun y hy => ?_⟩
                  have := (HST8.out.lt y hy).2
                  omega
                · by_cases e : y = i
                  · subst e
                    have hil : y < l.length := by rw [HNN.out]; exact hin2
                    have hg : l.getD y ⟨true, 0⟩ = l[y] := by rw [List.getD_eq_getElem?_getD, List.getElem?_eq_getElem hil]; rfl
                    rw [← HT00.out, start_row hil (by rw [HNN.out]; have := HN1.out; omega), ← hg, HGD.out]
                    by_cases e2 : k = i1
                    · rw [if_pos ⟨by rw [e2]; exact HI1.out.symm, rfl⟩, if_pos ⟨rfl, e2⟩, HVV.out]
                    · rw [if_neg (fun h => e2 (by rw [h.1]; exact HI1.out)), if_neg (fun h => e2 h.2), if_pos rfl]
                  · rw [if_neg (fun h : y = i ∧ _ => e h.1), if_neg e]
              have HBS : Hid (Below w5.heap.size w5 (((wa.setCell ⟨g0, i1 * 3, none⟩ (.int .i64 (oN (some v)))).setCell ⟨g0, i1 * 3 + 1, none⟩ (.slice ua um uk)).setCell ⟨g0, i1 * 3 + 2, none⟩ (.bool true))) := by
                have hl : R < g0 := by have := (HSTA.out.lt i (by omega)).1; simpa using this
                exact HBA.out.grown (grown_cellsAt3 wa g0 (i1 * 3) (i1 * 3 + 1) (i1 * 3 + 2) _ _ _) HBA.out.size (fun k e => by cases e; rw [HRN.out]; omega)
              clear hba hrow hfr hge hrua
              go_wp2_with fail
              go_roundg (n1 - (i + 1))
              case measure => omega
              case rel => exact ⟨i + 1, _, by omega, by omega, by rw [HI1.out], HBS, HSET⟩
          · have hi1' : ¬ (i : Int) < (n1 : Int) := by omega
            obtain rfl : i = n1 := by omega
            have HBU7 := Lib.hid (HBU.out.keep HB6.out)
            have HVP7 := Lib.hid (HVP.out.keep HB6.out)
            obtain ⟨ab, kb, hbv, hbc1, hbc2⟩ := own_len HBU.out.own
            subst hbv
            have hfm := HBU7.out.fm.box
            obtain ⟨-, -, -, -, -, s5⟩ := bx_cells6 hfm
            have HBX := Lib.hid hfm
            have hfbl := HBU.out.fm.lt
            have hfb7 := HBU7.out.fm.lt
            have HOWN := Lib.hid HBU7.out.own
            have hn1 := HN1.out
            clear hfm
            go_wp2_with (at_builtin; refine wp_app1at elTabH rfl _ _ rfl HOWN.out rfl rfl rfl rfl rfl (by omega) (by unfold maxLen; omega) (by omega) ?_)
            intro v' wz hoz hgz hatz
            rw [← HRN.out] at hoz
            have happ := HBU.out.app HB6.out (rbf := rbf) (by rw [HRN.out]; exact HRU.out) hoz hgz hatz HFBW.out
            have HAPP := Lib.hid happ
            have hpl := HPR.out
            have HVPZ : Hid (Vrow 3 p N (fun A => .int .i64 (lenV sv A)) (wz.setCell ⟨fb, 0 + 5, none⟩ v')) := by
              have h1 := HPLT.out
              exact (HVP7.out.grown hgz HNO.out).grown (grown_cell wz ⟨fb, 0 + 5, none⟩ v') (by simp; omega)
            have HNOZ : Hid (v'.ownBlock ≠ some p) := by
              intro e
              rcases hatz with h1 | ⟨k', h1, h2⟩
              · rw [h1] at e; exact HNO.out e
              · rw [h1] at e
                cases e
                have := HVP7.out.lt
                omega
            obtain ⟨az, kz, rfl, -, -⟩ := own_len hoz
            have hne : ∀ k, (Value.slice ab a kb).ownBlock = some k → fb ≠ k := fun k e => by have := (HBU.out.own.lt k e).1; omega
            have hcz := (hgz.block fb hfb7 (fun e => hne fb e.symm rfl)).trans HBX.out
            obtain ⟨-, -, -, -, -, s5z⟩ := bx_cells6 hcz
            have fz : wz.frozen? ⟨fb, 0 + 5, none⟩ = false := by simp [World.frozen?, hcz]
            clear hoz hgz hatz happ hcz hpl
            go_wp2_with fail
            go_roundg (N - (a + 1))
            case measure => omega
            case rel => exact ⟨a + 1, _, _, _, by omega, by omega, by go_num, HAPP, HVPZ, HNOZ⟩
      · have hlt' : ¬ (a : Int) < (N : Int) := by omega
        obtain rfl : a = N := by omega
        obtain ⟨bb, bk, hmt⟩ := HBU.out.mt (by rw [HNN.out]; exact HN1.out.symm) (by omega)
        have HMT := Lib.hid hmt
        clear hmt
        go_wp2_with fail
        go_meet
        exact ⟨bk, _, bb, ra, rb, HMT⟩
  case rest =>
    obtain ⟨bk, hi, bb, ra, rb, HMT⟩ := hcut
    obtain ⟨w5, HW5⟩ := nameIt wc
    rw [HW5.out] at HMT ⊢
    clear HW5 HG0 HO0 HF0 HLV0 HB0 HB1 HBU0 HL0 HLS HVP HPLT x0 x1 x2 x3
    obtain ⟨fuel, HFU⟩ := nameIt (mu T00)
    go_wp2_with fail
    go_loopg [13, 15, 16, 17, 18] (fuel + 1) (fun gg v13 v15 v16 v17 v18 wr => ∃ (b : Bool) (T : Tb), v13 = .bool b ∧ Hid (MTH W gt N st (.slice ga kn gcap) (.slice pa n lk) fb bk hi bb ra rb l T wr) ∧ Hid (INV T) ∧ Hid (b = true → mu T + 1 ≤ gg) ∧ Hid (b = false → ClosedG g.rules RV n T))
    case atStart => exact ⟨true, _, rfl, HMT, HSTART.out, fun _ => by rw [HFU.out]; exact Nat.le_refl _, fun e => by cases e⟩
    case round =>
      clear HMT HFU fuel
      obtain ⟨b, T0, rfl, HMT, HIN, HLE, HCL⟩ := hrel
      obtain ⟨wo, rfl⟩ : ∃ wo : World, wo = wr := ⟨_, rfl⟩
      cases b with
      | false =>
        have hval := HVAL.out T0 HIN.out (HCL.out rfl)
        have hbt := HMT.out.bt
        have hfm := HMT.out.fm.box
        have t0 := hbt.top st hsN
        have t1 := hbt.mid st hsN 0 (by omega)
        obtain ⟨ac, mc, kc, hgc, hvc⟩ := (hbt.row st hsN 0 (by omega)).get (j := n) (by rw [HNN.out]; omega)
        have hrl := (hbt.row st hsN 0 (by omega)).lt
        obtain ⟨n1, HN1⟩ := nameIt (n + 1)
        rw [HNN.out, HN1.out] at t0 t1
        rw [hval] at hgc hvc
        obtain ⟨A, HA⟩ := nameIt (ra st)
        obtain ⟨B, HBB⟩ := nameIt (rb st 0)
        rw [HA.out] at t0 t1
        rw [HBB.out] at t1 hgc hrl
        obtain ⟨-, -, -, -, -, s5⟩ := bx_cells6 hfm
        obtain ⟨g0, g1, g2, g3⟩ := bx_cells4 HMT.out.gbox
        obtain ⟨v0, v1, v2⟩ := hgc wo rfl
        have hsN' : (st : Int) < (N : Int) := by omega
        have hn1' : (n : Int) < (n1 : Int) := by have := HN1.out; omega
        have hn10 : (0 : Int) < (n1 : Int) := by omega
        have hn1z : ¬ n1 = 0 := by omega
        have HVC := Lib.hid hvc
        have i0 := aft_cell s5
        have i1 := aft_cell g2
        have i2 := aft_cell t0
        have i3 := aft_cell t1
        have i4 := aft_cell v0
        have i5 := aft_cell v1
        have i6 := aft_cell v2
        clear hbt hfm t0 t1 hgc hvc hrl s5 g0 g1 g2 g3 v0 v1 v2 hval
        go_upto_region 34 with fail
        refine wp_region_after_tail 14 (by kernel_rfl) (by kernel_rfl) ?_
        simp only [List.take_succ_cons, List.take_zero, List.drop_succ_cons, List.drop_zero]
        repeat (go_big_quiet_step (fail))
        refine wpQuiet_nil ?_
        rintro w9 ⟨⟨_, hb9⟩, rfl⟩
        clear i0 i1 i2 i3 i4 i5 i6
        have HMT9 := Lib.hid (HMT.out.keep hb9)
        obtain ⟨z0, z1, z2⟩ := bx_cells3 HMT9.out.out
        obtain ⟨f0, f1, f2⟩ := bx_free3 HMT9.out.out
        have hg := grown_cell3 w9 (W.heap.size + 1) (.int .i64 (oN cvo)) (.slice ac mc kc) (.bool cvo.isSome)
        have hfw := HFBW.out
        have HE := Lib.hid (HFIN.out _ _ (((HVC.out.below hb9).grown hg (fun k e h => by cases e; have h2 := h.1; omega)).mono (P' := fun k => W.heap.size ≤ k) (fun k h _ => by have h2 : fb < k := h.1; show W.heap.size ≤ k; omega)) (HMT9.out.bel.grown hg HMT9.out.bel.size (fun k e => by cases e; omega)))
        clear hb9 hg hfw
        go_wp2_with fail
        refine bodyPost_ret (v := .agg #[.int .i64 (oN cvo), .slice ac mc kc, .bool cvo.isSome]) (by simp [results, Try.results50, go_sem, z0, z1, z2]) rfl ?_
        exact HE.out
      | true =>
        obtain ⟨m0, HM0⟩ := nameIt (mu T0)
        have hgg : m0 + 1 ≤ gk := by have := HLE.out rfl; rw [HM0.out] at this; exact this
        have HST0 : Hid (StG g.rules RV n INV mu m0 0 0 false T0) := by rw [← HM0.out]; exact StG.begin HIN.out
        obtain ⟨g0, g1, g2, g3⟩ := bx_cells4 HMT.out.gbox
        clear HLE HCL HIN HM0
        go_wp2_with fail
        go_loopg [13, 15, 16, 17, 18, 104] kn (fun gg v13 v15 v16 v17 v18 v104 wr => ∃ (a : Nat) (b : Bool) (T : Tb), a ≤ kn ∧ kn - a ≤ gg ∧ v13 = .bool b ∧ v104 = .int .i64 (a : Nat) ∧ Hid (StG g.rules RV n INV mu m0 a 0 b T) ∧ Hid (MTH W gt N st (.slice ga kn gcap) (.slice pa n lk) fb bk hi bb ra rb l T wr))
        case atStart => exact ⟨0, false, T0, by omega, by omega, rfl, rfl, HST0, HMT⟩
        case round =>
          clear HMT HST0 g0 g1 g2 g3 T0 wo
          obtain ⟨a, b, T0, hakn, hgg2, rfl, rfl, HST, HMT⟩ := hrel
          obtain ⟨w6, rfl⟩ : ∃ wo : World, wo = wr := ⟨_, rfl⟩
          by_cases hlt : a < kn
          · have haK : a < g.rules.length := by rw [HKN.out]; exact hlt
            have hlt' : (a : Int) < (kn : Int) := by omega
            obtain ⟨r, HR⟩ := nameIt (g.rules[a]'haK)
            have HRA : Hid (g.rules[a]? = some r) := by show _ = _; rw [List.getElem?_eq_getElem haK, HR.out]
            have hrm : r ∈ g.rules := by rw [← HR.out]; exact List.getElem_mem haK
            have HRM := Lib.hid hrm
            have HRK := Lib.hid (HKO.out r hrm)
            obtain ⟨gb0, go0, rsv, hga, -, -, e0, e1, hrr⟩ := (HGR.out.below HMT.out.bel).rule_at haK
            rw [HR.out] at e0 hrr
            obtain ⟨rsa, rsk, hrf, hrc1, hrc2⟩ := hrr.form
            rw [List.length_map] at hrf hrc1
            subst hrf
            obtain ⟨rn, HRN⟩ := nameIt r.right.length
            rw [HRN.out] at hrr hrc1 e1
            unfold maxLen at hrc2
            obtain ⟨la, hla⟩ : ∃ la : Nat, r.left = (la : Int) := ⟨r.left.toNat, by have := HRK.out.1; omega⟩
            have hlaN : la < N := by have := HRK.out.2.1; omega
            have HLA := Lib.hid hla
            rw [hla] at e0
            obtain ⟨w7, HW7⟩ := nameIt (w6.alloc (.cells #[.int .i64 (la : Int), .slice rsa rn rsk] 69))
            have hw7 : Below w6.heap.size w6 w7 := by rw [← HW7.out]; exact (Below.refl _ _).alloc (Nat.le_refl _) _
            have HRB7 : Hid (w7.heap[w6.heap.size]? = some (.cells #[.int .i64 (la : Int), .slice rsa rn rsk] 69 (0, 0))) := by rw [← HW7.out]; exact bx_new _ _ _ rfl
            have HRR7 := Lib.hid (hrr.below hw7)
            have HMT7 := Lib.hid (HMT.out.keep hw7)
            have HB16L : Hid (hi ≤ w6.heap.size) := HMT.out.le
            obtain ⟨b16, HB16⟩ := nameIt w6.heap.size
            rw [HB16.out] at HRB7 HB16L
            subst hga
            have hwn1 : IntKind.i64.wrap ((n : Int) + 1) = ((n + 1 : Nat) : Int) := by rw [IntWalk.i64_in _ (by omega)]; omega
            obtain ⟨n1, HN1⟩ := nameIt (n + 1)
            rw [HN1.out] at hwn1
            clear hrr hw7 hrm hla
            go_upto_region 23 with fail
            rw [HW7.out, HB16.out]
            clear HW7 HB16 e0 e1
            go_wp2_with fail
            go_loopg [13, 16, 17, 18, 111] (n + 1) (fun gg v13 v16 v17 v18 v111 wr => ∃ (i : Nat) (b : Bool) (T : Tb), i ≤ n + 1 ∧ n + 1 - i ≤ gg ∧ v13 = .bool b ∧ v111 = .int .i64 (i : Nat) ∧ Hid (StG g.rules RV n INV mu m0 a i b T) ∧ Hid (MTH W gt N st (.slice (some ⟨gb0, go0, none⟩) kn gcap) (.slice pa n lk) fb bk hi bb ra rb l T wr) ∧ Hid (wr.heap[b16]? = some (.cells #[.int .i64 (la : Int), .slice rsa rn rsk] 69 (0, 0))) ∧ Hid (Rd (fun k => k < W.heap.size) wr (.sl (r.right.map Sym.d)) [.slice rsa rn rsk]))
            case atStart => exact ⟨0, b, T0, by omega, by omega, rfl, rfl, HST, HMT7, HRB7, HRR7⟩
            case round =>
              clear HST HMT HMT7 HRB7 HRR7 w6 w7 T0 b
              obtain ⟨i, b, T0, hin1, hgg3, rfl, rfl, HST, HMT, HRB, HRR⟩ := hrel
              obtain ⟨w6, rfl⟩ : ∃ wo : World, wo = wr := ⟨_, rfl⟩
              by_cases hin : i ≤ n
              · have hin' : (i : Int) < (n1 : Int) := by have := HN1.out; omega
                have hsb := HSYMB.out T0 HST.out.inv r HRM.out
                have hru := hruleE fb gt N st (.slice (some ⟨gb0, go0, none⟩) kn gcap) (.slice pa n lk) sv HSV.out l (by rw [HNN.out]; exact hl) (fun k => (fb < k ∧ ∀ a i, a < N → i ≤ l.length → k ≠ rb a i) ∧ k < w6.heap.size) 0 bb ra rb N bk (by omega) T0 M hM r (HKS.out r HRM.out) (HR4.out r HRM.out) hsb i (by rw [HNN.out]; exact hin) w6 HMT.out.fm (HMT.out.bt.mono (fun k hk hl => ⟨hk, hl⟩) (fun a i ha hi' h => h.1.2 a i ha hi' rfl)) (fun k hk => hk.2) (.slice rsa rn rsk) HRR.out.any
                rw [HRV0.out] at hru
                clear hsb
                rw [HLA.out, HNN.out, HN1.out] at hru
                have HRU := Lib.hid hru
                obtain ⟨z0, z1⟩ := bx_cells2 HRB.out
                clear hru
                go_wp2_with fail
                refine HRU.out.mono ?_
                rintro e w8 ⟨gr, rfl, hgr, hrow, hb8⟩
                have HROW : Hid (HRow (fun k => (fb < k ∧ ∀ a i, a < N → i ≤ l.length → k ≠ rb a i)) gr n1 (RV T0 r i) w8) := hrow.mono (fun k hk _ => by
                  have hle := HMT.out.le
                  rcases hk.1 with h | h
                  · exact ⟨h.1.1, fun a i ha hi' => h.1.2 a i ha (by rw [← HNN.out]; exact hi')⟩
                  · have h2 : w6.heap.size ≤ k := h
                    refine ⟨by have := HMT.out.fm.lt; omega, fun a i ha hi' => ?_⟩
                    have := (HMT.out.lt a i ha hi').1
                    omega)
                have HGRL : Hid (hi ≤ gr) := Nat.le_trans HMT.out.le hgr
                have HMT8 := Lib.hid (HMT.out.keep hb8)
                have HRB8 := Lib.hid (bx_keep HRB.out hb8)
                have HRR8 := Lib.hid (HRR.out.below hb8)
                have HSR : Hid (SrG g.rules RV n INV mu m0 a i T0 r 0 b) := SrG.begin HST.out r
                have HMT9 : Hid (MTH W gt N st (.slice (some ⟨gb0, go0, none⟩) kn gcap) (.slice pa n lk) fb bk hi bb ra rb l (rowG RV T0 r i 0) w8) := by rw [rowG_zero]; exact HMT8.out
                clear hrow hb8 hgr
                go_wp2_with fail
                go_loopg [13, 17, 18, 119] (n + 1) (fun gg v13 v17 v18 v119 wr => ∃ (j : Nat) (b : Bool), j ≤ n + 1 ∧ n + 1 - j ≤ gg ∧ v13 = .bool b ∧ v119 = .int .i64 (j : Nat) ∧ Hid (SrG g.rules RV n INV mu m0 a i T0 r j b) ∧ Hid (MTH W gt N st (.slice (some ⟨gb0, go0, none⟩) kn gcap) (.slice pa n lk) fb bk hi bb ra rb l (rowG RV T0 r i j) wr) ∧ Hid (wr.heap[b16]? = some (.cells #[.int .i64 (la : Int), .slice rsa rn rsk] 69 (0, 0))) ∧ Hid (Rd (fun k => k < W.heap.size) wr (.sl (r.right.map Sym.d)) [.slice rsa rn rsk]) ∧ Hid (HRow (fun k => (fb < k ∧ ∀ a i, a < N → i ≤ l.length → k ≠ rb a i)) gr n1 (RV T0 r i) wr))
                case atStart => exact ⟨0, b, by omega, by omega, rfl, rfl, HSR, HMT9, HRB8, HRR8, HROW⟩
                case round =>
                  clear HSR HMT HMT8 HMT9 HRB HRB8 HRR HRR8 HROW HRU HST z0 z1 w6 w8 b
                  obtain ⟨j, b, hjn1, hgg4, rfl, rfl, HSR, HMT, HRB, HRR, HROW⟩ := hrel
                  obtain ⟨w6, rfl⟩ : ∃ wo : World, wo = wr := ⟨_, rfl⟩
                  by_cases hjn : j ≤ n
                  · have hjn' : (j : Int) < (n1 : Int) := by have := HN1.out; omega
                    have hjn1n : j < n1 := by have := HN1.out; omega
                    have hin' : (i : Int) < (n1 : Int) := by have := HN1.out; omega
                    obtain ⟨ad, md, kd, hgd, hvd⟩ := HROW.out.get hjn1n
                    obtain ⟨rv, HRV⟩ := nameIt (RV T0 r i j)
                    rw [HRV.out] at hgd hvd
                    obtain ⟨d0, d1, d2⟩ := hgd w6 rfl
                    have hgrl := HROW.out.lt
                    obtain ⟨w7, HW7⟩ := nameIt (w6.alloc (.cells #[.int .i64 (oN rv), .slice ad md kd, .bool rv.isSome] 91))
                    have hw7 : Below w6.heap.size w6 w7 := by rw [← HW7.out]; exact (Below.refl _ _).alloc (Nat.le_refl _) _
                    have HX7 : Hid (w7.heap[w6.heap.size]? = some (.cells #[.int .i64 (oN rv), .slice ad md kd, .bool rv.isSome] 91 (0, 0))) := by rw [← HW7.out]; exact bx_new _ _ _ rfl
                    have HMT7 := Lib.hid (HMT.out.keep hw7)
                    have HRB7 := Lib.hid (bx_keep HRB.out hw7)
                    have HRR7 := Lib.hid (HRR.out.below hw7)
                    have HROW7 := Lib.hid (HROW.out.keep hw7)
                    have HVD := Lib.hid (hvd.below hw7)
                    have HB67 := Lib.hid hw7
                    obtain ⟨b19, HB19⟩ := nameIt w6.heap.size
                    rw [HB19.out] at HX7
                    have HN19 : Hid (hi ≤ b19 ∧ ¬ b19 = W.heap.size) := by
                      show _ ∧ _
                      rw [← HB19.out]
                      have h1 := HMT.out.le
                      have h2 := (HMT.out.lt la i hlaN (by rw [HNN.out]; exact hin)).1
                      have h3 := (HMT.out.lt la i hlaN (by rw [HNN.out]; exact hin)).2
                      have h4 := HFBW.out
                      exact ⟨h1, by omega⟩
                    go_upto_region 29 with fail
                    rw [HW7.out, HB19.out]
                    clear HW7 HB19 d0 d1 d2 hgd hvd hw7
                    have hbt := HMT7.out.bt
                    have hbx := HMT7.out.fm.box
                    have t0 := hbt.top la hlaN
                    have t1 := hbt.mid la hlaN i (by rw [HNN.out]; exact hin)
                    have hrw := hbt.row la hlaN i (by rw [HNN.out]; exact hin)
                    obtain ⟨ac, mc, kc, hgc, hvc⟩ := hrw.get (j := j) (by rw [HNN.out]; omega)
                    have hfr := hrw.free
                    rw [HNN.out, HN1.out] at t0 t1
                    obtain ⟨cv, HCV⟩ := nameIt (rowG RV T0 r i j (la : Int) i j)
                    rw [HCV.out] at hgc hvc
                    obtain ⟨A, HA⟩ := nameIt (ra la)
                    obtain ⟨B, HBB⟩ := nameIt (rb la i)
                    rw [HA.out] at t0 t1
                    rw [HBB.out] at t1 hgc hfr hrw
                    obtain ⟨p0, p1, p2⟩ := bx_cells3 HX7.out
                    obtain ⟨q0, q1⟩ := bx_cells2 HRB7.out
                    obtain ⟨-, -, -, -, -, s8⟩ := bx_cells6 hbx
                    obtain ⟨v0, v1, v2⟩ := hgc w7 rfl
                    have hlaN' : (la : Int) < (N : Int) := by omega
                    have hbet : betG RV T0 r i j = lessB rv cv := by
                      unfold betG
                      rw [HRV.out, ← HCV.out, ← HLA.out, rowG_at]
                    obtain ⟨bb2, HB2⟩ := nameIt (lessB rv cv)
                    have HBET : Hid (betG RV T0 r i j = bb2) := by show _ = _; rw [hbet, HB2.out]
                    have hrvb := HRVB.out T0 HSR.out.inv r HRM.out i j hin hjn
                    rw [HRV.out] at hrvb
                    have hcvb := HCELL.out T0 HSR.out.inv (la : Int) i j
                    rw [show T0 (la : Int) i j = cv by rw [← HCV.out, ← HLA.out]; exact rowG_at.symm] at hcvb
                    have HLS : Hid (∀ W', Below w7.heap.size w7 W' → Calls Try.prog 91 #[.agg #[.int .i64 (oN rv), .slice ad md kd, .bool rv.isSome], .agg #[.int .i64 (oN cv), .slice ac mc kc, .bool cv.isSome]] W' fun e w' => e = .returned (.bool bb2) ∧ Below W'.heap.size W' w') := by
                      intro W' hb'
                      have := hlessE _ _ rv cv _ _ W' (HVD.out.below hb') (hvc.below hb') hrvb.1 hcvb.1 hrvb.2 hcvb.2
                      rw [HB2.out] at this
                      exact this
                    have i0 := aft_cell p0
                    have i1 := aft_cell p1
                    have i2 := aft_cell p2
                    have i4 := aft_cell q0
                    have i5 := aft_cell s8
                    have i6 := aft_cell t0
                    have i7 := aft_cell t1
                    have i8 := aft_cell v0
                    have i9 := aft_cell v1
                    have i10 := aft_cell v2
                    have HT0 := Lib.hid t0
                    have HT1 := Lib.hid t1
                    clear p0 p1 p2 q0 q1 s8 t0 t1 v0 v1 v2 hbt hbx hrw hgc hvc hfr hrvb hcvb hbet
                    refine wp_region_after (by kernel_rfl) (by kernel_rfl) ?_
                    repeat (go_big_quiet_step (with_reducible exact Calls.after (HLS.out _ (Aft.bel _))))
                    refine wpQuiet_nil ?_
                    rintro w8 ⟨⟨_, hb8⟩, rfl⟩
                    clear i0 i1 i2 i4 i5 i6 i7 i8 i9 i10
                    have HMT8 := Lib.hid (HMT7.out.keep hb8)
                    have HRB8 := Lib.hid (bx_keep HRB7.out hb8)
                    have HRR8 := Lib.hid (HRR7.out.below hb8)
                    have HROW8 := Lib.hid (HROW7.out.keep hb8)
                    have HX8 := Lib.hid (bx_keep HX7.out hb8)
                    have HVD8 := Lib.hid (HVD.out.below hb8)
                    have h80 := (hb8.cell (lt_of_cell HT0.out)).trans HT0.out
                    have h81 := (hb8.cell (lt_of_cell HT1.out)).trans HT1.out
                    clear hb8
                    cases bb2 with
                    | false =>
                      have HSR2 := Lib.hid (HSR.out.no HBET.out)
                      have HMT9 : Hid (MTH W gt N st (.slice (some ⟨gb0, go0, none⟩) kn gcap) (.slice pa n lk) fb bk hi bb ra rb l (rowG RV T0 r i (j + 1)) w8) := by rw [rowG_no HBET.out]; exact HMT8.out
                      clear h80 h81
                      go_wp2_with fail
                      go_roundg (n + 1 - (j + 1))
                      case measure => omega
                      case rel => exact ⟨j + 1, b, by omega, by omega, rfl, by go_num, HSR2, HMT9, HRB8, HRR8, HROW8⟩
                    | true =>
                      have HSR2 := Lib.hid (HSR.out.yes HPL.out HRA.out hin hjn HBET.out)
                      have hbx := HMT8.out.fm.box
                      obtain ⟨-, -, -, -, -, s8⟩ := bx_cells6 hbx
                      obtain ⟨p0, p1, p2⟩ := bx_cells3 HX8.out
                      obtain ⟨q0, q1⟩ := bx_cells2 HRB8.out
                      have i0 := aft_cell p0
                      have i1 := aft_cell p1
                      have i2 := aft_cell p2
                      have i4 := aft_cell q0
                      have i5 := aft_cell s8
                      have i6 := aft_cell h80
                      have i7 := aft_cell h81
                      have hin1 : (i : Int) < (n1 : Int) := by have := HN1.out; omega
                      clear p0 p1 p2 q0 q1 s8 h80 h81 hbx
                      go_upto_region 30 with fail
                      refine wp_region_after_tail 14 (by kernel_rfl) (by kernel_rfl) ?_
                      simp only [List.take_succ_cons, List.take_zero, List.drop_succ_cons, List.drop_zero]
                      repeat (go_big_quiet_step (fail))
                      refine wpQuiet_nil ?_
                      rintro w9 ⟨⟨_, hb9⟩, rfl⟩
                      clear i0 i1 i2 i4 i5 i6 i7
                      have HMT9 := Lib.hid (HMT8.out.keep hb9)
                      have HROW9 := Lib.hid (HROW8.out.keep hb9)
                      have HRR9 := Lib.hid (HRR8.out.below hb9)
                      have HRB9 := Lib.hid (bx_keep HRB8.out hb9)
                      have hvd9 := HVD8.out.below hb9
                      obtain ⟨u', eu, hrd⟩ := hvd9
                      simp at eu
                      subst eu
                      have hrow9 := HMT9.out.bt.row la hlaN i (by rw [HNN.out]; exact hin)
                      have hfr := hrow9.free
                      obtain ⟨ae, me, ke, hge, -⟩ := hrow9.get (j := j) (by rw [HNN.out]; omega)
                      obtain ⟨v0, v1, v2⟩ := hge w9 rfl
                      rw [HBB.out] at hfr v0 v1 v2
                      have f0 := hfr (j * 3)
                      have f1 := hfr (j * 3 + 1)
                      have f2 := hfr (j * 3 + 2)
                      obtain ⟨hl1, hl2⟩ := HMT9.out.lt la i hlaN (by rw [HNN.out]; exact hin)
                      have hset := HMT9.out.set HFBW.out hlaN (by rw [HNN.out]; exact hin) (by rw [HNN.out]; exact hjn) hrd
                      have hgrow := grown_cellsAt3 w9 (rb la i) (j * 3) (j * 3 + 1) (j * 3 + 2) (.int .i64 (oN rv)) (.slice ad md kd) (.bool rv.isSome)
                      have HMTA : Hid (MTH W gt N st (.slice (some ⟨gb0, go0, none⟩) kn gcap) (.slice pa n lk) fb bk hi bb ra rb l (rowG RV T0 r i (j + 1)) (((w9.setCell ⟨B, j * 3, none⟩ (.int .i64 (oN rv))).setCell ⟨B, j * 3 + 1, none⟩ (.slice ad md kd)).setCell ⟨B, j * 3 + 2, none⟩ (.bool rv.isSome))) := by
                        rw [rowG_yes HBET.out, HRV.out, HLA.out, ← HBB.out]
                        exact hset
                      rw [HBB.out] at hgrow hl1 hl2
                      have hfbw := HFBW.out
                      have hgl := HROW9.out.lt
                      have HROWA := Lib.hid (HROW9.out.grown hgrow (by have := HGRL.out; simp; omega) (fun k e h => by cases e; exact h.2 la i hlaN (by rw [HNN.out]; exact hin) HBB.out.symm))
                      have HRRA := Lib.hid (rd_grown HRR9.out hgrow (fun k e h => by cases e; have h2 : B < W.heap.size := h; omega))
                      have HRBA := Lib.hid ((hgrow.block b16 (Array.getElem?_eq_some_iff.1 HRB9.out).1 (by have := HB16L.out; simp; omega)).trans HRB9.out)
                      clear hb9 hrd hrow9 hfr hge hset hgrow hgl
                      go_wp2_with fail
                      go_roundg (n + 1 - (j + 1))
                      case measure => omega
                      case rel => exact ⟨j + 1, true, by omega, by omega, rfl, by go_num, HSR2, HMTA, HRBA, HRRA, HROWA⟩
                  · have hjn' : ¬ (j : Int) < (n1 : Int) := by have := HN1.out; omega
                    obtain rfl : j = n + 1 := by omega
                    have HST2 := Lib.hid (HSR.out.done HPL.out HRA.out hin)
                    go_wp2_with fail
                    go_roundg (n + 1 - (i + 1))
                    case measure => omega
                    case rel => exact ⟨i + 1, b, _, by omega, by omega, rfl, by go_num, HST2, HMT, HRB, HRR⟩
              · have hin' : ¬ (i : Int) < (n1 : Int) := by have := HN1.out; omega
                obtain rfl : i = n + 1 := by omega
                have HST2 := Lib.hid (HST.out.rule)
                clear HST
                go_wp2_with fail
                go_roundg (kn - (a + 1))
                case measure => omega
                case rel => exact ⟨a + 1, b, T0, by omega, by omega, rfl, by go_num, HST2, HMT⟩
          · have hlt' : ¬ (a : Int) < (kn : Int) := by omega
            have hae : a = g.rules.length := by have := HKN.out; omega
            have HST2 : Hid (StG g.rules RV n INV mu m0 g.rules.length 0 b T0) := by rw [← hae]; exact HST.out
            clear HST hae
            cases b with
            | true =>
              have hml := HST2.out.lt rfl
              go_wp2_with fail
              go_roundg (mu T0 + 1)
              case measure => omega
              case rel => exact ⟨true, T0, rfl, HMT, HST2.out.inv, fun _ => Nat.le_refl _, fun e => by cases e⟩
            | false =>
              go_wp2_with fail
              go_roundg 0
              case measure => omega
              case rel => exact ⟨false, T0, rfl, HMT, HST2.out.inv, (fun e => by cases e), fun _ => HST2.out.closed⟩
end Hl
end Go.Proofs.Ytjpmebppdcclbaa
namespace Go.Proofs.Ytjpmebppdcclbaa
open Go.RowKit
namespace Hl
open Rp

def FillM (o : Option Val) (v : Value) (z : Int) (w' : World) : Prop :=
  match o with
  | none => v = .slice none 0 0 ∧ z = 10
  | some x => if 2000 < x.n then v = .slice none 0 0 ∧ z = 2 else Sl w' v (ints x.w) ∧ z = 0
def FillPost (o : Option Val) (W : World) (e : Ending) (w' : World) : Prop :=
  ∃ (v : Value) (z : Int), e = .returned (.tuple #[v, .int .i64 z]) ∧ Below W.heap.size W w' ∧ FillM o v z w'
section
variable (g : Gram) (l : List Sym) (ga : Option Addr) (gc : Nat) (la : Option Addr) (lk : Nat) (W : World) (hgr : Rd AnyB W (.sl (g.rules.map Rule.d)) [.slice ga g.rules.length gc]) (hrl : Rd AnyB W (.sl (l.map Sym.d)) [.slice la l.length lk])
include hgr hrl
set_option maxHeartbeats 4000000 in
set_option maxRecDepth 100000 in
theorem fillBad (hp : patF g l ≠ 0) :
    Calls Try.prog 17 #[.agg #[.int .i64 g.terms, .int .i64 g.nons, .int .i64 g.start, .slice ga g.rules.length gc], .slice la l.length lk] W fun e w' => e = .returned (.tuple #[.slice none 0 0, .int .i64 (patF g l)]) ∧ Below W.heap.size W w' := by
  obtain ⟨w0, HW0⟩ := nameIt (W.alloc (.cells #[.int .i64 g.terms, .int .i64 g.nons, .int .i64 g.start, .slice ga g.rules.length gc] 24))
  have hb0 : Below W.heap.size W w0 := by rw [← HW0.out]; exact (Below.refl _ _).alloc (Nat.le_refl _) _
  have X0 : w0.heap[W.heap.size]? = some (.cells #[.int .i64 g.terms, .int .i64 g.nons, .int .i64 g.start, .slice ga g.rules.length gc] 24 (0, 0)) := by rw [← HW0.out]; exact bx_new _ _ _ rfl
  have HCK := Lib.hid (checkPE g l ga gc la lk w0 (hgr.below hb0) (hrl.below hb0))
  obtain ⟨x0, x1, x2, x3⟩ := bx_cells4 X0
  have HB0 := Lib.hid hb0
  obtain ⟨gt, HGT⟩ := nameIt g.terms
  obtain ⟨gn, HGN⟩ := nameIt g.nons
  obtain ⟨gs, HGS⟩ := nameIt g.start
  obtain ⟨kn, HKN⟩ := nameIt g.rules.length
  obtain ⟨n, HN⟩ := nameIt l.length
  obtain ⟨z, HZ⟩ := nameIt (patF g l)
  rw [HGT.out, HGN.out, HGS.out, HKN.out, HN.out, HZ.out] at HCK
  rw [HGT.out, HGN.out, HGS.out, HKN.out] at HW0
  rw [HGT.out] at x0
  rw [HGN.out] at x1
  rw [HGS.out] at x2
  rw [HKN.out] at x3
  rw [HZ.out] at hp
  rw [HGT.out, HGN.out, HGS.out, HKN.out, HN.out, HZ.out]
  have b1 : (z != 0) = true := by simpa using hp
  clear hb0 X0 hgr hrl
  go_enter Try.func17, Try.ntmps17
  go_upto_region 1 with fail
  rw [HW0.out]
  go_wp2_with fail
  refine HCK.out.mono ?_
  clear x0 x1 x2 x3
  rintro e w1 ⟨rfl, hb1⟩
  have HF : Hid (Below W.heap.size W w1) := HB0.out.trans (hb1.mono HB0.out.size)
  clear hb1
  go_wp2_with fail
  exact bodyPost_ret (results_tmp2 Try.results17 _ _ _) rfl ⟨rfl, HF.out⟩
set_option maxHeartbeats 4000000 in
set_option maxRecDepth 100000 in
theorem fillOk (hp : patF g l = 0) (o : Option Val) (hwf : WfO o)
    (hfi : ∀ W', Below W.heap.size W W' → Calls Try.prog 50 #[.agg #[.int .i64 g.terms, .int .i64 g.nons, .int .i64 g.start, .slice ga g.rules.length gc], .slice la l.length lk] W' fun e w' => ∃ x, e = .returned x ∧ HR (fun k => W'.heap.size ≤ k) w' x o ∧ Below W'.heap.size W' w') :
    Calls Try.prog 17 #[.agg #[.int .i64 g.terms, .int .i64 g.nons, .int .i64 g.start, .slice ga g.rules.length gc], .slice la l.length lk] W (FillPost o W) := by
  obtain ⟨w0, HW0⟩ := nameIt (W.alloc (.cells #[.int .i64 g.terms, .int .i64 g.nons, .int .i64 g.start, .slice ga g.rules.length gc] 24))
  have hb0 : Below W.heap.size W w0 := by rw [← HW0.out]; exact (Below.refl _ _).alloc (Nat.le_refl _) _
  have X0 : Hid (w0.heap[W.heap.size]? = some (.cells #[.int .i64 g.terms, .int .i64 g.nons, .int .i64 g.start, .slice ga g.rules.length gc] 24 (0, 0))) := by rw [← HW0.out]; exact bx_new _ _ _ rfl
  have hck := checkPE g l ga gc la lk w0 (hgr.below hb0) (hrl.below hb0)
  rw [hp] at hck
  have HCK := Lib.hid hck
  have HFI : Hid (∀ W', Below w0.heap.size w0 W' → Calls Try.prog 50 #[.agg #[.int .i64 g.terms, .int .i64 g.nons, .int .i64 g.start, .slice ga g.rules.length gc], .slice la l.length lk] W' fun e w' => ∃ x, e = .returned x ∧ HR (fun k => W'.heap.size ≤ k) w' x o ∧ Below W'.heap.size W' w') := fun W' hb => hfi W' (hb0.trans (hb.mono hb0.size))
  have HB0 := Lib.hid hb0
  obtain ⟨PST, HP⟩ := nameIt (FillPost o W)
  have HFIN : Hid (∀ (v : Value) (z : Int) w', Below w0.heap.size w0 w' → FillM o v z w' → PST (.returned (.tuple #[v, .int .i64 z])) w') := by
    intro v z w' h1 h2
    rw [← HP.out]
    exact ⟨v, z, rfl, HB0.out.trans (h1.mono HB0.out.size), h2⟩
  rw [HP.out]
  obtain ⟨gt, HGT⟩ := nameIt g.terms
  obtain ⟨gn, HGN⟩ := nameIt g.nons
  obtain ⟨gs, HGS⟩ := nameIt g.start
  obtain ⟨kn, HKN⟩ := nameIt g.rules.length
  obtain ⟨n, HN⟩ := nameIt l.length
  rw [HGT.out, HGN.out, HGS.out, HKN.out, HN.out] at HCK HFI
  rw [HGT.out, HGN.out, HGS.out, HKN.out] at HW0 X0
  rw [HGT.out, HGN.out, HGS.out, HKN.out, HN.out]
  obtain ⟨x0, x1, x2, x3⟩ := bx_cells4 X0.out
  clear hb0 hgr hrl hck hfi
  go_enter Try.func17, Try.ntmps17
  go_upto_region 1 with fail
  rw [HW0.out]
  go_wp2_with fail
  refine HCK.out.mono ?_
  clear x0 x1 x2 x3
  rintro e w1 ⟨rfl, hb1⟩
  have HB1 := Lib.hid hb1
  obtain ⟨x0, x1, x2, x3⟩ := bx_cells4 (bx_keep X0.out hb1)
  have HF1 := Lib.hid (HFI.out w1 hb1)
  clear hb1
  go_wp2_with fail
  refine HF1.out.mono ?_
  rintro e w2 ⟨x, rfl, hv, hb2⟩
  obtain ⟨a1, m1, k1, rfl, hrd⟩ := hv.form
  obtain ⟨w3, HW3⟩ := nameIt (w2.alloc (.cells #[.int .i64 (oN o), .slice a1 m1 k1, .bool o.isSome] 91))
  have hb3 : Below w2.heap.size w2 w3 := by rw [← HW3.out]; exact (Below.refl _ _).alloc (Nat.le_refl _) _
  have X3 : Hid (w3.heap[w2.heap.size]? = some (.cells #[.int .i64 (oN o), .slice a1 m1 k1, .bool o.isSome] 91 (0, 0))) := by rw [← HW3.out]; exact bx_new _ _ _ rfl
  have HB3 := Lib.hid (HB1.out.trans ((hb2.trans (hb3.mono hb2.size)).mono HB1.out.size))
  have HRD := Lib.hid (hrd.below hb3)
  obtain ⟨b7, HB7⟩ := nameIt w2.heap.size
  rw [HB7.out] at X3
  clear hv hb2 hb3 hrd x0 x1 x2 x3
  go_upto_region 5 with fail
  rw [HW3.out, HB7.out]
  clear HW3 HB7
  obtain ⟨y0, y1, y2⟩ := bx_cells3 X3.out
  cases o with
  | none =>
    simp only [Option.isSome] at y2
    have HF := Lib.hid (HFIN.out (.slice none 0 0) 10 w3 HB3.out ⟨rfl, rfl⟩)
    go_wp2_with fail
    first | exact HF.out | exact bodyPost_ret (results_tmp2 Try.results17 _ _ _) rfl HF.out
  | some v =>
    simp only [Option.isSome] at y2
    obtain ⟨vn, HVN⟩ := nameIt (oN (some v))
    have e0 : v.n = vn := HVN.out
    rw [HVN.out] at y0
    have hlw : v.w.length ≤ 2000 := by
      rcases hwf v rfl with ⟨h, h2⟩ | ⟨_, h2⟩
      · unfold maxL at h; omega
      · rw [h2]; simp
    have HE0 := Lib.hid e0
    have HLW := Lib.hid hlw
    clear e0 hlw hwf
    by_cases hbig : 2000 < vn
    · have hbig' : (2000 : Int) < (vn : Int) := by omega
      have HF := Lib.hid (HFIN.out (.slice none 0 0) 2 w3 HB3.out (by
        have e : 2000 < v.n := by have := HE0.out; omega
        show if 2000 < v.n then _ else _
        rw [if_pos e]; exact ⟨rfl, rfl⟩))
      go_wp2_with fail
      first | exact HF.out | exact bodyPost_ret (results_tmp2 Try.results17 _ _ _) rfl HF.out
    · have hbig' : ¬ (2000 : Int) < (vn : Int) := by omega
      have HCL : Hid (Calls Try.prog 31 #[.slice a1 m1 k1] w3 (NewInts v.w w3)) := clone_int _ _ w3 (sl_rd HRD.out) (by have := HLW.out; omega)
      go_wp2_with fail
      refine HCL.out.mono ?_
      rintro e w4 ⟨ac, kc, rfl, ho, hb4⟩
      have HF := Lib.hid (HFIN.out (.slice ac v.w.length kc) 0 w4 (HB3.out.trans (hb4.mono HB3.out.size)) (by
        have e : ¬ 2000 < v.n := by have := HE0.out; omega
        show if 2000 < v.n then _ else _
        rw [if_neg e]; exact ⟨sl_of_own ho, rfl⟩))
      obtain ⟨cl, HCLN⟩ := nameIt v.w.length
      rw [HCLN.out] at HF ⊢
      clear ho hb4
      go_wp2_with fail
      first | exact HF.out | exact bodyPost_ret (results_tmp2 Try.results17 _ _ _) rfl HF.out
end
end Hl
end Go.Proofs.Ytjpmebppdcclbaa
namespace Go.Proofs.Ytjpmebppdcclbaa
open Go.RowKit

inductive Pth (E : List (Nat × Nat)) : Nat → Nat → Prop
  | one {i j : Nat} : (i, j) ∈ E → Pth E i j
  | cons {i j k : Nat} : (i, j) ∈ E → Pth E j k → Pth E i k
theorem Pth.trans {E : List (Nat × Nat)} {i j k : Nat} (h : Pth E i j) (h2 : Pth E j k) : Pth E i k := by
  induction h with
  | one h => exact .cons h h2
  | cons h _ ih => exact .cons h (ih h2)
/-- in rounds over the places between -/
def fw (E : List (Nat × Nat)) : Nat → Nat → Nat → Bool
  | 0, i, j => decide ((i, j) ∈ E)
  | k + 1, i, j => fw E k i j || (fw E k i k && fw E k k j)
def cnt (N : Nat) (U : Nat → Bool) : Nat := ((List.range N).filter U).length
theorem filter_lt {l : List Nat} {U V : Nat → Bool} (h : ∀ x ∈ l, U x = true → V x = true) : (l.filter U).length ≤ (l.filter V).length ∧ (∀ x ∈ l, V x = true → U x = false → (l.filter U).length < (l.filter V).length) := by
  induction l with
  | nil => simp
  | cons a l ih =>
    obtain ⟨h1, h2⟩ := ih fun x hx => h x (List.mem_cons_of_mem _ hx)
    have ha := h a List.mem_cons_self
    simp only [List.filter_cons]
    constructor
    · cases hu : U a <;> cases hv : V a <;> simp_all <;> omega
    · intro x hx hv hu
      rcases List.mem_cons.1 hx with rfl | hx
      · rw [hu, hv]; simp; omega
      · have := h2 x hx hv hu
        cases hu' : U a <;> cases hv' : V a <;> simp_all <;> omega
end Go.Proofs.Ytjpmebppdcclbaa
namespace Go.Proofs.Ytjpmebppdcclbaa
open Go.RowKit
namespace Cs

def hasK (S : Nat → Nat → Bool) (s : Sym) (k : Nat) : Bool := if s.term then decide (k = 1) else S s.n.toNat k
def canK (S : Nat → Nat → Bool) : List Sym → Nat → Bool
  | [], k => decide (k = 0)
  | s :: l, k => (List.range (k + 1)).any fun i => hasK S s i && canK S l (k - i)
def splitK (S : Nat → Nat → Bool) (a b : List Sym) (k : Nat) : Bool := (List.range (k + 1)).any fun i => canK S a i && canK S b (k - i)
theorem canK_cons {S : Nat → Nat → Bool} {s : Sym} {l : List Sym} {k : Nat} : canK S (s :: l) k = true ↔ ∃ i, i ≤ k ∧ hasK S s i = true ∧ canK S l (k - i) = true := by
  rw [canK, List.any_eq_true]
  constructor
  · rintro ⟨i, hi, h⟩
    rw [Bool.and_eq_true] at h
    exact ⟨i, by have := List.mem_range.1 hi; omega, h⟩
  · rintro ⟨i, hi, h1, h2⟩
    exact ⟨i, List.mem_range.2 (by omega), by rw [h1, h2]; rfl⟩
/-- a list of at most so many trees of symbols, in which all that is asked for is good -/
def Fine (S : Nat → Nat → Bool) (G : Nat → Nat → Prop) (l : List Sym) (k : Nat) : Prop :=
  ∀ (p : Nat) (s : Sym) (i a : Nat), l[p]? = some s → s.term = false → S s.n.toNat i = true → a + i ≤ k → canK S (l.take p) a = true → canK S (l.drop (p + 1)) (k - a - i) = true → G s.n.toNat i
theorem Fine.head {S : Nat → Nat → Bool} {G : Nat → Nat → Prop} {s : Sym} {l : List Sym} {k i : Nat} (h : Fine S G (s :: l) k) (hi : i ≤ k) (h1 : hasK S s i = true) (h2 : canK S l (k - i) = true) (ht : s.term = false) : G s.n.toNat i := by
  refine h 0 s i 0 rfl ht ?_ (by omega) rfl (by simpa using h2)
  unfold hasK at h1
  rw [ht] at h1
  simpa using h1
theorem Fine.tail {S : Nat → Nat → Bool} {G : Nat → Nat → Prop} {s : Sym} {l : List Sym} {k i : Nat} (h : Fine S G (s :: l) k) (hi : i ≤ k) (h1 : hasK S s i = true) : Fine S G l (k - i) := by
  intro p s' j a hp ht hS ha h2 h3
  refine h (p + 1) s' j (i + a) hp ht hS (by omega) ?_ ?_
  · rw [List.take_succ_cons, canK_cons]
    exact ⟨i, by omega, h1, by rw [Nat.add_sub_cancel_left]; exact h2⟩
  · rw [List.drop_succ_cons]
    have : k - (i + a) - j = k - i - a - j := by omega
    rw [this]; exact h3
/-- how many nodes a node leads to -/
def reachN (T : Nat → Nat → Bool) (size u : Nat) : Nat := ((List.range size).filter fun v => T u v).length
/-- a table of truth values as edges -/
def edg (size : Nat) (F : Nat → Nat → Bool) : List (Nat × Nat) := (List.range size).flatMap fun i => ((List.range size).filter fun j => F i j).map fun j => (i, j)
/-- all that a node leads to -/
def clo (size : Nat) (F : Nat → Nat → Bool) (i j : Nat) : Bool := fw (edg size F) size i j
/-- what leads to itself, or to such: looked at below jm -/
def manyK (T : Nat → Nat → Bool) (jm u : Nat) : Bool := (List.range jm).any fun j => (u == j || T u j) && T j j
/-- the sum over ways of a list, as the program reckons it -/
def listStep (cap : Int) (sum o l : Int) : Int := min (IntKind.i64.wrap (sum + IntKind.i64.wrap (o * l))) cap
def listV (S : Nat → Nat → Bool) (cap : Int) (o : Sym → Nat → Int) : List Sym → Nat → Int
  | [], k => if k = 0 then 1 else 0
  | s :: l, k => (List.range (k + 1)).foldl (fun sum i => if (hasK S s i && canK S l (k - i)) = true then listStep cap sum (o s i) (listV S cap o l (k - i)) else sum) 0
def symV (S : Nat → Nat → Bool) (f : Nat → Nat → Int) (s : Sym) (k : Nat) : Int := if hasK S s k = false then 0 else if s.term then 1 else f s.n.toNat k
def ofF (rules : List Rule) (S M : Nat → Nat → Bool) (cap many : Int) : Nat → Nat → Nat → Int
  | 0, _, _ => 0
  | f + 1, A, k => if S A k = false then 0 else if M A k then many else rules.foldl (fun sum r => if r.left = (A : Int) then min (IntKind.i64.wrap (sum + listV S cap (symV S (ofF rules S M cap many f)) r.right k)) cap else sum) 0
/-- a node from which counting ends, in so many steps -/
def okK (T M : Nat → Nat → Bool) (n size f A k : Nat) : Prop := M A k = true ∨ reachN T size (A * (n + 1) + k) < f
section
variable {rules : List Rule} {S M T : Nat → Nat → Bool} {N n size : Nat} {cap many : Int}
theorem okK.mono {f f' A k : Nat} (h : okK T M n size f A k) (hf : f ≤ f') : okK T M n size f' A k := h.imp id fun h => by omega
/-- the number of trees, as the program reckons it -/
def valK (rules : List Rule) (S M : Nat → Nat → Bool) (cap many : Int) (size : Nat) (A k : Nat) : Int := ofF rules S M cap many (size + 2) A k
end
end Cs
end Go.Proofs.Ytjpmebppdcclbaa
namespace Go.Proofs.Ytjpmebppdcclbaa
open Go.RowKit
namespace Cs

def updB (F : Nat → Nat → Bool) (a b : Nat) : Nat → Nat → Bool := fun k l => if k = a ∧ l = b then true else F k l
theorem updB_at (F : Nat → Nat → Bool) (a b : Nat) : updB F a b a b = true := by unfold updB; rw [if_pos ⟨rfl, rfl⟩]
/-- one place: rule r at length k, symbol i, of length j -/
def e1 (S : Nat → Nat → Bool) (n : Nat) (r : Rule) (k i : Nat) (F : Nat → Nat → Bool) (j : Nat) : Nat → Nat → Bool :=
  if (S ((r.right.getD i ⟨true, 0⟩).n.toNat) j && splitK S (r.right.take i) (r.right.drop (i + 1)) (k - j)) = true then updB F (r.left.toNat * (n + 1) + k) ((r.right.getD i ⟨true, 0⟩).n.toNat * (n + 1) + j) else F
def e2 (S : Nat → Nat → Bool) (n : Nat) (r : Rule) (k i : Nat) (F : Nat → Nat → Bool) (jm : Nat) : Nat → Nat → Bool := (List.range jm).foldl (e1 S n r k i) F
def e3 (S : Nat → Nat → Bool) (n : Nat) (r : Rule) (k : Nat) (F : Nat → Nat → Bool) (im : Nat) : Nat → Nat → Bool := (List.range im).foldl (fun F i => if (r.right.getD i ⟨true, 0⟩).term then F else e2 S n r k i F (k + 1)) F
def e4 (S : Nat → Nat → Bool) (n : Nat) (r : Rule) (F : Nat → Nat → Bool) (km : Nat) : Nat → Nat → Bool := (List.range km).foldl (fun F k => e3 S n r k F r.right.length) F
def e5 (S : Nat → Nat → Bool) (n : Nat) (l : List Rule) : Nat → Nat → Bool := l.foldl (fun F r => e4 S n r F (n + 1)) (fun _ _ => false)
section
variable {S : Nat → Nat → Bool} {n : Nat} {u v : Nat}
end
/-- which nodes have infinitely many trees -/
def sizeK (N n : Nat) : Nat := N * (n + 1)
def clK (rules : List Rule) (S : Nat → Nat → Bool) (N n : Nat) : Nat → Nat → Bool := clo (sizeK N n) (e5 S n rules)
def MK (rules : List Rule) (S : Nat → Nat → Bool) (N n : Nat) : Nat → Nat → Bool := fun A k => manyK (clK rules S N n) (sizeK N n) (A * (n + 1) + k)
/-- a pass over the table of lengths -/
def p1 (r : Rule) (st : (Nat → Nat → Bool) × Bool) (k : Nat) : (Nat → Nat → Bool) × Bool := if (!st.1 r.left.toNat k && canK st.1 r.right k) = true then (updB st.1 r.left.toNat k, true) else st
def p2 (n : Nat) (st : (Nat → Nat → Bool) × Bool) (r : Rule) : (Nat → Nat → Bool) × Bool := (List.range (n + 1)).foldl (p1 r) st
def p3 (n : Nat) (l : List Rule) (S : Nat → Nat → Bool) : (Nat → Nat → Bool) × Bool := l.foldl (p2 n) (S, false)
def itP (n : Nat) (l : List Rule) : Nat → (Nat → Nat → Bool) → (Nat → Nat → Bool)
  | 0, S => S
  | m + 1, S => itP n l m (p3 n l S).1
end Cs
end Go.Proofs.Ytjpmebppdcclbaa
namespace Go.Proofs.Ytjpmebppdcclbaa
open Go.RowKit
namespace Cs

/-- all lists of trees of symbols with a length together -/
def enL (S : Nat → Nat → Bool) (o : Sym → Nat → List Tree) : List Sym → Nat → List (List Tree)
  | [], k => if k = 0 then [[]] else []
  | s :: l, k => (List.range (k + 1)).flatMap fun i => if (hasK S s i && canK S l (k - i)) = true then (o s i).flatMap fun x => (enL S o l (k - i)).map (x :: ·) else []
def symE (S : Nat → Nat → Bool) (e : Nat → Nat → List Tree) (s : Sym) (k : Nat) : List Tree := if hasK S s k = false then [] else if s.term then [.node (-1) s.n []] else e s.n.toNat k
def enR (S : Nat → Nat → Bool) (o : Sym → Nat → List Tree) (A : Int) (k : Nat) : List Rule → Nat → List Tree
  | [], _ => []
  | r :: rs, j => (if r.left = A then (enL S o r.right k).map fun ks => Tree.node (j : Int) 0 ks else []) ++ enR S o A k rs (j + 1)
/-- all trees of a nonterminal of at most so many levels -/
def enF (rules : List Rule) (S : Nat → Nat → Bool) : Nat → Nat → Nat → List Tree
  | 0, _, _ => []
  | f + 1, A, k => if S A k = false then [] else enR S (symE S (enF rules S f)) (A : Int) k rules 0
/-- a node from which no circle is reached, in so many steps -/
def Gd (M T : Nat → Nat → Bool) (N n size f A k : Nat) : Prop := A < N ∧ k ≤ n ∧ M A k = false ∧ reachN T size (A * (n + 1) + k) < f
theorem Fine.mono {S : Nat → Nat → Bool} {G G' : Nat → Nat → Prop} {l : List Sym} {k : Nat} (h : Fine S G l k) (hg : ∀ A i, G A i → G' A i) : Fine S G' l k := fun p s i a h1 h2 h3 h4 h5 h6 => hg _ _ (h p s i a h1 h2 h3 h4 h5 h6)
section
variable {rules : List Rule} {S M T : Nat → Nat → Bool} {N n size : Nat} {cap many : Int}
theorem Gd.mono {f f' A k : Nat} (h : Gd M T N n size f A k) (hf : f ≤ f') : Gd M T N n size f' A k := ⟨h.1, h.2.1, h.2.2.1, Nat.lt_of_lt_of_le h.2.2.2 hf⟩
/-- the trees of a nonterminal -/
def EN (rules : List Rule) (S : Nat → Nat → Bool) (size : Nat) : Nat → Nat → List Tree := enF rules S (size + 2)
end
def prodL (xs : List Tree) (ys : List (List Tree)) : List (List Tree) := xs.flatMap fun x => ys.map (x :: ·)
/-- the block of lists whose first tree has a length -/
def blk (S : Nat → Nat → Bool) (o : Sym → Nat → List Tree) (s : Sym) (l : List Sym) (k i : Nat) : List (List Tree) := if (hasK S s i && canK S l (k - i)) = true then prodL (o s i) (enL S o l (k - i)) else []
def pre (S : Nat → Nat → Bool) (o : Sym → Nat → List Tree) (s : Sym) (l : List Sym) (k m : Nat) : List (List Tree) := (List.range m).flatMap (blk S o s l k)
section
variable {rules : List Rule} {S M T : Nat → Nat → Bool} {N n size : Nat} {cap many : Int}
end
end Cs
end Go.Proofs.Ytjpmebppdcclbaa
namespace Go.Proofs.Ytjpmebppdcclbaa
open Go.RowKit
namespace Cs

section
variable {rules : List Rule} {S M T : Nat → Nat → Bool} {N n size : Nat} {cap many : Int}
end
end Cs
end Go.Proofs.Ytjpmebppdcclbaa
namespace Go.Proofs.Ytjpmebppdcclbaa
open Go.RowKit

theorem made_at (z : Value) (n j : Nat) (h : j < n) : (madeCells #[z] n)[j]? = some z := by
  simp [madeCells, h, Nat.mod_one]

/-- rows lo .. n of the table in block bt are there: row k in block rb k, of m + 1 numbers -/
structure Tab (B bt n m : Nat) (rb : Nat → Nat) (lo : Nat) (val : Nat → Nat → Int) (wr : World) : Prop where
  tb : ∃ cs, wr.heap[bt]? = some (.cells cs 25 (0, 0)) ∧ cs.size = n + 1 ∧ ∀ k, lo ≤ k → k ≤ n → cs[k]? = some (.slice (some ⟨rb k, 0, none⟩) (m + 1) (m + 1))
  row : ∀ k, lo ≤ k → k ≤ n → ∃ cs, wr.heap[rb k]? = some (.cells cs 3 (0, 0)) ∧ cs.size = m + 1 ∧ ∀ j, j ≤ m → cs[j]? = some (.int .i64 (val k j))
  inj : ∀ k k', lo ≤ k → k ≤ n → lo ≤ k' → k' ≤ n → rb k = rb k' → k = k'
  ne : ∀ k, lo ≤ k → k ≤ n → rb k ≠ bt ∧ B ≤ rb k
  bB : B ≤ bt
section
variable {B bt n m : Nat} {rb : Nat → Nat} {lo : Nat} {val : Nat → Nat → Int} {wr w' : World}
theorem Tab.keep (h : Tab B bt n m rb lo val wr) (hb : Below wr.heap.size wr w') : Tab B bt n m rb lo val w' := by
  obtain ⟨⟨cs, h1, h2, h3⟩, h4, h5, h6, h7⟩ := h
  refine ⟨⟨cs, bx_keep h1 hb, h2, h3⟩, fun k hk hn => ?_, h5, h6, h7⟩
  obtain ⟨rs, r1, r2⟩ := h4 k hk hn
  exact ⟨rs, bx_keep r1 hb, r2⟩
theorem Tab.grown {row : Option Nat} (h : Tab B bt n m rb lo val wr) (hg : wr.grownBy w' row) (hr : ∀ k, row = some k → k ≠ bt ∧ ∀ i, lo ≤ i → i ≤ n → rb i ≠ k) : Tab B bt n m rb lo val w' := by
  obtain ⟨⟨cs, h1, h2, h3⟩, h4, h5, h6, h7⟩ := h
  refine ⟨⟨cs, ?_, h2, h3⟩, fun k hk hn => ?_, h5, h6, h7⟩
  · rw [hg.block bt (Array.getElem?_eq_some_iff.1 h1).1 (fun e => (hr bt e.symm).1 rfl)]; exact h1
  · obtain ⟨rs, r1, r2⟩ := h4 k hk hn
    refine ⟨rs, ?_, r2⟩
    rw [hg.block (rb k) (Array.getElem?_eq_some_iff.1 r1).1 (fun e => (hr _ e.symm).2 k hk hn rfl)]; exact r1
theorem Tab.hdr (h : Tab B bt n m rb lo val wr) {k : Nat} (hk : lo ≤ k) (hn : k ≤ n) : wr.cell? ⟨bt, k, none⟩ = some (.slice (some ⟨rb k, 0, none⟩) (m + 1) (m + 1)) := by
  obtain ⟨cs, h1, h2, h3⟩ := h.tb
  simp [World.cell?, h1, h3 k hk hn]
theorem Tab.cell (h : Tab B bt n m rb lo val wr) {k j : Nat} (hk : lo ≤ k) (hn : k ≤ n) (hj : j ≤ m) : wr.cell? ⟨rb k, j, none⟩ = some (.int .i64 (val k j)) := by
  obtain ⟨cs, h1, h2, h3⟩ := h.row k hk hn
  simp [World.cell?, h1, h3 j hj]
theorem Tab.free (h : Tab B bt n m rb lo val wr) {k : Nat} (hk : lo ≤ k) (hn : k ≤ n) (j : Nat) : wr.frozen? ⟨rb k, j, none⟩ = false := by
  obtain ⟨cs, h1, h2, h3⟩ := h.row k hk hn
  simp [World.frozen?, h1]
theorem Tab.lt (h : Tab B bt n m rb lo val wr) : bt < wr.heap.size := by
  obtain ⟨cs, h1, _⟩ := h.tb
  exact (Array.getElem?_eq_some_iff.1 h1).1
theorem Tab.rlt (h : Tab B bt n m rb lo val wr) {k : Nat} (hk : lo ≤ k) (hn : k ≤ n) : rb k < wr.heap.size := by
  obtain ⟨cs, h1, _⟩ := h.row k hk hn
  exact (Array.getElem?_eq_some_iff.1 h1).1
/-- a number stored -/
theorem Tab.set (h : Tab B bt n m rb lo val wr) {i j : Nat} (hi : lo ≤ i) (hin : i ≤ n) (hj : j ≤ m) (x : Int) : Tab B bt n m rb lo (fun k l => if k = i ∧ l = j then x else val k l) (wr.setCell ⟨rb i, j, none⟩ (.int .i64 x)) := by
  obtain ⟨⟨cs, h1, h2, h3⟩, h4, h5, h6, h7⟩ := h
  refine ⟨⟨cs, bx_other h1 (fun e => (h6 i hi hin).1 e.symm) _ _, h2, h3⟩, fun k hk hn => ?_, h5, h6, h7⟩
  obtain ⟨rs, r1, r2, r3⟩ := h4 k hk hn
  by_cases e : k = i
  · subst e
    refine ⟨rs.setIfInBounds j (.int .i64 x), bx_set r1 _ _, by simpa using r2, fun l hl => ?_⟩
    rw [Array.getElem?_setIfInBounds]
    by_cases e2 : j = l
    · subst e2
      rw [if_pos rfl, if_pos (by omega)]; simp
    · rw [if_neg e2, r3 l hl]
      simp [show ¬ l = j from fun h => e2 h.symm]
  · refine ⟨rs, bx_other r1 (fun e2 => e (h5 k i hk hn hi hin e2)) _ _, r2, fun l hl => ?_⟩
    rw [r3 l hl]; simp [e]
/-- a new row: laid, and its header stored -/
theorem Tab.add {i : Nat} (h : Tab B bt n m rb (i + 1) val wr) (hi : i ≤ n) (hB : B ≤ wr.heap.size) :
    Tab B bt n m (fun k => if k = i then wr.heap.size else rb k) i (fun k l => if k = i then 0 else val k l) ((wr.alloc (.cells (madeCells #[.int .i64 0] (m + 1)) 3)).setCell ⟨bt, i, none⟩ (.slice (some ⟨wr.heap.size, 0, none⟩) (m + 1) (m + 1))) := by
  have hbt := h.lt
  have hrl := fun k hk hn => h.rlt (k := k) hk hn
  obtain ⟨⟨cs, h1, h2, h3⟩, h4, h5, h6, h7⟩ := h
  have hba : Below wr.heap.size wr (wr.alloc (.cells (madeCells #[.int .i64 0] (m + 1)) 3)) := (Below.refl _ _).alloc (Nat.le_refl _) _
  refine ⟨⟨cs.setIfInBounds i (.slice (some ⟨wr.heap.size, 0, none⟩) (m + 1) (m + 1)), bx_set (bx_keep h1 hba) _ _, by simpa using h2, fun k hk hn => ?_⟩, fun k hk hn => ?_, fun k k' hk hn hk' hn' e => ?_, fun k hk hn => ?_, h7⟩
  · rw [Array.getElem?_setIfInBounds]
    by_cases e : i = k
    · subst e
      rw [if_pos rfl, if_pos (by omega)]; simp
    · rw [if_neg e, h3 k (by omega) hn]
      simp [show ¬ k = i from fun h => e h.symm]
  · by_cases e : k = i
    · subst e
      refine ⟨madeCells #[.int .i64 0] (m + 1), ?_, size_madeCells _ _, fun j hj => ?_⟩
      · simp only [if_true]
        exact bx_other (bx_new _ _ _ rfl) (by omega) _ _
      · rw [made_at _ _ _ (by omega)]; simp
    · obtain ⟨rs, r1, r2, r3⟩ := h4 k (by omega) hn
      refine ⟨rs, ?_, r2, fun j hj => by rw [r3 j hj]; simp [e]⟩
      simp only [e, if_false]
      exact bx_other (bx_keep r1 hba) (h6 k (by omega) hn).1 _ _
  · by_cases e1 : k = i <;> by_cases e2 : k' = i <;> simp only [e1, e2, if_true, if_false] at e ⊢
    · have := hrl k' (by omega) hn'; omega
    · have := hrl k (by omega) hn; omega
    · exact h5 k k' (by omega) hn (by omega) hn' e
  · by_cases e : k = i
    · subst e; simp only [if_true]; omega
    · simp only [e, if_false]; exact h6 k (by omega) hn
theorem Tab.eq {val' : Nat → Nat → Int} (h : Tab B bt n m rb lo val wr) (he : ∀ k j, lo ≤ k → k ≤ n → j ≤ m → val k j = val' k j) : Tab B bt n m rb lo val' wr := by
  obtain ⟨h1, h4, h5, h6, h7⟩ := h
  refine ⟨h1, fun k hk hn => ?_, h5, h6, h7⟩
  obtain ⟨rs, r1, r2, r3⟩ := h4 k hk hn
  exact ⟨rs, r1, r2, fun j hj => by rw [r3 j hj, he k j hk hn hj]⟩
end
end Go.Proofs.Ytjpmebppdcclbaa
namespace Go.Proofs.Ytjpmebppdcclbaa
open Go.RowKit
namespace Cs

/-- a table of N rows of M one-cell values; all of it in blocks from lo on, below hi -/
structure Tb (te : TypeId) (lo hi bt N M : Nat) (rb : Nat → Nat) (val : Nat → Nat → Value) (W : World) : Prop where
  hdr : ∃ cs T, W.heap[bt]? = some (.cells cs T (0, 0)) ∧ ∀ a, a < N → cs[a]? = some (.slice (some ⟨rb a, 0, none⟩) M M)
  row : ∀ a, a < N → ∃ cs, W.heap[rb a]? = some (.cells cs te (0, 0)) ∧ cs.size = M ∧ ∀ k, k < M → cs[k]? = some (val a k)
  inj : ∀ a b, a < N → b < N → rb a = rb b → a = b
  ne : ∀ a, a < N → rb a ≠ bt ∧ lo ≤ rb a ∧ rb a < hi
  pl : lo ≤ bt ∧ bt < hi
section
variable {te : TypeId} {lo hi bt N M : Nat} {rb : Nat → Nat} {val : Nat → Nat → Value} {W W' : World}
theorem Tb.other (h : Tb te lo hi bt N M rb val W) (hs : ∀ k, lo ≤ k → k < hi → W'.heap[k]? = W.heap[k]?) : Tb te lo hi bt N M rb val W' := by
  obtain ⟨⟨cs, T, h1, h2⟩, h3, h4, h5, h6⟩ := h
  refine ⟨⟨cs, T, by rw [hs bt h6.1 h6.2]; exact h1, h2⟩, fun a ha => ?_, h4, h5, h6⟩
  obtain ⟨rs, r1, r2⟩ := h3 a ha
  exact ⟨rs, by rw [hs _ (h5 a ha).2.1 (h5 a ha).2.2]; exact r1, r2⟩
theorem Tb.keep (h : Tb te lo hi bt N M rb val W) (hh : hi ≤ W.heap.size) (hb : Below W.heap.size W W') : Tb te lo hi bt N M rb val W' := h.other fun k _ h2 => hb.block k (by omega)
theorem Tb.head (h : Tb te lo hi bt N M rb val W) {a : Nat} (ha : a < N) : W.cell? ⟨bt, a, none⟩ = some (.slice (some ⟨rb a, 0, none⟩) M M) := by
  obtain ⟨cs, T, h1, h2⟩ := h.hdr
  simp [World.cell?, h1, h2 a ha]
theorem Tb.cell (h : Tb te lo hi bt N M rb val W) {a k : Nat} (ha : a < N) (hk : k < M) : W.cell? ⟨rb a, k, none⟩ = some (val a k) := by
  obtain ⟨cs, h1, h2, h3⟩ := h.row a ha
  simp [World.cell?, h1, h3 k hk]
theorem Tb.free (h : Tb te lo hi bt N M rb val W) {a : Nat} (ha : a < N) (k : Nat) : W.frozen? ⟨rb a, k, none⟩ = false := by
  obtain ⟨cs, h1, h2, h3⟩ := h.row a ha
  simp [World.frozen?, h1]
theorem Tb.set (h : Tb te lo hi bt N M rb val W) {a k : Nat} (ha : a < N) (hk : k < M) (x : Value) : Tb te lo hi bt N M rb (fun b l => if b = a ∧ l = k then x else val b l) (W.setCell ⟨rb a, k, none⟩ x) := by
  obtain ⟨⟨cs, T, h1, h2⟩, h3, h4, h5, h6⟩ := h
  refine ⟨⟨cs, T, bx_other h1 (fun e => (h5 a ha).1 e.symm) _ _, h2⟩, fun b hb => ?_, h4, h5, h6⟩
  obtain ⟨rs, r1, r2, r3⟩ := h3 b hb
  by_cases e : b = a
  · subst e
    refine ⟨rs.setIfInBounds k x, bx_set r1 _ _, by simpa using r2, fun l hl => ?_⟩
    rw [Array.getElem?_setIfInBounds]
    by_cases e2 : k = l
    · subst e2
      rw [if_pos rfl, if_pos (by omega)]; simp
    · rw [if_neg e2, r3 l hl]
      simp [show ¬ l = k from fun h => e2 h.symm]
  · refine ⟨rs, bx_other r1 (fun e2 => e (h4 b a hb ha e2)) _ _, r2, fun l hl => ?_⟩
    rw [r3 l hl]; simp [e]
theorem Tb.eq {val' : Nat → Nat → Value} (h : Tb te lo hi bt N M rb val W) (he : ∀ a k, a < N → k < M → val a k = val' a k) : Tb te lo hi bt N M rb val' W := by
  obtain ⟨h1, h3, h4, h5, h6⟩ := h
  refine ⟨h1, fun a ha => ?_, h4, h5, h6⟩
  obtain ⟨rs, r1, r2, r3⟩ := h3 a ha
  exact ⟨rs, r1, r2, fun k hk => by rw [r3 k hk, he a k ha hk]⟩
end
/-- while it is made: the rows so far, their headers in a row of the call's own -/
structure TbI (te tr : TypeId) (B M : Nat) (x : Value) (L : List Nat) (v : Value) (W : World) : Prop where
  own : W.ownsRow B tr 1 v L.length (L.map fun b => .slice (some ⟨b, 0, none⟩) M M)
  rows : ∀ b ∈ L, B ≤ b ∧ b < W.heap.size ∧ v.ownBlock ≠ some b ∧ ∃ cs, W.heap[b]? = some (.cells cs te (0, 0)) ∧ cs.size = M ∧ ∀ k, k < M → cs[k]? = some x
  nd : L.Nodup
  le : B ≤ W.heap.size
section
variable {te tr : TypeId} {B M : Nat} {x : Value} {L : List Nat} {v : Value} {W W' : World}
theorem TbI.nil (te tr : TypeId) (B M : Nat) (x : Value) (W : World) (h : B ≤ W.heap.size) : TbI te tr B M x [] (.slice none 0 0) W := ⟨World.ownsRow_nil _ _ _ _, (fun b hb => by cases hb), List.nodup_nil, h⟩
theorem TbI.keep (h : TbI te tr B M x L v W) (hb : Below W.heap.size W W') : TbI te tr B M x L v W' := by
  obtain ⟨h1, h2, h3, h4⟩ := h
  refine ⟨own_keep h1 hb, fun b hb' => ?_, h3, Nat.le_trans h4 hb.size⟩
  obtain ⟨k1, k2, k3, cs, k4, k5⟩ := h2 b hb'
  exact ⟨k1, Nat.lt_of_lt_of_le k2 hb.size, k3, cs, bx_keep k4 hb, k5⟩
/-- a row is added: it was laid in block g, filled -/
theorem TbI.add {g : Nat} {v' : Value} {cs : Array Value} (h : TbI te tr B M x L v W) (hg : W.heap[g]? = some (.cells cs te (0, 0))) (hc : cs.size = M) (hx : ∀ k, k < M → cs[k]? = some x) (hgB : B ≤ g) (hgv : v.ownBlock ≠ some g) (hgL : g ∉ L)
    (ho : W'.ownsRow B tr 1 v' (L.length + 1) ((L.map fun b => .slice (some ⟨b, 0, none⟩) M M) ++ [.slice (some ⟨g, 0, none⟩) M M])) (hgr : W.grownBy W' v.ownBlock) (hat : v'.ownBlock = v.ownBlock ∨ ∃ k, v'.ownBlock = some k ∧ W.heap.size ≤ k) : TbI te tr B M x (L ++ [g]) v' W' := by
  obtain ⟨h1, h2, h3, h4⟩ := h
  have hv' : ∀ b, b < W.heap.size → v.ownBlock ≠ some b → v'.ownBlock ≠ some b := by
    intro b hb hv
    rcases hat with e | ⟨j, e, hj⟩
    · rw [e]; exact hv
    · rw [e]; intro e; cases e; omega
  have hgl := (Array.getElem?_eq_some_iff.1 hg).1
  refine ⟨by rw [List.length_append, List.map_append]; exact ho, fun b hb => ?_, ?_, Nat.le_trans h4 hgr.size⟩
  · rcases List.mem_append.1 hb with hb | hb
    · obtain ⟨k1, k2, k3, cs', k4, k5⟩ := h2 b hb
      exact ⟨k1, Nat.lt_of_lt_of_le k2 hgr.size, hv' b k2 k3, cs', (hgr.block b k2 (fun e => k3 e.symm)).trans k4, k5⟩
    · rw [List.mem_singleton] at hb
      subst hb
      exact ⟨hgB, Nat.lt_of_lt_of_le hgl hgr.size, hv' b hgl hgv, cs, (hgr.block b hgl (fun e => hgv e.symm)).trans hg, hc, hx⟩
  · rw [List.nodup_append]
    exact ⟨h3, by simp, fun a ha b hb => by rw [List.mem_singleton] at hb; subst hb; exact fun e => hgL (e ▸ ha)⟩
theorem TbI.fin (h : TbI te tr B M x L v W) (h0 : 0 < L.length) : ∃ bt cap, v = .slice (some ⟨bt, 0, none⟩) L.length cap ∧ ∃ rb, Tb te B W.heap.size bt L.length M rb (fun _ _ => x) W := by
  obtain ⟨h1, h2, h3, h4⟩ := h
  obtain ⟨g, cap, rfl, hg1, hg2⟩ := h1.form h0
  refine ⟨g, cap, rfl, fun a => L.getD a 0, ?_⟩
  have hget : ∀ a, a < L.length → L.getD a 0 ∈ L ∧ L[a]? = some (L.getD a 0) := fun a ha => by
    rw [List.getD_eq_getElem?_getD, List.getElem?_eq_getElem ha]
    exact ⟨List.getElem_mem ha, rfl⟩
  refine ⟨?_, fun a ha => ?_, fun a b ha hb e => ?_, fun a ha => ?_, hg1, hg2⟩
  · rcases h1.2 with ⟨h', _⟩ | ⟨g', cap', cur, h', _, hh, _, _, _, htake⟩
    · cases h'
    · cases h'
      refine ⟨cur, tr, hh, fun a ha => ?_⟩
      have e : (L.map fun b => Value.slice (some ⟨b, 0, none⟩) M M)[a]? = some (.slice (some ⟨L.getD a 0, 0, none⟩) M M) := by
        rw [List.getElem?_map, (hget a ha).2]; rfl
      rw [← htake, List.getElem?_take, if_pos (by omega)] at e
      simpa using e
  · obtain ⟨_, _, _, cs, k4, k5, k6⟩ := h2 _ (hget a ha).1
    exact ⟨cs, k4, k5, k6⟩
  · exact (List.getElem?_inj ha h3).1 (by rw [(hget a ha).2, (hget b hb).2, e])
  · obtain ⟨k1, k2, k3, _⟩ := h2 _ (hget a ha).1
    exact ⟨fun e => k3 (by rw [e]; rfl), k1, k2⟩
end
end Cs
end Go.Proofs.Ytjpmebppdcclbaa
