/- hole.Next. hole.May, parllaw4.mays. -/
import Derived.Test.YtjpmebppdcclbaaJHoleTellsRow16
import Derived.Test.YtjpmebppdcclbaaJHoleTellsRow17
import Derived.Test.YtjpmebppdcclbaaJHoleTellsRow8
import Derived.Deep.DeepCutAuto
import Derived.Deep.CutBlock
namespace Go.Proofs.Ytjpmebppdcclbaa
open Go.RowKit
namespace Ho
open Rp Hl Al
open Ht hiding D
open Classical in
noncomputable def nxB (K : List Rule) (N tm : Nat) (hw : Sym → Bool) (l : List Sym) (S : Int) (okb : Bool) : List Bool := ((List.range tm).map fun t : Nat => decide (It (KW K hw) (lfB hw N l) S l.length (t : Int))) ++ [okb]
def NextM (bs : List Bool) (v : Value) (z : Int) (w' : World) : Prop := if (bs.any fun x => x) = true then Sl w' v (bls bs) ∧ z = 0 else v = .slice none 0 0 ∧ z = 10
def NextPost (bs : List Bool) (W : World) (e : Ending) (w' : World) : Prop :=
  ∃ (v : Value) (z : Int), e = .returned (.tuple #[v, .int .i64 z]) ∧ Below W.heap.size W w' ∧ NextM bs v z w'
theorem del_kw (K : List Rule) (hw : Sym → Bool) : (K.filter fun r => !(!(r.right.all (hwS hw)))) = KW K hw := by
  unfold KW
  congr 1
  funext r
  simp
theorem kw_sub {K : List Rule} {hw : Sym → Bool} : ∀ r ∈ KW K hw, r ∈ K := fun r hr => (mem_KW.1 hr).1
def bT (K : List Rule) (c : List Itm) (i t : Nat) : Bool := (c.take i).any fun x => decide (nxt K x = some ⟨true, (t : Int)⟩)
theorem bT_succ {K : List Rule} {c : List Itm} {i t : Nat} (hi : i < c.length) : bT K c (i + 1) t = (bT K c i t || decide (nxt K c[i] = some ⟨true, (t : Int)⟩)) := by
  unfold bT
  rw [List.take_succ_eq_append_getElem hi, List.any_append]
  simp
theorem bT_all {K : List Rule} {c : List Itm} {i t : Nat} (hi : c.length ≤ i) : bT K c i t = true ↔ ∃ x ∈ c, nxt K x = some ⟨true, (t : Int)⟩ := by
  unfold bT
  rw [List.take_of_length_le hi, List.any_eq_true]
  simp
theorem vrow_sb {p n : Nat} {X : Nat → Bool} {w : World} {L : List Bool} (hN : n ≤ 100) (h : Vrow 4 p n (fun A => .bool (X A)) w) (hl : L.length = n) (he : ∀ k (h : k < L.length), L[k] = X k) : Sl w (.slice (some ⟨p, 0, none⟩) n n) (bls L) := by
  refine ⟨some ⟨p, 0, none⟩, n, by rw [bls_len, hl], by rw [bls_len, hl]; exact Nat.le_refl _, by unfold maxLen; omega, (fun e => by cases e), fun i hi => ?_⟩
  rw [bls_len] at hi
  refine ⟨_, rfl, ?_⟩
  rw [Addr.add_lit, Nat.zero_add, h.cell (by omega), bls_get, he i hi]
theorem wordField (n : Int) (u : Value) (b : Bool) (W : World) : (Instr.field 91 (.agg #[.int .i64 n, u, .bool b]) 2).run Try.prog W = .ok (.bool b) W := by kernel_rfl
section
variable (g : Gram) (l : List Sym) (ga : Option Addr) (gc : Nat) (la : Option Addr) (lk : Nat) (W : World) (hgr : Rd AnyB W (.sl (g.rules.map Rule.d)) [.slice ga g.rules.length gc]) (hrl : Rd AnyB W (.sl (l.map Sym.d)) [.slice la l.length lk])
include hgr hrl
set_option maxHeartbeats 4000000 in
set_option maxRecDepth 100000 in
theorem nextBad (hp : patF g l ≠ 0) :
    Calls Try.prog 22 #[.agg #[.int .i64 g.terms, .int .i64 g.nons, .int .i64 g.start, .slice ga g.rules.length gc], .slice la l.length lk] W fun e w' => e = .returned (.tuple #[.slice none 0 0, .int .i64 (patF g l)]) ∧ Below W.heap.size W w' := by
  obtain ⟨w0, HW0⟩ := nameIt (W.alloc (.cells #[.int .i64 g.terms, .int .i64 g.nons, .int .i64 g.start, .slice ga g.rules.length gc] 24))
  have hb0 : Below W.heap.size W w0 := by rw [← HW0.out]; exact (Below.refl _ _).alloc (Nat.le_refl _) _
  have X0 : w0.heap[W.heap.size]? = some (.cells #[.int .i64 g.terms, .int .i64 g.nons, .int .i64 g.start, .slice ga g.rules.length gc] 24 (0, 0)) := by rw [← HW0.out]; exact bx_new _ _ _ rfl
  have HCK := Lib.hid (checkPE g l ga gc la lk w0 (hgr.below hb0) (hrl.below hb0))
  obtain ⟨x0, x1, x2, x3⟩ := bx_cells4 X0
  have HB0 := Lib.hid hb0
  obtain ⟨gt, HGT⟩ := nameIt g.terms
  obtain ⟨gn, HGN⟩ := nameIt g.nons
  obtain ⟨gs, HGS⟩ := nameIt g.start
  obtain ⟨kn, HKN⟩ := nameIt g.rules.length
  obtain ⟨n, HN⟩ := nameIt l.length
  obtain ⟨z, HZ⟩ := nameIt (patF g l)
  rw [HGT.out, HGN.out, HGS.out, HKN.out, HN.out, HZ.out] at HCK
  rw [HGT.out, HGN.out, HGS.out, HKN.out] at HW0
  rw [HGT.out] at x0
  rw [HGN.out] at x1
  rw [HGS.out] at x2
  rw [HKN.out] at x3
  rw [HZ.out] at hp
  rw [HGT.out, HGN.out, HGS.out, HKN.out, HN.out, HZ.out]
  have b1 : (z != 0) = true := by simpa using hp
  clear hb0 X0 hgr hrl
  go_enter Try.func22, Try.ntmps22
  go_upto_region 1 with fail
  rw [HW0.out]
  go_wp2_with fail
  refine HCK.out.mono ?_
  clear x0 x1 x2 x3
  rintro e w1 ⟨rfl, hb1⟩
  have HF : Hid (Below W.heap.size W w1) := HB0.out.trans (hb1.mono HB0.out.size)
  clear hb1
  go_wp2_with fail
  exact bodyPost_ret (results_tmp2 Try.results22 _ _ _) rfl ⟨rfl, HF.out⟩
set_option maxHeartbeats 4000000 in
set_option maxRecDepth 100000 in
theorem nextFull (hp : patF g l = 0) (hl : l.length = 12) :
    Calls Try.prog 22 #[.agg #[.int .i64 g.terms, .int .i64 g.nons, .int .i64 g.start, .slice ga g.rules.length gc], .slice la l.length lk] W fun e w' => e = .returned (.tuple #[.slice none 0 0, .int .i64 2]) ∧ Below W.heap.size W w' := by
  obtain ⟨w0, HW0⟩ := nameIt (W.alloc (.cells #[.int .i64 g.terms, .int .i64 g.nons, .int .i64 g.start, .slice ga g.rules.length gc] 24))
  have hb0 : Below W.heap.size W w0 := by rw [← HW0.out]; exact (Below.refl _ _).alloc (Nat.le_refl _) _
  have X0 : w0.heap[W.heap.size]? = some (.cells #[.int .i64 g.terms, .int .i64 g.nons, .int .i64 g.start, .slice ga g.rules.length gc] 24 (0, 0)) := by rw [← HW0.out]; exact bx_new _ _ _ rfl
  have hck := checkPE g l ga gc la lk w0 (hgr.below hb0) (hrl.below hb0)
  rw [hp] at hck
  have HCK := Lib.hid hck
  obtain ⟨x0, x1, x2, x3⟩ := bx_cells4 X0
  have HB0 := Lib.hid hb0
  obtain ⟨gt, HGT⟩ := nameIt g.terms
  obtain ⟨gn, HGN⟩ := nameIt g.nons
  obtain ⟨gs, HGS⟩ := nameIt g.start
  obtain ⟨kn, HKN⟩ := nameIt g.rules.length
  rw [hl, HGT.out, HGN.out, HGS.out, HKN.out] at HCK
  rw [HGT.out, HGN.out, HGS.out, HKN.out] at HW0
  rw [HGT.out] at x0
  rw [HGN.out] at x1
  rw [HGS.out] at x2
  rw [HKN.out] at x3
  rw [hl, HGT.out, HGN.out, HGS.out, HKN.out]
  clear hb0 X0 hgr hrl hck
  go_enter Try.func22, Try.ntmps22
  go_upto_region 1 with fail
  rw [HW0.out]
  go_wp2_with fail
  refine HCK.out.mono ?_
  clear x0 x1 x2 x3
  rintro e w1 ⟨rfl, hb1⟩
  have HF : Hid (Below W.heap.size W w1) := HB0.out.trans (hb1.mono HB0.out.size)
  clear hb1
  go_wp2_with fail
  exact bodyPost_ret (results_tmp2 Try.results22 _ _ _) rfl ⟨rfl, HF.out⟩
set_option maxHeartbeats 16000000 in
set_option maxRecDepth 100000 in
theorem holeNextE (hp : patF g l = 0) (hll : l.length ≤ 11) {N tm st : Nat} (hok : Cs.OkC g N) (hN1 : N ≤ 10) (htm : g.terms = (tm : Int)) (htm8 : tm ≤ 8) (hst : g.start = (st : Int)) (hsN : st < N) (hK : KG N g.rules (Hl.okS N tm)) (hr4 : ∀ r ∈ g.rules, r.right.length ≤ 4) (hkl : g.rules.length ≤ 32) (hcl : ∀ c ∈ l, cellOk N tm c) {T : Tb} (hT : ShT g.rules N tm T) :
    Calls Try.prog 22 #[.agg #[.int .i64 g.terms, .int .i64 g.nons, .int .i64 g.start, .slice ga g.rules.length gc], .slice la l.length lk] W (NextPost (nxB g.rules N tm (hwOf g.rules N tm) l (st : Int) (cvOf (svOf g.rules N tm) l g.rules N tm ⟨false, (st : Int)⟩ 0 l.length).isSome) W) := by
  obtain ⟨hcg, hjs, hclo⟩ := hT
  have hck := (pat_zero hp).1
  obtain ⟨w0, HW0⟩ := nameIt (W.alloc (.cells #[.int .i64 g.terms, .int .i64 g.nons, .int .i64 g.start, .slice ga g.rules.length gc] 24))
  have hb0 : Below W.heap.size W w0 := by rw [← HW0.out]; exact (Below.refl _ _).alloc (Nat.le_refl _) _
  have X0 : Hid (w0.heap[W.heap.size]? = some (.cells #[.int .i64 g.terms, .int .i64 g.nons, .int .i64 g.start, .slice ga g.rules.length gc] 24 (0, 0))) := by rw [← HW0.out]; exact bx_new _ _ _ rfl
  have HB0 := Lib.hid hb0
  have hgr0 := hgr.below hb0
  have hrl0 := hrl.below hb0
  have hckc := checkPE g l ga gc la lk w0 hgr0 hrl0
  rw [hp] at hckc
  have HCK := Lib.hid hckc
  have hsv : svOf g.rules N tm = fun y => ofT leafS T y 0 0 := funext fun y => (sv_eqT hcg hclo y).symm
  have HLEN : ∀ W', Below w0.heap.size w0 W' → LenC g (.slice ga g.rules.length gc) (svOf g.rules N tm) N W' := by
    intro W' hb
    rw [hsv]
    exact lenE hck hok hK hr4 (of_vo (gokS N tm) hcg) (closed_of (gokS N tm) (cg_wf (gokS N tm) hcg) hclo) ga gc W' (hgr0.below hb)
  have HEN : Hid (∀ W', Below w0.heap.size w0 W' → Calls Try.prog 43 #[.agg #[.int .i64 g.terms, .int .i64 g.nons, .int .i64 g.start, .slice ga g.rules.length gc]] W' (EndsPost (hwOf g.rules N tm) N W')) :=
    fun W' hb => endsE g N hN1 (svOf g.rules N tm) (hwOf g.rules N tm) (fun _ => rfl) (.slice ga g.rules.length gc) W' (fun W2 h2 => HLEN W2 (hb.trans (h2.mono hb.size)))
  have HCP : Hid (∀ W', Below w0.heap.size w0 W' → Calls Try.prog 55 #[.agg #[.int .i64 g.terms, .int .i64 g.nons, .int .i64 g.start, .slice ga g.rules.length gc]] W' (CopyG g W')) :=
    fun W' hb => copyG g hr4 (by omega) ga gc W' (hgr0.below hb)
  have HFI : Hid (∀ W', Below w0.heap.size w0 W' → Calls Try.prog 50 #[.agg #[.int .i64 g.terms, .int .i64 g.nons, .int .i64 g.start, .slice ga g.rules.length gc], .slice la l.length lk] W' fun e w' => ∃ x, e = .returned x ∧ HR (fun k => W'.heap.size ≤ k) w' x (cvOf (svOf g.rules N tm) l g.rules N tm ⟨false, (st : Int)⟩ 0 l.length) ∧ Below W'.heap.size W' w') := by
    intro W' hb
    refine fillE g (svOf g.rules N tm) l (by omega) N hok.nons hok.n1 hok.n2 st hst hsN tm 1048576 (Nat.le_refl _) (svOk hN1 hcg hjs hclo) hK hr4 hcl ga gc la lk W' (hgr0.below hb) (hrl0.below hb) (fun W2 h2 => HLEN W2 (hb.trans (h2.mono hb.size))) (fun a v ha hv W2 h2 => ?_)
    rw [hsv] at hv
    exact lstE hck hok hK hr4 (of_vo (gokS N tm) hcg) (closed_of (gokS N tm) (cg_wf (gokS N tm) hcg) hclo) a v ha hv ga gc W2 ((hgr0.below hb).below h2)
  have hH := hw_ok hcg hclo
  have HKW : Hid (KW g.rules (hwOf g.rules N tm) = KW g.rules (hwOf g.rules N tm)) := rfl
  have hKW4 : ∀ r ∈ KW g.rules (hwOf g.rules N tm), r.right.length ≤ 4 := fun r hr => hr4 r (kw_sub r hr)
  have hKWl : (KW g.rules (hwOf g.rules N tm)).length ≤ 32 := Nat.le_trans (List.length_filter_le _ _) hkl
  have hKWs : ∀ r ∈ KW g.rules (hwOf g.rules N tm), ∀ s ∈ r.right, Hl.okS N tm s := fun r hr => (hK r (kw_sub r hr)).2.2
  have HCELL : Hid (∀ (j : Nat) (hj : j < l.length) (x : Itm) (s : Sym), nxt (KW g.rules (hwOf g.rules N tm)) x = some s → (lfB (hwOf g.rules N tm) N l s j ↔ fitB s l[j] = true)) := fun j hj x s h => kw_cell hj h
  have HNS : Hid (∀ (L : Nat → List Itm), NI (KW g.rules (hwOf g.rules N tm)) (lfB (hwOf g.rules N tm) N l) (st : Int) l.length L → ∀ t : Int, It (KW g.rules (hwOf g.rules N tm)) (lfB (hwOf g.rules N tm) N l) (st : Int) l.length t ↔ ∃ x ∈ L l.length, nxt (KW g.rules (hwOf g.rules N tm)) x = some ⟨true, t⟩) := fun L h t => next_set h
  have HDEL : Hid (∀ (B b : Nat) (ve v : Value) (w : World) (B2 : Nat) (S2 : Nat → Prop), EN B b ve (hwOf g.rules N tm) N w → (∀ k, v.ownBlock = some k → k ≠ b ∧ ve.ownBlock ≠ some k) → (∀ k, v.ownBlock = some k → S2 k) → RowD S2 B2 69 2 (g.rules.map Rule.d) v w →
      Calls Try.prog 56 #[v, .func (.func 57) #[] #[.pointer (some ⟨b, 0, none⟩)]] w fun e w' => ∃ a c, e = .returned (.slice a (KW g.rules (hwOf g.rules N tm)).length c) ∧ Rd S2 w' (.sl ((KW g.rules (hwOf g.rules N tm)).map Rule.d)) [.slice a (KW g.rules (hwOf g.rules N tm)).length c] ∧ Stp (OV v) (OV v) w w') := by
    intro B b ve v w B2 S2 h1 h2 h4 h3
    have := deleteE 57 #[.pointer (some ⟨b, 0, none⟩)] (fun r => !(r.right.all (hwS (hwOf g.rules N tm)))) g.rules v S2 B2 w eg57 (EN B b ve (hwOf g.rules N tm) N) (fun W W' h hb => h.keep hb) (fun W g' k u hg h => h.set (h2 g' hg).1 (h2 g' hg).2) (fun W x u hx h hr => next1E W h x (hK x hx).2.2 hN1 u hr) h1 h4 h3 (by omega)
    unfold DelPost at this
    rw [del_kw] at this
    exact this
  obtain ⟨PST, HP⟩ := nameIt (NextPost (nxB g.rules N tm (hwOf g.rules N tm) l (st : Int) (cvOf (svOf g.rules N tm) l g.rules N tm ⟨false, (st : Int)⟩ 0 l.length).isSome) W)
  obtain ⟨o, HO⟩ := nameIt (cvOf (svOf g.rules N tm) l g.rules N tm ⟨false, (st : Int)⟩ 0 l.length)
  rw [HO.out] at HFI HP
  obtain ⟨BS, HBS⟩ := nameIt (nxB g.rules N tm (hwOf g.rules N tm) l (st : Int) o.isSome)
  rw [HBS.out] at HP
  have HFIN : Hid (∀ v z w', Below w0.heap.size w0 w' → NextM BS v z w' → PST (.returned (.tuple #[v, .int .i64 z])) w') := by
    intro v z w' h1 h2
    rw [← HP.out]
    exact ⟨v, z, rfl, hb0.trans (h1.mono hb0.size), h2⟩
  rw [HO.out, HBS.out, HP.out]
  unfold nxB at HBS
  have hstok : 0 ≤ g.start := hok.s0
  have hgn := hok.nons
  obtain ⟨hw, HHW⟩ := nameIt (hwOf g.rules N tm)
  rw [HHW.out] at HEN HCELL HNS HDEL HBS hKW4 hKWl hKWs
  obtain ⟨K2, HK2⟩ := nameIt (KW g.rules hw)
  rw [HK2.out] at HBS hKW4 hKWl hKWs
  simp only [HK2.out] at HCELL HNS HDEL
  obtain ⟨k2, HK2L⟩ := nameIt K2.length
  simp only [HK2L.out] at HDEL
  rw [HK2L.out] at hKWl
  obtain ⟨n, HN⟩ := nameIt l.length
  rw [HN.out] at HCK HFI hll HBS
  simp only [HN.out] at HNS
  obtain ⟨kn, HKN⟩ := nameIt g.rules.length
  rw [htm, hgn, hst, HKN.out] at HW0 X0 HCK HEN HFI
  have HCP2 : Hid (∀ W', Below w0.heap.size w0 W' → Calls Try.prog 55 #[.agg #[.int .i64 (tm : Int), .int .i64 (N : Int), .int .i64 (st : Int), .slice ga kn gc]] W' fun e w' => ∃ a c, e = .returned (.agg #[.int .i64 (tm : Int), .int .i64 (N : Int), .int .i64 (st : Int), .slice a kn c]) ∧ RowD (fun k => W'.heap.size ≤ k) W'.heap.size 69 2 (g.rules.map Rule.d) (.slice a kn c) w' ∧ Below W'.heap.size W' w') := by
    intro W' hb
    have := HCP.out W' hb
    unfold CopyG at this
    rw [htm, hgn, hst, HKN.out] at this
    exact this
  rw [htm, hgn, hst, HKN.out, HN.out]
  have HK4 := Lib.hid hKW4
  have HKS := Lib.hid hKWs
  have HRL := Lib.hid hrl0
  have HTM := Lib.hid htm
  have HG0 : Hid (∀ w', Below w0.heap.size w0 w' → w'.cell? ⟨W.heap.size, 0, none⟩ = some (.int .i64 (tm : Int)) ∧ w'.cell? ⟨W.heap.size, 0 + 1, none⟩ = some (.int .i64 (N : Int)) ∧ w'.cell? ⟨W.heap.size, 0 + 2, none⟩ = some (.int .i64 (st : Int)) ∧ w'.cell? ⟨W.heap.size, 0 + 3, none⟩ = some (.slice ga kn gc)) := by
    intro w' hb'
    exact bx_cells4 (bx_keep X0.out hb')
  have n12 : ((n : Int) == 12) = false := by rw [beq_eq_false_iff_ne]; omega
  obtain ⟨x0, x1, x2, x3⟩ := HG0.out w0 (Below.refl _ _)
  clear hb0 hgr hrl hgr0 hrl0 hckc HLEN hcg hjs hclo hck hK hr4 hcl hp hkl hsv hKW4 hKWs HCP htm hst hgn hok HP hH hstok
  go_enter Try.func22, Try.ntmps22
  go_upto_region 1 with fail
  rw [HW0.out]
  clear HW0
  go_wp2_with fail
  refine HCK.out.mono ?_
  clear x0 x1 x2 x3
  rintro e w1 ⟨rfl, hb1⟩
  have HB1 := Lib.hid hb1
  clear hb1 HCK
  obtain ⟨x0, x1, x2, x3⟩ := HG0.out w1 HB1.out
  go_wp2_with fail
  refine (HEN.out w1 HB1.out).mono ?_
  clear x0 x1 x2 x3
  rintro e w2 ⟨ve, rfl, hoe, hb2⟩
  have HB2 : Hid (Below w0.heap.size w0 w2) := HB1.out.trans (hb2.mono HB1.out.size)
  obtain ⟨w3, HW3⟩ := nameIt (w2.alloc (.cells #[ve] 54))
  have hb3 : Below w2.heap.size w2 w3 := by rw [← HW3.out]; exact (Below.refl _ _).alloc (Nat.le_refl _) _
  have HEN3 : Hid (EN w1.heap.size w2.heap.size ve hw N w3) := ⟨by rw [← HW3.out]; exact bx_new _ _ _ rfl, own_keep hoe hb3⟩
  have HB3 : Hid (Below w0.heap.size w0 w3) := HB2.out.trans (hb3.mono HB2.out.size)
  have HVE : Hid (∀ k, ve.ownBlock = some k → k < w2.heap.size) := fun k e => (hoe.lt k e).2
  have HLT3 : Hid (w2.heap.size < w3.heap.size) := (Array.getElem?_eq_some_iff.1 HEN3.out.box).1
  obtain ⟨ae, ce, rfl, -, -⟩ := own_len hoe
  obtain ⟨eb, HEB⟩ := nameIt w2.heap.size
  rw [HEB.out] at HEN3 HVE HLT3
  clear hb2 hb3 hoe HEN
  go_upto_region 7 with fail
  rw [HW3.out, HEB.out]
  clear HW3
  obtain ⟨x0, x1, x2, x3⟩ := HG0.out w3 HB3.out
  go_wp2_with fail
  refine (HCP2.out w3 HB3.out).mono ?_
  clear x0 x1 x2 x3
  rintro e w4 ⟨ra, rc, rfl, hrow, hb4⟩
  -- the follower's box
  have HB4 : Hid (Below w0.heap.size w0 w4) := HB3.out.trans (hb4.mono HB3.out.size)
  obtain ⟨w6, HW6⟩ := nameIt ((w4.alloc (.cells #[.slice none 0 0] 102)).alloc (.cells #[.int .i64 (tm : Int), .int .i64 (N : Int), .int .i64 (st : Int), .slice ra kn rc, .slice (some ⟨w4.heap.size, 0, none⟩) 1 1] 99))
  have hb46 : Below w4.heap.size w4 w6 := by rw [← HW6.out]; exact ((Below.refl _ _).alloc (Nat.le_refl _) _).alloc (by simp) _
  have X6 : Hid (w6.heap[w4.heap.size + 1]? = some (.cells #[.int .i64 (tm : Int), .int .i64 (N : Int), .int .i64 (st : Int), .slice ra kn rc, .slice (some ⟨w4.heap.size, 0, none⟩) 1 1] 99 (0, 0))) := by rw [← HW6.out]; exact bx_new _ _ _ (by simp)
  have X56 : Hid (w6.heap[w4.heap.size]? = some (.cells #[.slice none 0 0] 102 (0, 0))) := by rw [← HW6.out]; exact bx_keep (bx_new _ _ _ rfl) ((Below.refl _ _).alloc (Nat.le_refl _) _)
  have HB6 : Hid (Below w0.heap.size w0 w6) := HB4.out.trans (hb46.mono HB4.out.size)
  have hrow2 : RowD (fun k => k < w4.heap.size) w3.heap.size 69 2 (g.rules.map Rule.d) (.slice ra kn rc) w4 := by
    obtain ⟨⟨xs, h1, h2⟩, h3⟩ := hrow
    exact ⟨⟨xs, h1, h2.mono (fun k hk hlt => ⟨hlt, hk.2⟩)⟩, h3⟩
  have HROW6 := Lib.hid (hrow2.keep hb46)
  have HEN6 := Lib.hid ((HEN3.out.keep hb4).keep hb46)
  have HRB : Hid (∀ k, (Value.slice ra kn rc).ownBlock = some k → w3.heap.size ≤ k ∧ k < w4.heap.size) := by
    intro k e
    obtain ⟨xs, h1, -⟩ := hrow.own
    exact h1.lt k e
  have HS46 := Lib.hid hb46.size
  have HS34 := Lib.hid hb4.size
  have HS6 : Hid (w4.heap.size + 1 < w6.heap.size) := (Array.getElem?_eq_some_iff.1 X6.out).1
  obtain ⟨B, HBN⟩ := nameIt w4.heap.size
  rw [HBN.out] at HW6 X6 X56 HRB HS46 HS34 HS6 HROW6
  clear hb4 hb46 hrow hrow2
-- S1
  go_upto_region 8 with fail
  rw [HBN.out]
  rw [HW6.out]
  clear HW6
  have c3 : w6.cell? ⟨B + 1, 0 + 3, none⟩ = some (.slice ra kn rc) := by simp [World.cell?, X6.out]
  have HDL := Lib.hid (HDEL.out w1.heap.size eb (.slice ae N ce) (.slice ra kn rc) w6 w3.heap.size (fun k => k < B) HEN6.out (fun k hk => by
    have h1 := HRB.out k hk
    have h2 := HLT3.out
    exact ⟨by omega, fun e => by have := HVE.out k e; omega⟩) (fun k hk => (HRB.out k hk).2) HROW6.out)
  clear HDEL
  go_wp2_with fail
  refine HDL.out.mono ?_
  rintro e w7 ⟨ra2, rc2, rfl, hrd7, hst7⟩
  have hnB : ¬ OV (.slice ra kn rc) B := fun e => by have := HRB.out B e; omega
  have hnB1 : ¬ OV (.slice ra kn rc) (B + 1) := fun e => by have := HRB.out (B + 1) e; omega
  obtain ⟨x7, -⟩ := hst7.box X6.out hnB1
  obtain ⟨y7, -⟩ := hst7.box X56.out hnB
  have HB7 : Hid (Below w0.heap.size w0 w7) := HB6.out.trans (hst7.bel (B := w0.heap.size) HB6.out.size (fun k e => by have := HRB.out k e; have := HB3.out.size; omega))
  obtain ⟨w8, HW8⟩ := nameIt (w7.setCell ⟨B + 1, 0 + 3, none⟩ (.slice ra2 k2 rc2))
  have c7 : (w7.cell? ⟨B + 1, 0 + 3, none⟩).isSome = true := by simp [World.cell?, x7]
  have f7 : w7.frozen? ⟨B + 1, 0 + 3, none⟩ = false := by simp [World.frozen?, x7]
  have x8 : w8.heap[B + 1]? = some (.cells #[.int .i64 (tm : Int), .int .i64 (N : Int), .int .i64 (st : Int), .slice ra2 k2 rc2, .slice (some ⟨B, 0, none⟩) 1 1] 99 (0, 0)) := by
    rw [← HW8.out, bx_set x7]; rfl
  have y8 : w8.heap[B]? = some (.cells #[.slice none 0 0] 102 (0, 0)) := by rw [← HW8.out]; exact bx_other y7 (by omega) _ _
  have hrd8 : Rd (fun k => k < B) w8 (.sl (K2.map Rule.d)) [.slice ra2 k2 rc2] := by
    rw [← HW8.out]
    exact Rd.keep (fun k hk hlt => ⟨hk, Below.heap_setCell _ ⟨B + 1, 0 + 3, none⟩ _ k (fun e => by have h1 : k = B + 1 := e; omega)⟩) _ _ hrd7
  have HB8 : Hid (Below w0.heap.size w0 w8) := by
    rw [← HW8.out]
    exact HB7.out.setCell (p := ⟨B + 1, 0 + 3, none⟩) (by show _ ≤ B + 1; have := HB3.out.size; have := HS34.out; omega) _
  have HBS8 : Hid (B < w8.heap.size ∧ w0.heap.size ≤ B) := ⟨by have := (Array.getElem?_eq_some_iff.1 y8).1; exact this, by have := HB3.out.size; have := HS34.out; omega⟩
  have HF8 : Hid (FM B (B + 1) (tm : Int) (N : Int) (st : Int) ra2 rc2 K2 (OwS (B + 1) B 1 (fun _ => .slice none 0 0)) 1 (fun _ => []) w8) := by
    refine ⟨B, 1, fun _ => .slice none 0 0, ⟨⟨⟨rfl, .inr ⟨B, 1, _, rfl, Nat.le_refl _, y8, Nat.le_refl _, by unfold maxLen; omega, rfl, rfl⟩⟩, fun k _ => World.ownsRow_nil _ _ _ _, fun k k' _ _ _ g' e => (by cases e), fun k _ e => by cases e⟩, ?_, ?_, by omega, ?_⟩, fun _ => Iff.rfl⟩
    · rw [HK2L.out]; exact x8
    · rintro (h | ⟨i, _, h⟩)
      · omega
      · cases h
    · rw [HK2L.out]; exact hrd8
  obtain ⟨fb, HFB⟩ := nameIt (B + 1)
  rw [HFB.out] at HF8 HW8 c7 f7
  have HFBG : Hid (B < fb) := by show _ < _; rw [← HFB.out]; omega
  obtain ⟨O8, HO8⟩ := nameIt (OwS fb B 1 (fun _ => .slice none 0 0))
  rw [HO8.out] at HF8
  obtain ⟨u7, c7'⟩ := Option.isSome_iff_exists.1 c7
  clear hrd7 hst7 hnB hnB1 x7 y7 x8 y8 hrd8 c3 c7 HRB HROW6 HEN6 HDL HEN3 HVE
  try rw [HFB.out]
  go_upto_region 9 with fail
  rw [HW8.out]
  clear HW8 c7' f7
  have HKF : Hid (∀ (O' : Nat → Prop) w', Stp O8 O' w8 w' → Below w0.heap.size w0 w') := by
    intro O' w' hs
    have hlt := HF8.out.lt
    exact HB8.out.trans (hs.bel HB8.out.size (fun k hk => by have := (hlt k hk).1; have := HBS8.out.2; omega))
  obtain ⟨x0, x1, x2, x3⟩ := HG0.out w8 HB8.out
  go_wp2_with fail
  refine (gramN (st : Int) w8).mono ?_
  rintro e w9 ⟨rfl, hb9⟩
  clear x0 x1 x2 x3
  have HF9 := Lib.hid (HF8.out.keep hb9)
  have HS9 : Hid (Stp O8 O8 w8 w9) := Stp.below hb9
  have HPR := Lib.hid (predictE w9 HF9.out 0 rfl (by omega) ⟨false, (st : Int)⟩ (by rw [HK2L.out]; omega) (by simp))
  clear hb9
  go_wp2_with fail
  refine HPR.out.mono ?_
  rintro e w10 ⟨rfl, O10, hf10, hs10⟩
  have HF10 := Lib.hid hf10
  have HS10 : Hid (Stp O8 O10 w8 w10) := HS9.out.trans hs10
  have HK100 : Hid (K2.length ≤ 100) := by show _ ≤ _; rw [HK2L.out]; omega
  have HCM := Lib.hid (completeF w10 HF10.out 0 rfl (by omega) HK100.out HK4.out (fun x => Sd K2 (lfB hw N l) (st : Int) 0 x ∧ x.f ≤ 0) start_qok (by rw [upL_at]; exact nodup_addF List.nodup_nil) (fun j hj => by omega) (fun j hj => by omega))
  clear hf10 hs10 HPR HF9 HS9
  go_wp2_with fail
  refine HCM.out.mono ?_
  rintro e w11 ⟨rfl, O11, c11, hf11, hs11, hc11, hcl11⟩
  rw [upL_up] at hf11
  simp only [upL_up] at hcl11
  have HF11 := Lib.hid hf11
  have HS11 : Hid (Stp O8 O11 w8 w11) := HS10.out.trans hs11
  have HN11 : Hid (NI K2 (lfB hw N l) (st : Int) 0 (upL (fun _ => []) 0 c11)) := ni_start hc11 hcl11
  clear hf11 hs11 hc11 hcl11 HCM HF10 HS10
  have hlr := HRL.out.form
  obtain ⟨lc, hlc1, hlc2⟩ : ∃ lc, lk = lc ∧ lc ≤ maxLen := ⟨lk, rfl, HRL.out.bounds.2.2⟩
  unfold maxLen at hlc2
  subst hlc1
  clear hlr
  go_wp2_with fail
  go_loopg [11, 56] n (fun gg v11 v56 wr => ∃ (j : Nat) (O' : Nat → Prop) (L : Nat → List Itm), j ≤ n ∧ n - j ≤ gg ∧ v56 = .int .i64 (j : Int) ∧ Hid (FM B fb (tm : Int) (N : Int) (st : Int) ra2 rc2 K2 O' (j + 1) L wr) ∧ Hid (Stp O8 O' w8 wr) ∧ Hid (NI K2 (lfB hw N l) (st : Int) j L))
  case atStart => exact ⟨0, O11, _, by omega, by omega, rfl, HF11, HS11, HN11⟩
  case round =>
    clear HF11 HS11 HN11 HF8
    obtain ⟨j, O', L, hj, hgg, rfl, HF, HS, HNI⟩ := hrel
    obtain ⟨wj, rfl⟩ : ∃ ww : World, ww = wr := ⟨_, rfl⟩
    have HB := Lib.hid (HKF.out O' wj HS.out)
    by_cases hjn : j < n
    · have hjn' : (j : Int) < (n : Int) := by omega
      have hjL : j < l.length := by rw [HN.out]; exact hjn
      obtain ⟨lb, lo, hae, -, hlb, s0, s1⟩ := (HRL.out.below HB.out).sym_at hjL
      have hcell := fun x s => HCELL.out j hjL x s
      obtain ⟨cell, HCL⟩ := nameIt (l[j]'hjL)
      rw [HCL.out] at s0 s1
      simp only [HCL.out] at hcell
      have HCE := Lib.hid hcell
      have HLN := HNI.out.len HK4.out HK100.out (by omega)
      have HSQ := step_qok HNI.out (fun x _ s hs => hcell x s hs)
      have HST := fun c => ni_step (c := c) HNI.out (fun x _ s hs => hcell x s hs)
      have HEM : Hid (L (j + 1) = []) := HNI.out.em _ (by omega)
      have HRU := HNI.out.rule
      have HSTH := Lib.hid HST
      obtain ⟨ct, HCT⟩ := nameIt cell.term
      obtain ⟨cn, HCN⟩ := nameIt cell.n
      rw [HCT.out] at s0
      rw [HCN.out] at s1
      obtain ⟨w12, HW12⟩ := nameIt (wj.alloc (.cells #[.bool ct, .int .i64 cn] 44))
      have hb12 : Below wj.heap.size wj w12 := by rw [← HW12.out]; exact (Below.refl _ _).alloc (Nat.le_refl _) _
      have X12 : Hid (w12.heap[wj.heap.size]? = some (.cells #[.bool ct, .int .i64 cn] 44 (0, 0))) := by rw [← HW12.out]; exact bx_new _ _ _ rfl
      have HF12 := Lib.hid (HF.out.keep hb12)
      have HS12 : Hid (Stp O8 O' w8 w12) := HS.out.trans (Stp.below hb12)
      have hsc := scanF w12 HF12.out j rfl (by omega) HEM.out cell HK100.out HK4.out HLN HRU _ HSQ
      rw [HCT.out, HCN.out] at hsc
      have HSC := Lib.hid hsc
      obtain ⟨q12, HQ12⟩ := nameIt wj.heap.size
      rw [HQ12.out] at X12
      subst hae
      clear hb12 hsc HSQ HLN HRU hcell HST
      go_upto_region 14 with fail
      rw [HW12.out, HQ12.out]
      clear HW12 s0 s1
      obtain ⟨y0, y1⟩ := bx_cells2 X12.out
      go_wp2_with fail
      refine HSC.out.mono ?_
      rintro e w13 ⟨rfl, O13, c13, hf13, hs13, hc13, hcl13⟩
      have HF13 := Lib.hid hf13
      have HS13 : Hid (Stp O8 O13 w8 w13) := HS12.out.trans hs13
      have HN13 := Lib.hid (HSTH.out c13 hc13 hcl13)
      clear hf13 hs13 hc13 hcl13 y0 y1 HSC
      go_wp2_with fail
      go_roundg (n - (j + 1))
      case measure => omega
      case rel => exact ⟨j + 1, O13, _, by omega, by omega, by go_num, HF13, HS13, HN13⟩
    · have hjn' : ¬ (j : Int) < (n : Int) := by omega
      obtain rfl : j = n := by omega
-- S4
      obtain ⟨t1, HT1⟩ := nameIt (tm + 1)
      have hw1 : IntKind.i64.wrap ((tm : Int) + 1) = (t1 : Int) := by rw [IntWalk.i64_in _ (by omega)]; have := HT1.out; omega
      have hmk : ∀ W : World, (Instr.makeSlice 54 (.int .i64 (t1 : Int)) (.int .i64 (t1 : Int))).run Try.prog W = .ok (.slice (some ⟨W.heap.size, 0, none⟩) t1 t1) (W.alloc (.cells (madeCells #[.bool false] t1) 4)) := fun W => by
        have := run_make_row' (P := Try.prog) 54 4 (.bool false) 1 Try.underlying54 (by kernel_rfl) rfl .i64 .i64 t1 (by have := HT1.out; omega) (by have := HT1.out; omega) W
        simpa using this
      obtain ⟨w14, HW14⟩ := nameIt (wj.alloc (.cells (madeCells #[.bool false] t1) 4))
      have hb14 : Below wj.heap.size wj w14 := by rw [← HW14.out]; exact (Below.refl _ _).alloc (Nat.le_refl _) _
      obtain ⟨sb, scap, ia, im, c4, c5, hir, hird⟩ := HF.out.lens (show j < j + 1 by omega)
      have him := hird.bounds.2
      unfold maxLen at him
      obtain ⟨him1, him2⟩ := him
      obtain ⟨LJ, HLJ⟩ := nameIt (L j)
      rw [HLJ.out] at c5 hir him1
      obtain ⟨ln, HLN⟩ := nameIt LJ.length
      rw [HLN.out] at c5 him1
      have HR14 : Hid (Vrow 4 wj.heap.size t1 (fun t => .bool (bT K2 LJ 0 t)) w14) := by
        rw [← HW14.out]
        exact (vrow_new wj 4 (.bool false) t1 rfl).eq (fun k _ => by simp [bT])
      have HIR := Lib.hid hir
      have HJR : Hid (∀ x ∈ LJ, x.r < K2.length) := by rw [← HLJ.out]; exact HNI.out.rule j (Nat.le_refl _)
      have HIT := HNS.out L HNI.out
      rw [HLJ.out] at HIT
      have HITH := Lib.hid HIT
      obtain ⟨x0, x1, x2, x3⟩ := HG0.out wj HB.out
      have hc4 : w14.cell? ⟨fb, 0 + 4, none⟩ = some (.slice (some ⟨sb, 0, none⟩) (j + 1) scap) := by rw [World.cell?_of_block (w := wj) (by exact hb14.block _ (lt_of_cell c4))]; exact c4
      have hc5 : w14.cell? ⟨sb, j, none⟩ = some (.slice ia ln im) := by rw [World.cell?_of_block (w := wj) (by exact hb14.block _ (lt_of_cell c5))]; exact c5
      have HB14 := Lib.hid hb14
      obtain ⟨p, HPN⟩ := nameIt wj.heap.size
      have HPE : Hid (w0.heap.size ≤ p ∧ p < w14.heap.size) := ⟨by rw [← HPN.out]; exact HB.out.size, by rw [← HPN.out, ← HW14.out]; simp⟩
      rw [HPN.out] at HR14 HB14
      clear hb14 hir hird c4 c5 HIT
      go_upto_region 17 with fail
      rw [HW14.out, HPN.out]
      clear HW14 x0 x1 x2 x3
      have hjj : (j : Int) < ((j + 1 : Nat) : Int) := by omega
      go_wp2_with fail
      go_loopg [14, 15, 16, 77] ln (fun gg v14 v15 v16 v77 wr => ∃ i : Nat, i ≤ ln ∧ ln - i ≤ gg ∧ v77 = .int .i64 (i : Int) ∧ Hid (Below p wj wr) ∧ Hid (Vrow 4 p t1 (fun t => .bool (bT K2 LJ i t)) wr))
      case atStart => exact ⟨0, by omega, by omega, rfl, HB14, HR14⟩
      case round =>
        clear hc4 hc5 HR14 HB14 hw1 hmk
        obtain ⟨i, hi, hg2, rfl, HBI, HRI⟩ := hrel
        obtain ⟨wi, rfl⟩ : ∃ ww : World, ww = wr := ⟨_, rfl⟩
        have HBI2 : Hid (Below wj.heap.size wj wi) := by rw [HPN.out]; exact HBI.out
        by_cases hil : i < ln
        · have hil' : (i : Int) < (ln : Int) := by omega
          have hiL : i < LJ.length := by rw [HLN.out]; exact hil
          obtain ⟨gi, hae, -, hgl, s0, s1, s2⟩ := HIR.out.below HBI2.out i hiL
          have hbs := fun t => bT_succ (K := K2) (t := t) hiL
          have hxr := HJR.out _ (List.getElem_mem hiL)
          obtain ⟨x, HX⟩ := nameIt (LJ[i]'hiL)
          rw [HX.out] at s0 s1 s2 hxr
          simp only [HX.out] at hbs
          have HBSU := Lib.hid hbs
          obtain ⟨xr, HXR⟩ := nameIt x.r
          obtain ⟨xd, HXD⟩ := nameIt x.d
          obtain ⟨xf, HXF⟩ := nameIt x.f
          obtain ⟨w15, HW15⟩ := nameIt (wi.alloc (.cells #[.int .i64 (xr : Int), .int .i64 (xd : Int), .int .i64 (xf : Int)] 104))
          have hb15 : Below wi.heap.size wi w15 := by rw [← HW15.out]; exact (Below.refl _ _).alloc (Nat.le_refl _) _
          have X15 : Hid (w15.heap[wi.heap.size]? = some (.cells #[.int .i64 (xr : Int), .int .i64 (xd : Int), .int .i64 (xf : Int)] 104 (0, 0))) := by rw [← HW15.out]; exact bx_new _ _ _ rfl
          have HB15 : Hid (Below wj.heap.size wj w15) := HBI2.out.trans (hb15.mono HBI2.out.size)
          have HR15 := Lib.hid (HRI.out.keep hb15)
          have hnx := nextE w15 (HF.out.keep HB15.out) x hxr
          have hnok : Hid ((nxt K2 x).isSome = true → (nxtV K2 x).term = true → ∃ t : Nat, (nxtV K2 x).n = (t : Int) ∧ t < tm ∧ nxt K2 x = some ⟨true, (t : Int)⟩) := by
            intro h1 h2
            obtain ⟨s, hs⟩ := Option.isSome_iff_exists.1 h1
            have e : nxtV K2 x = s := by unfold nxtV; rw [hs]; rfl
            rw [e] at h2 ⊢
            obtain ⟨r, q1, q2⟩ := nxt_some.1 hs
            obtain ⟨q3, q4, -⟩ := HKS.out r (List.mem_of_getElem? q1) s (List.mem_of_getElem? q2)
            have q5 := q4 h2
            refine ⟨s.n.toNat, by omega, by omega, ?_⟩
            rw [hs]
            obtain ⟨a, b⟩ := s
            simp only at h2 q3 ⊢
            rw [h2, show ((b.toNat : Nat) : Int) = b by omega]
          have hnno : Hid (((nxt K2 x).isSome && (nxtV K2 x).term) = false → ∀ t : Nat, bT K2 LJ (i + 1) t = bT K2 LJ i t) := by
            intro h1 t
            rw [HBSU.out t]
            have : decide (nxt K2 x = some ⟨true, (t : Int)⟩) = false := by
              rw [decide_eq_false_iff_not]
              intro e
              unfold nxtV at h1
              rw [e] at h1
              cases h1
            rw [this, Bool.or_false]
          obtain ⟨okb, HOKB⟩ := nameIt (nxt K2 x).isSome
          obtain ⟨ns, HNSN⟩ := nameIt (nxtV K2 x)
          obtain ⟨nt, HNT⟩ := nameIt ns.term
          obtain ⟨nn, HNNN⟩ := nameIt ns.n
          rw [HOKB.out, HNSN.out, HNT.out, HNNN.out, HXR.out, HXD.out, HXF.out] at hnx
          rw [HOKB.out, HNSN.out, HNT.out, HNNN.out] at hnok
          rw [HOKB.out, HNSN.out, HNT.out] at hnno
          rw [HXR.out] at s0
          rw [HXD.out] at s1
          rw [HXF.out] at s2
          have HNX := Lib.hid hnx
          obtain ⟨q15, HQ15⟩ := nameIt wi.heap.size
          rw [HQ15.out] at X15
          subst hae
          clear hb15 hnx hbs hxr
          go_upto_region 20 with fail
          rw [HW15.out, HQ15.out]
          clear HW15 s0 s1 s2
          obtain ⟨y0, y1, y2⟩ := bx_cells3 X15.out
          go_wp2_with fail
          refine HNX.out.mono ?_
          rintro e w16 ⟨rfl, hb16⟩
          have HB16 : Hid (Below wj.heap.size wj w16) := HB15.out.trans (hb16.mono HB15.out.size)
          have HR16 := Lib.hid (HR15.out.keep hb16)
          obtain ⟨w17, HW17⟩ := nameIt (w16.alloc (.cells #[.bool nt, .int .i64 nn] 44))
          have hb17 : Below w16.heap.size w16 w17 := by rw [← HW17.out]; exact (Below.refl _ _).alloc (Nat.le_refl _) _
          have X17 : Hid (w17.heap[w16.heap.size]? = some (.cells #[.bool nt, .int .i64 nn] 44 (0, 0))) := by rw [← HW17.out]; exact bx_new _ _ _ rfl
          have HB17 : Hid (Below wj.heap.size wj w17) := HB16.out.trans (hb17.mono HB16.out.size)
          have HR17 := Lib.hid (HR16.out.keep hb17)
          obtain ⟨q17, HQ17⟩ := nameIt w16.heap.size
          rw [HQ17.out] at X17
          clear hb16 hb17 y0 y1 y2 HNX
          go_upto_region 21 with fail
          rw [HW17.out, HQ17.out]
          clear HW17
          obtain ⟨y0, y1⟩ := bx_cells2 X17.out
          have HB18 : Hid (Below p wj w17) := by rw [← HPN.out]; exact HB17.out
          by_cases hb : (okb && nt) = true
          · rw [Bool.and_eq_true] at hb
            obtain ⟨hb1, hb2⟩ := hb
            subst hb1 hb2
            obtain ⟨t, rfl, ht1, ht2⟩ := hnok.out rfl rfl
            have htt : t < t1 := by have := HT1.out; omega
            have htt' : (t : Int) < (t1 : Int) := by omega
            have hcell := HR17.out.cell htt
            have hfree := HR17.out.free t
            have HR18 : Hid (Vrow 4 p t1 (fun t => .bool (bT K2 LJ (i + 1) t)) (w17.setCell ⟨p, t, none⟩ (.bool true))) := by
              refine HR17.out.set htt (fun k hk => ?_)
              rw [HBSU.out k]
              by_cases e : k = t
              · subst e
                rw [if_pos rfl, decide_eq_true ht2, Bool.or_true]
              · rw [if_neg e]
                have : decide (nxt K2 x = some ⟨true, (k : Int)⟩) = false := by
                  rw [decide_eq_false_iff_not, ht2]
                  intro e2
                  simp at e2
                  omega
                rw [this, Bool.or_false]
            have HB19 : Hid (Below p wj (w17.setCell ⟨p, t, none⟩ (.bool true))) := HB18.out.setCell (p := ⟨p, t, none⟩) (Nat.le_refl _) _
            clear hnok hnno
            go_wp2_with fail
            go_roundg (ln - (i + 1))
            case measure => omega
            case rel => exact ⟨i + 1, by omega, by omega, by go_num, HB19, HR18⟩
          · have hb' : (okb && nt) = false := by simpa using hb
            have HEQ := hnno.out hb'
            have HR18 : Hid (Vrow 4 p t1 (fun t => .bool (bT K2 LJ (i + 1) t)) w17) := HR17.out.eq (fun k hk => by rw [HEQ k])
            clear hnok hnno HEQ hb
            cases okb with
            | false =>
              go_wp2_with fail
              go_roundg (ln - (i + 1))
              case measure => omega
              case rel => exact ⟨i + 1, by omega, by omega, by go_num, HB18, HR18⟩
            | true =>
              cases nt with
              | true => cases hb'
              | false =>
                go_wp2_with fail
                go_roundg (ln - (i + 1))
                case measure => omega
                case rel => exact ⟨i + 1, by omega, by omega, by go_num, HB18, HR18⟩
        · have hil' : ¬ (i : Int) < (ln : Int) := by omega
          obtain rfl : i = ln := by omega
-- S5
          have HFC := HFI.out
          have HBX : Hid (Below w0.heap.size w0 wi) := HB.out.trans (HBI2.out.mono HB.out.size)
          have HSX : Hid (∀ w', Below wi.heap.size wi w' → (fun w' : World => w'.cell? ⟨W.heap.size, 0, none⟩ = some (.int .i64 (tm : Int)) ∧ w'.cell? ⟨W.heap.size, 0 + 1, none⟩ = some (.int .i64 (N : Int)) ∧ w'.cell? ⟨W.heap.size, 0 + 2, none⟩ = some (.int .i64 (st : Int)) ∧ w'.cell? ⟨W.heap.size, 0 + 3, none⟩ = some (.slice ga kn gc)) w') := fun w' hb => HG0.out w' (HBX.out.trans (hb.mono HBX.out.size))
          obtain ⟨ob, HOB⟩ := nameIt o.isSome
          obtain ⟨on, HON⟩ := nameIt (oN o)
          have htt : tm < t1 := by have := HT1.out; omega
          have htt' : (tm : Int) < (t1 : Int) := by omega
          have HFC2 : Hid (∀ W', Below wi.heap.size wi W' → Calls Try.prog 50 #[.agg #[.int .i64 (tm : Int), .int .i64 (N : Int), .int .i64 (st : Int), .slice ga kn gc], .slice la j lk] W' fun e w' => ∃ u, e = .returned (.agg #[.int .i64 (on : Int), u, .bool ob]) ∧ Below W'.heap.size W' w') := by
            intro W' hb
            refine (HFC W' (HBX.out.trans (hb.mono HBX.out.size))).mono ?_
            rintro e w' ⟨x, rfl, ⟨u, hu, -⟩, hb2⟩
            rw [HOB.out, HON.out] at hu
            exact ⟨u, by rw [hu], hb2⟩
          clear HFC
          go_upto_region 24 with fail
          refine wp_region_U (S := (fun w' : World => w'.cell? ⟨W.heap.size, 0, none⟩ = some (.int .i64 (tm : Int)) ∧ w'.cell? ⟨W.heap.size, 0 + 1, none⟩ = some (.int .i64 (N : Int)) ∧ w'.cell? ⟨W.heap.size, 0 + 2, none⟩ = some (.int .i64 (st : Int)) ∧ w'.cell? ⟨W.heap.size, 0 + 3, none⟩ = some (.slice ga kn gc))) 7 (by kernel_rfl) (fun inv => ?_)
          refine wpU_take (i := 0) (v := .slice (some ⟨p, 0, none⟩) t1 t1) rfl inv (by kernel_rfl) (by kernel_rfl) (by decide) (by decide) (by kernel_rfl) (by kernel_rfl) (by kernel_rfl) (fun _ _ _ h => h) (Or.inl ⟨by rfl, fun w' hw' => ?_⟩) (HSX.out _ (Below.refl _ _).drew) (fun inv => ?_)
          · obtain ⟨h0, h1, h2, h3⟩ := hw'
            go_simp
          try simp only [Act.put, List.setIfInBounds_toArray, List.set_cons_zero, List.set_cons_succ]
          refine wpU_take (i := 1) (v := .pointer (some ⟨W.heap.size, 0, none⟩)) rfl inv (by kernel_rfl) (by kernel_rfl) (by decide) (by decide) (by kernel_rfl) (by kernel_rfl) (by kernel_rfl) (fun _ _ _ h => h) (Or.inl ⟨by rfl, fun w' hw' => ?_⟩) (HSX.out _ (Below.refl _ _).drew) (fun inv => ?_)
          · obtain ⟨h0, h1, h2, h3⟩ := hw'
            go_simp
          try simp only [Act.put, List.setIfInBounds_toArray, List.set_cons_zero, List.set_cons_succ]
          refine wpU_take (i := 2) (v := .int .i64 (tm : Int)) rfl inv (by kernel_rfl) (by kernel_rfl) (by decide) (by decide) (by kernel_rfl) (by kernel_rfl) (by kernel_rfl) (fun _ _ _ h => h) (Or.inl ⟨by rfl, fun w' hw' => ?_⟩) (HSX.out _ (Below.refl _ _).drew) (fun inv => ?_)
          · obtain ⟨h0, h1, h2, h3⟩ := hw'
            go_simp
          try simp only [Act.put, List.setIfInBounds_toArray, List.set_cons_zero, List.set_cons_succ]
          refine wpU_take (i := 3) (v := .agg #[.int .i64 (tm : Int), .int .i64 (N : Int), .int .i64 (st : Int), .slice ga kn gc]) rfl inv (by kernel_rfl) (by kernel_rfl) (by decide) (by decide) (by kernel_rfl) (by kernel_rfl) (by kernel_rfl) (fun _ _ _ h => h) (Or.inl ⟨by rfl, fun w' hw' => ?_⟩) (HSX.out _ (Below.refl _ _).drew) (fun inv => ?_)
          · obtain ⟨h0, h1, h2, h3⟩ := hw'
            go_simp
          try simp only [Act.put, List.setIfInBounds_toArray, List.set_cons_zero, List.set_cons_succ]
          refine wpU_take (i := 4) (v := .slice la j lk) rfl inv (by kernel_rfl) (by kernel_rfl) (by decide) (by decide) (by kernel_rfl) (by kernel_rfl) (by kernel_rfl) (fun _ _ _ h => h) (Or.inl ⟨by rfl, fun w' hw' => ?_⟩) (HSX.out _ (Below.refl _ _).drew) (fun inv => ?_)
          · obtain ⟨h0, h1, h2, h3⟩ := hw'
            go_simp
          try simp only [Act.put, List.setIfInBounds_toArray, List.set_cons_zero, List.set_cons_succ]
          refine wpU_one (i := 5) (by kernel_rfl) rfl (fun K hK => ?_)
          replace inv := inv_setc (i := 5) inv (by kernel_rfl) (by decide)
          go_simp
          refine (HFC2.out _ (Below.refl _ _).drew).mono ?_
          rintro e w18 ⟨u18, rfl, hb18⟩
          have HBW : Hid (Below wi.heap.size wi w18) := (Below.refl _ _).drew.trans hb18
          clear hb18
          refine hK.out _ _ (fun _ => HSX.out _ HBW.out) ?_
          clear hK K
          try simp only [Act.put, List.setIfInBounds_toArray, List.set_cons_zero, List.set_cons_succ]
          refine wpU_one (i := 6) (by kernel_rfl) rfl (fun K hK => ?_)
          replace inv := inv_setc (i := 6) inv (by kernel_rfl) (by decide)
          have hwf := wordField (on : Int) u18 ob w18
          go_simp
          refine hK.out _ _ (fun _ => HSX.out _ HBW.out) ?_
          clear hK K
          try simp only [Act.put, List.setIfInBounds_toArray, List.set_cons_zero, List.set_cons_succ]
          have HR18 := Lib.hid (HRI.out.keep HBW.out)
          have hcell := HR18.out.cell htt
          have hfree := HR18.out.free tm
          refine wpU_one (i := 7) (by kernel_rfl) rfl (fun K hK => ?_)
          go_simp
          refine hK.out _ _ (fun h => absurd (show true = false from h) (by decide)) ?_
          clear hK K
          try simp only [Act.put, List.setIfInBounds_toArray, List.set_cons_zero, List.set_cons_succ]
          refine wpU_one (i := 8) (by kernel_rfl) rfl (fun K hK => ?_)
          go_simp
          refine hK.out _ _ (fun h => absurd (show true = false from h) (by decide)) ?_
          clear hK K
          try simp only [Act.put, List.setIfInBounds_toArray, List.set_cons_zero, List.set_cons_succ]
          refine wpU_done (by kernel_rfl) ?_ _
          have hrow := HR18.out.set (A' := fun t => .bool (if t = tm then ob else bT K2 LJ i t)) (x := .bool ob) htt (fun k _ => by
            by_cases e : k = tm
            · rw [if_pos e, if_pos e]
            · rw [if_neg e, if_neg e])
          have HSL : Hid (Sl (w18.setCell ⟨p, tm, none⟩ (.bool ob)) (.slice (some ⟨p, 0, none⟩) t1 t1) (bls BS)) := by
            refine vrow_sb (by have := HT1.out; omega) hrow (by rw [← HBS.out, List.length_append, List.length_map, List.length_range, List.length_singleton]; exact HT1.out) (fun k hk => ?_)
            simp only [← HBS.out]
            classical
            by_cases e : k = tm
            · subst e
              rw [if_pos rfl, List.getElem_append_right (by simp)]
              simp
              exact HOB.out
            · have hk2 : k < tm := by
                rw [← HBS.out, List.length_append, List.length_map, List.length_range, List.length_singleton] at hk
                omega
              rw [if_neg e, List.getElem_append_left (by simpa using hk2), List.getElem_map, List.getElem_range, Bool.eq_iff_iff, decide_eq_true_eq, HITH.out, bT_all (by rw [HLN.out]; exact Nat.le_refl _)]
          have HBZ : Hid (Below w0.heap.size w0 (w18.setCell ⟨p, tm, none⟩ (.bool ob))) := (HBX.out.trans (HBW.out.mono HBX.out.size)).setCell (p := ⟨p, tm, none⟩) HPE.out.1 _
          obtain ⟨w19, HW19⟩ := nameIt (w18.setCell ⟨p, tm, none⟩ (.bool ob))
          rw [HW19.out] at HSL HBZ
          have HCT := Lib.hid (containsB BS _ w19 HSL.out)
          have HNM : Hid (∀ v z w', NextM BS v z w' = if (BS.any fun x => x) = true then Sl w' v (bls BS) ∧ z = 0 else v = .slice none 0 0 ∧ z = 10) := fun _ _ _ => rfl
          obtain ⟨ba, HBA⟩ := nameIt (BS.any fun x => x)
          rw [HBA.out] at HCT
          simp only [HBA.out] at HNM
          clear hrow hcell hfree
          go_upto_region 25 with fail
          first | rw [HW19.out] | skip
          clear HW19
          go_wp2_with fail
          refine HCT.out.mono ?_
          rintro e w20 ⟨rfl, hb20⟩
          have HBE : Hid (Below w0.heap.size w0 w20) := HBZ.out.trans (hb20.mono HBZ.out.size)
          cases ba with
          | true =>
            have HE := Lib.hid (HFIN.out (.slice (some ⟨p, 0, none⟩) t1 t1) 0 w20 HBE.out (by rw [HNM.out, if_pos rfl]; exact ⟨HSL.out.keep hb20, rfl⟩))
            clear hb20
            go_wp2_with fail
            first | exact HE.out | exact bodyPost_ret (results_tmp2 Try.results22 _ _ _) rfl HE.out
          | false =>
            have HE := Lib.hid (HFIN.out (.slice none 0 0) 10 w20 HBE.out (by rw [HNM.out, if_neg (by decide)]; exact ⟨rfl, rfl⟩))
            clear hb20
            go_wp2_with fail
            first | exact HE.out | exact bodyPost_ret (results_tmp2 Try.results22 _ _ _) rfl HE.out
end
end Ho
end Go.Proofs.Ytjpmebppdcclbaa
namespace Go.Proofs.Ytjpmebppdcclbaa
open Go.RowKit
namespace Ho
open Rp Hl Al
open Ht hiding D
def symC : List Sym → List Value
  | [] => []
  | s :: l => .bool s.term :: .int .i64 s.n :: symC l
theorem symC_rd {S : Nat → Prop} {w : World} : ∀ {l : List Sym} {xs : List Value}, RdAll S w (l.map Sym.d) xs → xs = symC l
  | [], xs, h => by simpa [RdAll, symC] using h
  | s :: l, xs, h => by
    obtain ⟨c1, c2, rfl, h1, h2⟩ := h
    obtain rfl := h1.sym
    rw [symC_rd h2]; rfl
theorem rd_symC (S : Nat → Prop) (w : World) : ∀ l : List Sym, RdAll S w (l.map Sym.d) (symC l)
  | [] => by simp [RdAll, symC]
  | s :: l => ⟨[.bool s.term, .int .i64 s.n], symC l, rfl, rd_sym s, rd_symC S w l⟩
theorem symC_len : ∀ l : List Sym, (symC l).length = l.length * 2
  | [] => rfl
  | s :: l => by simp [symC, symC_len l]; omega
theorem symC_set : ∀ (l : List Sym) (i : Nat) (s : Sym), ((symC l).set (i * 2) (.bool s.term)).set (i * 2 + 1) (.int .i64 s.n) = symC (l.set i s)
  | [], i, s => by simp [symC]
  | x :: l, 0, s => by simp [symC]
  | x :: l, i + 1, s => by
    have := symC_set l i s
    have e : (i + 1) * 2 = i * 2 + 1 + 1 := by omega
    rw [e]
    simp only [symC, List.set_cons_succ]
    rw [this]
theorem symC_set2 : ∀ (l : List Sym) (i : Nat) (h : i < l.length) (n : Int), (symC l).set (i * 2 + 1) (.int .i64 n) = symC (l.set i ⟨l[i].term, n⟩)
  | x :: l, 0, _, n => by simp [symC]
  | x :: l, i + 1, h, n => by
    have := symC_set2 l i (by simpa using h) n
    have e : (i + 1) * 2 + 1 = i * 2 + 1 + 1 + 1 := by omega
    rw [e]
    simp only [symC, List.set_cons_succ, List.getElem_cons_succ]
    rw [this]
def SR (B g c : Nat) (l : List Sym) (w : World) : Prop := w.ownsRow B 44 2 (.slice (some ⟨g, 0, none⟩) l.length c) l.length (symC l)
section
variable {B g c : Nat} {l : List Sym} {w w' : World}
theorem SR.keep (h : SR B g c l w) (hb : Below w.heap.size w w') : SR B g c l w' := own_keep h hb
theorem SR.lt (h : SR B g c l w) : B ≤ g ∧ g < w.heap.size := World.ownsRow.lt h g rfl
theorem SR.rd (h : SR B g c l w) : Rd AnyB w (.sl (l.map Sym.d)) [.slice (some ⟨g, 0, none⟩) l.length c] := by
  have := rd_of_own (S := AnyB) h (rd_symC _ _ l) (by simp) (fun _ _ => trivial)
  exact this
theorem SR.old (h : SR B g c l w) {i : Nat} (hi : i < l.length) : (∃ u, w.cell? ⟨g, i * 2, none⟩ = some u) ∧ (∃ u, w.cell? ⟨g, i * 2 + 1, none⟩ = some u) ∧ w.frozen? ⟨g, i * 2, none⟩ = false ∧ w.frozen? ⟨g, i * 2 + 1, none⟩ = false := by
  have hl := symC_len l
  have e0 := World.ownsRow.cellAt h (i * 2) (by omega)
  have e1 := World.ownsRow.cellAt h (i * 2 + 1) (by omega)
  rw [List.getElem?_eq_getElem (by omega)] at e0
  rw [List.getElem?_eq_getElem (by omega)] at e1
  exact ⟨⟨_, e0⟩, ⟨_, e1⟩, World.ownsRow.frozenAt h _, World.ownsRow.frozenAt h _⟩
theorem SR.set (h : SR B g c l w) (i : Nat) (s : Sym) : SR B g c (l.set i s) ((w.setCell ⟨g, i * 2, none⟩ (.bool s.term)).setCell ⟨g, i * 2 + 1, none⟩ (.int .i64 s.n)) := by
  have h1 := (World.ownsRow.stored h (i * 2) (.bool s.term)).1
  have h2 := (World.ownsRow.stored h1 (i * 2 + 1) (.int .i64 s.n)).1
  rw [symC_set] at h2
  unfold SR
  rw [List.length_set]
  exact h2
theorem SR.set2 (h : SR B g c l w) {i : Nat} (hi : i < l.length) (n : Int) : SR B g c (l.set i ⟨l[i].term, n⟩) (w.setCell ⟨g, i * 2 + 1, none⟩ (.int .i64 n)) := by
  have h2 := (World.ownsRow.stored h (i * 2 + 1) (.int .i64 n)).1
  rw [symC_set2 l i hi] at h2
  unfold SR
  rw [List.length_set]
  exact h2
end
theorem cloneSR (l : List Sym) (a : Option Addr) (c : Nat) (w : World) (h : Rd AnyB w (.sl (l.map Sym.d)) [.slice a l.length c]) (hb : l.length ≤ 1000) (h0 : 0 < l.length) :
    Calls Try.prog 65 #[.slice a l.length c] w fun e w' => ∃ g c, e = .returned (.slice (some ⟨g, 0, none⟩) l.length c) ∧ SR w.heap.size g c l w' ∧ Below w.heap.size w w' := by
  refine (cloneRow l a c w h hb).mono ?_
  rintro e w' ⟨a', c', rfl, ⟨⟨xs, h1, h2⟩, h3⟩, h4⟩
  rw [List.length_map] at h1
  obtain rfl := symC_rd h2
  rcases h1.2 with ⟨_, h5⟩ | ⟨g', cap', cur, h5, _⟩
  · omega
  · cases h5
    exact ⟨g', c', rfl, h1, h4⟩
noncomputable def mayL (cv : List Sym → Option Val) (l : List Sym) (i : Nat) (tm : Nat) : List Bool := (List.range tm).map fun t : Nat => (cv (l.set i ⟨true, (t : Int)⟩)).isSome
theorem mayL_succ (cv : List Sym → Option Val) (l : List Sym) (i tm : Nat) : mayL cv l i (tm + 1) = mayL cv l i tm ++ [(cv (l.set i ⟨true, (tm : Int)⟩)).isSome] := by
  unfold mayL
  rw [List.range_succ, List.map_append]; rfl
def noAny (l : List Sym) (i : Int) : Prop := i < 0 ∨ (l.length : Int) ≤ i ∨ l[i.toNat]? ≠ some ⟨true, -1⟩
def MayPost (cv : List Sym → Option Val) (l : List Sym) (i : Int) (tm : Nat) (W : World) (e : Ending) (w' : World) : Prop :=
  ∃ (v : Value) (z : Int), e = .returned (.tuple #[v, .int .i64 z]) ∧ Below W.heap.size W w' ∧ ((noAny l i → v = .slice none 0 0 ∧ z = 5) ∧ (¬ noAny l i → Sl w' v (bls (mayL cv l i.toNat tm)) ∧ z = 0))
theorem set_any (l : List Sym) (i : Nat) (s t : Sym) : (l.set i s).set i t = l.set i t := by simp
theorem cell_set {l : List Sym} {N tm : Nat} (h : ∀ c ∈ l, cellOk N tm c) (i : Nat) (t : Nat) (ht : t < tm) : ∀ c ∈ l.set i ⟨true, (t : Int)⟩, cellOk N tm c := by
  intro c hc
  rcases List.mem_or_eq_of_mem_set hc with h1 | rfl
  · exact h c h1
  · exact ⟨fun _ => by show (t : Int) < _; omega, fun e => by cases e⟩
section
variable (g : Gram) (l : List Sym) (ga : Option Addr) (gc : Nat) (la : Option Addr) (lk : Nat) (W : World) (hgr : Rd AnyB W (.sl (g.rules.map Rule.d)) [.slice ga g.rules.length gc]) (hrl : Rd AnyB W (.sl (l.map Sym.d)) [.slice la l.length lk])
include hgr hrl
set_option maxHeartbeats 4000000 in
set_option maxRecDepth 100000 in
theorem mayBad (i : Int) (hp : patF g l ≠ 0) :
    Calls Try.prog 24 #[.agg #[.int .i64 g.terms, .int .i64 g.nons, .int .i64 g.start, .slice ga g.rules.length gc], .slice la l.length lk, .int .i64 i] W fun e w' => e = .returned (.tuple #[.slice none 0 0, .int .i64 (patF g l)]) ∧ Below W.heap.size W w' := by
  obtain ⟨w0, HW0⟩ := nameIt (W.alloc (.cells #[.int .i64 g.terms, .int .i64 g.nons, .int .i64 g.start, .slice ga g.rules.length gc] 24))
  have hb0 : Below W.heap.size W w0 := by rw [← HW0.out]; exact (Below.refl _ _).alloc (Nat.le_refl _) _
  have X0 : w0.heap[W.heap.size]? = some (.cells #[.int .i64 g.terms, .int .i64 g.nons, .int .i64 g.start, .slice ga g.rules.length gc] 24 (0, 0)) := by rw [← HW0.out]; exact bx_new _ _ _ rfl
  have HCK := Lib.hid (checkPE g l ga gc la lk w0 (hgr.below hb0) (hrl.below hb0))
  obtain ⟨x0, x1, x2, x3⟩ := bx_cells4 X0
  have HB0 := Lib.hid hb0
  obtain ⟨gt, HGT⟩ := nameIt g.terms
  obtain ⟨gn, HGN⟩ := nameIt g.nons
  obtain ⟨gs, HGS⟩ := nameIt g.start
  obtain ⟨kn, HKN⟩ := nameIt g.rules.length
  obtain ⟨n, HN⟩ := nameIt l.length
  obtain ⟨z, HZ⟩ := nameIt (patF g l)
  rw [HGT.out, HGN.out, HGS.out, HKN.out, HN.out, HZ.out] at HCK
  rw [HGT.out, HGN.out, HGS.out, HKN.out] at HW0
  rw [HGT.out] at x0
  rw [HGN.out] at x1
  rw [HGS.out] at x2
  rw [HKN.out] at x3
  rw [HZ.out] at hp
  rw [HGT.out, HGN.out, HGS.out, HKN.out, HN.out, HZ.out]
  have b1 : (z != 0) = true := by simpa using hp
  clear hb0 X0 hgr hrl
  go_enter Try.func24, Try.ntmps24
  go_upto_region 1 with fail
  rw [HW0.out]
  go_wp2_with fail
  refine HCK.out.mono ?_
  clear x0 x1 x2 x3
  rintro e w1 ⟨rfl, hb1⟩
  have HF : Hid (Below W.heap.size W w1) := HB0.out.trans (hb1.mono HB0.out.size)
  clear hb1
  go_wp2_with fail
  exact bodyPost_ret (results_tmp2 Try.results24 _ _ _) rfl ⟨rfl, HF.out⟩
set_option maxHeartbeats 16000000 in
set_option maxRecDepth 100000 in
theorem mayE (i : Int) (hp : patF g l = 0) {N tm : Nat} (hl12 : l.length ≤ 12) (htm : g.terms = (tm : Int)) (htm8 : tm ≤ 8) (hcl : ∀ c ∈ l, cellOk N tm c) (cv : List Sym → Option Val)
    (hfi : ∀ (W' : World) (l' : List Sym) a c, Below W.heap.size W W' → l'.length = l.length → (∀ c ∈ l', cellOk N tm c) → Rd AnyB W' (.sl (l'.map Sym.d)) [.slice a l'.length c] → Calls Try.prog 50 #[.agg #[.int .i64 g.terms, .int .i64 g.nons, .int .i64 g.start, .slice ga g.rules.length gc], .slice a l'.length c] W' fun e w' => ∃ x, e = .returned x ∧ HR (fun k => W'.heap.size ≤ k) w' x (cv l') ∧ Below W'.heap.size W' w') :
    Calls Try.prog 24 #[.agg #[.int .i64 g.terms, .int .i64 g.nons, .int .i64 g.start, .slice ga g.rules.length gc], .slice la l.length lk, .int .i64 i] W (MayPost cv l i tm W) := by
  obtain ⟨w0, HW0⟩ := nameIt (W.alloc (.cells #[.int .i64 g.terms, .int .i64 g.nons, .int .i64 g.start, .slice ga g.rules.length gc] 24))
  have hb0 : Below W.heap.size W w0 := by rw [← HW0.out]; exact (Below.refl _ _).alloc (Nat.le_refl _) _
  have X0 : Hid (w0.heap[W.heap.size]? = some (.cells #[.int .i64 g.terms, .int .i64 g.nons, .int .i64 g.start, .slice ga g.rules.length gc] 24 (0, 0))) := by rw [← HW0.out]; exact bx_new _ _ _ rfl
  have HB0 := Lib.hid hb0
  have hckc := checkPE g l ga gc la lk w0 (hgr.below hb0) (hrl.below hb0)
  rw [hp] at hckc
  have HCK := Lib.hid hckc
  have HRL := Lib.hid (hrl.below hb0)
  have HCL := Lib.hid hcl
  obtain ⟨PST, HP⟩ := nameIt (MayPost cv l i tm W)
  have HFB : Hid (∀ w', noAny l i → Below w0.heap.size w0 w' → PST (.returned (.tuple #[.slice none 0 0, .int .i64 5])) w') := by
    intro w' h1 h2
    rw [← HP.out]
    exact ⟨_, _, rfl, hb0.trans (h2.mono hb0.size), fun _ => ⟨rfl, rfl⟩, fun h => absurd h1 h⟩
  have HFG : Hid (∀ v w', ¬ noAny l i → Sl w' v (bls (mayL cv l i.toNat tm)) → Below w0.heap.size w0 w' → PST (.returned (.tuple #[v, .int .i64 0])) w') := by
    intro v w' h1 h2 h3
    rw [← HP.out]
    exact ⟨_, _, rfl, hb0.trans (h3.mono hb0.size), fun h => absurd h h1, fun _ => ⟨h2, rfl⟩⟩
  rw [HP.out]
  have HFI := Lib.hid hfi
  obtain ⟨gt, HGT⟩ := nameIt g.terms
  have hgt : gt = (tm : Int) := by rw [← HGT.out]; exact htm
  obtain ⟨gn, HGN⟩ := nameIt g.nons
  obtain ⟨gs, HGS⟩ := nameIt g.start
  obtain ⟨kn, HKN⟩ := nameIt g.rules.length
  obtain ⟨n, HN⟩ := nameIt l.length
  rw [HGT.out, hgt, HGN.out, HGS.out, HKN.out] at HW0 X0 HFI
  rw [HGT.out, hgt, HGN.out, HGS.out, HKN.out, HN.out] at HCK
  rw [HGT.out, hgt, HGN.out, HGS.out, HKN.out, HN.out]
  rw [HN.out] at HFI hl12
  clear hgt
  have HG0 : Hid (∀ w', Below w0.heap.size w0 w' → w'.cell? ⟨W.heap.size, 0, none⟩ = some (.int .i64 (tm : Int)) ∧ w'.cell? ⟨W.heap.size, 0 + 1, none⟩ = some (.int .i64 gn) ∧ w'.cell? ⟨W.heap.size, 0 + 2, none⟩ = some (.int .i64 gs) ∧ w'.cell? ⟨W.heap.size, 0 + 3, none⟩ = some (.slice ga kn gc)) := by
    intro w' hb'
    exact bx_cells4 (bx_keep X0.out hb')
  have HLEN : Hid (l.length = n) := HN
  have HRLB : Hid (lk ≤ maxLen) := HRL.out.bounds.2.2
  clear hb0 hrl hcl hp htm HP hfi hckc hgr
  obtain ⟨x0, x1, x2, x3⟩ := HG0.out w0 (Below.refl _ _)
  go_enter Try.func24, Try.ntmps24
  go_upto_region 1 with fail
  rw [HW0.out]
  clear HW0
  go_wp2_with fail
  refine HCK.out.mono ?_
  clear x0 x1 x2 x3
  rintro e w1 ⟨rfl, hb1⟩
  have HB1 := Lib.hid hb1
  clear hb1 HCK
-- COND
  have HAN : Hid (∀ W2, Below w1.heap.size w1 W2 → Calls Try.prog 51 #[.int .i64 (-1)] W2 fun e w' => e = .returned (.agg #[.bool true, .int .i64 (-1)]) ∧ Below W2.heap.size W2 w') := fun W2 _ => gramT (-1) W2
  go_upto_region 4 with fail
  by_cases c1 : i < 0
  · have d1 : decide (i < 0) = true := decide_eq_true c1
    have HE := Lib.hid (fun w' h => HFB.out w' (.inl c1) h)
    refine wp_region_after (by kernel_rfl) (by kernel_rfl) ?_
    repeat (go_big_quiet_step (with_reducible exact Calls.after (HAN.out _ (Aft.bel _))))
    refine wpQuiet_nil ?_
    rintro w2 ⟨⟨_, hb2⟩, rfl⟩
    have HEE := Lib.hid (HE.out w2 (HB1.out.trans (hb2.mono HB1.out.size)))
    clear hb2
    go_wp2_with fail
    first | exact HEE.out | exact bodyPost_ret (results_tmp2 Try.results24 _ _ _) rfl HEE.out
  · obtain ⟨k, rfl⟩ : ∃ k : Nat, i = (k : Int) := ⟨i.toNat, by omega⟩
    have d1 : decide ((k : Int) < 0) = false := decide_eq_false c1
    by_cases c2 : n ≤ k
    · have d2 : decide ((n : Int) ≤ (k : Int)) = true := by simp; omega
      have HE := Lib.hid (fun w' h => HFB.out w' (.inr (.inl (by rw [HN.out]; omega))) h)
      refine wp_region_after (by kernel_rfl) (by kernel_rfl) ?_
      repeat (go_big_quiet_step (with_reducible exact Calls.after (HAN.out _ (Aft.bel _))))
      refine wpQuiet_nil ?_
      rintro w2 ⟨⟨_, hb2⟩, rfl⟩
      have HEE := Lib.hid (HE.out w2 (HB1.out.trans (hb2.mono HB1.out.size)))
      clear hb2
      go_wp2_with fail
      first | exact HEE.out | exact bodyPost_ret (results_tmp2 Try.results24 _ _ _) rfl HEE.out
    · have d2 : decide ((n : Int) ≤ (k : Int)) = false := by simp; omega
      have hkn : k < n := by omega
      have hkn' : (k : Int) < (n : Int) := by omega
      have hkL : k < l.length := by rw [HN.out]; exact hkn
      obtain ⟨lb, lo, hae, -, hlb, s0, s1⟩ := (HRL.out.below HB1.out).sym_at hkL
      have hno : Hid (noAny l (k : Int) ↔ l[k]'hkL ≠ ⟨true, -1⟩) := by
        show _ ↔ _
        unfold noAny
        rw [show ((k : Int)).toNat = k by omega, List.getElem?_eq_getElem hkL]
        constructor
        · rintro (h | h | h)
          · omega
          · rw [HN.out] at h; omega
          · exact fun e => h (by rw [e])
        · intro h; exact .inr (.inr (fun e => h (Option.some.inj e)))
      have HLK : Hid (∀ t : Int, l[k]'hkL = ⟨true, -1⟩ → (⟨(l[k]'hkL).term, t⟩ : Sym) = ⟨true, t⟩) := fun t h => by rw [h]
      obtain ⟨s, HS⟩ := nameIt (l[k]'hkL)
      rw [HS.out] at s0 s1 hno HLK
      obtain ⟨ct, cn⟩ := s
      dsimp only at s0 s1
      have hne := symNe ct true cn (-1)
      have HBE : Hid ((!(ct == true && cn == -1)) = true ↔ (⟨ct, cn⟩ : Sym) ≠ ⟨true, -1⟩) := by
        show _ ↔ _
        cases ct <;> simp
      obtain ⟨bq, HBQ⟩ := nameIt (!(ct == true && cn == -1))
      rw [HBQ.out] at hne HBE
      have i0 := aft_cell s0
      have i1 := aft_cell s1
      subst hae
      clear s0 s1
      refine wp_region_after (by kernel_rfl) (by kernel_rfl) ?_
      repeat (go_big_quiet_step (with_reducible exact Calls.after (HAN.out _ (Aft.bel _))))
      refine wpQuiet_nil ?_
      rintro w2 ⟨⟨_, hb2⟩, rfl⟩
      have HB2 : Hid (Below w0.heap.size w0 w2) := HB1.out.trans (hb2.mono HB1.out.size)
      clear hb2 i0 i1 hne d1 d2
      cases bq with
      | true =>
        have HEE := Lib.hid (HFB.out w2 (hno.out.2 (HBE.out.1 rfl)) HB2.out)
        go_wp2_with fail
        first | exact HEE.out | exact bodyPost_ret (results_tmp2 Try.results24 _ _ _) rfl HEE.out
      | false =>
        have hany : (⟨ct, cn⟩ : Sym) = ⟨true, -1⟩ := by
          rcases Decidable.em ((⟨ct, cn⟩ : Sym) = ⟨true, -1⟩) with h | h
          · exact h
          · exact absurd (HBE.out.2 h) (by decide)
        have HNO : Hid (¬ noAny l (k : Int)) := fun h => hno.out.1 h hany
        have HFG2 : Hid (∀ v w', Sl w' v (bls (mayL cv l k tm)) → Below w0.heap.size w0 w' → PST (.returned (.tuple #[v, .int .i64 0])) w') := fun v w' h1 h2 => HFG.out v w' HNO.out h1 h2
        have HLK2 := Lib.hid (fun t => HLK.out t hany)
        clear hno HBE hany HFB HFG HLK HAN
        have hn0 : 0 < n := by omega
        have hcs := cloneSR l (some ⟨lb, lo, none⟩) lk w2 (HRL.out.below HB2.out) (by rw [HN.out]; omega) (by rw [HN.out]; omega)
        rw [HN.out] at hcs
        have HCS := Lib.hid hcs
        clear hcs
        go_wp2_with fail
        refine HCS.out.mono ?_
        rintro e w3 ⟨gl, cl, rfl, hsr, hb3⟩
        have HSR := Lib.hid hsr
        have HB3 : Hid (Below w0.heap.size w0 w3) := HB2.out.trans (hb3.mono HB2.out.size)
        have HB23 := Lib.hid hb3
        have HGL : Hid (w2.heap.size ≤ gl ∧ gl < w3.heap.size) := hsr.lt
        have HO0 : Hid (w3.ownsRow w3.heap.size 4 1 (.slice none 0 0) 0 (bls (mayL cv l k 0))) := World.ownsRow_nil _ _ _ _
        obtain ⟨x0, x1, x2, x3⟩ := HG0.out w3 HB3.out
        clear hsr hb3 HCS
        go_wp2_with fail
        go_loopg [9, 10, 37] tm (fun gg v9 v10 v37 wr => ∃ (t : Nat) (l' : List Sym), t ≤ tm ∧ tm - t ≤ gg ∧ v37 = .int .i64 (t : Int) ∧ Hid (l'.length = n ∧ ∀ s, l'.set k s = l.set k s) ∧ Hid (Below w2.heap.size w2 wr ∧ w3.heap.size ≤ wr.heap.size) ∧ Hid (SR w2.heap.size gl cl l' wr) ∧ Hid (wr.ownsRow w3.heap.size 4 1 v9 t (bls (mayL cv l k t))))
        case atStart => exact ⟨0, l, by omega, by omega, rfl, ⟨HN.out, fun _ => rfl⟩, ⟨HB23.out, Nat.le_refl _⟩, HSR, HO0⟩
        case round =>
          clear HO0 HSR x0 x1 x2 x3
          obtain ⟨t, l', ht, hgg, rfl, HL', HBW, HSR, HO⟩ := hrel
          have HBX : Hid (Below w0.heap.size w0 wr) := HB2.out.trans (HBW.out.1.mono HB2.out.size)
          obtain ⟨x0, x1, x2, x3⟩ := HG0.out wr HBX.out
          obtain ⟨a9, c9, rfl, -, -⟩ := own_len HO.out
          by_cases htm : t < tm
          · have htm' : (t : Int) < (tm : Int) := by omega
            go_wp2_with fail
            refine (gramT (t : Int) wr).mono ?_
            clear x0 x1 x2 x3
            rintro e w4 ⟨rfl, hb4⟩
            have HSR4 := Lib.hid (HSR.out.keep hb4)
            have HO4 := Lib.hid (own_keep HO.out hb4)
            have HBW4 : Hid (Below w2.heap.size w2 w4 ∧ w3.heap.size ≤ w4.heap.size) := ⟨HBW.out.1.trans (hb4.mono HBW.out.1.size), by have := HBW.out.2; have := hb4.size; omega⟩
            have hkl' : k < l'.length := by rw [HL'.out.1]; exact hkn
            obtain ⟨⟨u0, o0⟩, ⟨u1, o1⟩, f0, f1⟩ := HSR4.out.old hkl'
            have hset := HSR4.out.set k ⟨true, (t : Int)⟩
            rw [HL'.out.2] at hset
            have hg5 : w4.grownBy ((w4.setCell ⟨gl, k * 2, none⟩ (.bool true)).setCell ⟨gl, k * 2 + 1, none⟩ (.int .i64 (t : Int))) (some gl) := grown_trans (grown_cell _ _ _) (grown_cell _ _ _)
            obtain ⟨w5, HW5⟩ := nameIt ((w4.setCell ⟨gl, k * 2, none⟩ (.bool true)).setCell ⟨gl, k * 2 + 1, none⟩ (.int .i64 (t : Int)))
            rw [HW5.out] at hg5
            have hset2 : SR w2.heap.size gl cl (l.set k ⟨true, (t : Int)⟩) w5 := by rw [← HW5.out]; exact hset
            have HSR5 := Lib.hid hset2
            have HO5 : Hid (w5.ownsRow w3.heap.size 4 1 (.slice a9 t c9) t (bls (mayL cv l k t))) := HO4.out.kept hg5 (.inr (fun e => by have := (HO4.out.lt gl e).1; have := HGL.out.2; omega))
            have HBW5 : Hid (Below w2.heap.size w2 w5 ∧ w3.heap.size ≤ w5.heap.size) := ⟨HBW4.out.1.grown hg5 HBW4.out.1.size (fun q e => by cases e; exact HGL.out.1), by have := HBW4.out.2; have := hg5.size; omega⟩
            have HBX5 : Hid (Below w0.heap.size w0 w5) := HB2.out.trans (HBW5.out.1.mono HB2.out.size)
            have hfi := HFI.out w5 (l.set k ⟨true, (t : Int)⟩) (some ⟨gl, 0, none⟩) cl (HB0.out.trans (HBX5.out.mono HB0.out.size)) (by rw [List.length_set]; exact HN.out) (cell_set HCL.out k t htm) HSR5.out.rd
            rw [List.length_set, HN.out] at hfi
            have hsucc := mayL_succ cv l k t
            obtain ⟨o, HON⟩ := nameIt (cv (l.set k ⟨true, (t : Int)⟩))
            rw [HON.out] at hfi hsucc
            have HFC := Lib.hid hfi
            have HSU := Lib.hid hsucc
            obtain ⟨ob, HOB⟩ := nameIt o.isSome
            rw [HOB.out] at HSU
            clear hb4 hset hset2 hg5 hfi hsucc
            go_upto_region 12 with fail
            rw [HW5.out]
            clear HW5 o0 o1 f0 f1
            obtain ⟨x0, x1, x2, x3⟩ := HG0.out w5 HBX5.out
            go_wp2_with fail
            refine HFC.out.mono ?_
            clear x0 x1 x2 x3
            rintro e w6 ⟨x, rfl, hx, hb6⟩
            obtain ⟨xa, xm, xk, rfl, -⟩ := hx.form
            rw [HOB.out]
            obtain ⟨on, HONN⟩ := nameIt (oN o)
            rw [HONN.out]
            have hwf := wordField (on : Int) (.slice xa xm xk) ob w6
            have HSR6 := Lib.hid (HSR5.out.keep hb6)
            have HO6 := Lib.hid (own_keep HO5.out hb6)
            have HBW6 : Hid (Below w2.heap.size w2 w6 ∧ w3.heap.size ≤ w6.heap.size) := ⟨HBW5.out.1.trans (hb6.mono HBW5.out.1.size), by have := HBW5.out.2; have := hb6.size; omega⟩
            have hsz := HBW6.out.2
            clear hx hb6
            go_wp2_with (at_builtin; refine wp_app1 elBl rfl _ _ rfl HO6.out rfl rfl rfl rfl (by omega) (by unfold maxLen; omega) hsz ?_)
            intro v7 w7 ho7 hg7
            have HO7 : Hid (w7.ownsRow w3.heap.size 4 1 v7 (t + 1) (bls (mayL cv l k (t + 1)))) := by
              rw [HSU.out]
              unfold bls at ho7 ⊢
              rw [List.map_append]
              exact ho7
            have HSR7 : Hid (SR w2.heap.size gl cl (l.set k ⟨true, (t : Int)⟩) w7) := World.ownsRow.kept HSR6.out hg7 (.inr (fun e => by have h1 := (HO6.out.lt gl (by rw [← e]; rfl)).1; have h2 := HGL.out.2; omega))
            have HBW7 : Hid (Below w2.heap.size w2 w7 ∧ w3.heap.size ≤ w7.heap.size) := ⟨HBW6.out.1.grown hg7 HBW6.out.1.size (fun q e => by have := (HO6.out.lt q e).1; have := HB23.out.size; omega), by have := hg7.size; omega⟩
            have HL7 : Hid ((l.set k ⟨true, (t : Int)⟩).length = n ∧ ∀ s, (l.set k ⟨true, (t : Int)⟩).set k s = l.set k s) := ⟨by rw [List.length_set]; exact HN.out, fun s => set_any l k _ s⟩
            clear ho7 hg7 hwf
            go_wp2_with fail
            go_roundg (tm - (t + 1))
            case measure => omega
            case rel => exact ⟨t + 1, _, by omega, by omega, by go_num, HL7, HBW7, HSR7, HO7⟩
          · have htm' : ¬ (t : Int) < (tm : Int) := by omega
            obtain rfl : t = tm := by omega
            have HE := Lib.hid (HFG2.out (.slice a9 t c9) wr (sl_of_own HO.out) HBX.out)
            clear x0 x1 x2 x3
            go_wp2_with fail
            first | exact HE.out | exact bodyPost_ret (results_tmp2 Try.results24 _ _ _) rfl HE.out
omit hgr in
set_option maxHeartbeats 16000000 in
set_option maxRecDepth 100000 in
theorem maysE (i : Int) (hp : patF g l = 0) {N tm : Nat} (hl12 : l.length ≤ 12) (htm : g.terms = (tm : Int)) (htm8 : tm ≤ 8) (hcl : ∀ c ∈ l, cellOk N tm c) (cv : List Sym → Option Val)
    (hfi : ∀ (W' : World) (l' : List Sym) a c, Below W.heap.size W W' → l'.length = l.length → (∀ c ∈ l', cellOk N tm c) → Rd AnyB W' (.sl (l'.map Sym.d)) [.slice a l'.length c] → Calls Try.prog 21 #[.agg #[.int .i64 g.terms, .int .i64 g.nons, .int .i64 g.start, .slice ga g.rules.length gc], .slice a l'.length c] W' fun e w' => ∃ x, e = .returned x ∧ VR (fun k => W'.heap.size ≤ k) w' x (cv l') ∧ Below W'.heap.size W' w') :
    Calls Try.prog 25 #[.agg #[.int .i64 g.terms, .int .i64 g.nons, .int .i64 g.start, .slice ga g.rules.length gc], .slice la l.length lk, .int .i64 i] W (MayPost cv l i tm W) := by
  obtain ⟨w0, HW0⟩ := nameIt (W.alloc (.cells #[.int .i64 g.terms, .int .i64 g.nons, .int .i64 g.start, .slice ga g.rules.length gc] 24))
  have hb0 : Below W.heap.size W w0 := by rw [← HW0.out]; exact (Below.refl _ _).alloc (Nat.le_refl _) _
  have X0 : Hid (w0.heap[W.heap.size]? = some (.cells #[.int .i64 g.terms, .int .i64 g.nons, .int .i64 g.start, .slice ga g.rules.length gc] 24 (0, 0))) := by rw [← HW0.out]; exact bx_new _ _ _ rfl
  have HB0 := Lib.hid hb0
  have HRL := Lib.hid (hrl.below hb0)
  have HCL := Lib.hid hcl
  obtain ⟨PST, HP⟩ := nameIt (MayPost cv l i tm W)
  have HFB : Hid (∀ w', noAny l i → Below w0.heap.size w0 w' → PST (.returned (.tuple #[.slice none 0 0, .int .i64 5])) w') := by
    intro w' h1 h2
    rw [← HP.out]
    exact ⟨_, _, rfl, hb0.trans (h2.mono hb0.size), fun _ => ⟨rfl, rfl⟩, fun h => absurd h1 h⟩
  have HFG : Hid (∀ v w', ¬ noAny l i → Sl w' v (bls (mayL cv l i.toNat tm)) → Below w0.heap.size w0 w' → PST (.returned (.tuple #[v, .int .i64 0])) w') := by
    intro v w' h1 h2 h3
    rw [← HP.out]
    exact ⟨_, _, rfl, hb0.trans (h3.mono hb0.size), fun h => absurd h h1, fun _ => ⟨h2, rfl⟩⟩
  rw [HP.out]
  have HFI := Lib.hid hfi
  obtain ⟨gt, HGT⟩ := nameIt g.terms
  have hgt : gt = (tm : Int) := by rw [← HGT.out]; exact htm
  obtain ⟨gn, HGN⟩ := nameIt g.nons
  obtain ⟨gs, HGS⟩ := nameIt g.start
  obtain ⟨kn, HKN⟩ := nameIt g.rules.length
  obtain ⟨n, HN⟩ := nameIt l.length
  rw [HGT.out, hgt, HGN.out, HGS.out, HKN.out] at HW0 X0 HFI
  rw [HGT.out, hgt, HGN.out, HGS.out, HKN.out, HN.out]
  rw [HN.out] at HFI hl12
  clear hgt
  have HG0 : Hid (∀ w', Below w0.heap.size w0 w' → w'.cell? ⟨W.heap.size, 0, none⟩ = some (.int .i64 (tm : Int)) ∧ w'.cell? ⟨W.heap.size, 0 + 1, none⟩ = some (.int .i64 gn) ∧ w'.cell? ⟨W.heap.size, 0 + 2, none⟩ = some (.int .i64 gs) ∧ w'.cell? ⟨W.heap.size, 0 + 3, none⟩ = some (.slice ga kn gc)) := by
    intro w' hb'
    exact bx_cells4 (bx_keep X0.out hb')
  have HLEN : Hid (l.length = n) := HN
  have HRLB : Hid (lk ≤ maxLen) := HRL.out.bounds.2.2
  clear hb0 hrl hcl hp htm HP hfi
  obtain ⟨x0, x1, x2, x3⟩ := HG0.out w0 (Below.refl _ _)
  go_enter Try.func25, Try.ntmps25
  go_upto_region 1 with fail
  rw [HW0.out]
  clear HW0
  have HB1 : Hid (Below w0.heap.size w0 w0) := Below.refl _ _
  clear x0 x1 x2 x3
-- COND
  have HAN : Hid (∀ W2, Below w0.heap.size w0 W2 → Calls Try.prog 18 #[] W2 fun e w' => e = .returned (.agg #[.bool true, .int .i64 (-1)]) ∧ Below W2.heap.size W2 w') := fun W2 _ => anyE W2
  go_upto_region 1 with fail
  by_cases c1 : i < 0
  · have d1 : decide (i < 0) = true := decide_eq_true c1
    have HE := Lib.hid (fun w' h => HFB.out w' (.inl c1) h)
    refine wp_region_after (by kernel_rfl) (by kernel_rfl) ?_
    repeat (go_big_quiet_step (with_reducible exact Calls.after (HAN.out _ (Aft.bel _))))
    refine wpQuiet_nil ?_
    rintro w2 ⟨⟨_, hb2⟩, rfl⟩
    have HEE := Lib.hid (HE.out w2 (HB1.out.trans (hb2.mono HB1.out.size)))
    clear hb2
    go_wp2_with fail
    first | exact HEE.out | exact bodyPost_ret (results_tmp2 Try.results25 _ _ _) rfl HEE.out
  · obtain ⟨k, rfl⟩ : ∃ k : Nat, i = (k : Int) := ⟨i.toNat, by omega⟩
    have d1 : decide ((k : Int) < 0) = false := decide_eq_false c1
    by_cases c2 : n ≤ k
    · have d2 : decide ((n : Int) ≤ (k : Int)) = true := by simp; omega
      have HE := Lib.hid (fun w' h => HFB.out w' (.inr (.inl (by rw [HN.out]; omega))) h)
      refine wp_region_after (by kernel_rfl) (by kernel_rfl) ?_
      repeat (go_big_quiet_step (with_reducible exact Calls.after (HAN.out _ (Aft.bel _))))
      refine wpQuiet_nil ?_
      rintro w2 ⟨⟨_, hb2⟩, rfl⟩
      have HEE := Lib.hid (HE.out w2 (HB1.out.trans (hb2.mono HB1.out.size)))
      clear hb2
      go_wp2_with fail
      first | exact HEE.out | exact bodyPost_ret (results_tmp2 Try.results25 _ _ _) rfl HEE.out
    · have d2 : decide ((n : Int) ≤ (k : Int)) = false := by simp; omega
      have hkn : k < n := by omega
      have hkn' : (k : Int) < (n : Int) := by omega
      have hkL : k < l.length := by rw [HN.out]; exact hkn
      obtain ⟨lb, lo, hae, -, hlb, s0, s1⟩ := (HRL.out.below HB1.out).sym_at hkL
      have hno : Hid (noAny l (k : Int) ↔ l[k]'hkL ≠ ⟨true, -1⟩) := by
        show _ ↔ _
        unfold noAny
        rw [show ((k : Int)).toNat = k by omega, List.getElem?_eq_getElem hkL]
        constructor
        · rintro (h | h | h)
          · omega
          · rw [HN.out] at h; omega
          · exact fun e => h (by rw [e])
        · intro h; exact .inr (.inr (fun e => h (Option.some.inj e)))
      have HLK : Hid (∀ t : Int, l[k]'hkL = ⟨true, -1⟩ → (⟨(l[k]'hkL).term, t⟩ : Sym) = ⟨true, t⟩) := fun t h => by rw [h]
      obtain ⟨s, HS⟩ := nameIt (l[k]'hkL)
      rw [HS.out] at s0 s1 hno HLK
      obtain ⟨ct, cn⟩ := s
      dsimp only at s0 s1
      have hne := symNe ct true cn (-1)
      have HBE : Hid ((!(ct == true && cn == -1)) = true ↔ (⟨ct, cn⟩ : Sym) ≠ ⟨true, -1⟩) := by
        show _ ↔ _
        cases ct <;> simp
      obtain ⟨bq, HBQ⟩ := nameIt (!(ct == true && cn == -1))
      rw [HBQ.out] at hne HBE
      have i0 := aft_cell s0
      have i1 := aft_cell s1
      subst hae
      clear s0 s1
      refine wp_region_after (by kernel_rfl) (by kernel_rfl) ?_
      repeat (go_big_quiet_step (with_reducible exact Calls.after (HAN.out _ (Aft.bel _))))
      refine wpQuiet_nil ?_
      rintro w2 ⟨⟨_, hb2⟩, rfl⟩
      have HB2 : Hid (Below w0.heap.size w0 w2) := HB1.out.trans (hb2.mono HB1.out.size)
      clear hb2 i0 i1 hne d1 d2
      cases bq with
      | true =>
        have HEE := Lib.hid (HFB.out w2 (hno.out.2 (HBE.out.1 rfl)) HB2.out)
        go_wp2_with fail
        first | exact HEE.out | exact bodyPost_ret (results_tmp2 Try.results25 _ _ _) rfl HEE.out
      | false =>
        have hany : (⟨ct, cn⟩ : Sym) = ⟨true, -1⟩ := by
          rcases Decidable.em ((⟨ct, cn⟩ : Sym) = ⟨true, -1⟩) with h | h
          · exact h
          · exact absurd (HBE.out.2 h) (by decide)
        have HNO : Hid (¬ noAny l (k : Int)) := fun h => hno.out.1 h hany
        have HFG2 : Hid (∀ v w', Sl w' v (bls (mayL cv l k tm)) → Below w0.heap.size w0 w' → PST (.returned (.tuple #[v, .int .i64 0])) w') := fun v w' h1 h2 => HFG.out v w' HNO.out h1 h2
        have HLK2 := Lib.hid (fun t => HLK.out t hany)
        clear hno HBE hany HFB HFG HLK HAN
        have hn0 : 0 < n := by omega
        have hcs := fun W' (hb : Below w2.heap.size w2 W') => cloneSR l (some ⟨lb, lo, none⟩) lk W' ((HRL.out.below HB2.out).below hb) (by rw [HN.out]; omega) (by rw [HN.out]; omega)
        rw [HN.out] at hcs
        have HCS := Lib.hid hcs
        have HO0 : Hid (w2.ownsRow w2.heap.size 4 1 (.slice none 0 0) 0 (bls (mayL cv l k 0))) := World.ownsRow_nil _ _ _ _
        obtain ⟨x0, x1, x2, x3⟩ := HG0.out w2 HB2.out
        clear hcs
        go_wp2_with fail
        go_loopg [8, 9, 10, 29] tm (fun gg v8 v9 v10 v29 wr => ∃ t : Nat, t ≤ tm ∧ tm - t ≤ gg ∧ v29 = .int .i64 (t : Int) ∧ Hid (Below w2.heap.size w2 wr) ∧ Hid (wr.ownsRow w2.heap.size 4 1 v8 t (bls (mayL cv l k t))))
        case atStart => exact ⟨0, by omega, by omega, rfl, Below.refl _ _, HO0⟩
        case round =>
          clear HO0 x0 x1 x2 x3
          obtain ⟨t, ht, hgg, rfl, HBW, HO⟩ := hrel
          have HBX : Hid (Below w0.heap.size w0 wr) := HB2.out.trans (HBW.out.mono HB2.out.size)
          obtain ⟨a9, c9, rfl, -, -⟩ := own_len HO.out
          by_cases htm : t < tm
          · have htm' : (t : Int) < (tm : Int) := by omega
            go_wp2_with fail
            refine (HCS.out wr HBW.out).mono ?_
            rintro e w4 ⟨gl, cl, rfl, hsr, hb4⟩
            have HSR4 := Lib.hid hsr
            have HO4 := Lib.hid (own_keep HO.out hb4)
            have HBW4 : Hid (Below w2.heap.size w2 w4) := HBW.out.trans (hb4.mono HBW.out.size)
            have HGL : Hid (wr.heap.size ≤ gl ∧ gl < w4.heap.size) := hsr.lt
            have HOLT : Hid (∀ q, (Value.slice a9 t c9).ownBlock = some q → q < wr.heap.size) := fun q e => (HO.out.lt q e).2
            have hkl' : k < l.length := by rw [HN.out]; exact hkn
            obtain ⟨-, ⟨u1, o1⟩, -, f1⟩ := HSR4.out.old hkl'
            have hset := HSR4.out.set2 hkl' (t : Int)
            have hlk := HLK2.out (t : Int)
            rw [HS.out] at hset
            rw [hlk] at hset
            have hg5 : w4.grownBy (w4.setCell ⟨gl, k * 2 + 1, none⟩ (.int .i64 (t : Int))) (some gl) := grown_cell _ _ _
            obtain ⟨w5, HW5⟩ := nameIt (w4.setCell ⟨gl, k * 2 + 1, none⟩ (.int .i64 (t : Int)))
            rw [HW5.out] at hg5 hset
            have HSR5 := Lib.hid hset
            have HO5 : Hid (w5.ownsRow w2.heap.size 4 1 (.slice a9 t c9) t (bls (mayL cv l k t))) := HO4.out.kept hg5 (.inr (fun e => by have := HOLT.out gl e; have := HGL.out.1; omega))
            have HBW5 : Hid (Below w2.heap.size w2 w5) := HBW4.out.grown hg5 HBW4.out.size (fun q e => by cases e; have := HGL.out.1; have := HBW.out.size; omega)
            have HBX5 : Hid (Below w0.heap.size w0 w5) := HB2.out.trans (HBW5.out.mono HB2.out.size)
            have hfi := HFI.out w5 (l.set k ⟨true, (t : Int)⟩) (some ⟨gl, 0, none⟩) cl (HB0.out.trans (HBX5.out.mono HB0.out.size)) (by rw [List.length_set]; exact HN.out) (cell_set HCL.out k t htm) HSR5.out.rd
            rw [List.length_set, HN.out] at hfi
            have hsucc := mayL_succ cv l k t
            obtain ⟨o, HON⟩ := nameIt (cv (l.set k ⟨true, (t : Int)⟩))
            rw [HON.out] at hfi hsucc
            have HFC := Lib.hid hfi
            have HSU := Lib.hid hsucc
            obtain ⟨ob, HOB⟩ := nameIt o.isSome
            rw [HOB.out] at HSU
            clear hsr hb4 hset hg5 hfi hsucc hlk
            go_upto_region 9 with fail
            rw [HW5.out]
            clear HW5 o1 f1
            obtain ⟨x0, x1, x2, x3⟩ := HG0.out w5 HBX5.out
            go_wp2_with fail
            refine HFC.out.mono ?_
            clear x0 x1 x2 x3
            rintro e w6 ⟨x, rfl, hx, hb6⟩
            obtain ⟨xa, xm, xk, rfl, -⟩ := vr_form hx
            rw [HOB.out]
            obtain ⟨oc, HOCN⟩ := nameIt (oC o)
            obtain ⟨on, HONN⟩ := nameIt (oN o)
            rw [HOCN.out, HONN.out]
            have hwf := valField ob (oc : Int) (on : Int) (.slice xa xm xk) w6
            have HO6 := Lib.hid (own_keep HO5.out hb6)
            have HBW6 : Hid (Below w2.heap.size w2 w6) := HBW5.out.trans (hb6.mono HBW5.out.size)
            have hsz := HBW6.out.size
            clear hx hb6
            go_wp2_with (at_builtin; refine wp_app1 elBl rfl _ _ rfl HO6.out rfl rfl rfl rfl (by omega) (by unfold maxLen; omega) hsz ?_)
            intro v7 w7 ho7 hg7
            have HO7 : Hid (w7.ownsRow w2.heap.size 4 1 v7 (t + 1) (bls (mayL cv l k (t + 1)))) := by
              rw [HSU.out]
              unfold bls at ho7 ⊢
              rw [List.map_append]
              exact ho7
            have HBW7 : Hid (Below w2.heap.size w2 w7) := HBW6.out.grown hg7 HBW6.out.size (fun q e => (HO6.out.lt q e).1)
            clear ho7 hg7 hwf
            go_wp2_with fail
            go_roundg (tm - (t + 1))
            case measure => omega
            case rel => exact ⟨t + 1, by omega, by omega, by go_num, HBW7, HO7⟩
          · have htm' : ¬ (t : Int) < (tm : Int) := by omega
            obtain rfl : t = tm := by omega
            have HE := Lib.hid (HFG2.out (.slice a9 t c9) wr (sl_of_own HO.out) HBX.out)
            go_wp2_with fail
            first | exact HE.out | exact bodyPost_ret (results_tmp2 Try.results25 _ _ _) rfl HE.out
end
end Ho
end Go.Proofs.Ytjpmebppdcclbaa
