/- rank.numberer.list. rank.Tree. Plain: the two ways to count agree: by what leads to itself, and by the levels of trees. Plain: how many nodes a listed tree has. Plain: the numbers of a census are those by levels. -/
import Derived.Test.YtbnpemgmdnghgaaJCensusTellsRow16
import Derived.Test.YtbnpemgmdnghgaaJCensusTellsRow6
import Derived.Test.YtbnpemgmdnghgaaJCensusTellsRow9
import Derived.BigQuiet
import Derived.Test.YtbnpemgmdnghgaaJCensusTellsRow2
import Derived.Test.YtbnpemgmdnghgaaJCensusTellsRow12
namespace Go.Proofs.Ytbnpemgmdnghgaa
open Go.RowKit
namespace Cs

/-- what the rounds over the symbols keep -/
structure LIv (g : Gram) (vr : Value) (N n : Nat) (d : Cid) (S : Nat → Nat → Bool) (w1 : World) (f : Nat) (l : List Sym) (ks : List Tree) (w0 : World) (p k i : Nat) (al : Option Addr) (cl : Nat) (vo : Value) (W : World) : Prop where
  kn : k ≤ n
  fine : Fine S (GdN g S N n f) (l.drop p) k
  at' : (enL S (SE g S N n) (l.drop p) k)[i]? = some (ks.drop p)
  lt : (enL S (SE g S N n) (l.drop p) k).length < 1000000000
  rd : Rd AnyB w1 (.sl ((l.drop p).map Sym.d)) [.slice al (l.length - p) cl]
  pk : p ≤ ks.length
  row : RowD (fun b => w0.heap.size ≤ b) w0.heap.size 42 3 ((ks.take p).map Tree.d) vo W
  ni : NI g vr N n d S w1 w0 W
/-- the way on from a length -/
structure NxQ (g : Gram) (N n : Nat) (S : Nat → Nat → Bool) (w1 : World) (f : Nat) (l : List Sym) (ks : List Tree) (p k q y : Nat) (al : Option Addr) (cl : Nat) (t : Tree) : Prop where
  kn : k - q ≤ n
  fine : Fine S (GdN g S N n f) (l.drop (p + 1)) (k - q)
  at' : (enL S (SE g S N n) (l.drop (p + 1)) (k - q))[y]? = some (ks.drop (p + 1))
  lt : (enL S (SE g S N n) (l.drop (p + 1)) (k - q)).length < 1000000000
  rd : Rd AnyB w1 (.sl ((l.drop (p + 1)).map Sym.d)) [.slice al (l.length - (p + 1)) cl]
  tk : ks.take (p + 1) = ks.take p ++ [t]
  pk : p + 1 ≤ ks.length
section
variable {g : Gram} {vr : Value} {N n : Nat} {d : Cid} {S : Nat → Nat → Bool} {w1 : World} {f : Nat} {l : List Sym} {ks : List Tree} {w0 : World} {p k i q y : Nat} {al al' : Option Addr} {cl cl' : Nat} {vo : Value} {W W0 W1 : World} {t : Tree}
theorem LIv.next {v' : Value} {xs : List Value} {tr tm : Int} {v8 : Value} {w7 w9 : World} (h : LIv g vr N n d S w1 f l ks w0 p k i al cl vo W) (hq : NxQ g N n S w1 f l ks p k q y al' cl' t) (hrow : RowD (fun b => w0.heap.size ≤ b) w0.heap.size 42 3 ((ks.take p).map Tree.d) vo w9) (hni : NI g vr N n d S w1 w0 w9)
    (hlt : (∀ b, vo.ownBlock = some b → b < w7.heap.size) ∧ w0.heap.size ≤ w7.heap.size ∧ d.cb < w0.heap.size) (hr : Rd (fun b => w7.heap.size ≤ b) w9 t.d [.int .i64 tr, .int .i64 tm, v8]) (ho : w9.ownsRow w0.heap.size 42 3 vo p xs) (hd : RdAll (fun k => w0.heap.size ≤ k ∧ vo.ownBlock ≠ some k) w9 ((ks.take p).map Tree.d) xs)
    (ho' : W1.ownsRow w0.heap.size 42 3 v' (p + 1) (xs ++ [.int .i64 tr, .int .i64 tm, v8])) (hg : w9.grownBy W1 vo.ownBlock) (hat : v'.ownBlock = vo.ownBlock ∨ ∃ k, v'.ownBlock = some k ∧ w9.heap.size ≤ k) :
    LIv g vr N n d S w1 f l ks w0 (p + 1) (k - q) y al' cl' v' W1 := by
  have hpl : ((ks.take p).map Tree.d).length = p := by rw [List.length_map, List.length_take]; have := h.pk; omega
  have hown := ho.lt
  have hb : Below w0.heap.size w9 W1 := (Below.refl _ _).grown hg hrow.le (fun b e => (hown b e).1)
  refine ⟨hq.kn, hq.fine, hq.at', hq.lt, hq.rd, hq.pk, ?_, hni.cs.keepB hb hlt.2.2, ?_⟩
  · rw [hq.tk, List.map_append]
    exact RowD.step (es := [t.d]) ho hd hpl.symm (RdAll.one hr) (fun b hb _ => ⟨by have : w7.heap.size ≤ b := hb; show w0.heap.size ≤ b; omega, fun e => by have := hlt.1 b e; have : w7.heap.size ≤ b := hb; omega⟩) hrow.le ho' hg hat
  · have hf := hni.fr
    exact ⟨hg.os.trans hf.os, hg.tape.trans hf.tape, hg.output.trans hf.output, Nat.le_trans hf.size hg.size, fun j hj hn => (hb.block j hj).trans (hf.block j hj hn)⟩
end

set_option maxHeartbeats 16000000 in
set_option maxRecDepth 100000 in
theorem listN {g : Gram} {ra : Option Addr} {rcap N n : Nat} {d : Cid} {S : Nat → Nat → Bool} {w1 : World} {xb f : Nat} (hok : OkC g N) (hn : n ≤ 24) (hR : Rd AnyB w1 (.sl (g.rules.map Rule.d)) [.slice ra g.rules.length rcap]) (hxb : d.cb < xb)
    (hT : TreeP g (.slice ra g.rules.length rcap) N n d S w1 xb f) : ListP g (.slice ra g.rules.length rcap) N n d S w1 xb f := by
  intro l hl hl4 k0 hk0 hF0 i0 ks hi0 hlen0 a0 cap0 w0 hrd0 hC hx
  obtain ⟨PST, HP⟩ := nameIt (TsPost g (.slice ra g.rules.length rcap) N n d S w1 ks w0)
  rw [HP.out]
  have HXN : Hid (∀ a, a < N → d.rc a ≠ xb) := hC.over hxb
  have HCB : Hid (d.cb < w0.heap.size) := hC.cbl'
  obtain ⟨c0, hc1, hc2⟩ : ∃ c : Nat, l.length ≤ cap0 ∧ cap0 ≤ maxLen := by obtain ⟨a', cap', L, e, h1, h2, _⟩ := hrd0; simp at e h1; exact ⟨0, by omega, by omega⟩
  unfold maxLen at hc2
  have hE := ends_MM (rules := g.rules) (S := S) (N := N) (n := n) hok.r
  obtain ⟨VR, HVR⟩ := nameIt (Value.slice ra g.rules.length rcap)
  rw [HVR.out] at hT hC hx HP
  have HI0 : Hid (LIv g VR N n d S w1 f l ks w0 0 k0 i0 a0 cap0 (.slice none 0 0) w0) :=
    ⟨hk0, (by rw [List.drop_zero]; exact hF0), (by rw [List.drop_zero, List.drop_zero]; exact hi0), (by rw [List.drop_zero]; exact hlen0), (by rw [List.drop_zero, Nat.sub_zero]; exact hrd0), by omega, (by rw [List.take_zero]; exact RowD.nil _ _ _ _ _ (Nat.le_refl _)), NI.start hC⟩
  have HFIN : Hid (∀ (k i : Nat) al cl vo W, LIv g VR N n d S w1 f l ks w0 l.length k i al cl vo W → PST (.returned vo) W) := by
    intro k i al cl vo W h
    have hks : ks.take l.length = ks := by
      have h1 := h.at'
      rw [List.drop_length] at h1
      unfold enL at h1
      by_cases hk : k = 0
      · rw [if_pos hk] at h1
        cases i with
        | zero =>
          have h2 : ks.drop l.length = [] := by simpa using h1.symm
          exact List.take_of_length_le (by simpa using h2)
        | succ i => simp at h1
      · rw [if_neg hk] at h1; simp at h1
    have hrow := h.row
    rw [hks] at hrow
    rw [← HP.out]
    exact ⟨vo, rfl, hrow.rd.mono (fun b hb _ => hb.elim id id), h.ni.fr, h.ni.cs⟩
  have HST : Hid (∀ (p k i : Nat) (al : Option Addr) (cl : Nat) (vo : Value) (W : World), (hp : p < l.length) → LIv g VR N n d S w1 f l ks w0 p k i al cl vo W →
      ∃ (sb so : Nat) (RV FV : Nat → Int) (BL PQ EL : Nat → Nat), al = some ⟨sb, so, none⟩ ∧ l.length - p ≤ cl ∧ cl ≤ 9223372036854775807 ∧ l.length - p ≤ 9223372036854775807 ∧ PQ 0 = 0 ∧ (∀ q, q ≤ k → PQ (q + 1) = PQ q + BL q) ∧ i < PQ (k + 1) ∧ i < 1000000000 ∧ k ≤ 24 ∧
        (∀ W', Below w1.heap.size w1 W' → W'.cell? ⟨sb, so, none⟩ = some (.bool l[p].term) ∧ W'.cell? ⟨sb, so + 1, none⟩ = some (.int .i64 l[p].n)) ∧
        (∀ q, q ≤ k → (if 0 < RV q then FV q else 0) * RV q = (BL q : Int)) ∧ (∀ q, q ≤ k → BL q < 1000000000) ∧
        (∀ q, q ≤ k → ∀ W, CntR g VR N n d S w1 W → Calls Try.prog 57 #[.pointer (some ⟨d.cb, 0, none⟩), .slice (some ⟨sb, if cl = 1 then so else so + 2, none⟩) (l.length - p - 1) (cl - 1), .int .i64 ((k - q : Nat) : Int)] W fun e W' => e = .returned (.int .i64 (RV q)) ∧ Fr N d W W' ∧ CntR g VR N n d S w1 W') ∧
        (∀ q, q ≤ k → ∀ W, CntR g VR N n d S w1 W → Calls Try.prog 29 #[.pointer (some ⟨d.cb, 0, none⟩), .agg #[.bool l[p].term, .int .i64 l[p].n], .int .i64 (q : Int)] W fun e W' => e = .returned (.int .i64 (FV q)) ∧ Fr N d W W' ∧ CntR g VR N n d S w1 W') ∧
        (∀ q x, q ≤ k → i = PQ q + x → x < BL q → ∃ t : Tree, RV q = (EL q : Int) ∧ 0 < EL q ∧ EL q < 1000000000 ∧ NxQ g N n S w1 f l ks p k q (x % EL q) (some ⟨sb, if cl = 1 then so else so + 2, none⟩) (cl - 1) t ∧
          ∀ W, CntR g VR N n d S w1 W → W.heap[xb]? = some (nbox g VR d) → Calls Try.prog 51 #[.pointer (some ⟨xb, 0, none⟩), .agg #[.bool l[p].term, .int .i64 l[p].n], .int .i64 (q : Int), .int .i64 ((x / EL q : Nat) : Int)] W (TrPost g VR N n d S w1 t W))) := by
    intro p k i al cl vo W hp h
    have hdrop : l.drop p = l[p] :: l.drop (p + 1) := List.drop_eq_getElem_cons hp
    have hrd := h.rd
    obtain ⟨sb, so, rfl, -, hsb, u0, u1⟩ := hrd.sym_at (i := 0) (by rw [List.length_drop]; omega)
    simp only [List.getElem_drop, Nat.zero_mul, Nat.add_zero] at u0 u1
    have hbn := hrd.bounds
    have hmx : maxLen = 9223372036854775807 := rfl
    have hfine := h.fine
    have hat := h.at'
    have hlt := h.lt
    rw [hdrop] at hfine hat hlt
    have hkn := h.kn
    have hrest : Rd AnyB w1 (.sl ((l.drop (p + 1)).map Sym.d)) [.slice (some ⟨sb, if cl = 1 then so else so + 2, none⟩) (l.length - p - 1) (cl - 1)] := by
      have := rd_rest (k := 2) 1 hrd (syms_cells _) (by omega)
      rw [← List.map_drop, List.drop_drop, Nat.one_mul] at this
      exact this
    have hokl : ∀ s ∈ l.drop (p + 1), okS N s := fun s hs => hl s (List.mem_of_mem_drop hs)
    have hoks : okS N l[p] := hl _ (List.getElem_mem hp)
    have hbv := fun q (hq : q ≤ k) => blk_val (cap := MaxC) (many := -1) (by decide) (by decide) hE hfine hq (by have h1 : (enL S (symE S (EN g.rules S (sizeK N n))) (l[p] :: l.drop (p + 1)) k).length < 1000000000 := hlt; unfold MaxC; omega)
    have hple := fun q (hq : q ≤ k) => pre_len_le (S := S) (o := SE g S N n) (s := l[p]) (l := l.drop (p + 1)) (k := k) (j := q + 1) (by omega)
    have hill := (List.getElem?_eq_some_iff.1 hat).1
    refine ⟨sb, so, fun q => listV S MaxC (symV S (valK g.rules S (MK g.rules S N n) MaxC (-1) (sizeK N n))) (l.drop (p + 1)) (k - q), fun q => symV S (valK g.rules S (MK g.rules S N n) MaxC (-1) (sizeK N n)) l[p] q,
      fun q => (blk S (SE g S N n) l[p] (l.drop (p + 1)) k q).length, fun q => (pre S (SE g S N n) l[p] (l.drop (p + 1)) k q).length, fun q => (enL S (SE g S N n) (l.drop (p + 1)) (k - q)).length, rfl, by omega, by omega, by omega, rfl, fun q _ => pre_len, by rw [enL_pre] at hill; exact hill, by omega, by omega, ?_, fun q hq => (hbv q hq).1, ?_, ?_, ?_, ?_⟩
    · exact fun W' hb => ⟨(hb.cell (lt_of_cell u0)).trans u0, (hb.cell (lt_of_cell u1)).trans u1⟩
    · intro q hq
      have h1 := hple q hq
      rw [pre_len] at h1
      show (blk S (SE g S N n) l[p] (l.drop (p + 1)) k q).length < _
      omega
    · intro q hq W' hc
      obtain ⟨C, hc⟩ := hc
      have h1 := (listE (n := n) (by omega) (ofE (d := d) (w0 := w1) (n := n) (by omega) (by have := hok.n2; omega) hok.r (ends_MK (rules := g.rules) (S := S) (N := N) (n := n) hok.r) hR (sizeK N n + 1)) (l.drop (p + 1)) hokl (k - q) (by omega) (fun _ _ _ _ _ _ _ _ _ _ => okK_all _ _ _ (Nat.lt_succ_self _)) (some ⟨sb, if cl = 1 then so else so + 2, none⟩) (cl - 1) C W' (by rw [HVR.out]; exact hc) (by rw [List.length_drop, show l.length - (p + 1) = l.length - p - 1 by omega]; exact hrest))
      rw [List.length_drop, show l.length - (p + 1) = l.length - p - 1 by omega, HVR.out] at h1
      exact h1
    · intro q hq W' hc
      obtain ⟨C, hc⟩ := hc
      have h1 := (ofE (d := d) (w0 := w1) (n := n) (by omega) (by have := hok.n2; omega) hok.r (ends_MK (rules := g.rules) (S := S) (N := N) (n := n) hok.r) hR (sizeK N n + 1) l[p] q C W' hoks (by omega) (fun _ => okK_all _ _ _ (Nat.lt_succ_self _)) (by rw [HVR.out]; exact hc))
      rw [HVR.out] at h1
      exact h1
    · intro q x hq hi hxb'
      dsimp only at hi hxb' ⊢
      have hx0 : 0 < (blk S (SE g S N n) l[p] (l.drop (p + 1)) k q).length := by omega
      obtain ⟨e1, e2, e3, e4, e5, e6, e7⟩ := (hbv q hq).2 hx0
      obtain ⟨t, y, hz, ht, hy⟩ := enL_found hq hi hxb' hat
      have hks : ks = ks.take p ++ t :: y := by rw [← hz, List.take_append_drop]
      have hpl : (ks.take p).length = p := by rw [List.length_take]; have := h.pk; omega
      have hdy : ks.drop (p + 1) = y := by
        rw [hks, List.drop_append, hpl, List.drop_of_length_le (by rw [hpl]; omega), show p + 1 - p = 1 by omega]
        rfl
      refine ⟨t, e3, e4, by unfold MaxC at e7; have : ((enL S (SE g S N n) (l.drop (p + 1)) (k - q)).length : Int) < 1000000000 := e7; omega, ⟨by omega, hfine.tail hq e1, by rw [hdy]; exact hy, by unfold MaxC at e7; have : ((enL S (SE g S N n) (l.drop (p + 1)) (k - q)).length : Int) < 1000000000 := e7; omega, by rw [show l.length - (p + 1) = l.length - p - 1 by omega]; exact hrest, ?_, ?_⟩, ?_⟩
      · have h1 : ks.take (p + 1) = (ks.take p ++ t :: y).take (p + 1) := congrArg _ hks
        rw [h1, List.take_append, hpl, List.take_of_length_le (by omega), show p + 1 - p = 1 by omega]
        rfl
      · have h1 := congrArg List.length hks
        rw [List.length_append, hpl, List.length_cons] at h1
        omega
      · intro W' hc hb
        exact hT l[p] hoks q (by omega) (fun ht' => hfine.head hq e1 e2 ht') (x / (enL S (SE g S N n) (l.drop (p + 1)) (k - q)).length) t ht (by unfold MaxC at e6; have : ((SE g S N n l[p] q).length : Int) < 1000000000 := e6; omega) W' hc hb
  have HNB : Hid (nbox g VR d = .cells #[.int .i64 g.terms, .int .i64 (N : Int), .int .i64 g.start, VR, .pointer (some ⟨d.cb, 0, none⟩)] 85 (0, 0)) := by show _ = _; unfold nbox; rw [hok.nons]
  rw [HNB.out] at hx
  simp only [HNB.out] at HST
  have HXB : Hid (∀ W', Fr N d w0 W' → W'.heap[xb]? = some (.cells #[.int .i64 g.terms, .int .i64 (N : Int), .int .i64 g.start, VR, .pointer (some ⟨d.cb, 0, none⟩)] 85 (0, 0))) := fun W' h => h.bx hx HXN.out
  obtain ⟨gt, HGT⟩ := nameIt g.terms
  obtain ⟨gs, HGS⟩ := nameIt g.start
  rw [HGT.out, HGS.out] at HXB
  simp only [HGT.out, HGS.out] at HST
  have HSX : Hid (∀ W', NI g VR N n d S w1 w0 W' → W'.cell? ⟨xb, 0 + 4, none⟩ = some (.pointer (some ⟨d.cb, 0, none⟩))) := by
    intro W' h
    obtain ⟨x0, x1, x2, x3, x4⟩ := bx_cells5c (HXB.out W' h.fr)
    exact x4
  obtain ⟨ln, HLN⟩ := nameIt l.length
  have HLNE := HLN.out
  rw [HLN.out] at hl4
  rw [HLN.out] at HFIN hc1
  simp only [HLNE] at HST
  rw [HLN.out]
  clear hl hF0 hi0 hlen0 hrd0 hC hx hT hok hE hR HVR HP
  go_enter Try.func76, Try.ntmps76
  go_wp2_with fail
  go_loopg [1, 2, 3, 9, 10, 11, 12] ln (fun gg v1 v2 v3 v9 v10 v11 v12 wr => ∃ (p k i : Nat) (al : Option Addr) (cl : Nat) (vo : Value), p ≤ ln ∧ ln - p ≤ gg ∧ v1 = .slice al (ln - p) cl ∧ v2 = .int .i64 (k : Int) ∧ v3 = .int .i64 (i : Int) ∧ vo = v9 ∧ Hid (LIv g VR N n d S w1 f l ks w0 p k i al cl vo wr))
  case atStart => exact ⟨0, k0, i0, a0, cap0, _, by omega, by omega, rfl, rfl, rfl, rfl, HI0⟩
  case round =>
    clear HI0
    obtain ⟨p, k, i, al, cl, vo, hp, hgg, rfl, rfl, rfl, rfl, HI⟩ := hrel
    obtain ⟨w4, rfl⟩ : ∃ ww : World, ww = wr := ⟨_, rfl⟩
    by_cases hpl : p < ln
    · have hpx : p < l.length := by rw [HLNE]; exact hpl
      obtain ⟨sb, so, RV, FV, BL, PQ, EL, rfl, hcl, hclm, hlm, hpq0, hpq, hik, hib, hk24, hsyc, hbv, hbl, hls, hos, hnx⟩ := HST.out p k i al cl vo w4 hpl HI.out
      obtain ⟨m, HM⟩ := nameIt (ln - p)
      rw [HM.out] at hcl hlm hls
      rw [HM.out]
      have hm1 : 1 ≤ m := by have := HM.out; omega
      have hm0 : (0 : Int) < (m : Int) := by omega
      have hmd : decide ((0 : Int) < (m : Int)) = true := by simp; omega
      have hmd' : decide (0 < m) = true := by simp; omega
      have hmne : ¬ m = 0 := by omega
      have hmc : (m : Int) ≤ (cl : Int) := by omega
      have hm1' : (1 : Int) ≤ (m : Int) := by omega
      have hcl1 : (1 : Int) ≤ (cl : Int) := by omega
      obtain ⟨⟨st, sn⟩, HSYN⟩ := nameIt (l[p]'hpx)
      simp only [HSYN.out] at hsyc hos hnx
      obtain ⟨soff, HSO⟩ := nameIt (if cl = 1 then so else so + 2)
      obtain ⟨n2, HN2⟩ := nameIt (m - 1)
      obtain ⟨c2, HC2⟩ := nameIt (cl - 1)
      rw [HSO.out, HN2.out, HC2.out] at hls
      simp only [HSO.out, HC2.out] at hnx
      have HSYC := Lib.hid hsyc
      have HBV := Lib.hid hbv
      have HBL := Lib.hid hbl
      have HLS := Lib.hid hls
      have HOS := Lib.hid hos
      have HNXT := Lib.hid hnx
      have HPQ0 := Lib.hid hpq0
      have HPQ := Lib.hid hpq
      have HIK := Lib.hid hik
      clear hsyc hbv hbl hls hos hnx hpq0 hpq hik
      have HSY : Hid (∀ W', NI g VR N n d S w1 w0 W' → W'.cell? ⟨xb, 0 + 4, none⟩ = some (.pointer (some ⟨d.cb, 0, none⟩)) ∧ W'.cell? ⟨sb, so, none⟩ = some (.bool st) ∧ W'.cell? ⟨sb, so + 1, none⟩ = some (.int .i64 sn)) := by
        intro W' h
        obtain ⟨k0, k1⟩ := HSYC.out W' h.cs.bel
        exact ⟨HSX.out W' h, k0, k1⟩
      have HRW4 := Lib.hid HI.out.row
      have HNI4 := Lib.hid HI.out.ni
      have HPL : Hid (((ks.take p).map Tree.d).length = p) := by show _ = p; rw [List.length_map, List.length_take]; have := HI.out.pk; omega
      obtain ⟨ao, co, hvo, hco1, hco2, hown⟩ := HRW4.out.form
      rw [HPL.out] at hvo hco1
      unfold maxLen at hco2
      subst hvo
      have HOWN := Lib.hid hown
      have HNX1 : Hid (NxQ g N n S w1 f l ks p k 0 0 (some ⟨sb, soff, none⟩) c2 (.node 0 0 []) → True) := fun _ => trivial
      clear hown HNX1 HSYC
      go_wp2_with fail
      go_loopg [2, 3, 9, 10, 11, 12] (k + 1) (fun gg v2 v3 v9 v10 v11 v12 wr => ∃ (q x : Nat), q ≤ k + 1 ∧ k + 1 - q ≤ gg ∧ x ≤ i ∧ v2 = .int .i64 (k : Int) ∧ v3 = .int .i64 (x : Int) ∧ v9 = .slice ao p co ∧ v10 = .int .i64 (q : Int) ∧ Hid (i = PQ q + x) ∧ Hid (NI g VR N n d S w1 w0 wr) ∧ Hid (Fr N d w4 wr))
      case atStart => exact ⟨0, i, by omega, by omega, by omega, rfl, rfl, rfl, rfl, (by show i = _; rw [HPQ0.out]; omega), HNI4, Fr.refl _ _ _⟩
      case round =>
        obtain ⟨q, x, hq, hgq, hxi, rfl, rfl, rfl, rfl, HIX, HNI5, HF45⟩ := hrel
        obtain ⟨w5, rfl⟩ : ∃ ww : World, ww = wr := ⟨_, rfl⟩
        by_cases hqk : q ≤ k
        · obtain ⟨kq, HKQ⟩ := nameIt (k - q)
          have hkqw : IntKind.i64.wrap ((k : Int) - (q : Int)) = (kq : Int) := by rw [IntWalk.i64_in _ (by omega)]; have := HKQ.out; omega
          have HLQ := Lib.hid (HLS.out q hqk)
          rw [HKQ.out] at HLQ
          have HOQ := Lib.hid (HOS.out q hqk)
          have HBQ := Lib.hid (HBV.out q hqk)
          have hblq := HBL.out q hqk
          have HNQ0 := Lib.hid (fun x => HNXT.out q x hqk)
          have HPQ1 := Lib.hid (HPQ.out q hqk)
          obtain ⟨R, HRV⟩ := nameIt (RV q)
          obtain ⟨F, HFV⟩ := nameIt (FV q)
          obtain ⟨b, HBLN⟩ := nameIt (BL q)
          obtain ⟨el, HELN⟩ := nameIt (EL q)
          rw [HRV.out] at HLQ HBQ
          rw [HFV.out] at HOQ HBQ
          rw [HBLN.out] at HBQ hblq HPQ1
          simp only [HRV.out, HBLN.out, HELN.out] at HNQ0
          go_upto_region 5 with fail
          have HS := HSX
          have HND := Lib.hid (HNI5.out.keep (Below.refl _ _).drew)
          refine wp_region_U (S := (fun w' => w'.cell? ⟨xb, 0 + 4, none⟩ = some (.pointer (some ⟨d.cb, 0, none⟩)))) 10 (by kernel_rfl) (fun inv => ?_)
          refine wpU_take (i := 0) (v := .pointer (some ⟨xb, 0, none⟩)) rfl inv (by kernel_rfl) (by kernel_rfl) (by decide) (by decide) (by kernel_rfl) (by kernel_rfl) (by kernel_rfl) (fun _ _ _ h => h) (Or.inl ⟨by rfl, fun w' hw' => ?_⟩) (HS.out _ HND.out) (fun inv => ?_)
          · obtain h0 := hw'
            go_simp
          try simp only [Act.put, List.setIfInBounds_toArray, List.set_cons_zero, List.set_cons_succ]
          refine wpU_take (i := 1) (v := .pointer (some ⟨xb, 0, none⟩)) rfl inv (by kernel_rfl) (by kernel_rfl) (by decide) (by decide) (by kernel_rfl) (by kernel_rfl) (by kernel_rfl) (fun _ _ _ h => h) (Or.inl ⟨by rfl, fun w' hw' => ?_⟩) (HS.out _ HND.out) (fun inv => ?_)
          · obtain h0 := hw'
            go_simp
          try simp only [Act.put, List.setIfInBounds_toArray, List.set_cons_zero, List.set_cons_succ]
          refine wpU_take (i := 2) (v := .pointer (some ⟨xb, 0 + 4, none⟩)) rfl inv (by kernel_rfl) (by kernel_rfl) (by decide) (by decide) (by kernel_rfl) (by kernel_rfl) (by kernel_rfl) (fun _ _ _ h => h) (Or.inl ⟨by rfl, fun w' hw' => ?_⟩) (HS.out _ HND.out) (fun inv => ?_)
          · obtain h0 := hw'
            go_simp
          try simp only [Act.put, List.setIfInBounds_toArray, List.set_cons_zero, List.set_cons_succ]
          refine wpU_take (i := 3) (v := .pointer (some ⟨d.cb, 0, none⟩)) rfl inv (by kernel_rfl) (by kernel_rfl) (by decide) (by decide) (by kernel_rfl) (by kernel_rfl) (by kernel_rfl) (fun _ _ _ h => h) (Or.inl ⟨by rfl, fun w' hw' => ?_⟩) (HS.out _ HND.out) (fun inv => ?_)
          · obtain h0 := hw'
            go_simp
          try simp only [Act.put, List.setIfInBounds_toArray, List.set_cons_zero, List.set_cons_succ]
          refine wpU_take (i := 4) (v := .slice (some ⟨sb, so, none⟩) m cl) rfl inv (by kernel_rfl) (by kernel_rfl) (by decide) (by decide) (by kernel_rfl) (by kernel_rfl) (by kernel_rfl) (fun _ _ _ h => h) (Or.inl ⟨by rfl, fun w' hw' => ?_⟩) (HS.out _ HND.out) (fun inv => ?_)
          · obtain h0 := hw'
            go_simp
          try simp only [Act.put, List.setIfInBounds_toArray, List.set_cons_zero, List.set_cons_succ]
          refine wpU_take (i := 5) (v := .slice (some ⟨sb, soff, none⟩) n2 c2) rfl inv (by kernel_rfl) (by kernel_rfl) (by decide) (by decide) (by kernel_rfl) (by kernel_rfl) (by kernel_rfl) (fun _ _ _ h => h) (Or.inl ⟨by rfl, fun w' hw' => ?_⟩) (HS.out _ HND.out) (fun inv => ?_)
          · obtain h0 := hw'
            rw [← HSO.out, ← HN2.out, ← HC2.out]; by_cases hct : cl = 1; (rw [if_pos hct, show m - 1 = 0 by omega, show cl - 1 = 0 by omega]; subst hct; go_simp); (rw [if_neg hct]; go_simp)
          try simp only [Act.put, List.setIfInBounds_toArray, List.set_cons_zero, List.set_cons_succ]
          refine wpU_take (i := 6) (v := .int .i64 (k : Int)) rfl inv (by kernel_rfl) (by kernel_rfl) (by decide) (by decide) (by kernel_rfl) (by kernel_rfl) (by kernel_rfl) (fun _ _ _ h => h) (Or.inl ⟨by rfl, fun w' hw' => ?_⟩) (HS.out _ HND.out) (fun inv => ?_)
          · obtain h0 := hw'
            go_simp
          try simp only [Act.put, List.setIfInBounds_toArray, List.set_cons_zero, List.set_cons_succ]
          refine wpU_take (i := 7) (v := .int .i64 (q : Int)) rfl inv (by kernel_rfl) (by kernel_rfl) (by decide) (by decide) (by kernel_rfl) (by kernel_rfl) (by kernel_rfl) (fun _ _ _ h => h) (Or.inl ⟨by rfl, fun w' hw' => ?_⟩) (HS.out _ HND.out) (fun inv => ?_)
          · obtain h0 := hw'
            go_simp
          try simp only [Act.put, List.setIfInBounds_toArray, List.set_cons_zero, List.set_cons_succ]
          refine wpU_take (i := 8) (v := .int .i64 (kq : Int)) rfl inv (by kernel_rfl) (by kernel_rfl) (by decide) (by decide) (by kernel_rfl) (by kernel_rfl) (by kernel_rfl) (fun _ _ _ h => h) (Or.inl ⟨by rfl, fun w' hw' => ?_⟩) (HS.out _ HND.out) (fun inv => ?_)
          · obtain h0 := hw'
            go_simp
          try simp only [Act.put, List.setIfInBounds_toArray, List.set_cons_zero, List.set_cons_succ]
          refine wpU_one (i := 9) (by kernel_rfl) rfl (fun K hK => ?_)
          replace inv := inv_setc (i := 9) inv (by kernel_rfl) (by decide)
          go_simp
          with_reducible refine (HLQ.out _ HND.out.cs).mono ?_
          rintro e w6 ⟨rfl, hf, hc⟩
          have HNw6 := Lib.hid (HND.out.of hf hc)
          have HFw6 : Hid (Fr N d w5 w6) := (Fr.of (Below.refl _ _).drew).trans hf
          clear hf hc HND
          refine hK.out _ _ (fun _ => HS.out _ HNw6.out) ?_
          clear hK K
          try simp only [Act.put, List.setIfInBounds_toArray, List.set_cons_zero, List.set_cons_succ]
          refine wpU_one (i := 10) (by kernel_rfl) rfl (fun K hK => ?_)
          go_simp
          refine hK.out _ _ (fun h => absurd (show true = false from h) (by decide)) ?_
          clear hK K
          try simp only [Act.put, List.setIfInBounds_toArray, List.set_cons_zero, List.set_cons_succ]
          refine wpU_done (by kernel_rfl) ?_ _
          clear HS

          by_cases hR0 : 0 < R
          · have hRb : decide (0 < R) = true := by simpa using hR0
            have HBQ1 : Hid (F * R = (b : Int)) := by have := HBQ.out; rw [if_pos hR0] at this; exact this
            go_upto_region 8 with fail
            have HS := HSY
            have HND := Lib.hid (HNw6.out.keep (Below.refl _ _).drew)
            refine wp_region_U (S := (fun w' => w'.cell? ⟨xb, 0 + 4, none⟩ = some (.pointer (some ⟨d.cb, 0, none⟩)) ∧ w'.cell? ⟨sb, so, none⟩ = some (.bool st) ∧ w'.cell? ⟨sb, so + 1, none⟩ = some (.int .i64 sn))) 9 (by kernel_rfl) (fun inv => ?_)
            refine wpU_take (i := 0) (v := .pointer (some ⟨xb, 0, none⟩)) rfl inv (by kernel_rfl) (by kernel_rfl) (by decide) (by decide) (by kernel_rfl) (by kernel_rfl) (by kernel_rfl) (fun _ _ _ h => h) (Or.inl ⟨by rfl, fun w' hw' => ?_⟩) (HS.out _ HND.out) (fun inv => ?_)
            · obtain ⟨h0, h1, h2⟩ := hw'
              go_simp
            try simp only [Act.put, List.setIfInBounds_toArray, List.set_cons_zero, List.set_cons_succ]
            refine wpU_take (i := 1) (v := .pointer (some ⟨xb, 0, none⟩)) rfl inv (by kernel_rfl) (by kernel_rfl) (by decide) (by decide) (by kernel_rfl) (by kernel_rfl) (by kernel_rfl) (fun _ _ _ h => h) (Or.inl ⟨by rfl, fun w' hw' => ?_⟩) (HS.out _ HND.out) (fun inv => ?_)
            · obtain ⟨h0, h1, h2⟩ := hw'
              go_simp
            try simp only [Act.put, List.setIfInBounds_toArray, List.set_cons_zero, List.set_cons_succ]
            refine wpU_take (i := 2) (v := .pointer (some ⟨xb, 0 + 4, none⟩)) rfl inv (by kernel_rfl) (by kernel_rfl) (by decide) (by decide) (by kernel_rfl) (by kernel_rfl) (by kernel_rfl) (fun _ _ _ h => h) (Or.inl ⟨by rfl, fun w' hw' => ?_⟩) (HS.out _ HND.out) (fun inv => ?_)
            · obtain ⟨h0, h1, h2⟩ := hw'
              go_simp
            try simp only [Act.put, List.setIfInBounds_toArray, List.set_cons_zero, List.set_cons_succ]
            refine wpU_take (i := 3) (v := .pointer (some ⟨d.cb, 0, none⟩)) rfl inv (by kernel_rfl) (by kernel_rfl) (by decide) (by decide) (by kernel_rfl) (by kernel_rfl) (by kernel_rfl) (fun _ _ _ h => h) (Or.inl ⟨by rfl, fun w' hw' => ?_⟩) (HS.out _ HND.out) (fun inv => ?_)
            · obtain ⟨h0, h1, h2⟩ := hw'
              go_simp
            try simp only [Act.put, List.setIfInBounds_toArray, List.set_cons_zero, List.set_cons_succ]
            refine wpU_take (i := 4) (v := .slice (some ⟨sb, so, none⟩) m cl) rfl inv (by kernel_rfl) (by kernel_rfl) (by decide) (by decide) (by kernel_rfl) (by kernel_rfl) (by kernel_rfl) (fun _ _ _ h => h) (Or.inl ⟨by rfl, fun w' hw' => ?_⟩) (HS.out _ HND.out) (fun inv => ?_)
            · obtain ⟨h0, h1, h2⟩ := hw'
              go_simp
            try simp only [Act.put, List.setIfInBounds_toArray, List.set_cons_zero, List.set_cons_succ]
            refine wpU_take (i := 5) (v := .pointer (some ⟨sb, so, none⟩)) rfl inv (by kernel_rfl) (by kernel_rfl) (by decide) (by decide) (by kernel_rfl) (by kernel_rfl) (by kernel_rfl) (fun _ _ _ h => h) (Or.inl ⟨by rfl, fun w' hw' => ?_⟩) (HS.out _ HND.out) (fun inv => ?_)
            · obtain ⟨h0, h1, h2⟩ := hw'
              go_simp
            try simp only [Act.put, List.setIfInBounds_toArray, List.set_cons_zero, List.set_cons_succ]
            refine wpU_take (i := 6) (v := .agg #[.bool st, .int .i64 sn]) rfl inv (by kernel_rfl) (by kernel_rfl) (by decide) (by decide) (by kernel_rfl) (by kernel_rfl) (by kernel_rfl) (fun _ _ _ h => h) (Or.inl ⟨by rfl, fun w' hw' => ?_⟩) (HS.out _ HND.out) (fun inv => ?_)
            · obtain ⟨h0, h1, h2⟩ := hw'
              go_simp
            try simp only [Act.put, List.setIfInBounds_toArray, List.set_cons_zero, List.set_cons_succ]
            refine wpU_take (i := 7) (v := .int .i64 (q : Int)) rfl inv (by kernel_rfl) (by kernel_rfl) (by decide) (by decide) (by kernel_rfl) (by kernel_rfl) (by kernel_rfl) (fun _ _ _ h => h) (Or.inl ⟨by rfl, fun w' hw' => ?_⟩) (HS.out _ HND.out) (fun inv => ?_)
            · obtain ⟨h0, h1, h2⟩ := hw'
              go_simp
            try simp only [Act.put, List.setIfInBounds_toArray, List.set_cons_zero, List.set_cons_succ]
            refine wpU_one (i := 8) (by kernel_rfl) rfl (fun K hK => ?_)
            replace inv := inv_setc (i := 8) inv (by kernel_rfl) (by decide)
            go_simp
            with_reducible refine (HOQ.out _ HND.out.cs).mono ?_
            rintro e w7 ⟨rfl, hf, hc⟩
            have HNw7 := Lib.hid (HND.out.of hf hc)
            have HFw7 : Hid (Fr N d w6 w7) := (Fr.of (Below.refl _ _).drew).trans hf
            clear hf hc HND
            refine hK.out _ _ (fun _ => HS.out _ HNw7.out) ?_
            clear hK K
            try simp only [Act.put, List.setIfInBounds_toArray, List.set_cons_zero, List.set_cons_succ]
            refine wpU_one (i := 9) (by kernel_rfl) rfl (fun K hK => ?_)
            go_simp
            refine hK.out _ _ (fun h => absurd (show true = false from h) (by decide)) ?_
            clear hK K
            try simp only [Act.put, List.setIfInBounds_toArray, List.set_cons_zero, List.set_cons_succ]
            refine wpU_done (by kernel_rfl) ?_ _
            clear HS

            have hmul : IntKind.i64.wrap (F * R) = (b : Int) := by rw [HBQ1.out, IntWalk.i64_in _ (by omega)]
            by_cases hbx : b ≤ x
            · have hbx' : (b : Int) ≤ (x : Int) := by omega
              have hdec : decide ((b : Int) ≤ (x : Int)) = true := by simpa using hbx'
              have hsub : IntKind.i64.wrap ((x : Int) - (b : Int)) = ((x - b : Nat) : Int) := by rw [IntWalk.i64_in _ (by omega)]; omega
              have HIX2 : Hid (i = PQ (q + 1) + (x - b)) := by show i = _; have h1 := HIX.out; have h2 := HPQ1.out; omega
              have HF2 := Lib.hid (HF45.out.trans (HFw6.out.trans HFw7.out))
              go_wp2_with fail
              go_roundg (k + 1 - (q + 1))
              case measure => omega
              case rel => exact ⟨q + 1, x - b, by omega, by omega, by omega, rfl, by first | rfl | exact congrArg _ hsub, rfl, by go_num, HIX2, HNw7, HF2⟩
            · have hbx' : ¬ (b : Int) ≤ (x : Int) := by omega
              have hdec : decide ((b : Int) ≤ (x : Int)) = false := by simpa using hbx'
              obtain ⟨t, hRe, hel0, hel9, hnq, htq⟩ := HNQ0.out x HIX.out (by omega)
              subst hRe
              obtain ⟨iq, HIQ⟩ := nameIt (x / el)
              obtain ⟨ir, HIR⟩ := nameIt (x % el)
              rw [HIR.out] at hnq
              simp only [HIQ.out] at htq
              have HNQ := Lib.hid hnq
              have HTQ := Lib.hid htq
              have hdl := Nat.div_le_self x el
              have hml := Nat.mod_lt x hel0
              rw [HIQ.out] at hdl
              rw [HIR.out] at hml
              have hqu : IntKind.i64.wrap ((x : Int) / (el : Int)) = (iq : Int) := by
                rw [show (x : Int) / (el : Int) = ((x / el : Nat) : Int) from (Int.natCast_ediv x el).symm, HIQ.out, IntWalk.i64_in _ (by omega)]
              have hel0' : ¬ el = 0 := by omega
              have hre : (x : Int) % (el : Int) = (ir : Int) := by
                rw [show (x : Int) % (el : Int) = ((x % el : Nat) : Int) from (Int.natCast_emod x el).symm, HIR.out]
              have hq0 : (0 : Int) ≤ (iq : Int) := Int.natCast_nonneg _
              have hm0 : ¬ (el : Int) = 0 := by omega
              have hm0b : ((el : Int) == 0) = false := by simp; omega
              have HLT7 : Hid ((∀ b, (Value.slice ao p co).ownBlock = some b → b < w7.heap.size) ∧ w0.heap.size ≤ w7.heap.size ∧ d.cb < w0.heap.size) :=
                ⟨fun b e => Nat.lt_of_lt_of_le (HOWN.out b e).2 (HF45.out.trans (HFw6.out.trans HFw7.out)).size, HNw7.out.fr.size, HCB.out⟩
              have HRLT : Hid (∀ a, a < N → d.rc a < w0.heap.size) := HNw7.out.cs.rlt HCB.out
              have HRW7 := Lib.hid (RowD.fr HRW4.out (HF45.out.trans (HFw6.out.trans HFw7.out)) HRLT.out)
              clear hnq htq HNQ0 HPQ1
              go_upto_region 11 with fail
              have HS := HSY
              have HND := Lib.hid (HNw7.out.keep (Below.refl _ _).drew)
              refine wp_region_U (S := (fun w' => w'.cell? ⟨xb, 0 + 4, none⟩ = some (.pointer (some ⟨d.cb, 0, none⟩)) ∧ w'.cell? ⟨sb, so, none⟩ = some (.bool st) ∧ w'.cell? ⟨sb, so + 1, none⟩ = some (.int .i64 sn))) 12 (by kernel_rfl) (fun inv => ?_)
              refine wpU_take (i := 0) (v := .slice ao p co) rfl inv (by kernel_rfl) (by kernel_rfl) (by decide) (by decide) (by kernel_rfl) (by kernel_rfl) (by kernel_rfl) (fun _ _ _ h => h) (Or.inl ⟨by rfl, fun w' hw' => ?_⟩) (HS.out _ HND.out) (fun inv => ?_)
              · obtain ⟨h0, h1, h2⟩ := hw'
                go_simp
              try simp only [Act.put, List.setIfInBounds_toArray, List.set_cons_zero, List.set_cons_succ]
              refine wpU_take (i := 1) (v := .pointer (some ⟨xb, 0, none⟩)) rfl inv (by kernel_rfl) (by kernel_rfl) (by decide) (by decide) (by kernel_rfl) (by kernel_rfl) (by kernel_rfl) (fun _ _ _ h => h) (Or.inl ⟨by rfl, fun w' hw' => ?_⟩) (HS.out _ HND.out) (fun inv => ?_)
              · obtain ⟨h0, h1, h2⟩ := hw'
                go_simp
              try simp only [Act.put, List.setIfInBounds_toArray, List.set_cons_zero, List.set_cons_succ]
              refine wpU_take (i := 2) (v := .slice (some ⟨sb, so, none⟩) m cl) rfl inv (by kernel_rfl) (by kernel_rfl) (by decide) (by decide) (by kernel_rfl) (by kernel_rfl) (by kernel_rfl) (fun _ _ _ h => h) (Or.inl ⟨by rfl, fun w' hw' => ?_⟩) (HS.out _ HND.out) (fun inv => ?_)
              · obtain ⟨h0, h1, h2⟩ := hw'
                go_simp
              try simp only [Act.put, List.setIfInBounds_toArray, List.set_cons_zero, List.set_cons_succ]
              refine wpU_take (i := 3) (v := .pointer (some ⟨sb, so, none⟩)) rfl inv (by kernel_rfl) (by kernel_rfl) (by decide) (by decide) (by kernel_rfl) (by kernel_rfl) (by kernel_rfl) (fun _ _ _ h => h) (Or.inl ⟨by rfl, fun w' hw' => ?_⟩) (HS.out _ HND.out) (fun inv => ?_)
              · obtain ⟨h0, h1, h2⟩ := hw'
                go_simp
              try simp only [Act.put, List.setIfInBounds_toArray, List.set_cons_zero, List.set_cons_succ]
              refine wpU_take (i := 4) (v := .agg #[.bool st, .int .i64 sn]) rfl inv (by kernel_rfl) (by kernel_rfl) (by decide) (by decide) (by kernel_rfl) (by kernel_rfl) (by kernel_rfl) (fun _ _ _ h => h) (Or.inl ⟨by rfl, fun w' hw' => ?_⟩) (HS.out _ HND.out) (fun inv => ?_)
              · obtain ⟨h0, h1, h2⟩ := hw'
                go_simp
              try simp only [Act.put, List.setIfInBounds_toArray, List.set_cons_zero, List.set_cons_succ]
              refine wpU_take (i := 5) (v := .int .i64 (q : Int)) rfl inv (by kernel_rfl) (by kernel_rfl) (by decide) (by decide) (by kernel_rfl) (by kernel_rfl) (by kernel_rfl) (fun _ _ _ h => h) (Or.inl ⟨by rfl, fun w' hw' => ?_⟩) (HS.out _ HND.out) (fun inv => ?_)
              · obtain ⟨h0, h1, h2⟩ := hw'
                go_simp
              try simp only [Act.put, List.setIfInBounds_toArray, List.set_cons_zero, List.set_cons_succ]
              refine wpU_take (i := 6) (v := .int .i64 (x : Int)) rfl inv (by kernel_rfl) (by kernel_rfl) (by decide) (by decide) (by kernel_rfl) (by kernel_rfl) (by kernel_rfl) (fun _ _ _ h => h) (Or.inl ⟨by rfl, fun w' hw' => ?_⟩) (HS.out _ HND.out) (fun inv => ?_)
              · obtain ⟨h0, h1, h2⟩ := hw'
                go_simp
              try simp only [Act.put, List.setIfInBounds_toArray, List.set_cons_zero, List.set_cons_succ]
              refine wpU_take (i := 7) (v := .int .i64 (el : Int)) rfl inv (by kernel_rfl) (by kernel_rfl) (by decide) (by decide) (by kernel_rfl) (by kernel_rfl) (by kernel_rfl) (fun _ _ _ h => h) (Or.inl ⟨by rfl, fun w' hw' => ?_⟩) (HS.out _ HND.out) (fun inv => ?_)
              · obtain ⟨h0, h1, h2⟩ := hw'
                go_simp
              try simp only [Act.put, List.setIfInBounds_toArray, List.set_cons_zero, List.set_cons_succ]
              refine wpU_take (i := 8) (v := .int .i64 (iq : Int)) rfl inv (by kernel_rfl) (by kernel_rfl) (by decide) (by decide) (by kernel_rfl) (by kernel_rfl) (by kernel_rfl) (fun _ _ _ h => h) (Or.inl ⟨by rfl, fun w' hw' => ?_⟩) (HS.out _ HND.out) (fun inv => ?_)
              · obtain ⟨h0, h1, h2⟩ := hw'
                go_simp
              try simp only [Act.put, List.setIfInBounds_toArray, List.set_cons_zero, List.set_cons_succ]
              refine wpU_one (i := 9) (by kernel_rfl) rfl (fun K hK => ?_)
              replace inv := inv_setc (i := 9) inv (by kernel_rfl) (by decide)
              go_simp
              with_reducible refine (HTQ.out _ HND.out.cs (HXB.out _ HND.out.fr)).mono ?_
              rintro e w8 ⟨v8, rfl, hr8, hf, hc⟩
              have HNw8 := Lib.hid (HND.out.of hf hc)
              have HFw8 : Hid (Fr N d w7 w8) := (Fr.of (Below.refl _ _).drew).trans hf
              have HR8 : Hid (Rd (fun b => w7.heap.size ≤ b) w8 (.sl (t.kids.map Tree.d)) [v8]) := hr8
              have HRW8 := Lib.hid (RowD.fr HRW7.out HFw8.out HRLT.out)
              obtain ⟨a8, c8, rfl, -, -⟩ := hr8.form
              clear hf hc HND hr8
              refine hK.out _ _ (fun _ => HS.out _ HNw8.out) ?_
              clear hK K
              try simp only [Act.put, List.setIfInBounds_toArray, List.set_cons_zero, List.set_cons_succ]
              refine wpU_one (i := 10) (by kernel_rfl) rfl (fun K hK => ?_)
              replace inv := inv_setc (i := 10) inv (by kernel_rfl) (by decide)
              go_simp
              obtain ⟨n8, HN8⟩ := nameIt t.kids.length
              rw [List.length_map, HN8.out] at HR8
              rw [HN8.out]
              obtain ⟨tr, HTR⟩ := nameIt t.rule
              obtain ⟨tm, HTM⟩ := nameIt t.term
              rw [HTR.out, HTM.out]
              obtain ⟨w9, HW9⟩ := nameIt (w8.alloc (.cells #[.int .i64 tr, .int .i64 tm, .slice a8 n8 c8] 42))
              rw [HW9.out]
              have HB89 : Hid (Below w8.heap.size w8 w9) := by rw [← HW9.out]; exact (Below.refl _ _).alloc (Nat.le_refl _) _
              have X9 : Hid (w9.heap[w8.heap.size]? = some (.cells #[.int .i64 tr, .int .i64 tm, .slice a8 n8 c8] 42 (0, 0))) := by rw [← HW9.out]; exact bx_new _ _ _ rfl
              have HR9 : Hid (Rd (fun b => w7.heap.size ≤ b) w9 t.d [.int .i64 tr, .int .i64 tm, .slice a8 n8 c8]) := by rw [← HTR.out, ← HTM.out]; exact rd_tree (HR8.out.below HB89.out)
              have HNw9 := Lib.hid (HNw8.out.keep HB89.out)
              have HFw9 := Lib.hid (HFw8.out.trans (Fr.of HB89.out))
              have HRW9 := Lib.hid (HRW8.out.keep HB89.out)
              clear HR8 HRW8 HN8 HTR HTM HW9
              refine hK.out _ _ (fun _ => HS.out _ HNw9.out) ?_
              clear hK K
              try simp only [Act.put, List.setIfInBounds_toArray, List.set_cons_zero, List.set_cons_succ]
              refine wpU_one (i := 11) (by kernel_rfl) rfl (fun K hK => ?_)
              replace inv := inv_setc (i := 11) inv (by kernel_rfl) (by decide)
              obtain ⟨⟨xs9, ho9, hd9⟩, hle9⟩ := HRW9.out
              rw [HPL.out] at ho9
              refine step_appB elTree (by rfl) _ _ (by rfl) ho9 (by rfl) (by rfl) X9.out (by rfl) (by rfl) (by omega) (by unfold maxLen; omega) hle9 ?_
              intro g10 c10 w10 ho10 hg10 hat10 hlt10
              have HNX := Lib.hid (LIv.next HI.out HNQ.out HRW9.out HNw9.out HLT7.out HR9.out ho9 hd9 ho10 hg10 (at_lies hat10))
              clear ho9 hd9 hle9 ho10 hg10 hat10 hlt10
              refine hK.out _ _ (fun _ => HS.out _ HNX.out.ni) ?_
              clear hK K
              try simp only [Act.put, List.setIfInBounds_toArray, List.set_cons_zero, List.set_cons_succ]
              refine wpU_one (i := 12) (by kernel_rfl) rfl (fun K hK => ?_)
              go_simp
              refine hK.out _ _ (fun h => absurd (show true = false from h) (by decide)) ?_
              clear hK K
              try simp only [Act.put, List.setIfInBounds_toArray, List.set_cons_zero, List.set_cons_succ]
              refine wpU_done (by kernel_rfl) ?_ _
              clear HS

              have hkq2 : IntKind.i64.wrap ((k : Int) - (q : Int)) = (kq : Int) := hkqw
              have HNX2 : Hid (LIv g VR N n d S w1 f l ks w0 (p + 1) kq ir (some ⟨sb, soff, none⟩) c2 (.slice (some ⟨g10, 0, none⟩) (p + 1) c10) w10) := by have := HNX.out; rw [HKQ.out] at this; exact this
              have hm2 : n2 = ln - (p + 1) := by have h1 := HM.out; have h2 := HN2.out; omega
              rw [← HSO.out, ← HC2.out] at HNX2
              clear HNX
              by_cases hct : cl = 1
              all_goals
                first
                | (rw [if_pos hct] at HNX2; have hmm : m = 1 := (by omega); subst hct; subst hmm)
                | rw [if_neg hct] at HNX2
                go_wp2_with fail
                go_roundg (ln - (p + 1))
                case measure => omega
                case rel => exact ⟨p + 1, kq, ir, _, _, _, by omega, by omega, (by have h1 := HM.out; first | (have e : ln - (p + 1) = 0 := (by omega); rw [e]; done) | (have e : ln - (p + 1) = m - 1 := (by omega); rw [e])), rfl, rfl, rfl, HNX2⟩
          · have hRb : decide (0 < R) = false := by simpa using hR0
            have hb0 : b = 0 := by have := HBQ.out; rw [if_neg hR0, Int.zero_mul] at this; omega
            subst hb0
            have HIX2 : Hid (i = PQ (q + 1) + x) := by show i = _; have h1 := HIX.out; have h2 := HPQ1.out; omega
            have HF2 := Lib.hid (HF45.out.trans HFw6.out)
            go_wp2_with fail
            go_roundg (k + 1 - (q + 1))
            case measure => omega
            case rel => exact ⟨q + 1, x, by omega, by omega, by omega, rfl, rfl, rfl, by go_num, HIX2, HNw6, HF2⟩
        · exfalso
          obtain rfl : q = k + 1 := by omega
          have h1 := HIX.out
          have h2 := HIK.out
          omega
    · obtain rfl : p = ln := by omega
      have HE := Lib.hid (HFIN.out _ _ _ _ _ _ HI.out)
      rw [Nat.sub_self]
      obtain ⟨av, cv, hvo, -⟩ := HI.out.row.form
      obtain ⟨nv, HNV⟩ := nameIt ((ks.take p).map Tree.d).length
      rw [HNV.out] at hvo
      subst hvo
      clear HI
      go_wp2_with fail
      first | exact HE.out | (go_ret; exact HE.out)
end Cs
end Go.Proofs.Ytbnpemgmdnghgaa
namespace Go.Proofs.Ytbnpemgmdnghgaa
open Go.RowKit
namespace Cs

theorem okC4 {g : Gram} (h : checkG g = 0) : ∀ r ∈ g.rules, r.right.length ≤ 1000 := by
  unfold checkG at h
  by_cases hb : badHead g = true
  · rw [if_pos hb] at h; cases h
  · rw [if_neg hb] at h
    by_cases hl : 32 < g.rules.length
    · rw [if_pos hl] at h; cases h
    · rw [if_neg hl] at h
      intro r hr
      have := (faultsFrom_zero h r hr).2.2.1
      omega
theorem errC_check {g : Gram} {n : Int} (h : errC g n = 0) : checkG g = 0 := by
  unfold errC at h
  by_cases h1 : checkG g ≠ 0
  · rw [if_pos h1] at h; exact absurd h h1
  · simpa using h1
theorem treeAll {g : Gram} {ra : Option Addr} {rcap N n : Nat} {d : Cid} {S : Nat → Nat → Bool} {w1 : World} {xb : Nat} (hok : OkC g N) (hn : n ≤ 24) (hR : Rd AnyB w1 (.sl (g.rules.map Rule.d)) [.slice ra g.rules.length rcap]) (hxb : d.cb < xb) (h4 : ∀ r ∈ g.rules, r.right.length ≤ 1000) :
    ∀ f, TreeP g (.slice ra g.rules.length rcap) N n d S w1 xb f
  | 0 => treeN hok hn hR hxb h4 fun f0 h => by omega
  | f + 1 => treeN hok hn hR hxb h4 fun f0 h => by
    obtain rfl : f = f0 := by omega
    exact listN hok hn hR hxb (treeAll hok hn hR hxb h4 f)
/-- what is counted is what is listed -/
theorem start_val {g : Gram} {N n : Nat} {S : Nat → Nat → Bool} (hok : OkC g N) (h1 : startC g S N n ≠ -1) (h2 : startC g S N n < MaxC) :
    startC g S N n = ((SE g S N n ⟨false, g.start⟩ n).length : Int) ∧ ((SE g S N n ⟨false, g.start⟩ n).length : Int) < MaxC ∧ (0 < (SE g S N n ⟨false, g.start⟩ n).length → MK g.rules S N n g.start.toNat n = false) := by
  obtain ⟨A, hA, hAN⟩ := start_off g N hok
  have hE := ends_MM (rules := g.rules) (S := S) (N := N) (n := n) hok.r
  have hst : startC g S N n = symV S (valK g.rules S (MK g.rules S N n) MaxC (-1) (sizeK N n)) ⟨false, (A : Int)⟩ n := by
    show tC g S N n g.start.toNat n = _
    rw [hA]; rfl
  rw [hA, Int.toNat_natCast]
  have hh : hasK S ⟨false, (A : Int)⟩ n = S A n := rfl
  by_cases hS : S A n = false
  · have e1 : startC g S N n = 0 := by rw [hst]; unfold symV; rw [if_pos (hh.trans hS)]
    have e2 : SE g S N n ⟨false, (A : Int)⟩ n = [] := by unfold SE symE; rw [if_pos (hh.trans hS)]
    rw [e1, e2]
    exact ⟨rfl, by decide, fun h => by simp at h⟩
  · by_cases hM : MK g.rules S N n A n = true
    · refine absurd ?_ h1
      rw [hst]
      unfold symV
      rw [if_neg (by rw [hh]; exact hS)]
      simp only [Bool.false_eq_true, if_false, Int.toNat_natCast]
      rw [valK_eq (T := clK g.rules S N n) (ends_MK hok.r) hAN (Nat.le_refl _), if_neg hS, if_pos hM]
    · have hM' : MK g.rules S N n A n = false := by simpa using hM
      have hv := symV_EN (cap := MaxC) (many := -1) (by decide) (by decide) hE (f := sizeK N n + 2) (s := ⟨false, (A : Int)⟩) (k := n) (fun _ => ⟨by simpa using hAN, Nat.le_refl _, by simpa using hM', by have := reachN_le (clK g.rules S N n) (sizeK N n) (((A : Int).toNat) * (n + 1) + n); simp only [] at this ⊢; omega⟩)
      rw [hst] at h2 ⊢
      rw [hv] at h2 ⊢
      change min ((SE g S N n ⟨false, (A : Int)⟩ n).length : Int) MaxC < MaxC at h2
      change min ((SE g S N n ⟨false, (A : Int)⟩ n).length : Int) MaxC = ((SE g S N n ⟨false, (A : Int)⟩ n).length : Int) ∧ _
      exact ⟨by omega, by omega, fun _ => hM'⟩
end Cs
end Go.Proofs.Ytbnpemgmdnghgaa
namespace Go.Proofs.Ytbnpemgmdnghgaa
open Go.RowKit
namespace Cs

section
variable {g : Gram} {N n : Nat} {S : Nat → Nat → Bool}
theorem oN_all {H : Nat} {S : Nat → Nat → Bool} (h : ∀ a k, k ≤ n → S a k = true → 0 < cnt g.rules H a k) (s : Sym) (i : Nat) (hi : i ≤ n) (hh : hasK S s i = true) : 0 < oN (cnt g.rules H) s i := by
  unfold hasK at hh
  unfold oN
  cases ht : s.term with
  | true => rw [ht] at hh; simp at hh; simp [hh]
  | false => rw [ht] at hh; simp only [Bool.false_eq_true, if_false] at hh ⊢; exact h _ _ hi hh
/-- what has lengths has trees of so many levels -/
theorem itP_cnt (hok : OkC g N) : ∀ q, ∃ H, ∀ a k, k ≤ n → itP n g.rules q (fun _ _ => false) a k = true → 0 < cnt g.rules H a k := by
  intro q
  induction q with
  | zero => exact ⟨0, fun a k _ h => by cases h⟩
  | succ q ih =>
    rw [itP_snoc]
    unfold p3
    refine fold_inv (P := fun st : (Nat → Nat → Bool) × Bool => ∃ H, ∀ a k, k ≤ n → st.1 a k = true → 0 < cnt g.rules H a k) g.rules _ (fun r hr st h => ?_) ih
    unfold p2
    refine fold_inv (P := fun st : (Nat → Nat → Bool) × Bool => ∃ H, ∀ a k, k ≤ n → st.1 a k = true → 0 < cnt g.rules H a k) _ _ (fun k hk st h => ?_) h
    have hkn : k ≤ n := by have := List.mem_range.1 hk; omega
    obtain ⟨H, hH⟩ := h
    unfold p1
    split
    · rename_i hc
      rw [Bool.and_eq_true] at hc
      refine ⟨H + 1, fun a j hj h => ?_⟩
      have h' : updB st.1 r.left.toNat k a j = true := h
      unfold updB at h'
      by_cases e : a = r.left.toNat ∧ j = k
      · obtain ⟨rfl, rfl⟩ := e
        have h0 := (hok.l r hr).1
        have hp := canK_cN (o := oN (cnt g.rules H)) (S := st.1) (n := n) r.right (fun s _ i hi hh => oN_all hH s i hi hh) j hj hc.2
        rw [cnt]
        have hz : ∀ rs : List Rule, cR (fun _ _ => 0) (r.left.toNat : Int) j rs = cR (fun _ _ => 0) (r.left.toNat : Int) j rs := fun _ => rfl
        have key : ∀ rs : List Rule, r ∈ rs → 0 < cR (oN (cnt g.rules H)) (r.left.toNat : Int) j rs := by
          intro rs
          induction rs with
          | nil => intro h; cases h
          | cons x rs ihr =>
            intro hx
            rw [cR]
            rcases List.mem_cons.1 hx with rfl | hx
            · rw [if_pos (by omega)]; omega
            · have := ihr hx; omega
        exact key _ hr
      · rw [if_neg e] at h'
        exact Nat.lt_of_lt_of_le (hH a j hj h') (cnt_mono1 _ _ _)
    · exact ⟨H, hH⟩
theorem done_clo (hd : DoneC g n S) : ∀ r ∈ g.rules, ∀ k, k ≤ n → canK S r.right k = true → S r.left.toNat k = true := fun r hr k hk hc => p3_closed hd.2 hr hk hc
/-- where there are trees of at most h levels -/
def Ph (g : Gram) (h : Nat) : Nat → Nat → Bool := fun A k => decide (0 < cnt g.rules h A k)
theorem ph_next {h A k : Nat} (hk : k ≤ n) : Ph g (h + 1) A k = true ↔ ∃ r ∈ g.rules, r.left = (A : Int) ∧ canK (Ph g h) r.right k = true := by
  have h1 : ∀ s i, i ≤ n → (0 < oN (cnt g.rules h) s i ↔ hasK (Ph g h) s i = true) := by
    intro s i _
    unfold oN hasK Ph
    cases ht : s.term with
    | true => simp only [if_true]; by_cases e : i = 1 <;> simp [e]
    | false => simp
  unfold Ph
  rw [decide_eq_true_iff, cnt]
  constructor
  · intro hp
    obtain ⟨r, hr, hl, hp⟩ := cR_pos _ hp
    exact ⟨r, hr, hl, cN_pos (n := n) (fun s i hi h => (h1 s i hi).1 h) _ _ hk hp⟩
  · rintro ⟨r, hr, hl, hc⟩
    have hp := canK_cN (o := oN (cnt g.rules h)) (S := Ph g h) (n := n) r.right (fun s _ i hi hh => (h1 s i hi).2 hh) k hk hc
    have key : ∀ rs : List Rule, r ∈ rs → 0 < cR (oN (cnt g.rules h)) (A : Int) k rs := by
      intro rs
      induction rs with
      | nil => intro h; cases h
      | cons x rs ihr =>
        intro hx
        rw [cR]
        rcases List.mem_cons.1 hx with rfl | hx
        · rw [if_pos hl]; omega
        · have := ihr hx; omega
    exact key _ hr
theorem canK_same {S S' : Nat → Nat → Bool} (h : ∀ a k, a < N → k ≤ n → S a k = S' a k) : ∀ (l : List Sym), (∀ s ∈ l, okS N s) → ∀ k, k ≤ n → canK S l k = canK S' l k
  | [], _, _, _ => rfl
  | s :: l, hs, k, hk => by
    have h1 : ∀ i, i ≤ n → hasK S s i = hasK S' s i := by
      intro i hi
      unfold hasK
      cases ht : s.term with
      | true => rfl
      | false => simp only [Bool.false_eq_true, if_false]; exact h _ _ (hs s List.mem_cons_self ht).2 hi
    rw [Bool.eq_iff_iff, canK_cons, canK_cons]
    constructor
    · rintro ⟨i, hi, h2, h3⟩
      exact ⟨i, hi, by rw [← h1 i (by omega)]; exact h2, by rw [← canK_same h l (fun x hx => hs x (List.mem_cons_of_mem _ hx)) (k - i) (by omega)]; exact h3⟩
    · rintro ⟨i, hi, h2, h3⟩
      exact ⟨i, hi, by rw [h1 i (by omega)]; exact h2, by rw [canK_same h l (fun x hx => hs x (List.mem_cons_of_mem _ hx)) (k - i) (by omega)]; exact h3⟩
def Stab (g : Gram) (N n h : Nat) : Prop := ∀ A k, A < N → k ≤ n → Ph g (h + 1) A k = Ph g h A k
theorem stab_next (hok : OkC g N) {h : Nat} (hs : Stab g N n h) : Stab g N n (h + 1) := by
  intro A k hA hk
  rw [Bool.eq_iff_iff, ph_next hk, ph_next hk]
  constructor
  · rintro ⟨r, hr, hl, hc⟩
    exact ⟨r, hr, hl, by rw [← canK_same (fun a k ha hk => hs a k ha hk) r.right (hok.r r hr) k hk]; exact hc⟩
  · rintro ⟨r, hr, hl, hc⟩
    exact ⟨r, hr, hl, by rw [canK_same (fun a k ha hk => hs a k ha hk) r.right (hok.r r hr) k hk]; exact hc⟩
theorem stab_all (hok : OkC g N) {h : Nat} (hs : Stab g N n h) : ∀ m, h ≤ m → ∀ A k, A < N → k ≤ n → Ph g m A k = Ph g h A k := by
  have key : ∀ d, Stab g N n (h + d) := by
    intro d
    induction d with
    | zero => exact hs
    | succ d ih => exact stab_next hok ih
  intro m hm A k hA hk
  obtain ⟨d, rfl⟩ := Nat.exists_eq_add_of_le hm
  clear hm
  induction d with
  | zero => rfl
  | succ d ih => rw [← ih]; exact key d A k hA hk
theorem sumN_const (c : Nat) : ∀ n, sumN (fun _ => c) n = n * c
  | 0 => by simp [sumN]
  | n + 1 => by show sumN (fun _ => c) n + c = _; rw [sumN_const c n, Nat.add_mul, Nat.one_mul]
theorem stab_some (g : Gram) (N n : Nat) : ∃ h, h ≤ sizeK N n ∧ Stab g N n h := by
  refine Classical.byContradiction fun hn => ?_
  have hno : ∀ h, h ≤ sizeK N n → ¬ Stab g N n h := fun h hh hs => hn ⟨h, hh, hs⟩
  have key : ∀ m, m ≤ sizeK N n + 1 → cf N (n + 1) (Ph g m) + m ≤ sizeK N n := by
    intro m
    induction m with
    | zero =>
      intro _
      have : cf N (n + 1) (Ph g 0) ≤ sumN (fun _ => n + 1) N := by
        unfold cf
        refine sumN_le N fun i _ => ?_
        have := sumN_le (f := fun k => if Ph g 0 i k = true then 0 else 1) (g := fun _ => 1) (n + 1) (fun j _ => by show (if _ then 0 else 1) ≤ 1; split <;> omega)
        rw [sumN_const] at this
        omega
      rw [sumN_const] at this
      unfold sizeK
      omega
    | succ m ih =>
      intro hm
      have ih := ih (by omega)
      have h1 := hno m (by omega)
      have hle : ∀ A k, (if Ph g (m + 1) A k = true then 0 else 1) ≤ (if Ph g m A k = true then 0 else 1) := by
        intro A k
        by_cases e : Ph g m A k = true
        · have : Ph g (m + 1) A k = true := by
            unfold Ph at e ⊢
            rw [decide_eq_true_iff] at e ⊢
            exact Nat.lt_of_lt_of_le e (cnt_mono1 _ _ _)
          rw [if_pos e, if_pos this]; exact Nat.le_refl _
        · rw [if_neg e]; split <;> omega
      have : cf N (n + 1) (Ph g (m + 1)) < cf N (n + 1) (Ph g m) := by
        refine Classical.byContradiction fun hge => h1 fun A k hA hk => ?_
        refine Classical.byContradiction fun hne => hge ?_
        refine sumN_lt N (fun i _ => sumN_le _ fun j _ => hle i j) ⟨A, hA, sumN_lt _ (fun j _ => hle A j) ⟨k, by omega, ?_⟩⟩
        have := hle A k
        cases e1 : Ph g m A k with
        | true =>
          have : Ph g (m + 1) A k = true := by
            unfold Ph at e1 ⊢
            rw [decide_eq_true_iff] at e1 ⊢
            exact Nat.lt_of_lt_of_le e1 (cnt_mono1 _ _ _)
          rw [e1, this] at hne; exact absurd rfl hne
        | false =>
          cases e2 : Ph g (m + 1) A k with
          | true => rw [if_pos rfl, if_neg (by decide)]; omega
          | false => rw [e1, e2] at hne; exact absurd rfl hne
      omega
  have := key (sizeK N n + 1) (Nat.le_refl _)
  omega
/-- what has trees has one of at most as many levels as there are nodes -/
theorem S_cnt (hok : OkC g N) (hd : DoneC g n S) {A k : Nat} (hA : A < N) (hk : k ≤ n) (hS : S A k = true) : 0 < cnt g.rules (sizeK N n) A k := by
  obtain ⟨⟨q, hq⟩, _⟩ := hd
  obtain ⟨H, hH⟩ := itP_cnt (n := n) hok q
  rw [← hq] at hH
  obtain ⟨h, hh, hs⟩ := stab_some g N n
  have h1 := stab_all hok hs (max H h) (Nat.le_max_right _ _) A k hA hk
  have h2 := stab_all hok hs (sizeK N n) hh A k hA hk
  have h3 : Ph g (max H h) A k = true := by
    unfold Ph
    rw [decide_eq_true_iff]
    exact Nat.lt_of_lt_of_le (hH A k hk hS) (cnt_mono (Nat.le_max_left _ _) _ _)
  rw [h1, ← h2] at h3
  unfold Ph at h3
  rwa [decide_eq_true_iff] at h3
theorem itP_lt (hok : OkC g N) {q : Nat} : ∀ a k, itP n g.rules q (fun _ _ => false) a k = true → a < N := by
  induction q with
  | zero => intro a k h; cases h
  | succ q ih =>
    rw [itP_snoc]
    unfold p3
    refine fold_inv (P := fun st : (Nat → Nat → Bool) × Bool => ∀ a k, st.1 a k = true → a < N) g.rules _ (fun r hr st h => ?_) ih
    unfold p2
    refine fold_inv (P := fun st : (Nat → Nat → Bool) × Bool => ∀ a k, st.1 a k = true → a < N) _ _ (fun k hk st h => ?_) h
    unfold p1
    split
    · intro a j hj
      have h' : updB st.1 r.left.toNat k a j = true := hj
      unfold updB at h'
      by_cases e : a = r.left.toNat ∧ j = k
      · rw [e.1]; exact (hok.l r hr).2
      · rw [if_neg e] at h'; exact h a j h'
    · exact h
theorem S_cnt' (hok : OkC g N) (hd : DoneC g n S) (A k : Nat) (hk : k ≤ n) (hS : S A k = true) : 0 < cnt g.rules (sizeK N n) A k := by
  have hA : A < N := by
    obtain ⟨⟨q, hq⟩, _⟩ := hd
    rw [hq] at hS
    exact itP_lt hok A k hS
  exact S_cnt hok hd hA hk hS
end
end Cs
end Go.Proofs.Ytbnpemgmdnghgaa
namespace Go.Proofs.Ytbnpemgmdnghgaa
open Go.RowKit
namespace Cs

theorem enL_mem_cons {S : Nat → Nat → Bool} {o : Sym → Nat → List Tree} {s : Sym} {l : List Sym} {k : Nat} {ks : List Tree} (h : ks ∈ enL S o (s :: l) k) : ∃ (i : Nat) (t : Tree) (y : List Tree), i ≤ k ∧ hasK S s i = true ∧ canK S l (k - i) = true ∧ t ∈ o s i ∧ y ∈ enL S o l (k - i) ∧ ks = t :: y := by
  rw [enL] at h
  obtain ⟨i, hi, h⟩ := List.mem_flatMap.1 h
  by_cases c : (hasK S s i && canK S l (k - i)) = true
  · rw [if_pos c] at h
    rw [Bool.and_eq_true] at c
    obtain ⟨t, ht, h⟩ := List.mem_flatMap.1 h
    obtain ⟨y, hy, rfl⟩ := List.mem_map.1 h
    exact ⟨i, t, y, by have := List.mem_range.1 hi; omega, c.1, c.2, ht, hy, rfl⟩
  · rw [if_neg c] at h; cases h
theorem enR_mem {S : Nat → Nat → Bool} {o : Sym → Nat → List Tree} {A : Int} {k : Nat} {t : Tree} : ∀ (rs : List Rule) (j : Nat), t ∈ enR S o A k rs j → ∃ r ∈ rs, ∃ (j' : Nat) (ks : List Tree), r.left = A ∧ ks ∈ enL S o r.right k ∧ t = .node (j' : Int) 0 ks
  | [], j, h => by unfold enR at h; cases h
  | r :: rs, j, h => by
    rw [enR] at h
    rcases List.mem_append.1 h with h | h
    · by_cases hl : r.left = A
      · rw [if_pos hl] at h
        obtain ⟨ks, hk, rfl⟩ := List.mem_map.1 h
        exact ⟨r, List.mem_cons_self, j, ks, hl, hk, rfl⟩
      · rw [if_neg hl] at h; cases h
    · obtain ⟨r', h1, j', ks, h2⟩ := enR_mem rs (j + 1) h
      exact ⟨r', List.mem_cons_of_mem _ h1, j', ks, h2⟩
/-- the nodes of a list of trees -/
def nsum (ks : List Tree) : Nat := (nodesL ks).length
theorem nsum_cons (t : Tree) (ks : List Tree) : nsum (t :: ks) = (nodes t).length + nsum ks := by unfold nsum; rw [nodesL, List.length_append]
theorem nodes_node (j : Nat) (ks : List Tree) : (nodes (.node (j : Int) 0 ks)).length = 1 + nsum ks := by
  rw [nodes]
  have : ¬ ((j : Int) = -1) := by omega
  rw [if_neg this, List.length_cons]
  unfold nsum; omega
def DD : Nat := 195312502
def ZZ : Nat := 48828125
/-- the nodes of a list: what is empty counts ZZ at most -/
theorem nsum_le {S : Nat → Nat → Bool} {o : Sym → Nat → List Tree} (K r : Nat) : ∀ (l : List Sym) (k : Nat) (ks : List Tree), k ≤ K →
    (∀ (p : Nat) (s : Sym) (i a : Nat) (t : Tree), l[p]? = some s → hasK S s i = true → a + i ≤ k → canK S (l.take p) a = true → canK S (l.drop (p + 1)) (k - a - i) = true → t ∈ o s i → (i = 0 → (nodes t).length ≤ ZZ) ∧ (0 < i → (nodes t).length + 11 * DD ≤ DD * (22 * i)) ∧ (0 < i → i = K → (nodes t).length + 22 * DD ≤ DD * (22 * K + r) + 1)) →
    ks ∈ enL S o l k → (k = 0 → nsum ks ≤ l.length * ZZ) ∧ (0 < k → nsum ks + 11 * DD ≤ l.length * ZZ + DD * (22 * k)) ∧ (0 < k → k = K → nsum ks + 22 * DD ≤ l.length * ZZ + DD * (22 * K + r) + 1)
  | [], k, ks, hk, _, h => by
    unfold enL at h
    by_cases h0 : k = 0
    · rw [if_pos h0] at h
      simp at h
      subst h
      exact ⟨fun _ => by simp [nsum, nodesL], fun h => by omega, fun h => by omega⟩
    · rw [if_neg h0] at h; cases h
  | s :: l, k, ks, hk, hb, h => by
    obtain ⟨i, t, y, hi, h1, h2, ht, hy, rfl⟩ := enL_mem_cons h
    obtain ⟨b1, b2, b3⟩ := hb 0 s i 0 t rfl h1 (by omega) rfl (by simpa using h2) ht
    obtain ⟨c1, c2, c3⟩ := nsum_le K r l (k - i) y (by omega) (fun p s' j a t' hp hh ha h3 h4 ht' => hb (p + 1) s' j (i + a) t' hp hh (by omega) (by rw [List.take_succ_cons, canK_cons]; exact ⟨i, by omega, h1, by rw [Nat.add_sub_cancel_left]; exact h3⟩) (by rw [List.drop_succ_cons, show k - (i + a) - j = k - i - a - j by omega]; exact h4) ht') hy
    rw [nsum_cons, List.length_cons]
    unfold ZZ DD at *
    refine ⟨fun h0 => ?_, fun h0 => ?_, fun h0 h0' => ?_⟩
    · have := b1 (by omega); have := c1 (by omega); omega
    · by_cases e0 : i = 0
      · have := b1 e0; have := c2 (by omega); subst e0; simp at *; omega
      · by_cases e1 : i = k
        · have := b2 (by omega); have := c1 (by omega); omega
        · have := b2 (by omega); have := c2 (by omega); omega
    · by_cases e0 : i = 0
      · have := b1 e0; have := c3 (by omega) (by omega); omega
      · by_cases e1 : i = k
        · have := b3 (by omega) (by omega); have := c1 (by omega); omega
        · have := b2 (by omega); have := c2 (by omega); omega
/-- which nodes of the same length are led to -/
def same (T : Nat → Nat → Bool) (N n A k : Nat) : Nat := ((List.range N).filter fun B => T (A * (n + 1) + k) (B * (n + 1) + k)).length
theorem same_le (T : Nat → Nat → Bool) (N n A k : Nat) : same T N n A k ≤ N := by
  unfold same
  refine Nat.le_trans (List.length_filter_le _ _) ?_
  rw [List.length_range]; exact Nat.le_refl _
theorem filter_lt {P Q : Nat → Bool} {v : Nat} (hPQ : ∀ w, P w = true → Q w = true) (hv : Q v = true) (hv' : P v = false) (N : Nat) (h : v < N) : ((List.range N).filter P).length < ((List.range N).filter Q).length := by
  have key : ∀ n, ((List.range n).filter P).length + (if v < n then 1 else 0) ≤ ((List.range n).filter Q).length := by
    intro n
    induction n with
    | zero => simp
    | succ n ih =>
      rw [List.range_succ, List.filter_append, List.filter_append, List.length_append, List.length_append]
      by_cases e : v = n
      · subst e
        rw [if_neg (by omega)] at ih
        rw [if_pos (by omega)]
        simp [hv, hv'] at ih ⊢
        exact ih
      · have e2 : (if v < n + 1 then 1 else 0) = (if v < n then 1 else 0) := by
          by_cases h : v < n
          · rw [if_pos h, if_pos (by omega)]
          · rw [if_neg h, if_neg (by omega)]
        rw [e2]
        cases h : P n with
        | false => simp [h]; omega
        | true =>
          have := hPQ n h
          simp [h, this]; omega
  have := key N
  rw [if_pos h] at this
  omega
section
variable {rules : List Rule} {S : Nat → Nat → Bool} {N n : Nat}
/-- an edge between nodes of one length -/
theorem same_lt {A B k : Nat} (hT : clK rules S N n (A * (n + 1) + k) (B * (n + 1) + k) = true) (hB : B < N) (hvv : clK rules S N n (B * (n + 1) + k) (B * (n + 1) + k) = false) : same (clK rules S N n) N n B k < same (clK rules S N n) N n A k :=
  filter_lt (P := fun C => clK rules S N n (B * (n + 1) + k) (C * (n + 1) + k)) (Q := fun C => clK rules S N n (A * (n + 1) + k) (C * (n + 1) + k)) (fun w h => clo_trans _ _ _ hT h) hT hvv N hB
/-- the nodes of a tree of a good symbol -/
theorem nodes_le (hN : N ≤ 10) (hok : ∀ r ∈ rules, ∀ s ∈ r.right, s.term = false → 0 ≤ s.n ∧ s.n.toNat < N) (h4 : ∀ r ∈ rules, r.right.length ≤ 4) : ∀ (f A k : Nat), A < N → k ≤ n → MK rules S N n A k = false → ∀ t ∈ enF rules S f A k,
    (k = 0 → (nodes t).length ≤ 5 ^ (same (clK rules S N n) N n A k + 1)) ∧ (0 < k → (nodes t).length + 21 * DD ≤ DD * (22 * k + same (clK rules S N n) N n A k)) := by
  intro f
  induction f with
  | zero => intro A k hA hk hM t ht; unfold enF at ht; cases ht
  | succ f ih =>
    intro A k hA hk hM t ht
    rw [enF] at ht
    by_cases hS : S A k = false
    · rw [if_pos hS] at ht; cases ht
    · rw [if_neg hS] at ht
      obtain ⟨r, hr, j', ks, hl, hks, rfl⟩ := enR_mem _ _ ht
      have hpow : ∀ B, 5 ^ (same (clK rules S N n) N n B 0 + 1) ≤ 48828125 := by
        intro B
        have := same_le (clK rules S N n) N n B 0
        exact Nat.le_trans (Nat.pow_le_pow_right (by omega) (show _ ≤ 11 by omega)) (by decide)
      have hedge : ∀ (p : Nat) (s : Sym) (i a : Nat), r.right[p]? = some s → s.term = false → hasK S s i = true → a + i ≤ k → canK S (r.right.take p) a = true → canK S (r.right.drop (p + 1)) (k - a - i) = true →
          s.n.toNat < N ∧ i ≤ n ∧ MK rules S N n s.n.toNat i = false ∧ clK rules S N n (A * (n + 1) + k) (s.n.toNat * (n + 1) + i) = true ∧ clK rules S N n (s.n.toNat * (n + 1) + i) (s.n.toNat * (n + 1) + i) = false := by
        intro p s i a hp hterm hh ha h1 h2
        have hs := hok r hr s (List.mem_of_getElem? hp) hterm
        have hS' : S s.n.toNat i = true := by unfold hasK at hh; rw [hterm] at hh; simpa using hh
        have hin : i ≤ n := by omega
        have hg := ends_MM (rules := rules) (S := S) (N := N) (n := n) hok A k r hA hk hM hr hl p s i a hp hterm hS' ha h1 h2
        have hu := node_lt (N := N) hA hk
        have hv := node_lt (N := N) hs.2 hin
        have hsp : splitK S (r.right.take p) (r.right.drop (p + 1)) (k - i) = true := splitK_iff.2 ⟨a, by omega, h1, by rw [show k - i - a = k - a - i by omega]; exact h2⟩
        have hed := e5_hit (n := n) hr hk hp hterm (show i ≤ k by omega) hS' hsp
        rw [hl, Int.toNat_natCast] at hed
        have hT : clK rules S N n (A * (n + 1) + k) (s.n.toNat * (n + 1) + i) = true := clo_edge hu hv hed
        exact ⟨hs.2, hin, hg.2.2.1, hT, manyK_not hM hv (.inr hT)⟩
      rw [nodes_node]
      have hlen := h4 r hr
      by_cases hk0 : k = 0
      · subst hk0
        refine ⟨fun _ => ?_, fun h => by omega⟩
        -- all kids are empty, and of fewer nodes
        have key : ∀ (l : List Sym) (y : List Tree), (∀ (p : Nat) (s : Sym) (t : Tree), l[p]? = some s → hasK S s 0 = true → canK S (l.take p) 0 = true → canK S (l.drop (p + 1)) 0 = true → t ∈ symE S (enF rules S f) s 0 → (nodes t).length ≤ 5 ^ (same (clK rules S N n) N n A 0)) → y ∈ enL S (symE S (enF rules S f)) l 0 → nsum y ≤ l.length * 5 ^ (same (clK rules S N n) N n A 0) := by
          intro l
          induction l with
          | nil => intro y _ hy; simp [enL] at hy; subst hy; simp [nsum, nodesL]
          | cons s l ihl =>
            intro y hb hy
            obtain ⟨i, t, z, hi, h1, h2, ht, hz, rfl⟩ := enL_mem_cons hy
            obtain rfl : i = 0 := by omega
            have := hb 0 s t rfl h1 rfl (by simpa using h2) ht
            have := ihl z (fun p s' t' hp hh h3 h4 ht' => hb (p + 1) s' t' hp hh (by rw [List.take_succ_cons, canK_cons]; exact ⟨0, by omega, h1, h3⟩) (by rw [List.drop_succ_cons]; exact h4) ht') hz
            rw [nsum_cons, List.length_cons, Nat.add_mul]
            omega
        have h5 := key r.right ks (fun p s t hp hh h1 h2 ht' => by
          unfold symE at ht'
          rw [if_neg (by rw [hh]; decide)] at ht'
          cases hterm : s.term with
          | true => unfold hasK at hh; rw [hterm] at hh; simp at hh
          | false =>
            rw [hterm] at ht'
            simp only [Bool.false_eq_true, if_false] at ht'
            obtain ⟨e1, e2, e3, e4, e5⟩ := hedge p s 0 0 hp hterm hh (by omega) h1 (by simpa using h2)
            have h6 := (ih s.n.toNat 0 e1 e2 e3 t ht').1 rfl
            have h7 := same_lt e4 e1 e5
            exact Nat.le_trans h6 (Nat.pow_le_pow_right (by omega) (by omega))) hks
        have h8 : 0 < 5 ^ (same (clK rules S N n) N n A 0) := Nat.pos_of_ne_zero (by simp)
        rw [Nat.pow_succ]
        have h9 : r.right.length * 5 ^ (same (clK rules S N n) N n A 0) ≤ 4 * 5 ^ (same (clK rules S N n) N n A 0) := Nat.mul_le_mul_right _ hlen
        omega
      · refine ⟨fun h => absurd h hk0, fun _ => ?_⟩
        have h5 := (nsum_le (S := S) (o := symE S (enF rules S f)) k (same (clK rules S N n) N n A k) r.right k ks (Nat.le_refl _) (fun p s i a t hp hh ha h1 h2 ht' => by
          unfold symE at ht'
          rw [if_neg (by rw [hh]; decide)] at ht'
          cases hterm : s.term with
          | true =>
            rw [hterm] at ht'
            simp at ht'
            subst ht'
            have hi1 : i = 1 := by unfold hasK at hh; rw [hterm] at hh; simpa using hh
            have hn1 : (nodes (Tree.node (-1) s.n [])).length = 1 := by rw [nodes]; simp
            rw [hn1]
            unfold ZZ DD
            subst hi1
            refine ⟨fun h => by omega, fun h => by omega, fun h h' => by omega⟩
          | false =>
            rw [hterm] at ht'
            simp only [Bool.false_eq_true, if_false] at ht'
            obtain ⟨e1, e2, e3, e4, e5⟩ := hedge p s i a hp hterm hh ha h1 h2
            obtain ⟨g1, g2⟩ := ih s.n.toNat i e1 e2 e3 t ht'
            have hsl := same_le (clK rules S N n) N n s.n.toNat i
            refine ⟨fun h => ?_, fun h => ?_, fun h h' => ?_⟩
            · subst h
              exact Nat.le_trans (g1 rfl) (hpow _)
            · have := g2 h
              unfold DD at *
              omega
            · subst h'
              have := g2 h
              have h7 := same_lt e4 e1 e5
              unfold DD at *
              omega) hks).2.2 (Nat.pos_of_ne_zero hk0) rfl
        have h9 : r.right.length * ZZ ≤ 4 * ZZ := Nat.mul_le_mul_right _ hlen
        unfold ZZ DD at *
        omega
theorem nodes_bound (hN : N ≤ 10) (hok : ∀ r ∈ rules, ∀ s ∈ r.right, s.term = false → 0 ≤ s.n ∧ s.n.toNat < N) (h4 : ∀ r ∈ rules, r.right.length ≤ 4) (hn : n ≤ 24) {f A k : Nat} (hA : A < N) (hk : k ≤ n) (hM : MK rules S N n A k = false) {t : Tree} (ht : t ∈ enF rules S f A k) : (nodes t).length ≤ 1099511627776 := by
  obtain ⟨g1, g2⟩ := nodes_le hN hok h4 f A k hA hk hM t ht
  have hsl := same_le (clK rules S N n) N n A k
  by_cases h0 : k = 0
  · have := g1 h0
    have h2 : 5 ^ (same (clK rules S N n) N n A k + 1) ≤ 5 ^ 11 := Nat.pow_le_pow_right (by omega) (by omega)
    have h3 : 5 ^ 11 ≤ 1099511627776 := by decide
    omega
  · have := g2 (by omega)
    unfold DD at this
    omega
end
end Cs
end Go.Proofs.Ytbnpemgmdnghgaa
namespace Go.Proofs.Ytbnpemgmdnghgaa
open Go.RowKit
namespace Cs

section
variable {g : Gram} {N n : Nat} {S : Nat → Nat → Bool}
theorem ed_lt (hok : OkC g N) {A k B j : Nat} (h : Ed g.rules S A k B j) : B < N := by
  obtain ⟨r, hr, _, p, s, a, hp, ht, hB, _⟩ := h
  rw [← hB]
  exact (hok.r r hr s (List.mem_of_getElem? hp) ht).2
theorem e5_ed (hok : OkC g N) {A k v : Nat} (hk : k ≤ n) (h : e5 S n g.rules (A * (n + 1) + k) v = true) : ∃ B j, j ≤ n ∧ v = B * (n + 1) + j ∧ Ed g.rules S A k B j := by
  obtain ⟨A', k', B, j, hk', hj, e, hv, hd⟩ := e5_inv (fun r hr => (hok.l r hr).1) h
  obtain ⟨rfl, rfl⟩ := pair_eq hk hk' e
  exact ⟨B, j, hj, hv, hd⟩
/-- a path: more levels at its start than at its end -/
theorem pth_grow (hok : OkC g N) (hd : DoneC g n S) {x y : Nat} (hp : Pth (edg (sizeK N n) (e5 S n g.rules)) x y) : ∀ (A k : Nat), x = A * (n + 1) + k → k ≤ n → ∀ h, (∀ B j, y = B * (n + 1) + j → j ≤ n → Ex g.rules h B j) → ∃ h', h + 1 ≤ h' ∧ Ex g.rules h' A k := by
  induction hp with
  | one he =>
    intro A k hx hk h hy
    subst hx
    obtain ⟨_, _, he⟩ := edg_mem.1 he
    obtain ⟨B, j, hj, hv, hed⟩ := e5_ed hok hk he
    exact ex_up (g := sizeK N n) hk (fun A k hk hS => S_cnt' hok hd A k hk hS) hed (hy B j hv hj)
  | cons he _ ih =>
    intro A k hx hk h hy
    subst hx
    obtain ⟨_, _, he⟩ := edg_mem.1 he
    obtain ⟨B, j, hj, hv, hed⟩ := e5_ed hok hk he
    obtain ⟨h', h1, h2⟩ := ih B j hv hj h hy
    obtain ⟨h'', h3, h4⟩ := ex_up (g := sizeK N n) hk (fun A k hk hS => S_cnt' hok hd A k hk hS) hed h2
    exact ⟨h'', by omega, h4⟩
theorem pth_first {E : List (Nat × Nat)} {x y : Nat} (h : Pth E x y) : ∃ z, (x, z) ∈ E := by
  cases h with
  | one h => exact ⟨_, h⟩
  | cons h _ => exact ⟨_, h⟩
/-- trees of more and more levels -/
theorem many_high (hok : OkC g N) (hd : DoneC g n S) {A k : Nat} (hA : A < N) (hk : k ≤ n) (hM : MK g.rules S N n A k = true) (m : Nat) : ∃ h, m ≤ h ∧ Ex g.rules h A k := by
  unfold MK manyK at hM
  rw [List.any_eq_true] at hM
  obtain ⟨j, _, hj⟩ := hM
  rw [Bool.and_eq_true, Bool.or_eq_true, beq_iff_eq] at hj
  obtain ⟨h1, h2⟩ := hj
  have hpj : Pth (edg (sizeK N n) (e5 S n g.rules)) j j := (fw_iff edg_lt).1 h2
  obtain ⟨z, hz⟩ := pth_first hpj
  obtain ⟨_, _, hz⟩ := edg_mem.1 hz
  obtain ⟨B, i, C, l, hi, hl, hjB, _, hed⟩ := e5_inv (fun r hr => (hok.l r hr).1) hz
  have hS := (ed_S (done_clo hd) hi hed).1
  have hBi := S_cnt' hok hd B i hi hS
  obtain ⟨h0, _, _, hx0⟩ := ex_between (rules := g.rules) (sizeK N n) 0 (Nat.zero_le _) (show cnt g.rules 0 B i < cnt g.rules (sizeK N n) B i from hBi)
  have hall : ∀ m, ∃ h, m ≤ h ∧ Ex g.rules h B i := by
    intro m
    induction m with
    | zero => exact ⟨h0, Nat.zero_le _, hx0⟩
    | succ m ih =>
      obtain ⟨h, hh, hx⟩ := ih
      obtain ⟨h', e1, e2⟩ := pth_grow hok hd hpj B i hjB hi h (fun B' j' e hj' => by
        rw [hjB] at e
        obtain ⟨rfl, rfl⟩ := pair_eq hi hj' e
        exact hx)
      exact ⟨h', by omega, e2⟩
  rcases h1 with h1 | h1
  · rw [hjB] at h1
    obtain ⟨rfl, rfl⟩ := pair_eq hk hi h1
    exact hall m
  · obtain ⟨h, hh, hx⟩ := hall m
    obtain ⟨h', e1, e2⟩ := pth_grow hok hd ((fw_iff edg_lt).1 h1) A k rfl hk h (fun B' j' e hj' => by
      rw [hjB] at e
      obtain ⟨rfl, rfl⟩ := pair_eq hi hj' e
      exact hx)
    exact ⟨h', by omega, e2⟩
/-- a way down, so many levels -/
theorem chain (hok : OkC g N) (hd : DoneC g n S) {A k m : Nat} (hA : A < N) (hk : k ≤ n) (hx : Ex g.rules m A k) : ∀ t, t + 1 ≤ m → ∃ f : Nat → Nat × Nat, f 0 = (A, k) ∧ (∀ i, i ≤ t → (f i).1 < N ∧ (f i).2 ≤ n ∧ Ex g.rules (m - i) (f i).1 (f i).2) ∧ ∀ i, i < t → Ed g.rules S (f i).1 (f i).2 (f (i + 1)).1 (f (i + 1)).2
  | 0, _ => ⟨fun _ => (A, k), rfl, fun i hi => by obtain rfl : i = 0 := by omega
                                                  exact ⟨hA, hk, hx⟩, fun i hi => by omega⟩
  | t + 1, ht => by
    obtain ⟨f, h0, h1, h2⟩ := chain hok hd hA hk hx t (by omega)
    obtain ⟨e1, e2, e3⟩ := h1 t (Nat.le_refl _)
    obtain ⟨h', hh'⟩ : ∃ h', m - t = h' + 1 := ⟨m - t - 1, by omega⟩
    rw [hh'] at e3
    obtain ⟨B, j, hj, hed, hex⟩ := ex_fwd (done_clo hd) e2 (by omega) e3
    refine ⟨fun i => if i ≤ t then f i else (B, j), by simp [h0], fun i hi => ?_, fun i hi => ?_⟩
    · by_cases e : i ≤ t
      · simp only [e, if_true]; exact h1 i e
      · obtain rfl : i = t + 1 := by omega
        simp only [e, if_false]
        exact ⟨ed_lt hok hed, hj, by rw [show m - (t + 1) = h' by omega]; exact hex⟩
    · by_cases e : i < t
      · simp only [show i ≤ t by omega, show i + 1 ≤ t by omega, if_true]; exact h2 i e
      · obtain rfl : i = t := by omega
        simp only [Nat.le_refl, show ¬ i + 1 ≤ i by omega, if_true, if_false]
        exact hed
/-- not too many levels -/
theorem ex_cut (hok : OkC g N) (hd : DoneC g n S) {A k : Nat} (hA : A < N) (hk : k ≤ n) : ∀ m, sizeK N n + 1 ≤ m → Ex g.rules m A k → ∃ m', sizeK N n + 1 ≤ m' ∧ m' ≤ 2 * sizeK N n + 2 ∧ Ex g.rules m' A k := by
  intro m
  induction m using Nat.strongRecOn with
  | ind m ih =>
    intro hm hx
    by_cases hle : m ≤ 2 * sizeK N n + 2
    · exact ⟨m, hm, hle, hx⟩
    · obtain ⟨f, h0, h1, h2⟩ := chain hok hd hA hk hx (sizeK N n) (by omega)
      obtain ⟨a, b, hab, hb, he⟩ := pigeon (size := sizeK N n) (f := fun i => (f i).1 * (n + 1) + (f i).2) (fun i hi => node_lt (h1 i hi).1 (h1 i hi).2.1)
      obtain ⟨e1, e2⟩ := pair_eq (h1 a (by omega)).2.1 (h1 b hb).2.1 he
      have hback : ∀ i, i ≤ a → Ex g.rules (m - b + i) (f (a - i)).1 (f (a - i)).2 := by
        intro i
        induction i with
        | zero => intro _; rw [Nat.sub_zero, Nat.add_zero, e1, e2]; exact (h1 b hb).2.2
        | succ i ihi =>
          intro hi
          have h3 := ihi (by omega)
          have h4 := h2 (a - (i + 1)) (by omega)
          rw [show a - (i + 1) + 1 = a - i by omega] at h4
          exact ex_up1 (g := sizeK N n) (h := m - b + i) (h1 (a - (i + 1)) (by omega)).2.1 (fun A k hk hS => S_cnt' hok hd A k hk hS) (by omega) h4 h3
      have h5 := hback a (Nat.le_refl _)
      rw [Nat.sub_self, h0] at h5
      exact ih (m - b + a) (by omega) (by omega) h5
/-- from what leads to no circle trees have no more levels than there are nodes -/
theorem few_low (hok : OkC g N) (hd : DoneC g n S) : ∀ (h A k : Nat), A < N → k ≤ n → MK g.rules S N n A k = false → Ex g.rules h A k → h ≤ reachN (clK g.rules S N n) (sizeK N n) (A * (n + 1) + k) + 1
  | 0, _, _, _, _, _, _ => by omega
  | 1, _, _, _, _, _, _ => by omega
  | h + 2, A, k, hA, hk, hM, hx => by
    obtain ⟨B, j, hj, hed, hex⟩ := ex_fwd (done_clo hd) hk (by omega) hx
    obtain ⟨r, hr, hl, p, s, a, hp, ht, hB, ha, hS, h1, h2⟩ := hed
    have hg := ends_MM (rules := g.rules) (S := S) (N := N) (n := n) hok.r A k r hA hk hM hr hl p s j a hp ht (by rw [hB]; exact hS) ha h1 h2
    rw [hB] at hg
    have := few_low hok hd (h + 1) B j hg.1 hg.2.1 hg.2.2.1 hex
    have := hg.2.2.2
    omega
theorem reach_size {A k : Nat} (hA : A < N) (hk : k ≤ n) (hM : MK g.rules S N n A k = false) : reachN (clK g.rules S N n) (sizeK N n) (A * (n + 1) + k) < sizeK N n := by
  have hu := node_lt (N := N) hA hk
  have huu := manyK_not hM hu (.inl rfl)
  have := filter_lt (P := fun v => clK g.rules S N n (A * (n + 1) + k) v) (Q := fun _ => true) (v := A * (n + 1) + k) (fun _ _ => rfl) rfl huu (sizeK N n) hu
  have h2 : ((List.range (sizeK N n)).filter fun _ => true).length = sizeK N n := by rw [List.filter_eq_self.2 (fun _ _ => rfl), List.length_range]
  rw [h2] at this
  exact this
/-- endless: a tree of so many levels -/
def Endl (g : Gram) (N n A k : Nat) : Prop := ∃ h, sizeK N n + 1 ≤ h ∧ h ≤ 2 * sizeK N n + 2 ∧ Ex g.rules h A k
theorem tC_levels (hok : OkC g N) (hd : DoneC g n S) {A k : Nat} (hA : A < N) (hk : k ≤ n) :
    (Endl g N n A k → tC g S N n A k = -1) ∧ (¬ Endl g N n A k → tC g S N n A k = min ((cnt g.rules (sizeK N n + 1) A k : Nat) : Int) MaxC) := by
  have hh : hasK S ⟨false, (A : Int)⟩ k = S A k := rfl
  by_cases hS : S A k = false
  · have hz : ∀ h, cnt g.rules h A k = 0 := fun h => by
      rcases Nat.eq_zero_or_pos (cnt g.rules h A k) with h0 | h0
      · exact h0
      · rw [cnt_S (done_clo hd) hk h0] at hS; cases hS
    refine ⟨?_, fun _ => ?_⟩
    · rintro ⟨h, _, _, _, hx⟩
      rw [hz, hz] at hx; exact absurd hx (Nat.lt_irrefl _)
    · unfold tC symV
      rw [if_pos (hh.trans hS), hz]; rfl
  · have hv : tC g S N n A k = valK g.rules S (MK g.rules S N n) MaxC (-1) (sizeK N n) A k := by
      unfold tC symV
      rw [if_neg (by rw [hh]; exact hS)]
      simp only [Bool.false_eq_true, if_false, Int.toNat_natCast]
    rw [hv]
    by_cases hM : MK g.rules S N n A k = true
    · have he : valK g.rules S (MK g.rules S N n) MaxC (-1) (sizeK N n) A k = -1 := by rw [valK_eq (T := clK g.rules S N n) (ends_MK hok.r) hA hk, if_neg hS, if_pos hM]
      refine ⟨fun _ => he, fun hn => ?_⟩
      obtain ⟨h, h1, h2⟩ := many_high hok hd hA hk hM (sizeK N n + 1)
      exact absurd (ex_cut hok hd hA hk h h1 h2) hn
    · have hM' : MK g.rules S N n A k = false := by simpa using hM
      have hr := reach_size (g := g) (S := S) hA hk hM'
      refine ⟨?_, fun _ => ?_⟩
      · rintro ⟨h, h1, _, hx⟩
        have := few_low hok hd h A k hA hk hM' hx
        omega
      · rw [valK_len (cap := MaxC) (many := -1) (by decide) (by decide) (ends_MM hok.r) hA hk hM']
        unfold EN
        rw [enF_stable (ends_MM hok.r) (sizeK N n + 1) A k ⟨hA, hk, hM', by omega⟩ (sizeK N n + 2) (by omega), (enF_cnt (done_clo hd) (sizeK N n + 1) A k hk).1]
end
end Cs
end Go.Proofs.Ytbnpemgmdnghgaa
