/- earley.Chart in memory. earley.Chart.next; slices.Clone of items. More ways to take an operation first in a drawn region: one that n waits for; one that no world changes. earley.Chart.add. earley.Chart.predict. -/
import Derived.Test.YtjpmebppdcclbaaJRepairPrefixRow8
import Derived.Test.YtjpmebppdcclbaaJRepairPrefixRow2
import Derived.DeepKeys4
import Derived.Test.YtjpmebppdcclbaaJRepairPrefixRow1
import Derived.Test.YtjpmebppdcclbaaJRepairPrefixRow4
namespace Go.Proofs.Ytjpmebppdcclbaa
open Go.RowKit
namespace Ea
open Rp Hl
open Ht hiding D
theorem itLaid : laidOutB Try.prog = true := by kernel_rfl
theorem itRow : (156 : TypeId) < Try.prog.types.size := of_decide_eq_true (by kernel_rfl)
theorem itWide : (match Try.prog.underlying 156 with | some (.array _ _) | some (.struct _) => true | _ => false) = true := by kernel_rfl
theorem itAt : Try.prog.keyTypeAt 2 156 = true := by kernel_rfl
set_option maxRecDepth 100000 in
theorem itLaw : WideMaps.KeyLaw Try.prog 156 := deep_law_laid itLaid (m := 2) (by omega) itRow itAt itWide
theorem itK : Go.Maps.Keyed Try.prog 156 := .of_law itLaw
def itV (x : Itm) : Value := .agg #[.int .i64 (x.r : Int), .int .i64 (x.d : Int), .int .i64 (x.f : Int)]
def itL (x : Itm) : Lit := .string (keyBytes [.int .i64 (x.r : Int), .int .i64 (x.d : Int), .int .i64 (x.f : Int)])
def smI (x : Itm) : Prop := x.r ≤ 1000 ∧ x.d ≤ 1000 ∧ x.f ≤ 1000
theorem wf_sm {n : Nat} (h : n ≤ 1000) : (Lit.int .i64 (n : Int)).wf = true := by
  simp [Lit.wf, IntKind.min, IntKind.max, IntKind.signed, IntKind.bits]; omega
theorem itKey {x : Itm} (h : smI x) : keyOf Try.prog 156 (itV x) = some (itL x) := by
  obtain ⟨a, b, c⟩ := x
  obtain ⟨ha, hb, hc⟩ := h
  show keyOf _ _ (.agg #[.int .i64 (a : Nat), .int .i64 (b : Nat), .int .i64 (c : Nat)]) = _
  have ha := wf_sm ha
  have hb := wf_sm hb
  have hc := wf_sm hc
  simp only at ha hb hc
  have h1 : Try.prog.keyType 156 = true := by kernel_rfl
  have h3 : Try.prog.cellsOf 156 = 3 := by kernel_rfl
  have h4 : Try.prog.cellsOf 3 = 1 := by kernel_rfl
  have h2 : (Value.agg #[.int .i64 a, .int .i64 b, .int .i64 c]).formed Try.prog 156 = true := by simp [Value.formed, Try.underlying156, h3]
  obtain ⟨m, hm⟩ : ∃ m, Try.prog.types.size = m + 1 := ⟨Try.prog.types.size - 1, by have h : 0 < Try.prog.types.size := of_decide_eq_true (by kernel_rfl); omega⟩
  have h5 : Try.prog.keyLits (Try.prog.types.size + 1) 156 [.int .i64 a, .int .i64 b, .int .i64 c] = some [.int .i64 a, .int .i64 b, .int .i64 c] := by
    rw [hm]
    simp [Program.keyLits, Try.underlying156, h3, h4, Try.underlying3, ha, hb, hc]
  unfold keyOf
  simp only [Try.underlying156, h1, h2, Bool.and_self, if_true]
  show Option.map _ (Try.prog.keyLits _ _ [.int .i64 a, .int .i64 b, .int .i64 c]) = _
  rw [h5]
  rfl
theorem itV_inj {x y : Itm} (h : itV x = itV y) : x = y := by
  obtain ⟨a, b, c⟩ := x
  obtain ⟨a', b', c'⟩ := y
  unfold itV at h
  simp at h
  obtain ⟨h1, h2, h3⟩ := h
  rw [show a = a' by omega, show b = b' by omega, show c = c' by omega]
theorem itL_inj {x y : Itm} (hx : smI x) (hy : smI y) (h : itL x = itL y) : x = y := by
  have h1 := itKey hx
  have h2 := itKey hy
  rw [← h] at h2
  exact itV_inj (itK.inj h1 h2)
open Classical in
noncomputable def inI (c : List Itm) (l : Lit) : Bool := c.any fun x => decide (itL x = l)
theorem inI_at {c : List Itm} {x : Itm} (hc : ∀ y ∈ c, smI y) (hx : smI x) : inI c (itL x) = decide (x ∈ c) := by
  unfold inI
  rw [Bool.eq_iff_iff, List.any_eq_true, decide_eq_true_eq]
  constructor
  · rintro ⟨y, hy, he⟩
    have he : itL y = itL x := by simpa using he
    rw [← itL_inj (hc y hy) hx he]
    exact hy
  · intro h; exact ⟨x, h, by simp⟩
theorem inI_add {c : List Itm} {x : Itm} : inI (c ++ [x]) (itL x) = true := by unfold inI; simp
theorem inI_other {c : List Itm} {x : Itm} {l : Lit} (h : l ≠ itL x) : inI (c ++ [x]) l = inI c l := by
  unfold inI
  rw [List.any_append]
  simp [show ¬ itL x = l from fun e => h e.symm]
def SetI (b k : Nat) (c : List Itm) (w : World) : Prop := SetM Try.prog 156 4 b k (inI c) w
theorem zB (w : World) : (zeroValue 4).run Try.prog w = .ok (.bool false) w := by
  obtain ⟨i, hi, hz, _⟩ := info_parts (show (Try.prog.info? 4).map (fun i => (i.zero, i.size, i.bytes)) = some (some (.bool false), 1, 1) by kernel_rfl)
  simp [zeroValue, typeInfo, hi, hz]
theorem SetI.look {b k : Nat} {c : List Itm} {w : World} (h : SetI b k c w) (hc : ∀ y ∈ c, smI y) {x : Itm} (hx : smI x) :
    (Instr.lookup 166 (.map (some b)) (.agg #[.int .i64 (x.r : Int), .int .i64 (x.d : Int), .int .i64 (x.f : Int)]) false).run Try.prog w = .ok (.bool (decide (x ∈ c))) w := by
  have := SetM.look h itK Try.underlying166 Try.underlying4 (zB w) (itKey hx)
  rw [inI_at hc hx] at this
  exact this
theorem SetI.add {b k : Nat} {c : List Itm} {w : World} (h : SetI b k c w) (hk : k < 1000000) {x : Itm} (hx : smI x) :
    ∃ w', (Instr.mapUpdate 166 (.map (some b)) (.agg #[.int .i64 (x.r : Int), .int .i64 (x.d : Int), .int .i64 (x.f : Int)]) (.bool true)).run Try.prog w = .ok () w' ∧ SetI b (k + 1) (c ++ [x]) w' ∧ w.grownBy w' (some b) :=
  SetM.add h itK Try.underlying166 Try.underlying4 (by unfold maxLen; omega) (itKey hx) inI_add (fun l' h => inI_other h)
theorem elItem : ElemT Try.prog 154 156 3 24 := ElemT.mk' (z := .agg #[.int .i64 0, .int .i64 0, .int .i64 0]) Try.underlying154 (by kernel_rfl) rfl (by decide)
theorem elSet : ElemT Try.prog 151 154 1 24 := ElemT.mk' (z := .slice none 0 0) Try.underlying151 (by kernel_rfl) rfl (by decide)
theorem elMap : ElemT Try.prog 150 166 1 8 := ElemT.mk' (z := .map none) Try.underlying150 (by kernel_rfl) rfl (by decide)
theorem own_typed {w : World} {B : Nat} {e : TypeId} {s : Nat} {v : Value} {n : Nat} {xs : List Value} (h : w.ownsRow B e s v n xs) {g : Nat} (hg : v.ownBlock = some g) : ∃ cur, w.heap[g]? = some (.cells cur e (0, 0)) := by
  rcases h.2 with ⟨h2, _⟩ | ⟨g', cap, cur, rfl, _, hh, _⟩
  · rw [h2] at hg; cases hg
  · cases hg
    exact ⟨cur, hh⟩
theorem set_map {b k : Nat} {c : List Itm} {w : World} (h : SetI b k c w) : ∃ es ck, w.heap[b]? = some (.map es ck) := by
  obtain ⟨D, ⟨es, ck, h1, _⟩, _⟩ := h
  exact ⟨es, ck, h1⟩
structure FCi (B fb : Nat) (gt gn gs : Int) (ra : Option Addr) (rc : Nat) (K : List Rule) (vs vm : Value) (n : Nat) (val : Nat → Value) (L : Nat → List Itm) (ms : List Value) (bm : Nat) (cl : List Itm) (w : World) : Prop where
  out : w.ownsRow B 154 1 vs n ((List.range n).map val)
  row : ∀ k, k < n → w.ownsRow B 156 3 (val k) (L k).length (flatI (L k))
  dis : ∀ k k', k < n → k' < n → k ≠ k' → ∀ g, (val k).ownBlock = some g → (val k').ownBlock ≠ some g
  mo : w.ownsRow B 166 1 vm n ms
  ml : ∀ k, k + 1 = n → ms[k]? = some (.map (some bm)) ∧ ∃ c, c ≤ cl.length ∧ SetI bm c cl w
  bml : B ≤ bm
  box : w.heap[fb]? = some (.cells #[.int .i64 gt, .int .i64 gn, .int .i64 gs, .slice ra K.length rc, vm, vs] 153 (0, 0))
  fbl : B ≤ fb
  rd : Rd (fun k => k < B) w (.sl (K.map Rule.d)) [.slice ra K.length rc]
def OwE (fb : Nat) (vs vm : Value) (bm n : Nat) (val : Nat → Value) (k : Nat) : Prop := k = fb ∨ vs.ownBlock = some k ∨ vm.ownBlock = some k ∨ k = bm ∨ ∃ i, i + 1 = n ∧ (val i).ownBlock = some k
def FC (B fb : Nat) (gt gn gs : Int) (ra : Option Addr) (rc : Nat) (K : List Rule) (O : Nat → Prop) (n : Nat) (L : Nat → List Itm) (w : World) : Prop := ∃ vs vm val ms bm cl, FCi B fb gt gn gs ra rc K vs vm n val L ms bm cl w ∧ (0 < n ∨ bm = fb) ∧ (∀ k, k + 1 = n → cl = L k) ∧ ∀ k, O k ↔ OwE fb vs vm bm n val k
section
variable {B fb : Nat} {gt gn gs : Int} {ra : Option Addr} {rc : Nat} {K : List Rule} {vs vm : Value} {n : Nat} {val : Nat → Value} {L : Nat → List Itm} {ms : List Value} {bm : Nat} {cl : List Itm} {w w' : World} {O O' : Nat → Prop}
theorem FCi.keep (h : FCi B fb gt gn gs ra rc K vs vm n val L ms bm cl w) (hb : Below w.heap.size w w') : FCi B fb gt gn gs ra rc K vs vm n val L ms bm cl w' :=
  ⟨own_keep h.out hb, fun k hk => own_keep (h.row k hk) hb, h.dis, own_keep h.mo hb, fun k hk => ⟨(h.ml k hk).1, by
    obtain ⟨c, h1, h2⟩ := (h.ml k hk).2
    exact ⟨c, h1, SetM.keep h2 hb⟩⟩, h.bml, bx_keep h.box hb, h.fbl, h.rd.below hb⟩
theorem FC.keep (h : FC B fb gt gn gs ra rc K O n L w) (hb : Below w.heap.size w w') : FC B fb gt gn gs ra rc K O n L w' := by
  obtain ⟨vs, vm, val, ms, bm, cl, h1, h2⟩ := h
  exact ⟨vs, vm, val, ms, bm, cl, h1.keep hb, h2⟩
theorem FCi.lt (h : FCi B fb gt gn gs ra rc K vs vm n val L ms bm cl w) (h0 : 0 < n ∨ bm = fb) : ∀ k, OwE fb vs vm bm n val k → B ≤ k ∧ k < w.heap.size := by
  rintro k (rfl | h1 | h1 | rfl | ⟨i, hi, e⟩)
  · exact ⟨h.fbl, bx_lt h.box⟩
  · exact h.out.lt k h1
  · exact h.mo.lt k h1
  · rcases h0 with h0 | rfl
    · obtain ⟨c, _, h2⟩ := (h.ml (n - 1) (by omega)).2
      exact ⟨h.bml, SetM.lt h2⟩
    · exact ⟨h.fbl, bx_lt h.box⟩
  · exact (h.row i (by omega)).lt k e
theorem FC.lt (h : FC B fb gt gn gs ra rc K O n L w) : ∀ k, O k → B ≤ k ∧ k < w.heap.size := by
  obtain ⟨vs, vm, val, ms, bm, cl, h1, h2, -, h3⟩ := h
  exact fun k hk => h1.lt h2 k ((h3 k).1 hk)
theorem FC.new (h : FC B fb gt gn gs ra rc K O n L w) {b : Nat} (hb : w.heap.size ≤ b) : ¬ O b := fun e => by have := (h.lt b e).2; omega
theorem FC.rules (h : FC B fb gt gn gs ra rc K O n L w) : w.cell? ⟨fb, 0 + 3, none⟩ = some (.slice ra K.length rc) := by
  obtain ⟨vs, vm, val, ms, bm, cl, h1, h2⟩ := h
  simp [World.cell?, h1.box]
theorem FC.terms (h : FC B fb gt gn gs ra rc K O n L w) : w.cell? ⟨fb, 0, none⟩ = some (.int .i64 gt) := by
  obtain ⟨vs, vm, val, ms, bm, cl, h1, h2⟩ := h
  simp [World.cell?, h1.box]
theorem FC.rd (h : FC B fb gt gn gs ra rc K O n L w) : Rd (fun k => k < B) w (.sl (K.map Rule.d)) [.slice ra K.length rc] := by
  obtain ⟨vs, vm, val, ms, bm, cl, h1, h2⟩ := h
  exact h1.rd
theorem form_pos {w : World} {B : Nat} {e : TypeId} {s : Nat} {v : Value} {n : Nat} {xs : List Value} (h : w.ownsRow B e s v n xs) (h0 : 0 < n) : ∃ g cap, v = .slice (some ⟨g, 0, none⟩) n cap ∧ n ≤ cap ∧ cap ≤ maxLen ∧ g < w.heap.size ∧ B ≤ g := by
  have hlt := h.lt
  rcases h.2 with ⟨h2, h3⟩ | ⟨g, cap, cur, rfl, h1, h2, h3, h4, _⟩
  · omega
  · obtain ⟨q1, q2⟩ := hlt g rfl
    exact ⟨g, cap, rfl, h3, h4, q2, q1⟩
theorem FC.maps (h : FC B fb gt gn gs ra rc K O n L w) : ∃ a cap, w.cell? ⟨fb, 0 + 4, none⟩ = some (.slice a n cap) := by
  obtain ⟨vs, vm, val, ms, bm, cl, h1, h2⟩ := h
  obtain ⟨a, cap, e, _, _⟩ := own_len h1.mo
  exact ⟨a, cap, by simp [World.cell?, h1.box, e]⟩
theorem FC.lens (h : FC B fb gt gn gs ra rc K O n L w) {j : Nat} (hj : j < n) : ∃ sb cap a m, w.cell? ⟨fb, 0 + 5, none⟩ = some (.slice (some ⟨sb, 0, none⟩) n cap) ∧ n ≤ cap ∧ cap ≤ maxLen ∧ w.cell? ⟨sb, j, none⟩ = some (.slice a (L j).length m) ∧ (L j).length ≤ m ∧ m ≤ maxLen ∧ Ho.IRow (fun _ => True) w a (L j) ∧ Rd AnyB w (.sl ((L j).map Itm.d')) [.slice a (L j).length m] := by
  obtain ⟨vs, vm, val, ms, bm, cl, h1, h2⟩ := h
  obtain ⟨sb, cap, e, e1, e2, -, -⟩ := form_pos h1.out (by omega)
  have ho := h1.out
  rw [e] at ho
  have hc : w.cell? ⟨sb, j, none⟩ = some (val j) := by
    rw [ho.cellAt j (by omega), List.getElem?_map, List.getElem?_range hj]; rfl
  have hro := h1.row j hj
  obtain ⟨a, m, e3, e4, e5⟩ := own_len hro
  have hrd := rd_of_own (S := AnyB) hro (Ho.rdI (L j)) (by simp) (fun _ _ => trivial)
  rw [e3] at hc hrd hro
  refine ⟨sb, cap, a, m, by simp [World.cell?, h1.box, e], e1, e2, hc, e4, e5, fun i hi => ?_, hrd⟩
  rcases hro.2 with ⟨_, h0⟩ | ⟨g, m', cur, e6, _, _, _⟩
  · omega
  · cases e6
    obtain ⟨f0, f1, f2⟩ := flatI_get hi
    exact ⟨g, rfl, trivial, (hro.lt g rfl).2, by rw [hro.cellAt _ (by omega)]; exact f0, by rw [hro.cellAt _ (by omega)]; exact f1, by rw [hro.cellAt _ (by omega)]; exact f2⟩
end
end Ea
end Go.Proofs.Ytjpmebppdcclbaa
namespace Go.Proofs.Ytjpmebppdcclbaa
open Go.RowKit
namespace Ea
open Rp Hl
open Ht hiding D
set_option maxHeartbeats 4000000 in
set_option maxRecDepth 100000 in
theorem nextE {B fb : Nat} {gt gn gs : Int} {ra : Option Addr} {rc : Nat} {K : List Rule} {O : Nat → Prop} {n : Nat} {L : Nat → List Itm} (W : World) (h : FC B fb gt gn gs ra rc K O n L W) (x : Itm) (hx : x.r < K.length) (hdl : x.d ≤ (K[x.r]'hx).right.length) :
    Calls Try.prog 104 #[.pointer (some ⟨fb, 0, none⟩), .agg #[.int .i64 (x.r : Int), .int .i64 (x.d : Int), .int .i64 (x.f : Int)]] W fun e w' => e = .returned (.tuple #[.agg #[.bool (Ho.nxtV K x).term, .int .i64 (Ho.nxtV K x).n], .bool (nxt K x).isSome]) ∧ Below W.heap.size W w' := by
  have hrd := h.rd
  obtain ⟨w0, HW⟩ := nameIt ((W.alloc (.cells #[.int .i64 (x.r : Int), .int .i64 (x.d : Int), .int .i64 (x.f : Int)] 156)).alloc (.cells #[.bool false, .int .i64 0] 44))
  have hw0 : Below W.heap.size W w0 := by rw [← HW.out]; exact ((Below.refl _ _).alloc (Nat.le_refl _) _).alloc (by simp) _
  have HI0 : Hid (w0.heap[W.heap.size]? = some (.cells #[.int .i64 (x.r : Int), .int .i64 (x.d : Int), .int .i64 (x.f : Int)] 156 (0, 0))) := by
    rw [← HW.out]; exact bx_keep (bx_new _ _ _ rfl) ((Below.refl _ _).alloc (Nat.le_refl _) _)
  have HZ0 : Hid (w0.heap[W.heap.size + 1]? = some (.cells #[.bool false, .int .i64 0] 44 (0, 0))) := by
    rw [← HW.out]; exact bx_new _ _ _ (by simp)
  have HB0 := Lib.hid hw0
  have h3 : w0.cell? ⟨fb, 0 + 3, none⟩ = some (.slice ra K.length rc) := (h.keep hw0).rules
  obtain ⟨bk, ro, v, hae, -, hbk, s0, s1, hrr⟩ := (hrd.below hw0).rule_at hx
  obtain ⟨av, cv, rfl, hv1, hv2⟩ := hrr.form
  have hnx : nxt K x = K[x.r].right[x.d]? := by unfold nxt; rw [List.getElem?_eq_getElem hx]; rfl
  obtain ⟨r, HR⟩ := nameIt (K[x.r]'hx)
  rw [HR.out] at s1 hrr hv1 hnx hdl
  rw [List.length_map] at s1 hrr hv1
  unfold Ho.nxtV
  obtain ⟨PST, HP⟩ := nameIt (fun (e : Ending) (w' : World) => e = .returned (.tuple #[.agg #[.bool ((nxt K x).getD ⟨false, 0⟩).term, .int .i64 ((nxt K x).getD ⟨false, 0⟩).n], .bool (nxt K x).isSome]) ∧ Below W.heap.size W w')
  have HEND : Hid (∀ (s : Sym) (q : Bool) w', (nxt K x).getD ⟨false, 0⟩ = s → (nxt K x).isSome = q → Below w0.heap.size w0 w' → PST (.returned (.tuple #[.agg #[.bool s.term, .int .i64 s.n], .bool q])) ((w'.setCell ⟨W.heap.size + 1, 0, none⟩ (.bool s.term)).setCell ⟨W.heap.size + 1, 0 + 1, none⟩ (.int .i64 s.n))) := by
    intro s q w' h1 h2 hb
    rw [← HP.out, h1, h2]
    have hB : Below W.heap.size W w' := HB0.out.trans (hb.mono HB0.out.size)
    exact ⟨rfl, (hB.setCell (p := ⟨W.heap.size + 1, 0, none⟩) (by simp) _).setCell (p := ⟨W.heap.size + 1, 0 + 1, none⟩) (by simp) _⟩
  rw [HP.out]
  rw [hnx] at HEND
  have HRR := Lib.hid hrr
  obtain ⟨rn, HRN⟩ := nameIt r.right.length
  rw [HRN.out] at s1 HRR hv1 hdl
  obtain ⟨kn, HKN⟩ := nameIt K.length
  have hxk : x.r < kn := by rw [← HKN.out]; exact hx
  have hxk' : (x.r : Int) < (kn : Int) := by omega
  rw [HKN.out] at h3
  obtain ⟨xr, HXR⟩ := nameIt x.r
  obtain ⟨xd, HXD⟩ := nameIt x.d
  obtain ⟨xf, HXF⟩ := nameIt x.f
  rw [HXR.out] at s1 hxk hxk'
  rw [HXR.out, HXD.out, HXF.out] at HW HI0
  rw [HXD.out] at HEND hdl
  rw [HXR.out, HXD.out, HXF.out]
  unfold maxLen at hv2
  subst hae
  have i0 := aft_cell h3
  obtain ⟨y0, y1, y2⟩ := bx_cells3 HI0.out
  have i1 := aft_cell y0
  have i2 := aft_cell s1
  clear h3 y0 y1 y2 s0 s1 hrr hw0 hrd hnx HP h
  go_enter Try.func104, Try.ntmps104
  go_upto_region 1 with fail
  rw [HW.out]
  clear HW
  refine wp_region_after (by kernel_rfl) (by kernel_rfl) ?_
  repeat (go_big_quiet_step (fail))
  refine wpQuiet_nil ?_
  rintro w7 ⟨⟨_, hb7⟩, rfl⟩
  have HB7 := Lib.hid hb7
  obtain ⟨y0, y1, y2⟩ := bx_cells3 (bx_keep HI0.out hb7)
  obtain ⟨z0, z1⟩ := bx_cells2 (bx_keep HZ0.out hb7)
  have f0 : w7.frozen? ⟨W.heap.size + 1, 0, none⟩ = false := by simp [World.frozen?, bx_keep HZ0.out hb7]
  have f1 : w7.frozen? ⟨W.heap.size + 1, 0 + 1, none⟩ = false := by simp [World.frozen?, bx_keep HZ0.out hb7]
  have hrw := HRR.out.below hb7
  clear hb7 i0 i1 i2
  by_cases hd : xd < rn
  · have hd' : ((xd : Int) == (rn : Int)) = false := by rw [beq_eq_false_iff_ne]; omega
    have hd2 : (xd : Int) < (rn : Int) := by omega
    have hdL : xd < r.right.length := by rw [HRN.out]; exact hd
    obtain ⟨sb2, so, hae2, -, -, t0, t1⟩ := hrw.sym_at hdL
    have HE := Lib.hid (HEND.out r.right[xd] true w7 (by rw [List.getElem?_eq_getElem hdL]; rfl) (by rw [List.getElem?_eq_getElem hdL]; rfl) HB7.out)
    obtain ⟨⟨st, sn⟩, HS⟩ := nameIt (r.right[xd]'hdL)
    rw [HS.out] at HE t0 t1
    subst hae2
    clear hrw
    go_wp2_with fail
    first | exact HE.out | (refine bodyPost_ret (v := .tuple #[.agg #[.bool st, .int .i64 sn], .bool true]) (by simp [results, Try.results104, go_sem, z0, z1]) rfl ?_; exact HE.out)
  · have hd' : ((xd : Int) == (rn : Int)) = true := by rw [beq_iff_eq]; omega
    have hno : r.right[xd]? = none := List.getElem?_eq_none (by rw [HRN.out]; omega)
    have HE := Lib.hid (HEND.out ⟨false, 0⟩ false w7 (by rw [hno]; rfl) (by rw [hno]; rfl) HB7.out)
    clear hrw hno
    go_wp2_with fail
    first | exact HE.out | (refine bodyPost_ret (v := .tuple #[.agg #[.bool false, .int .i64 0], .bool false]) (by simp [results, Try.results104, go_sem, z0, z1]) rfl ?_; exact HE.out)
theorem own_irow {w : World} {B : Nat} {v : Value} {c : List Itm} {n : Nat} (hn : n = c.length) (h : w.ownsRow B 156 3 v n (flatI c)) : ∃ a m, v = .slice a n m ∧ n ≤ m ∧ m ≤ maxLen ∧ Ho.IRow (fun k => B ≤ k ∧ v.ownBlock = some k) w a c := by
  subst hn
  obtain ⟨a, m, e, e1, e2⟩ := own_len h
  refine ⟨a, m, e, e1, e2, fun i hi => ?_⟩
  have hlt := h.lt
  rcases h.2 with ⟨_, h0⟩ | ⟨g, m', cur, e3, _, _, _⟩
  · omega
  · rw [e] at e3
    cases e3
    rw [e] at h
    obtain ⟨f0, f1, f2⟩ := flatI_get hi
    obtain ⟨h1, h2⟩ := hlt g (by rw [e]; rfl)
    exact ⟨g, rfl, ⟨h1, by rw [e]; rfl⟩, h2, by rw [h.cellAt _ (by omega)]; exact f0, by rw [h.cellAt _ (by omega)]; exact f1, by rw [h.cellAt _ (by omega)]; exact f2⟩
set_option maxHeartbeats 2000000 in
theorem cloneI (c : List Itm) (a : Option Addr) (m : Nat) (w : World) (h : Rd AnyB w (.sl (c.map Itm.d')) [.slice a c.length m]) (hb : c.length ≤ 1000000) :
    Calls Try.prog 114 #[.slice a c.length m] w fun e w' => ∃ a' m', e = .returned (.slice a' c.length m') ∧ Ho.IRow (fun k => w.heap.size ≤ k) w' a' c ∧ Below w.heap.size w w' := by
  have hnil := fun (w : World) (a : Option Addr) (n c : Nat) => Lib.run_eql_slice_nil (P := Try.prog) w 154 156 a n c 0 0 Try.underlying154
  have HML : Hid ((c.map Itm.d').length = c.length) := by show _ = _; simp
  cases a with
  | none =>
    have hl : c.length = 0 := by
      obtain ⟨a', cap, L, e, h1, h2, h3, h4, h5⟩ := h
      rw [HML.out] at e h1
      simp at e
      obtain ⟨rfl, rfl⟩ := e
      have := h3 rfl
      omega
    have hc : c = [] := List.eq_nil_of_length_eq_zero hl
    subst hc
    clear h hl
    go_enter Try.func114, Try.ntmps114
    go_wp2
    go_ret
    exact ⟨none, 0, rfl, fun i hi => by simp at hi, Below.refl _ _⟩
  | some x =>
    have hb1 : Below w.heap.size w (w.alloc (.cells #[] 156)) := (Below.refl _ _).alloc (Nat.le_refl _) _
    have HV := Lib.hid (h.below hb1)
    have HO : Hid ((w.alloc (.cells #[] 156)).ownsRow w.heap.size 156 3 (.slice (some ⟨w.heap.size, 0, none⟩) 0 0) 0 []) := World.ownsRow_made w #[] 0 (Nat.le_refl _) (by simp) rfl
    have HB1 := Lib.hid hb1
    obtain ⟨n, HN⟩ := nameIt c.length
    rw [HN.out] at HV HML hb
    rw [HN.out]
    clear h hb1
    go_enter Try.func114, Try.ntmps114
    go_wp2_with (at_builtin; refine wp_appD elItem rfl _ _ rfl HO.out rfl HV.out rfl (Ho.items_cells c) (by rw [HML.out]; omega) (by rw [HML.out]; unfold maxLen; omega) (by simp) ?_)
    intro v' w' L hd ho hg hat
    have hL := Ho.rdI_eq hd
    subst hL
    have hb2 : Below w.heap.size w w' := HB1.out.trans (below_grown hg (by simp) (fun k hk => by simp [Value.ownBlock] at hk; omega))
    obtain ⟨a', m', rfl, -, -, hir⟩ := own_irow (n := n) HN.out.symm (by simpa [HN.out] using ho)
    have HR := Lib.hid (hir.mono (Q := fun k => w.heap.size ≤ k) (fun k hk => hk.1))
    have HB2 := Lib.hid hb2
    clear hd ho hg hat hb2 hir
    go_wp2
    go_ret
    exact ⟨a', m', rfl, HR.out, HB2.out⟩
end Ea
end Go.Proofs.Ytjpmebppdcclbaa
namespace Go.Proofs.Ytjpmebppdcclbaa
open Go.RowKit
section
variable {P : Program} {ops : Array Oper} {Q : Exit → Act → World → Prop} {md : Region.Mode} {S : World → Prop} {n : Nat}
def waitsB (md : Region.Mode) (ops : Array Oper) (n i : Nat) : Bool := match ops[n]? with
  | some o => o.after.any fun e => Region.binds md e && e.on == i
  | none => false
theorem waits_not {i n : Nat} {listed : Array Bool} (hw : waitsB md ops n i = true) (hun : listed.getD i false = false) : n ∉ Region.ready md ops listed := by
  intro hr
  obtain ⟨_, o, ho, hall⟩ := mem_ready.1 hr
  unfold waitsB at hw
  rw [ho] at hw
  simp only at hw
  obtain ⟨e, he, h1⟩ := Array.any_eq_true'.1 hw
  rw [Bool.and_eq_true] at h1
  have := hall e he h1.1
  rw [show e.on = i by simpa using h1.2, hun] at this
  cases this
theorem wpU_firstM {i : Nat} {oi : Oper} {v : Value} (hi : ops[i]? = some oi) (hsel : ∀ (j : Nat) (o : Oper) cs b, ops[j]? = some o → o.op ≠ .select cs b)
    (hQ : ∀ c a w, Q (.panic c) (a.put oi.dst v) w → Q (.panic c) a w) (hin : i ≠ n) (hw : waitsB md ops n i = true) :
    ∀ (f : Nat) (listed : Array Bool) (a : Act) (w : World), listed.getD n true = false →
      (∀ j oj, ops[j]? = some oj → j ≠ i → listed.getD j true = false → (∀ e ∈ oj.after, Region.binds md e = true → e.on ≠ i) → oi.apart ops oj = true) →
      i ∈ Region.ready md ops listed → YieldsIf P ops S oi v a → S w →
      wpU P md ops Q S n f (listed.setIfInBounds i true) (a.put oi.dst v) w → wpU P md ops Q S n (f + 1) listed a w := by
  intro f
  induction f with
  | zero =>
    intro listed a w _ _ hr hy hS H
    refine ⟨fun h => (by rw [h] at hr; cases hr), fun j hj => ?_⟩
    by_cases hji : j = i
    · subst hji; exact hy.wpOp hi hS ⟨fun _ => hS, H⟩
    · have h1 := ready_mono hj hji
      rw [H.1] at h1
      cases h1
  | succ f ih =>
    intro listed a w hnl hfree hr hy hS H
    have hun := (mem_ready.1 hr).1
    refine ⟨fun h => (by rw [h] at hr; cases hr), fun j hj => ?_⟩
    by_cases hji : j = i
    · subst hji; exact hy.wpOp hi hS ⟨fun _ => hS, H⟩
    · have hjn : j ≠ n := fun e => waits_not hw (getD_both hun) (e ▸ hj)
      have h1 := H.2 j (ready_mono hj hji)
      obtain ⟨hjun, oj, hoj, hall⟩ := mem_ready.1 hj
      have hnot : ∀ e ∈ oj.after, Region.binds md e = true → e.on ≠ i := fun e he hb heq => by
        have h1 := hall e he hb
        rw [heq, getD_both hun] at h1
        cases h1
      have h2 := wpOp_putIf hoj (hfree j oj hoj hji hjun hnot) (fun cs b => hsel i oi cs b hi) (fun cs b => hsel j oj cs b hoj) hQ hy h1
      have hfree' : ∀ k ok, ops[k]? = some ok → k ≠ i → (listed.setIfInBounds j true).getD k true = false →
          (∀ e ∈ ok.after, Region.binds md e = true → e.on ≠ i) → oi.apart ops ok = true := fun k ok hk hki hun hno => by
        refine hfree k ok hk hki ?_ hno
        by_cases hjk : j = k
        · subst hjk; exact hjun
        · rw [getD_set_ne true hjk] at hun; exact hun
      have hnn : ((listed.setIfInBounds i true).setIfInBounds j true).getD n true = false := by
        rw [getD_set_ne true hjn, getD_set_ne true hin]
        exact hnl
      have hn2 : (listed.setIfInBounds j true).getD n true = false := by
        rw [getD_set_ne true hjn]; exact hnl
      refine wpOp_mono (fun a' w' h3 => ⟨fun _ => h3.2.1 hnn, ih (listed.setIfInBounds j true) a' w' hn2 hfree' (ready_mono hr (Ne.symm hji)) h3.1 (h3.2.1 hnn) ?_⟩) h2
      rw [Array.setIfInBounds_comm _ _ hji]
      exact h3.2.2
theorem wpU_takeM {i : Nat} {oi : Oper} {v : Value} {f : Nat} {listed : Array Bool} {a : Act} {w : World} (hi : ops[i]? = some oi) (hin : (i == n) = false) (hw : waitsB md ops n i = true) (hnl : listed.getD n true = false)
    (hsel : Region.noSelect ops = true) (hf : Region.free md ops listed i = true) (hr : (Region.ready md ops listed).contains i = true)
    (hQ : ∀ c a w, Q (.panic c) (a.put oi.dst v) w → Q (.panic c) a w) (hy : YieldsIf P ops S oi v a) (hS : S w)
    (h : wpU P md ops Q S n f (listed.setIfInBounds i true) (a.put oi.dst v) w) : wpU P md ops Q S n (f + 1) listed a w :=
  wpU_firstM hi (Region.noSelect_spec hsel) hQ (by simpa using hin) hw f listed a w hnl (Region.free_spec hi hf) (by simpa using hr) hy hS h
theorem wpU_firstF {i : Nat} {oi : Oper} {v : Value} (hi : ops[i]? = some oi) (hsel : ∀ (j : Nat) (o : Oper) cs b, ops[j]? = some o → o.op ≠ .select cs b)
    (hQ : ∀ c a w, Q (.panic c) (a.put oi.dst v) w → Q (.panic c) a w) (hin : i ≠ n) :
    ∀ (f : Nat) (listed : Array Bool) (a : Act) (w : World),
      (∀ j oj, ops[j]? = some oj → j ≠ i → listed.getD j true = false → (∀ e ∈ oj.after, Region.binds md e = true → e.on ≠ i) → oi.apart ops oj = true) →
      i ∈ Region.ready md ops listed → YieldsIf P ops (fun _ => True) oi v a → (listed.getD n true = false → S w) →
      wpU P md ops Q S n f (listed.setIfInBounds i true) (a.put oi.dst v) w → wpU P md ops Q S n (f + 1) listed a w := by
  intro f
  induction f with
  | zero =>
    intro listed a w _ hr hy hS H
    refine ⟨fun h => (by rw [h] at hr; cases hr), fun j hj => ?_⟩
    by_cases hji : j = i
    · subst hji; exact hy.wpOp hi trivial ⟨fun h => hS (by rw [getD_set_ne true hin] at h; exact h), H⟩
    · have h1 := ready_mono hj hji
      rw [H.1] at h1
      cases h1
  | succ f ih =>
    intro listed a w hfree hr hy hS H
    have hun := (mem_ready.1 hr).1
    refine ⟨fun h => (by rw [h] at hr; cases hr), fun j hj => ?_⟩
    by_cases hji : j = i
    · subst hji; exact hy.wpOp hi trivial ⟨fun h => hS (by rw [getD_set_ne true hin] at h; exact h), H⟩
    · have h1 := H.2 j (ready_mono hj hji)
      obtain ⟨hjun, oj, hoj, hall⟩ := mem_ready.1 hj
      have hnot : ∀ e ∈ oj.after, Region.binds md e = true → e.on ≠ i := fun e he hb heq => by
        have h1 := hall e he hb
        rw [heq, getD_both hun] at h1
        cases h1
      have h2 := wpOp_putIf hoj (hfree j oj hoj hji hjun hnot) (fun cs b => hsel i oi cs b hi) (fun cs b => hsel j oj cs b hoj) hQ hy h1
      have hfree' : ∀ k ok, ops[k]? = some ok → k ≠ i → (listed.setIfInBounds j true).getD k true = false →
          (∀ e ∈ ok.after, Region.binds md e = true → e.on ≠ i) → oi.apart ops ok = true := fun k ok hk hki hun hno => by
        refine hfree k ok hk hki ?_ hno
        by_cases hjk : j = k
        · subst hjk; exact hjun
        · rw [getD_set_ne true hjk] at hun; exact hun
      refine wpOp_mono (fun a' w' h3 => ?_) h2
      have hSS : (listed.setIfInBounds j true).getD n true = false → S w' := fun h => h3.2.1 (by
        by_cases hjn : j = n
        · subst hjn
          rw [Array.setIfInBounds_comm _ _ hin, getD_set_ne true hin]
          exact h
        · rw [getD_set_ne true hjn] at h
          rw [getD_set_ne true hjn, getD_set_ne true hin]; exact h)
      refine ⟨hSS, ih (listed.setIfInBounds j true) a' w' hfree' (ready_mono hr (Ne.symm hji)) h3.1 hSS ?_⟩
      rw [Array.setIfInBounds_comm _ _ hji]
      exact h3.2.2
theorem wpU_takeF {i : Nat} {oi : Oper} {v : Value} {f : Nat} {listed : Array Bool} {a : Act} {w : World} (hi : ops[i]? = some oi) (hin : (i == n) = false)
    (hsel : Region.noSelect ops = true) (hf : Region.free md ops listed i = true) (hr : (Region.ready md ops listed).contains i = true)
    (hQ : ∀ c a w, Q (.panic c) (a.put oi.dst v) w → Q (.panic c) a w) (hy : YieldsIf P ops (fun _ => True) oi v a) (hS : listed.getD n true = false → S w)
    (h : wpU P md ops Q S n f (listed.setIfInBounds i true) (a.put oi.dst v) w) : wpU P md ops Q S n (f + 1) listed a w :=
  wpU_firstF hi (Region.noSelect_spec hsel) hQ (by simpa using hin) f listed a w (Region.free_spec hi hf) (by simpa using hr) hy hS h
theorem wp_region_M {id : Nat} {a : Act} {w : World} (n : Nat) (hm : P.follows .mixedOrders = true)
    (h : wpU P .any ops Q S n ops.size (Array.replicate ops.size false) a w.drew) : (Code.region id ops true).wp P Q a w :=
  wp_region_any hm (wpAny_of_U _ _ _ _ h)
end
end Go.Proofs.Ytjpmebppdcclbaa
namespace Go.Proofs.Ytjpmebppdcclbaa
open Go.RowKit
namespace Ea
open Rp Hl
open Ht hiding D
section
variable {B fb : Nat} {gt gn gs : Int} {ra : Option Addr} {rc : Nat} {K : List Rule} {vs vm : Value} {n : Nat} {val : Nat → Value} {L : Nat → List Itm} {ms : List Value} {bm : Nat} {cl : List Itm} {w w' : World}
theorem own_ne_map {e : TypeId} {s : Nat} {v : Value} {m : Nat} {xs : List Value} {es : Array MapEntry} {ck : Nat} {b : Nat} (h : w.ownsRow B e s v m xs) (hb : w.heap[b]? = some (.map es ck)) : v.ownBlock ≠ some b := by
  intro hg
  obtain ⟨cur, h1⟩ := own_typed h hg
  rw [hb] at h1
  cases h1
theorem own_ne_own {e e' : TypeId} {s s' : Nat} {v v' : Value} {m m' : Nat} {xs xs' : List Value} (h : w.ownsRow B e s v m xs) (h' : w.ownsRow B e' s' v' m' xs') (hne : e ≠ e') {g : Nat} (hg : v.ownBlock = some g) : v'.ownBlock ≠ some g := by
  intro hg'
  obtain ⟨cur, h1⟩ := own_typed h hg
  obtain ⟨cur', h2⟩ := own_typed h' hg'
  rw [h1] at h2
  cases h2
  exact hne rfl
theorem own_ne_box {e : TypeId} {s : Nat} {v : Value} {m : Nat} {xs : List Value} {cs : Array Value} {T : TypeId} {b : Nat} (h : w.ownsRow B e s v m xs) (hb : w.heap[b]? = some (.cells cs T (0, 0))) (hne : e ≠ T) : v.ownBlock ≠ some b := by
  intro hg
  obtain ⟨cur, h1⟩ := own_typed h hg
  rw [hb] at h1
  cases h1
  exact hne rfl
theorem map_ne {b k : Nat} {c : List Itm} {b' : Nat} {cs : Array Value} {T : TypeId} (h : SetI b k c w) (hb : w.heap[b']? = some (.cells cs T (0, 0))) : b' ≠ b := by
  rintro rfl
  obtain ⟨es, ck, h1⟩ := set_map h
  rw [hb] at h1
  cases h1
theorem FCi.map_add {x : Itm} {k' : Nat} (h : FCi B fb gt gn gs ra rc K vs vm n val L ms bm cl w) (h0 : 0 < n) (hs : SetI bm k' (cl ++ [x]) w') (hk : k' ≤ cl.length + 1) (hg : w.grownBy w' (some bm)) :
    FCi B fb gt gn gs ra rc K vs vm n val L ms bm (cl ++ [x]) w' ∧ Stp (OwE fb vs vm bm n val) (OwE fb vs vm bm n val) w w' := by
  obtain ⟨c0, hc0, hset⟩ := (h.ml (n - 1) (by omega)).2
  obtain ⟨es, ck, hmp⟩ := set_map hset
  refine ⟨⟨h.out.kept hg (.inr (own_ne_map h.out hmp)), fun k hk => (h.row k hk).kept hg (.inr (own_ne_map (h.row k hk) hmp)), h.dis, h.mo.kept hg (.inr (own_ne_map h.mo hmp)), fun k hk2 => ⟨(h.ml k hk2).1, k', by simpa using hk, hs⟩, h.bml, (hg.block fb (bx_lt h.box) (fun e => map_ne hset h.box (by cases e; rfl))).trans h.box, h.fbl, ?_⟩, ⟨hg.os, hg.tape, hg.output, hg.size, fun k hk hn => hg.block k hk (fun e => hn (.inr (.inr (.inr (.inl (by cases e; rfl)))))), fun k hk => .inl hk⟩⟩
  refine Rd.keep (fun k hk hlt => ⟨hk, hg.block k hlt (fun e => ?_)⟩) _ _ h.rd
  have h1 : k < B := hk
  have h2 := h.bml
  cases e
  omega
theorem FCi.app {t : Nat} (h : FCi B fb gt gn gs ra rc K vs vm n val L ms bm cl w) (ht1 : t + 1 = n) {sb cap : Nat} (hvs : vs = .slice (some ⟨sb, 0, none⟩) n cap) {v' : Value} {x : Itm} (ho : w'.ownsRow B 156 3 v' ((L t).length + 1) (flatI (L t) ++ [.int .i64 (x.r : Int), .int .i64 (x.d : Int), .int .i64 (x.f : Int)])) (hg : w.grownBy w' (val t).ownBlock)
    (hat : v'.ownBlock = (val t).ownBlock ∨ ∃ k, v'.ownBlock = some k ∧ w.heap.size ≤ k) :
    w'.cell? ⟨fb, 0 + 5, none⟩ = some vs ∧ w'.cell? ⟨sb, t, none⟩ = some (val t) ∧ w'.frozen? ⟨sb, t, none⟩ = false ∧
      FCi B fb gt gn gs ra rc K vs vm n (fun k => if k = t then v' else val k) (upL L t (L t ++ [x])) ms bm cl (w'.setCell ⟨sb, t, none⟩ v') ∧ Stp (OwE fb vs vm bm n val) (OwE fb vs vm bm n (fun k => if k = t then v' else val k)) w (w'.setCell ⟨sb, t, none⟩ v') := by
  have htn : t < n := by omega
  obtain ⟨c0, hc0, hset⟩ := (h.ml t ht1).2
  obtain ⟨es, ck, hmp⟩ := set_map hset
  have hrt := h.row t htn
  have hT : (154 : TypeId) ≠ 156 := by decide
  have hT2 : (166 : TypeId) ≠ 156 := by decide
  have hT3 : (156 : TypeId) ≠ 153 := by decide
  have hT4 : (154 : TypeId) ≠ 153 := by decide
  have hT5 : (166 : TypeId) ≠ 154 := by decide
  have hvb : vs.ownBlock = some sb := by rw [hvs]; rfl
  have hnv : vs.ownBlock ≠ (val t).ownBlock := by
    intro e
    rw [hvb] at e
    exact own_ne_own h.out hrt hT hvb e.symm
  have hnm : vm.ownBlock = none ∨ vm.ownBlock ≠ (val t).ownBlock := by
    cases e : vm.ownBlock with
    | none => exact .inl rfl
    | some g => exact .inr (fun e2 => own_ne_own h.mo hrt hT2 e e2.symm)
  have ho1 : w'.ownsRow B 154 1 vs n ((List.range n).map val) := h.out.kept hg (.inr hnv)
  have hm1 : w'.ownsRow B 166 1 vm n ms := h.mo.kept hg hnm
  have hfne : (val t).ownBlock ≠ some fb := own_ne_box hrt h.box hT3
  have hbx1 : w'.heap[fb]? = some (.cells #[.int .i64 gt, .int .i64 gn, .int .i64 gs, .slice ra K.length rc, vm, vs] 153 (0, 0)) := (hg.block fb (bx_lt h.box) (fun e => hfne e.symm)).trans h.box
  have hset1 : SetI bm c0 cl w' := SetM.kept hset hg (fun e => own_ne_map hrt hmp e.symm)
  have hsb : sb < w.heap.size ∧ B ≤ sb := by have := h.out.lt sb hvb; omega
  have hfs : fb ≠ sb := fun e => own_ne_box h.out h.box hT4 (by rw [hvb, e])
  have hbs : bm ≠ sb := fun e => own_ne_map h.out hmp (by rw [hvb, e])
  have hms : vm.ownBlock ≠ some sb := fun e => own_ne_own h.mo h.out hT5 e hvb
  rw [hvs] at ho1
  have hne : ∀ k g, k < n → (if k = t then v' else val k).ownBlock = some g → g ≠ sb := by
    intro k g hk e
    by_cases e1 : k = t
    · rw [if_pos e1] at e
      rcases hat with e2 | ⟨q, e2, hq⟩
      · rintro rfl
        exact hnv (by rw [hvb, ← e2, e])
      · rw [e2] at e; cases e; omega
    · rw [if_neg e1] at e
      rintro rfl
      exact own_ne_own h.out (h.row k hk) hT hvb e
  have hcell : w'.cell? ⟨sb, t, none⟩ = some (val t) := by rw [ho1.cellAt t (by omega), List.getElem?_map, List.getElem?_range htn]; rfl
  refine ⟨by simp [World.cell?, hbx1], hcell, ho1.frozenAt t, ⟨?_, fun k hk => ?_, fun k k' hk hk' hkk g hgk hgk' => ?_, ?_, fun k hk => ?_, h.bml, ?_, h.fbl, ?_⟩, ?_⟩
  · have := (ho1.stored t v').1
    have e : ((List.range n).map val).set t v' = (List.range n).map (fun k => if k = t then v' else val k) := by
      apply List.ext_getElem?
      intro j
      rw [List.getElem?_set]
      by_cases hj : j < n
      · by_cases e : t = j
        · subst e
          simp [hj]
        · rw [if_neg e]
          simp [hj, Ne.symm e]
      · by_cases e : t = j
        · omega
        · rw [if_neg e]
          simp [hj]
    rw [e] at this
    rw [hvs]
    exact this
  · by_cases e : k = t
    · subst e
      unfold upL
      simp only [if_true]
      rw [flatI_app, List.length_append]
      exact own_blkI (w := w') ho fun g hgk => Below.heap_setCell _ _ _ _ (hne k g hk (by rw [if_pos rfl]; exact hgk))
    · unfold upL
      simp only [e, if_false]
      refine own_blkI (w := w) (h.row k hk) fun g hgk => ?_
      have h5 := hne k g hk (by rw [if_neg e]; exact hgk)
      have h6 := (h.row k hk).lt g hgk
      have h8 := hg.block g h6.2 (fun e2 => h.dis k t hk htn e g hgk e2.symm)
      rw [← h8]
      exact Below.heap_setCell _ _ _ _ h5
  · have hq : ∀ j, j < n → j ≠ t → (val j).ownBlock ≠ v'.ownBlock ∨ v'.ownBlock = none := by
      intro j hj hjt
      rcases hat with e | ⟨q, e, hq⟩
      · cases hv : v'.ownBlock with
        | none => exact .inr rfl
        | some g' =>
          refine .inl fun e2 => ?_
          rw [hv] at e
          exact h.dis j t hj htn hjt g' e2 e.symm
      · rw [e]
        refine .inl fun e2 => ?_
        have := ((h.row j hj).lt q e2).2
        omega
    by_cases e1 : k = t <;> by_cases e2 : k' = t <;> simp only [e1, e2, if_true, if_false] at hgk hgk'
    · exact hkk (by rw [e1, e2])
    · rcases hq k' hk' e2 with h | h
      · exact h (by rw [hgk, hgk'])
      · rw [h] at hgk; cases hgk
    · rcases hq k hk e1 with h | h
      · exact h (by rw [hgk, hgk'])
      · rw [h] at hgk'; cases hgk'
    · exact h.dis k k' hk hk' hkk g hgk hgk'
  · exact hm1.kept (grown_cell w' ⟨sb, t, none⟩ v') (.inr hms)
  · exact ⟨(h.ml k hk).1, c0, hc0, SetM.kept hset1 (grown_cell w' ⟨sb, t, none⟩ v') (fun e => hbs (by cases e; rfl))⟩
  · rw [bx_other hbx1 hfs]
  · refine Rd.keep (fun k hk hlt => ⟨hk, ?_⟩) _ _ h.rd
    have hk' : k < B := hk
    rw [Below.heap_setCell _ _ _ _ (by simp only; omega)]
    exact hg.block k hlt (fun e => by have := (hrt.lt k e.symm).1; omega)
  · refine ⟨hg.os, hg.tape, hg.output, by rw [World.size_setCell]; exact hg.size, fun k hk hn => ?_, ?_⟩
    · rw [Below.heap_setCell _ _ _ _ (fun e => hn (.inr (.inl (by rw [hvb]; exact congrArg some (Eq.symm e)))))]
      exact hg.block k hk (fun e => hn (.inr (.inr (.inr (.inr ⟨t, ht1, e.symm⟩)))))
    · rintro k (h1 | h1 | h1 | h1 | ⟨i, hi, e⟩)
      · exact .inl (.inl h1)
      · exact .inl (.inr (.inl h1))
      · exact .inl (.inr (.inr (.inl h1)))
      · exact .inl (.inr (.inr (.inr (.inl h1))))
      · have e1 : i = t := by omega
        simp only [e1, if_true] at e
        rcases hat with e2 | ⟨q, e2, hq⟩
        · exact .inl (.inr (.inr (.inr (.inr ⟨t, ht1, by rw [← e2]; exact e⟩))))
        · rw [e2] at e; cases e; exact .inr hq
end
def AddPost (B fb : Nat) (gt gn gs : Int) (ra : Option Addr) (rc : Nat) (K : List Rule) (O : Nat → Prop) (n : Nat) (L : Nat → List Itm) (W : World) (e : Ending) (w' : World) : Prop := e = .returned (.tuple #[]) ∧ ∃ O', FC B fb gt gn gs ra rc K O' n L w' ∧ Stp O O' W w'
set_option maxHeartbeats 16000000 in
set_option maxRecDepth 100000 in
theorem addE {B fb : Nat} {gt gn gs : Int} {ra : Option Addr} {rc : Nat} {K : List Rule} {O : Nat → Prop} {n : Nat} {L : Nat → List Itm} (W : World) (h : FC B fb gt gn gs ra rc K O n L W) (k : Nat) (hk : n = k + 1) (hn : n ≤ 100) (x : Itm) (hc : (L k).length ≤ 900000) (hsm : ∀ y ∈ L k, smI y) (hx : smI x) :
    Calls Try.prog 105 #[.pointer (some ⟨fb, 0, none⟩), .agg #[.int .i64 (x.r : Int), .int .i64 (x.d : Int), .int .i64 (x.f : Int)]] W (AddPost B fb gt gn gs ra rc K O n (upL L k (addI (L k) x)) W) := by
  obtain ⟨vs, vm, val, ms, bm, cl, hF, h0, hcl, hO⟩ := h
  have hcl' : cl = L k := hcl k hk.symm
  subst hcl'
  have hBW : B ≤ W.heap.size := by have := bx_lt hF.box; have := hF.fbl; omega
  have hkn : k < n := by omega
  obtain ⟨w0, HW⟩ := nameIt (W.alloc (.cells #[.int .i64 (x.r : Int), .int .i64 (x.d : Int), .int .i64 (x.f : Int)] 156))
  have hw0 : Below W.heap.size W w0 := by rw [← HW.out]; exact (Below.refl _ _).alloc (Nat.le_refl _) _
  have HI0 : Hid (w0.heap[W.heap.size]? = some (.cells #[.int .i64 (x.r : Int), .int .i64 (x.d : Int), .int .i64 (x.f : Int)] 156 (0, 0))) := by rw [← HW.out]; exact bx_new _ _ _ rfl
  have HB0 := Lib.hid hw0
  have HF := Lib.hid hF
  have HLT : Hid (∀ k, OwE fb vs vm bm n val k → k < W.heap.size) := fun k h => (hF.lt h0 k h).2
  obtain ⟨sb, scap, hvs, hs1, hs2, hs3, -⟩ := form_pos hF.out (by omega)
  obtain ⟨mb, mcap, hvm, hm1, hm2, -, -⟩ := form_pos hF.mo (by omega)
  obtain ⟨a, cv, hval, hv1, hv2⟩ := own_len (hF.row k hkn)
  have hmsk := (hF.ml k hk.symm).1
  unfold maxLen at hs2 hm2 hv2
  have HCELLS : Hid (∀ w', FCi B fb gt gn gs ra rc K vs vm n val L ms bm (L k) w' → w'.cell? ⟨fb, 0 + 4, none⟩ = some (.slice (some ⟨mb, 0, none⟩) n mcap) ∧ w'.cell? ⟨fb, 0 + 5, none⟩ = some (.slice (some ⟨sb, 0, none⟩) n scap) ∧ w'.cell? ⟨mb, k, none⟩ = some (.map (some bm)) ∧ w'.cell? ⟨sb, k, none⟩ = some (.slice a (L k).length cv)) := by
    intro w' h1
    have q1 := h1.out
    have q2 := h1.mo
    rw [hvs] at q1
    rw [hvm] at q2
    refine ⟨by simp [World.cell?, h1.box, hvm], by simp [World.cell?, h1.box, hvs], ?_, ?_⟩
    · rw [q2.cellAt k (by omega)]; exact hmsk
    · rw [q1.cellAt k (by omega), List.getElem?_map, List.getElem?_range hkn, ← hval]; rfl
  have HCEL2 : Hid (∀ w', FCi B fb gt gn gs ra rc K vs vm n val L ms bm (L k ++ [x]) w' → w'.cell? ⟨fb, 0 + 5, none⟩ = some (.slice (some ⟨sb, 0, none⟩) n scap) ∧ w'.cell? ⟨sb, k, none⟩ = some (.slice a (L k).length cv) ∧ w'.ownsRow B 156 3 (.slice a (L k).length cv) (L k).length (flatI (L k))) := by
    intro w' h1
    have q1 := h1.out
    rw [hvs] at q1
    refine ⟨by simp [World.cell?, h1.box, hvs], ?_, ?_⟩
    · rw [q1.cellAt k (by omega), List.getElem?_map, List.getElem?_range hkn, ← hval]; rfl
    · rw [← hval]; exact h1.row k hkn
  have HLK : Hid (∀ w', FCi B fb gt gn gs ra rc K vs vm n val L ms bm (L k) w' → (Instr.lookup 166 (.map (some bm)) (.agg #[.int .i64 (x.r : Int), .int .i64 (x.d : Int), .int .i64 (x.f : Int)]) false).run Try.prog w' = .ok (.bool (decide (x ∈ L k))) w') := by
    intro w' h1
    obtain ⟨c, _, hs⟩ := (h1.ml k hk.symm).2
    exact SetI.look hs hsm hx
  have HUP : Hid (∀ w', FCi B fb gt gn gs ra rc K vs vm n val L ms bm (L k) w' → ∃ w2, (Instr.mapUpdate 166 (.map (some bm)) (.agg #[.int .i64 (x.r : Int), .int .i64 (x.d : Int), .int .i64 (x.f : Int)]) (.bool true)).run Try.prog w' = .ok () w2 ∧ FCi B fb gt gn gs ra rc K vs vm n val L ms bm (L k ++ [x]) w2 ∧ Stp (OwE fb vs vm bm n val) (OwE fb vs vm bm n val) w' w2) := by
    intro w' h1
    obtain ⟨c, hc1, hs⟩ := (h1.ml k hk.symm).2
    obtain ⟨w2, q1, q2, q3⟩ := SetI.add hs (by omega) hx
    obtain ⟨q4, q5⟩ := h1.map_add (by omega) q2 (by omega) q3
    exact ⟨w2, q1, q4, q5⟩
  have HAPP : Hid (∀ w1 w2 v', FCi B fb gt gn gs ra rc K vs vm n val L ms bm (L k ++ [x]) w1 → Stp (OwE fb vs vm bm n val) (OwE fb vs vm bm n val) W w1 → w2.ownsRow B 156 3 v' ((L k).length + 1) (flatI (L k) ++ [.int .i64 (x.r : Int), .int .i64 (x.d : Int), .int .i64 (x.f : Int)]) → w1.grownBy w2 (Value.slice a (L k).length cv).ownBlock → (v'.ownBlock = (Value.slice a (L k).length cv).ownBlock ∨ ∃ k', v'.ownBlock = some k' ∧ w1.heap.size ≤ k') → w2.cell? ⟨fb, 0 + 5, none⟩ = some (.slice (some ⟨sb, 0, none⟩) n scap) ∧ w2.cell? ⟨sb, k, none⟩ = some (.slice a (L k).length cv) ∧ w2.frozen? ⟨sb, k, none⟩ = false ∧ ∃ O', FC B fb gt gn gs ra rc K O' n (upL L k (L k ++ [x])) (w2.setCell ⟨sb, k, none⟩ v') ∧ Stp O O' W (w2.setCell ⟨sb, k, none⟩ v')) := by
    intro w1 w2 v' h1 hst ho hg hat
    rw [← hval] at hg hat
    obtain ⟨q0, q1, q2, q3, q4⟩ := h1.app hk.symm hvs ho hg hat
    have hO2 : O = OwE fb vs vm bm n val := funext fun k => propext (hO k)
    rw [hvs] at q0
    rw [hval] at q1
    refine ⟨q0, q1, q2, _, ⟨vs, vm, _, ms, bm, L k ++ [x], q3, .inl (by omega), fun k' hk' => ?_, fun _ => Iff.rfl⟩, ?_⟩
    · obtain rfl : k' = k := by omega
      unfold upL
      rw [if_pos rfl]
    · rw [hO2]
      exact hst.trans q4
  obtain ⟨PST, HP⟩ := nameIt (AddPost B fb gt gn gs ra rc K O n (upL L k (addI (L k) x)) W)
  have HNO : Hid (x ∈ L k → ∀ w', Below W.heap.size W w' → PST (.returned (.tuple #[])) w') := by
    intro hx w' hb
    rw [← HP.out]
    have e : addI (L k) x = L k := by unfold addI; rw [if_pos hx]
    rw [e, Ho.upL_self]
    exact ⟨rfl, O, ⟨vs, vm, val, ms, bm, L k, hF.keep hb, h0, hcl, hO⟩, Stp.below hb⟩
  have HYES : Hid (x ∉ L k → ∀ w', (∃ O', FC B fb gt gn gs ra rc K O' n (upL L k (L k ++ [x])) w' ∧ Stp O O' W w') → PST (.returned (.tuple #[])) w') := by
    intro hx w' hb
    rw [← HP.out]
    have e : addI (L k) x = L k ++ [x] := by unfold addI; rw [if_neg hx]
    rw [e]
    exact ⟨rfl, hb⟩
  rw [HP.out]
  have HF0 := Lib.hid (hF.keep hw0)
  obtain ⟨c4, c5, cm, cs⟩ := HCELLS.out w0 HF0.out
  obtain ⟨bq, HBQ⟩ := nameIt (decide (x ∈ L k))
  rw [HBQ.out] at HLK
  have hw1 : IntKind.i64.wrap ((n : Int) - 1) = (k : Int) := by rw [IntWalk.i64_in _ (by omega)]; omega
  have hkn' : (k : Int) < (n : Int) := by omega
  obtain ⟨m, HM⟩ := nameIt (L k).length
  rw [HM.out] at hc hv1 HCELLS HCEL2 HAPP cs
  obtain ⟨xr, HXR⟩ := nameIt x.r
  obtain ⟨xd, HXD⟩ := nameIt x.d
  obtain ⟨xf, HXF⟩ := nameIt x.f
  rw [HXR.out, HXD.out, HXF.out] at HW HI0
  simp only [HXR.out, HXD.out, HXF.out] at HLK HUP HAPP
  rw [HXR.out, HXD.out, HXF.out]
  obtain ⟨y0, y1, y2⟩ := bx_cells3 HI0.out
  have HVA : Hid (∀ q, (Value.slice a m cv).ownBlock = some q → OwE fb vs vm bm n val q) := fun q e => .inr (.inr (.inr (.inr ⟨k, hk.symm, by rw [hval, HM.out]; exact e⟩)))
  clear hw0 hF hval hmsk HP HXR HXD HXF hk hO hvs hvm hcl h0 hsm hx hs3
  go_enter Try.func105, Try.ntmps105
  go_upto_region 1 with fail
  rw [HW.out]
  clear HW
  go_upto_region 2 with fail
  have hlk : ∀ x : Aft w0, (Instr.lookup 166 (.map (some bm)) (.agg #[.int .i64 (xr : Int), .int .i64 (xd : Int), .int .i64 (xf : Int)]) false).run Try.prog x.w = .ok (.bool bq) x.w := fun x => HLK.out x.w (HF0.out.keep x.bel)
  have i0 := aft_cell c4
  have i1 := aft_cell cm
  have i2 := aft_cell y0
  have i3 := aft_cell y1
  have i4 := aft_cell y2
  clear c4 c5 cm cs y0 y1 y2
  refine wp_region_after (by kernel_rfl) (by kernel_rfl) ?_
  repeat (go_big_quiet_step (fail))
  refine wpQuiet_nil ?_
  rintro w1 ⟨⟨_, hb7⟩, rfl⟩
  have HB1 : Hid (Below W.heap.size W w1) := HB0.out.trans (hb7.mono HB0.out.size)
  have HI1 := Lib.hid (bx_keep HI0.out hb7)
  clear hb7 i0 i1 i2 i3 i4 hlk
  cases bq with
  | true =>
    have HE := Lib.hid (HNO.out (of_decide_eq_true HBQ.out) w1 HB1.out)
    go_wp2_with fail
    first | exact HE.out | exact bodyPost_end (results_none Try.results105 _ _ _) rfl HE.out
  | false =>
    have HNX : Hid (x ∉ L k) := of_decide_eq_false HBQ.out
    have HF1 := Lib.hid (HF.out.keep HB1.out)
    obtain ⟨c4, c5, cm, cs⟩ := HCELLS.out w1 HF1.out
    obtain ⟨y0, y1, y2⟩ := bx_cells3 HI1.out
    have i0 := aft_cell c4
    have i1 := aft_cell cm
    have i2 := aft_cell y0
    have i3 := aft_cell y1
    have i4 := aft_cell y2
    clear c4 c5 cm cs y0 y1 y2
    go_upto_region 3 with fail
    refine wp_region_after_tail 8 (by kernel_rfl) (by kernel_rfl) ?_
    simp only [List.take_succ_cons, List.take_zero, List.drop_succ_cons, List.drop_zero]
    repeat (go_big_quiet_step (fail))
    refine wpQuiet_nil ?_
    rintro w2 ⟨⟨_, hb8⟩, rfl⟩
    have HB2 : Hid (Below W.heap.size W w2) := HB1.out.trans (hb8.mono HB1.out.size)
    have HI2 := Lib.hid (bx_keep HI1.out hb8)
    obtain ⟨w3, hup, hf3, hst3⟩ := HUP.out w2 (HF.out.keep HB2.out)
    have HF3 := Lib.hid hf3
    have HS3 : Hid (Stp (OwE fb vs vm bm n val) (OwE fb vs vm bm n val) W w3) := (Stp.below HB2.out).trans hst3
    have HI3 : Hid (w3.heap[W.heap.size]? = some (.cells #[.int .i64 (xr : Int), .int .i64 (xd : Int), .int .i64 (xf : Int)] 156 (0, 0))) := (hst3.box HI2.out (fun e => by have := HLT.out W.heap.size e; omega)).1
    clear hb8 hf3 hst3 i0 i1 i2 i3 i4
    go_upto_region 4 with fail
    clear hup
-- R4
    have HCS : Hid (∀ w', Below w3.heap.size w3 w' → (fun w' : World => w'.cell? ⟨fb, 0 + 5, none⟩ = some (.slice (some ⟨sb, 0, none⟩) n scap) ∧ w'.cell? ⟨sb, k, none⟩ = some (.slice a m cv) ∧ w'.cell? ⟨W.heap.size, 0, none⟩ = some (.int .i64 (xr : Int)) ∧ w'.cell? ⟨W.heap.size, 0 + 1, none⟩ = some (.int .i64 (xd : Int)) ∧ w'.cell? ⟨W.heap.size, 0 + 2, none⟩ = some (.int .i64 (xf : Int))) w') := by
      intro w' hb
      obtain ⟨h1, h2, -⟩ := HCEL2.out w' (HF3.out.keep hb)
      obtain ⟨h3, h4, h5⟩ := bx_cells3 (bx_keep HI3.out hb)
      exact ⟨h1, h2, h3, h4, h5⟩
    obtain ⟨w4, HW4⟩ := nameIt (w3.alloc (.cells #[.int .i64 (xr : Int), .int .i64 (xd : Int), .int .i64 (xf : Int)] 156)).drew
    have hb4 : Below w3.heap.size w3 w4 := by rw [← HW4.out]; exact ((Below.refl w3.heap.size w3).alloc (Nat.le_refl _) _).drew
    have X4 : Hid (w4.heap[w3.heap.size]? = some (.cells #[.int .i64 (xr : Int), .int .i64 (xd : Int), .int .i64 (xf : Int)] 156 (0, 0))) := by rw [← HW4.out]; exact bx_new w3 _ _ rfl
    have HB34 := Lib.hid hb4
    have HF4 := Lib.hid (HF3.out.keep hb4)
    have HS4 : Hid (Stp (OwE fb vs vm bm n val) (OwE fb vs vm bm n val) W w4) := HS3.out.trans (Stp.below hb4)
    have HRW4 := Lib.hid (HCEL2.out w4 HF4.out).2.2
    have HBW4 : Hid (B ≤ w4.heap.size) := by show _ ≤ _; have := HS4.out.size; omega
    obtain ⟨q4, HQ4⟩ := nameIt w3.heap.size
    rw [HQ4.out] at X4
    clear hb4
    refine wp_region_M (S := (fun w' : World => w'.cell? ⟨fb, 0 + 5, none⟩ = some (.slice (some ⟨sb, 0, none⟩) n scap) ∧ w'.cell? ⟨sb, k, none⟩ = some (.slice a m cv) ∧ w'.cell? ⟨W.heap.size, 0, none⟩ = some (.int .i64 (xr : Int)) ∧ w'.cell? ⟨W.heap.size, 0 + 1, none⟩ = some (.int .i64 (xd : Int)) ∧ w'.cell? ⟨W.heap.size, 0 + 2, none⟩ = some (.int .i64 (xf : Int)))) 15 (by kernel_rfl) ?_
    refine wpU_takeF (i := 0) (v := .pointer (some ⟨fb, 0, none⟩)) rfl rfl (by kernel_rfl) (by kernel_rfl) (by kernel_rfl) (fun _ _ _ h => h) (Or.inl ⟨by rfl, fun w' hw' => ?_⟩) (fun _ => (HCS.out _ (Below.refl _ _).drew)) ?_
    · clear hw'
      go_simp
    try simp only [Act.put, List.setIfInBounds_toArray, List.set_cons_zero, List.set_cons_succ]
    refine wpU_takeF (i := 1) (v := .pointer (some ⟨fb, 0, none⟩)) rfl rfl (by kernel_rfl) (by kernel_rfl) (by kernel_rfl) (fun _ _ _ h => h) (Or.inl ⟨by rfl, fun w' hw' => ?_⟩) (fun _ => (HCS.out _ (Below.refl _ _).drew)) ?_
    · clear hw'
      go_simp
    try simp only [Act.put, List.setIfInBounds_toArray, List.set_cons_zero, List.set_cons_succ]
    refine wpU_takeF (i := 2) (v := .pointer (some ⟨fb, 0 + 5, none⟩)) rfl rfl (by kernel_rfl) (by kernel_rfl) (by kernel_rfl) (fun _ _ _ h => h) (Or.inl ⟨by rfl, fun w' hw' => ?_⟩) (fun _ => (HCS.out _ (Below.refl _ _).drew)) ?_
    · clear hw'
      go_simp
    try simp only [Act.put, List.setIfInBounds_toArray, List.set_cons_zero, List.set_cons_succ]
    refine wpU_takeM (i := 3) (v := .slice (some ⟨sb, 0, none⟩) n scap) rfl rfl (by kernel_rfl) (by kernel_rfl) (by kernel_rfl) (by kernel_rfl) (by kernel_rfl) (fun _ _ _ h => h) (Or.inl ⟨by rfl, fun w' hw' => ?_⟩) (HCS.out _ (Below.refl _ _).drew) ?_
    · obtain ⟨h0, h1, h2, h3, h4⟩ := hw'
      go_simp
    try simp only [Act.put, List.setIfInBounds_toArray, List.set_cons_zero, List.set_cons_succ]
    refine wpU_takeF (i := 4) (v := .int .i64 (k : Int)) rfl rfl (by kernel_rfl) (by kernel_rfl) (by kernel_rfl) (fun _ _ _ h => h) (Or.inl ⟨by rfl, fun w' hw' => ?_⟩) (fun _ => (HCS.out _ (Below.refl _ _).drew)) ?_
    · clear hw'
      go_simp
    try simp only [Act.put, List.setIfInBounds_toArray, List.set_cons_zero, List.set_cons_succ]
    refine wpU_takeF (i := 5) (v := .pointer (some ⟨fb, 0, none⟩)) rfl rfl (by kernel_rfl) (by kernel_rfl) (by kernel_rfl) (fun _ _ _ h => h) (Or.inl ⟨by rfl, fun w' hw' => ?_⟩) (fun _ => (HCS.out _ (Below.refl _ _).drew)) ?_
    · clear hw'
      go_simp
    try simp only [Act.put, List.setIfInBounds_toArray, List.set_cons_zero, List.set_cons_succ]
    refine wpU_takeF (i := 6) (v := .pointer (some ⟨fb, 0, none⟩)) rfl rfl (by kernel_rfl) (by kernel_rfl) (by kernel_rfl) (fun _ _ _ h => h) (Or.inl ⟨by rfl, fun w' hw' => ?_⟩) (fun _ => (HCS.out _ (Below.refl _ _).drew)) ?_
    · clear hw'
      go_simp
    try simp only [Act.put, List.setIfInBounds_toArray, List.set_cons_zero, List.set_cons_succ]
    refine wpU_takeF (i := 7) (v := .pointer (some ⟨fb, 0 + 5, none⟩)) rfl rfl (by kernel_rfl) (by kernel_rfl) (by kernel_rfl) (fun _ _ _ h => h) (Or.inl ⟨by rfl, fun w' hw' => ?_⟩) (fun _ => (HCS.out _ (Below.refl _ _).drew)) ?_
    · clear hw'
      go_simp
    try simp only [Act.put, List.setIfInBounds_toArray, List.set_cons_zero, List.set_cons_succ]
    refine wpU_takeM (i := 8) (v := .slice (some ⟨sb, 0, none⟩) n scap) rfl rfl (by kernel_rfl) (by kernel_rfl) (by kernel_rfl) (by kernel_rfl) (by kernel_rfl) (fun _ _ _ h => h) (Or.inl ⟨by rfl, fun w' hw' => ?_⟩) (HCS.out _ (Below.refl _ _).drew) ?_
    · obtain ⟨h0, h1, h2, h3, h4⟩ := hw'
      go_simp
    try simp only [Act.put, List.setIfInBounds_toArray, List.set_cons_zero, List.set_cons_succ]
    refine wpU_takeF (i := 9) (v := .int .i64 (k : Int)) rfl rfl (by kernel_rfl) (by kernel_rfl) (by kernel_rfl) (fun _ _ _ h => h) (Or.inl ⟨by rfl, fun w' hw' => ?_⟩) (fun _ => (HCS.out _ (Below.refl _ _).drew)) ?_
    · clear hw'
      go_simp
    try simp only [Act.put, List.setIfInBounds_toArray, List.set_cons_zero, List.set_cons_succ]
    refine wpU_takeF (i := 10) (v := .pointer (some ⟨sb, k, none⟩)) rfl rfl (by kernel_rfl) (by kernel_rfl) (by kernel_rfl) (fun _ _ _ h => h) (Or.inl ⟨by rfl, fun w' hw' => ?_⟩) (fun _ => (HCS.out _ (Below.refl _ _).drew)) ?_
    · clear hw'
      go_simp
    try simp only [Act.put, List.setIfInBounds_toArray, List.set_cons_zero, List.set_cons_succ]
    refine wpU_takeM (i := 11) (v := .slice a m cv) rfl rfl (by kernel_rfl) (by kernel_rfl) (by kernel_rfl) (by kernel_rfl) (by kernel_rfl) (fun _ _ _ h => h) (Or.inl ⟨by rfl, fun w' hw' => ?_⟩) (HCS.out _ (Below.refl _ _).drew) ?_
    · obtain ⟨h0, h1, h2, h3, h4⟩ := hw'
      go_simp
    try simp only [Act.put, List.setIfInBounds_toArray, List.set_cons_zero, List.set_cons_succ]
    refine wpU_takeM (i := 12) (v := .agg #[.int .i64 (xr : Int), .int .i64 (xd : Int), .int .i64 (xf : Int)]) rfl rfl (by kernel_rfl) (by kernel_rfl) (by kernel_rfl) (by kernel_rfl) (by kernel_rfl) (fun _ _ _ h => h) (Or.inl ⟨by rfl, fun w' hw' => ?_⟩) (HCS.out _ (Below.refl _ _).drew) ?_
    · obtain ⟨h0, h1, h2, h3, h4⟩ := hw'
      go_simp
    try simp only [Act.put, List.setIfInBounds_toArray, List.set_cons_zero, List.set_cons_succ]
    refine wpU_one (i := 13) (by kernel_rfl) rfl (fun K hK => ?_)
    go_simp
    rw [HW4.out, HQ4.out]
    refine hK.out _ _ (fun _ => HCS.out _ HB34.out) ?_
    clear hK K
    try simp only [Act.put, List.setIfInBounds_toArray, List.set_cons_zero, List.set_cons_succ]
    refine wpU_one (i := 14) (by kernel_rfl) rfl (fun K hK => ?_)
    refine step_appB elItem (by rfl) _ _ (by rfl) HRW4.out (by rfl) (by rfl) X4.out (by rfl) (by rfl) (by omega) (by unfold maxLen; omega) HBW4.out ?_
    intro g5 c5 w5 ho5 hg5 hat5 hlt5
    have happ := HAPP.out w4 w5 (.slice (some ⟨g5, 0, none⟩) (m + 1) c5) HF4.out HS4.out ho5 hg5 (at_lies hat5)
    have hii := (hg5.block W.heap.size (by have h1 := HS4.out.size; have h2 := bx_lt (bx_keep HI3.out HB34.out); omega) (fun e => by have h1 := HLT.out W.heap.size (HVA.out _ e.symm); omega)).trans (bx_keep HI3.out HB34.out)
    obtain ⟨a0, a1, a2, a3⟩ := happ
    have HA0 := Lib.hid a0
    have HA1 := Lib.hid a1
    have HA2 := Lib.hid a2
    have HA3 := Lib.hid a3
    have HII := Lib.hid hii
    clear a0 a1 a2 a3 ho5 hg5 hat5 hlt5 hii
    refine hK.out _ _ (fun _ => ⟨HA0.out, HA1.out, (bx_cells3 HII.out).1, (bx_cells3 HII.out).2.1, (bx_cells3 HII.out).2.2⟩) ?_
    clear hK K
    try simp only [Act.put, List.setIfInBounds_toArray, List.set_cons_zero, List.set_cons_succ]
    refine wpU_one (i := 15) (by kernel_rfl) rfl (fun K hK => ?_)
    go_simp
    refine hK.out _ _ (fun h => absurd (show true = false from h) (by decide)) ?_
    clear hK K
    try simp only [Act.put, List.setIfInBounds_toArray, List.set_cons_zero, List.set_cons_succ]
    have d1 := HA1.out
    have d2 := HA2.out
    have HE := Lib.hid (HYES.out HNX.out _ HA3.out)
    refine wpU_one (i := 16) (by kernel_rfl) rfl (fun K hK => ?_)
    go_simp
    refine hK.out _ _ (fun h => absurd (show true = false from h) (by decide)) ?_
    clear hK K
    try simp only [Act.put, List.setIfInBounds_toArray, List.set_cons_zero, List.set_cons_succ]
    refine wpU_done (by kernel_rfl) ?_ _
    go_wp2_with fail
    first | exact HE.out | exact bodyPost_end (results_none Try.results105 _ _ _) rfl HE.out
end Ea
end Go.Proofs.Ytjpmebppdcclbaa
namespace Go.Proofs.Ytjpmebppdcclbaa
open Go.RowKit
namespace Ea
open Rp Hl
open Ht hiding D
set_option maxHeartbeats 16000000 in
set_option maxRecDepth 100000 in
theorem predictE {B fb : Nat} {gt gn gs : Int} {ra : Option Addr} {rc : Nat} {K : List Rule} {O : Nat → Prop} {n : Nat} {L : Nat → List Itm} (W : World) (h : FC B fb gt gn gs ra rc K O n L W) (k : Nat) (hk : n = k + 1) (hn : n ≤ 100) (s : Sym) (hkl : K.length ≤ 100) (hc : (L k).length ≤ 800000) (hsm : ∀ y ∈ L k, smI y) :
    Calls Try.prog 102 #[.pointer (some ⟨fb, 0, none⟩), .agg #[.bool s.term, .int .i64 s.n]] W (AddPost B fb gt gn gs ra rc K O n (upL L k (prF K s k (L k))) W) := by
  obtain ⟨w0, HW⟩ := nameIt (W.alloc (.cells #[.bool s.term, .int .i64 s.n] 44))
  have hw0 : Below W.heap.size W w0 := by rw [← HW.out]; exact (Below.refl _ _).alloc (Nat.le_refl _) _
  have HI0 : Hid (w0.heap[W.heap.size]? = some (.cells #[.bool s.term, .int .i64 s.n] 44 (0, 0))) := by rw [← HW.out]; exact bx_new _ _ _ rfl
  have HNO : Hid (¬ O W.heap.size) := FC.new h (Nat.le_refl _)
  have HF0 := Lib.hid (h.keep hw0)
  have HS0 : Hid (Stp O O W w0) := Stp.below hw0
  have HKK := Lib.hid hk
  have HC := Lib.hid hc
  have HSM := Lib.hid hsm
  obtain ⟨PST, HP⟩ := nameIt (AddPost B fb gt gn gs ra rc K O n (upL L k (prF K s k (L k))) W)
  have HFIN : Hid (∀ O' w', FC B fb gt gn gs ra rc K O' n (upL L k (prF K s k (L k))) w' → Stp O O' W w' → PST (.returned (.tuple #[])) w') := by
    intro O' w' h1 h2
    rw [← HP.out]
    exact ⟨rfl, O', h1, h2⟩
  rw [HP.out]
  have HCB := Lib.hid h.rd.bounds.2
  have HSY : Hid (∀ i (r : Rule), K[i]? = some r → prP K s k i = if (!s.term && r.left == s.n) then some ⟨i, 0, k⟩ else none) := by
    intro i r hr
    unfold prP
    rw [hr]
    simp only [Option.any_some]
    have : decide (s = ⟨false, r.left⟩) = (!s.term && r.left == s.n) := by
      obtain ⟨a, b⟩ := s
      rw [Bool.eq_iff_iff, decide_eq_true_eq, Bool.and_eq_true, beq_iff_eq]
      constructor
      · intro h
        cases h
        exact ⟨rfl, rfl⟩
      · rintro ⟨h1, h2⟩
        cases a with
        | true => cases h1
        | false => show (⟨false, b⟩ : Sym) = ⟨false, r.left⟩; rw [h2]
    simp only [this]
  obtain ⟨kn, HKN⟩ := nameIt K.length
  have HPF : Hid (prF K s k (L k) = addF (prP K s k) (L k) ((List.range kn).take kn)) := by
    show _ = _
    unfold prF
    rw [HKN.out, List.take_of_length_le (by simp)]
  obtain ⟨st, HST⟩ := nameIt s.term
  obtain ⟨sn, HSN⟩ := nameIt s.n
  rw [HST.out, HSN.out] at HW HI0
  simp only [HST.out, HSN.out] at HSY
  rw [HST.out, HSN.out]
  rw [HKN.out] at hkl HCB
  have hcb := HCB.out
  unfold maxLen at hcb
  obtain ⟨hcb1, hcb2⟩ := hcb
  have x3 := HF0.out.rules
  rw [HKN.out] at x3
  clear h hw0 hk hc HP
  go_enter Try.func102, Try.ntmps102
  go_upto_region 1 with fail
  rw [HW.out]
  clear HW
  go_wp2_with fail
  go_loopg [4, 5, 12] kn (fun gg v4 v5 v12 wr => ∃ (i : Nat) (O' : Nat → Prop), i ≤ kn ∧ kn - i ≤ gg ∧ v12 = .int .i64 (i : Int) ∧ Hid (FC B fb gt gn gs ra rc K O' n (upL L k (addF (prP K s k) (L k) ((List.range kn).take i))) wr) ∧ Hid (Stp O O' W wr) ∧ Hid (wr.heap[W.heap.size]? = some (.cells #[.bool st, .int .i64 sn] 44 (0, 0)) ∧ ¬ O' W.heap.size))
  case atStart => exact ⟨0, O, by omega, by omega, rfl, by rw [List.take_zero, show addF (prP K s k) (L k) [] = L k from rfl, Ho.upL_self]; exact HF0, HS0, ⟨HI0.out, HNO.out⟩⟩
  case round =>
    clear x3
    obtain ⟨i, O', hi, hgg, rfl, HF, HSP, HBX⟩ := hrel
    obtain ⟨wi, rfl⟩ : ∃ ww : World, ww = wr := ⟨_, rfl⟩
    by_cases hik : i < kn
    · have hik' : (i : Int) < (kn : Int) := by omega
      have hiK : i < K.length := by rw [HKN.out]; exact hik
      obtain ⟨bk, ro, v, hae, -, hbk, s0, s1, hrr⟩ := HF.out.rd.rule_at hiK
      have hsy := HSY.out i K[i] (List.getElem?_eq_getElem hiK)
      obtain ⟨av, cv, rfl, -, -⟩ := hrr.form
      obtain ⟨r, HRN⟩ := nameIt (K[i]'hiK)
      rw [HRN.out] at s0 s1 hsy
      obtain ⟨lf, RL⟩ := r
      dsimp only at s0 s1 hsy
      obtain ⟨rl, HRL⟩ := nameIt (RL.map Sym.d).length
      rw [HRL.out] at s1
      have hsucc := addF_succ (P := prP K s k) (c := L k) (ys := List.range kn) (j := i) (by simpa using hik)
      rw [List.getElem_range, hsy] at hsucc
      have hlen : (addF (prP K s k) (L k) ((List.range kn).take i)).length ≤ 800000 + 100 := by
        refine Nat.le_trans Ho.addF_len ?_
        have := HC.out
        rw [List.length_take, List.length_range]; omega
      have hsmC : ∀ y ∈ addF (prP K s k) (L k) ((List.range kn).take i), smI y := by
        intro y hy
        rcases mem_addF.1 hy with hy | ⟨z, hz, e⟩
        · exact HSM.out y hy
        · obtain ⟨r', q1, _, rfl⟩ := prP_some.1 e
          have hz' : z < K.length := by
            rcases Nat.lt_or_ge z K.length with h | h
            · exact h
            · rw [List.getElem?_eq_none h] at q1; cases q1
          have hk' := HKK.out
          exact ⟨by show z ≤ 1000; rw [HKN.out] at hz'; omega, Nat.zero_le _, by show k ≤ 1000; omega⟩
      obtain ⟨bq, HBQ⟩ := nameIt (!st && lf == sn)
      rw [HBQ.out] at hsucc
      obtain ⟨C, HCN⟩ := nameIt (addF (prP K s k) (L k) ((List.range kn).take i))
      rw [HCN.out] at hsucc hlen HF hsmC
      have HSC := Lib.hid hsmC
      obtain ⟨w1, HW1⟩ := nameIt (wi.alloc (.cells #[.int .i64 lf, .slice av rl cv] 69))
      have hb1 : Below wi.heap.size wi w1 := by rw [← HW1.out]; exact (Below.refl _ _).alloc (Nat.le_refl _) _
      have X1 : Hid (w1.heap[wi.heap.size]? = some (.cells #[.int .i64 lf, .slice av rl cv] 69 (0, 0))) := by rw [← HW1.out]; exact bx_new _ _ _ rfl
      have HI1 := Lib.hid (bx_keep HBX.out.1 hb1)
      have HB1 := Lib.hid hb1
      have HSU := Lib.hid hsucc
      have HLE := Lib.hid hlen
      obtain ⟨q1, HQ1⟩ := nameIt wi.heap.size
      rw [HQ1.out] at X1
      subst hae
      clear hb1 hrr hsy hsucc hlen HRN hsmC
      go_upto_region 4 with fail
      rw [HW1.out, HQ1.out]
      clear HW1 s0 s1
      obtain ⟨y0, y1⟩ := bx_cells2 HI1.out
      obtain ⟨r0, -⟩ := bx_cells2 X1.out
      have HF2 := Lib.hid (HF.out.keep HB1.out)
      have HSP2 : Hid (Stp O O' W w1) := HSP.out.trans (Stp.below HB1.out)
      have HBX2 : Hid (w1.heap[W.heap.size]? = some (.cells #[.bool st, .int .i64 sn] 44 (0, 0)) ∧ ¬ O' W.heap.size) := ⟨bx_keep HBX.out.1 HB1.out, HBX.out.2⟩
      obtain ⟨mv, mcap, c4⟩ := HF2.out.maps
      have hw1 : IntKind.i64.wrap ((n : Int) - 1) = (k : Int) := by have := HKK.out; rw [IntWalk.i64_in _ (by omega)]; omega
      have hadd := addE w1 HF2.out k HKK.out hn ⟨i, 0, k⟩ (by rw [Ho.upL_at]; have := HLE.out; omega) (by rw [Ho.upL_at]; exact HSC.out) ⟨by show i ≤ 1000; omega, Nat.zero_le _, by show k ≤ 1000; have := HKK.out; omega⟩
      rw [Ho.upL_at, Ho.upL_up] at hadd
      have HAD := Lib.hid hadd
      clear hadd
      cases hst : st with
      | true =>
        have hb : bq = false := by rw [← HBQ.out, hst]; rfl
        subst hst
        rw [hb] at HSU
        have hC : addF (prP K s k) (L k) ((List.range kn).take (i + 1)) = C := by rw [HSU.out]; rfl
        have HF3 : Hid (FC B fb gt gn gs (some ⟨bk, ro, none⟩) rc K O' n (upL L k (addF (prP K s k) (L k) ((List.range kn).take (i + 1)))) w1) := by rw [hC]; exact HF2.out
        clear hC hb HAD c4
        go_wp2_with fail
        go_roundg (kn - (i + 1))
        case measure => omega
        case rel => exact ⟨i + 1, O', by omega, by omega, by go_num, HF3, HSP2, HBX2⟩
      | false =>
        subst hst
        by_cases hlf : lf = sn
        · subst hlf
          have hb : bq = true := by rw [← HBQ.out]; simp
          rw [hb] at HSU
          have hC : addI C ⟨i, 0, k⟩ = addF (prP K s k) (L k) ((List.range kn).take (i + 1)) := by rw [HSU.out]; rfl
          have HAD2 := Lib.hid HAD.out
          rw [hC] at HAD2
          clear hC hb HAD
          go_wp2_with fail
          refine HAD2.out.mono ?_
          rintro e w3 ⟨rfl, O3, hf3, hs3⟩
          have HF3 := Lib.hid hf3
          have HSP3 : Hid (Stp O O3 W w3) := HSP2.out.trans hs3
          have HBX3 := Lib.hid (hs3.box HBX2.out.1 HBX2.out.2)
          clear hf3 hs3 c4
          go_wp2_with fail
          go_roundg (kn - (i + 1))
          case measure => omega
          case rel => exact ⟨i + 1, O3, by omega, by omega, by go_num, HF3, HSP3, HBX3⟩
        · have hb : bq = false := by rw [← HBQ.out]; simpa using hlf
          have hlf' : (lf == sn) = false := by simpa using hlf
          rw [hb] at HSU
          have hC : addF (prP K s k) (L k) ((List.range kn).take (i + 1)) = C := by rw [HSU.out]; rfl
          have HF3 : Hid (FC B fb gt gn gs (some ⟨bk, ro, none⟩) rc K O' n (upL L k (addF (prP K s k) (L k) ((List.range kn).take (i + 1)))) w1) := by rw [hC]; exact HF2.out
          clear hC hb HAD c4 hlf
          go_wp2_with fail
          go_roundg (kn - (i + 1))
          case measure => omega
          case rel => exact ⟨i + 1, O', by omega, by omega, by go_num, HF3, HSP2, HBX2⟩
    · have hik' : ¬ (i : Int) < (kn : Int) := by omega
      obtain rfl : i = kn := by omega
      rw [← HPF.out] at HF
      have HE := Lib.hid (HFIN.out O' wi HF.out HSP.out)
      go_wp2_with fail
      first | exact HE.out | exact bodyPost_end (results_none Try.results102 _ _ _) rfl HE.out
end Ea
end Go.Proofs.Ytjpmebppdcclbaa
