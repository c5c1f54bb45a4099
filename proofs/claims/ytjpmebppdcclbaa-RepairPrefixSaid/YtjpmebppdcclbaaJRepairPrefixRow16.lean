/- For every input the law RepairPrefix returns true, and its arguments read afterwards as before. No condition. -/
import Derived.Test.YtjpmebppdcclbaaJRepairPrefixRow14
import Derived.Test.YtjpmebppdcclbaaJRepairPrefixRow15
import Derived.Test.YtjpmebppdcclbaaJRepairPrefixRow7
import Derived.Deep.DeepCutAuto
import Derived.Deep.CutBlock
import Derived.Test.YtjpmebppdcclbaaJRepairPrefixRow1
import Derived.Test.YtjpmebppdcclbaaJRepairPrefixRow10
import Derived.Test.YtjpmebppdcclbaaJRepairPrefixRow8
import Derived.Test.YtjpmebppdcclbaaJRepairPrefixRow2
import Derived.Lib.SmallJoins
import Derived.Test.YtjpmebppdcclbaaJRepairPrefixRow3
import Derived.SizedLaws
import Derived.OpenShut
import Derived.ChangeOld
import Derived.Carry
import Derived.JoinedCond
namespace Go.Proofs.Ytjpmebppdcclbaa
open Go.RowKit
namespace Ho
open Rp Hl Al
open Ht hiding D
open Classical in
noncomputable def nxB (K : List Rule) (N tm : Nat) (hw : Sym → Bool) (l : List Sym) (S : Int) (okb : Bool) : List Bool := ((List.range tm).map fun t : Nat => decide (It (KW K hw) (lfB hw N l) S l.length (t : Int))) ++ [okb]
def NextM (bs : List Bool) (v : Value) (z : Int) (w' : World) : Prop := if (bs.any fun x => x) = true then Sl w' v (bls bs) ∧ z = 0 else v = .slice none 0 0 ∧ z = 10
theorem del_kw (K : List Rule) (hw : Sym → Bool) : (K.filter fun r => !(!(r.right.all (hwS hw)))) = KW K hw := by
  unfold KW
  congr 1
  funext r
  simp
theorem kw_sub {K : List Rule} {hw : Sym → Bool} : ∀ r ∈ KW K hw, r ∈ K := fun r hr => (mem_KW.1 hr).1
def bT (K : List Rule) (c : List Itm) (i t : Nat) : Bool := (c.take i).any fun x => decide (nxt K x = some ⟨true, (t : Int)⟩)
theorem bT_succ {K : List Rule} {c : List Itm} {i t : Nat} (hi : i < c.length) : bT K c (i + 1) t = (bT K c i t || decide (nxt K c[i] = some ⟨true, (t : Int)⟩)) := by
  unfold bT
  rw [List.take_succ_eq_append_getElem hi, List.any_append]
  simp
theorem bT_all {K : List Rule} {c : List Itm} {i t : Nat} (hi : c.length ≤ i) : bT K c i t = true ↔ ∃ x ∈ c, nxt K x = some ⟨true, (t : Int)⟩ := by
  unfold bT
  rw [List.take_of_length_le hi, List.any_eq_true]
  simp
section
variable (g : Gram) (l : List Sym) (ga : Option Addr) (gc : Nat) (la : Option Addr) (lk : Nat) (W : World) (hgr : Rd AnyB W (.sl (g.rules.map Rule.d)) [.slice ga g.rules.length gc]) (hrl : Rd AnyB W (.sl (l.map Sym.d)) [.slice la l.length lk])
include hgr hrl
end
end Ho
end Go.Proofs.Ytjpmebppdcclbaa
namespace Go.Proofs.Ytjpmebppdcclbaa
open Go.RowKit
namespace Ho
open Rp Hl Al
open Ht hiding D
def symC : List Sym → List Value
  | [] => []
  | s :: l => .bool s.term :: .int .i64 s.n :: symC l
theorem symC_rd {S : Nat → Prop} {w : World} : ∀ {l : List Sym} {xs : List Value}, RdAll S w (l.map Sym.d) xs → xs = symC l
  | [], xs, h => by simpa [RdAll, symC] using h
  | s :: l, xs, h => by
    obtain ⟨c1, c2, rfl, h1, h2⟩ := h
    obtain rfl := h1.sym
    rw [symC_rd h2]; rfl
theorem rd_symC (S : Nat → Prop) (w : World) : ∀ l : List Sym, RdAll S w (l.map Sym.d) (symC l)
  | [] => by simp [RdAll, symC]
  | s :: l => ⟨[.bool s.term, .int .i64 s.n], symC l, rfl, rd_sym s, rd_symC S w l⟩
theorem symC_len : ∀ l : List Sym, (symC l).length = l.length * 2
  | [] => rfl
  | s :: l => by simp [symC, symC_len l]; omega
theorem symC_set : ∀ (l : List Sym) (i : Nat) (s : Sym), ((symC l).set (i * 2) (.bool s.term)).set (i * 2 + 1) (.int .i64 s.n) = symC (l.set i s)
  | [], i, s => by simp [symC]
  | x :: l, 0, s => by simp [symC]
  | x :: l, i + 1, s => by
    have := symC_set l i s
    have e : (i + 1) * 2 = i * 2 + 1 + 1 := by omega
    rw [e]
    simp only [symC, List.set_cons_succ]
    rw [this]
def SR (B g c : Nat) (l : List Sym) (w : World) : Prop := w.ownsRow B 44 2 (.slice (some ⟨g, 0, none⟩) l.length c) l.length (symC l)
section
variable {B g c : Nat} {l : List Sym} {w w' : World}
theorem SR.keep (h : SR B g c l w) (hb : Below w.heap.size w w') : SR B g c l w' := own_keep h hb
theorem SR.lt (h : SR B g c l w) : B ≤ g ∧ g < w.heap.size := World.ownsRow.lt h g rfl
theorem SR.rd (h : SR B g c l w) : Rd AnyB w (.sl (l.map Sym.d)) [.slice (some ⟨g, 0, none⟩) l.length c] := by
  have := rd_of_own (S := AnyB) h (rd_symC _ _ l) (by simp) (fun _ _ => trivial)
  exact this
theorem SR.old (h : SR B g c l w) {i : Nat} (hi : i < l.length) : (∃ u, w.cell? ⟨g, i * 2, none⟩ = some u) ∧ (∃ u, w.cell? ⟨g, i * 2 + 1, none⟩ = some u) ∧ w.frozen? ⟨g, i * 2, none⟩ = false ∧ w.frozen? ⟨g, i * 2 + 1, none⟩ = false := by
  have hl := symC_len l
  have e0 := World.ownsRow.cellAt h (i * 2) (by omega)
  have e1 := World.ownsRow.cellAt h (i * 2 + 1) (by omega)
  rw [List.getElem?_eq_getElem (by omega)] at e0
  rw [List.getElem?_eq_getElem (by omega)] at e1
  exact ⟨⟨_, e0⟩, ⟨_, e1⟩, World.ownsRow.frozenAt h _, World.ownsRow.frozenAt h _⟩
theorem SR.set (h : SR B g c l w) (i : Nat) (s : Sym) : SR B g c (l.set i s) ((w.setCell ⟨g, i * 2, none⟩ (.bool s.term)).setCell ⟨g, i * 2 + 1, none⟩ (.int .i64 s.n)) := by
  have h1 := (World.ownsRow.stored h (i * 2) (.bool s.term)).1
  have h2 := (World.ownsRow.stored h1 (i * 2 + 1) (.int .i64 s.n)).1
  rw [symC_set] at h2
  unfold SR
  rw [List.length_set]
  exact h2
end
section
variable (g : Gram) (l : List Sym) (ga : Option Addr) (gc : Nat) (la : Option Addr) (lk : Nat) (W : World) (hgr : Rd AnyB W (.sl (g.rules.map Rule.d)) [.slice ga g.rules.length gc]) (hrl : Rd AnyB W (.sl (l.map Sym.d)) [.slice la l.length lk])
include hgr hrl
end
end Ho
end Go.Proofs.Ytjpmebppdcclbaa
namespace Go.Proofs.Ytjpmebppdcclbaa
open Go.RowKit
namespace Ho
open Rp Hl Al
open Ht hiding D
theorem symC_app : ∀ (l : List Sym) (s : Sym), symC (l ++ [s]) = symC l ++ [.bool s.term, .int .i64 s.n]
  | [], s => rfl
  | x :: l, s => by simp [symC, symC_app l s]
def SO (B : Nat) (v : Value) (l : List Sym) (w : World) : Prop := w.ownsRow B 44 2 v l.length (symC l)
theorem SO.rd {B : Nat} {v : Value} {l : List Sym} {w : World} (h : SO B v l w) : Rd AnyB w (.sl (l.map Sym.d)) [v] :=
  rd_of_own (S := AnyB) h (rd_symC _ _ l) (by simp) (fun _ _ => trivial)
theorem cloneSO (l : List Sym) (a : Option Addr) (c : Nat) (w : World) (h : Rd AnyB w (.sl (l.map Sym.d)) [.slice a l.length c]) (hb : l.length ≤ 1000) :
    Calls Try.prog 65 #[.slice a l.length c] w fun e w' => ∃ a c, e = .returned (.slice a l.length c) ∧ SO w.heap.size (.slice a l.length c) l w' ∧ Below w.heap.size w w' := by
  refine (cloneRow l a c w h hb).mono ?_
  rintro e w' ⟨a', c', rfl, ⟨⟨xs, h1, h2⟩, h3⟩, h4⟩
  rw [List.length_map] at h1
  obtain rfl := symC_rd h2
  exact ⟨a', c', rfl, h1, h4⟩
def btL (bt : Nat → Bool) (t : Nat) : List Bool := (List.range t).map bt
theorem btL_succ (bt : Nat → Bool) (t : Nat) : btL bt (t + 1) = btL bt t ++ [bt t] := by
  unfold btL
  rw [List.range_succ, List.map_append]; rfl
def NextsM (bs : List Bool) (full : Prop) (v : Value) (z : Int) (w' : World) : Prop := (full → v = .slice none 0 0 ∧ z = 2) ∧ (¬ full → NextM bs v z w')
def NextsPost (bs : List Bool) (full : Prop) (W : World) (e : Ending) (w' : World) : Prop :=
  ∃ (v : Value) (z : Int), e = .returned (.tuple #[v, .int .i64 z]) ∧ Below W.heap.size W w' ∧ NextsM bs full v z w'
section
variable (g : Gram) (l : List Sym) (ga : Option Addr) (gc : Nat) (la : Option Addr) (lk : Nat) (W : World) (hrl : Rd AnyB W (.sl (l.map Sym.d)) [.slice la l.length lk])
include hrl
set_option maxHeartbeats 16000000 in
set_option maxRecDepth 100000 in
theorem nextsE {tm : Nat} (hl12 : l.length ≤ 12) (htm : g.terms = (tm : Int)) (htm8 : tm ≤ 8) (bt : Nat → Bool) (o : Option Val)
    (hbe : ∀ (W' : World) (t : Nat) a c, t < tm → Below W.heap.size W W' → Rd AnyB W' (.sl ((l ++ [(⟨true, (t : Int)⟩ : Sym)]).map Sym.d)) [.slice a (l.length + 1) c] → Calls Try.prog 49 #[.agg #[.int .i64 g.terms, .int .i64 g.nons, .int .i64 g.start, .slice ga g.rules.length gc], .slice a (l.length + 1) c] W' fun e w' => e = .returned (.bool (bt t)) ∧ Below W'.heap.size W' w')
    (hco : ∀ (W' : World), Below W.heap.size W W' → Calls Try.prog 21 #[.agg #[.int .i64 g.terms, .int .i64 g.nons, .int .i64 g.start, .slice ga g.rules.length gc], .slice la l.length lk] W' fun e w' => ∃ x, e = .returned x ∧ VR (fun k => W'.heap.size ≤ k) w' x o ∧ Below W'.heap.size W' w') :
    Calls Try.prog 26 #[.agg #[.int .i64 g.terms, .int .i64 g.nons, .int .i64 g.start, .slice ga g.rules.length gc], .slice la l.length lk] W (NextsPost (btL bt tm ++ [o.isSome]) (l.length = 12) W) := by
  obtain ⟨w0, HW0⟩ := nameIt (W.alloc (.cells #[.int .i64 g.terms, .int .i64 g.nons, .int .i64 g.start, .slice ga g.rules.length gc] 24))
  have hb0 : Below W.heap.size W w0 := by rw [← HW0.out]; exact (Below.refl _ _).alloc (Nat.le_refl _) _
  have X0 : Hid (w0.heap[W.heap.size]? = some (.cells #[.int .i64 g.terms, .int .i64 g.nons, .int .i64 g.start, .slice ga g.rules.length gc] 24 (0, 0))) := by rw [← HW0.out]; exact bx_new _ _ _ rfl
  have HB0 := Lib.hid hb0
  have HRL := Lib.hid (hrl.below hb0)
  obtain ⟨PST, HP⟩ := nameIt (NextsPost (btL bt tm ++ [o.isSome]) (l.length = 12) W)
  have HFF : Hid (∀ w', l.length = 12 → Below w0.heap.size w0 w' → PST (.returned (.tuple #[.slice none 0 0, .int .i64 2])) w') := by
    intro w' h1 h2
    rw [← HP.out]
    refine ⟨.slice none 0 0, 2, rfl, hb0.trans (h2.mono hb0.size), ?_⟩
    unfold NextsM
    exact ⟨fun _ => ⟨rfl, rfl⟩, fun h => absurd h1 h⟩
  obtain ⟨BS, HBS⟩ := nameIt (btL bt tm ++ [o.isSome])
  rw [HBS.out] at HP
  have HFG : Hid (∀ v z w', ¬ l.length = 12 → NextM BS v z w' → Below w0.heap.size w0 w' → PST (.returned (.tuple #[v, .int .i64 z])) w') := by
    intro v z w' h1 h2 h3
    rw [← HP.out]
    refine ⟨v, z, rfl, hb0.trans (h3.mono hb0.size), ?_⟩
    unfold NextsM
    exact ⟨fun h => absurd h h1, fun _ => h2⟩
  rw [HBS.out, HP.out]
  have HBE := Lib.hid hbe
  have HCO := Lib.hid hco
  obtain ⟨gt, HGT⟩ := nameIt g.terms
  have hgt : gt = (tm : Int) := by rw [← HGT.out]; exact htm
  obtain ⟨gn, HGN⟩ := nameIt g.nons
  obtain ⟨gs, HGS⟩ := nameIt g.start
  obtain ⟨kn, HKN⟩ := nameIt g.rules.length
  have hcl := fun W' (hb : Below w0.heap.size w0 W') => cloneSO l la lk W' ((hrl.below hb0).below hb) (by omega)
  obtain ⟨n, HN⟩ := nameIt l.length
  rw [HGT.out, hgt, HGN.out, HGS.out, HKN.out] at HW0 X0 HBE HCO
  rw [HGT.out, hgt, HGN.out, HGS.out, HKN.out, HN.out]
  rw [HN.out] at HBE HCO hl12 hcl HFF HFG
  have HCL := Lib.hid hcl
  clear hgt
  have HG0 : Hid (∀ w', Below w0.heap.size w0 w' → w'.cell? ⟨W.heap.size, 0, none⟩ = some (.int .i64 (tm : Int)) ∧ w'.cell? ⟨W.heap.size, 0 + 1, none⟩ = some (.int .i64 gn) ∧ w'.cell? ⟨W.heap.size, 0 + 2, none⟩ = some (.int .i64 gs) ∧ w'.cell? ⟨W.heap.size, 0 + 3, none⟩ = some (.slice ga kn gc)) := by
    intro w' hb'
    exact bx_cells4 (bx_keep X0.out hb')
  obtain ⟨x0, x1, x2, x3⟩ := HG0.out w0 (Below.refl _ _)
  clear hb0 hrl htm HP hbe hco hcl
  go_enter Try.func26, Try.ntmps26
  go_upto_region 1 with fail
  rw [HW0.out]
  clear HW0
  by_cases h12 : n = 12
  · have e12 : ((n : Int) == 12) = true := by rw [h12]; rfl
    have HE := Lib.hid (HFF.out w0 h12 (Below.refl _ _))
    clear h12 x0 x1 x2 x3
    go_wp2_with fail
    first | exact HE.out | exact bodyPost_ret (results_tmp2 Try.results26 _ _ _) rfl HE.out
  · have e12 : ((n : Int) == 12) = false := by rw [beq_eq_false_iff_ne]; omega
    have HN12 := Lib.hid h12
    have HO0 : Hid (w0.ownsRow w0.heap.size 4 1 (.slice none 0 0) 0 (bls (btL bt 0))) := World.ownsRow_nil _ _ _ _
    clear h12
    go_wp2_with fail
    go_loopg [6, 7, 13] tm (fun gg v6 v7 v13 wr => ∃ t : Nat, t ≤ tm ∧ tm - t ≤ gg ∧ v13 = .int .i64 (t : Int) ∧ Hid (Below w0.heap.size w0 wr) ∧ Hid (wr.ownsRow w0.heap.size 4 1 v6 t (bls (btL bt t))))
    case atStart => exact ⟨0, by omega, by omega, rfl, Below.refl _ _, HO0⟩
    case round =>
      clear HO0 x0 x1 x2 x3
      obtain ⟨t, ht, hgg, rfl, HBW, HO⟩ := hrel
      obtain ⟨wi, rfl⟩ : ∃ ww : World, ww = wr := ⟨_, rfl⟩
      obtain ⟨a6, c6, rfl, -, -⟩ := own_len HO.out
      by_cases htm : t < tm
      · have htm' : (t : Int) < (tm : Int) := by omega
        have HSX : Hid (∀ w', Below wi.heap.size wi w' → (fun w' : World => w'.cell? ⟨W.heap.size, 0, none⟩ = some (.int .i64 (tm : Int)) ∧ w'.cell? ⟨W.heap.size, 0 + 1, none⟩ = some (.int .i64 gn) ∧ w'.cell? ⟨W.heap.size, 0 + 2, none⟩ = some (.int .i64 gs) ∧ w'.cell? ⟨W.heap.size, 0 + 3, none⟩ = some (.slice ga kn gc)) w') := fun w' hb => HG0.out w' (HBW.out.trans (hb.mono HBW.out.size))
        have HSG : Hid (∀ w' (row : Option Nat) w2, Below wi.heap.size wi w' → w'.grownBy w2 row → (∀ q, row = some q → w0.heap.size ≤ q) → (fun w' : World => w'.cell? ⟨W.heap.size, 0, none⟩ = some (.int .i64 (tm : Int)) ∧ w'.cell? ⟨W.heap.size, 0 + 1, none⟩ = some (.int .i64 gn) ∧ w'.cell? ⟨W.heap.size, 0 + 2, none⟩ = some (.int .i64 gs) ∧ w'.cell? ⟨W.heap.size, 0 + 3, none⟩ = some (.slice ga kn gc)) w2) := fun w' row w2 hb hg hq => HG0.out w2 ((HBW.out.trans (hb.mono HBW.out.size)).grown hg (by have := HBW.out.size; have := hb.size; omega) hq)
        have hsucc := btL_succ bt t
        have hbe := fun (W' : World) a c hb hr => HBE.out W' t a c htm hb hr
        obtain ⟨b, HBN⟩ := nameIt (bt t)
        rw [HBN.out] at hsucc
        simp only [HBN.out] at hbe
        have HSU := Lib.hid hsucc
        have HBF := Lib.hid hbe
        have HTT : Hid (t < tm) := htm
        clear hsucc hbe
        go_upto_region 7 with fail
        refine wp_region_U (S := (fun w' : World => w'.cell? ⟨W.heap.size, 0, none⟩ = some (.int .i64 (tm : Int)) ∧ w'.cell? ⟨W.heap.size, 0 + 1, none⟩ = some (.int .i64 gn) ∧ w'.cell? ⟨W.heap.size, 0 + 2, none⟩ = some (.int .i64 gs) ∧ w'.cell? ⟨W.heap.size, 0 + 3, none⟩ = some (.slice ga kn gc))) 10 (by kernel_rfl) (fun inv => ?_)
        refine wpU_take (i := 0) (v := .slice a6 t c6) rfl inv (by kernel_rfl) (by kernel_rfl) (by decide) (by decide) (by kernel_rfl) (by kernel_rfl) (by kernel_rfl) (fun _ _ _ h => h) (Or.inl ⟨by rfl, fun w' hw' => ?_⟩) (HSX.out _ (Below.refl _ _).drew) (fun inv => ?_)
        · obtain ⟨h0, h1, h2, h3⟩ := hw'
          go_simp
        try simp only [Act.put, List.setIfInBounds_toArray, List.set_cons_zero, List.set_cons_succ]
        refine wpU_take (i := 1) (v := .agg #[.int .i64 (tm : Int), .int .i64 gn, .int .i64 gs, .slice ga kn gc]) rfl inv (by kernel_rfl) (by kernel_rfl) (by decide) (by decide) (by kernel_rfl) (by kernel_rfl) (by kernel_rfl) (fun _ _ _ h => h) (Or.inl ⟨by rfl, fun w' hw' => ?_⟩) (HSX.out _ (Below.refl _ _).drew) (fun inv => ?_)
        · obtain ⟨h0, h1, h2, h3⟩ := hw'
          go_simp
        try simp only [Act.put, List.setIfInBounds_toArray, List.set_cons_zero, List.set_cons_succ]
        refine wpU_take (i := 2) (v := .slice la n lk) rfl inv (by kernel_rfl) (by kernel_rfl) (by decide) (by decide) (by kernel_rfl) (by kernel_rfl) (by kernel_rfl) (fun _ _ _ h => h) (Or.inl ⟨by rfl, fun w' hw' => ?_⟩) (HSX.out _ (Below.refl _ _).drew) (fun inv => ?_)
        · obtain ⟨h0, h1, h2, h3⟩ := hw'
          go_simp
        try simp only [Act.put, List.setIfInBounds_toArray, List.set_cons_zero, List.set_cons_succ]
        refine wpU_take (i := 4) (v := .int .i64 (t : Int)) rfl inv (by kernel_rfl) (by kernel_rfl) (by decide) (by decide) (by kernel_rfl) (by kernel_rfl) (by kernel_rfl) (fun _ _ _ h => h) (Or.inl ⟨by rfl, fun w' hw' => ?_⟩) (HSX.out _ (Below.refl _ _).drew) (fun inv => ?_)
        · obtain ⟨h0, h1, h2, h3⟩ := hw'
          go_simp
        try simp only [Act.put, List.setIfInBounds_toArray, List.set_cons_zero, List.set_cons_succ]
        refine wpU_take (i := 5) (v := .agg #[.bool true, .int .i64 (t : Int)]) rfl inv (by kernel_rfl) (by kernel_rfl) (by decide) (by decide) (by kernel_rfl) (by kernel_rfl) (by kernel_rfl) (fun _ _ _ h => h) (Or.inl ⟨by rfl, fun w' hw' => ?_⟩) (HSX.out _ (Below.refl _ _).drew) (fun inv => ?_)
        · obtain ⟨h0, h1, h2, h3⟩ := hw'
          go_simp
        try simp only [Act.put, List.setIfInBounds_toArray, List.set_cons_zero, List.set_cons_succ]
        refine wpU_two (i := 3) (j := 6) (by kernel_rfl) rfl rfl (fun K hK => ?_) (fun K hK => ?_)
        · replace inv := inv_setc (i := 3) inv (by kernel_rfl) (by decide)
          go_simp
          refine (HCL.out _ (HBW.out.trans ((Below.refl _ _).drew.mono HBW.out.size))).mono ?_
          rintro e w4 ⟨ac, cc, rfl, hso, hb4⟩
          have HB4 : Hid (Below wi.heap.size wi w4) := (Below.refl _ _).drew.trans hb4
          have HSO4 : Hid (SO wi.heap.size (.slice ac n cc) l w4) := hso
          obtain ⟨w5, HW5⟩ := nameIt (w4.alloc (.cells #[.bool true, .int .i64 (t : Int)] 44))
          have hb5 : Below w4.heap.size w4 w5 := by rw [← HW5.out]; exact (Below.refl _ _).alloc (Nat.le_refl _) _
          have HQ5 : Hid (w5.heap[w4.heap.size]? = some (.cells #[.bool true, .int .i64 (t : Int)] 44 (0, 0))) := by rw [← HW5.out]; exact bx_new _ _ _ rfl
          have HB5 : Hid (Below wi.heap.size wi w5) := HB4.out.trans (hb5.mono HB4.out.size)
          have HSO5 : Hid (SO wi.heap.size (.slice ac n cc) l w5) := own_keep HSO4.out hb5
          have HQL : Hid (wi.heap.size ≤ w5.heap.size) := HB5.out.size
          obtain ⟨bq, HBQ⟩ := nameIt w4.heap.size
          rw [HBQ.out] at HQ5
          clear hso hb4 hb5
          refine hK.out _ _ (fun _ => HSX.out _ HB4.out) ?_
          clear hK K
          try simp only [Act.put, List.setIfInBounds_toArray, List.set_cons_zero, List.set_cons_succ]
          refine wpU_one (i := 6) (by kernel_rfl) rfl (fun K hK => ?_)
          replace inv := inv_setc (i := 6) inv (by kernel_rfl) (by decide)
          go_simp
          rw [HW5.out, HBQ.out]
          refine hK.out _ _ (fun _ => HSX.out _ HB5.out) ?_
          clear hK K
          try simp only [Act.put, List.setIfInBounds_toArray, List.set_cons_zero, List.set_cons_succ]
          refine wpU_one (i := 7) (by kernel_rfl) rfl (fun K hK => ?_)
          replace inv := inv_setc (i := 7) inv (by kernel_rfl) (by decide)
          refine step_appB elSym rfl _ _ rfl (by have h := HSO5.out; unfold SO at h; rw [HN.out] at h; exact h) rfl rfl HQ5.out rfl rfl (by omega) (by unfold maxLen; omega) HQL.out ?_
          intro g6 cap6 w6 ho6 hg6 hat6 hlt6
          have HSO6 : Hid (SO wi.heap.size (.slice (some ⟨g6, 0, none⟩) (n + 1) cap6) (l ++ [⟨true, (t : Int)⟩]) w6) := by
            show w6.ownsRow _ _ _ _ _ _
            rw [symC_app, List.length_append, HN.out]
            exact ho6
          have HB6 : Hid (Below wi.heap.size wi w6) := HB5.out.grown hg6 HB5.out.size (fun q e => (World.ownsRow.lt HSO5.out q e).1)
          clear ho6 hg6 hat6 hlt6
          refine hK.out _ _ (fun _ => HSX.out _ HB6.out) ?_
          clear hK K
          try simp only [Act.put, List.setIfInBounds_toArray, List.set_cons_zero, List.set_cons_succ]
          refine wpU_one (i := 8) (by kernel_rfl) rfl (fun K hK => ?_)
          replace inv := inv_setc (i := 8) inv (by kernel_rfl) (by decide)
          go_simp
          refine (HBF.out w6 (some ⟨g6, 0, none⟩) cap6 ((HB0.out.trans (HBW.out.mono HB0.out.size)).trans (HB6.out.mono (by have := HBW.out.size; have := HB0.out.size; omega))) HSO6.out.rd).mono ?_
          rintro e w7 ⟨rfl, hb7⟩
          have HB7 : Hid (Below wi.heap.size wi w7) := HB6.out.trans (hb7.mono HB6.out.size)
          have HO7 : Hid (w7.ownsRow w0.heap.size 4 1 (.slice a6 t c6) t (bls (btL bt t))) := own_keep HO.out HB7.out
          clear hb7
          refine hK.out _ _ (fun _ => HSX.out _ HB7.out) ?_
          clear hK K
          try simp only [Act.put, List.setIfInBounds_toArray, List.set_cons_zero, List.set_cons_succ]
          refine wpU_one (i := 9) (by kernel_rfl) rfl (fun K hK => ?_)
          replace inv := inv_setc (i := 9) inv (by kernel_rfl) (by decide)
          go_simp
          have HX8 : Hid ((w7.alloc (.cells #[.bool b] 4)).heap[w7.heap.size]? = some (.cells #[.bool b] 4 (0, 0))) := bx_new _ _ _ rfl
          have HB8 : Hid (Below wi.heap.size wi (w7.alloc (.cells #[.bool b] 4))) := HB7.out.alloc HB7.out.size _
          have HO8 : Hid ((w7.alloc (.cells #[.bool b] 4)).ownsRow w0.heap.size 4 1 (.slice a6 t c6) t (bls (btL bt t))) := own_keep HO.out HB8.out
          obtain ⟨w8, HW8⟩ := nameIt (w7.alloc (.cells #[.bool b] 4))
          rw [HW8.out] at HX8 HB8 HO8
          rw [HW8.out]
          obtain ⟨q8, HQ8⟩ := nameIt w7.heap.size
          rw [HQ8.out] at HX8
          rw [HQ8.out]
          clear HW8
          refine hK.out _ _ (fun _ => HSX.out _ HB8.out) ?_
          clear hK K
          try simp only [Act.put, List.setIfInBounds_toArray, List.set_cons_zero, List.set_cons_succ]
          refine wpU_one (i := 10) (by kernel_rfl) rfl (fun K hK => ?_)
          refine step_appB elBl rfl _ _ rfl HO8.out rfl rfl HX8.out rfl rfl (by omega) (by unfold maxLen; omega) (by have := HBW.out.size; have := HB8.out.size; omega) ?_
          intro g9 cap9 w9 ho9 hg9 hat9 hlt9
          have HB9 : Hid (Below w0.heap.size w0 w9) := (HBW.out.trans (HB8.out.mono HBW.out.size)).grown hg9 (by have := HBW.out.size; have := HB8.out.size; omega) (fun q e => (HO8.out.lt q e).1)
          have HO9 : Hid (w9.ownsRow w0.heap.size 4 1 (.slice (some ⟨g9, 0, none⟩) (t + 1) cap9) (t + 1) (bls (btL bt (t + 1)))) := by
            rw [HSU.out]
            unfold bls at ho9 ⊢
            rw [List.map_append]
            exact ho9
          clear ho9 hg9 hat9 hlt9
          refine hK.out _ _ (fun h => absurd (show true = false from h) (by decide)) ?_
          clear hK K
          try simp only [Act.put, List.setIfInBounds_toArray, List.set_cons_zero, List.set_cons_succ]
          refine wpU_one (i := 11) (by kernel_rfl) rfl (fun K hK => ?_)
          go_simp
          refine hK.out _ _ (fun h => absurd (show true = false from h) (by decide)) ?_
          clear hK K
          try simp only [Act.put, List.setIfInBounds_toArray, List.set_cons_zero, List.set_cons_succ]
          refine wpU_done (by kernel_rfl) ?_ _
          go_wp2_with fail
          go_roundg (tm - (t + 1))
          case measure => omega
          case rel => exact ⟨t + 1, by omega, by omega, by go_num, HB9, HO9⟩
        · replace inv := inv_setc (i := 6) inv (by kernel_rfl) (by decide)
          go_simp
          obtain ⟨w4, HW4⟩ := nameIt (wi.alloc (.cells #[.bool true, .int .i64 (t : Int)] 44)).drew
          have hb4 : Below wi.heap.size wi w4 := by rw [← HW4.out]; exact ((Below.refl _ _).alloc (Nat.le_refl _) _).drew
          have HQ4 : Hid (w4.heap[wi.heap.size]? = some (.cells #[.bool true, .int .i64 (t : Int)] 44 (0, 0))) := by rw [← HW4.out]; exact bx_new _ _ _ rfl
          have HB4 := Lib.hid hb4
          rw [HW4.out]
          obtain ⟨bq, HBQ⟩ := nameIt wi.heap.size
          rw [HBQ.out] at HQ4
          first | rw [HBQ.out] | skip
          clear hb4 HW4
          refine hK.out _ _ (fun _ => HSX.out _ HB4.out) ?_
          clear hK K
          try simp only [Act.put, List.setIfInBounds_toArray, List.set_cons_zero, List.set_cons_succ]
          refine wpU_one (i := 3) (by kernel_rfl) rfl (fun K hK => ?_)
          replace inv := inv_setc (i := 3) inv (by kernel_rfl) (by decide)
          go_simp
          refine (HCL.out _ (HBW.out.trans (HB4.out.mono HBW.out.size))).mono ?_
          rintro e w5 ⟨ac, cc, rfl, hso, hb5⟩
          have HB5 : Hid (Below wi.heap.size wi w5) := HB4.out.trans (hb5.mono HB4.out.size)
          have HSO5 : Hid (SO wi.heap.size (.slice ac n cc) l w5) := World.ownsRow.mono hso HB4.out.size
          have HQ5 := Lib.hid (bx_keep HQ4.out hb5)
          have HQL : Hid (wi.heap.size ≤ w5.heap.size) := HB5.out.size
          clear hso hb5
          refine hK.out _ _ (fun _ => HSX.out _ HB5.out) ?_
          clear hK K
          try simp only [Act.put, List.setIfInBounds_toArray, List.set_cons_zero, List.set_cons_succ]
          refine wpU_one (i := 7) (by kernel_rfl) rfl (fun K hK => ?_)
          replace inv := inv_setc (i := 7) inv (by kernel_rfl) (by decide)
          refine step_appB elSym rfl _ _ rfl (by have h := HSO5.out; unfold SO at h; rw [HN.out] at h; exact h) rfl rfl HQ5.out rfl rfl (by omega) (by unfold maxLen; omega) HQL.out ?_
          intro g6 cap6 w6 ho6 hg6 hat6 hlt6
          have HSO6 : Hid (SO wi.heap.size (.slice (some ⟨g6, 0, none⟩) (n + 1) cap6) (l ++ [⟨true, (t : Int)⟩]) w6) := by
            show w6.ownsRow _ _ _ _ _ _
            rw [symC_app, List.length_append, HN.out]
            exact ho6
          have HB6 : Hid (Below wi.heap.size wi w6) := HB5.out.grown hg6 HB5.out.size (fun q e => (World.ownsRow.lt HSO5.out q e).1)
          clear ho6 hg6 hat6 hlt6
          refine hK.out _ _ (fun _ => HSX.out _ HB6.out) ?_
          clear hK K
          try simp only [Act.put, List.setIfInBounds_toArray, List.set_cons_zero, List.set_cons_succ]
          refine wpU_one (i := 8) (by kernel_rfl) rfl (fun K hK => ?_)
          replace inv := inv_setc (i := 8) inv (by kernel_rfl) (by decide)
          go_simp
          refine (HBF.out w6 (some ⟨g6, 0, none⟩) cap6 ((HB0.out.trans (HBW.out.mono HB0.out.size)).trans (HB6.out.mono (by have := HBW.out.size; have := HB0.out.size; omega))) HSO6.out.rd).mono ?_
          rintro e w7 ⟨rfl, hb7⟩
          have HB7 : Hid (Below wi.heap.size wi w7) := HB6.out.trans (hb7.mono HB6.out.size)
          have HO7 : Hid (w7.ownsRow w0.heap.size 4 1 (.slice a6 t c6) t (bls (btL bt t))) := own_keep HO.out HB7.out
          clear hb7
          refine hK.out _ _ (fun _ => HSX.out _ HB7.out) ?_
          clear hK K
          try simp only [Act.put, List.setIfInBounds_toArray, List.set_cons_zero, List.set_cons_succ]
          refine wpU_one (i := 9) (by kernel_rfl) rfl (fun K hK => ?_)
          replace inv := inv_setc (i := 9) inv (by kernel_rfl) (by decide)
          go_simp
          have HX8 : Hid ((w7.alloc (.cells #[.bool b] 4)).heap[w7.heap.size]? = some (.cells #[.bool b] 4 (0, 0))) := bx_new _ _ _ rfl
          have HB8 : Hid (Below wi.heap.size wi (w7.alloc (.cells #[.bool b] 4))) := HB7.out.alloc HB7.out.size _
          have HO8 : Hid ((w7.alloc (.cells #[.bool b] 4)).ownsRow w0.heap.size 4 1 (.slice a6 t c6) t (bls (btL bt t))) := own_keep HO.out HB8.out
          obtain ⟨w8, HW8⟩ := nameIt (w7.alloc (.cells #[.bool b] 4))
          rw [HW8.out] at HX8 HB8 HO8
          rw [HW8.out]
          obtain ⟨q8, HQ8⟩ := nameIt w7.heap.size
          rw [HQ8.out] at HX8
          rw [HQ8.out]
          clear HW8
          refine hK.out _ _ (fun _ => HSX.out _ HB8.out) ?_
          clear hK K
          try simp only [Act.put, List.setIfInBounds_toArray, List.set_cons_zero, List.set_cons_succ]
          refine wpU_one (i := 10) (by kernel_rfl) rfl (fun K hK => ?_)
          refine step_appB elBl rfl _ _ rfl HO8.out rfl rfl HX8.out rfl rfl (by omega) (by unfold maxLen; omega) (by have := HBW.out.size; have := HB8.out.size; omega) ?_
          intro g9 cap9 w9 ho9 hg9 hat9 hlt9
          have HB9 : Hid (Below w0.heap.size w0 w9) := (HBW.out.trans (HB8.out.mono HBW.out.size)).grown hg9 (by have := HBW.out.size; have := HB8.out.size; omega) (fun q e => (HO8.out.lt q e).1)
          have HO9 : Hid (w9.ownsRow w0.heap.size 4 1 (.slice (some ⟨g9, 0, none⟩) (t + 1) cap9) (t + 1) (bls (btL bt (t + 1)))) := by
            rw [HSU.out]
            unfold bls at ho9 ⊢
            rw [List.map_append]
            exact ho9
          clear ho9 hg9 hat9 hlt9
          refine hK.out _ _ (fun h => absurd (show true = false from h) (by decide)) ?_
          clear hK K
          try simp only [Act.put, List.setIfInBounds_toArray, List.set_cons_zero, List.set_cons_succ]
          refine wpU_one (i := 11) (by kernel_rfl) rfl (fun K hK => ?_)
          go_simp
          refine hK.out _ _ (fun h => absurd (show true = false from h) (by decide)) ?_
          clear hK K
          try simp only [Act.put, List.setIfInBounds_toArray, List.set_cons_zero, List.set_cons_succ]
          refine wpU_done (by kernel_rfl) ?_ _
          go_wp2_with fail
          go_roundg (tm - (t + 1))
          case measure => omega
          case rel => exact ⟨t + 1, by omega, by omega, by go_num, HB9, HO9⟩
      · have htm' : ¬ (t : Int) < (tm : Int) := by omega
        obtain rfl : t = tm := by omega
        obtain ⟨x0, x1, x2, x3⟩ := HG0.out wi HBW.out
        have HCC := Lib.hid (HCO.out wi (HB0.out.trans (HBW.out.mono HB0.out.size)))
        obtain ⟨ob, HOB⟩ := nameIt o.isSome
        rw [HOB.out] at HBS
        go_wp2_with fail
        refine HCC.out.mono ?_
        clear x0 x1 x2 x3
        rintro e w6 ⟨x, rfl, hx, hb6⟩
        obtain ⟨xa, xm, xk, rfl, -⟩ := vr_form hx
        rw [HOB.out]
        obtain ⟨oc, HOCN⟩ := nameIt (oC o)
        obtain ⟨on, HONN⟩ := nameIt (oN o)
        rw [HOCN.out, HONN.out]
        have hwf := valField ob (oc : Int) (on : Int) (.slice xa xm xk) w6
        have HO6 := Lib.hid (own_keep HO.out hb6)
        have HB6 : Hid (Below w0.heap.size w0 w6) := HBW.out.trans (hb6.mono HBW.out.size)
        have hsz := HB6.out.size
        clear hx hb6
        go_wp2_with (at_builtin; refine wp_app1 elBl rfl _ _ rfl HO6.out rfl rfl rfl rfl (by omega) (by unfold maxLen; omega) hsz ?_)
        intro v7 w7 ho7 hg7
        obtain ⟨a7, c7, rfl, -, -⟩ := own_len ho7
        have HO7 : Hid (w7.ownsRow w0.heap.size 4 1 (.slice a7 (t + 1) c7) (t + 1) (bls BS)) := by
          rw [← HBS.out]
          unfold bls at ho7 ⊢
          rw [List.map_append]
          exact ho7
        have HB7 : Hid (Below w0.heap.size w0 w7) := HB6.out.grown hg7 hsz (fun q e => (HO6.out.lt q e).1)
        have HSL := Lib.hid (sl_of_own HO7.out)
        have HCT := Lib.hid (containsB BS _ w7 HSL.out)
        have HNM : Hid (∀ v z w', NextM BS v z w' = if (BS.any fun x => x) = true then Sl w' v (bls BS) ∧ z = 0 else v = .slice none 0 0 ∧ z = 10) := fun _ _ _ => rfl
        obtain ⟨ba, HBA⟩ := nameIt (BS.any fun x => x)
        rw [HBA.out] at HCT
        simp only [HBA.out] at HNM
        clear ho7 hg7 hwf
        go_wp2_with fail
        refine HCT.out.mono ?_
        rintro e w20 ⟨rfl, hb20⟩
        have HBZ : Hid (Below w0.heap.size w0 w20) := HB7.out.trans (hb20.mono HB7.out.size)
        cases ba with
        | true =>
          have HE := Lib.hid (HFG.out (.slice a7 (t + 1) c7) 0 w20 HN12.out (by rw [HNM.out, if_pos rfl]; exact ⟨HSL.out.keep hb20, rfl⟩) HBZ.out)
          clear hb20
          go_wp2_with fail
          first | exact HE.out | exact bodyPost_ret (results_tmp2 Try.results26 _ _ _) rfl HE.out
        | false =>
          have HE := Lib.hid (HFG.out (.slice none 0 0) 10 w20 HN12.out (by rw [HNM.out, if_neg (by decide)]; exact ⟨rfl, rfl⟩) HBZ.out)
          clear hb20
          go_wp2_with fail
          first | exact HE.out | exact bodyPost_ret (results_tmp2 Try.results26 _ _ _) rfl HE.out
end
end Ho
end Go.Proofs.Ytjpmebppdcclbaa
namespace Go.Proofs.Ytjpmebppdcclbaa
namespace Ht
open Rp Hl
theorem p_mem {r : Rule} (h : r ∈ pK) : r.left = 0 ∧ ∃ l, r.right = ⟨true, 0⟩ :: l ∧ l ≠ [] ∧ ∀ s ∈ r.right, s.term = true ∨ s = ⟨false, 0⟩ := by
  simp [pK] at h
  rcases h with rfl | rfl
  · exact ⟨rfl, _, rfl, by simp, by simp⟩
  · exact ⟨rfl, _, rfl, by simp, by simp⟩
theorem p_hw : hwOf pK 1 2 ⟨false, 0⟩ = true := by
  unfold hwOf svOf
  rw [← oneV_eq (gokS 1 2) pVO0 pCl0 ⟨false, 0⟩ (Nat.le_refl 0) (Nat.le_refl 0)]
  rfl
theorem p_kw : KW pK (hwOf pK 1 2) = pK := by
  unfold KW
  rw [List.filter_eq_self]
  intro r hr
  rw [List.all_eq_true]
  intro s hs
  obtain ⟨_, _, _, _, h⟩ := p_mem hr
  unfold hwS
  rcases h s hs with h | h
  · rw [h]; rfl
  · rw [h, p_hw]; rfl
end Ht
end Go.Proofs.Ytjpmebppdcclbaa
namespace Go.Proofs.Ytjpmebppdcclbaa
open Go.RowKit
namespace Ea
open Rp Hl Al
open Ht hiding D
open Ho (SO SO.rd symC symC_app beginsE BegPost valField)
theorem tC_succ {w : List Int} {j : Nat} (hj : j < w.length) : tC (w.take (j + 1)) = tC (w.take j) ++ [⟨true, w[j]⟩] := by
  unfold tC
  rw [List.take_succ_eq_append_getElem hj, List.map_append]; rfl
set_option maxHeartbeats 8000000 in
set_option maxRecDepth 100000 in
theorem longestE (K : List Rule) (N tm st : Nat) (hN : N ≤ 10) (htm : tm ≤ 100) (hsN : st < N) (hK : KG N K (Hl.okS N tm)) (hr4 : ∀ r ∈ K, r.right.length ≤ 4) (hkl : K.length ≤ 100) (l : List Int) (hl12 : l.length ≤ 12) (hlt : ∀ t ∈ l, 0 ≤ t ∧ t < (tm : Int)) (hH : HW K (hwOf K N tm)) (gt : Int) (ga : Option Addr) (gc : Nat) (la : Option Addr) (lk : Nat) (W : World) (hgr : Rd AnyB W (.sl (K.map Rule.d)) [.slice ga K.length gc]) (hrl : Sl W (.slice la l.length lk) (ints l)) :
    Calls Try.prog 16 #[.agg #[.int .i64 gt, .int .i64 (N : Int), .int .i64 (st : Int), .slice ga K.length gc], .slice la l.length lk] W fun e w' => (∃ r : Nat, PF K N (hwOf K N tm) (st : Int) l r ∧ e = .returned (.int .i64 (r : Int))) ∧ Below W.heap.size W w' := by
  obtain ⟨w0, HW0⟩ := nameIt (W.alloc (.cells #[.int .i64 gt, .int .i64 (N : Int), .int .i64 (st : Int), .slice ga K.length gc] 24))
  have hb0 : Below W.heap.size W w0 := by rw [← HW0.out]; exact (Below.refl _ _).alloc (Nat.le_refl _) _
  have X0 : Hid (w0.heap[W.heap.size]? = some (.cells #[.int .i64 gt, .int .i64 (N : Int), .int .i64 (st : Int), .slice ga K.length gc] 24 (0, 0))) := by rw [← HW0.out]; exact bx_new _ _ _ rfl
  have HBE : Hid (∀ W' j (hj : j < l.length) a c, Below w0.heap.size w0 W' → Rd AnyB W' (.sl ((tC (l.take (j + 1))).map Sym.d)) [.slice a (j + 1) c] → Calls Try.prog 49 #[.agg #[.int .i64 gt, .int .i64 (N : Int), .int .i64 (st : Int), .slice ga K.length gc], .slice a (j + 1) c] W' fun e w' => (∃ b, e = .returned (.bool b) ∧ (b = true ↔ okP K N (hwOf K N tm) (st : Int) l j)) ∧ Below W'.heap.size W' w') := by
    intro W' j hj a c hb hr
    have hlen : (tC (l.take (j + 1))).length = j + 1 := by rw [tC_len, List.length_take]; omega
    have hbg := beginsE K N tm st hN htm hsN hK hr4 hkl (tC (l.take (j + 1))) (by omega) gt ga gc a c W' ((hgr.below hb0).below hb) (by rw [hlen]; exact hr)
    rw [hlen] at hbg
    refine hbg.mono ?_
    rintro e w' ⟨S, b, _, rfl, hiff, h4⟩
    rw [hlen] at hiff
    exact ⟨⟨b, rfl, hiff.trans (okP_begins hK hH hlt (by omega) hj)⟩, h4⟩
  have HB0 := Lib.hid hb0
  have HRL := Lib.hid (hrl.keep hb0)
  obtain ⟨PST, HP⟩ := nameIt (fun (e : Ending) (w' : World) => (∃ r : Nat, PF K N (hwOf K N tm) (st : Int) l r ∧ e = .returned (.int .i64 (r : Int))) ∧ Below W.heap.size W w')
  have HFIN : Hid (∀ (r : Nat) w', PF K N (hwOf K N tm) (st : Int) l r → Below w0.heap.size w0 w' → PST (.returned (.int .i64 (r : Int))) w') := by
    intro r w' h1 h2
    rw [← HP.out]
    exact ⟨⟨r, h1, rfl⟩, hb0.trans (h2.mono hb0.size)⟩
  rw [HP.out]
  have HPF : Hid (∀ r : Nat, (r ≤ l.length ∧ (∀ i, i < r → okP K N (hwOf K N tm) (st : Int) l i) ∧ (r < l.length → ¬ okP K N (hwOf K N tm) (st : Int) l r)) → PF K N (hwOf K N tm) (st : Int) l r) := fun r h => h
  obtain ⟨OKJ, HOKJ⟩ := nameIt (okP K N (hwOf K N tm) (st : Int) l)
  simp only [HOKJ.out] at HBE HPF
  obtain ⟨n, HN⟩ := nameIt l.length
  rw [HN.out] at hl12 HRL
  obtain ⟨kn, HKN⟩ := nameIt K.length
  rw [HKN.out] at HW0 X0 HBE
  rw [HKN.out, HN.out]
  have HG0 : Hid (∀ w', Below w0.heap.size w0 w' → w'.cell? ⟨W.heap.size, 0, none⟩ = some (.int .i64 gt) ∧ w'.cell? ⟨W.heap.size, 0 + 1, none⟩ = some (.int .i64 (N : Int)) ∧ w'.cell? ⟨W.heap.size, 0 + 2, none⟩ = some (.int .i64 (st : Int)) ∧ w'.cell? ⟨W.heap.size, 0 + 3, none⟩ = some (.slice ga kn gc)) := by
    intro w' hb'
    exact bx_cells4 (bx_keep X0.out hb')
  have HO0 : Hid (SO w0.heap.size (.slice none 0 0) (tC (l.take 0)) w0) := by
    show SO _ _ _ _
    rw [List.take_zero]
    exact World.ownsRow_nil _ _ _ _
  clear hb0 hgr hrl hK hr4 hkl hlt hH HP
  go_enter Try.func16, Try.ntmps16
  go_upto_region 1 with fail
  rw [HW0.out]
  clear HW0
  go_wp2_with fail
  go_loopg [5, 6, 8, 11] n (fun gg v5 v6 v8 v11 wr => ∃ j : Nat, j ≤ n ∧ n - j ≤ gg ∧ v5 = .int .i64 (j : Int) ∧ v11 = .int .i64 (j : Int) ∧ Hid (Below w0.heap.size w0 wr) ∧ Hid (SO w0.heap.size v6 (tC (l.take j)) wr) ∧ Hid (∀ i, i < j → OKJ i))
  case atStart => exact ⟨0, by omega, by omega, rfl, rfl, Below.refl _ _, HO0, fun i hi => by omega⟩
  case round =>
    clear HO0
    obtain ⟨j, hj, hgg, rfl, rfl, HBX, HSO, HOK⟩ := hrel
    have hso := HSO.out
    have hlj : (tC (l.take j)).length = j := by rw [tC_len, List.length_take]; have := HN.out; omega
    unfold SO at hso
    rw [hlj] at hso
    obtain ⟨a6, c6, rfl, -, -⟩ := own_len hso
    have HOW := Lib.hid hso
    by_cases hjn : j < n
    · have hjn' : (j : Int) < (n : Int) := by omega
      have hjL : j < l.length := by rw [HN.out]; exact hjn
      obtain ⟨lb, lo, hae, hlc⟩ := (HRL.out.keep HBX.out).at hjn
      have s0 := hlc j (by rw [ints_len]; exact hjL)
      rw [ints_get] at s0
      have hsucc := tC_succ hjL
      have hbe := HBE.out
      obtain ⟨x, HX⟩ := nameIt (l[j]'hjL)
      rw [HX.out] at s0 hsucc
      have HSU := Lib.hid hsucc
      have hsz := HBX.out.size
      subst hae
      clear hlc hsucc hso hlj hbe
      go_wp2_with (at_builtin; refine wp_app1 elSym rfl _ _ rfl HOW.out rfl rfl rfl rfl (by omega) (by unfold maxLen; omega) hsz ?_)
      intro v7 w7 ho7 hg7
      obtain ⟨a7, c7, rfl, -, -⟩ := own_len ho7
      have HO7 : Hid (SO w0.heap.size (.slice a7 (j + 1) c7) (tC (l.take (j + 1))) w7) := by
        show w7.ownsRow _ _ _ _ _ _
        rw [HSU.out, symC_app, List.length_append, tC_len, List.length_take, show min j l.length = j by have := HN.out; omega]
        exact ho7
      have HB7 : Hid (Below w0.heap.size w0 w7) := HBX.out.grown hg7 hsz (fun q e => (HOW.out.lt q e).1)
      have HBG := Lib.hid (HBE.out w7 j hjL a7 c7 HB7.out HO7.out.rd)
      obtain ⟨x0, x1, x2, x3⟩ := HG0.out w7 HB7.out
      clear ho7 hg7 s0
      go_wp2_with fail
      refine HBG.out.mono ?_
      clear x0 x1 x2 x3
      rintro e w8 ⟨⟨b, rfl, hiff⟩, hb8⟩
      have HB8 : Hid (Below w0.heap.size w0 w8) := HB7.out.trans (hb8.mono HB7.out.size)
      have HO8 : Hid (SO w0.heap.size (.slice a7 (j + 1) c7) (tC (l.take (j + 1))) w8) := own_keep HO7.out hb8
      have HIF := Lib.hid hiff
      clear hb8 hiff
      cases b with
      | false =>
        have HE := Lib.hid (HFIN.out j w8 (HPF.out j ⟨by omega, HOK.out, fun _ h => by have := HIF.out.2 h; cases this⟩) HB8.out)
        go_wp2_with fail
        first | exact HE.out | (go_ret; exact HE.out)
      | true =>
        have HOK8 : Hid (∀ i, i < j + 1 → OKJ i) := by
          intro i hi
          by_cases e : i = j
          · rw [e]; exact HIF.out.1 rfl
          · exact HOK.out i (by omega)
        go_wp2_with fail
        go_roundg (n - (j + 1))
        case measure => omega
        case rel => exact ⟨j + 1, by omega, by omega, by go_num, by go_num, HB8, HO8, HOK8⟩
    · have hjn' : ¬ (j : Int) < (n : Int) := by omega
      obtain rfl : j = n := by omega
      have HE := Lib.hid (HFIN.out j wr (HPF.out j ⟨by rw [HN.out]; exact Nat.le_refl _, HOK.out, fun h => by rw [HN.out] at h; omega⟩) HBX.out)
      go_wp2_with fail
      first | exact HE.out | (go_ret; exact HE.out)
/-! the fixed call -/
theorem p_okP0 : okP pK 1 (hwOf pK 1 2) 0 [0, 1, 1] 0 := by
  unfold okP
  rw [p_kw]
  exact ⟨⟨0, [⟨true, 0⟩, ⟨true, 1⟩]⟩, by simp [pK], 0, 0, .start, rfl, rfl⟩
theorem p_leaf0 : Dx pK (lfB (hwOf pK 1 2) 1 (tC [0, 1, 1])) ⟨true, 0⟩ 0 1 := ⟨0, rfl, by decide, by decide, .inl rfl⟩
theorem p_okP1 : okP pK 1 (hwOf pK 1 2) 0 [0, 1, 1] 1 := by
  unfold okP
  rw [p_kw]
  exact ⟨⟨0, [⟨true, 0⟩, ⟨true, 1⟩]⟩, by simp [pK], 1, 0, .start, ⟨1, by omega, by omega, p_leaf0, rfl⟩, rfl⟩
theorem p_t0 : ∀ {h f j : Nat}, Ht.D pK (lfB (hwOf pK 1 2) 1 (tC [0, 1, 1])) h ⟨true, 0⟩ f j → f = 0 ∧ j = 1 := by
  intro h f j hd
  have key : j = f + 1 ∧ lfB (hwOf pK 1 2) 1 (tC [0, 1, 1]) ⟨true, 0⟩ f := by
    cases h with
    | zero => exact hd
    | succ h =>
      rcases hd with hd | ⟨h1, _⟩
      · exact hd
      · cases h1
  obtain ⟨rfl, h1, h2, _⟩ := key
  have h3 : f < 3 := h1
  match f, h3 with
  | 0, _ => exact ⟨rfl, rfl⟩
  | 1, _ => exact absurd h2 (by decide)
  | 2, _ => exact absurd h2 (by decide)
theorem p_s : ∀ {h i j : Nat}, 1 ≤ i → ¬ Ht.D pK (lfB (hwOf pK 1 2) 1 (tC [0, 1, 1])) h ⟨false, 0⟩ i j := by
  have hleaf : ∀ i, ¬ lfB (hwOf pK 1 2) 1 (tC [0, 1, 1]) ⟨false, 0⟩ i := by
    intro i hl
    obtain ⟨h1, h2, _⟩ := hl
    have h3 : i < 3 := h1
    match i, h3 with
    | 0, _ => exact absurd h2 (by decide)
    | 1, _ => exact absurd h2 (by decide)
    | 2, _ => exact absurd h2 (by decide)
  intro h i j hi hd
  cases h with
  | zero => exact hleaf _ hd.2
  | succ h =>
    rcases hd with hd | ⟨_, r, hr, _, h4⟩
    · exact hleaf _ hd.2
    · obtain ⟨_, l, e, _⟩ := p_mem hr
      rw [e] at h4
      obtain ⟨m, _, _, h5, _⟩ := h4
      have := (p_t0 h5).1
      omega
theorem p_okP2 : ¬ okP pK 1 (hwOf pK 1 2) 0 [0, 1, 1] 2 := by
  unfold okP
  rw [p_kw]
  rintro ⟨r, hr, d, f, hp, h0, hd⟩
  have hd' : r.right[d]? = some ⟨true, 1⟩ := hd
  simp [pK] at hr
  rcases hr with rfl | rfl
  · match d with
    | 0 => cases hd'
    | 1 => cases hd'
    | 2 =>
      obtain ⟨m, _, _, ⟨q, h3⟩, ⟨m2, h4, h5, ⟨q2, h6⟩, h7⟩⟩ := h0
      have h8 := (p_t0 h3).2
      exact p_s (by omega) h6
    | d + 3 => cases hd'
  · match d with
    | 0 => cases hd'
    | 1 =>
      obtain ⟨m, _, _, ⟨q, h3⟩, h4⟩ := h0
      have h8 := (p_t0 h3).2
      have h9 : m = 2 := h4
      omega
    | d + 2 => cases hd'
theorem p_pf : PF pK 1 (hwOf pK 1 2) 0 [0, 1, 1] 2 := ⟨by simp, fun i hi => by
  match i, hi with
  | 0, _ => exact p_okP0
  | 1, _ => exact p_okP1, fun _ => p_okP2⟩
theorem lenOk {g : Gram} {N tm : Nat} (hck : checkG g = 0) (hok : Cs.OkC g N) (hK : KG N g.rules (Hl.okS N tm)) (hr4 : ∀ r ∈ g.rules, r.right.length ≤ 4) {T : Tb} (hcg : CG leafS emS 0 N g.rules (GS tm) T) (hclo : ClosedT g.rules leafS emS 0 T) (ga : Option Addr) (gc : Nat) (W : World) (hgr : Rd AnyB W (.sl (g.rules.map Rule.d)) [.slice ga g.rules.length gc]) : LenC g (.slice ga g.rules.length gc) (svOf g.rules N tm) N W := by
  rw [show svOf g.rules N tm = fun y => ofT leafS T y 0 0 from funext fun y => (sv_eqT hcg hclo y).symm]
  exact lenE hck hok hK hr4 (of_vo (gokS N tm) hcg) (closed_of (gokS N tm) (cg_wf (gokS N tm) hcg) hclo) ga gc W hgr
theorem fixP (a : Option Addr) (k : Nat) (W' : World) (hrd : Rd AnyB W' (.sl (pK.map Rule.d)) [.slice a 2 k]) (la : Option Addr) (lk : Nat) (hrl : Sl W' (.slice la 3 lk) (ints [0, 1, 1])) : Calls Try.prog 14 #[.agg #[.int .i64 2, .int .i64 1, .int .i64 0, .slice a 2 k], .slice la 3 lk] W' fun e w' => e = .returned (.tuple #[.int .i64 2, .int .i64 0]) ∧ Below W'.heap.size W' w' := by
  obtain ⟨N, hok⟩ := Cs.okC_of hG_ok
  have hN1 : N = 1 := by have := hok.nons; have e : hG.nons = 1 := rfl; omega
  subst hN1
  obtain ⟨T, hcg, hjs, hclo⟩ := sh_ex (K := pK) (N := 1) (tm := 2) (by omega) pKG (by decide)
  refine (prefE hG [0, 1, 1] a k la lk W' hrd hrl (N := 1) (tm := 2) (st := 0) (by omega) rfl rfl (by omega) rfl (by omega) pKG (by decide) (by decide) (svOf pK 1 2) (hwOf pK 1 2) (fun _ => rfl) (fun W2 h2 => lenOk (g := hG) hG_ok hok pKG (by decide) hcg hclo a k W2 (hrd.below h2))).mono ?_
  have hz : wordErr hG.terms [0, 1, 1] 12 = 0 := by decide
  have hh : hwOf hG.rules 1 2 ⟨false, ((0 : Nat) : Int)⟩ = true := p_hw
  rintro e w' ⟨h1, ⟨h2, _⟩ | ⟨_, h2, _⟩ | ⟨_, _, r, h2, rfl⟩⟩
  · exact absurd hz h2
  · have h3 : hwOf pK 1 2 ⟨false, ((0 : Nat) : Int)⟩ = false := h2
    rw [show hwOf pK 1 2 ⟨false, ((0 : Nat) : Int)⟩ = true from p_hw] at h3
    cases h3
  · have h3 : r = 2 := pf_one h2 p_pf
    rw [h3]
    exact ⟨rfl, h1⟩
set_option maxHeartbeats 16000000 in
set_option maxRecDepth 100000 in
theorem lawRP (g : Gram) (u0 : Value) (l : List Int) (v1 : Value) (W : World) (hr : Rd AnyB W (.sl (g.rules.map Rule.d)) [u0]) (hs : Sl W v1 (ints l)) :
    Calls Try.prog 4 #[.agg #[.int .i64 g.terms, .int .i64 g.nons, .int .i64 g.start, u0], v1] W fun e w' => e = .returned (.bool true) ∧ Below W.heap.size W w' := by
  obtain ⟨ga, gc, rfl, hgc1, hgc2⟩ := hr.form
  rw [List.length_map] at hr hgc1 ⊢
  obtain ⟨la, lk, rfl⟩ := hs.form
  rw [ints_len] at hs ⊢
  obtain ⟨PST, HP⟩ := nameIt (fun (e : Ending) (w' : World) => e = .returned (.bool true) ∧ Below W.heap.size W w')
  have HFIN : Hid (∀ w', Below W.heap.size W w' → PST (.returned (.bool true)) w') := by
    intro w' h; rw [← HP.out]; exact ⟨rfl, h⟩
  rw [HP.out]
  obtain ⟨w0, HW0⟩ := nameIt (W.alloc (.cells #[.int .i64 g.terms, .int .i64 g.nons, .int .i64 g.start, .slice ga g.rules.length gc] 24))
  have hw0 : Below W.heap.size W w0 := by rw [← HW0.out]; exact (Below.refl _ _).alloc (Nat.le_refl _) _
  have HG0 : Hid (w0.heap[W.heap.size]? = some (.cells #[.int .i64 g.terms, .int .i64 g.nons, .int .i64 g.start, .slice ga g.rules.length gc] 24 (0, 0))) := by rw [← HW0.out]; exact bx_new _ _ _ rfl
  have HB0 := Lib.hid hw0
  have hr0 := hr.below hw0
  have hs0 := hs.keep hw0
  have HCK : Hid (∀ W', Below w0.heap.size w0 W' → Calls Try.prog 10 #[.agg #[.int .i64 g.terms, .int .i64 g.nons, .int .i64 g.start, .slice ga g.rules.length gc]] W' fun e w' => e = .returned (.int .i64 (checkG g)) ∧ Below W'.heap.size W' w') := fun W' hb => checkE g ga gc W' (hr0.below hb)
  have HWD : Hid (∀ W', Below w0.heap.size w0 W' → Calls Try.prog 11 #[.agg #[.int .i64 g.terms, .int .i64 g.nons, .int .i64 g.start, .slice ga g.rules.length gc], .slice la l.length lk, .int .i64 12] W' fun e w' => e = .returned (.int .i64 (wordErr g.terms l 12)) ∧ Below W'.heap.size W' w') :=
    fun W' hb => wordE g (.slice ga g.rules.length gc) l l.length 12 rfl (by omega) la lk W' (hs0.keep hb)
  have HBD : Hid (checkG g ≠ 0 → ∀ W', Below w0.heap.size w0 W' → Calls Try.prog 14 #[.agg #[.int .i64 g.terms, .int .i64 g.nons, .int .i64 g.start, .slice ga g.rules.length gc], .slice la l.length lk] W' fun e w' => e = .returned (.tuple #[.int .i64 0, .int .i64 (checkG g)]) ∧ Below W'.heap.size W' w') := fun h W' hb => prefBad g l ga gc la lk W' (hr0.below hb) h
  have HOK : Hid (checkG g = 0 → ∃ (o : Option Val),
      (∀ W', Below w0.heap.size w0 W' → Calls Try.prog 15 #[.agg #[.int .i64 g.terms, .int .i64 g.nons, .int .i64 g.start, .slice ga g.rules.length gc]] W' fun e w' => ∃ b, e = .returned (.func (.func 48) #[] #[.pointer (some ⟨b, 0, none⟩)]) ∧ Below W'.heap.size W' w' ∧ Calls Try.prog 48 #[.agg #[.bool false, .int .i64 g.start], .pointer (some ⟨b, 0, none⟩)] w' fun e w2 => ∃ a m k, e = .returned (.agg #[.bool o.isSome, .int .i64 (oC o), .int .i64 (oN o), .slice a m k]) ∧ Below w'.heap.size w' w2) ∧
      (wordErr g.terms l 12 ≠ 0 → ∀ W', Below w0.heap.size w0 W' → Calls Try.prog 14 #[.agg #[.int .i64 g.terms, .int .i64 g.nons, .int .i64 g.start, .slice ga g.rules.length gc], .slice la l.length lk] W' fun e w' => e = .returned (.tuple #[.int .i64 0, .int .i64 (wordErr g.terms l 12)]) ∧ Below W'.heap.size W' w') ∧
      (wordErr g.terms l 12 = 0 → o.isSome = false → ∀ W', Below w0.heap.size w0 W' → Calls Try.prog 14 #[.agg #[.int .i64 g.terms, .int .i64 g.nons, .int .i64 g.start, .slice ga g.rules.length gc], .slice la l.length lk] W' fun e w' => e = .returned (.tuple #[.int .i64 0, .int .i64 5]) ∧ Below W'.heap.size W' w') ∧
      (wordErr g.terms l 12 = 0 → o.isSome = true → ∃ r : Nat, (∀ W', Below w0.heap.size w0 W' → Calls Try.prog 14 #[.agg #[.int .i64 g.terms, .int .i64 g.nons, .int .i64 g.start, .slice ga g.rules.length gc], .slice la l.length lk] W' fun e w' => e = .returned (.tuple #[.int .i64 (r : Int), .int .i64 0]) ∧ Below W'.heap.size W' w') ∧
        ∀ W', Below w0.heap.size w0 W' → Calls Try.prog 16 #[.agg #[.int .i64 g.terms, .int .i64 g.nons, .int .i64 g.start, .slice ga g.rules.length gc], .slice la l.length lk] W' fun e w' => e = .returned (.int .i64 (r : Int)) ∧ Below W'.heap.size W' w')) := by
    intro hck
    obtain ⟨N, tm, st, hok, hN, hN1, htm, htm1, hst, hsN, hK, hr4⟩ := kg_of hck
    have hkl := (checkG_zero hck).2.1
    obtain ⟨T, hcg, hjs, hclo⟩ := sh_ex hN1 hK hr4
    have hH := hw_ok hcg hclo
    have hoks : ∀ s, Hl.okS N tm s → okN s.n := fun s hs => by
      obtain ⟨h1, h2, h3⟩ := hs
      cases ht : s.term with
      | true => have := h2 ht; exact ⟨h1, by omega⟩
      | false => have := h3 ht; exact ⟨h1, by omega⟩
    have hst0 : Hl.okS N tm ⟨false, (st : Int)⟩ := ⟨by show (0 : Int) ≤ (st : Int); omega, (fun e => by cases e), fun _ => by show (st : Int) < (N : Int); omega⟩
    have hpe : ∀ W', Below w0.heap.size w0 W' → Calls Try.prog 14 #[.agg #[.int .i64 g.terms, .int .i64 g.nons, .int .i64 g.start, .slice ga g.rules.length gc], .slice la l.length lk] W' (PrefPost g.rules N (hwOf g.rules N tm) (st : Int) l (wordErr g.terms l 12) W') := fun W' hb =>
      prefE g l ga gc la lk W' (hr0.below hb) (hs0.keep hb) hN1 hN htm htm1 hst hsN hK hr4 hkl (svOf g.rules N tm) (hwOf g.rules N tm) (fun _ => rfl) (fun W2 h2 => lenOk hck hok hK hr4 hcg hclo ga gc W2 ((hr0.below hb).below h2))
    have hho : hwOf g.rules N tm ⟨false, (st : Int)⟩ = (svOf g.rules N tm ⟨false, (st : Int)⟩).isSome := rfl
    refine ⟨svOf g.rules N tm ⟨false, (st : Int)⟩, fun W' hb => ?_, fun hz W' hb => ?_, fun hz ho W' hb => ?_, fun hz ho => ?_⟩
    · rw [hst]
      refine (shortE g.rules N tm hN1 (by omega) hK hr4 g.terms g.nons (st : Int) ga gc W' (hr0.below hb)).mono ?_
      rintro e w' ⟨T2, W1, b, rfl, hT2, hM, _, hb2⟩
      refine ⟨b, rfl, hb2, ?_⟩
      have h1 := freeE hM (Hl.okS N tm) hoks w' ⟨false, (st : Int)⟩ hst0 (Below.refl _ _)
      rw [show (fun y => ofT leafS T2 y 0 0) ⟨false, (st : Int)⟩ = svOf g.rules N tm ⟨false, (st : Int)⟩ from sv_eqT hT2.1 hT2.2.2 ⟨false, (st : Int)⟩] at h1
      refine h1.mono ?_
      rintro e w2 ⟨x, rfl, hv, hb3⟩
      obtain ⟨a, m, k, rfl, _⟩ := vr_form hv
      exact ⟨a, m, k, rfl, hb3⟩
    · refine (hpe W' hb).mono ?_
      rintro e w' ⟨h1, ⟨h2, rfl⟩ | ⟨h2, _⟩ | ⟨h2, _⟩⟩
      · exact ⟨rfl, h1⟩
      · exact absurd h2 hz
      · exact absurd h2 hz
    · refine (hpe W' hb).mono ?_
      rintro e w' ⟨h1, ⟨h2, _⟩ | ⟨_, _, rfl⟩ | ⟨_, h2, _⟩⟩
      · exact absurd hz h2
      · exact ⟨rfl, h1⟩
      · rw [hho, ho] at h2; cases h2
    · obtain ⟨hl12, hlt⟩ := word_ok hz
      rw [htm] at hlt
      obtain ⟨r, hpf⟩ := pf_ex g.rules N (hwOf g.rules N tm) (st : Int) l
      refine ⟨r, fun W' hb => (hpe W' hb).mono ?_, fun W' hb => ?_⟩
      · rintro e w' ⟨h1, ⟨h2, _⟩ | ⟨_, h2, _⟩ | ⟨_, _, r', h2, rfl⟩⟩
        · exact absurd hz h2
        · rw [hho, ho] at h2; cases h2
        · rw [pf_one h2 hpf]
          exact ⟨rfl, h1⟩
      · rw [hN, hst]
        refine (longestE g.rules N tm st hN1 (by omega) hsN hK hr4 (by omega) l hl12 hlt hH g.terms ga gc la lk W' (hr0.below hb) (hs0.keep hb)).mono ?_
        rintro e w' ⟨⟨r', h1, rfl⟩, h2⟩
        rw [pf_one h1 hpf]
        exact ⟨rfl, h2⟩
  obtain ⟨z, HZ⟩ := nameIt (checkG g)
  obtain ⟨ze, HZE⟩ := nameIt (wordErr g.terms l 12)
  obtain ⟨gt, HGT⟩ := nameIt g.terms
  obtain ⟨gn, HGN⟩ := nameIt g.nons
  obtain ⟨gs, HGS⟩ := nameIt g.start
  obtain ⟨kn, HKN⟩ := nameIt g.rules.length
  obtain ⟨n, HN⟩ := nameIt l.length
  rw [HZ.out, HGT.out, HGN.out, HGS.out, HKN.out] at HCK
  rw [HZE.out, HGT.out, HGN.out, HGS.out, HKN.out, HN.out] at HWD
  rw [HZ.out, HGT.out, HGN.out, HGS.out, HKN.out, HN.out] at HBD
  rw [HZE.out, HZ.out, HGT.out, HGN.out, HGS.out, HKN.out, HN.out] at HOK
  rw [HGT.out, HGN.out, HGS.out, HKN.out] at HG0 HW0
  rw [HGT.out, HGN.out, HGS.out, HKN.out, HN.out]
  have HGC : Hid (∀ w', Below w0.heap.size w0 w' → w'.cell? ⟨W.heap.size, 0, none⟩ = some (.int .i64 gt) ∧ w'.cell? ⟨W.heap.size, 0 + 1, none⟩ = some (.int .i64 gn) ∧ w'.cell? ⟨W.heap.size, 0 + 2, none⟩ = some (.int .i64 gs) ∧ w'.cell? ⟨W.heap.size, 0 + 3, none⟩ = some (.slice ga kn gc)) := by
    intro w' hb'
    exact bx_cells4 (bx_keep HG0.out hb')
  clear hw0 HP hr hs hr0 hs0 HZ
  go_enter Try.func4, Try.ntmps4
  go_upto_region 1 with fail
  rw [HW0.out]
  clear HW0
  go_wp2_with fail
  refine (pairsE w0).mono ?_
  rintro e w1 ⟨a, k, rfl, hrd, hb1⟩
  have HB1 := Lib.hid hb1
  have hal : Below w1.heap.size w1 (w1.alloc (.cells #[.int .i64 0, .int .i64 1, .int .i64 1] 3)) := (Below.refl _ _).alloc (Nat.le_refl _) _
  have HFX := Lib.hid (fixP a k _ (hrd.below hal) (some ⟨w1.heap.size, 0, none⟩) 3 (sl_lit (w := w1) (v := #[.int .i64 0, .int .i64 1, .int .i64 1]) rfl (by simp [maxLen])))
  have HAL := Lib.hid hal
  clear hb1 hrd hal
  go_wp2_with fail
  refine HFX.out.mono ?_
  rintro e w2 ⟨rfl, hb2⟩
  have HB2 : Hid (Below w0.heap.size w0 w2) := HB1.out.trans ((HAL.out.trans (hb2.mono HAL.out.size)).mono HB1.out.size)
  obtain ⟨x0, x1, x2, x3⟩ := HGC.out w2 HB2.out
  clear hb2 HFX HAL
  go_wp2_with fail
  refine (HCK.out w2 HB2.out).mono ?_
  clear x0 x1 x2 x3
  rintro e w3 ⟨rfl, hb3⟩
  have HB3 : Hid (Below w0.heap.size w0 w3) := HB2.out.trans (hb3.mono HB2.out.size)
  clear hb3
  by_cases hz : z = 0
  · subst hz
    obtain ⟨o, hsh, hp1, hp2, hp3⟩ := HOK.out rfl
    have HSH := Lib.hid hsh
    have HP1 := Lib.hid hp1
    have HP2 := Lib.hid hp2
    have HP3 := Lib.hid hp3
    obtain ⟨x0, x1, x2, x3⟩ := HGC.out w3 HB3.out
    clear hsh hp1 hp2 hp3 HOK HBD
    go_wp2_with fail
    refine (HWD.out w3 HB3.out).mono ?_
    clear x0 x1 x2 x3
    rintro e w4 ⟨rfl, hb4⟩
    have HB4 : Hid (Below w0.heap.size w0 w4) := HB3.out.trans (hb4.mono HB3.out.size)
    clear hb4
    by_cases hze : ze = 0
    · subst hze
      have HCG : Hid (∀ w', Below w4.heap.size w4 w' → (fun w' : World => w'.cell? ⟨W.heap.size, 0, none⟩ = some (.int .i64 gt) ∧ w'.cell? ⟨W.heap.size, 0 + 1, none⟩ = some (.int .i64 gn) ∧ w'.cell? ⟨W.heap.size, 0 + 2, none⟩ = some (.int .i64 gs) ∧ w'.cell? ⟨W.heap.size, 0 + 3, none⟩ = some (.slice ga kn gc)) w') := fun w' hb => HGC.out w' (HB4.out.trans (hb.mono HB4.out.size))
      obtain ⟨bb, HBBN⟩ := nameIt o.isSome
      go_upto_region 9 with fail
      refine wp_region_U (S := (fun w' : World => w'.cell? ⟨W.heap.size, 0, none⟩ = some (.int .i64 gt) ∧ w'.cell? ⟨W.heap.size, 0 + 1, none⟩ = some (.int .i64 gn) ∧ w'.cell? ⟨W.heap.size, 0 + 2, none⟩ = some (.int .i64 gs) ∧ w'.cell? ⟨W.heap.size, 0 + 3, none⟩ = some (.slice ga kn gc))) 11 (by kernel_rfl) (fun inv => ?_)
      refine wpU_take (i := 0) (v := .int .i64 0) rfl inv (by kernel_rfl) (by kernel_rfl) (by decide) (by decide) (by kernel_rfl) (by kernel_rfl) (by kernel_rfl) (fun _ _ _ h => h) (Or.inl ⟨by kernel_rfl, fun w' hw' => ?_⟩) (HCG.out _ (Below.refl _ _).drew) (fun inv => ?_)
      · obtain ⟨h0, h1, h2, h3⟩ := hw'
        go_simp
      try simp only [Act.put, List.setIfInBounds_toArray, List.set_cons_zero, List.set_cons_succ]
      refine wpU_take (i := 1) (v := .bool true) rfl inv (by kernel_rfl) (by kernel_rfl) (by decide) (by decide) (by kernel_rfl) (by kernel_rfl) (by kernel_rfl) (fun _ _ _ h => h) (Or.inl ⟨by kernel_rfl, fun w' hw' => ?_⟩) (HCG.out _ (Below.refl _ _).drew) (fun inv => ?_)
      · obtain ⟨h0, h1, h2, h3⟩ := hw'
        go_simp
      try simp only [Act.put, List.setIfInBounds_toArray, List.set_cons_zero, List.set_cons_succ]
      refine wpU_take (i := 2) (v := .bool true) rfl inv (by kernel_rfl) (by kernel_rfl) (by decide) (by decide) (by kernel_rfl) (by kernel_rfl) (by kernel_rfl) (fun _ _ _ h => h) (Or.inl ⟨by kernel_rfl, fun w' hw' => ?_⟩) (HCG.out _ (Below.refl _ _).drew) (fun inv => ?_)
      · obtain ⟨h0, h1, h2, h3⟩ := hw'
        go_simp
      try simp only [Act.put, List.setIfInBounds_toArray, List.set_cons_zero, List.set_cons_succ]
      refine wpU_take (i := 3) (v := .agg #[.int .i64 gt, .int .i64 gn, .int .i64 gs, .slice ga kn gc]) rfl inv (by kernel_rfl) (by kernel_rfl) (by decide) (by decide) (by kernel_rfl) (by kernel_rfl) (by kernel_rfl) (fun _ _ _ h => h) (Or.inl ⟨by kernel_rfl, fun w' hw' => ?_⟩) (HCG.out _ (Below.refl _ _).drew) (fun inv => ?_)
      · obtain ⟨h0, h1, h2, h3⟩ := hw'
        go_simp
      try simp only [Act.put, List.setIfInBounds_toArray, List.set_cons_zero, List.set_cons_succ]
      refine wpU_take (i := 5) (v := .pointer (some ⟨W.heap.size, 0 + 2, none⟩)) rfl inv (by kernel_rfl) (by kernel_rfl) (by decide) (by decide) (by kernel_rfl) (by kernel_rfl) (by kernel_rfl) (fun _ _ _ h => h) (Or.inl ⟨by kernel_rfl, fun w' hw' => ?_⟩) (HCG.out _ (Below.refl _ _).drew) (fun inv => ?_)
      · obtain ⟨h0, h1, h2, h3⟩ := hw'
        go_simp
      try simp only [Act.put, List.setIfInBounds_toArray, List.set_cons_zero, List.set_cons_succ]
      refine wpU_take (i := 6) (v := .int .i64 gs) rfl inv (by kernel_rfl) (by kernel_rfl) (by decide) (by decide) (by kernel_rfl) (by kernel_rfl) (by kernel_rfl) (fun _ _ _ h => h) (Or.inl ⟨by kernel_rfl, fun w' hw' => ?_⟩) (HCG.out _ (Below.refl _ _).drew) (fun inv => ?_)
      · obtain ⟨h0, h1, h2, h3⟩ := hw'
        go_simp
      try simp only [Act.put, List.setIfInBounds_toArray, List.set_cons_zero, List.set_cons_succ]
      refine wpU_take (i := 7) (v := .agg #[.bool false, .int .i64 gs]) rfl inv (by kernel_rfl) (by kernel_rfl) (by decide) (by decide) (by kernel_rfl) (by kernel_rfl) (by kernel_rfl) (fun _ _ _ h => h) (Or.inl ⟨by kernel_rfl, fun w' hw' => ?_⟩) (HCG.out _ (Below.refl _ _).drew) (fun inv => ?_)
      · obtain ⟨h0, h1, h2, h3⟩ := hw'
        go_simp
      try simp only [Act.put, List.setIfInBounds_toArray, List.set_cons_zero, List.set_cons_succ]
      refine wpU_one (i := 4) (by kernel_rfl) rfl (fun K hK => ?_)
      replace inv := inv_setc (i := 4) inv (by kernel_rfl) (by decide)
      go_simp
      refine (HSH.out _ (HB4.out.trans ((Below.refl _ _).drew.mono HB4.out.size))).mono ?_
      rintro e w5 ⟨b, rfl, hb5, hcl⟩
      have HB5 : Hid (Below w4.heap.size w4 w5) := (Below.refl _ _).drew.trans hb5
      have HCLO := Lib.hid hcl
      clear hb5 hcl
      refine hK.out _ _ (fun _ => HCG.out _ HB5.out) ?_
      clear hK K
      try simp only [Act.put, List.setIfInBounds_toArray, List.set_cons_zero, List.set_cons_succ]
      refine wpU_one (i := 8) (by kernel_rfl) rfl (fun K hK => ?_)
      replace inv := inv_setc (i := 8) inv (by kernel_rfl) (by decide)
      go_simp
      refine HCLO.out.mono ?_
      rintro e w6 ⟨a1, m1, k1, rfl, hb6⟩
      have HB46 : Hid (Below w4.heap.size w4 w6) := HB5.out.trans (hb6.mono HB5.out.size)
      have HB6 : Hid (Below w0.heap.size w0 w6) := HB4.out.trans (HB46.out.mono HB4.out.size)
      have hfl := valField bb (oC o) (oN o) (.slice a1 m1 k1)
      rw [HBBN.out]
      clear hb6
      refine hK.out _ _ (fun _ => HCG.out _ HB46.out) ?_
      clear hK K
      try simp only [Act.put, List.setIfInBounds_toArray, List.set_cons_zero, List.set_cons_succ]
      refine wpU_one (i := 9) (by kernel_rfl) rfl (fun K hK => ?_)
      replace inv := inv_setc (i := 9) inv (by kernel_rfl) (by decide)
      go_simp
      refine hK.out _ _ (fun _ => HCG.out _ HB46.out) ?_
      clear hK K
      try simp only [Act.put, List.setIfInBounds_toArray, List.set_cons_zero, List.set_cons_succ]
      refine wpU_one (i := 10) (by kernel_rfl) rfl (fun K hK => ?_)
      replace inv := inv_setc (i := 10) inv (by kernel_rfl) (by decide)
      go_simp
      refine hK.out _ _ (fun _ => HCG.out _ HB46.out) ?_
      clear hK K
      try simp only [Act.put, List.setIfInBounds_toArray, List.set_cons_zero, List.set_cons_succ]
      refine wpU_one (i := 11) (by kernel_rfl) rfl (fun K hK => ?_)
      go_simp
      refine hK.out _ _ (fun h => absurd (show true = false from h) (by decide)) ?_
      clear hK K
      try simp only [Act.put, List.setIfInBounds_toArray, List.set_cons_zero, List.set_cons_succ]
      refine wpU_done (by kernel_rfl) ?_ _
      cases bb with
      | false =>
        have HPR := Lib.hid (HP2.out (by trivial) HBBN.out w6 HB6.out)
        obtain ⟨x0, x1, x2, x3⟩ := HGC.out w6 HB6.out
        go_wp2_with fail
        refine HPR.out.mono ?_
        clear x0 x1 x2 x3
        rintro e w7 ⟨rfl, hb7⟩
        have HE := Lib.hid (HFIN.out w7 (HB0.out.trans ((HB6.out.trans (hb7.mono HB6.out.size)).mono HB0.out.size)))
        clear hb7
        go_wp2_with fail
        first | exact HE.out | (go_ret; exact HE.out)
      | true =>
        obtain ⟨r, hpr, hlo⟩ := HP3.out (by trivial) HBBN.out
        have HPR := Lib.hid (hpr w6 HB6.out)
        have HLO := Lib.hid hlo
        obtain ⟨x0, x1, x2, x3⟩ := HGC.out w6 HB6.out
        clear hpr hlo
        go_wp2_with fail
        refine HPR.out.mono ?_
        clear x0 x1 x2 x3
        rintro e w7 ⟨rfl, hb7⟩
        have HB7 : Hid (Below w0.heap.size w0 w7) := HB6.out.trans (hb7.mono HB6.out.size)
        obtain ⟨x0, x1, x2, x3⟩ := HGC.out w7 HB7.out
        clear hb7
        go_wp2_with fail
        refine (HLO.out w7 HB7.out).mono ?_
        clear x0 x1 x2 x3
        rintro e w8 ⟨rfl, hb8⟩
        have HE := Lib.hid (HFIN.out w8 (HB0.out.trans ((HB7.out.trans (hb8.mono HB7.out.size)).mono HB0.out.size)))
        have hrr : ((r : Int) == (r : Int)) = true := by simp
        clear hb8
        go_wp2_with fail
        first | exact HE.out | (go_ret; exact HE.out)
    · have hne : (ze == 0) = false := by simpa using hze
      have hne' : (ze != 0) = true := by simpa using hze
      have hzz : (ze == ze) = true := by simp
      have HPR := Lib.hid (fun w' hb => HP1.out hze w' hb)
      clear hze
      go_upto_region 9 with fail
      refine wp_region_after (by kernel_rfl) (by kernel_rfl) ?_
      repeat (go_big_quiet_step (fail))
      refine wpQuiet_nil ?_
      rintro w5 ⟨⟨_, hb5⟩, rfl⟩
      have HB5 : Hid (Below w0.heap.size w0 w5) := HB4.out.trans (hb5.mono HB4.out.size)
      obtain ⟨x0, x1, x2, x3⟩ := HGC.out w5 HB5.out
      clear hb5
      go_wp2_with fail
      refine (HPR.out w5 HB5.out).mono ?_
      clear x0 x1 x2 x3
      rintro e w7 ⟨rfl, hb7⟩
      have HE := Lib.hid (HFIN.out w7 (HB0.out.trans ((HB5.out.trans (hb7.mono HB5.out.size)).mono HB0.out.size)))
      clear hb7
      go_wp2_with fail
      first | exact HE.out | (go_ret; exact HE.out)
  · have hne : (z == 0) = false := by simpa using hz
    have hne' : (z != 0) = true := by simpa using hz
    have hzz : (z == z) = true := by simp
    have HPR := Lib.hid (HBD.out hz)
    clear hz HOK HBD
    go_upto_region 9 with fail
    refine wp_region_after (by kernel_rfl) (by kernel_rfl) ?_
    repeat (go_big_quiet_step (fail))
    refine wpQuiet_nil ?_
    rintro w5 ⟨⟨_, hb5⟩, rfl⟩
    have HB5 : Hid (Below w0.heap.size w0 w5) := HB3.out.trans (hb5.mono HB3.out.size)
    obtain ⟨x0, x1, x2, x3⟩ := HGC.out w5 HB5.out
    clear hb5
    go_wp2_with fail
    refine (HPR.out w5 HB5.out).mono ?_
    clear x0 x1 x2 x3
    rintro e w7 ⟨rfl, hb7⟩
    have HE := Lib.hid (HFIN.out w7 (HB0.out.trans ((HB5.out.trans (hb7.mono HB5.out.size)).mono HB0.out.size)))
    clear hb7
    go_wp2_with fail
    first | exact HE.out | (go_ret; exact HE.out)
end Ea
end Go.Proofs.Ytjpmebppdcclbaa
namespace Go.Proofs.Ytjpmebppdcclbaa
open Go.RowKit Go.ChangeShapes Go.WideShapes Go.Deep Go.Joins
def okSym (s : Sym) : Prop := i64 s.n
def okRule (r : Rule) : Prop := i64 r.left ∧ ∀ s ∈ r.right, okSym s
def okGram (g : Gram) : Prop := i64 g.terms ∧ i64 g.nons ∧ i64 g.start ∧ ∀ r ∈ g.rules, okRule r
def szSym (_ : Sym) : Nat := 1
def szRule (r : Rule) : Nat := slSz szSym r.right
def szGram (g : Gram) : Nat := slSz szRule g.rules
set_option maxRecDepth 100000 in
theorem opens_symF (N : Nat) : OpensF Try.prog 44 Sym.d szSym okSym any (N + 1) :=
  opens_struct2 (c0 := 1) (c1 := 1) (fun a b => Sym.mk a b) Try.underlying44 ⟨rfl, rfl, by kernel_rfl, by kernel_rfl, by kernel_rfl⟩ (opens_bool Try.underlying4 N) (opens_int Try.underlying3 N)
    (fun _ _ => rfl) (fun _ _ => by simp [szSym]) (fun _ _ _ h => h) (fun _ _ _ _ => trivial)
set_option maxRecDepth 100000 in
theorem opens_ruleF (N : Nat) : OpensF Try.prog 69 Rule.d szRule okRule any (N + 1 + 1) :=
  opens_struct2 (c0 := 1) (c1 := 1) (fun a b => Rule.mk a b) Try.underlying69 ⟨rfl, rfl, by kernel_rfl, by kernel_rfl, by kernel_rfl⟩ (opens_int Try.underlying3 (N + 1)) (opens_slice Try.underlying47 (b := 16) (by kernel_rfl) (opens_symF N))
    (fun _ _ => rfl) (fun _ _ => by simp [szRule]; omega) (fun _ _ h k => ⟨h, k⟩) (fun _ _ _ _ => trivial)
set_option maxRecDepth 100000 in
theorem opens_gramF (N : Nat) : OpensF Try.prog 24 Gram.d szGram okGram any (N + 1 + 1 + 1) :=
  opens_struct4 (c0 := 1) (c1 := 1) (c2 := 1) (c3 := 1) (fun a b c d => Gram.mk a b c d) Try.underlying24 ⟨rfl, rfl, rfl, rfl, by kernel_rfl, by kernel_rfl, by kernel_rfl, by kernel_rfl, by kernel_rfl⟩ (opens_int Try.underlying3 (N + 1 + 1)) (opens_int Try.underlying3 (N + 1 + 1)) (opens_int Try.underlying3 (N + 1 + 1)) (opens_slice Try.underlying22 (b := 32) (by kernel_rfl) (opens_ruleF N))
    (fun _ _ _ _ => rfl) (fun _ _ _ _ => by simp [szGram]; omega) (fun _ _ _ _ h1 h2 h3 h4 => ⟨h1, h2, h3, h4⟩) (fun _ _ _ _ _ _ _ _ => trivial)
theorem opens_gram : Opens Try.prog 24 Gram.d szGram okGram any := by
  intro N H enc w n cs x hn h
  exact opens_gramF N H enc w n cs x (by omega) h
set_option maxRecDepth 100000 in
theorem open_gramV {W : World} {base : Nat} {v : Value} {g : Gram} (hv : Value.okWide Try.prog W .any base 24 v) (h : Rd AnyB W g.d v.cells.toList) : ∃ u, v = .agg #[.int .i64 g.terms, .int .i64 g.nons, .int .i64 g.start, u] ∧ Rd AnyB W (.sl (g.rules.map Rule.d)) [u] := by
  obtain ⟨cs, rfl, hsz⟩ := okWide_struct Try.underlying24 hv
  obtain ⟨c1, r1, e1, h1, h2⟩ := h
  obtain ⟨c2, r2, rfl, h2, h3⟩ := h2
  obtain ⟨c3, r3, rfl, h3, h4⟩ := h3
  rw [RdAll.one_iff] at h4
  simp [Rd] at h1 h2 h3
  subst h1 h2 h3
  have h5 := h4
  obtain ⟨a, cap, L, e, _⟩ := h4
  subst e
  refine ⟨_, ?_, h5⟩
  congr 1
  exact Array.toList_inj.1 e1
end Go.Proofs.Ytjpmebppdcclbaa
namespace Go.Proofs.Ytjpmebppdcclbaa
open Go.RowKit Go.ChangeShapes Go.WideShapes Go.Deep Go.Joins
theorem opens_ints : Opens Try.prog 25 (slD D.int) (slSz one) (slOk i64) (slLim 8 any) := fun N => opens_slice Try.underlying25 (by kernel_rfl) (opens_int Try.underlying3 N)
theorem slSz_one {α : Type} (l : List α) : slSz one l = l.length + 1 := by
  induction l with
  | nil => simp [slSz]
  | cons x l ih => simp [slSz, one] at ih ⊢; omega
theorem sl_slD {w : World} {v : Value} {l : List Int} (h : Rd AnyB w (slD D.int l) [v]) : Sl w v (ints l) := sl_rd h
end Go.Proofs.Ytjpmebppdcclbaa
namespace Go.Proofs.Ytjpmebppdcclbaa.RowRepairPrefix
open Go.ChangeShapes Go.WideShapes Go.ChangeAt Go.RowKit
theorem own : ownKnob Try.prog.godebug = none := by kernel_rfl
theorem laidOut : laidOutB Try.prog = true := by kernel_rfl
set_option maxRecDepth 100000 in
theorem contract (H : Type) (enc : TypeId × Value → H) (W : World) (base : Nat) (args : Array Value) (ds gs : List (DataW H)) (before : List MemPlace)
    (hval0 : ∀ (j : Nat) t v, Try.f4.params[j]? = some t → args[j]? = some v → Value.okWide Try.prog W .any base t v)
    (hW : DataW.Whole enc Try.prog Try.f4.params.toList Rows.repairPrefixSpec.vars false W args.toList ds gs before)
    (hsz0 : (DataW.weightsEach Try.prog (Try.f4.params.toList ++ Rows.repairPrefixSpec.plain.varTypes Try.prog) (ds ++ gs)).all (· ≤ reachBytes) = true) :
    Calls Try.prog 4 args W fun e W' => ∃ v, e = .returned v ∧ Rows.repairPrefixSpec.post enc Try.prog Try.f4 false true false false W args v W' := by
  have hval : ∀ (j : Nat) t v, Try.f4.params[j]? = some t → args[j]? = some v → Value.okWide Try.prog W .any base t v := hval0
  have hW' := hW
  obtain ⟨p, q, hA0, hV, rfl, hfz, hnd⟩ := hW
  have hA : DataW.TrodAll enc Try.prog W 0 (fun _ => true) true Try.f4.params.toList args.toList ds p := hA0
  have hsz : (DataW.weightsEach Try.prog (Try.f4.params.toList ++ Rows.repairPrefixSpec.plain.varTypes Try.prog) (ds ++ gs)).all (· ≤ reachBytes) = true := hsz0
  rw [Try.params4] at hA hval hsz
  obtain ⟨v0, vs0, d0, ds0, p0, q0, hargs, rfl, rfl, h0, r0'⟩ := trodAll_cons hA
  obtain ⟨v1, vs1, d1, ds1, p1, q1, rfl, rfl, rfl, h1, r1'⟩ := trodAll_cons r0'
  obtain ⟨rfl, rfl, rfl⟩ := trodAll_nil r1'
  obtain rfl : args = #[v0, v1] := by cases args; simp_all
  obtain ⟨rfl, rfl⟩ := trodVars_none hV
  have lt0 : ∀ x ∈ p0, x.block < W.heap.size := by obtain ⟨m, hm⟩ := h0; exact DataW.trod_lt m _ _ _ hm
  have tr0 := h0
  have lt1 : ∀ x ∈ p1, x.block < W.heap.size := by obtain ⟨m, hm⟩ := h1; exact DataW.trod_lt m _ _ _ hm
  have tr1 := h1
  have weightsAt : ∀ (j : Nat) {t : TypeId} {d : DataW H}, (Try.f4.params.toList ++ Rows.repairPrefixSpec.plain.varTypes Try.prog)[j]? = some t → ([d0, d1] ++ [])[j]? = some d → ∀ y ∈ DataW.weights Try.prog t d, y ≤ reachBytes := fun j t d ht hd y hy => of_decide_eq_true (List.all_eq_true.1 hsz0 y (DataW.weights_mem_each ht hd y hy))
  obtain ⟨a0, rd0, sz0, k0, li0⟩ := open_arg opens_gram h0
  have lim0 := li0 (weightsAt 0 rfl rfl)
  obtain ⟨u0, rfl, r0⟩ := open_gramV (hval 0 24 v0 rfl rfl) rd0
  obtain ⟨ad1, len1, cap1, hv1⟩ := okWide_slice Try.underlying25 (hval 1 25 v1 rfl rfl)
  obtain ⟨l1, rd1, sz1, k1, li1⟩ := open_arg opens_ints h1
  have s1 : Sl W v1 (ints l1) := sl_slD (by rw [hv1] at rd1 ⊢; exact rd1)
  rw [slSz_one] at sz1
  have n1 : l1.length * 8 ≤ 140737488351232 := (li1 (weightsAt 1 rfl rfl)).1
  clear hA0 hval0
  refine (Ea.lawRP a0 u0 l1 v1 W r0 s1).mono fun e W' ⟨he, bel⟩ => ?_
  subst he
  exact ⟨_, rfl, _, _, _, [], _, [], hW', trodAll_mk1 (shut_bool Try.underlying4 _), (trodAll_cons_mk (Below.trod laidOut (by kernel_rfl) (of_decide_eq_true (by kernel_rfl)) tr0 bel lt0) (trodAll_cons_mk (Below.trod laidOut (by kernel_rfl) (of_decide_eq_true (by kernel_rfl)) tr1 bel lt1) trodAll_mk0)), rfl, bel.frame _, fun h => by cases h⟩
set_option maxRecDepth 100000 in
theorem lifted (os : Os) (started : os.Started) (H : Type) (enc : TypeId × Value → H) :
    ReturnsInHanded {} Try.checked os 4 .any (Rows.repairPrefixSpec.pre6 enc Try.prog Try.f4 Rows.repairPrefixRow.domain false) (Rows.repairPrefixSpec.post enc Try.prog Try.f4 false true false false) := by
  refine returnsInHanded_of_change_sized (C := Try.checked) own started (by kernel_rfl) Try.func4
    (ChangeSpec.witness6 (enc := enc) (C := Try.checked) false ⟨#[], #[.agg #[.int .i64 0, .int .i64 0, .int .i64 0, .slice none 0 0], .slice none 0 0], []⟩ 8 (by kernel_rfl) (by kernel_rfl) (by kernel_rfl) (by kernel_rfl)) ?_
  intro W base args ds gs before hval0 hW hcnd hsz0 _
  exact contract H enc W base args ds gs before hval0 hW hsz0
theorem over : Rows.repairPrefixRow.holds Try.pinned (OpenSpec.ofChange Rows.repairPrefixSpec) :=
  OpenClaim.holds_of_wide 4 Try.f4 rfl rfl rfl rfl rfl rfl rfl ⟨rfl, rfl, rfl, rfl, rfl⟩ rfl rfl rfl rfl rfl (by kernel_rfl) Try.func4 (by kernel_rfl)
    (of_decide_eq_true (by kernel_rfl)) (by unfold Func.isWrapper; first | (rw [if_pos (by decide +kernel)]; kernel_rfl) | (rw [if_neg (by decide +kernel)]; exact ⟨rfl, rfl⟩))
    (fun os started H enc _ => lifted os started H enc)
end Go.Proofs.Ytjpmebppdcclbaa.RowRepairPrefix
namespace Go.Proofs.Ytjpmebppdcclbaa
theorem repairPrefix_holds : Rows.RepairPrefixSaid := RowRepairPrefix.over
#print axioms repairPrefix_holds
end Go.Proofs.Ytjpmebppdcclbaa
