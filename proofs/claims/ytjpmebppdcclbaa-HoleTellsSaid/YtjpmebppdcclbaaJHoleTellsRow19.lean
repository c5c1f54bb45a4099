/- parllaw4.nexts. The fixed call of hole.Next, in plain Lean: before the first cell of the grammar of pairs. The function values of parlref4.Begins. parlref4.Begins. -/
import Derived.Test.YtjpmebppdcclbaaJHoleTellsRow18
import Derived.Test.YtjpmebppdcclbaaJHoleTellsRow2
import Derived.Test.YtjpmebppdcclbaaJHoleTellsRow9
import Derived.Test.YtjpmebppdcclbaaJHoleTellsRow17
import Derived.Test.YtjpmebppdcclbaaJHoleTellsRow8
namespace Go.Proofs.Ytjpmebppdcclbaa
open Go.RowKit
namespace Ho
open Rp Hl Al
open Ht hiding D
theorem symC_app : ∀ (l : List Sym) (s : Sym), symC (l ++ [s]) = symC l ++ [.bool s.term, .int .i64 s.n]
  | [], s => rfl
  | x :: l, s => by simp [symC, symC_app l s]
def SO (B : Nat) (v : Value) (l : List Sym) (w : World) : Prop := w.ownsRow B 44 2 v l.length (symC l)
theorem SO.rd {B : Nat} {v : Value} {l : List Sym} {w : World} (h : SO B v l w) : Rd AnyB w (.sl (l.map Sym.d)) [v] :=
  rd_of_own (S := AnyB) h (rd_symC _ _ l) (by simp) (fun _ _ => trivial)
theorem cloneSO (l : List Sym) (a : Option Addr) (c : Nat) (w : World) (h : Rd AnyB w (.sl (l.map Sym.d)) [.slice a l.length c]) (hb : l.length ≤ 1000) :
    Calls Try.prog 65 #[.slice a l.length c] w fun e w' => ∃ a c, e = .returned (.slice a l.length c) ∧ SO w.heap.size (.slice a l.length c) l w' ∧ Below w.heap.size w w' := by
  refine (cloneRow l a c w h hb).mono ?_
  rintro e w' ⟨a', c', rfl, ⟨⟨xs, h1, h2⟩, h3⟩, h4⟩
  rw [List.length_map] at h1
  obtain rfl := symC_rd h2
  exact ⟨a', c', rfl, h1, h4⟩
def btL (bt : Nat → Bool) (t : Nat) : List Bool := (List.range t).map bt
theorem btL_succ (bt : Nat → Bool) (t : Nat) : btL bt (t + 1) = btL bt t ++ [bt t] := by
  unfold btL
  rw [List.range_succ, List.map_append]; rfl
def NextsM (bs : List Bool) (full : Prop) (v : Value) (z : Int) (w' : World) : Prop := (full → v = .slice none 0 0 ∧ z = 2) ∧ (¬ full → NextM bs v z w')
def NextsPost (bs : List Bool) (full : Prop) (W : World) (e : Ending) (w' : World) : Prop :=
  ∃ (v : Value) (z : Int), e = .returned (.tuple #[v, .int .i64 z]) ∧ Below W.heap.size W w' ∧ NextsM bs full v z w'
section
variable (g : Gram) (l : List Sym) (ga : Option Addr) (gc : Nat) (la : Option Addr) (lk : Nat) (W : World) (hrl : Rd AnyB W (.sl (l.map Sym.d)) [.slice la l.length lk])
include hrl
set_option maxHeartbeats 16000000 in
set_option maxRecDepth 100000 in
theorem nextsE {tm : Nat} (hl12 : l.length ≤ 12) (htm : g.terms = (tm : Int)) (htm8 : tm ≤ 8) (bt : Nat → Bool) (o : Option Val)
    (hbe : ∀ (W' : World) (t : Nat) a c, t < tm → Below W.heap.size W W' → Rd AnyB W' (.sl ((l ++ [(⟨true, (t : Int)⟩ : Sym)]).map Sym.d)) [.slice a (l.length + 1) c] → Calls Try.prog 49 #[.agg #[.int .i64 g.terms, .int .i64 g.nons, .int .i64 g.start, .slice ga g.rules.length gc], .slice a (l.length + 1) c] W' fun e w' => e = .returned (.bool (bt t)) ∧ Below W'.heap.size W' w')
    (hco : ∀ (W' : World), Below W.heap.size W W' → Calls Try.prog 21 #[.agg #[.int .i64 g.terms, .int .i64 g.nons, .int .i64 g.start, .slice ga g.rules.length gc], .slice la l.length lk] W' fun e w' => ∃ x, e = .returned x ∧ VR (fun k => W'.heap.size ≤ k) w' x o ∧ Below W'.heap.size W' w') :
    Calls Try.prog 26 #[.agg #[.int .i64 g.terms, .int .i64 g.nons, .int .i64 g.start, .slice ga g.rules.length gc], .slice la l.length lk] W (NextsPost (btL bt tm ++ [o.isSome]) (l.length = 12) W) := by
  obtain ⟨w0, HW0⟩ := nameIt (W.alloc (.cells #[.int .i64 g.terms, .int .i64 g.nons, .int .i64 g.start, .slice ga g.rules.length gc] 24))
  have hb0 : Below W.heap.size W w0 := by rw [← HW0.out]; exact (Below.refl _ _).alloc (Nat.le_refl _) _
  have X0 : Hid (w0.heap[W.heap.size]? = some (.cells #[.int .i64 g.terms, .int .i64 g.nons, .int .i64 g.start, .slice ga g.rules.length gc] 24 (0, 0))) := by rw [← HW0.out]; exact bx_new _ _ _ rfl
  have HB0 := Lib.hid hb0
  have HRL := Lib.hid (hrl.below hb0)
  obtain ⟨PST, HP⟩ := nameIt (NextsPost (btL bt tm ++ [o.isSome]) (l.length = 12) W)
  have HFF : Hid (∀ w', l.length = 12 → Below w0.heap.size w0 w' → PST (.returned (.tuple #[.slice none 0 0, .int .i64 2])) w') := by
    intro w' h1 h2
    rw [← HP.out]
    refine ⟨.slice none 0 0, 2, rfl, hb0.trans (h2.mono hb0.size), ?_⟩
    unfold NextsM
    exact ⟨fun _ => ⟨rfl, rfl⟩, fun h => absurd h1 h⟩
  obtain ⟨BS, HBS⟩ := nameIt (btL bt tm ++ [o.isSome])
  rw [HBS.out] at HP
  have HFG : Hid (∀ v z w', ¬ l.length = 12 → NextM BS v z w' → Below w0.heap.size w0 w' → PST (.returned (.tuple #[v, .int .i64 z])) w') := by
    intro v z w' h1 h2 h3
    rw [← HP.out]
    refine ⟨v, z, rfl, hb0.trans (h3.mono hb0.size), ?_⟩
    unfold NextsM
    exact ⟨fun h => absurd h h1, fun _ => h2⟩
  rw [HBS.out, HP.out]
  have HBE := Lib.hid hbe
  have HCO := Lib.hid hco
  obtain ⟨gt, HGT⟩ := nameIt g.terms
  have hgt : gt = (tm : Int) := by rw [← HGT.out]; exact htm
  obtain ⟨gn, HGN⟩ := nameIt g.nons
  obtain ⟨gs, HGS⟩ := nameIt g.start
  obtain ⟨kn, HKN⟩ := nameIt g.rules.length
  have hcl := fun W' (hb : Below w0.heap.size w0 W') => cloneSO l la lk W' ((hrl.below hb0).below hb) (by omega)
  obtain ⟨n, HN⟩ := nameIt l.length
  rw [HGT.out, hgt, HGN.out, HGS.out, HKN.out] at HW0 X0 HBE HCO
  rw [HGT.out, hgt, HGN.out, HGS.out, HKN.out, HN.out]
  rw [HN.out] at HBE HCO hl12 hcl HFF HFG
  have HCL := Lib.hid hcl
  clear hgt
  have HG0 : Hid (∀ w', Below w0.heap.size w0 w' → w'.cell? ⟨W.heap.size, 0, none⟩ = some (.int .i64 (tm : Int)) ∧ w'.cell? ⟨W.heap.size, 0 + 1, none⟩ = some (.int .i64 gn) ∧ w'.cell? ⟨W.heap.size, 0 + 2, none⟩ = some (.int .i64 gs) ∧ w'.cell? ⟨W.heap.size, 0 + 3, none⟩ = some (.slice ga kn gc)) := by
    intro w' hb'
    exact bx_cells4 (bx_keep X0.out hb')
  obtain ⟨x0, x1, x2, x3⟩ := HG0.out w0 (Below.refl _ _)
  clear hb0 hrl htm HP hbe hco hcl
  go_enter Try.func26, Try.ntmps26
  go_upto_region 1 with fail
  rw [HW0.out]
  clear HW0
  by_cases h12 : n = 12
  · have e12 : ((n : Int) == 12) = true := by rw [h12]; rfl
    have HE := Lib.hid (HFF.out w0 h12 (Below.refl _ _))
    clear h12 x0 x1 x2 x3
    go_wp2_with fail
    first | exact HE.out | exact bodyPost_ret (results_tmp2 Try.results26 _ _ _) rfl HE.out
  · have e12 : ((n : Int) == 12) = false := by rw [beq_eq_false_iff_ne]; omega
    have HN12 := Lib.hid h12
    have HO0 : Hid (w0.ownsRow w0.heap.size 4 1 (.slice none 0 0) 0 (bls (btL bt 0))) := World.ownsRow_nil _ _ _ _
    clear h12
    go_wp2_with fail
    go_loopg [6, 7, 13] tm (fun gg v6 v7 v13 wr => ∃ t : Nat, t ≤ tm ∧ tm - t ≤ gg ∧ v13 = .int .i64 (t : Int) ∧ Hid (Below w0.heap.size w0 wr) ∧ Hid (wr.ownsRow w0.heap.size 4 1 v6 t (bls (btL bt t))))
    case atStart => exact ⟨0, by omega, by omega, rfl, Below.refl _ _, HO0⟩
    case round =>
      clear HO0 x0 x1 x2 x3
      obtain ⟨t, ht, hgg, rfl, HBW, HO⟩ := hrel
      obtain ⟨wi, rfl⟩ : ∃ ww : World, ww = wr := ⟨_, rfl⟩
      obtain ⟨a6, c6, rfl, -, -⟩ := own_len HO.out
      by_cases htm : t < tm
      · have htm' : (t : Int) < (tm : Int) := by omega
        have HSX : Hid (∀ w', Below wi.heap.size wi w' → (fun w' : World => w'.cell? ⟨W.heap.size, 0, none⟩ = some (.int .i64 (tm : Int)) ∧ w'.cell? ⟨W.heap.size, 0 + 1, none⟩ = some (.int .i64 gn) ∧ w'.cell? ⟨W.heap.size, 0 + 2, none⟩ = some (.int .i64 gs) ∧ w'.cell? ⟨W.heap.size, 0 + 3, none⟩ = some (.slice ga kn gc)) w') := fun w' hb => HG0.out w' (HBW.out.trans (hb.mono HBW.out.size))
        have HSG : Hid (∀ w' (row : Option Nat) w2, Below wi.heap.size wi w' → w'.grownBy w2 row → (∀ q, row = some q → w0.heap.size ≤ q) → (fun w' : World => w'.cell? ⟨W.heap.size, 0, none⟩ = some (.int .i64 (tm : Int)) ∧ w'.cell? ⟨W.heap.size, 0 + 1, none⟩ = some (.int .i64 gn) ∧ w'.cell? ⟨W.heap.size, 0 + 2, none⟩ = some (.int .i64 gs) ∧ w'.cell? ⟨W.heap.size, 0 + 3, none⟩ = some (.slice ga kn gc)) w2) := fun w' row w2 hb hg hq => HG0.out w2 ((HBW.out.trans (hb.mono HBW.out.size)).grown hg (by have := HBW.out.size; have := hb.size; omega) hq)
        have hsucc := btL_succ bt t
        have hbe := fun (W' : World) a c hb hr => HBE.out W' t a c htm hb hr
        obtain ⟨b, HBN⟩ := nameIt (bt t)
        rw [HBN.out] at hsucc
        simp only [HBN.out] at hbe
        have HSU := Lib.hid hsucc
        have HBF := Lib.hid hbe
        have HTT : Hid (t < tm) := htm
        clear hsucc hbe
        go_upto_region 7 with fail
        refine wp_region_U (S := (fun w' : World => w'.cell? ⟨W.heap.size, 0, none⟩ = some (.int .i64 (tm : Int)) ∧ w'.cell? ⟨W.heap.size, 0 + 1, none⟩ = some (.int .i64 gn) ∧ w'.cell? ⟨W.heap.size, 0 + 2, none⟩ = some (.int .i64 gs) ∧ w'.cell? ⟨W.heap.size, 0 + 3, none⟩ = some (.slice ga kn gc))) 10 (by kernel_rfl) (fun inv => ?_)
        refine wpU_take (i := 0) (v := .slice a6 t c6) rfl inv (by kernel_rfl) (by kernel_rfl) (by decide) (by decide) (by kernel_rfl) (by kernel_rfl) (by kernel_rfl) (fun _ _ _ h => h) (Or.inl ⟨by rfl, fun w' hw' => ?_⟩) (HSX.out _ (Below.refl _ _).drew) (fun inv => ?_)
        · obtain ⟨h0, h1, h2, h3⟩ := hw'
          go_simp
        try simp only [Act.put, List.setIfInBounds_toArray, List.set_cons_zero, List.set_cons_succ]
        refine wpU_take (i := 1) (v := .agg #[.int .i64 (tm : Int), .int .i64 gn, .int .i64 gs, .slice ga kn gc]) rfl inv (by kernel_rfl) (by kernel_rfl) (by decide) (by decide) (by kernel_rfl) (by kernel_rfl) (by kernel_rfl) (fun _ _ _ h => h) (Or.inl ⟨by rfl, fun w' hw' => ?_⟩) (HSX.out _ (Below.refl _ _).drew) (fun inv => ?_)
        · obtain ⟨h0, h1, h2, h3⟩ := hw'
          go_simp
        try simp only [Act.put, List.setIfInBounds_toArray, List.set_cons_zero, List.set_cons_succ]
        refine wpU_take (i := 2) (v := .slice la n lk) rfl inv (by kernel_rfl) (by kernel_rfl) (by decide) (by decide) (by kernel_rfl) (by kernel_rfl) (by kernel_rfl) (fun _ _ _ h => h) (Or.inl ⟨by rfl, fun w' hw' => ?_⟩) (HSX.out _ (Below.refl _ _).drew) (fun inv => ?_)
        · obtain ⟨h0, h1, h2, h3⟩ := hw'
          go_simp
        try simp only [Act.put, List.setIfInBounds_toArray, List.set_cons_zero, List.set_cons_succ]
        refine wpU_take (i := 4) (v := .int .i64 (t : Int)) rfl inv (by kernel_rfl) (by kernel_rfl) (by decide) (by decide) (by kernel_rfl) (by kernel_rfl) (by kernel_rfl) (fun _ _ _ h => h) (Or.inl ⟨by rfl, fun w' hw' => ?_⟩) (HSX.out _ (Below.refl _ _).drew) (fun inv => ?_)
        · obtain ⟨h0, h1, h2, h3⟩ := hw'
          go_simp
        try simp only [Act.put, List.setIfInBounds_toArray, List.set_cons_zero, List.set_cons_succ]
        refine wpU_take (i := 5) (v := .agg #[.bool true, .int .i64 (t : Int)]) rfl inv (by kernel_rfl) (by kernel_rfl) (by decide) (by decide) (by kernel_rfl) (by kernel_rfl) (by kernel_rfl) (fun _ _ _ h => h) (Or.inl ⟨by rfl, fun w' hw' => ?_⟩) (HSX.out _ (Below.refl _ _).drew) (fun inv => ?_)
        · obtain ⟨h0, h1, h2, h3⟩ := hw'
          go_simp
        try simp only [Act.put, List.setIfInBounds_toArray, List.set_cons_zero, List.set_cons_succ]
        refine wpU_two (i := 3) (j := 6) (by kernel_rfl) rfl rfl (fun K hK => ?_) (fun K hK => ?_)
        · replace inv := inv_setc (i := 3) inv (by kernel_rfl) (by decide)
          go_simp
          refine (HCL.out _ (HBW.out.trans ((Below.refl _ _).drew.mono HBW.out.size))).mono ?_
          rintro e w4 ⟨ac, cc, rfl, hso, hb4⟩
          have HB4 : Hid (Below wi.heap.size wi w4) := (Below.refl _ _).drew.trans hb4
          have HSO4 : Hid (SO wi.heap.size (.slice ac n cc) l w4) := hso
          obtain ⟨w5, HW5⟩ := nameIt (w4.alloc (.cells #[.bool true, .int .i64 (t : Int)] 44))
          have hb5 : Below w4.heap.size w4 w5 := by rw [← HW5.out]; exact (Below.refl _ _).alloc (Nat.le_refl _) _
          have HQ5 : Hid (w5.heap[w4.heap.size]? = some (.cells #[.bool true, .int .i64 (t : Int)] 44 (0, 0))) := by rw [← HW5.out]; exact bx_new _ _ _ rfl
          have HB5 : Hid (Below wi.heap.size wi w5) := HB4.out.trans (hb5.mono HB4.out.size)
          have HSO5 : Hid (SO wi.heap.size (.slice ac n cc) l w5) := own_keep HSO4.out hb5
          have HQL : Hid (wi.heap.size ≤ w5.heap.size) := HB5.out.size
          obtain ⟨bq, HBQ⟩ := nameIt w4.heap.size
          rw [HBQ.out] at HQ5
          clear hso hb4 hb5
          refine hK.out _ _ (fun _ => HSX.out _ HB4.out) ?_
          clear hK K
          try simp only [Act.put, List.setIfInBounds_toArray, List.set_cons_zero, List.set_cons_succ]
          refine wpU_one (i := 6) (by kernel_rfl) rfl (fun K hK => ?_)
          replace inv := inv_setc (i := 6) inv (by kernel_rfl) (by decide)
          go_simp
          rw [HW5.out, HBQ.out]
          refine hK.out _ _ (fun _ => HSX.out _ HB5.out) ?_
          clear hK K
          try simp only [Act.put, List.setIfInBounds_toArray, List.set_cons_zero, List.set_cons_succ]
          refine wpU_one (i := 7) (by kernel_rfl) rfl (fun K hK => ?_)
          replace inv := inv_setc (i := 7) inv (by kernel_rfl) (by decide)
          refine step_appB elSym rfl _ _ rfl (by have h := HSO5.out; unfold SO at h; rw [HN.out] at h; exact h) rfl rfl HQ5.out rfl rfl (by omega) (by unfold maxLen; omega) HQL.out ?_
          intro g6 cap6 w6 ho6 hg6 hat6 hlt6
          have HSO6 : Hid (SO wi.heap.size (.slice (some ⟨g6, 0, none⟩) (n + 1) cap6) (l ++ [⟨true, (t : Int)⟩]) w6) := by
            show w6.ownsRow _ _ _ _ _ _
            rw [symC_app, List.length_append, HN.out]
            exact ho6
          have HB6 : Hid (Below wi.heap.size wi w6) := HB5.out.grown hg6 HB5.out.size (fun q e => (World.ownsRow.lt HSO5.out q e).1)
          clear ho6 hg6 hat6 hlt6
          refine hK.out _ _ (fun _ => HSX.out _ HB6.out) ?_
          clear hK K
          try simp only [Act.put, List.setIfInBounds_toArray, List.set_cons_zero, List.set_cons_succ]
          refine wpU_one (i := 8) (by kernel_rfl) rfl (fun K hK => ?_)
          replace inv := inv_setc (i := 8) inv (by kernel_rfl) (by decide)
          go_simp
          refine (HBF.out w6 (some ⟨g6, 0, none⟩) cap6 ((HB0.out.trans (HBW.out.mono HB0.out.size)).trans (HB6.out.mono (by have := HBW.out.size; have := HB0.out.size; omega))) HSO6.out.rd).mono ?_
          rintro e w7 ⟨rfl, hb7⟩
          have HB7 : Hid (Below wi.heap.size wi w7) := HB6.out.trans (hb7.mono HB6.out.size)
          have HO7 : Hid (w7.ownsRow w0.heap.size 4 1 (.slice a6 t c6) t (bls (btL bt t))) := own_keep HO.out HB7.out
          clear hb7
          refine hK.out _ _ (fun _ => HSX.out _ HB7.out) ?_
          clear hK K
          try simp only [Act.put, List.setIfInBounds_toArray, List.set_cons_zero, List.set_cons_succ]
          refine wpU_one (i := 9) (by kernel_rfl) rfl (fun K hK => ?_)
          replace inv := inv_setc (i := 9) inv (by kernel_rfl) (by decide)
          go_simp
          have HX8 : Hid ((w7.alloc (.cells #[.bool b] 4)).heap[w7.heap.size]? = some (.cells #[.bool b] 4 (0, 0))) := bx_new _ _ _ rfl
          have HB8 : Hid (Below wi.heap.size wi (w7.alloc (.cells #[.bool b] 4))) := HB7.out.alloc HB7.out.size _
          have HO8 : Hid ((w7.alloc (.cells #[.bool b] 4)).ownsRow w0.heap.size 4 1 (.slice a6 t c6) t (bls (btL bt t))) := own_keep HO.out HB8.out
          obtain ⟨w8, HW8⟩ := nameIt (w7.alloc (.cells #[.bool b] 4))
          rw [HW8.out] at HX8 HB8 HO8
          rw [HW8.out]
          obtain ⟨q8, HQ8⟩ := nameIt w7.heap.size
          rw [HQ8.out] at HX8
          rw [HQ8.out]
          clear HW8
          refine hK.out _ _ (fun _ => HSX.out _ HB8.out) ?_
          clear hK K
          try simp only [Act.put, List.setIfInBounds_toArray, List.set_cons_zero, List.set_cons_succ]
          refine wpU_one (i := 10) (by kernel_rfl) rfl (fun K hK => ?_)
          refine step_appB elBl rfl _ _ rfl HO8.out rfl rfl HX8.out rfl rfl (by omega) (by unfold maxLen; omega) (by have := HBW.out.size; have := HB8.out.size; omega) ?_
          intro g9 cap9 w9 ho9 hg9 hat9 hlt9
          have HB9 : Hid (Below w0.heap.size w0 w9) := (HBW.out.trans (HB8.out.mono HBW.out.size)).grown hg9 (by have := HBW.out.size; have := HB8.out.size; omega) (fun q e => (HO8.out.lt q e).1)
          have HO9 : Hid (w9.ownsRow w0.heap.size 4 1 (.slice (some ⟨g9, 0, none⟩) (t + 1) cap9) (t + 1) (bls (btL bt (t + 1)))) := by
            rw [HSU.out]
            unfold bls at ho9 ⊢
            rw [List.map_append]
            exact ho9
          clear ho9 hg9 hat9 hlt9
          refine hK.out _ _ (fun h => absurd (show true = false from h) (by decide)) ?_
          clear hK K
          try simp only [Act.put, List.setIfInBounds_toArray, List.set_cons_zero, List.set_cons_succ]
          refine wpU_one (i := 11) (by kernel_rfl) rfl (fun K hK => ?_)
          go_simp
          refine hK.out _ _ (fun h => absurd (show true = false from h) (by decide)) ?_
          clear hK K
          try simp only [Act.put, List.setIfInBounds_toArray, List.set_cons_zero, List.set_cons_succ]
          refine wpU_done (by kernel_rfl) ?_ _
          go_wp2_with fail
          go_roundg (tm - (t + 1))
          case measure => omega
          case rel => exact ⟨t + 1, by omega, by omega, by go_num, HB9, HO9⟩
        · replace inv := inv_setc (i := 6) inv (by kernel_rfl) (by decide)
          go_simp
          obtain ⟨w4, HW4⟩ := nameIt (wi.alloc (.cells #[.bool true, .int .i64 (t : Int)] 44)).drew
          have hb4 : Below wi.heap.size wi w4 := by rw [← HW4.out]; exact ((Below.refl _ _).alloc (Nat.le_refl _) _).drew
          have HQ4 : Hid (w4.heap[wi.heap.size]? = some (.cells #[.bool true, .int .i64 (t : Int)] 44 (0, 0))) := by rw [← HW4.out]; exact bx_new _ _ _ rfl
          have HB4 := Lib.hid hb4
          rw [HW4.out]
          obtain ⟨bq, HBQ⟩ := nameIt wi.heap.size
          rw [HBQ.out] at HQ4
          first | rw [HBQ.out] | skip
          clear hb4 HW4
          refine hK.out _ _ (fun _ => HSX.out _ HB4.out) ?_
          clear hK K
          try simp only [Act.put, List.setIfInBounds_toArray, List.set_cons_zero, List.set_cons_succ]
          refine wpU_one (i := 3) (by kernel_rfl) rfl (fun K hK => ?_)
          replace inv := inv_setc (i := 3) inv (by kernel_rfl) (by decide)
          go_simp
          refine (HCL.out _ (HBW.out.trans (HB4.out.mono HBW.out.size))).mono ?_
          rintro e w5 ⟨ac, cc, rfl, hso, hb5⟩
          have HB5 : Hid (Below wi.heap.size wi w5) := HB4.out.trans (hb5.mono HB4.out.size)
          have HSO5 : Hid (SO wi.heap.size (.slice ac n cc) l w5) := World.ownsRow.mono hso HB4.out.size
          have HQ5 := Lib.hid (bx_keep HQ4.out hb5)
          have HQL : Hid (wi.heap.size ≤ w5.heap.size) := HB5.out.size
          clear hso hb5
          refine hK.out _ _ (fun _ => HSX.out _ HB5.out) ?_
          clear hK K
          try simp only [Act.put, List.setIfInBounds_toArray, List.set_cons_zero, List.set_cons_succ]
          refine wpU_one (i := 7) (by kernel_rfl) rfl (fun K hK => ?_)
          replace inv := inv_setc (i := 7) inv (by kernel_rfl) (by decide)
          refine step_appB elSym rfl _ _ rfl (by have h := HSO5.out; unfold SO at h; rw [HN.out] at h; exact h) rfl rfl HQ5.out rfl rfl (by omega) (by unfold maxLen; omega) HQL.out ?_
          intro g6 cap6 w6 ho6 hg6 hat6 hlt6
          have HSO6 : Hid (SO wi.heap.size (.slice (some ⟨g6, 0, none⟩) (n + 1) cap6) (l ++ [⟨true, (t : Int)⟩]) w6) := by
            show w6.ownsRow _ _ _ _ _ _
            rw [symC_app, List.length_append, HN.out]
            exact ho6
          have HB6 : Hid (Below wi.heap.size wi w6) := HB5.out.grown hg6 HB5.out.size (fun q e => (World.ownsRow.lt HSO5.out q e).1)
          clear ho6 hg6 hat6 hlt6
          refine hK.out _ _ (fun _ => HSX.out _ HB6.out) ?_
          clear hK K
          try simp only [Act.put, List.setIfInBounds_toArray, List.set_cons_zero, List.set_cons_succ]
          refine wpU_one (i := 8) (by kernel_rfl) rfl (fun K hK => ?_)
          replace inv := inv_setc (i := 8) inv (by kernel_rfl) (by decide)
          go_simp
          refine (HBF.out w6 (some ⟨g6, 0, none⟩) cap6 ((HB0.out.trans (HBW.out.mono HB0.out.size)).trans (HB6.out.mono (by have := HBW.out.size; have := HB0.out.size; omega))) HSO6.out.rd).mono ?_
          rintro e w7 ⟨rfl, hb7⟩
          have HB7 : Hid (Below wi.heap.size wi w7) := HB6.out.trans (hb7.mono HB6.out.size)
          have HO7 : Hid (w7.ownsRow w0.heap.size 4 1 (.slice a6 t c6) t (bls (btL bt t))) := own_keep HO.out HB7.out
          clear hb7
          refine hK.out _ _ (fun _ => HSX.out _ HB7.out) ?_
          clear hK K
          try simp only [Act.put, List.setIfInBounds_toArray, List.set_cons_zero, List.set_cons_succ]
          refine wpU_one (i := 9) (by kernel_rfl) rfl (fun K hK => ?_)
          replace inv := inv_setc (i := 9) inv (by kernel_rfl) (by decide)
          go_simp
          have HX8 : Hid ((w7.alloc (.cells #[.bool b] 4)).heap[w7.heap.size]? = some (.cells #[.bool b] 4 (0, 0))) := bx_new _ _ _ rfl
          have HB8 : Hid (Below wi.heap.size wi (w7.alloc (.cells #[.bool b] 4))) := HB7.out.alloc HB7.out.size _
          have HO8 : Hid ((w7.alloc (.cells #[.bool b] 4)).ownsRow w0.heap.size 4 1 (.slice a6 t c6) t (bls (btL bt t))) := own_keep HO.out HB8.out
          obtain ⟨w8, HW8⟩ := nameIt (w7.alloc (.cells #[.bool b] 4))
          rw [HW8.out] at HX8 HB8 HO8
          rw [HW8.out]
          obtain ⟨q8, HQ8⟩ := nameIt w7.heap.size
          rw [HQ8.out] at HX8
          rw [HQ8.out]
          clear HW8
          refine hK.out _ _ (fun _ => HSX.out _ HB8.out) ?_
          clear hK K
          try simp only [Act.put, List.setIfInBounds_toArray, List.set_cons_zero, List.set_cons_succ]
          refine wpU_one (i := 10) (by kernel_rfl) rfl (fun K hK => ?_)
          refine step_appB elBl rfl _ _ rfl HO8.out rfl rfl HX8.out rfl rfl (by omega) (by unfold maxLen; omega) (by have := HBW.out.size; have := HB8.out.size; omega) ?_
          intro g9 cap9 w9 ho9 hg9 hat9 hlt9
          have HB9 : Hid (Below w0.heap.size w0 w9) := (HBW.out.trans (HB8.out.mono HBW.out.size)).grown hg9 (by have := HBW.out.size; have := HB8.out.size; omega) (fun q e => (HO8.out.lt q e).1)
          have HO9 : Hid (w9.ownsRow w0.heap.size 4 1 (.slice (some ⟨g9, 0, none⟩) (t + 1) cap9) (t + 1) (bls (btL bt (t + 1)))) := by
            rw [HSU.out]
            unfold bls at ho9 ⊢
            rw [List.map_append]
            exact ho9
          clear ho9 hg9 hat9 hlt9
          refine hK.out _ _ (fun h => absurd (show true = false from h) (by decide)) ?_
          clear hK K
          try simp only [Act.put, List.setIfInBounds_toArray, List.set_cons_zero, List.set_cons_succ]
          refine wpU_one (i := 11) (by kernel_rfl) rfl (fun K hK => ?_)
          go_simp
          refine hK.out _ _ (fun h => absurd (show true = false from h) (by decide)) ?_
          clear hK K
          try simp only [Act.put, List.setIfInBounds_toArray, List.set_cons_zero, List.set_cons_succ]
          refine wpU_done (by kernel_rfl) ?_ _
          go_wp2_with fail
          go_roundg (tm - (t + 1))
          case measure => omega
          case rel => exact ⟨t + 1, by omega, by omega, by go_num, HB9, HO9⟩
      · have htm' : ¬ (t : Int) < (tm : Int) := by omega
        obtain rfl : t = tm := by omega
        obtain ⟨x0, x1, x2, x3⟩ := HG0.out wi HBW.out
        have HCC := Lib.hid (HCO.out wi (HB0.out.trans (HBW.out.mono HB0.out.size)))
        obtain ⟨ob, HOB⟩ := nameIt o.isSome
        rw [HOB.out] at HBS
        go_wp2_with fail
        refine HCC.out.mono ?_
        clear x0 x1 x2 x3
        rintro e w6 ⟨x, rfl, hx, hb6⟩
        obtain ⟨xa, xm, xk, rfl, -⟩ := vr_form hx
        rw [HOB.out]
        obtain ⟨oc, HOCN⟩ := nameIt (oC o)
        obtain ⟨on, HONN⟩ := nameIt (oN o)
        rw [HOCN.out, HONN.out]
        have hwf := valField ob (oc : Int) (on : Int) (.slice xa xm xk) w6
        have HO6 := Lib.hid (own_keep HO.out hb6)
        have HB6 : Hid (Below w0.heap.size w0 w6) := HBW.out.trans (hb6.mono HBW.out.size)
        have hsz := HB6.out.size
        clear hx hb6
        go_wp2_with (at_builtin; refine wp_app1 elBl rfl _ _ rfl HO6.out rfl rfl rfl rfl (by omega) (by unfold maxLen; omega) hsz ?_)
        intro v7 w7 ho7 hg7
        obtain ⟨a7, c7, rfl, -, -⟩ := own_len ho7
        have HO7 : Hid (w7.ownsRow w0.heap.size 4 1 (.slice a7 (t + 1) c7) (t + 1) (bls BS)) := by
          rw [← HBS.out]
          unfold bls at ho7 ⊢
          rw [List.map_append]
          exact ho7
        have HB7 : Hid (Below w0.heap.size w0 w7) := HB6.out.grown hg7 hsz (fun q e => (HO6.out.lt q e).1)
        have HSL := Lib.hid (sl_of_own HO7.out)
        have HCT := Lib.hid (containsB BS _ w7 HSL.out)
        have HNM : Hid (∀ v z w', NextM BS v z w' = if (BS.any fun x => x) = true then Sl w' v (bls BS) ∧ z = 0 else v = .slice none 0 0 ∧ z = 10) := fun _ _ _ => rfl
        obtain ⟨ba, HBA⟩ := nameIt (BS.any fun x => x)
        rw [HBA.out] at HCT
        simp only [HBA.out] at HNM
        clear ho7 hg7 hwf
        go_wp2_with fail
        refine HCT.out.mono ?_
        rintro e w20 ⟨rfl, hb20⟩
        have HBZ : Hid (Below w0.heap.size w0 w20) := HB7.out.trans (hb20.mono HB7.out.size)
        cases ba with
        | true =>
          have HE := Lib.hid (HFG.out (.slice a7 (t + 1) c7) 0 w20 HN12.out (by rw [HNM.out, if_pos rfl]; exact ⟨HSL.out.keep hb20, rfl⟩) HBZ.out)
          clear hb20
          go_wp2_with fail
          first | exact HE.out | exact bodyPost_ret (results_tmp2 Try.results26 _ _ _) rfl HE.out
        | false =>
          have HE := Lib.hid (HFG.out (.slice none 0 0) 10 w20 HN12.out (by rw [HNM.out, if_neg (by decide)]; exact ⟨rfl, rfl⟩) HBZ.out)
          clear hb20
          go_wp2_with fail
          first | exact HE.out | exact bodyPost_ret (results_tmp2 Try.results26 _ _ _) rfl HE.out
end
end Ho
end Go.Proofs.Ytjpmebppdcclbaa
namespace Go.Proofs.Ytjpmebppdcclbaa
namespace Ht
open Rp Hl
theorem p_mem {r : Rule} (h : r ∈ pK) : r.left = 0 ∧ ∃ l, r.right = ⟨true, 0⟩ :: l ∧ l ≠ [] ∧ ∀ s ∈ r.right, s.term = true ∨ s = ⟨false, 0⟩ := by
  simp [pK] at h
  rcases h with rfl | rfl
  · exact ⟨rfl, _, rfl, by simp, by simp⟩
  · exact ⟨rfl, _, rfl, by simp, by simp⟩
theorem p_hw : hwOf pK 1 2 ⟨false, 0⟩ = true := by
  unfold hwOf svOf
  rw [← oneV_eq (gokS 1 2) pVO0 pCl0 ⟨false, 0⟩ (Nat.le_refl 0) (Nat.le_refl 0)]
  rfl
theorem p_kw : KW pK (hwOf pK 1 2) = pK := by
  unfold KW
  rw [List.filter_eq_self]
  intro r hr
  rw [List.all_eq_true]
  intro s hs
  obtain ⟨_, _, _, _, h⟩ := p_mem hr
  unfold hwS
  rcases h s hs with h | h
  · rw [h]; rfl
  · rw [h, p_hw]; rfl
theorem p_dx {hw : Sym → Bool} : ∀ {h : Nat} {s : Sym} {j : Nat}, ¬ D pK (lfB hw 1 []) h s 0 j := by
  intro h
  induction h with
  | zero => intro s j hd; have := hd.2.1; simp at this
  | succ h ih =>
    intro s j hd
    rcases hd with hd | ⟨_, r, hr, _, h4⟩
    · have := hd.2.1; simp at this
    · obtain ⟨_, l, e, _⟩ := p_mem hr
      rw [e] at h4
      obtain ⟨m, _, _, h5, _⟩ := h4
      exact ih h5
theorem p_it (t : Nat) : It (KW pK (hwOf pK 1 2)) (lfB (hwOf pK 1 2) 1 []) 0 0 (t : Int) ↔ t = 0 := by
  rw [p_kw]
  constructor
  · rintro ⟨r, hr, d, f, hp, h0, hd⟩
    have hf := R0.le (fun s i j hp => Dx.le hp) h0
    obtain rfl : f = 0 := by omega
    obtain ⟨_, l, e, _⟩ := p_mem hr
    cases d with
    | zero =>
      rw [e] at hd
      simp at hd
      omega
    | succ d =>
      rw [e, List.take_succ_cons] at h0
      obtain ⟨m, _, _, ⟨k, hk⟩, _⟩ := h0
      exact absurd hk p_dx
  · rintro rfl
    exact ⟨⟨0, [⟨true, 0⟩, ⟨true, 1⟩]⟩, by simp [pK], 0, 0, .start, rfl, rfl⟩
theorem p_lf {sv : Sym → Option Val} {y : Sym} {i j : Nat} : leafH sv [] y i j = none := by
  unfold leafH
  rw [if_neg (by simp)]
theorem p_row {l : List Sym} {i j : Nat} {v : Val} (hne : l ≠ []) : ¬ Row (fun s i j v => clV 0 (fun _ _ _ => (none : Option Val)) s i j = some v) l i j v := by
  have hno : ∀ s i j v, ¬ clV 0 (fun _ _ _ => (none : Option Val)) s i j = some v := by
    intro s i j v e
    unfold clV at e
    split at e <;> cases e
  match l, hne with
  | [s], _ => exact hno _ _ _ _
  | s :: t :: l, _ => rintro ⟨m, a, b, _, _, h, _⟩; exact hno _ _ _ _ h
theorem p_cv : cvOf (svOf pK 1 2) [] pK 1 2 ⟨false, ((0 : Nat) : Int)⟩ 0 0 = none := by
  unfold cvOf
  have hs : SvOk 1 2 1048576 (svOf pK 1 2) := by
    obtain ⟨T, h1, h2, h3⟩ := sh_ex (K := pK) (N := 1) (tm := 2) (by omega) pKG (by decide)
    exact svOk (by omega) h1 h2 h3
  have := oneV_eq (gokH (l := []) hs) (K := pK) (V := fun _ _ _ => none) ⟨(fun s i j v e => by cases e), (fun s i j v _ _ e => by cases e)⟩ ⟨fun y i j v e => ?_, fun r hr h => ?_, fun r hr i j v h => ?_⟩ ⟨false, ((0 : Nat) : Int)⟩ (Nat.le_refl 0) (Nat.le_refl 0)
  · exact this.symm
  · exfalso
    unfold clL at e
    rw [p_lf] at e
    split at e <;> cases e
  · obtain ⟨_, l, e, _⟩ := p_mem hr
    rw [e] at h; cases h
  · obtain ⟨_, l, e, _⟩ := p_mem hr
    exact absurd h (p_row (by rw [e]; simp))
end Ht
end Go.Proofs.Ytjpmebppdcclbaa
namespace Go.Proofs.Ytjpmebppdcclbaa
open Go.RowKit
namespace Ho
open Rp Hl
open Ht hiding D
theorem eg86 : ∀ args w, (callFunc 86 args).run Try.prog w = .ok (.enter 86 args) w := fun _ _ => by kernel_rfl
theorem eg88 : ∀ args w, (callFunc 88 args).run Try.prog w = .ok (.enter 88 args) w := fun _ _ => by kernel_rfl
set_option maxHeartbeats 1000000 in
theorem empB (n : Nat) (P : Nat → Prop) (W : World) : EmpFn 88 #[] emH n P W := by
  intro W' i j hij hj hb
  show Calls _ _ #[.int .i64 (i : Nat), .int .i64 (j : Nat)] _ _
  obtain ⟨b, HB⟩ : ∃ b : Bool, Hid (b = ((i : Int) == (j : Int))) := ⟨_, rfl⟩
  have hq : ((i : Int) == (j : Int)) = b := HB.out.symm
  have HE : Hid (VR (fun k => P k ∨ W'.heap.size ≤ k) (W'.alloc (.cells #[.bool b, .int .i64 0, .int .i64 0, .slice none 0 0] 36)) (.agg #[.bool b, .int .i64 0, .int .i64 0, .slice none 0 0]) (emH i j)) := by
    unfold emH
    by_cases e : i = j
    · have : b = true := by rw [HB.out, e]; simp
      rw [if_pos e, this]
      exact ⟨_, rfl, rd_nil _ _⟩
    · have : b = false := by rw [HB.out]; simp; omega
      rw [if_neg e, this]
      exact VR.none _ _
  clear hij hj hb HB
  go_enter Try.func88, Try.ntmps88
  go_wp2
  refine bodyPost_ret (v := .agg #[.bool b, .int .i64 0, .int .i64 0, .slice none 0 0]) (by simp [results, Try.results88, go_sem]) rfl ?_
  exact ⟨_, rfl, HE.out, (Below.refl _ _).alloc (Nat.le_refl _) _⟩
def flB (l : List Sym) (y : Sym) (i j : Nat) : Bool := decide (j = i + 1) && fitB y (l.getD i ⟨true, 0⟩)
theorem leafB_eq {hw : Sym → Bool} {N : Nat} {l : List Sym} {y : Sym} {i j : Nat} (hj : j ≤ l.length) : leafB hw N l y i j = if flB l y i j && (y.term || decide ((N : Int) ≤ y.n) || hw y) then some zero else none := by
  unfold leafB flB
  by_cases h : j = i + 1 ∧ i < l.length ∧ fitB y (l.getD i ⟨true, 0⟩) = true ∧ (y.term = true ∨ (N : Int) ≤ y.n ∨ hw y = true)
  · rw [if_pos h, if_pos (by
      obtain ⟨h1, _, h3, h4⟩ := h
      simp only [Bool.and_eq_true, Bool.or_eq_true, decide_eq_true_eq]
      exact ⟨⟨h1, h3⟩, by rcases h4 with h | h | h <;> simp [h]⟩)]
  · rw [if_neg h, if_neg (fun h2 => h (by
      simp only [Bool.and_eq_true, Bool.or_eq_true, decide_eq_true_eq] at h2
      obtain ⟨⟨h1, h3⟩, h4⟩ := h2
      exact ⟨h1, by omega, h3, by rcases h4 with (h | h) | h <;> simp [h]⟩))]
set_option maxHeartbeats 4000000 in
set_option maxRecDepth 100000 in
theorem leaf1E (l : List Sym) (hl : l.length ≤ 13) (bl : Nat) (la : Option Addr) (lk : Nat) (W' : World) (y : Sym) (i j : Nat) (hij : i ≤ j) (hj : j ≤ l.length)
    (hbl : W'.heap[bl]? = some (.cells #[.slice la l.length lk] 47 (0, 0))) (hrl : Rd AnyB W' (.sl (l.map Sym.d)) [.slice la l.length lk]) :
    Calls Try.prog 85 #[.agg #[.bool y.term, .int .i64 y.n], .int .i64 (i : Nat), .int .i64 (j : Nat), .pointer (some ⟨bl, 0, none⟩)] W' fun e w' => e = .returned (.agg #[.bool (flB l y i j), .int .i64 0, .int .i64 0, .slice none 0 0]) ∧ Below W'.heap.size W' w' := by
  obtain ⟨w0, HW⟩ := nameIt ((W'.alloc (.cells #[.bool y.term, .int .i64 y.n] 44)).alloc (.cells #[.bool false, .int .i64 0, .int .i64 0, .slice none 0 0] 36))
  have hw0 : Below W'.heap.size W' w0 := by
    rw [← HW.out]
    exact ((Below.refl _ _).alloc (Nat.le_refl _) _).alloc (by simp) _
  have HY0 : Hid (w0.heap[W'.heap.size]? = some (.cells #[.bool y.term, .int .i64 y.n] 44 (0, 0))) := by
    rw [← HW.out]; exact bx_keep (bx_new _ _ _ rfl) ((Below.refl _ _).alloc (Nat.le_refl _) _)
  have HZ0 : Hid (w0.heap[W'.heap.size + 1]? = some (.cells #[.bool false, .int .i64 0, .int .i64 0, .slice none 0 0] 36 (0, 0))) := by
    rw [← HW.out]; exact bx_new _ _ _ (by simp)
  have HSZ : Hid (w0.heap.size = W'.heap.size + 1 + 1) := by show _ = _; rw [← HW.out]; simp
  have HB0 := Lib.hid hw0
  have HBL := Lib.hid (bx_keep hbl hw0)
  have HRL := Lib.hid (hrl.below hw0)
  obtain ⟨fl, HFL⟩ := nameIt (flB l y i j)
  rw [HFL.out]
  obtain ⟨PST, HPS⟩ := nameIt (fun (e : Ending) (w' : World) => e = .returned (.agg #[.bool fl, .int .i64 0, .int .i64 0, .slice none 0 0]) ∧ Below W'.heap.size W' w')
  rw [HPS.out]
  obtain ⟨yt, HYT⟩ := nameIt y.term
  obtain ⟨yn, HYN⟩ := nameIt y.n
  rw [HYT.out, HYN.out] at HY0 HW
  rw [HYT.out, HYN.out]
  have ey : y = ⟨yt, yn⟩ := by obtain ⟨a, b⟩ := y; rw [← HYT.out, ← HYN.out]
  have HFE : Hid (fl = (decide (j = i + 1) && fitB ⟨yt, yn⟩ (l.getD i ⟨true, 0⟩))) := by show _ = _; rw [← HFL.out, ey]; rfl
  obtain ⟨ln, HLN⟩ := nameIt l.length
  rw [HLN.out] at hj hl HBL HRL
  obtain ⟨i1, HI1⟩ := nameIt (i + 1)
  have hw1 : IntKind.i64.wrap ((i : Int) + 1) = (i1 : Int) := by have := HI1.out; rw [IntWalk.i64_in _ (by omega)]; omega
  have HEND : Hid (∀ w3, Below w0.heap.size w0 w3 → PST (.returned (.agg #[.bool fl, .int .i64 0, .int .i64 0, .slice none 0 0])) ((((w3.setCell ⟨W'.heap.size + 1, 0, none⟩ (.bool fl)).setCell ⟨W'.heap.size + 1, 0 + 1, none⟩ (.int .i64 0)).setCell ⟨W'.heap.size + 1, 0 + 2, none⟩ (.int .i64 0)).setCell ⟨W'.heap.size + 1, 0 + 3, none⟩ (.slice none 0 0))) := by
    intro w3 hb3
    have hg := grown_cell4 w3 (W'.heap.size + 1) (.bool fl) (.int .i64 0) (.int .i64 0) (.slice none 0 0)
    have hB : Below W'.heap.size W' w3 := HB0.out.trans (hb3.mono HB0.out.size)
    rw [← HPS.out]
    exact ⟨rfl, hB.grown hg hB.size (fun k e => by cases e; omega)⟩
  clear hw0 hbl hrl HPS ey
  by_cases he : j = i1
  · have hil : i < ln := by have := HI1.out; omega
    have hil' : (i : Int) < (ln : Int) := by omega
    have hilL : i < l.length := by rw [HLN.out]; exact hil
    obtain ⟨lb, lo, hla, -, -, q0, q1⟩ := (show Rd AnyB w0 (.sl (l.map Sym.d)) [.slice la ln lk] from HRL.out).sym_at hilL
    subst hla
    obtain ⟨⟨ct, cn⟩, HC⟩ := nameIt l[i]
    rw [HC.out] at q0 q1
    have hne : ((j : Int) == (i1 : Int)) = true := by simp; omega
    have hfl : fitB ⟨yt, yn⟩ ⟨ct, cn⟩ = fl := by
      have hg : l.getD i ⟨true, 0⟩ = ⟨ct, cn⟩ := by rw [List.getD_eq_getElem?_getD, List.getElem?_eq_getElem hilL]; exact HC.out
      rw [HFE.out, hg]
      simp [show j = i + 1 by rw [he]; exact HI1.out.symm]
    have HFT : Hid (∀ W2, Below w0.heap.size w0 W2 → Calls Try.prog 53 #[.agg #[.bool yt, .int .i64 yn], .agg #[.bool ct, .int .i64 cn]] W2 fun e w' => e = .returned (.bool fl) ∧ Below W2.heap.size W2 w') := by
      intro W2 _
      have := fitsE ⟨yt, yn⟩ ⟨ct, cn⟩ W2
      rw [hfl] at this
      exact this
    obtain ⟨y0, y1⟩ := bx_cells2 HY0.out
    have c0 := bx_cells1 HBL.out
    have i0 := aft_cell y0
    have i2 := aft_cell y1
    have i3 := aft_cell c0
    have i4 := aft_cell q0
    have i5 := aft_cell q1
    clear hfl HC y0 y1 c0 q0 q1
    go_enter Try.func85, Try.ntmps85
    go_upto_region 1 with fail
    rw [HW.out]
    clear HW
    refine wp_region_after_tail 13 (by kernel_rfl) (by kernel_rfl) ?_
    simp only [List.take_succ_cons, List.take_zero, List.drop_succ_cons, List.drop_zero]
    repeat (go_big_quiet_step (with_reducible exact Calls.after (HFT.out _ (Aft.bel _))))
    refine wpQuiet_nil ?_
    rintro w7 ⟨⟨_, hb7⟩, rfl⟩
    have HE := Lib.hid (HEND.out w7 hb7)
    obtain ⟨z0, z1, z2, z3⟩ := bx_cells4 (bx_keep HZ0.out hb7)
    obtain ⟨f0, f1, f2, f3⟩ := bx_free4 (bx_keep HZ0.out hb7)
    clear hb7 i0 i2 i3 i4 i5
    go_wp2_with fail
    exact bodyPost_ret (v := .agg #[.bool fl, .int .i64 0, .int .i64 0, .slice none 0 0]) (by simp [results, Try.results85, go_sem, z0, z1, z2, z3]) rfl HE.out
  · have hne : ((j : Int) == (i1 : Int)) = false := by simp; omega
    have hfl : fl = false := by
      rw [HFE.out]
      simp [show ¬ j = i + 1 from fun h => he (by rw [h]; exact HI1.out)]
    subst hfl
    go_enter Try.func85, Try.ntmps85
    go_upto_region 1 with fail
    rw [HW.out]
    clear HW
    have HFT : Hid (∀ W2, Below w0.heap.size w0 W2 → Calls Try.prog 53 #[.agg #[.bool yt, .int .i64 yn], .agg #[.bool true, .int .i64 0]] W2 fun e w' => e = .returned (.bool (fitB ⟨yt, yn⟩ ⟨true, 0⟩)) ∧ Below W2.heap.size W2 w') := fun W2 _ => fitsE ⟨yt, yn⟩ ⟨true, 0⟩ W2
    refine wp_region_after_tail 13 (by kernel_rfl) (by kernel_rfl) ?_
    simp only [List.take_succ_cons, List.take_zero, List.drop_succ_cons, List.drop_zero]
    repeat (go_big_quiet_step (with_reducible exact Calls.after (HFT.out _ (Aft.bel _))))
    refine wpQuiet_nil ?_
    rintro w7 ⟨⟨_, hb7⟩, rfl⟩
    have HE := Lib.hid (HEND.out w7 hb7)
    obtain ⟨z0, z1, z2, z3⟩ := bx_cells4 (bx_keep HZ0.out hb7)
    obtain ⟨f0, f1, f2, f3⟩ := bx_free4 (bx_keep HZ0.out hb7)
    clear hb7
    go_wp2_with fail
    exact bodyPost_ret (v := .agg #[.bool false, .int .i64 0, .int .i64 0, .slice none 0 0]) (by simp [results, Try.results85, go_sem, z0, z1, z2, z3]) rfl HE.out
theorem vr_zero (P : Nat → Prop) (W : World) (r : Bool) : VR P W (.agg #[.bool r, .int .i64 0, .int .i64 0, .slice none 0 0]) (if r then some zero else none) := by
  cases r with
  | true => exact ⟨_, rfl, rd_nil _ _⟩
  | false => exact VR.none _ _
set_option maxHeartbeats 8000000 in
set_option maxRecDepth 100000 in
theorem someE (fn : Nat) (fb : Array Value) (egf : ∀ args w, (callFunc fn args).run Try.prog w = .ok (.enter fn args) w) (sv : Sym → Option Val) (hw : Sym → Bool) (hhw : ∀ y, hw y = (sv y).isSome) (N tm : Nat) (l : List Sym) (hl : l.length ≤ 13) (P : Nat → Prop) (b1 bg bf bl : Nat) (gt gs : Int) (gv : Value) (la : Option Addr) (lk : Nat) (W : World)
    (hb1 : W.heap[b1]? = some (.cells #[.func (.func 85) #[] #[.pointer (some ⟨bl, 0, none⟩)]] 81 (0, 0))) (hbg : W.heap[bg]? = some (.cells #[.int .i64 gt, .int .i64 (N : Int), .int .i64 gs, gv] 24 (0, 0)))
    (hbf : W.heap[bf]? = some (.cells #[.func (.func fn) #[] fb] 41 (0, 0))) (hbl : W.heap[bl]? = some (.cells #[.slice la l.length lk] 47 (0, 0))) (hrl : Rd AnyB W (.sl (l.map Sym.d)) [.slice la l.length lk]) (hfr : FreeFn fn fb sv (Hl.okS N tm) P W) :
    LeafFn 86 #[.pointer (some ⟨b1, 0, none⟩), .pointer (some ⟨bg, 0, none⟩), .pointer (some ⟨bf, 0, none⟩)] (leafB hw N l) (Hl.okS (2 * N) tm) l.length P W := by
  intro W' y i j hy hij hj hb
  show Calls _ _ #[.agg #[.bool y.term, .int .i64 y.n], .int .i64 (i : Nat), .int .i64 (j : Nat), .pointer (some ⟨b1, 0, none⟩), .pointer (some ⟨bg, 0, none⟩), .pointer (some ⟨bf, 0, none⟩)] _ _
  rw [leafB_eq hj]
  obtain ⟨w0, HW⟩ := nameIt ((W'.alloc (.cells #[.bool y.term, .int .i64 y.n] 44)).alloc (.cells #[.bool false, .int .i64 0, .int .i64 0, .slice none 0 0] 36))
  have hw0 : Below W'.heap.size W' w0 := by
    rw [← HW.out]
    exact ((Below.refl _ _).alloc (Nat.le_refl _) _).alloc (by simp) _
  have HY0 : Hid (w0.heap[W'.heap.size]? = some (.cells #[.bool y.term, .int .i64 y.n] 44 (0, 0))) := by
    rw [← HW.out]; exact bx_keep (bx_new _ _ _ rfl) ((Below.refl _ _).alloc (Nat.le_refl _) _)
  have HZ0 : Hid (w0.heap[W'.heap.size + 1]? = some (.cells #[.bool false, .int .i64 0, .int .i64 0, .slice none 0 0] 36 (0, 0))) := by
    rw [← HW.out]; exact bx_new _ _ _ (by simp)
  have HSZ : Hid (w0.heap.size = W'.heap.size + 1 + 1) := by show _ = _; rw [← HW.out]; simp
  have HB0 := Lib.hid hw0
  have hb0 := hb.trans (hw0.mono hb.size)
  have H1 := Lib.hid (bx_keep hb1 hb0)
  have HG := Lib.hid (bx_keep hbg hb0)
  have HF := Lib.hid (bx_keep hbf hb0)
  have HLE := Lib.hid (leaf1E l hl bl la lk w0 y i j hij hj (bx_keep hbl hb0) (hrl.below hb0))
  have HFR : Hid (y.term = false → y.n < (N : Int) → ∀ W2, Below w0.heap.size w0 W2 → Calls Try.prog fn (#[.agg #[.bool y.term, .int .i64 y.n]] ++ fb) W2 fun e w' => ∃ x, e = .returned x ∧ VR (fun k => P k ∨ W2.heap.size ≤ k) w' x (sv y) ∧ Below W2.heap.size W2 w') := fun h1 h2 W2 h3 => hfr W2 y ⟨hy.1, hy.2.1, fun _ => h2⟩ (hb0.trans (h3.mono hb0.size))
  obtain ⟨fl, HFL⟩ := nameIt (flB l y i j)
  rw [HFL.out] at HLE
  rw [HFL.out]
  have HHW := Lib.hid (hhw y)
  obtain ⟨o, HO⟩ := nameIt (sv y)
  rw [HO.out] at HFR HHW
  obtain ⟨hy1, HHY⟩ := nameIt (hw y)
  rw [HHY.out] at HHW
  rw [HHY.out]
  obtain ⟨yt, HYT⟩ := nameIt y.term
  obtain ⟨yn, HYN⟩ := nameIt y.n
  rw [HYT.out, HYN.out] at HY0 HW HLE HFR
  rw [HYT.out, HYN.out]
  obtain ⟨rb, HRB⟩ := nameIt (fl && (yt || decide ((N : Int) ≤ yn) || hy1))
  rw [HRB.out]
  obtain ⟨PST, HPS⟩ := nameIt (fun (e : Ending) (w' : World) => ∃ x, e = .returned x ∧ VR (fun k => P k ∨ W'.heap.size ≤ k) w' x (if rb then some zero else none) ∧ Below W'.heap.size W' w')
  have HEND : Hid (∀ w3 r, rb = r → Below w0.heap.size w0 w3 → PST (.returned (.agg #[.bool r, .int .i64 0, .int .i64 0, .slice none 0 0])) ((((w3.setCell ⟨W'.heap.size + 1, 0, none⟩ (.bool r)).setCell ⟨W'.heap.size + 1, 0 + 1, none⟩ (.int .i64 0)).setCell ⟨W'.heap.size + 1, 0 + 2, none⟩ (.int .i64 0)).setCell ⟨W'.heap.size + 1, 0 + 3, none⟩ (.slice none 0 0))) := by
    intro w3 r hr hb3
    subst hr
    have hg := grown_cell4 w3 (W'.heap.size + 1) (.bool rb) (.int .i64 0) (.int .i64 0) (.slice none 0 0)
    have hB : Below W'.heap.size W' w3 := HB0.out.trans (hb3.mono HB0.out.size)
    rw [← HPS.out]
    exact ⟨_, rfl, vr_zero _ _ rb, hB.grown hg hB.size (fun k e => by cases e; omega)⟩
  rw [HPS.out]
  clear hw0 hb0 hb hb1 hbg hbf hbl hrl hfr HPS hy hhw hij hj
  obtain ⟨y0, y1⟩ := bx_cells2 HY0.out
  have c0 := bx_cells1 H1.out
  go_enter Try.func86, Try.ntmps86
  go_upto_region 1 with fail
  rw [HW.out]
  clear HW
  go_wp2_with fail
  refine HLE.out.mono ?_
  rintro e w1 ⟨rfl, hb1⟩
  obtain ⟨w2, HW2⟩ := nameIt (w1.alloc (.cells #[.bool fl, .int .i64 0, .int .i64 0, .slice none 0 0] 36))
  have hb2 : Below w1.heap.size w1 w2 := by rw [← HW2.out]; exact (Below.refl _ _).alloc (Nat.le_refl _) _
  have HX2 : Hid (w2.heap[w1.heap.size]? = some (.cells #[.bool fl, .int .i64 0, .int .i64 0, .slice none 0 0] 36 (0, 0))) := by rw [← HW2.out]; exact bx_new _ _ _ rfl
  have HB2 : Hid (Below w0.heap.size w0 w2) := hb1.trans (hb2.mono hb1.size)
  have HQ : Hid (w0.heap.size ≤ w1.heap.size) := hb1.size
  obtain ⟨q, HQN⟩ := nameIt w1.heap.size
  rw [HQN.out] at HX2 HQ
  clear y0 y1 c0 hb1 hb2
  go_upto_region 2 with fail
  rw [HW2.out, HQN.out]
  clear HW2
  obtain ⟨y0, y1⟩ := bx_cells2 (bx_keep HY0.out HB2.out)
  obtain ⟨g0, g1, g2, g3⟩ := bx_cells4 (bx_keep HG.out HB2.out)
  by_cases hcase : yt = false ∧ yn < (N : Int)
  · obtain ⟨rfl, hlt⟩ := hcase
    have hd : decide (yn < (N : Int)) = true := by simp; omega
    have HFR2 := Lib.hid (HFR.out rfl hlt)
    obtain ⟨x0, x1, x2, x3⟩ := bx_cells4 HX2.out
    have c0 := bx_cells1 (bx_keep HF.out HB2.out)
    cases fl with
    | false =>
      have hr : rb = false := by rw [← HRB.out]; rfl
      obtain ⟨f0, f1, f2, f3⟩ := bx_free4 HX2.out
      have hx3 : (w2.setCell ⟨q, 0, none⟩ (.bool false)).heap[q]? = some (.cells #[.bool false, .int .i64 0, .int .i64 0, .slice none 0 0] 36 (0, 0)) := by rw [bx_set HX2.out]; rfl
      have hb3 : Below w0.heap.size w0 (w2.setCell ⟨q, 0, none⟩ (.bool false)) := HB2.out.setCell (p := ⟨q, 0, none⟩) HQ.out _
      obtain ⟨w3, HW3⟩ := nameIt (w2.setCell ⟨q, 0, none⟩ (.bool false))
      rw [HW3.out] at hx3 hb3
      have HX3 := Lib.hid hx3
      have HB3 := Lib.hid hb3
      clear hx3 hb3
      go_upto_region 4 with fail
      rw [HW3.out]
      clear HW3 x0 x1 x2 x3 f0 f1 f2 f3
      have HE := Lib.hid (HEND.out w3 false hr HB3.out)
      obtain ⟨x0, x1, x2, x3⟩ := bx_cells4 HX3.out
      obtain ⟨z0, z1, z2, z3⟩ := bx_cells4 (bx_keep HZ0.out HB3.out)
      obtain ⟨f0, f1, f2, f3⟩ := bx_free4 (bx_keep HZ0.out HB3.out)
      clear hr
      go_wp2_with fail
      exact bodyPost_ret (v := .agg #[.bool false, .int .i64 0, .int .i64 0, .slice none 0 0]) (by simp [results, Try.results86, go_sem, z0, z1, z2, z3]) rfl HE.out
    | true =>
      have hr : rb = o.isSome := by
        rw [← HRB.out, HHW.out]
        have : decide ((N : Int) ≤ yn) = false := by simp; omega
        simp [this]
      go_wp2_with fail
      refine (HFR2.out w2 HB2.out).mono ?_
      rintro e w4 ⟨x, rfl, hv, hb4⟩
      obtain ⟨a1, m1, k1, rfl, hrd⟩ := vr_form hv
      have hX4 := bx_keep HX2.out hb4
      have HB4 : Hid (Below w0.heap.size w0 w4) := HB2.out.trans (hb4.mono HB2.out.size)
      have hfl := valField o.isSome (oC o) (oN o) (.slice a1 m1 k1) w4
      have hx3 : (w4.setCell ⟨q, 0, none⟩ (.bool o.isSome)).heap[q]? = some (.cells #[.bool o.isSome, .int .i64 0, .int .i64 0, .slice none 0 0] 36 (0, 0)) := by rw [bx_set hX4]; rfl
      have hb3 : Below w0.heap.size w0 (w4.setCell ⟨q, 0, none⟩ (.bool o.isSome)) := HB4.out.setCell (p := ⟨q, 0, none⟩) HQ.out _
      clear x0 x1 x2 x3
      obtain ⟨x0, x1, x2, x3⟩ := bx_cells4 hX4
      obtain ⟨f0, f1, f2, f3⟩ := bx_free4 hX4
      obtain ⟨w3, HW3⟩ := nameIt (w4.setCell ⟨q, 0, none⟩ (.bool o.isSome))
      rw [HW3.out] at hx3 hb3
      have HX3 := Lib.hid hx3
      have HB3 := Lib.hid hb3
      have HRR := Lib.hid hr
      clear hx3 hb3 hv hb4 hrd hX4 hr
      go_upto_region 4 with fail
      rw [HW3.out]
      clear HW3 x0 x1 x2 x3 f0 f1 f2 f3
      have HE := Lib.hid (HEND.out w3 o.isSome HRR.out HB3.out)
      obtain ⟨x0, x1, x2, x3⟩ := bx_cells4 HX3.out
      obtain ⟨z0, z1, z2, z3⟩ := bx_cells4 (bx_keep HZ0.out HB3.out)
      obtain ⟨f0, f1, f2, f3⟩ := bx_free4 (bx_keep HZ0.out HB3.out)
      go_wp2_with fail
      exact bodyPost_ret (v := .agg #[.bool o.isSome, .int .i64 0, .int .i64 0, .slice none 0 0]) (by simp [results, Try.results86, go_sem, z0, z1, z2, z3]) rfl HE.out
  · have hrb : rb = fl := by
      rw [← HRB.out]
      cases yt with
      | true => simp
      | false =>
        have : (N : Int) ≤ yn := by
          rcases Int.lt_or_le yn N with h | h
          · exact absurd ⟨rfl, h⟩ hcase
          · exact h
        simp [this]
    have HE := Lib.hid (HEND.out w2 fl hrb HB2.out)
    obtain ⟨x0, x1, x2, x3⟩ := bx_cells4 HX2.out
    obtain ⟨z0, z1, z2, z3⟩ := bx_cells4 (bx_keep HZ0.out HB2.out)
    obtain ⟨f0, f1, f2, f3⟩ := bx_free4 (bx_keep HZ0.out HB2.out)
    cases yt with
    | true =>
      clear hcase hrb
      go_wp2_with fail
      exact bodyPost_ret (v := .agg #[.bool fl, .int .i64 0, .int .i64 0, .slice none 0 0]) (by simp [results, Try.results86, go_sem, z0, z1, z2, z3]) rfl HE.out
    | false =>
      have hd : decide (yn < (N : Int)) = false := by
        simp
        rcases Int.lt_or_le yn N with h | h
        · exact absurd ⟨rfl, h⟩ hcase
        · exact h
      clear hcase hrb
      go_wp2_with fail
      exact bodyPost_ret (v := .agg #[.bool fl, .int .i64 0, .int .i64 0, .slice none 0 0]) (by simp [results, Try.results86, go_sem, z0, z1, z2, z3]) rfl HE.out
end Ho
end Go.Proofs.Ytjpmebppdcclbaa
namespace Go.Proofs.Ytjpmebppdcclbaa
open Go.RowKit
namespace Ho
open Rp Hl
open Ht hiding D
def BegPost (K : List Rule) (N tm : Nat) (st : Int) (l : List Sym) (W : World) (e : Ending) (w' : World) : Prop :=
  ∃ S b, ShT K N tm S ∧ e = .returned (.bool b) ∧ (b = true ↔ hwOf K N tm ⟨false, st⟩ = true ∧ Dx (KO K N (hwOf K N tm)) (lfB (hwOf K N tm) N l) ⟨false, st + (N : Int)⟩ 0 l.length) ∧ Below W.heap.size W w'
set_option maxHeartbeats 16000000 in
set_option maxRecDepth 100000 in
theorem beginsE (K : List Rule) (N tm st : Nat) (hN : N ≤ 10) (htm : tm ≤ 100) (hsN : st < N) (hK : KG N K (Hl.okS N tm)) (hr4 : ∀ r ∈ K, r.right.length ≤ 4) (hkl : K.length ≤ 100) (l : List Sym) (hl : l.length ≤ 13) (gt : Int) (ga : Option Addr) (gc : Nat) (la : Option Addr) (lk : Nat) (W : World) (hgr : Rd AnyB W (.sl (K.map Rule.d)) [.slice ga K.length gc]) (hrl : Rd AnyB W (.sl (l.map Sym.d)) [.slice la l.length lk]) :
    Calls Try.prog 49 #[.agg #[.int .i64 gt, .int .i64 (N : Int), .int .i64 (st : Int), .slice ga K.length gc], .slice la l.length lk] W (BegPost K N tm (st : Int) l W) := by
  obtain ⟨w0, HW⟩ := nameIt ((W.alloc (.cells #[.int .i64 gt, .int .i64 (N : Int), .int .i64 (st : Int), .slice ga K.length gc] 24)).alloc (.cells #[.slice la l.length lk] 47))
  have hw0 : Below W.heap.size W w0 := by
    rw [← HW.out]
    exact ((Below.refl _ _).alloc (Nat.le_refl _) _).alloc (by simp) _
  have HG0 : Hid (w0.heap[W.heap.size]? = some (.cells #[.int .i64 gt, .int .i64 (N : Int), .int .i64 (st : Int), .slice ga K.length gc] 24 (0, 0))) := by
    rw [← HW.out]; exact bx_keep (bx_new _ _ _ rfl) ((Below.refl _ _).alloc (Nat.le_refl _) _)
  have HQ0 : Hid (w0.heap[W.heap.size + 1]? = some (.cells #[.slice la l.length lk] 47 (0, 0))) := by
    rw [← HW.out]; exact bx_new _ _ _ (by simp)
  have HB0 := Lib.hid hw0
  have hoks : ∀ s, Hl.okS N tm s → okN s.n := fun s hs => by
    obtain ⟨h1, h2, h3⟩ := hs
    cases ht : s.term with
    | true => have := h2 ht; exact ⟨h1, by omega⟩
    | false => have := h3 ht; exact ⟨h1, by omega⟩
  have hoks2 : ∀ s, Hl.okS (2 * N) tm s → okN s.n := fun s hs => by
    obtain ⟨h1, h2, h3⟩ := hs
    cases ht : s.term with
    | true => have := h2 ht; exact ⟨h1, by omega⟩
    | false => have := h3 ht; exact ⟨h1, by omega⟩
  have hgr0 := hgr.below hw0
  have hrl0 := hrl.below hw0
  have HSH : Hid (∀ W', Below w0.heap.size w0 W' → Calls Try.prog 15 #[.agg #[.int .i64 gt, .int .i64 (N : Int), .int .i64 (st : Int), .slice ga K.length gc]] W' fun e w' => ∃ T W1 b, e = .returned (.func (.func 48) #[] #[.pointer (some ⟨b, 0, none⟩)]) ∧ ShT K N tm T ∧ ShM W1 gt (N : Int) (st : Int) (.slice ga K.length gc) T b w' ∧ Below W'.heap.size W' W1 ∧ Below W'.heap.size W' w') :=
    fun W' hb => shortE K N tm hN htm hK hr4 gt (N : Int) (st : Int) ga gc W' (hgr0.below hb)
  have HOP : Hid (∀ W', Below w0.heap.size w0 W' → Calls Try.prog 87 #[.agg #[.int .i64 gt, .int .i64 (N : Int), .int .i64 (st : Int), .slice ga K.length gc]] W' (OpenPost K N tm gt (st : Int) W')) :=
    fun W' hb => openE K N tm st hN htm hsN hK hr4 hkl gt ga gc W' (hgr0.below hb)
  have HFRF : Hid (∀ S W1 b w1 w2, ShT K N tm S → ShM W1 gt (N : Int) (st : Int) (.slice ga K.length gc) S b w1 → Below w1.heap.size w1 w2 → FreeFn 48 #[.pointer (some ⟨b, 0, none⟩)] (svOf K N tm) (Hl.okS N tm) (fun k => W1.heap.size ≤ k ∧ k < w1.heap.size) w2) := by
    intro S W1 b w1 w2 hS hM hb12 W' y hy hb
    obtain ⟨hcg, hjs, hcl⟩ := hS
    have := freeE hM (Hl.okS N tm) hoks W' y hy (hb12.trans (hb.mono hb12.size))
    rw [show (fun y => ofT leafS S y 0 0) y = svOf K N tm y from sv_eqT hcg hcl y] at this
    exact this
  have hst0 : Hl.okS N tm ⟨false, (st : Int)⟩ := ⟨by show (0 : Int) ≤ (st : Int); omega, (fun e => by cases e), fun _ => by show (st : Int) < (N : Int); omega⟩
  -- solve and of, behind everything
  have HSO : Hid (∀ w6 fb fbk b1 bf P oa oc, Below w0.heap.size w0 w6 → FreeFn 48 fb (svOf K N tm) (Hl.okS N tm) P w6 → (∀ k, P k → k < w6.heap.size) → w6.heap[b1]? = some (.cells #[.func (.func 85) #[] #[.pointer (some ⟨W.heap.size + 1, 0, none⟩)]] 81 (0, 0)) → w6.heap[bf]? = some (.cells #[.func (.func 48) #[] fb] 41 (0, 0)) → fbk = #[.pointer (some ⟨b1, 0, none⟩), .pointer (some ⟨W.heap.size, 0, none⟩), .pointer (some ⟨bf, 0, none⟩)] → Rd AnyB w6 (.sl ((KO K N (hwOf K N tm)).map Rule.d)) [.slice oa (KO K N (hwOf K N tm)).length oc] → ∀ W', Below w6.heap.size w6 W' →
      Calls Try.prog 41 #[.agg #[.int .i64 gt, .int .i64 ((2 * N : Nat) : Int), .int .i64 ((st : Int) + (N : Int)), .slice oa (KO K N (hwOf K N tm)).length oc], .int .i64 (l.length : Nat), .func (.func 86) #[] fbk, .func (.func 88) #[] #[]] W' fun e w' =>
        ∃ o : Option Val, (o.isSome = true ↔ Dx (KO K N (hwOf K N tm)) (lfB (hwOf K N tm) N l) ⟨false, (st : Int) + (N : Int)⟩ 0 l.length) ∧ e = .returned (.pointer (some ⟨W'.heap.size + 2, 0, none⟩)) ∧ Below w6.heap.size w6 w' ∧ ∀ W2, Below w'.heap.size w' W2 → Calls Try.prog 42 #[.pointer (some ⟨W'.heap.size + 2, 0, none⟩), .agg #[.bool false, .int .i64 ((st : Int) + (N : Int))], .int .i64 0, .int .i64 (l.length : Nat)] W2 fun e w3 => ∃ x, e = .returned x ∧ VR AnyB w3 x o ∧ Below W2.heap.size W2 w3) := by
    intro w6 fb fbk b1 bf P oa oc hb6 hfr hP h1 hf hfbk hro W' hb'
    subst hfbk
    have hlf : LeafFn 86 #[.pointer (some ⟨b1, 0, none⟩), .pointer (some ⟨W.heap.size, 0, none⟩), .pointer (some ⟨bf, 0, none⟩)] (leafB (hwOf K N tm) N l) (Hl.okS (2 * N) tm) l.length P W' :=
      someE _ fb eg48 (svOf K N tm) (hwOf K N tm) (fun _ => rfl) N tm l hl P b1 W.heap.size bf (W.heap.size + 1) gt (st : Int) (.slice ga K.length gc) la lk W' (bx_keep h1 hb') (bx_keep (bx_keep HG0.out hb6) hb') (bx_keep hf hb') (bx_keep (bx_keep HQ0.out hb6) hb') ((hrl0.below hb6).below hb') (fun W2 y hy h2 => hfr W2 y hy (hb'.trans (h2.mono hb'.size)))
    have hP' : ∀ k, P k → k < W'.heap.size := fun k hk => Nat.lt_of_lt_of_le (hP k hk) hb'.size
    have hKO := ko_ok (hw := hwOf K N tm) hK
    refine (solveE _ _ (leafB (hwOf K N tm) N l) _ _ emH (Hl.okS (2 * N) tm) l.length _ P W' eg86 eg88 hlf (empB _ _ _) hP' (by omega) (by omega) (KO K N (hwOf K N tm)) gt ((2 * N : Nat) : Int) ((st : Int) + (N : Int)) (.slice oa (KO K N (hwOf K N tm)).length oc) (hro.below hb') (fun r hr => by
      obtain ⟨h1, h2, h3⟩ := hKO r hr
      exact ⟨⟨h1, by omega⟩, ko_len hr4 r hr, h3⟩) hoks2 _ _ (planB hKO)).mono ?_
    rintro e w' ⟨T, rfl, ⟨hct, -⟩, hcl2, hsm⟩
    refine ⟨ofT (leafB (hwOf K N tm) N l) T ⟨false, (st : Int) + (N : Int)⟩ 0 l.length, bv_iff hct hcl2 _ (Nat.zero_le _) (Nat.le_refl _), rfl, hb'.trans (hsm.bel.mono hb'.size), fun W2 hb2 => ?_⟩
    have hst : Hl.okS (2 * N) tm ⟨false, (st : Int) + (N : Int)⟩ := ⟨by show (0 : Int) ≤ (st : Int) + (N : Int); omega, (fun e => by cases e), fun _ => by show (st : Int) + (N : Int) < ((2 * N : Nat) : Int); omega⟩
    refine (hsm.ofFn eg86 hlf hP' (by omega) hoks2 W2 ⟨false, (st : Int) + (N : Int)⟩ 0 l.length hst (by omega) (Nat.le_refl _) hb2).mono ?_
    rintro e w3 ⟨x, h1, h2, h3⟩
    exact ⟨x, h1, h2.mono (fun k hk _ => trivial), h3⟩
  obtain ⟨PST, HP⟩ := nameIt (BegPost K N tm (st : Int) l W)
  have HFIN : Hid (∀ S b w', ShT K N tm S → (b = true ↔ hwOf K N tm ⟨false, (st : Int)⟩ = true ∧ Dx (KO K N (hwOf K N tm)) (lfB (hwOf K N tm) N l) ⟨false, (st : Int) + (N : Int)⟩ 0 l.length) → Below w0.heap.size w0 w' → PST (.returned (.bool b)) w') := by
    intro S b w' h1 h2 h3
    rw [← HP.out]
    exact ⟨S, b, h1, rfl, h2, HB0.out.trans (h3.mono HB0.out.size)⟩
  rw [HP.out]
  have HFO : Hid (∀ w fb P, FreeFn 48 fb (svOf K N tm) (Hl.okS N tm) P w → Calls Try.prog 48 (#[.agg #[.bool false, .int .i64 (st : Int)]] ++ fb) w fun e w' => ∃ x, e = .returned x ∧ VR (fun k => P k ∨ w.heap.size ≤ k) w' x (svOf K N tm ⟨false, (st : Int)⟩) ∧ Below w.heap.size w w') := fun w fb P h => h w ⟨false, (st : Int)⟩ hst0 (Below.refl _ _)
  have HHW : Hid (hwOf K N tm ⟨false, (st : Int)⟩ = (svOf K N tm ⟨false, (st : Int)⟩).isSome) := rfl
  obtain ⟨o0, HO0⟩ := nameIt (svOf K N tm ⟨false, (st : Int)⟩)
  rw [HO0.out] at HFO HHW
  obtain ⟨hw, HHWN⟩ := nameIt (hwOf K N tm)
  obtain ⟨s2, HS2⟩ := nameIt ((st : Int) + (N : Int))
  obtain ⟨n2, HN2⟩ := nameIt ((2 * N : Nat) : Int)
  obtain ⟨kn, HKN⟩ := nameIt K.length
  obtain ⟨ln, HLN⟩ := nameIt l.length
  have HOP2 : Hid (∀ W', Below w0.heap.size w0 W' → Calls Try.prog 87 #[.agg #[.int .i64 gt, .int .i64 (N : Int), .int .i64 (st : Int), .slice ga kn gc]] W' fun e w' => ∃ a c, e = .returned (.agg #[.int .i64 gt, .int .i64 n2, .int .i64 s2, .slice a (KO K N hw).length c]) ∧ Rd AnyB w' (.sl ((KO K N hw).map Rule.d)) [.slice a (KO K N hw).length c] ∧ Below W'.heap.size W' w') := by
    intro W' hb
    have := HOP.out W' hb
    rw [HKN.out] at this
    refine this.mono ?_
    rintro e w' ⟨S, a, c, -, h1, h2, h3⟩
    rw [HHWN.out, HS2.out, HN2.out] at h1
    rw [HHWN.out] at h2
    exact ⟨a, c, h1, h2, h3⟩
  rw [HHWN.out, HS2.out, HN2.out, HLN.out] at HSO
  rw [HHWN.out, HS2.out, HLN.out] at HFIN
  rw [HHWN.out] at HHW
  obtain ⟨on, HON⟩ := nameIt (KO K N hw).length
  simp only [HON.out] at HSO HOP2
  rw [HKN.out] at HW HG0 HSH HFRF
  rw [HLN.out] at HW HQ0
  rw [HKN.out, HLN.out]
  clear hw0 hgr0 hrl0 hgr hrl hoks hoks2 hK hr4 HP HOP hst0
  go_enter Try.func49, Try.ntmps49
  go_upto_region 1 with fail
  rw [HW.out]
  clear HW
  have HCG : Hid (∀ w', Below w0.heap.size w0 w' → w'.cell? ⟨W.heap.size, 0, none⟩ = some (.int .i64 gt) ∧ w'.cell? ⟨W.heap.size, 0 + 1, none⟩ = some (.int .i64 (N : Int)) ∧ w'.cell? ⟨W.heap.size, 0 + 2, none⟩ = some (.int .i64 (st : Int)) ∧ w'.cell? ⟨W.heap.size, 0 + 3, none⟩ = some (.slice ga kn gc)) := by
    intro w' hb'
    exact bx_cells4 (bx_keep HG0.out hb')
  obtain ⟨bb, HBBN⟩ := nameIt o0.isSome
  refine wp_region_U (S := (fun w' => w'.cell? ⟨W.heap.size, 0, none⟩ = some (.int .i64 gt) ∧ w'.cell? ⟨W.heap.size, 0 + 1, none⟩ = some (.int .i64 (N : Int)) ∧ w'.cell? ⟨W.heap.size, 0 + 2, none⟩ = some (.int .i64 (st : Int)) ∧ w'.cell? ⟨W.heap.size, 0 + 3, none⟩ = some (.slice ga kn gc))) 5 (by kernel_rfl) (fun inv => ?_)
  refine wpU_take (i := 0) (v := .agg #[.int .i64 gt, .int .i64 (N : Int), .int .i64 (st : Int), .slice ga kn gc]) rfl inv (by kernel_rfl) (by kernel_rfl) (by decide) (by decide) (by kernel_rfl) (by kernel_rfl) (by kernel_rfl) (fun _ _ _ h => h) (Or.inl ⟨by rfl, fun w' hw' => ?_⟩) (HCG.out _ (Below.refl _ _).drew) (fun inv => ?_)
  · obtain ⟨h0, h1, h2, h3⟩ := hw'
    go_simp
  try simp only [Act.put, List.setIfInBounds_toArray, List.set_cons_zero, List.set_cons_succ]
  refine wpU_take (i := 2) (v := .pointer (some ⟨W.heap.size, 0 + 2, none⟩)) rfl inv (by kernel_rfl) (by kernel_rfl) (by decide) (by decide) (by kernel_rfl) (by kernel_rfl) (by kernel_rfl) (fun _ _ _ h => h) (Or.inl ⟨by rfl, fun w' hw' => ?_⟩) (HCG.out _ (Below.refl _ _).drew) (fun inv => ?_)
  · obtain ⟨h0, h1, h2, h3⟩ := hw'
    go_simp
  try simp only [Act.put, List.setIfInBounds_toArray, List.set_cons_zero, List.set_cons_succ]
  refine wpU_take (i := 3) (v := .int .i64 (st : Int)) rfl inv (by kernel_rfl) (by kernel_rfl) (by decide) (by decide) (by kernel_rfl) (by kernel_rfl) (by kernel_rfl) (fun _ _ _ h => h) (Or.inl ⟨by rfl, fun w' hw' => ?_⟩) (HCG.out _ (Below.refl _ _).drew) (fun inv => ?_)
  · obtain ⟨h0, h1, h2, h3⟩ := hw'
    go_simp
  try simp only [Act.put, List.setIfInBounds_toArray, List.set_cons_zero, List.set_cons_succ]
  refine wpU_take (i := 4) (v := .agg #[.bool false, .int .i64 (st : Int)]) rfl inv (by kernel_rfl) (by kernel_rfl) (by decide) (by decide) (by kernel_rfl) (by kernel_rfl) (by kernel_rfl) (fun _ _ _ h => h) (Or.inl ⟨by rfl, fun w' hw' => ?_⟩) (HCG.out _ (Below.refl _ _).drew) (fun inv => ?_)
  · obtain ⟨h0, h1, h2, h3⟩ := hw'
    go_simp
  try simp only [Act.put, List.setIfInBounds_toArray, List.set_cons_zero, List.set_cons_succ]
  refine wpU_one (i := 1) (by kernel_rfl) rfl (fun K hK => ?_)
  replace inv := inv_setc (i := 1) inv (by kernel_rfl) (by decide)
  go_simp
  refine (HSH.out _ (Below.refl w0.heap.size w0).drew).mono ?_
  rintro e w1 ⟨S, W1, b, rfl, hS, hM, hb1, hb01⟩
  have HB1 : Hid (Below w0.heap.size w0 w1) := (Below.refl w0.heap.size w0).drew.trans (hb01.mono (by simp))
  have HSS := Lib.hid hS
  have HF1 := Lib.hid (HFO.out w1 _ _ (HFRF.out S W1 b w1 w1 hS hM (Below.refl _ _)))
  clear hS hM hb1 hb01
  refine hK.out _ _ (fun _ => HCG.out _ HB1.out) ?_
  clear hK K
  try simp only [Act.put, List.setIfInBounds_toArray, List.set_cons_zero, List.set_cons_succ]
  refine wpU_one (i := 5) (by kernel_rfl) rfl (fun K hK => ?_)
  go_simp
  refine HF1.out.mono ?_
  rintro e w2 ⟨x, rfl, hv, hb2⟩
  obtain ⟨a1, m1, k1, rfl, hrd⟩ := vr_form hv
  have HB2 : Hid (Below w0.heap.size w0 w2) := HB1.out.trans (hb2.mono HB1.out.size)
  have hfl := valField bb (oC o0) (oN o0) (.slice a1 m1 k1)
  rw [HBBN.out]
  clear hv hb2 hrd
  refine hK.out _ _ (fun h => absurd (show true = false from h) (by decide)) ?_
  clear hK K
  try simp only [Act.put, List.setIfInBounds_toArray, List.set_cons_zero, List.set_cons_succ]
  refine wpU_one (i := 6) (by kernel_rfl) rfl (fun K hK => ?_)
  go_simp
  refine hK.out _ _ (fun h => absurd (show true = false from h) (by decide)) ?_
  clear hK K
  try simp only [Act.put, List.setIfInBounds_toArray, List.set_cons_zero, List.set_cons_succ]
  refine wpU_one (i := 7) (by kernel_rfl) rfl (fun K hK => ?_)
  go_simp
  refine hK.out _ _ (fun h => absurd (show true = false from h) (by decide)) ?_
  clear hK K
  try simp only [Act.put, List.setIfInBounds_toArray, List.set_cons_zero, List.set_cons_succ]
  refine wpU_done (by kernel_rfl) ?_ _
  cases bb with
  | false =>
    have HE := Lib.hid (HFIN.out S false w2 HSS.out ⟨fun h => (by cases h), fun h => by have := h.1; rw [HHW.out, HBBN.out] at this; cases this⟩ HB2.out)
    clear HSO HFRF HOP2 HSH
    go_wp2_with fail
    exact HE.out
  | true =>
    have HHW1 : Hid (hw ⟨false, (st : Int)⟩ = true) := by show _ = _; rw [HHW.out, HBBN.out]
    obtain ⟨w3, HW3⟩ := nameIt (w2.alloc (.cells #[.func (.func 85) #[] #[.pointer (some ⟨W.heap.size + 1, 0, none⟩)]] 81))
    have hb3 : Below w2.heap.size w2 w3 := by rw [← HW3.out]; exact (Below.refl _ _).alloc (Nat.le_refl _) _
    have X3 : Hid (w3.heap[w2.heap.size]? = some (.cells #[.func (.func 85) #[] #[.pointer (some ⟨W.heap.size + 1, 0, none⟩)]] 81 (0, 0))) := by rw [← HW3.out]; exact bx_new _ _ _ rfl
    have HB3 : Hid (Below w0.heap.size w0 w3) := HB2.out.trans (hb3.mono HB2.out.size)
    obtain ⟨b1, HB1N⟩ := nameIt w2.heap.size
    rw [HB1N.out] at X3
    clear hb3
    go_upto_region 4 with fail
    rw [HW3.out, HB1N.out]
    clear HW3
    obtain ⟨x0, x1, x2, x3⟩ := HCG.out _ HB3.out
    go_wp2_with fail
    refine (HSH.out _ HB3.out).mono ?_
    rintro e w4 ⟨S4, W4, b4, rfl, hS4, hM4, hb4, hb34⟩
    obtain ⟨w5, HW5⟩ := nameIt (w4.alloc (.cells #[.func (.func 48) #[] #[.pointer (some ⟨b4, 0, none⟩)]] 41))
    have hb5 : Below w4.heap.size w4 w5 := by rw [← HW5.out]; exact (Below.refl _ _).alloc (Nat.le_refl _) _
    have X5 : Hid (w5.heap[w4.heap.size]? = some (.cells #[.func (.func 48) #[] #[.pointer (some ⟨b4, 0, none⟩)]] 41 (0, 0))) := by rw [← HW5.out]; exact bx_new _ _ _ rfl
    have HB35 : Hid (Below w3.heap.size w3 w5) := hb34.trans (hb5.mono hb34.size)
    have HB5 : Hid (Below w0.heap.size w0 w5) := HB3.out.trans (HB35.out.mono HB3.out.size)
    have HFR5 := Lib.hid (HFRF.out S4 W4 b4 w4 w5 hS4 hM4 hb5)
    have HPP : Hid (∀ k, (W4.heap.size ≤ k ∧ k < w4.heap.size) → k < w5.heap.size) := fun k hk => Nat.lt_of_lt_of_le hk.2 hb5.size
    obtain ⟨bf, HBFN⟩ := nameIt w4.heap.size
    rw [HBFN.out] at X5
    clear x0 x1 x2 x3 hS4 hM4 hb4 hb34 hb5 HSH HFRF
    go_upto_region 6 with fail
    rw [HW5.out, HBFN.out]
    clear HW5
    obtain ⟨x0, x1, x2, x3⟩ := HCG.out _ HB5.out
    go_wp2_with fail
    refine (HOP2.out _ HB5.out).mono ?_
    rintro e w6 ⟨oa, oc, rfl, hro, hb56⟩
    obtain ⟨w7, HW7⟩ := nameIt (w6.alloc (.cells #[.int .i64 gt, .int .i64 n2, .int .i64 s2, .slice oa on oc] 24))
    have hb7 : Below w6.heap.size w6 w7 := by rw [← HW7.out]; exact (Below.refl _ _).alloc (Nat.le_refl _) _
    have X7 : Hid (w7.heap[w6.heap.size]? = some (.cells #[.int .i64 gt, .int .i64 n2, .int .i64 s2, .slice oa on oc] 24 (0, 0))) := by rw [← HW7.out]; exact bx_new _ _ _ rfl
    have HB57 : Hid (Below w5.heap.size w5 w7) := hb56.trans (hb7.mono hb56.size)
    have HB7 : Hid (Below w0.heap.size w0 w7) := HB5.out.trans (HB57.out.mono HB5.out.size)
    have hso := HSO.out w7 #[.pointer (some ⟨b4, 0, none⟩)] #[.pointer (some ⟨b1, 0, none⟩), .pointer (some ⟨W.heap.size, 0, none⟩), .pointer (some ⟨bf, 0, none⟩)] b1 bf (fun k => W4.heap.size ≤ k ∧ k < w4.heap.size) oa oc HB7.out (fun W2 y hy h2 => HFR5.out W2 y hy (HB57.out.trans (h2.mono HB57.out.size))) (fun k hk => Nat.lt_of_lt_of_le (HPP.out k hk) HB57.out.size) (bx_keep (bx_keep X3.out HB35.out) HB57.out) (bx_keep X5.out HB57.out) rfl (hro.below hb7)
    have HSV := Lib.hid hso
    obtain ⟨ob, HOBN⟩ := nameIt w6.heap.size
    rw [HOBN.out] at X7
    clear x0 x1 x2 x3 hro hb56 hb7 hso HSO HOP2 HFR5 HPP
    go_upto_region 7 with fail
    rw [HW7.out, HOBN.out]
    clear HW7
    have HCS : Hid (∀ w', Below w7.heap.size w7 w' → w'.cell? ⟨ob, 0, none⟩ = some (.int .i64 gt) ∧ w'.cell? ⟨ob, 0 + 1, none⟩ = some (.int .i64 n2) ∧ w'.cell? ⟨ob, 0 + 2, none⟩ = some (.int .i64 s2) ∧ w'.cell? ⟨ob, 0 + 3, none⟩ = some (.slice oa on oc) ∧ w'.cell? ⟨W.heap.size + 1, 0, none⟩ = some (.slice la ln lk)) := by
      intro w' hb'
      obtain ⟨h1, h2, h3, h4⟩ := bx_cells4 (bx_keep X7.out hb')
      exact ⟨h1, h2, h3, h4, bx_cells1 (bx_keep (bx_keep HQ0.out HB7.out) hb')⟩
    refine wp_region_U (S := (fun w' => w'.cell? ⟨ob, 0, none⟩ = some (.int .i64 gt) ∧ w'.cell? ⟨ob, 0 + 1, none⟩ = some (.int .i64 n2) ∧ w'.cell? ⟨ob, 0 + 2, none⟩ = some (.int .i64 s2) ∧ w'.cell? ⟨ob, 0 + 3, none⟩ = some (.slice oa on oc) ∧ w'.cell? ⟨W.heap.size + 1, 0, none⟩ = some (.slice la ln lk))) 10 (by kernel_rfl) (fun inv => ?_)
    refine wpU_take (i := 0) (v := .agg #[.int .i64 gt, .int .i64 n2, .int .i64 s2, .slice oa on oc]) rfl inv (by kernel_rfl) (by kernel_rfl) (by decide) (by decide) (by kernel_rfl) (by kernel_rfl) (by kernel_rfl) (fun _ _ _ h => h) (Or.inl ⟨by rfl, fun w' hw' => ?_⟩) (HCS.out _ (Below.refl _ _).drew) (fun inv => ?_)
    · obtain ⟨h0, h1, h2, h3, h4⟩ := hw'
      go_simp
    try simp only [Act.put, List.setIfInBounds_toArray, List.set_cons_zero, List.set_cons_succ]
    refine wpU_take (i := 1) (v := .slice la ln lk) rfl inv (by kernel_rfl) (by kernel_rfl) (by decide) (by decide) (by kernel_rfl) (by kernel_rfl) (by kernel_rfl) (fun _ _ _ h => h) (Or.inl ⟨by rfl, fun w' hw' => ?_⟩) (HCS.out _ (Below.refl _ _).drew) (fun inv => ?_)
    · obtain ⟨h0, h1, h2, h3, h4⟩ := hw'
      go_simp
    try simp only [Act.put, List.setIfInBounds_toArray, List.set_cons_zero, List.set_cons_succ]
    refine wpU_take (i := 2) (v := .int .i64 (ln : Nat)) rfl inv (by kernel_rfl) (by kernel_rfl) (by decide) (by decide) (by kernel_rfl) (by kernel_rfl) (by kernel_rfl) (fun _ _ _ h => h) (Or.inl ⟨by rfl, fun w' hw' => ?_⟩) (HCS.out _ (Below.refl _ _).drew) (fun inv => ?_)
    · obtain ⟨h0, h1, h2, h3, h4⟩ := hw'
      go_simp
    try simp only [Act.put, List.setIfInBounds_toArray, List.set_cons_zero, List.set_cons_succ]
    refine wpU_take (i := 3) (v := .func (.func 86) #[] #[.pointer (some ⟨b1, 0, none⟩), .pointer (some ⟨W.heap.size, 0, none⟩), .pointer (some ⟨bf, 0, none⟩)]) rfl inv (by kernel_rfl) (by kernel_rfl) (by decide) (by decide) (by kernel_rfl) (by kernel_rfl) (by kernel_rfl) (fun _ _ _ h => h) (Or.inl ⟨by rfl, fun w' hw' => ?_⟩) (HCS.out _ (Below.refl _ _).drew) (fun inv => ?_)
    · obtain ⟨h0, h1, h2, h3, h4⟩ := hw'
      go_simp
    try simp only [Act.put, List.setIfInBounds_toArray, List.set_cons_zero, List.set_cons_succ]
    refine wpU_take (i := 5) (v := .pointer (some ⟨ob, 0 + 2, none⟩)) rfl inv (by kernel_rfl) (by kernel_rfl) (by decide) (by decide) (by kernel_rfl) (by kernel_rfl) (by kernel_rfl) (fun _ _ _ h => h) (Or.inl ⟨by rfl, fun w' hw' => ?_⟩) (HCS.out _ (Below.refl _ _).drew) (fun inv => ?_)
    · obtain ⟨h0, h1, h2, h3, h4⟩ := hw'
      go_simp
    try simp only [Act.put, List.setIfInBounds_toArray, List.set_cons_zero, List.set_cons_succ]
    refine wpU_take (i := 6) (v := .int .i64 s2) rfl inv (by kernel_rfl) (by kernel_rfl) (by decide) (by decide) (by kernel_rfl) (by kernel_rfl) (by kernel_rfl) (fun _ _ _ h => h) (Or.inl ⟨by rfl, fun w' hw' => ?_⟩) (HCS.out _ (Below.refl _ _).drew) (fun inv => ?_)
    · obtain ⟨h0, h1, h2, h3, h4⟩ := hw'
      go_simp
    try simp only [Act.put, List.setIfInBounds_toArray, List.set_cons_zero, List.set_cons_succ]
    refine wpU_take (i := 7) (v := .agg #[.bool false, .int .i64 s2]) rfl inv (by kernel_rfl) (by kernel_rfl) (by decide) (by decide) (by kernel_rfl) (by kernel_rfl) (by kernel_rfl) (fun _ _ _ h => h) (Or.inl ⟨by rfl, fun w' hw' => ?_⟩) (HCS.out _ (Below.refl _ _).drew) (fun inv => ?_)
    · obtain ⟨h0, h1, h2, h3, h4⟩ := hw'
      go_simp
    try simp only [Act.put, List.setIfInBounds_toArray, List.set_cons_zero, List.set_cons_succ]
    refine wpU_take (i := 8) (v := .slice la ln lk) rfl inv (by kernel_rfl) (by kernel_rfl) (by decide) (by decide) (by kernel_rfl) (by kernel_rfl) (by kernel_rfl) (fun _ _ _ h => h) (Or.inl ⟨by rfl, fun w' hw' => ?_⟩) (HCS.out _ (Below.refl _ _).drew) (fun inv => ?_)
    · obtain ⟨h0, h1, h2, h3, h4⟩ := hw'
      go_simp
    try simp only [Act.put, List.setIfInBounds_toArray, List.set_cons_zero, List.set_cons_succ]
    refine wpU_take (i := 9) (v := .int .i64 (ln : Nat)) rfl inv (by kernel_rfl) (by kernel_rfl) (by decide) (by decide) (by kernel_rfl) (by kernel_rfl) (by kernel_rfl) (fun _ _ _ h => h) (Or.inl ⟨by rfl, fun w' hw' => ?_⟩) (HCS.out _ (Below.refl _ _).drew) (fun inv => ?_)
    · obtain ⟨h0, h1, h2, h3, h4⟩ := hw'
      go_simp
    try simp only [Act.put, List.setIfInBounds_toArray, List.set_cons_zero, List.set_cons_succ]
    refine wpU_one (i := 4) (by kernel_rfl) rfl (fun K hK => ?_)
    replace inv := inv_setc (i := 4) inv (by kernel_rfl) (by decide)
    go_simp
    refine (HSV.out _ (Below.refl w7.heap.size w7).drew).mono ?_
    rintro e w8 ⟨ov2, hov, rfl, hb8, hof⟩
    have HOV := Lib.hid hov
    have HB8 : Hid (Below w7.heap.size w7 w8) := hb8
    have HOF := Lib.hid (hof w8 (Below.refl _ _))
    clear hb8 hof hov
    refine hK.out _ _ (fun _ => HCS.out _ HB8.out) ?_
    clear hK K
    try simp only [Act.put, List.setIfInBounds_toArray, List.set_cons_zero, List.set_cons_succ]
    refine wpU_one (i := 10) (by kernel_rfl) rfl (fun K hK => ?_)
    go_simp
    refine HOF.out.mono ?_
    rintro e w9 ⟨x, rfl, hv, hb9⟩
    obtain ⟨a2, m2, k2, rfl, hrd⟩ := vr_form hv
    have HB9 : Hid (Below w0.heap.size w0 w9) := HB7.out.trans ((HB8.out.trans (hb9.mono HB8.out.size)).mono HB7.out.size)
    have hfl2 := valField ov2.isSome (oC ov2) (oN ov2) (.slice a2 m2 k2)
    clear hv hb9 hrd
    refine hK.out _ _ (fun h => absurd (show true = false from h) (by decide)) ?_
    clear hK K
    try simp only [Act.put, List.setIfInBounds_toArray, List.set_cons_zero, List.set_cons_succ]
    refine wpU_one (i := 11) (by kernel_rfl) rfl (fun K hK => ?_)
    go_simp
    refine hK.out _ _ (fun h => absurd (show true = false from h) (by decide)) ?_
    clear hK K
    try simp only [Act.put, List.setIfInBounds_toArray, List.set_cons_zero, List.set_cons_succ]
    refine wpU_one (i := 12) (by kernel_rfl) rfl (fun K hK => ?_)
    go_simp
    refine hK.out _ _ (fun h => absurd (show true = false from h) (by decide)) ?_
    clear hK K
    try simp only [Act.put, List.setIfInBounds_toArray, List.set_cons_zero, List.set_cons_succ]
    refine wpU_done (by kernel_rfl) ?_ _
    have HE := Lib.hid (HFIN.out S ov2.isSome w9 HSS.out (by
      constructor
      · intro h; exact ⟨HHW1.out, HOV.out.1 h⟩
      · intro h; exact HOV.out.2 h.2) HB9.out)
    go_wp2_with fail
    exact HE.out
end Ho
end Go.Proofs.Ytjpmebppdcclbaa
