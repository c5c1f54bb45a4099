/- Rows of words of holes in memory, written in place. The table of hole.fill in memory; (*filler).symbol. (*filler).rule of hole. -/
import Derived.Test.YtjpmebppdcclbaaJHoleTellsRow6
import Derived.Test.YtjpmebppdcclbaaJHoleTellsRow3
import Derived.Test.YtjpmebppdcclbaaJHoleTellsRow4
namespace Go.Proofs.Ytjpmebppdcclbaa
open Go.RowKit
namespace Hl
open Rp
def hcells (o : Option Val) (u : Value) : List Value := [.int .i64 (oN o), u, .bool o.isSome]
def HRow (P : Nat → Prop) (g m : Nat) (A : Nat → Option Val) (w : World) : Prop :=
  ∃ cs, w.heap[g]? = some (.cells cs 91 (0, 0)) ∧ cs.size = m * 3 ∧ ∀ j, j < m → ∃ u, (∀ c (h : c < 3), cs[j * 3 + c]? = some ((hcells (A j) u)[c]'h)) ∧ Rd P w (D.ints (oW (A j))) [u]
section
variable {P P' : Nat → Prop} {g m : Nat} {A A' : Nat → Option Val} {w w' : World}
theorem HRow.lt (h : HRow P g m A w) : g < w.heap.size := by obtain ⟨cs, h1, _⟩ := h; exact (Array.getElem?_eq_some_iff.1 h1).1
theorem HRow.grown {row : Option Nat} (h : HRow P g m A w) (hg : w.grownBy w' row) (hr : row ≠ some g) (hp : ∀ k, row = some k → ¬ P k) : HRow P g m A w' := by
  have hl := h.lt
  obtain ⟨cs, h1, h2, h3⟩ := h
  refine ⟨cs, (hg.block g hl (fun e => hr e.symm)).trans h1, h2, fun j hj => ?_⟩
  obtain ⟨u, h4, h5⟩ := h3 j hj
  exact ⟨u, h4, rd_grown h5 hg hp⟩
theorem HRow.keep (h : HRow P g m A w) (hb : Below w.heap.size w w') : HRow P g m A w' := h.grown (grown_below hb none) (by simp) (by simp)
theorem HRow.mono (h : HRow P g m A w) (hp : ∀ k, P k → k < w.heap.size → P' k) : HRow P' g m A w := by
  obtain ⟨cs, h1, h2, h3⟩ := h
  refine ⟨cs, h1, h2, fun j hj => ?_⟩
  obtain ⟨u, h4, h5⟩ := h3 j hj
  exact ⟨u, h4, h5.mono hp⟩
theorem HRow.eq (h : HRow P g m A w) (e : ∀ j, j < m → A j = A' j) : HRow P g m A' w := by
  obtain ⟨cs, h1, h2, h3⟩ := h
  refine ⟨cs, h1, h2, fun j hj => ?_⟩
  obtain ⟨u, h4, h5⟩ := h3 j hj
  rw [e j hj] at h4 h5
  exact ⟨u, h4, h5⟩
theorem HRow.get (h : HRow P g m A w) {j : Nat} (hj : j < m) : ∃ a l k, (∀ w' : World, w'.heap[g]? = w.heap[g]? → w'.cell? ⟨g, j * 3, none⟩ = some (.int .i64 (oN (A j))) ∧ w'.cell? ⟨g, j * 3 + 1, none⟩ = some (.slice a l k) ∧ w'.cell? ⟨g, j * 3 + 2, none⟩ = some (.bool (A j).isSome)) ∧
    HR P w (.agg #[.int .i64 (oN (A j)), .slice a l k, .bool (A j).isSome]) (A j) := by
  obtain ⟨cs, h1, h2, h3⟩ := h
  obtain ⟨u, h4, h5⟩ := h3 j hj
  obtain ⟨a, k, rfl⟩ := (sl_rd h5).form
  refine ⟨_, _, _, fun w' hw' => ?_, _, rfl, h5⟩
  rw [h1] at hw'
  have e0 := h4 0 (by omega)
  have e1 := h4 1 (by omega)
  have e2 := h4 2 (by omega)
  simp only [Nat.add_zero] at e0
  refine ⟨?_, ?_, ?_⟩ <;> simp [World.cell?, hw', e0, e1, e2, hcells]
theorem HRow.free (h : HRow P g m A w) (k : Nat) : w.frozen? ⟨g, k, none⟩ = false := by obtain ⟨cs, h1, h2, h3⟩ := h; simp [World.frozen?, h1]
theorem grown_cellsAt3 (w : World) (b : Nat) (k0 k1 k2 : Nat) (v0 v1 v2 : Value) : w.grownBy (((w.setCell ⟨b, k0, none⟩ v0).setCell ⟨b, k1, none⟩ v1).setCell ⟨b, k2, none⟩ v2) (some b) := by
  refine ⟨rfl, rfl, rfl, by simp [World.setCell], fun k _ hn => ?_⟩
  have hne : ¬ k = b := fun e => hn (by rw [e])
  rw [Below.heap_setCell _ _ _ _ hne, Below.heap_setCell _ _ _ _ hne, Below.heap_setCell _ _ _ _ hne]
theorem HRow.set (h : HRow P g m A w) {j : Nat} (hj : j < m) {o : Option Val} {u : Value} (hu : Rd P w (D.ints (oW o)) [u]) (hg : ¬ P g) (he : ∀ k, k < m → A' k = if k = j then o else A k) :
    HRow P g m A' (((w.setCell ⟨g, j * 3, none⟩ (.int .i64 (oN o))).setCell ⟨g, j * 3 + 1, none⟩ u).setCell ⟨g, j * 3 + 2, none⟩ (.bool o.isSome)) := by
  have hgr := grown_cellsAt3 w g (j * 3) (j * 3 + 1) (j * 3 + 2) (.int .i64 (oN o)) u (.bool o.isSome)
  have hp : ∀ k, some g = some k → ¬ P k := fun k e => by cases e; exact hg
  obtain ⟨cs, h1, h2, h3⟩ := h
  have b0 := bx_set h1 (j * 3) (.int .i64 (oN o))
  have b1 := bx_set b0 (j * 3 + 1) u
  have b2 := bx_set b1 (j * 3 + 2) (.bool o.isSome)
  refine ⟨_, b2, by simpa using h2, fun k hk => ?_⟩
  rw [he k hk]
  by_cases e : k = j
  · subst e
    rw [if_pos rfl]
    refine ⟨u, fun c hc => ?_, rd_grown hu hgr hp⟩
    simp only [Array.getElem?_setIfInBounds, Array.size_setIfInBounds]
    match c, hc with
    | 0, _ => simp [hcells, h2]; omega
    | 1, _ => simp [hcells, h2]; omega
    | 2, _ => simp [hcells, h2]; omega
  · rw [if_neg e]
    obtain ⟨u', h4, h5⟩ := h3 k hk
    refine ⟨u', fun c hc => ?_, rd_grown h5 hgr hp⟩
    rw [← h4 c hc]
    simp only [Array.getElem?_setIfInBounds, Array.size_setIfInBounds]
    rw [if_neg (by omega), if_neg (by omega), if_neg (by omega)]
theorem made_at3 (z0 z1 z2 : Value) (m j c : Nat) (hj : j < m) (hc : c < 3) : (madeCells #[z0, z1, z2] (m * 3))[j * 3 + c]? = some (#[z0, z1, z2][c]'(by simpa using hc)) := by
  have h1 : j * 3 + c < m * 3 := by omega
  have h2 : (j * 3 + c) % 3 = c := by omega
  simp only [madeCells]
  rw [Array.getElem?_map, Array.getElem?_range, if_pos h1]
  have h3 : (#[z0, z1, z2] : Array Value).size = 3 := rfl
  simp only [Option.map_some, h3, h2]
  match c, hc with
  | 0, _ => rfl
  | 1, _ => rfl
  | 2, _ => rfl
theorem hrow_new (P : Nat → Prop) (w : World) (m : Nat) {g : Nat} (hg : g = w.heap.size) : HRow P g m (fun _ => none) (w.alloc (.cells (madeCells #[.int .i64 0, .slice none 0 0, .bool false] (m * 3)) 91)) := by
  subst hg
  refine ⟨_, bx_new _ _ _ rfl, by rw [size_madeCells], fun j hj => ⟨.slice none 0 0, fun c hc => ?_, rd_nil _ _⟩⟩
  rw [made_at3 _ _ _ _ _ _ hj hc]
  match c, hc with
  | 0, _ => rfl
  | 1, _ => rfl
  | 2, _ => rfl
end
end Hl
end Go.Proofs.Ytjpmebppdcclbaa
namespace Go.Proofs.Ytjpmebppdcclbaa
open Go.RowKit
namespace Hl
open Rp
structure BH (P : Nat → Prop) (lo bb : Nat) (ra : Nat → Nat) (rb : Nat → Nat → Nat) (N n : Nat) (T : Tb) (w : World) : Prop where
  top : ∀ a, a < N → w.cell? ⟨bb, a, none⟩ = some (.slice (some ⟨ra a, 0, none⟩) (n + 1) (n + 1))
  mid : ∀ a, a < N → ∀ i, i ≤ n → w.cell? ⟨ra a, i, none⟩ = some (.slice (some ⟨rb a i, 0, none⟩) (n + 1) (n + 1))
  row : ∀ a, a < N → ∀ i, i ≤ n → HRow P (rb a i) (n + 1) (T (a : Int) i) w
  lb : ∀ a, a < N → ∀ i, i ≤ n → lo ≤ rb a i
  inj : ∀ a a' i i', a < N → a' < N → i ≤ n → i' ≤ n → rb a i = rb a' i' → a = a' ∧ i = i'
  ne : ∀ a i, a < N → i ≤ n → rb a i ≠ bb ∧ ∀ a', a' < N → rb a i ≠ ra a'
  no : ∀ a i, a < N → i ≤ n → ¬ P (rb a i)
section
variable {P P' : Nat → Prop} {lo bb : Nat} {ra : Nat → Nat} {rb : Nat → Nat → Nat} {N n : Nat} {T : Tb} {w w' : World}
theorem BH.keep (h : BH P lo bb ra rb N n T w) (hb : Below w.heap.size w w') : BH P lo bb ra rb N n T w' :=
  ⟨fun a ha => (hb.cell (p := ⟨bb, a, none⟩) (lt_of_cell (h.top a ha))).trans (h.top a ha), fun a ha i hi => (hb.cell (p := ⟨ra a, i, none⟩) (lt_of_cell (h.mid a ha i hi))).trans (h.mid a ha i hi), fun a ha i hi => (h.row a ha i hi).keep hb, h.lb, h.inj, h.ne, h.no⟩
theorem BH.mono (h : BH P lo bb ra rb N n T w) (hp : ∀ k, P k → k < w.heap.size → P' k) (hno : ∀ a i, a < N → i ≤ n → ¬ P' (rb a i)) : BH P' lo bb ra rb N n T w :=
  ⟨h.top, h.mid, fun a ha i hi => (h.row a ha i hi).mono hp, h.lb, h.inj, h.ne, hno⟩
theorem BH.set (h : BH P lo bb ra rb N n T w) {a i j : Nat} (ha : a < N) (hi : i ≤ n) (hj : j ≤ n) {o : Option Val} {u : Value} (hu : Rd P w (D.ints (oW o)) [u]) :
    BH P lo bb ra rb N n (upd T (a : Int) i j o) (((w.setCell ⟨rb a i, j * 3, none⟩ (.int .i64 (oN o))).setCell ⟨rb a i, j * 3 + 1, none⟩ u).setCell ⟨rb a i, j * 3 + 2, none⟩ (.bool o.isSome)) := by
  have hg := grown_cellsAt3 w (rb a i) (j * 3) (j * 3 + 1) (j * 3 + 2) (.int .i64 (oN o)) u (.bool o.isSome)
  refine ⟨fun a' ha' => cell_grown (h.top a' ha') hg (by simp; exact (h.ne a i ha hi).1), fun a' ha' i' hi' => cell_grown (h.mid a' ha' i' hi') hg (by simp; exact (h.ne a i ha hi).2 a' ha'), fun a' ha' i' hi' => ?_, h.lb, h.inj, h.ne, h.no⟩
  by_cases e : a' = a ∧ i' = i
  · obtain ⟨rfl, rfl⟩ := e
    refine (h.row a' ha' i' hi').set (by omega) hu (h.no _ _ ha' hi') (fun k hk => ?_)
    unfold upd
    by_cases e : k = j
    · rw [if_pos e, if_pos ⟨rfl, rfl, e⟩]
    · rw [if_neg e, if_neg (fun h => e h.2.2)]
  · have hne : rb a i ≠ rb a' i' := fun h' => e (by obtain ⟨e1, e2⟩ := h.inj a a' i i' ha ha' hi hi' h'; exact ⟨e1.symm, e2.symm⟩)
    refine ((h.row a' ha' i' hi').grown hg (by simpa using hne) (fun k e => by cases e; exact h.no _ _ ha hi)).eq (fun k hk => ?_)
    unfold upd
    rw [if_neg (fun h' => e ⟨by omega, h'.2.1⟩)]
end
structure FM (fb : Nat) (gt gn gs : Int) (gr lv bv : Value) (l : List Sym) (W : World) : Prop where
  box : W.heap[fb]? = some (.cells #[.int .i64 gt, .int .i64 gn, .int .i64 gs, gr, lv, bv] 137 (0, 0))
  row : Rd (fun k => k < fb) W (.sl (l.map Sym.d)) [lv]
theorem FM.keep {fb : Nat} {gt gn gs : Int} {gr lv bv : Value} {l : List Sym} {W W' : World} (h : FM fb gt gn gs gr lv bv l W) (hb : Below W.heap.size W W') : FM fb gt gn gs gr lv bv l W' := ⟨bx_keep h.box hb, h.row.below hb⟩
theorem FM.grown {fb : Nat} {gt gn gs : Int} {gr lv bv : Value} {l : List Sym} {W W' : World} {row : Option Nat} (h : FM fb gt gn gs gr lv bv l W) (hg : W.grownBy W' row) (hr : ∀ k, row = some k → fb < k) : FM fb gt gn gs gr lv bv l W' := by
  refine ⟨(hg.block fb (Array.getElem?_eq_some_iff.1 h.box).1 (fun e => by have := hr fb e.symm; omega)).trans h.box, rd_grown h.row hg (fun k e h2 => ?_)⟩
  have := hr k e
  have h3 : k < fb := h2
  omega
theorem FM.setb {fb : Nat} {gt gn gs : Int} {gr lv bv : Value} {l : List Sym} {W : World} (h : FM fb gt gn gs gr lv bv l W) (bv' : Value) : FM fb gt gn gs gr lv bv' l (W.setCell ⟨fb, 0 + 5, none⟩ bv') := by
  refine ⟨?_, rd_grown h.row (grown_cell W ⟨fb, 0 + 5, none⟩ bv') (fun k e h => by cases e; exact Nat.lt_irrefl _ h)⟩
  have := bx_set h.box (0 + 5) bv'
  simpa using this
theorem FM.lt {fb : Nat} {gt gn gs : Int} {gr lv bv : Value} {l : List Sym} {W : World} (h : FM fb gt gn gs gr lv bv l W) : fb < W.heap.size := (Array.getElem?_eq_some_iff.1 h.box).1
theorem bx_cells6 {w : World} {b : Nat} {x0 x1 x2 x3 x4 x5 : Value} {T : TypeId} (h : w.heap[b]? = some (.cells #[x0, x1, x2, x3, x4, x5] T (0, 0))) :
    w.cell? ⟨b, 0, none⟩ = some x0 ∧ w.cell? ⟨b, 0 + 1, none⟩ = some x1 ∧ w.cell? ⟨b, 0 + 2, none⟩ = some x2 ∧ w.cell? ⟨b, 0 + 3, none⟩ = some x3 ∧ w.cell? ⟨b, 0 + 4, none⟩ = some x4 ∧ w.cell? ⟨b, 0 + 5, none⟩ = some x5 := by
  refine ⟨?_, ?_, ?_, ?_, ?_, ?_⟩ <;> simp [World.cell?, h]
set_option maxHeartbeats 4000000 in
set_option maxRecDepth 100000 in
theorem hsymE (fb : Nat) (gt gn gs : Int) (gr lv : Value) (sv : Sym → Option Val) (hsv : ∀ y, y.term = true → sv y = some ⟨0, 1, [y.n]⟩) (l : List Sym) (hl : l.length ≤ 12) (P : Nat → Prop) (lo bb : Nat) (ra : Nat → Nat) (rb : Nat → Nat → Nat) (N bk : Nat) (hNk : N ≤ 100) (T : Tb) (y : Sym) (hy : y.term = false → 0 ≤ y.n ∧ y.n < N) (i j : Nat) (hij : i ≤ j) (hj : j ≤ l.length)
    (W : World) (hm : FM fb gt gn gs gr lv (.slice (some ⟨bb, 0, none⟩) N bk) l W) (ht : BH P lo bb ra rb N l.length T W) (hP : ∀ k, P k → k < W.heap.size) :
    Calls Try.prog 108 #[.pointer (some ⟨fb, 0, none⟩), .agg #[.bool y.term, .int .i64 y.n], .int .i64 (i : Nat), .int .i64 (j : Nat)] W fun e w' => ∃ x, e = .returned x ∧ HR (fun k => P k ∨ W.heap.size ≤ k) w' x (hlT (leafH sv l) T y i j) ∧ Below W.heap.size W w' := by
  unfold hlT
  obtain ⟨bt, yn⟩ := y
  simp only at hy ⊢
  obtain ⟨w0, HW⟩ := nameIt ((W.alloc (.cells #[.bool bt, .int .i64 yn] 44)).alloc (.cells #[.int .i64 0, .slice none 0 0, .bool false] 91))
  have hw0 : Below W.heap.size W w0 := by
    rw [← HW.out]
    exact ((Below.refl _ _).alloc (Nat.le_refl _) _).alloc (by simp) _
  have HSZ : Hid (w0.heap.size = W.heap.size + 1 + 1) := by show _ = _; rw [← HW.out]; simp
  have HZ0 : Hid (w0.heap[W.heap.size + 1]? = some (.cells #[.int .i64 0, .slice none 0 0, .bool false] 91 (0, 0))) := by
    rw [← HW.out]; exact bx_new _ _ _ (by simp)
  have HY0 : Hid (w0.heap[W.heap.size]? = some (.cells #[.bool bt, .int .i64 yn] 44 (0, 0))) := by
    rw [← HW.out]; exact bx_keep (bx_new _ _ _ rfl) ((Below.refl _ _).alloc (Nat.le_refl _) _)
  have HB0 := Lib.hid hw0
  have HEND : Hid (∀ w3, Below w0.heap.size w0 w3 → ∀ (o : Option Val) u, HR (fun k => (P k ∨ W.heap.size ≤ k) ∧ k ≠ W.heap.size + 1) w3 (.agg #[.int .i64 (oN o), u, .bool o.isSome]) o → 
      ∃ x, Ending.returned (.agg #[.int .i64 (oN o), u, .bool o.isSome]) = .returned x ∧ HR (fun k => P k ∨ W.heap.size ≤ k) (((w3.setCell ⟨W.heap.size + 1, 0, none⟩ (.int .i64 (oN o))).setCell ⟨W.heap.size + 1, 0 + 1, none⟩ u).setCell ⟨W.heap.size + 1, 0 + 2, none⟩ (.bool o.isSome)) x o ∧ Below W.heap.size W (((w3.setCell ⟨W.heap.size + 1, 0, none⟩ (.int .i64 (oN o))).setCell ⟨W.heap.size + 1, 0 + 1, none⟩ u).setCell ⟨W.heap.size + 1, 0 + 2, none⟩ (.bool o.isSome))) := by
    intro w3 hb3 o u hv
    have hg := grown_cell3 w3 (W.heap.size + 1) (.int .i64 (oN o)) u (.bool o.isSome)
    have hB : Below W.heap.size W w3 := HB0.out.trans (hb3.mono HB0.out.size)
    refine ⟨_, rfl, (hv.grown hg ?_).mono (fun k h _ => h.1), hB.grown hg hB.size ?_⟩
    · intro k e h
      cases e
      exact h.2 rfl
    · intro k e
      cases e
      omega
  cases bt with
  | true =>
    simp only [if_true]
    have hcm := hm.keep hw0
    have hsy := hsv ⟨true, yn⟩ rfl
    have HLV := Lib.hid hcm.row
    obtain ⟨la, lk, rfl⟩ : ∃ a k, lv = .slice a l.length k := by
      obtain ⟨a, k, h1, _⟩ := hcm.row.form
      exact ⟨a, k, by simpa using h1⟩
    obtain ⟨ln, HLN⟩ := nameIt l.length
    have HJ : Hid (j ≤ l.length) := hj
    rw [HLN.out] at hj hl HLV hcm
    have HBX := Lib.hid hcm.box
    obtain ⟨i1, HI1⟩ := nameIt (i + 1)
    have hw1 : IntKind.i64.wrap ((i : Int) + 1) = (i1 : Int) := by have := HI1.out; rw [IntWalk.i64_in _ (by omega)]; omega
    have HJ0 : Hid (∀ o, leafH sv l ⟨true, yn⟩ i j = o → leafH sv l ⟨true, yn⟩ i j = o) := fun _ h => h
    by_cases he : j = i1
    · have hil : i < ln := by have := HI1.out; omega
      have hil' : (i : Int) < (ln : Int) := by omega
      have hilL : i < l.length := by rw [HLN.out]; exact hil
      obtain ⟨lb, lo2, hla, -, hlb, q0, q1⟩ := (show Rd (fun k => k < fb) w0 (.sl (l.map Sym.d)) [.slice la ln lk] from HLV.out).sym_at hilL
      subst hla
      obtain ⟨⟨ct, cn⟩, HC⟩ := nameIt l[i]
      rw [HC.out] at q0 q1
      have hde : ((j : Int) == (i1 : Int)) = true := by simp; omega
      have hleaf : leafH sv l ⟨true, yn⟩ i j = if isB ⟨true, yn⟩ ⟨ct, cn⟩ then some ⟨0, 1, [yn]⟩ else none := by
        unfold leafH
        have hg : l.getD i ⟨true, 0⟩ = ⟨ct, cn⟩ := by rw [List.getD_eq_getElem?_getD, List.getElem?_eq_getElem hilL]; exact HC.out
        rw [hg, ← isB_fit, hsy]
        by_cases hb : isB ⟨true, yn⟩ ⟨ct, cn⟩ = true
        · rw [if_pos ⟨by rw [he]; exact HI1.out.symm, hb, hilL⟩, if_pos hb]
        · rw [if_neg (fun h => hb h.2.1), if_neg hb]
      obtain ⟨o, HO⟩ := nameIt (leafH sv l ⟨true, yn⟩ i j)
      rw [HO.out] at hleaf ⊢
      obtain ⟨ib, HIB⟩ := nameIt (isB ⟨true, yn⟩ ⟨ct, cn⟩)
      rw [HIB.out] at hleaf
      have HIS : Hid (∀ W', Below w0.heap.size w0 W' → Calls Try.prog 94 #[.agg #[.bool true, .int .i64 yn], .agg #[.bool ct, .int .i64 cn]] W' fun e w' => e = .returned (.bool ib) ∧ Below W'.heap.size W' w') := by
        intro W' _
        have := isE ⟨true, yn⟩ ⟨ct, cn⟩ W'
        rw [HIB.out] at this
        exact this
      have HLF := Lib.hid hleaf
      obtain ⟨y0, y1⟩ := bx_cells2 HY0.out
      obtain ⟨b0, b1, b2, b3, b4, b5⟩ := bx_cells6 HBX.out
      have i0 := aft_cell y0
      have i2 := aft_cell y1
      have i3 := aft_cell b4
      have i4 := aft_cell q0
      have i5 := aft_cell q1
      clear hm ht hy hcm he hsy hleaf HJ0 hsv
      go_enter Try.func108, Try.ntmps108
      go_upto_region 1 with fail
      rw [HW.out]
      clear HW hw0 b0 b1 b2 b3 b4 b5 q0 q1
      go_wp2_with fail
      clear y0 y1
      refine wp_region_after (by kernel_rfl) (by kernel_rfl) ?_
      repeat (go_big_quiet_step (with_reducible exact Calls.after (HIS.out _ (Aft.bel _))))
      refine wpQuiet_nil ?_
      rintro w7 ⟨⟨_, hb7⟩, rfl⟩
      have HB7 := Lib.hid hb7
      clear i0 i2 i3 i4 i5
      obtain ⟨y0, y1⟩ := bx_cells2 (bx_keep HY0.out hb7)
      cases ib with
      | true =>
        have hal : Below w7.heap.size w7 (w7.alloc (.cells #[.int .i64 yn] 3)) := (Below.refl _ _).alloc (Nat.le_refl _) _
        obtain ⟨z0, z1, z2⟩ := bx_cells3 (bx_keep (bx_keep HZ0.out hb7) hal)
        obtain ⟨f0, f1, f2⟩ := bx_free3 (bx_keep (bx_keep HZ0.out hb7) hal)
        have HAL := Lib.hid hal
        have ho : o = some ⟨0, 1, [yn]⟩ := by rw [HLF.out]; rfl
        have HV9 : Hid (HR (fun k => (P k ∨ W.heap.size ≤ k) ∧ k ≠ W.heap.size + 1) (w7.alloc (.cells #[.int .i64 yn] 3)) (.agg #[.int .i64 1, .slice (some ⟨w7.heap.size, 0, none⟩) 1 1, .bool true]) (some ⟨0, 1, [yn]⟩)) := by
          refine ⟨_, rfl, ?_⟩
          have h1 := HSZ.out
          have h2 := HB7.out.size
          refine ⟨some ⟨w7.heap.size, 0, none⟩, 1, [.int .i64 yn], rfl, by simp [oW], by simp [maxLen], (fun e => by cases e), fun i hi => ?_, ?_⟩
          · simp at hi
            subst hi
            refine ⟨⟨w7.heap.size, 0, none⟩, rfl, ⟨.inr ?_, ?_⟩, ?_⟩
            · show W.heap.size ≤ w7.heap.size
              omega
            · show w7.heap.size ≠ W.heap.size + 1
              omega
            · rw [add_at]
              have hn := heap_alloc_new w7 (.cells #[.int .i64 yn] 3)
              simp only [World.cell?, hn]
              rfl
          · simp [oW, RdAll, Rd]
        subst ho
        clear hb7 hal HLF HO HIB
        go_wp2_with fail
        refine bodyPost_ret (v := .agg #[.int .i64 1, .slice (some ⟨w7.heap.size, 0, none⟩) 1 1, .bool true]) (by simp [results, Try.results108, go_sem, z0, z1, z2]) rfl ?_
        exact HEND.out _ (HB7.out.trans (HAL.out.mono HB7.out.size)) (some ⟨0, 1, [yn]⟩) _ HV9.out
      | false =>
        obtain ⟨z0, z1, z2⟩ := bx_cells3 (bx_keep HZ0.out hb7)
        obtain ⟨f0, f1, f2⟩ := bx_free3 (bx_keep HZ0.out hb7)
        have ho : o = none := by rw [HLF.out]; rfl
        subst ho
        clear hb7 HLF HO HIB
        go_wp2_with fail
        refine bodyPost_ret (v := .agg #[.int .i64 0, .slice none 0 0, .bool false]) (by simp [results, Try.results108, go_sem, z0, z1, z2]) rfl ?_
        exact HEND.out _ HB7.out none _ (HR.none _ _)
    · have hde : ((j : Int) == (i1 : Int)) = false := by simp; omega
      have hleaf : leafH sv l ⟨true, yn⟩ i j = none := by
        unfold leafH
        rw [if_neg (fun h => he (by rw [h.1]; exact HI1.out))]
      rw [hleaf]
      obtain ⟨y0, y1⟩ := bx_cells2 HY0.out
      clear hm ht hy hcm hsy hleaf HJ0 hsv
      go_enter Try.func108, Try.ntmps108
      go_upto_region 1 with fail
      rw [HW.out]
      clear HW hw0
      go_wp2_with fail
      clear y0 y1
      go_quiet (fail)
      have HB7 : Hid (Below w0.heap.size w0 (w0.drewN nq)) := below_drewN _ _
      obtain ⟨w7, HW7⟩ := nameIt (w0.drewN nq)
      rw [HW7.out] at HB7 ⊢
      obtain ⟨z0, z1, z2⟩ := bx_cells3 (bx_keep HZ0.out HB7.out)
      obtain ⟨f0, f1, f2⟩ := bx_free3 (bx_keep HZ0.out HB7.out)
      clear HW7
      go_wp2_with fail
      refine bodyPost_ret (v := .agg #[.int .i64 0, .slice none 0 0, .bool false]) (by simp [results, Try.results108, go_sem, z0, z1, z2]) rfl ?_
      exact HEND.out _ HB7.out none _ (HR.none _ _)
  | false =>
    simp only [Bool.false_eq_true, if_false]
    obtain ⟨hy1, hy2⟩ := hy rfl
    obtain ⟨a, rfl⟩ : ∃ a : Nat, yn = (a : Int) := ⟨yn.toNat, by omega⟩
    have haN : a < N := by omega
    have haN' : (a : Int) < (N : Int) := by omega
    obtain ⟨wn, HWN⟩ := nameIt l.length
    have hcm := hm.keep hw0
    have hbt := ht.keep hw0
    rw [HWN.out] at hbt hj hl
    have hbx := hcm.box
    have t0 := hbt.top a haN
    have t1 := hbt.mid a haN i (by omega)
    obtain ⟨au, mu, ku, hgc, hwr⟩ := (hbt.row a haN i (by omega)).get (j := j) (by omega)
    have hrl := (hbt.row a haN i (by omega)).lt
    obtain ⟨o, HO⟩ := nameIt (T (a : Int) i j)
    rw [HO.out] at hgc hwr ⊢
    obtain ⟨A, HA⟩ := nameIt (ra a)
    obtain ⟨B, HB⟩ := nameIt (rb a i)
    rw [HA.out] at t0 t1
    rw [HB.out] at t1 hgc hrl
    have hi' : (i : Int) < ((wn + 1 : Nat) : Int) := by omega
    have hj' : (j : Int) < ((wn + 1 : Nat) : Int) := by omega
    obtain ⟨m1, HM1⟩ := nameIt (wn + 1)
    rw [HM1.out] at t0 t1 hi' hj'
    have HBX := Lib.hid hbx
    have HGC := Lib.hid hgc
    have HWR := Lib.hid hwr
    have HRL := Lib.hid hrl
    have HT0 := Lib.hid t0
    have HT1 := Lib.hid t1
    have HCS : Hid (∀ w', Below w0.heap.size w0 w' → w'.cell? ⟨fb, 0 + 5, none⟩ = some (.slice (some ⟨bb, 0, none⟩) N bk) ∧ w'.cell? ⟨W.heap.size, 0 + 1, none⟩ = some (.int .i64 (a : Int)) ∧ w'.cell? ⟨bb, a, none⟩ = some (.slice (some ⟨A, 0, none⟩) m1 m1) ∧ w'.cell? ⟨A, i, none⟩ = some (.slice (some ⟨B, 0, none⟩) m1 m1) ∧
        w'.cell? ⟨B, j * 3, none⟩ = some (.int .i64 (oN o)) ∧ w'.cell? ⟨B, j * 3 + 1, none⟩ = some (.slice au mu ku) ∧ w'.cell? ⟨B, j * 3 + 2, none⟩ = some (.bool o.isSome)) := by
      intro w' hb'
      obtain ⟨h1, h2, h3, h4, h4', h5⟩ := bx_cells6 (bx_keep HBX.out hb')
      obtain ⟨h6, h7, h8⟩ := HGC.out w' (hb'.block B HRL.out)
      exact ⟨h5, (bx_cells2 (bx_keep HY0.out hb')).2, (hb'.cell (lt_of_cell HT0.out)).trans HT0.out, (hb'.cell (lt_of_cell HT1.out)).trans HT1.out, h6, h7, h8⟩
    obtain ⟨y0, y1⟩ := bx_cells2 HY0.out
    have HPP := Lib.hid hP
    clear hbx hgc hwr hrl t0 t1 hcm hbt hm ht hy hy1 hy2 HA HB HWN hP hsv
    go_enter Try.func108, Try.ntmps108
    go_upto_region 1 with fail
    rw [HW.out]
    clear HW hw0
    go_upto_region 2 with fail
    obtain ⟨c0, c1, c2, c3, c4, c5, c6⟩ := HCS.out w0 (Below.refl _ _)
    have i0 := aft_cell c0
    have i1 := aft_cell c1
    have i2 := aft_cell c2
    have i3 := aft_cell c3
    have i4 := aft_cell c4
    have i5 := aft_cell c5
    have i6 := aft_cell c6
    clear c0 c1 c2 c3 c4 c5 c6 y0 y1
    refine wp_region_after_tail 14 (by kernel_rfl) (by kernel_rfl) ?_
    simp only [List.take_succ_cons, List.take_zero, List.drop_succ_cons, List.drop_zero]
    repeat (go_big_quiet_step (fail))
    refine wpQuiet_nil ?_
    rintro w9 ⟨⟨_, hb9⟩, rfl⟩
    have HB9 := Lib.hid hb9
    obtain ⟨z0, z1, z2⟩ := bx_cells3 (bx_keep HZ0.out hb9)
    obtain ⟨f0, f1, f2⟩ := bx_free3 (bx_keep HZ0.out hb9)
    have HV9 : Hid (HR (fun k => (P k ∨ W.heap.size ≤ k) ∧ k ≠ W.heap.size + 1) w9 (.agg #[.int .i64 (oN o), .slice au mu ku, .bool o.isSome]) o) := (HWR.out.below hb9).mono (fun k hk _ => by
      have := HPP.out k hk
      exact ⟨.inl hk, by omega⟩)
    clear hb9 i0 i1 i2 i3 i4 i5 i6
    go_wp2_with fail
    refine bodyPost_ret (v := .agg #[.int .i64 (oN o), .slice au mu ku, .bool o.isSome]) (by simp [results, Try.results108, go_sem, z0, z1, z2]) rfl ?_
    exact HEND.out _ HB9.out o _ HV9.out
end Hl
end Go.Proofs.Ytjpmebppdcclbaa
namespace Go.Proofs.Ytjpmebppdcclbaa
open Go.RowKit
namespace Hl
open Rp
def NH (w0 : World) (P : Nat → Prop) (b : Nat) (o : Option Val) (w : World) : Prop :=
  Below w0.heap.size w0 w ∧ w0.heap.size ≤ b ∧ ∃ a m k, w.heap[b]? = some (.cells #[.int .i64 (oN o), .slice a m k, .bool o.isSome] 91 (0, 0)) ∧ Rd (fun k => P k ∧ k ≠ b) w (D.ints (oW o)) [.slice a m k]
theorem set3 {w : World} {b : Nat} {z0 z1 z2 : Value} {T : TypeId} (h : w.heap[b]? = some (.cells #[z0, z1, z2] T (0, 0))) (v0 v1 v2 : Value) :
    (((w.setCell ⟨b, 0, none⟩ v0).setCell ⟨b, 0 + 1, none⟩ v1).setCell ⟨b, 0 + 2, none⟩ v2).heap[b]? = some (.cells #[v0, v1, v2] T (0, 0)) := by
  have h0 := bx_set h 0 v0
  have h1 := bx_set h0 (0 + 1) v1
  have h2 := bx_set h1 (0 + 2) v2
  simpa using h2
theorem nh_mk {w0 w : World} {P : Nat → Prop} {b : Nat} {o : Option Val} {a : Option Addr} {m k : Nat} {z0 z1 z2 : Value} (hb : Below w0.heap.size w0 w) (hbb : w0.heap.size ≤ b) (hz : w.heap[b]? = some (.cells #[z0, z1, z2] 91 (0, 0)))
    (hr : Rd (fun k => P k ∧ k ≠ b) w (D.ints (oW o)) [.slice a m k]) : NH w0 P b o (((w.setCell ⟨b, 0, none⟩ (.int .i64 (oN o))).setCell ⟨b, 0 + 1, none⟩ (.slice a m k)).setCell ⟨b, 0 + 2, none⟩ (.bool o.isSome)) := by
  have hg := grown_cell3 w b (.int .i64 (oN o)) (.slice a m k) (.bool o.isSome)
  refine ⟨hb.grown hg hb.size (fun k e => by cases e; exact hbb), hbb, a, m, k, set3 hz _ _ _, rd_grown hr hg ?_⟩
  intro k e h
  cases e
  exact h.2 rfl
def hruleOk (V : Sym → Nat → Nat → Option Val) (M n : Nat) (r : Rule) : Prop := ∀ s ∈ r.right, ∀ k j, k ≤ j → j ≤ n → Bd M (V s k j) ∧ cO (V s k j)
theorem cO_both {o p : Option Val} (h : cO o) (h' : cO p) : cO (bothO o p) := by
  cases o with
  | none => rfl
  | some a =>
    cases p with
    | none => rfl
    | some b =>
      show a.c + b.c = 0
      have h1 : a.c = 0 := h
      have h2 : b.c = 0 := h'
      omega
theorem cO_symF {V : Sym → Nat → Nat → Option Val} {s : Sym} {at' : Nat → Option Val} {i n : Nat} (ha : ∀ k, k ≤ n → cO (at' k)) (hv : ∀ k j, k ≤ j → j ≤ n → cO (V s k j)) : ∀ m, i + m ≤ n + 1 → ∀ j, j ≤ n → cO (symF V s at' i m j)
  | 0, _, _, _ => rfl
  | m + 1, hm, j, hj => by
    show cO (stepK V s at' (i + m) (symF V s at' i m) j)
    unfold stepK
    split
    · rename_i h
      simp at h
      exact cO_both (ha _ (by omega)) (hv _ _ h.1 hj)
    · exact cO_symF ha hv m (by omega) j hj
theorem cO_startF (i j : Nat) : cO (startF i j) := by
  unfold startF
  split <;> rfl
theorem cO_foldF {V : Sym → Nat → Nat → Option Val} {i n : Nat} (hi : i ≤ n) : ∀ (l : List Sym) (at' : Nat → Option Val), (∀ s ∈ l, ∀ k j, k ≤ j → j ≤ n → cO (V s k j)) → (∀ j, j ≤ n → cO (at' j)) → ∀ j, j ≤ n → cO (foldF V i n l at' j)
  | [], _, _, ha, j, hj => ha j hj
  | s :: l, at', hv, ha, j, hj => cO_foldF hi l (symF V s at' i (n + 1 - i)) (fun s hs => hv s (by simp [hs])) (fun j hj => cO_symF ha (hv s (by simp)) _ (by omega) j hj) j hj
def cnd (o p t : Option Val) : Bool :=
  match o, p, t with
  | some a, some b, some t => decide (a.n + b.n ≤ t.n)
  | some _, some _, none => true
  | _, _, _ => false
theorem cnd_no {o p t : Option Val} (ho : cO o) (hp : cO p) (ht : cO t) (h : cnd o p t = false) : lessB (bothO o p) t = false := by
  cases o with
  | none => cases t <;> rfl
  | some a =>
    cases p with
    | none => cases t <;> rfl
    | some b =>
      cases t with
      | none => simp [cnd] at h
      | some t =>
        have h1 : a.c = 0 := ho
        have h2 : b.c = 0 := hp
        have h3 : t.c = 0 := ht
        simp only [cnd, decide_eq_false_iff_not] at h
        show lessX true (a.c + b.c) (a.n + b.n) _ true t.c t.n t.w = false
        rw [lessX_tt, if_neg (by omega), if_pos (by omega)]
        exact decide_eq_false (by omega)
set_option maxHeartbeats 8000000 in
set_option maxRecDepth 100000 in
theorem hruleE (fb : Nat) (gt gn gs : Int) (gr lv : Value) (sv : Sym → Option Val) (hsv : ∀ y, y.term = true → sv y = some ⟨0, 1, [y.n]⟩) (l : List Sym) (hl : l.length ≤ 12) (P : Nat → Prop) (lo bb : Nat) (ra : Nat → Nat) (rb : Nat → Nat → Nat) (N bk : Nat) (hNk : N ≤ 100) (T : Tb) (M : Nat) (hM : M ≤ 288230376151711744)
    (r : Rule) (hr : ∀ s ∈ r.right, s.term = false → 0 ≤ s.n ∧ s.n < N) (hr4 : r.right.length ≤ 4) (hV : hruleOk (hlT (leafH sv l) T) M l.length r) (i : Nat) (hi : i ≤ l.length)
    (W : World) (hm : FM fb gt gn gs gr lv (.slice (some ⟨bb, 0, none⟩) N bk) l W) (ht : BH P lo bb ra rb N l.length T W) (hP : ∀ k, P k → k < W.heap.size) (rv : Value) (hs : Rd AnyB W (.sl (r.right.map Sym.d)) [rv]) :
    Calls Try.prog 90 #[.pointer (some ⟨fb, 0, none⟩), .agg #[.int .i64 r.left, rv], .int .i64 (i : Nat)] W fun e w' => ∃ g, e = .returned (.slice (some ⟨g, 0, none⟩) (l.length + 1) (l.length + 1)) ∧ W.heap.size ≤ g ∧ HRow (fun k => (P k ∨ W.heap.size ≤ k) ∧ k ≠ g) g (l.length + 1) (rvH (leafH sv l) l.length T r i) w' ∧ Below W.heap.size W w' := by
  obtain ⟨ra0, rk, rfl, hrc1, hrc2⟩ := hs.form
  rw [List.length_map] at hrc1 ⊢
  obtain ⟨rn, HRN⟩ := nameIt r.right.length
  rw [HRN.out] at hrc1 hr4 ⊢
  unfold maxLen at hrc2
  obtain ⟨rl, HRL⟩ := nameIt r.left
  rw [HRL.out]
  have hs0 := hs
  rw [List.length_map, HRN.out] at hs0
  have HSYM : Hid (∀ (s : Sym), s ∈ r.right → ∀ (T' : Tb) W' k j, T' = T → k ≤ j → j ≤ l.length → Below W.heap.size W W' → Calls Try.prog 108 #[.pointer (some ⟨fb, 0, none⟩), .agg #[.bool s.term, .int .i64 s.n], .int .i64 (k : Nat), .int .i64 (j : Nat)] W' fun e w' => ∃ x, e = .returned x ∧ HR (fun q => P q ∨ W'.heap.size ≤ q) w' x (hlT (leafH sv l) T s k j) ∧ Below W'.heap.size W' w') := by
    intro s hsr T' W' k j _ hkj hj hb
    exact hsymE fb gt gn gs gr lv sv hsv l hl P lo bb ra rb N bk hNk T s (hr s hsr) k j hkj hj W' (hm.keep hb) (ht.keep hb) (fun k hk => Nat.lt_of_lt_of_le (hP k hk) hb.size)
  have hbx := hm.box
  obtain ⟨la, lk, rfl⟩ : ∃ a k, lv = .slice a l.length k := by
    obtain ⟨a, k, h1, _⟩ := hm.row.form
    exact ⟨a, k, by simpa using h1⟩
  have HRF : Hid (∀ V n, V = hlT (leafH sv l) T → n = l.length → rvH (leafH sv l) l.length T r i = foldF V i n (r.right.take rn) (startF i)) := by
    intro V n h1 h2
    rw [h1, h2]
    funext j
    unfold rvH
    rw [List.take_of_length_le (by rw [HRN.out]; exact Nat.le_refl _)]
  obtain ⟨RV, HRV⟩ := nameIt (rvH (leafH sv l) l.length T r i)
  obtain ⟨V, HV⟩ := nameIt (hlT (leafH sv l) T)
  rw [HRV.out] at HRF ⊢
  rw [HV.out] at hV HSYM
  obtain ⟨n, HN⟩ := nameIt l.length
  have hrf := HRF.out V n HV.out.symm HN.out.symm
  rw [HN.out] at hl hi hV HSYM hbx ⊢
  obtain ⟨n1, HN1⟩ := nameIt (n + 1)
  rw [HN1.out]
  have hn1 : IntKind.i64.wrap ((n : Int) + 1) = (n1 : Int) := by have := HN1.out; rw [IntWalk.i64_in _ (by omega)]; omega
  have hmk : ∀ W : World, (Instr.makeSlice 139 (.int .i64 (n1 : Int)) (.int .i64 (n1 : Int))).run Try.prog W = .ok (.slice (some ⟨W.heap.size, 0, none⟩) n1 n1) (W.alloc (.cells (madeCells #[.int .i64 0, .slice none 0 0, .bool false] (n1 * 3)) 91)) := fun W => by
    obtain ⟨ti, h1, h2, h3, h4⟩ := info_parts (show (Try.prog.info? 91).map (fun i => (i.zero, i.size, i.bytes)) = some (some (.agg #[.int .i64 0, .slice none 0 0, .bool false]), 3, 40) by kernel_rfl)
    have := HN1.out
    have := run_makeSlice W 139 91 ti _ Try.underlying139 h1 h2 .i64 .i64 (n1 : Int) (n1 : Int) (by omega) (by omega) (by rw [h3]; omega) (by rw [h4]; omega) (by omega)
    simpa [h3, Value.cells] using this
  have HMK := Lib.hid hmk
  obtain ⟨PST, HP⟩ := nameIt (fun (e : Ending) (w' : World) => ∃ g, e = .returned (.slice (some ⟨g, 0, none⟩) n1 n1) ∧ W.heap.size ≤ g ∧ HRow (fun k => (P k ∨ W.heap.size ≤ k) ∧ k ≠ g) g n1 RV w' ∧ Below W.heap.size W w')
  have HFIN : Hid (∀ g w', W.heap.size ≤ g → HRow (fun k => (P k ∨ W.heap.size ≤ k) ∧ k ≠ g) g n1 RV w' → Below W.heap.size W w' → PST (.returned (.slice (some ⟨g, 0, none⟩) n1 n1)) w') := by
    intro g w' h1 h2 h3; rw [← HP.out]; exact ⟨g, rfl, h1, h2, h3⟩
  rw [HP.out]
  clear HP
  obtain ⟨w1, HW1⟩ := nameIt ((W.alloc (.cells #[.int .i64 rl, .slice ra0 rn rk] 69)).alloc (.cells (madeCells #[.int .i64 0, .slice none 0 0, .bool false] (n1 * 3)) 91))
  obtain ⟨-, -, -, -, b4, -⟩ := bx_cells6 (bx_keep hbx ((Below.refl W.heap.size W).alloc (Nat.le_refl _) (.cells #[.int .i64 rl, .slice ra0 rn rk] 69)))
  have hw1 : Below W.heap.size W w1 := by
    rw [← HW1.out]
    exact ((Below.refl _ _).alloc (Nat.le_refl _) _).alloc (by simp) _
  have HSZ1 : Hid (w1.heap.size = W.heap.size + 1 + 1) := by show _ = _; rw [← HW1.out]; simp
  have HR1 : Hid (w1.heap[W.heap.size]? = some (.cells #[.int .i64 rl, .slice ra0 rn rk] 69 (0, 0))) := by
    rw [← HW1.out]; exact bx_keep (bx_new _ _ _ rfl) ((Below.refl _ _).alloc (Nat.le_refl _) _)
  have HG1 : Hid (HRow (fun k => (P k ∨ W.heap.size ≤ k) ∧ k ≠ W.heap.size + 1) (W.heap.size + 1) n1 (fun _ => none) w1) := by
    rw [← HW1.out]
    exact hrow_new _ _ n1 (by simp)
  have HB1 := Lib.hid hw1
  have hbx1 := bx_keep hbx hw1
  have hi' : (i : Int) ≤ (n : Int) := by omega
  have HPP := Lib.hid hP
  have HHV := Lib.hid hV
  have HSS := Lib.hid hs0
  have HBX := Lib.hid hbx1
  have HRF2 := Lib.hid hrf
  clear hmk hw1 hbx hbx1 hV hP hs hs0 hm ht hr hsv hrf HRF HRV HV HN
  obtain ⟨k0, k1⟩ := bx_cells2 HR1.out
  have hmkW := HMK.out (W.alloc (.cells #[.int .i64 rl, .slice ra0 rn rk] 69))
  have hin1 : (i : Int) < (n1 : Int) := by have := HN1.out; omega
  have hwz : ∀ k, w1.frozen? ⟨W.heap.size + 1, k, none⟩ = false := HG1.out.free
  obtain ⟨au0, mu0, ku0, hgc0, -⟩ := HG1.out.get (j := i) (by have := HN1.out; omega)
  obtain ⟨g0, g1, g2⟩ := hgc0 w1 rfl
  have f0 := hwz (i * 3)
  have f1 := hwz (i * 3 + 1)
  have f2 := hwz (i * 3 + 2)
  clear hwz hgc0
  go_enter Try.func90, Try.ntmps90
  go_upto_region 3 with fail
  rw [HW1.out]
  clear HW1 hmkW b4
  go_wp2_with fail
  have HGS : Hid (HRow (fun k => (P k ∨ W.heap.size ≤ k) ∧ k ≠ W.heap.size + 1) (W.heap.size + 1) n1 (foldF V i n (r.right.take 0) (startF i)) (((w1.setCell ⟨W.heap.size + 1, i * 3, none⟩ (.int .i64 0)).setCell ⟨W.heap.size + 1, i * 3 + 1, none⟩ (.slice none 0 0)).setCell ⟨W.heap.size + 1, i * 3 + 2, none⟩ (.bool true))) := by
    refine HG1.out.set (j := i) (o := some zero) (u := .slice none 0 0) (by have := HN1.out; omega) (rd_nil _ _) (fun h => h.2 rfl) (fun k hk => ?_)
    show startF i k = _
    unfold startF; rfl
  have HBS : Hid (Below W.heap.size W (((w1.setCell ⟨W.heap.size + 1, i * 3, none⟩ (.int .i64 0)).setCell ⟨W.heap.size + 1, i * 3 + 1, none⟩ (.slice none 0 0)).setCell ⟨W.heap.size + 1, i * 3 + 2, none⟩ (.bool true))) :=
    HB1.out.grown (grown_cellsAt3 _ _ _ _ _ _ _ _) HB1.out.size (fun k e => by cases e; omega)
  clear g0 g1 g2 f0 f1 f2 k0 k1
  go_loopg [8, 10, 11, 12, 13, 14, 15, 31] rn (fun gg v8 v10 v11 v12 v13 v14 v15 v31 wr => ∃ p g : Nat, p ≤ rn ∧ rn - p ≤ gg ∧ v8 = .slice (some ⟨g, 0, none⟩) n1 n1 ∧ v31 = .int .i64 (p : Nat) ∧ W.heap.size ≤ g ∧ Hid (Below W.heap.size W wr) ∧ Hid (HRow (fun k => (P k ∨ W.heap.size ≤ k) ∧ k ≠ g) g n1 (foldF V i n (r.right.take p) (startF i)) wr))
  case atStart => exact ⟨0, _, by omega, by omega, rfl, rfl, by omega, HBS, HGS⟩
  case round =>
    clear HGS HBS HG1 HR1 HB1 HSZ1 HBX w1
    obtain ⟨p, g, hp, hgg, rfl, rfl, hgW, HB, HA⟩ := hrel
    obtain ⟨w0, rfl⟩ : ∃ wo : World, wo = wr := ⟨_, rfl⟩
    obtain ⟨aF, HAT⟩ := nameIt (foldF V i n (r.right.take p) (startF i))
    by_cases hlt : p < rn
    · have hlt' : (p : Int) < (rn : Int) := by omega
      have hpl : p < r.right.length := by rw [HRN.out]; exact hlt
      obtain ⟨s, HS⟩ := nameIt (r.right[p]'hpl)
      have hsm : s ∈ r.right := by rw [← HS.out]; exact List.getElem_mem hpl
      have HNEXT : Hid (foldF V i n (r.right.take (p + 1)) (startF i) = symF V s aF i (n + 1 - i)) := by
        show _ = _
        rw [List.take_succ_eq_append_getElem hpl, HS.out, foldF_snoc, HAT.out]
      have HBA : Hid (∀ j, j ≤ n → Bd (p * M) (aF j)) := fun j hj => by
        have := bd_foldF (V := V) hi (r.right.take p) (startF i) 0 (fun s hs k j h1 h2 => (HHV.out s (List.mem_of_mem_take hs) k j h1 h2).1) (fun j _ => bd_startF i j) j hj
        rw [HAT.out] at this
        refine this.mono ?_
        rw [List.length_take, Nat.zero_add]
        exact Nat.mul_le_mul_right _ (Nat.min_le_left _ _)
      have HBV : Hid (∀ k j, k ≤ j → j ≤ n → Bd M (V s k j)) := fun k j h1 h2 => (HHV.out s hsm k j h1 h2).1
      have HCV : Hid (∀ k j, k ≤ j → j ≤ n → cO (V s k j)) := fun k j h1 h2 => (HHV.out s hsm k j h1 h2).2
      have HCA : Hid (∀ j, j ≤ n → cO (aF j)) := fun j hj => by
        have := cO_foldF (V := V) hi (r.right.take p) (startF i) (fun s hs k j h1 h2 => (HHV.out s (List.mem_of_mem_take hs) k j h1 h2).2) (fun j _ => cO_startF i j) j hj
        rw [HAT.out] at this
        exact this
      have hp3 : p * M ≤ 3 * M := Nat.mul_le_mul_right _ (by omega)
      rw [HAT.out] at HA
      obtain ⟨b', off', hae, -, -, c0, cc1⟩ := (HSS.out.below HB.out).sym_at hpl
      rw [HS.out] at c0 cc1
      subst hae
      have HSC : Hid (∀ W' k j, k ≤ j → j ≤ n → Below W.heap.size W W' → Calls Try.prog 108 #[.pointer (some ⟨fb, 0, none⟩), .agg #[.bool s.term, .int .i64 s.n], .int .i64 (k : Nat), .int .i64 (j : Nat)] W' fun e w' => ∃ x, e = .returned x ∧ HR (fun q => P q ∨ W'.heap.size ≤ q) w' x (V s k j) ∧ Below W'.heap.size W' w') := fun W' k j h1 h2 h3 => HSYM.out s hsm T W' k j rfl h1 h2 h3
      obtain ⟨st, HST⟩ := nameIt s.term
      obtain ⟨sn, HSN⟩ := nameIt s.n
      rw [HST.out] at c0 HSC
      rw [HSN.out] at cc1 HSC
      obtain ⟨w2, HW2⟩ := nameIt ((w0.alloc (.cells #[.bool st, .int .i64 sn] 44)).alloc (.cells (madeCells #[.int .i64 0, .slice none 0 0, .bool false] (n1 * 3)) 91))
      have hw2 : Below w0.heap.size w0 w2 := by
        rw [← HW2.out]
        exact ((Below.refl _ _).alloc (Nat.le_refl _) _).alloc (by simp) _
      have HS2 : Hid (w2.heap[w0.heap.size]? = some (.cells #[.bool st, .int .i64 sn] 44 (0, 0))) := by
        rw [← HW2.out]; exact bx_keep (bx_new _ _ _ rfl) ((Below.refl _ _).alloc (Nat.le_refl _) _)
      obtain ⟨b11, HB11⟩ := nameIt w0.heap.size
      obtain ⟨g2, HG2⟩ := nameIt (w0.heap.size + 1)
      have hgl : g < w0.heap.size := HA.out.lt
      have hsz2 : w2.heap.size = g2 + 1 := by rw [← HG2.out, ← HW2.out]; simp
      have hz0 := HB.out.size
      have HGB : Hid (W.heap.size ≤ b11 ∧ g < b11 ∧ b11 < g2 ∧ W.heap.size ≤ g2) := by
        show _ ∧ _ ∧ _ ∧ _
        rw [← HB11.out, ← HG2.out]; exact ⟨hz0, hgl, by omega, by omega⟩
      have HA2 : Hid (HRow (fun k => (P k ∨ W.heap.size ≤ k) ∧ k ≠ g ∧ k ≠ g2) g n1 aF w2) := by
        have hgg2 := HG2.out
        exact (HA.out.mono (fun k hk hl => ⟨hk.1, hk.2, by omega⟩)).keep hw2
      have HN2 : Hid (HRow (fun k => (P k ∨ W.heap.size ≤ k) ∧ k ≠ g ∧ k ≠ g2) g2 n1 (symF V s aF i 0) w2) := by
        rw [← HW2.out]
        exact hrow_new _ _ n1 (by rw [← HG2.out]; simp)
      have HB2 := Lib.hid (HB.out.trans (hw2.mono HB.out.size))
      rw [HB11.out] at HS2
      clear hw2 hsz2 hz0 hgl hsm
      have hmkW := HMK.out (w0.alloc (.cells #[.bool st, .int .i64 sn] 44))
      go_upto_region 8 with fail
      rw [HW2.out, HG2.out, HB11.out]
      clear HW2 HG2 HB11 hmkW c0 cc1 HB HA
      go_wp2_with fail
      go_loopg [12, 13, 14, 15] (n + 1 - i) (fun gg v12 v13 v14 v15 wr => ∃ m : Nat, i + m ≤ n + 1 ∧ n + 1 - (i + m) ≤ gg ∧ v12 = .int .i64 ((i + m : Nat) : Int) ∧ Hid (Below W.heap.size W wr) ∧ Hid (HRow (fun k => (P k ∨ W.heap.size ≤ k) ∧ k ≠ g ∧ k ≠ g2) g n1 aF wr) ∧ Hid (HRow (fun k => (P k ∨ W.heap.size ≤ k) ∧ k ≠ g ∧ k ≠ g2) g2 n1 (symF V s aF i m) wr) ∧ Hid (wr.heap[b11]? = some (.cells #[.bool st, .int .i64 sn] 44 (0, 0))) ∧ Hid (Below W.heap.size W wr))
      case atStart => exact ⟨0, by omega, by omega, rfl, HB2, HA2, HN2, HS2, HB2⟩
      case round =>
        clear HA2 HN2 HS2 HB2
        obtain ⟨m, hm, hgg2, rfl, HB, HA, HN, HS2, HBW⟩ := hrel
        obtain ⟨w3, rfl⟩ : ∃ wo : World, wo = wr := ⟨_, rfl⟩
        obtain ⟨k, HK⟩ := nameIt (i + m)
        rw [HK.out] at hm hgg2 ⊢
        obtain ⟨nF, HNF⟩ := nameIt (symF V s aF i m)
        have HBN : Hid (∀ j, j ≤ n → Bd (p * M + M) (nF j)) := fun j hj => by
          rw [← HNF.out]; exact bd_symF HBA.out HBV.out m (by rw [HK.out]; exact hm) j hj
        have HCN : Hid (∀ j, j ≤ n → cO (nF j)) := fun j hj => by
          rw [← HNF.out]; exact cO_symF HCA.out HCV.out m (by rw [HK.out]; exact hm) j hj
        rw [HNF.out] at HN
        have HSTEP : Hid (symF V s aF i (m + 1) = stepK V s aF k nF) := by
          show _ = _
          rw [← HK.out, ← HNF.out]; rfl
        by_cases hkn : k ≤ n
        · have hkn' : (k : Int) ≤ (n : Int) := by omega
          have hkn1 : (k : Int) < (n1 : Int) := by have := HN1.out; omega
          have hkn1n : k < n1 := by have := HN1.out; omega
          obtain ⟨ak, HAK⟩ := nameIt (aF k)
          obtain ⟨aa, ma, ka, hga, -⟩ := HA.out.get hkn1n
          obtain ⟨e1, e2, e3⟩ := hga w3 rfl
          rw [HAK.out] at e1 e3
          cases ak with
          | none =>
            have HN' : Hid (HRow (fun k => (P k ∨ W.heap.size ≤ k) ∧ k ≠ g ∧ k ≠ g2) g2 n1 (symF V s aF i (m + 1)) w3) := by
              rw [HSTEP.out]
              exact HN.out.eq (fun j _ => (stepK_none HAK.out j).symm)
            simp only [Option.isSome] at e3
            clear hga
            go_wp2_with fail
            go_loopg [13, 14, 15] 0 (fun gg v13 v14 v15 wr => v13 = .int .i64 (k : Nat) ∧ w3 = wr)
            case atStart => exact ⟨rfl, rfl⟩
            case round =>
            obtain ⟨rfl, rfl⟩ := hrel
            go_wp2_with fail
            go_roundg (n + 1 - (k + 1))
            case measure => omega
            case rel =>
              have hk := HK.out
              exact ⟨m + 1, by omega, by omega, by rw [show i + (m + 1) = k + 1 by omega]; go_num, HB, HA, HN', HS2, HBW⟩
          | some av =>
            simp only [Option.isSome] at e3
            clear hga
            go_wp2_with fail
            go_loopg [13, 14, 15] (n + 1 - k) (fun gg v13 v14 v15 wr => ∃ j : Nat, k ≤ j ∧ j ≤ n + 1 ∧ n + 1 - j ≤ gg ∧ v13 = .int .i64 (j : Nat) ∧ Hid (Below W.heap.size W wr) ∧ Hid (HRow (fun k => (P k ∨ W.heap.size ≤ k) ∧ k ≠ g ∧ k ≠ g2) g n1 aF wr) ∧ Hid (HRow (fun k => (P k ∨ W.heap.size ≤ k) ∧ k ≠ g ∧ k ≠ g2) g2 n1 (mixF (stepK V s aF k nF) nF j) wr) ∧ Hid (wr.heap[b11]? = some (.cells #[.bool st, .int .i64 sn] 44 (0, 0))) ∧ Hid (Below W.heap.size W wr))
            case atStart =>
              refine ⟨k, by omega, by omega, by omega, rfl, HB, HA, ?_, HS2, HBW⟩
              refine HN.out.eq (fun j _ => ?_)
              unfold mixF
              split
              · rename_i h; exact (stepK_lt h).symm
              · rfl
            case round =>
              clear HB HA HN HS2 HBW e1 e2 e3 w3
              obtain ⟨j, hkj, hjn1, hgg3, rfl, HB, HA, HN, HS2, HBW⟩ := hrel
              obtain ⟨w3, rfl⟩ : ∃ wo : World, wo = wr := ⟨_, rfl⟩
              by_cases hjn : j ≤ n
              · have hjn' : (j : Int) ≤ (n : Int) := by omega
                have hjn1' : (j : Int) < (n1 : Int) := by have := HN1.out; omega
                have hjn1n : j < n1 := by have := HN1.out; omega
                obtain ⟨aa, ma, ka, hga3, -⟩ := HA.out.get hkn1n
                obtain ⟨e1, e2, e3⟩ := hga3 w3 rfl
                rw [HAK.out] at e1 e3
                simp only [Option.isSome] at e3
                obtain ⟨s0, s1⟩ := bx_cells2 HS2.out
                clear hga3 e1 e2
                go_wp2_with fail
                refine (HSC.out w3 k j hkj hjn HBW.out).mono ?_
                rintro e w4 ⟨x, rfl, hv, hb4⟩
                obtain ⟨a1, m1, k1, rfl, hrd⟩ := hv.form
                have HBX9 := Lib.hid (HBV.out k j hkj hjn)
                have HCX9 := Lib.hid (HCV.out k j hkj hjn)
                obtain ⟨xo, HXO⟩ := nameIt (V s k j)
                rw [HXO.out] at hv hrd HBX9 HCX9
                rw [HXO.out]
                obtain ⟨w5, HW5⟩ := nameIt (w4.alloc (.cells #[.int .i64 (oN xo), .slice a1 m1 k1, .bool xo.isSome] 91))
                have hw5 : Below w4.heap.size w4 w5 := by rw [← HW5.out]; exact (Below.refl _ _).alloc (Nat.le_refl _) _
                have hb35 : Below w3.heap.size w3 w5 := hb4.trans (hw5.mono hb4.size)
                have HX5 : Hid (w5.heap[w4.heap.size]? = some (.cells #[.int .i64 (oN xo), .slice a1 m1 k1, .bool xo.isSome] 91 (0, 0))) := by rw [← HW5.out]; exact bx_new _ _ _ rfl
                have HSZ3 : Hid (g < w3.heap.size ∧ g2 < w3.heap.size) := ⟨HA.out.lt, HN.out.lt⟩
                have HVX : Hid (HR (fun q => P q ∨ w3.heap.size ≤ q) w5 (.agg #[.int .i64 (oN xo), .slice a1 m1 k1, .bool xo.isSome]) xo) := hv.below hw5
                have HA5 := Lib.hid (HA.out.keep hb35)
                have HN5 := Lib.hid (HN.out.keep hb35)
                have HS5 := Lib.hid (bx_keep HS2.out hb35)
                have HB5 := Lib.hid (HB.out.trans (hb35.mono HB.out.size))
                have HBW5 := Lib.hid (HBW.out.trans (hb35.mono HBW.out.size))
                have HB35 := Lib.hid hb35
                obtain ⟨b15, HB15⟩ := nameIt w4.heap.size
                rw [HB15.out] at HX5
                obtain ⟨aa, ma, ka, hga, hva⟩ := HA5.out.get hkn1n
                rw [HAK.out] at hga hva
                obtain ⟨an, mn, kn, hgn, hvn⟩ := HN5.out.get hjn1n
                have HMX : Hid (∀ y, y = nF j → mixF (stepK V s aF k nF) nF j j = y) := by
                  intro y e
                  rw [e]
                  unfold mixF
                  rw [if_neg (by omega)]
                have HBNJ := Lib.hid (HBN.out j hjn)
                have HCNJ := Lib.hid (HCN.out j hjn)
                have HBAK : Hid (Bd (p * M) (some av)) := by have := HBA.out k hkn; rw [HAK.out] at this; exact this
                have HCAK : Hid (cO (some av)) := by have := HCA.out k hkn; rw [HAK.out] at this; exact this
                obtain ⟨nx, HNX⟩ := nameIt (nF j)
                rw [HMX.out nx HNX.out.symm] at hgn hvn
                rw [HNX.out] at HBNJ HCNJ
                have HGA := Lib.hid hga
                have HGN := Lib.hid hgn
                have HVA := Lib.hid hva
                have HVN := Lib.hid hvn
                have hnx : av.n + oN xo ≤ 4611686018427387904 := by have h1 : av.n ≤ p * M := HBAK.out.2.2; have h2 := HBX9.out.2.2; omega
                obtain ⟨hb, HHB⟩ := nameIt (cnd (some av) xo nx)
                have HSJ : Hid (∀ y, y = V s k j → stepK V s aF k nF j = if lessB (bothO (some av) y) nx then bothO (some av) y else nx) := by
                  intro y e
                  rw [e]
                  unfold stepK
                  rw [HAK.out, HNX.out, show decide (k ≤ j) = true by simpa using hkj]
                  simp
                have hsj := HSJ.out xo HXO.out.symm
                have HSJX := Lib.hid hsj
                obtain ⟨q1, q2, q3⟩ := hga w5 rfl
                simp only [Option.isSome] at q3
                simp only [oN] at q1
                obtain ⟨d0, d1, d2⟩ := hgn w5 rfl
                obtain ⟨x0, x1, x2⟩ := bx_cells3 HX5.out
                clear hv hb4 hrd hw5 hb35 hga hgn hva hvn hsj s0 s1 e3
                go_upto_region 15 with fail
                rw [HW5.out, HB15.out]
                clear HW5 HB15
                go_cut [87] (fun t wx => t = .bool hb ∧ Hid (Below w5.heap.size w5 wx))
                case first =>
                  have hbb := HHB.out
                  cases xo with
                  | none =>
                    have hb2 : hb = false := by rw [← hbb]; rfl
                    subst hb2
                    simp only [Option.isSome] at x2
                    have i0 := aft_cell x2
                    clear x0 x1 x2 d0 d1 d2 q1 q2 q3 hbb
                    refine wp_region_after (by kernel_rfl) (by kernel_rfl) ?_
                    repeat (go_big_quiet_step (fail))
                    refine wpQuiet_nil ?_
                    rintro w6 ⟨⟨_, hb6⟩, rfl⟩
                    go_wp2_with fail
                    go_meet
                    exact ⟨rfl, hb6⟩
                  | some xv =>
                    simp only [Option.isSome, oN] at x0 x2 hnx
                    cases nx with
                    | none =>
                      have hb2 : hb = true := by rw [← hbb]; rfl
                      subst hb2
                      simp only [Option.isSome] at d2
                      have i0 := aft_cell x2
                      have i1 := aft_cell d2
                      clear x0 x1 x2 d0 d1 d2 q1 q2 q3 hbb
                      refine wp_region_after (by kernel_rfl) (by kernel_rfl) ?_
                      repeat (go_big_quiet_step (fail))
                      refine wpQuiet_nil ?_
                      rintro w6 ⟨⟨_, hb6⟩, rfl⟩
                      go_wp2_with fail
                      go_meet
                      exact ⟨rfl, hb6⟩
                    | some tv =>
                      simp only [Option.isSome, oN] at d0 d2
                      have hbt : hb = decide (av.n + xv.n ≤ tv.n) := by rw [← hbb]; rfl
                      obtain ⟨xn, HXN⟩ := nameIt xv.n
                      obtain ⟨an', HAN⟩ := nameIt av.n
                      obtain ⟨tn, HTN⟩ := nameIt tv.n
                      rw [HXN.out, HAN.out, HTN.out] at hbt
                      rw [HXN.out, HAN.out] at hnx
                      rw [HXN.out] at x0
                      rw [HAN.out] at q1
                      rw [HTN.out] at d0
                      have hwr : IntKind.i64.wrap ((an' : Int) + (xn : Int)) = (an' : Int) + (xn : Int) := IntWalk.i64_in _ (by omega)
                      have hdd : decide ((an' : Int) + (xn : Int) ≤ (tn : Int)) = hb := by rw [hbt]; exact decide_eq_decide.2 (by omega)
                      have i0 := aft_cell x2
                      have i1 := aft_cell d2
                      have i2 := aft_cell q1
                      have i3 := aft_cell x0
                      have i4 := aft_cell d0
                      clear x0 x1 x2 d0 d1 d2 q1 q2 q3 hbb HXN HAN HTN hbt
                      refine wp_region_after (by kernel_rfl) (by kernel_rfl) ?_
                      repeat (go_big_quiet_step (fail))
                      refine wpQuiet_nil ?_
                      rintro w6 ⟨⟨_, hb6⟩, rfl⟩
                      go_wp2_with fail
                      go_meet
                      exact ⟨rfl, hb6⟩
                case rest =>
                clear q1 q2 q3 d0 d1 d2 x0 x1 x2
                obtain ⟨rfl, HB56⟩ := hcut
                obtain ⟨w6, HW6⟩ := nameIt wc
                rw [HW6.out] at HB56 ⊢
                clear HW6
                have hb6 := HB56.out
                have HA6 := Lib.hid (HA5.out.keep hb6)
                have HN6 := Lib.hid (HN5.out.keep hb6)
                have HS6 := Lib.hid (bx_keep HS5.out hb6)
                have HB6 := Lib.hid (HB5.out.trans (hb6.mono HB5.out.size))
                have HBW6 := Lib.hid (HBW5.out.trans (hb6.mono HBW5.out.size))
                clear hb6
                have HMIX : Hid (∀ o, stepK V s aF k nF j = o → ∀ x, x < n1 → mixF (stepK V s aF k nF) nF (j + 1) x = if x = j then o else mixF (stepK V s aF k nF) nF j x) := by
                  intro o e x _
                  unfold mixF
                  by_cases h : x = j
                  · rw [h, if_pos (by omega), if_pos rfl, e]
                  · rw [if_neg h]
                    by_cases h' : x < j
                    · rw [if_pos h', if_pos (by omega)]
                    · rw [if_neg h', if_neg (by omega)]
                have HSAME : Hid (stepK V s aF k nF j = nx → ∀ x, x < n1 → mixF (stepK V s aF k nF) nF j x = mixF (stepK V s aF k nF) nF (j + 1) x) := by
                  intro e x hx
                  rw [HMIX.out nx e x hx]
                  by_cases h : x = j
                  · rw [if_pos h, h]; exact HMX.out nx HNX.out.symm
                  · rw [if_neg h]
                cases hb with
                | false =>
                  have HN7 := Lib.hid (HN6.out.eq (HSAME.out (by rw [HSJX.out, cnd_no HCAK.out HCX9.out HCNJ.out HHB.out]; rfl)))
                  go_wp2_with fail
                  go_roundg (n + 1 - (j + 1))
                  case measure => omega
                  case rel => exact ⟨j + 1, by omega, by omega, by omega, by go_num, HB6, HA6, HN7, HS6, HBW6⟩
                | true =>
                  cases xo with
                  | none => exact absurd HHB.out (by simp [cnd])
                  | some xv =>
                    have HTH : Hid (∀ W', Below w6.heap.size w6 W' → Calls Try.prog 109 #[.agg #[.int .i64 (oN (some av)), .slice aa ma ka, .bool true], .agg #[.int .i64 (oN (some xv)), .slice a1 m1 k1, .bool true]] W' fun e w' => ∃ z, e = .returned z ∧ HR (fun k => W'.heap.size ≤ k) w' z (some (thn av xv)) ∧ Below W'.heap.size W' w') := by
                      intro W' hb'
                      have h1 := HBAK.out
                      have h2 := HBX9.out
                      exact hthenE _ _ av xv _ _ W' (HVA.out.below (HB56.out.trans (hb'.mono HB56.out.size))) (HVX.out.below (HB56.out.trans (hb'.mono HB56.out.size))) (by have h3 := h1.2.2; have h4 := h2.2.2; simp only [oN] at h3 h4; omega) h1.w h2.w
                    obtain ⟨vo, HVO⟩ := nameIt (some (thn av xv))
                    rw [HVO.out] at HTH
                    have HCS : Hid (∀ w', Below w6.heap.size w6 w' → w'.cell? ⟨g, k * 3, none⟩ = some (.int .i64 (oN (some av))) ∧ w'.cell? ⟨g, k * 3 + 1, none⟩ = some (.slice aa ma ka) ∧ w'.cell? ⟨g, k * 3 + 2, none⟩ = some (.bool true) ∧
                        w'.cell? ⟨b15, 0, none⟩ = some (.int .i64 (oN (some xv))) ∧ w'.cell? ⟨b15, 0 + 1, none⟩ = some (.slice a1 m1 k1) ∧ w'.cell? ⟨b15, 0 + 2, none⟩ = some (.bool true)) := by
                      intro w' hb'
                      have hb57 := HB56.out.trans (hb'.mono HB56.out.size)
                      obtain ⟨h1, h2, h3⟩ := HGA.out w' (hb57.block g HA5.out.lt)
                      obtain ⟨h5, h6, h7⟩ := bx_cells3 (bx_keep HX5.out hb57)
                      exact ⟨h1, h2, h3, h5, h6, h7⟩
                    go_upto_region 16 with fail
                    go_cut [15] (fun t wx => ∃ b, t = .pointer (some ⟨b, 0, none⟩) ∧ Hid (NH w6 (fun k => w6.heap.size ≤ k) b vo wx))
                    case first =>
                      refine wp_region_U (S := (fun w' => w'.cell? ⟨g, k * 3, none⟩ = some (.int .i64 (oN (some av))) ∧ w'.cell? ⟨g, k * 3 + 1, none⟩ = some (.slice aa ma ka) ∧ w'.cell? ⟨g, k * 3 + 2, none⟩ = some (.bool true) ∧ w'.cell? ⟨b15, 0, none⟩ = some (.int .i64 (oN (some xv))) ∧ w'.cell? ⟨b15, 0 + 1, none⟩ = some (.slice a1 m1 k1) ∧ w'.cell? ⟨b15, 0 + 2, none⟩ = some (.bool true))) 7 (by kernel_rfl) (fun inv => ?_)
                      refine wpU_take (i := 0) (v := .slice (some ⟨g, 0, none⟩) n1 n1) rfl inv (by kernel_rfl) (by kernel_rfl) (by decide) (by decide) (by kernel_rfl) (by kernel_rfl) (by kernel_rfl) (fun _ _ _ h => h) (Or.inl ⟨by rfl, fun w' hw' => ?_⟩) (HCS.out _ (Below.refl _ _).drew) (fun inv => ?_)
                      · obtain ⟨h0, h1, h2, h3, h4, h5⟩ := hw'
                        go_simp
                      try simp only [Act.put, List.setIfInBounds_toArray, List.set_cons_zero, List.set_cons_succ]
                      refine wpU_take (i := 1) (v := .int .i64 (k : Nat)) rfl inv (by kernel_rfl) (by kernel_rfl) (by decide) (by decide) (by kernel_rfl) (by kernel_rfl) (by kernel_rfl) (fun _ _ _ h => h) (Or.inl ⟨by rfl, fun w' hw' => ?_⟩) (HCS.out _ (Below.refl _ _).drew) (fun inv => ?_)
                      · obtain ⟨h0, h1, h2, h3, h4, h5⟩ := hw'
                        go_simp
                      try simp only [Act.put, List.setIfInBounds_toArray, List.set_cons_zero, List.set_cons_succ]
                      refine wpU_take (i := 2) (v := .pointer (some ⟨g, k * 3, none⟩)) rfl inv (by kernel_rfl) (by kernel_rfl) (by decide) (by decide) (by kernel_rfl) (by kernel_rfl) (by kernel_rfl) (fun _ _ _ h => h) (Or.inl ⟨by rfl, fun w' hw' => ?_⟩) (HCS.out _ (Below.refl _ _).drew) (fun inv => ?_)
                      · obtain ⟨h0, h1, h2, h3, h4, h5⟩ := hw'
                        go_simp
                      try simp only [Act.put, List.setIfInBounds_toArray, List.set_cons_zero, List.set_cons_succ]
                      refine wpU_take (i := 3) (v := .agg #[.int .i64 (oN (some av)), .slice aa ma ka, .bool true]) rfl inv (by kernel_rfl) (by kernel_rfl) (by decide) (by decide) (by kernel_rfl) (by kernel_rfl) (by kernel_rfl) (fun _ _ _ h => h) (Or.inl ⟨by rfl, fun w' hw' => ?_⟩) (HCS.out _ (Below.refl _ _).drew) (fun inv => ?_)
                      · obtain ⟨h0, h1, h2, h3, h4, h5⟩ := hw'
                        go_simp
                      try simp only [Act.put, List.setIfInBounds_toArray, List.set_cons_zero, List.set_cons_succ]
                      refine wpU_take (i := 4) (v := .agg #[.int .i64 (oN (some xv)), .slice a1 m1 k1, .bool true]) rfl inv (by kernel_rfl) (by kernel_rfl) (by decide) (by decide) (by kernel_rfl) (by kernel_rfl) (by kernel_rfl) (fun _ _ _ h => h) (Or.inl ⟨by rfl, fun w' hw' => ?_⟩) (HCS.out _ (Below.refl _ _).drew) (fun inv => ?_)
                      · obtain ⟨h0, h1, h2, h3, h4, h5⟩ := hw'
                        go_simp
                      try simp only [Act.put, List.setIfInBounds_toArray, List.set_cons_zero, List.set_cons_succ]
                      refine wpU_2 (i := 5) (j := 6) (by kernel_rfl) rfl rfl (fun K hK => ?_) (fun K hK => ?_)
                      ·
                        replace inv := inv_setc (i := 5) inv (by kernel_rfl) (by decide)
                        go_simp
                        refine (HTH.out _ (Below.refl w6.heap.size w6).drew).mono ?_
                        rintro e w7 ⟨z, rfl, hz, hb7⟩
                        obtain ⟨az, mz, kz, rfl, hrz⟩ := hz.form
                        have HB7 : Hid (Below w6.heap.size w6 w7) := (Below.refl w6.heap.size w6).drew.trans (hb7.mono (Below.refl w6.heap.size w6).drew.size)
                        have HRZ := Lib.hid hrz
                        have HBb7 := Lib.hid hb7
                        clear hz hrz hb7
                        refine hK.out _ _ (fun _ => HCS.out _ HB7.out) ?_
                        clear hK K
                        try simp only [Act.put, List.setIfInBounds_toArray, List.set_cons_zero, List.set_cons_succ]
                        refine wpU_one (i := 6) (by kernel_rfl) rfl (fun K hK => ?_)
                        replace inv := inv_setc (i := 6) inv (by kernel_rfl) (by decide)
                        go_simp
                        have HB8 : Hid (Below w6.heap.size w6 (w7.alloc (.cells #[.int .i64 0, .slice none 0 0, .bool false] 91))) := HB7.out.alloc HB7.out.size _
                        refine hK.out _ _ (fun _ => HCS.out _ HB8.out) ?_
                        clear hK K
                        try simp only [Act.put, List.setIfInBounds_toArray, List.set_cons_zero, List.set_cons_succ]
                        refine wpU_one (i := 7) (by kernel_rfl) rfl (fun K hK => ?_)
                        go_simp
                        refine hK.out _ _ (fun h => absurd (show true = false from h) (by decide)) ?_
                        clear hK K
                        try simp only [Act.put, List.setIfInBounds_toArray, List.set_cons_zero, List.set_cons_succ]
                        refine wpU_done (by kernel_rfl) ?_ _
                        go_wp2_with fail
                        go_meet
                        refine ⟨w7.heap.size, rfl, ?_⟩
                        show NH _ _ _ _ _
                        have hs7 := HB7.out.size
                        refine ⟨HB7.out.alloc hs7 _, hs7, _, _, _, bx_new w7 _ _ rfl, (HRZ.out.mono (fun k hk hl => ⟨hk, ?_⟩)).below ((Below.refl _ _).alloc (Nat.le_refl _) _)⟩
                        omega
                      ·
                        replace inv := inv_setc (i := 6) inv (by kernel_rfl) (by decide)
                        go_simp
                        have HB8 : Hid (Below w6.heap.size w6 (w6.drew.alloc (.cells #[.int .i64 0, .slice none 0 0, .bool false] 91))) := (Below.refl w6.heap.size w6).drew.alloc (Nat.le_refl _) _
                        refine hK.out _ _ (fun _ => HCS.out _ HB8.out) ?_
                        clear hK K
                        try simp only [Act.put, List.setIfInBounds_toArray, List.set_cons_zero, List.set_cons_succ]
                        refine wpU_one (i := 5) (by kernel_rfl) rfl (fun K hK => ?_)
                        replace inv := inv_setc (i := 5) inv (by kernel_rfl) (by decide)
                        go_simp
                        refine (HTH.out _ HB8.out).mono ?_
                        rintro e w7 ⟨z, rfl, hz, hb7⟩
                        obtain ⟨az, mz, kz, rfl, hrz⟩ := hz.form
                        have HB7 : Hid (Below w6.heap.size w6 w7) := HB8.out.trans (hb7.mono HB8.out.size)
                        have HRZ := Lib.hid hrz
                        have HBb7 := Lib.hid hb7
                        clear hz hrz hb7
                        have HZ7 : Hid (w7.heap[w6.heap.size]? = some (.cells #[.int .i64 0, .slice none 0 0, .bool false] 91 (0, 0))) := bx_keep (bx_new w6.drew _ _ rfl) HBb7.out
                        refine hK.out _ _ (fun _ => HCS.out _ HB7.out) ?_
                        clear hK K
                        try simp only [Act.put, List.setIfInBounds_toArray, List.set_cons_zero, List.set_cons_succ]
                        refine wpU_one (i := 7) (by kernel_rfl) rfl (fun K hK => ?_)
                        obtain ⟨f0, f1, f2⟩ := bx_free3 HZ7.out
                        obtain ⟨y0, y1, y2⟩ := bx_cells3 HZ7.out
                        go_simp
                        refine hK.out _ _ (fun h => absurd (show true = false from h) (by decide)) ?_
                        clear hK K
                        try simp only [Act.put, List.setIfInBounds_toArray, List.set_cons_zero, List.set_cons_succ]
                        refine wpU_done (by kernel_rfl) ?_ _
                        go_wp2_with fail
                        go_meet
                        refine ⟨w6.heap.size, rfl, ?_⟩
                        show NH _ _ _ _ _
                        refine nh_mk (o := vo) HB7.out (Nat.le_refl _) HZ7.out (HRZ.out.mono (fun k hk hl => ?_))
                        have hk2 : w6.heap.size + 1 ≤ k := by simpa using hk
                        exact ⟨by show w6.heap.size ≤ k; omega, by omega⟩
                    case rest =>
                      obtain ⟨b16, rfl, HNW⟩ := hcut
                      obtain ⟨w7, HW7⟩ := nameIt wc
                      rw [HW7.out] at HNW ⊢
                      clear HW7 HCS
                      have hb67 := HNW.out.1
                      have hb57 := HB56.out.trans (hb67.mono HB56.out.size)
                      have HA7 := Lib.hid (HA6.out.keep hb67)
                      have HN7 := Lib.hid (HN6.out.keep hb67)
                      have HS7 := Lib.hid (bx_keep HS6.out hb67)
                      have HB7 := Lib.hid (HB6.out.trans (hb67.mono HB6.out.size))
                      have HBW7 := Lib.hid (HBW6.out.trans (hb67.mono HBW6.out.size))
                      obtain ⟨-, -, av16, am16, ak16, hx16, hr16⟩ := HNW.out
                      have HX16 := Lib.hid hx16
                      have HR16 := Lib.hid hr16
                      have hvn7 := HVN.out.below hb57
                      have hv16 : HR (fun k => (fun k => w6.heap.size ≤ k) k ∧ k ≠ b16) w7 (.agg #[.int .i64 (oN vo), .slice av16 am16 ak16, .bool vo.isSome]) vo := ⟨_, rfl, hr16⟩
                      have hwf : WfO vo := by
                        rw [← HVO.out]
                        intro v e
                        cases e
                        exact wf_thn (HBAK.out.1 _ rfl) (HBX9.out.1 _ rfl)
                      have hcv : cO vo := by
                        rw [← HVO.out]
                        exact cO_both (o := some av) (p := some xv) HCAK.out HCX9.out
                      obtain ⟨lb, HLB⟩ := nameIt (lessB vo nx)
                      have HLS : Hid (∀ W', Below w7.heap.size w7 W' → Calls Try.prog 91 #[.agg #[.int .i64 (oN vo), .slice av16 am16 ak16, .bool vo.isSome], .agg #[.int .i64 (oN nx), .slice an mn kn, .bool nx.isSome]] W' fun e w' => e = .returned (.bool lb) ∧ Below W'.heap.size W' w') := by
                        intro W' hb'
                        have := hlessE _ _ vo nx _ _ W' (hv16.below hb') (hvn7.below hb') hwf HBNJ.out.1 hcv HCNJ.out
                        rw [HLB.out] at this
                        exact this
                      have hsv : stepK V s aF k nF j = if lb then vo else nx := by
                        rw [HSJX.out]
                        show (if lessB (some (thn av xv)) nx then some (thn av xv) else nx) = _
                        rw [HVO.out, HLB.out]
                      have HSV := Lib.hid hsv
                      obtain ⟨d0, d1, d2⟩ := HGN.out w7 (hb57.block g2 HN5.out.lt)
                      obtain ⟨x0, x1, x2⟩ := bx_cells3 hx16
                      have i4 := aft_cell d0
                      have i5 := aft_cell d1
                      have i6 := aft_cell d2
                      have i8 := aft_cell x0
                      have i9 := aft_cell x1
                      have i10 := aft_cell x2
                      clear d0 d1 d2 x0 x1 x2 hb67 hb57 hx16 hr16 hvn7 hv16 hwf hsv hcv
                      go_upto_region 17 with fail
                      refine wp_region_after (by kernel_rfl) (by kernel_rfl) ?_
                      repeat (go_big_quiet_step (with_reducible exact Calls.after (HLS.out _ (Aft.bel _))))
                      refine wpQuiet_nil ?_
                      rintro w8 ⟨⟨_, hb8⟩, rfl⟩
                      clear i4 i5 i6 i8 i9 i10
                      have HA8 := Lib.hid (HA7.out.keep hb8)
                      have HN8 := Lib.hid (HN7.out.keep hb8)
                      have HS8 := Lib.hid (bx_keep HS7.out hb8)
                      have HB8 := Lib.hid (HB7.out.trans (hb8.mono HB7.out.size))
                      have HBW8 := Lib.hid (HBW7.out.trans (hb8.mono HBW7.out.size))
                      cases lb with
                      | false =>
                        have HN9 := Lib.hid (HN8.out.eq (HSAME.out (by rw [HSV.out]; rfl)))
                        clear hb8
                        go_wp2_with fail
                        go_roundg (n + 1 - (j + 1))
                        case measure => omega
                        case rel => exact ⟨j + 1, by omega, by omega, by omega, by go_num, HB8, HA8, HN9, HS8, HBW8⟩
                      | true =>
                        obtain ⟨x0, x1, x2⟩ := bx_cells3 (bx_keep HX16.out hb8)
                        obtain ⟨ad, md, kd, hgd, -⟩ := HN8.out.get hjn1n
                        obtain ⟨d0, d1, d2⟩ := hgd w8 rfl
                        clear hgd
                        have hfr := HN8.out.free
                        have f0 := hfr (j * 3)
                        have f1 := hfr (j * 3 + 1)
                        have f2 := hfr (j * 3 + 2)
                        have hgz := HGB.out
                        obtain ⟨hz1, hz2, hz3, hz4⟩ := hgz
                        have hs35 := HB35.out.size
                        have hs56 := HB56.out.size
                        have hsz3 := HSZ3.out
                        obtain ⟨hsz3a, hsz3b⟩ := hsz3
                        have hgr := grown_cellsAt3 w8 g2 (j * 3) (j * 3 + 1) (j * 3 + 2) (.int .i64 (oN vo)) (.slice av16 am16 ak16) (.bool vo.isSome)
                        have HN9 : Hid (HRow (fun k => (P k ∨ W.heap.size ≤ k) ∧ k ≠ g ∧ k ≠ g2) g2 n1 (mixF (stepK V s aF k nF) nF (j + 1)) (((w8.setCell ⟨g2, j * 3, none⟩ (.int .i64 (oN vo))).setCell ⟨g2, j * 3 + 1, none⟩ (.slice av16 am16 ak16)).setCell ⟨g2, j * 3 + 2, none⟩ (.bool vo.isSome))) := by
                          refine HN8.out.set hjn1n ((HR16.out.below hb8).mono (fun k hk _ => ?_)) (fun h => h.2.2 rfl) (HMIX.out vo (by rw [HSV.out]; rfl))
                          have hk2 : w6.heap.size ≤ k := hk.1
                          exact ⟨.inr (by omega), by omega, by omega⟩
                        have HA9 := Lib.hid (HA8.out.grown hgr (by simp; omega) (fun k e h => by cases e; exact h.2.2 rfl))
                        have HS9 := Lib.hid ((hgr.block b11 (Array.getElem?_eq_some_iff.1 HS8.out).1 (by simp; omega)).trans HS8.out)
                        have HB9 := Lib.hid (HB8.out.grown hgr HB8.out.size (fun k e => by cases e; omega))
                        have HBW9 := Lib.hid (HBW8.out.grown hgr HBW8.out.size (fun k e => by cases e; omega))
                        clear hb8 hfr hgr
                        go_wp2_with fail
                        go_roundg (n + 1 - (j + 1))
                        case measure => omega
                        case rel => exact ⟨j + 1, by omega, by omega, by omega, by go_num, HB9, HA9, HN9, HS9, HBW9⟩
              · have hjn' : ¬ (j : Int) ≤ (n : Int) := by omega
                have hd' : decide ((j : Int) ≤ (n : Int)) = false := by simp; omega
                have HN' : Hid (HRow (fun k => (P k ∨ W.heap.size ≤ k) ∧ k ≠ g ∧ k ≠ g2) g2 n1 (symF V s aF i (m + 1)) w3) := by
                  rw [HSTEP.out]
                  refine HN.out.eq (fun x hx => ?_)
                  unfold mixF
                  rw [if_pos (by have := HN1.out; omega)]
                go_wp2_with fail
                go_roundg (n + 1 - (k + 1))
                case measure => omega
                case rel =>
                  have hk := HK.out
                  exact ⟨m + 1, by omega, by omega, by rw [show i + (m + 1) = k + 1 by omega]; go_num, HB, HA, HN', HS2, HBW⟩
        · have hkn' : ¬ (k : Int) ≤ (n : Int) := by omega
          have HN' : Hid (HRow (fun k => (P k ∨ W.heap.size ≤ k) ∧ k ≠ g2) g2 n1 (foldF V i n (r.right.take (p + 1)) (startF i)) w3) := by
            have hk := HK.out
            rw [HNEXT.out, show n + 1 - i = m by omega, HNF.out]
            exact HN.out.mono (fun k hk _ => ⟨hk.1, hk.2.2⟩)
          go_wp2_with fail
          go_roundg (rn - (p + 1))
          case measure => omega
          case rel => exact ⟨p + 1, g2, by omega, by omega, rfl, by go_num, HGB.out.2.2.2, HBW, HN'⟩
    · have hlt' : ¬ (p : Int) < (rn : Int) := by omega
      obtain rfl : p = rn := by omega
      rw [← HRF2.out] at HA
      have HFI := Lib.hid (HFIN.out g w0 hgW HA.out HB.out)
      go_wp2_with fail
      exact HFI.out
end Hl
end Go.Proofs.Ytjpmebppdcclbaa
