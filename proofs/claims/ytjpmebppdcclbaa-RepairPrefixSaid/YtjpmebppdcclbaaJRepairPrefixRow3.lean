/- slices.Index, Contains, IndexFunc and ContainsFunc of whole numbers. (*corrector).one of repair. The contracts of tree.kids and tree.walk. The contracts of gram.CopyTree and tree.Clone. The contracts of Below and tree.At. The contract of tree.At. Trees with one subtree put in another's place: the words. Which trees are valid, in plain Lean: two ways to say it. Smaller trees, in plain Lean: two ways to list them, and that they agree. The contract of tree.Size. The contracts of Nodes, Yield and Codes. The contract of parts. A list of trees that is being made, beside memory that is only read. -/
import Derived.Test.YtjpmebppdcclbaaJRepairPrefixRow1
import Derived.Deep.LoopGhost
import Derived.Deep.Cut
import Derived.Shelf.Abstract
import Derived.Test.YtjpmebppdcclbaaJRepairPrefixRow2
import Derived.Lib.MinMax
import Derived.Deep.RegionHeld3
import Derived.StillTailTactics
import Derived.Deep.DeepCutAuto
import Derived.WalkSmall
namespace Go.Proofs.Ytjpmebppdcclbaa
open Go.RowKit
def PredAt (g : Nat) (lb : Array Value) (l : List Int) (p : Int → Bool) (w : World) : Prop :=
  ∀ (W : World) (x : Int), x ∈ l → Below w.heap.size w W → Calls Try.prog g (#[.int .i64 x] ++ lb) W fun e w' => e = .returned (.bool (p x)) ∧ Below W.heap.size W w'
def idxBy (p : Int → Bool) (l : List Int) : Int := if l.any p then (l.findIdx p : Int) else -1
theorem idxBy_hit {p : Int → Bool} {l : List Int} {i : Nat} (hi : i < l.length) (h : p l[i] = true) (hn : ∀ j (h : j < l.length), j < i → p l[j] = false) : idxBy p l = i := by
  have h1 : l.any p = true := List.any_eq_true.2 ⟨l[i], List.getElem_mem hi, h⟩
  rw [idxBy, if_pos h1]
  have : l.findIdx p = i := by
    rw [List.findIdx_eq hi]
    exact ⟨h, fun j hj => by simp [hn j (by omega) hj]⟩
  rw [this]
theorem idxBy_none {p : Int → Bool} {l : List Int} (hn : ∀ j (h : j < l.length), p l[j] = false) : idxBy p l = -1 := by
  have h1 : l.any p = false := by
    rw [List.any_eq_false]
    intro x hx
    obtain ⟨j, hj, rfl⟩ := List.getElem_of_mem hx
    simp [hn j hj]
  rw [idxBy, if_neg (by simp [h1])]
theorem idxBy_ge (p : Int → Bool) (l : List Int) : decide (0 ≤ idxBy p l) = l.any p := by
  unfold idxBy
  cases h : l.any p <;> simp [h]
set_option maxHeartbeats 1000000 in
theorem indexFunc (g : Nat) (lb : Array Value) (p : Int → Bool) (a : Option Addr) (cap : Nat) (l : List Int) (w : World) (eg : ∀ args w, (callFunc g args).run Try.prog w = .ok (.enter g args) w)
    (hf : PredAt g lb l p w) (hl : Sl w (.slice a l.length cap) (ints l)) :
    Calls Try.prog 66 #[.slice a l.length cap, .func (.func g) #[] lb] w fun e w' => e = .returned (.int .i64 (idxBy p l)) ∧ Below w.heap.size w w' := by
  have HL := Lib.hid hl
  have HF := Lib.hid hf
  have hc := hl.len.2
  unfold maxLen at hc
  obtain ⟨hc1, hc2⟩ := hc
  clear hl hf
  go_enter Try.func66, Try.ntmps66
  go_wp2
  go_loopg [8] l.length (fun gg v8 wr => ∃ i : Nat, i ≤ l.length ∧ l.length - i ≤ gg ∧ v8 = .int .i64 i ∧ Hid (Below w.heap.size w wr) ∧ Hid (∀ j (h : j < l.length), j < i → p l[j] = false))
  case atStart => exact ⟨0, by omega, by omega, rfl, Below.refl _ _, fun j _ hj => by omega⟩
  case round =>
    obtain ⟨i, hi, hg, rfl, HB, HN⟩ := hrel
    by_cases hlt : i < l.length
    · have hlt' : (i : Int) < (l.length : Int) := by omega
      obtain ⟨ba, oa, hae, hca⟩ := (HL.out.keep HB.out).at hlt
      have c1 := hca i (by rw [ints_len]; exact hlt)
      rw [ints_get] at c1
      obtain ⟨x, HX⟩ := nameIt (l[i]'hlt)
      rw [HX.out] at c1
      subst hae
      clear hca
      go_wp2_with fail
      refine (HF.out _ x (by rw [← HX.out]; exact List.getElem_mem hlt) HB.out).mono ?_
      rintro e w6 ⟨rfl, hb6⟩
      have HB6 := Lib.hid (HB.out.trans (hb6.mono HB.out.size))
      clear hb6 c1
      cases hp : p x with
      | true =>
        have HE : Hid (idxBy p l = i) := idxBy_hit hlt (by rw [HX.out]; exact hp) HN.out
        clear hp
        go_wp2
        go_ret
        exact ⟨by rw [HE.out]; rfl, HB6.out⟩
      | false =>
        have HN2 : Hid (∀ j (h : j < l.length), j < i + 1 → p l[j] = false) := by
          intro j h hj
          by_cases e : j = i
          · subst e; rw [HX.out]; exact hp
          · exact HN.out j h (by omega)
        clear hp
        go_wp2
        go_roundg (l.length - (i + 1))
        case measure => omega
        case rel => exact ⟨i + 1, by omega, by omega, by go_num, HB6, HN2⟩
    · have hlt' : ¬ (i : Int) < (l.length : Int) := by omega
      have HE : Hid (idxBy p l = -1) := idxBy_none fun j hj => HN.out j hj (by omega)
      go_wp2
      go_ret
      exact ⟨by rw [HE.out]; rfl, HB.out⟩
set_option maxHeartbeats 1000000 in
theorem containsFunc (g : Nat) (lb : Array Value) (p : Int → Bool) (a : Option Addr) (cap : Nat) (l : List Int) (w : World) (eg : ∀ args w, (callFunc g args).run Try.prog w = .ok (.enter g args) w)
    (hf : PredAt g lb l p w) (hl : Sl w (.slice a l.length cap) (ints l)) :
    Calls Try.prog 27 #[.slice a l.length cap, .func (.func g) #[] lb] w fun e w' => e = .returned (.bool (l.any p)) ∧ Below w.heap.size w w' := by
  have HL := Lib.hid hl
  have HF := Lib.hid hf
  have HG := Lib.hid eg
  clear hl hf eg
  go_enter Try.func27, Try.ntmps27
  go_wp2_with fail
  refine (indexFunc g lb p a cap l w HG.out HF.out HL.out).mono ?_
  rintro e w1 ⟨rfl, hb⟩
  have HB := Lib.hid hb
  clear hb
  go_wp2
  go_ret
  exact ⟨by rw [idxBy_ge]; rfl, HB.out⟩
set_option maxHeartbeats 1000000 in
theorem indexInt (a : Option Addr) (cap : Nat) (l : List Int) (x : Int) (w : World) (hl : Sl w (.slice a l.length cap) (ints l)) :
    Calls Try.prog 116 #[.slice a l.length cap, .int .i64 x] w fun e w' => e = .returned (.int .i64 (idxBy (fun y => x == y) l)) ∧ w = w' := by
  have HL := Lib.hid hl
  have hc := hl.len.2
  unfold maxLen at hc
  obtain ⟨hc1, hc2⟩ := hc
  clear hl
  go_enter Try.func116, Try.ntmps116
  go_wp2
  go_loopg [8] l.length (fun gg v8 wr => ∃ i : Nat, i ≤ l.length ∧ l.length - i ≤ gg ∧ v8 = .int .i64 i ∧ wr = w ∧ Hid (∀ j (h : j < l.length), j < i → (x == l[j]) = false))
  case atStart => exact ⟨0, by omega, by omega, rfl, rfl, fun j _ hj => by omega⟩
  case round =>
    obtain ⟨i, hi, hg, rfl, rfl, HN⟩ := hrel
    by_cases hlt : i < l.length
    · have hlt' : (i : Int) < (l.length : Int) := by omega
      obtain ⟨ba, oa, hae, hca⟩ := HL.out.at hlt
      have c1 := hca i (by rw [ints_len]; exact hlt)
      rw [ints_get] at c1
      obtain ⟨y, HX⟩ := nameIt (l[i]'hlt)
      rw [HX.out] at c1
      subst hae
      clear hca
      cases hp : (x == y) with
      | true =>
        have HE : Hid (idxBy (fun y => x == y) l = i) := idxBy_hit hlt (by rw [HX.out]; exact hp) HN.out
        go_wp2
        go_ret
        exact ⟨by rw [HE.out]; rfl, rfl⟩
      | false =>
        have HN2 : Hid (∀ j (h : j < l.length), j < i + 1 → (x == l[j]) = false) := by
          intro j h hj
          by_cases e : j = i
          · subst e; rw [HX.out]; exact hp
          · exact HN.out j h (by omega)
        go_wp2
        go_roundg (l.length - (i + 1))
        case measure => omega
        case rel => exact ⟨i + 1, by omega, by omega, by go_num, rfl, HN2⟩
    · have hlt' : ¬ (i : Int) < (l.length : Int) := by omega
      have HE : Hid (idxBy (fun y => x == y) l = -1) := idxBy_none fun j hj => HN.out j hj (by omega)
      go_wp2
      go_ret
      exact ⟨by rw [HE.out]; rfl, rfl⟩
set_option maxHeartbeats 1000000 in
theorem containsInt (a : Option Addr) (cap : Nat) (l : List Int) (x : Int) (w : World) (hl : Sl w (.slice a l.length cap) (ints l)) :
    Calls Try.prog 111 #[.slice a l.length cap, .int .i64 x] w fun e w' => e = .returned (.bool (l.any fun y => x == y)) ∧ w = w' := by
  have HL := Lib.hid hl
  clear hl
  go_enter Try.func111, Try.ntmps111
  go_wp2_with fail
  refine (indexInt a cap l x w HL.out).mono ?_
  rintro e w1 ⟨rfl, rfl⟩
  go_wp2
  go_ret
  exact ⟨by rw [idxBy_ge]; rfl, rfl⟩
end Go.Proofs.Ytjpmebppdcclbaa
namespace Go.Proofs.Ytjpmebppdcclbaa
open Go.RowKit
namespace Rp
structure Co where
  c0 : Nat
  c1 : Nat
  c2 : Nat
def Co.ok (c : Co) : Prop := 1 ≤ c.c0 ∧ c.c0 ≤ 100 ∧ 1 ≤ c.c1 ∧ c.c1 ≤ 100 ∧ 1 ≤ c.c2 ∧ c.c2 ≤ 100
def oneB (c : Co) (n : Nat) : Nat := if n = 0 then c.c0 + n * c.c1 else min (c.c0 + n * c.c1) (c.c2 + (n - 1) * c.c1)
def oneC (c : Co) (w : List Int) (t : Int) (i j : Nat) : Nat := if ((w.drop i).take (j - i)).any (fun y => t == y) then min (oneB c (j - i)) ((j - i - 1) * c.c1) else oneB c (j - i)
structure CM (cb : Nat) (gt gn gs : Int) (gr bv : Value) (c : Co) (w : List Int) (W : World) : Prop where
  box : ∃ wa wk, W.heap[cb]? = some (.cells #[.int .i64 gt, .int .i64 gn, .int .i64 gs, gr, .slice wa w.length wk, .int .i64 (c.c0 : Int), .int .i64 (c.c1 : Int), .int .i64 (c.c2 : Int), bv] 65 (0, 0)) ∧ Rd (fun k => k < cb) W (D.ints w) [.slice wa w.length wk]
theorem CM.keep {cb : Nat} {gt gn gs : Int} {gr bv : Value} {c : Co} {w : List Int} {W W' : World} (h : CM cb gt gn gs gr bv c w W) (hb : Below W.heap.size W W') : CM cb gt gn gs gr bv c w W' := by
  obtain ⟨wa, wk, h1, h2⟩ := h.box
  exact ⟨wa, wk, bx_keep h1 hb, h2.below hb⟩
theorem CM.lt {cb : Nat} {gt gn gs : Int} {gr bv : Value} {c : Co} {w : List Int} {W : World} (h : CM cb gt gn gs gr bv c w W) : cb < W.heap.size := by
  obtain ⟨wa, wk, h1, h2⟩ := h.box
  exact (Array.getElem?_eq_some_iff.1 h1).1
theorem CM.grown {cb : Nat} {gt gn gs : Int} {gr bv : Value} {c : Co} {w : List Int} {W W' : World} (h : CM cb gt gn gs gr bv c w W) {row : Option Nat} (hg : W.grownBy W' row) (hr : ∀ k, row = some k → cb < k) : CM cb gt gn gs gr bv c w W' := by
  have hl := h.lt
  obtain ⟨wa, wk, h1, h2⟩ := h.box
  refine ⟨wa, wk, (hg.block cb hl ?_).trans h1, rd_grown h2 hg ?_⟩
  · intro e
    have := hr cb e.symm
    omega
  · intro k e h
    have := hr k e
    omega
theorem bx_cells9r {w : World} {b : Nat} {x0 x1 x2 x3 x4 x5 x6 x7 x8 : Value} {T : TypeId} (h : w.heap[b]? = some (.cells #[x0, x1, x2, x3, x4, x5, x6, x7, x8] T (0, 0))) :
    w.cell? ⟨b, 0 + 4, none⟩ = some x4 ∧ w.cell? ⟨b, 0 + 5, none⟩ = some x5 ∧ w.cell? ⟨b, 0 + 5 + 1, none⟩ = some x6 ∧ w.cell? ⟨b, 0 + 5 + 2, none⟩ = some x7 ∧ w.cell? ⟨b, 0 + 8, none⟩ = some x8 := by
  refine ⟨?_, ?_, ?_, ?_, ?_⟩ <;> simp [World.cell?, h]
structure ON (w0 : World) (b bs : Nat) (t : Int) (a : Nat) (w : World) : Prop where
  bel : Below w0.heap.size w0 w
  box : w.heap[b]? = some (.cells #[.int .i64 (a : Int), .int .i64 1, .slice (some ⟨bs, 0, none⟩) 1 1, .bool true] 72 (0, 0))
  lit : w.heap[bs]? = some (.cells #[.int .i64 t] 3 (0, 0))
  lb : w0.heap.size ≤ b
  lbs : w0.heap.size ≤ bs
  ne : b ≠ bs
theorem ON.keep {w0 : World} {b bs : Nat} {t : Int} {a : Nat} {w w' : World} (h : ON w0 b bs t a w) (hb : Below w.heap.size w w') : ON w0 b bs t a w' := ⟨h.bel.trans (hb.mono h.bel.size), bx_keep h.box hb, bx_keep h.lit hb, h.lb, h.lbs, h.ne⟩
theorem ON.set {w0 : World} {b bs : Nat} {t : Int} {a : Nat} {w : World} (h : ON w0 b bs t a w) (d : Nat) : ON w0 b bs t d (w.setCell ⟨b, 0, none⟩ (.int .i64 (d : Int))) := by
  refine ⟨h.bel.setCell (p := ⟨b, 0, none⟩) h.lb _, ?_, bx_other h.lit h.ne.symm _ _, h.lb, h.lbs, h.ne⟩
  have := bx_set h.box 0 (.int .i64 (d : Int))
  simpa using this
theorem ON.rd {w0 : World} {b bs : Nat} {t : Int} {a : Nat} {w : World} (h : ON w0 b bs t a w) : Rd (fun k => w0.heap.size ≤ k) w (D.ints [t]) [.slice (some ⟨bs, 0, none⟩) 1 1] := by
  refine ⟨some ⟨bs, 0, none⟩, 1, [.int .i64 t], rfl, by simp, by simp [maxLen], (fun e => by cases e), fun i hi => ?_, ?_⟩
  · simp at hi
    subst hi
    refine ⟨⟨bs, 0, none⟩, rfl, h.lbs, ?_⟩
    rw [add_at]
    simp [World.cell?, h.lit]
  · simp [RdAll, Rd]
set_option maxHeartbeats 8000000 in
set_option maxRecDepth 100000 in
theorem oneE (cb : Nat) (gt gn gs : Int) (gr bv : Value) (c : Co) (hc : c.ok) (w : List Int) (t : Int) (i j : Nat) (hij : i ≤ j) (hj : j ≤ w.length) (hw : w.length ≤ 12) (W : World) (hm : CM cb gt gn gs gr bv c w W) :
    Calls Try.prog 96 #[.pointer (some ⟨cb, 0, none⟩), .int .i64 t, .int .i64 (i : Nat), .int .i64 (j : Nat)] W fun e w' => ∃ x, e = .returned x ∧ WR (fun k => W.heap.size ≤ k) w' x (some ⟨oneC c w t i j, 1, [t]⟩) ∧ Below W.heap.size W w' := by
  obtain ⟨PST, HP⟩ := nameIt (fun (e : Ending) (w' : World) => ∃ x, e = .returned x ∧ WR (fun k => W.heap.size ≤ k) w' x (some ⟨oneC c w t i j, 1, [t]⟩) ∧ Below W.heap.size W w')
  rw [HP.out]
  have HCM := Lib.hid hm
  obtain ⟨wa, wk, hbx, hrw⟩ := hm.box
  have hsw := sl_rd hrw
  obtain ⟨wn, HWN⟩ := nameIt w.length
  rw [HWN.out] at hbx hsw hrw hj hw
  obtain ⟨-, hwk1, hwk2⟩ := hsw.len
  unfold maxLen at hwk2
  obtain ⟨hc0, hc1, hc2, hc3, hc4, hc5⟩ := hc
  obtain ⟨c0, HC0⟩ := nameIt c.c0
  obtain ⟨c1, HC1⟩ := nameIt c.c1
  obtain ⟨c2, HC2⟩ := nameIt c.c2
  rw [HC0.out, HC1.out, HC2.out] at hbx
  rw [HC0.out] at hc0 hc1
  rw [HC1.out] at hc2 hc3
  rw [HC2.out] at hc4 hc5
  obtain ⟨n, HN⟩ := nameIt (j - i)
  have hnn : n = j - i := HN.out.symm
  have hn12 : n ≤ 12 := by omega
  obtain ⟨a, HA⟩ := nameIt (c0 + n * c1)
  obtain ⟨p, HPP⟩ := nameIt (n * c1)
  have hp : p ≤ 1200 := by rw [← HPP.out]; exact Nat.le_trans (Nat.mul_le_mul hn12 hc3) (by decide)
  have hap : a = c0 + p := by rw [← HA.out, ← HPP.out]
  have hw1 : IntKind.i64.wrap ((j : Int) - (i : Int)) = (n : Int) := by rw [IntWalk.i64_in _ (by omega)]; omega
  have hw2 : IntKind.i64.wrap ((n : Int) * (c1 : Int)) = (p : Int) := by
    have e : (n : Int) * (c1 : Int) = (p : Int) := by rw [← HPP.out]; simp
    rw [e]; exact IntWalk.i64_in _ (by omega)
  have hw3 : IntKind.i64.wrap ((c0 : Int) + (p : Int)) = (a : Int) := by rw [IntWalk.i64_in _ (by omega)]; omega
  clear hnn hap
  have HW1 := Lib.hid hw1
  have HW2 := Lib.hid hw2
  have HW3 := Lib.hid hw3
  obtain ⟨bb, HBB⟩ := nameIt (((w.drop i).take n).any fun y => t == y)
  obtain ⟨xs, HXS⟩ := nameIt ((w.drop i).take n)
  have hxl : xs.length = n := by have := HN.out; rw [← HXS.out]; simp; rw [HWN.out]; omega
  rw [HXS.out] at HBB
  obtain ⟨sa, HSA⟩ := nameIt (if wk = i then wa else wa.map fun x => x.add i)
  obtain ⟨sk, HSK⟩ := nameIt (wk - i)
  have hpart := hsw.part (i := i) (j := j) hij (by omega)
  rw [HN.out, HSA.out, HSK.out] at hpart
  have hxsE : ((ints w).drop i).take n = ints xs := by rw [← HXS.out]; simp [ints]
  rw [hxsE] at hpart
  have hsl : ∀ W', (Instr.slice 25 (.slice wa wn wk) (some (.int .i64 (i : Nat))) (some (.int .i64 (j : Nat))) none).run Try.prog W' = .ok (.slice sa n sk) W' := fun W' => by
    have hs := run_slice_lh (P := Try.prog) W' 25 wa wn wk (by kernel_rfl) .i64 .i64 (i : Int) (j : Int) (by omega) (by omega) (by omega)
    rw [hs, ← HSA.out, ← HSK.out, ← HN.out]
    by_cases hct : wk = i
    · rw [if_pos hct]; subst hct; simp [go_sem]
    · rw [if_neg hct]; simp [go_sem, hct]
  have HSL := Lib.hid hsl
  have HPT := Lib.hid hpart
  obtain ⟨w0, HW⟩ := nameIt (W.alloc (.cells #[.int .i64 0, .int .i64 0, .slice none 0 0, .bool false] 72))
  have hw0 : Below W.heap.size W w0 := by rw [← HW.out]; exact (Below.refl _ _).alloc (Nat.le_refl _) _
  have HSZ : Hid (w0.heap.size = W.heap.size + 1) := by show _ = _; rw [← HW.out]; simp
  have HZ0 : Hid (w0.heap[W.heap.size]? = some (.cells #[.int .i64 0, .int .i64 0, .slice none 0 0, .bool false] 72 (0, 0))) := by rw [← HW.out]; exact bx_new _ _ _ rfl
  have HB0 := Lib.hid hw0
  have HBX := Lib.hid (bx_keep hbx hw0)
  have HCS : Hid (∀ w', Below w0.heap.size w0 w' → w'.cell? ⟨cb, 0 + 4, none⟩ = some (.slice wa wn wk) ∧ w'.cell? ⟨cb, 0 + 5, none⟩ = some (.int .i64 (c0 : Int)) ∧ w'.cell? ⟨cb, 0 + 5 + 1, none⟩ = some (.int .i64 (c1 : Int)) ∧ w'.cell? ⟨cb, 0 + 5 + 2, none⟩ = some (.int .i64 (c2 : Int))) := by
    intro w' hb'
    obtain ⟨h1, h2, h3, h4, h5⟩ := bx_cells9r (bx_keep HBX.out hb')
    exact ⟨h1, h2, h3, h4⟩
  have HEND : Hid (∀ b bs d w', ON w0 b bs t d w' → d = oneC c w t i j → PST (.returned (.agg #[.int .i64 (d : Int), .int .i64 1, .slice (some ⟨bs, 0, none⟩) 1 1, .bool true])) ((((w'.setCell ⟨W.heap.size, 0, none⟩ (.int .i64 (d : Int))).setCell ⟨W.heap.size, 0 + 1, none⟩ (.int .i64 1)).setCell ⟨W.heap.size, 0 + 2, none⟩ (.slice (some ⟨bs, 0, none⟩) 1 1)).setCell ⟨W.heap.size, 0 + 3, none⟩ (.bool true))) := by
    intro b bs d w' hon e
    have hg := grown_cell4 w' W.heap.size (.int .i64 (d : Int)) (.int .i64 1) (.slice (some ⟨bs, 0, none⟩) 1 1) (.bool true)
    have hB : Below W.heap.size W w' := HB0.out.trans (hon.bel.mono HB0.out.size)
    rw [← HP.out]
    refine ⟨_, rfl, ⟨.slice (some ⟨bs, 0, none⟩) 1 1, ?_, ?_⟩, hB.grown hg hB.size ?_⟩
    · rw [e]; rfl
    · refine (rd_grown hon.rd hg ?_).mono ?_
      · intro k e h
        cases e
        have h2 : w0.heap.size ≤ W.heap.size := h
        have := HSZ.out
        omega
      · intro k h _
        have h2 : w0.heap.size ≤ k := h
        have := HSZ.out
        show W.heap.size ≤ k
        omega
    · intro k e
      cases e
      exact Nat.le_refl _
  have HEQ : Hid (oneC c w t i j = if bb then min (oneB c n) ((n - 1) * c1) else oneB c n) := by
    show _ = _
    unfold oneC
    rw [HN.out, HXS.out, HBB.out, HC1.out]
  have HEB : Hid (oneB c n = if n = 0 then a else min a (c2 + (n - 1) * c1)) := by
    show _ = _
    unfold oneB
    rw [HC0.out, HC1.out, HC2.out, HA.out]
  clear hbx hrw hsw hm hpart hsl hxsE hw0 HP HC0 HC1 HC2 HA HPP HXS HSA HSK HWN
  go_enter Try.func96, Try.ntmps96
  go_upto_region 2 with fail
  rw [HW.out]
  clear HW
  go_cut [10] (fun t' wx => ∃ b bs, t' = .pointer (some ⟨b, 0, none⟩) ∧ Hid (ON w0 b bs t a wx))
  case first =>
    refine wp_region_U (S := (fun w' => w'.cell? ⟨cb, 0 + 4, none⟩ = some (.slice wa wn wk) ∧ w'.cell? ⟨cb, 0 + 5, none⟩ = some (.int .i64 (c0 : Int)) ∧ w'.cell? ⟨cb, 0 + 5 + 1, none⟩ = some (.int .i64 (c1 : Int)) ∧ w'.cell? ⟨cb, 0 + 5 + 2, none⟩ = some (.int .i64 (c2 : Int)))) 17 (by kernel_rfl) (fun inv => ?_)
    refine wpU_take (i := 0) (v := .pointer (some ⟨cb, 0, none⟩)) rfl inv (by kernel_rfl) (by kernel_rfl) (by decide) (by decide) (by kernel_rfl) (by kernel_rfl) (by kernel_rfl) (fun _ _ _ h => h) (Or.inl ⟨by rfl, fun w' hw' => ?_⟩) (HCS.out _ (Below.refl _ _).drew) (fun inv => ?_)
    · obtain ⟨h0, h1, h2, h3⟩ := hw'
      go_simp
    try simp only [Act.put, List.setIfInBounds_toArray, List.set_cons_zero, List.set_cons_succ]
    refine wpU_take (i := 1) (v := .pointer (some ⟨cb, 0, none⟩)) rfl inv (by kernel_rfl) (by kernel_rfl) (by decide) (by decide) (by kernel_rfl) (by kernel_rfl) (by kernel_rfl) (fun _ _ _ h => h) (Or.inl ⟨by rfl, fun w' hw' => ?_⟩) (HCS.out _ (Below.refl _ _).drew) (fun inv => ?_)
    · obtain ⟨h0, h1, h2, h3⟩ := hw'
      go_simp
    try simp only [Act.put, List.setIfInBounds_toArray, List.set_cons_zero, List.set_cons_succ]
    refine wpU_take (i := 2) (v := .pointer (some ⟨cb, 0 + 5, none⟩)) rfl inv (by kernel_rfl) (by kernel_rfl) (by decide) (by decide) (by kernel_rfl) (by kernel_rfl) (by kernel_rfl) (fun _ _ _ h => h) (Or.inl ⟨by rfl, fun w' hw' => ?_⟩) (HCS.out _ (Below.refl _ _).drew) (fun inv => ?_)
    · obtain ⟨h0, h1, h2, h3⟩ := hw'
      go_simp
    try simp only [Act.put, List.setIfInBounds_toArray, List.set_cons_zero, List.set_cons_succ]
    refine wpU_take (i := 3) (v := .pointer (some ⟨cb, 0 + 5, none⟩)) rfl inv (by kernel_rfl) (by kernel_rfl) (by decide) (by decide) (by kernel_rfl) (by kernel_rfl) (by kernel_rfl) (fun _ _ _ h => h) (Or.inl ⟨by rfl, fun w' hw' => ?_⟩) (HCS.out _ (Below.refl _ _).drew) (fun inv => ?_)
    · obtain ⟨h0, h1, h2, h3⟩ := hw'
      go_simp
    try simp only [Act.put, List.setIfInBounds_toArray, List.set_cons_zero, List.set_cons_succ]
    refine wpU_take (i := 4) (v := .int .i64 (c0 : Int)) rfl inv (by kernel_rfl) (by kernel_rfl) (by decide) (by decide) (by kernel_rfl) (by kernel_rfl) (by kernel_rfl) (fun _ _ _ h => h) (Or.inl ⟨by rfl, fun w' hw' => ?_⟩) (HCS.out _ (Below.refl _ _).drew) (fun inv => ?_)
    · obtain ⟨h0, h1, h2, h3⟩ := hw'
      go_simp
    try simp only [Act.put, List.setIfInBounds_toArray, List.set_cons_zero, List.set_cons_succ]
    refine wpU_take (i := 5) (v := .int .i64 (n : Int)) rfl inv (by kernel_rfl) (by kernel_rfl) (by decide) (by decide) (by kernel_rfl) (by kernel_rfl) (by kernel_rfl) (fun _ _ _ h => h) (Or.inl ⟨by rfl, fun w' hw' => ?_⟩) (HCS.out _ (Below.refl _ _).drew) (fun inv => ?_)
    · obtain ⟨h0, h1, h2, h3⟩ := hw'
      go_simp
    try simp only [Act.put, List.setIfInBounds_toArray, List.set_cons_zero, List.set_cons_succ]
    refine wpU_take (i := 6) (v := .pointer (some ⟨cb, 0, none⟩)) rfl inv (by kernel_rfl) (by kernel_rfl) (by decide) (by decide) (by kernel_rfl) (by kernel_rfl) (by kernel_rfl) (fun _ _ _ h => h) (Or.inl ⟨by rfl, fun w' hw' => ?_⟩) (HCS.out _ (Below.refl _ _).drew) (fun inv => ?_)
    · obtain ⟨h0, h1, h2, h3⟩ := hw'
      go_simp
    try simp only [Act.put, List.setIfInBounds_toArray, List.set_cons_zero, List.set_cons_succ]
    refine wpU_take (i := 7) (v := .pointer (some ⟨cb, 0, none⟩)) rfl inv (by kernel_rfl) (by kernel_rfl) (by decide) (by decide) (by kernel_rfl) (by kernel_rfl) (by kernel_rfl) (fun _ _ _ h => h) (Or.inl ⟨by rfl, fun w' hw' => ?_⟩) (HCS.out _ (Below.refl _ _).drew) (fun inv => ?_)
    · obtain ⟨h0, h1, h2, h3⟩ := hw'
      go_simp
    try simp only [Act.put, List.setIfInBounds_toArray, List.set_cons_zero, List.set_cons_succ]
    refine wpU_take (i := 8) (v := .pointer (some ⟨cb, 0 + 5, none⟩)) rfl inv (by kernel_rfl) (by kernel_rfl) (by decide) (by decide) (by kernel_rfl) (by kernel_rfl) (by kernel_rfl) (fun _ _ _ h => h) (Or.inl ⟨by rfl, fun w' hw' => ?_⟩) (HCS.out _ (Below.refl _ _).drew) (fun inv => ?_)
    · obtain ⟨h0, h1, h2, h3⟩ := hw'
      go_simp
    try simp only [Act.put, List.setIfInBounds_toArray, List.set_cons_zero, List.set_cons_succ]
    refine wpU_take (i := 9) (v := .pointer (some ⟨cb, 0 + 5 + 1, none⟩)) rfl inv (by kernel_rfl) (by kernel_rfl) (by decide) (by decide) (by kernel_rfl) (by kernel_rfl) (by kernel_rfl) (fun _ _ _ h => h) (Or.inl ⟨by rfl, fun w' hw' => ?_⟩) (HCS.out _ (Below.refl _ _).drew) (fun inv => ?_)
    · obtain ⟨h0, h1, h2, h3⟩ := hw'
      go_simp
    try simp only [Act.put, List.setIfInBounds_toArray, List.set_cons_zero, List.set_cons_succ]
    refine wpU_take (i := 10) (v := .int .i64 (c1 : Int)) rfl inv (by kernel_rfl) (by kernel_rfl) (by decide) (by decide) (by kernel_rfl) (by kernel_rfl) (by kernel_rfl) (fun _ _ _ h => h) (Or.inl ⟨by rfl, fun w' hw' => ?_⟩) (HCS.out _ (Below.refl _ _).drew) (fun inv => ?_)
    · obtain ⟨h0, h1, h2, h3⟩ := hw'
      go_simp
    try simp only [Act.put, List.setIfInBounds_toArray, List.set_cons_zero, List.set_cons_succ]
    refine wpU_take (i := 11) (v := .int .i64 (p : Int)) rfl inv (by kernel_rfl) (by kernel_rfl) (by decide) (by decide) (by kernel_rfl) (by kernel_rfl) (by kernel_rfl) (fun _ _ _ h => h) (Or.inl ⟨by rfl, fun w' hw' => ?_⟩) (HCS.out _ (Below.refl _ _).drew) (fun inv => ?_)
    · obtain ⟨h0, h1, h2, h3⟩ := hw'
      have hw2 := HW2.out; have hw3 := HW3.out; go_simp
    try simp only [Act.put, List.setIfInBounds_toArray, List.set_cons_zero, List.set_cons_succ]
    refine wpU_take (i := 12) (v := .int .i64 (a : Int)) rfl inv (by kernel_rfl) (by kernel_rfl) (by decide) (by decide) (by kernel_rfl) (by kernel_rfl) (by kernel_rfl) (fun _ _ _ h => h) (Or.inl ⟨by rfl, fun w' hw' => ?_⟩) (HCS.out _ (Below.refl _ _).drew) (fun inv => ?_)
    · obtain ⟨h0, h1, h2, h3⟩ := hw'
      have hw2 := HW2.out; have hw3 := HW3.out; go_simp
    try simp only [Act.put, List.setIfInBounds_toArray, List.set_cons_zero, List.set_cons_succ]
    refine wpU_take (i := 13) (v := .int .i64 t) rfl inv (by kernel_rfl) (by kernel_rfl) (by decide) (by decide) (by kernel_rfl) (by kernel_rfl) (by kernel_rfl) (fun _ _ _ h => h) (Or.inl ⟨by rfl, fun w' hw' => ?_⟩) (HCS.out _ (Below.refl _ _).drew) (fun inv => ?_)
    · obtain ⟨h0, h1, h2, h3⟩ := hw'
      go_simp
    try simp only [Act.put, List.setIfInBounds_toArray, List.set_cons_zero, List.set_cons_succ]
    refine wpU_2 (i := 14) (j := 16) (by kernel_rfl) rfl rfl (fun K hK => ?_) (fun K hK => ?_)
    ·
      replace inv := inv_setc (i := 14) inv (by kernel_rfl) (by decide)
      go_simp
      have HB2 : Hid (Below w0.heap.size w0 (w0.drew.alloc (.cells #[.int .i64 t] 3))) := (Below.refl w0.heap.size w0).drew.alloc (Nat.le_refl _) _
      refine hK.out _ _ (fun _ => HCS.out _ HB2.out) ?_
      clear hK K
      try simp only [Act.put, List.setIfInBounds_toArray, List.set_cons_zero, List.set_cons_succ]
      refine wpU_take (i := 15) (v := .agg #[.int .i64 (a : Int), .int .i64 1, .slice (some ⟨w0.heap.size, 0, none⟩) 1 1, .bool true]) rfl inv (by kernel_rfl) (by kernel_rfl) (by decide) (by decide) (by kernel_rfl) (by kernel_rfl) (by kernel_rfl) (fun _ _ _ h => h) (Or.inl ⟨by rfl, fun w' hw' => ?_⟩) (HCS.out _ HB2.out) (fun inv => ?_)
      · obtain ⟨h0, h1, h2, h3⟩ := hw'
        go_simp
      try simp only [Act.put, List.setIfInBounds_toArray, List.set_cons_zero, List.set_cons_succ]
      refine wpU_one (i := 16) (by kernel_rfl) rfl (fun K hK => ?_)
      replace inv := inv_setc (i := 16) inv (by kernel_rfl) (by decide)
      go_simp
      have HB3 : Hid (Below w0.heap.size w0 ((w0.drew.alloc (.cells #[.int .i64 t] 3)).alloc (.cells #[.int .i64 0, .int .i64 0, .slice none 0 0, .bool false] 72))) := HB2.out.alloc HB2.out.size _
      refine hK.out _ _ (fun _ => HCS.out _ HB3.out) ?_
      clear hK K
      try simp only [Act.put, List.setIfInBounds_toArray, List.set_cons_zero, List.set_cons_succ]
      refine wpU_one (i := 17) (by kernel_rfl) rfl (fun K hK => ?_)
      go_simp
      refine hK.out _ _ (fun h => absurd (show true = false from h) (by decide)) ?_
      clear hK K
      try simp only [Act.put, List.setIfInBounds_toArray, List.set_cons_zero, List.set_cons_succ]
      refine wpU_done (by kernel_rfl) ?_ _
      go_wp2_with fail
      go_meet
      refine ⟨w0.heap.size + 1, w0.heap.size, by simp, ?_⟩
      show ON _ _ _ _ _ _
      have k1 := bx_new (w0.alloc (.cells #[.int .i64 t] 3)) (.cells #[.int .i64 (a : Int), .int .i64 1, .slice (some ⟨w0.heap.size, 0, none⟩) 1 1, .bool true] 72) (w0.heap.size + 1) (by simp)
      have k2 := bx_keep (bx_new w0 (.cells #[.int .i64 t] 3) _ rfl) ((Below.refl _ _).alloc (Nat.le_refl _) (.cells #[.int .i64 (a : Int), .int .i64 1, .slice (some ⟨w0.heap.size, 0, none⟩) 1 1, .bool true] 72))
      exact ⟨(((Below.refl w0.heap.size w0).alloc (Nat.le_refl _) _).alloc (by simp) _).drew, k1, k2, by omega, by omega, by omega⟩
    ·
      replace inv := inv_setc (i := 16) inv (by kernel_rfl) (by decide)
      go_simp
      have HB2 : Hid (Below w0.heap.size w0 (w0.drew.alloc (.cells #[.int .i64 0, .int .i64 0, .slice none 0 0, .bool false] 72))) := (Below.refl w0.heap.size w0).drew.alloc (Nat.le_refl _) _
      refine hK.out _ _ (fun _ => HCS.out _ HB2.out) ?_
      clear hK K
      try simp only [Act.put, List.setIfInBounds_toArray, List.set_cons_zero, List.set_cons_succ]
      refine wpU_one (i := 14) (by kernel_rfl) rfl (fun K hK => ?_)
      replace inv := inv_setc (i := 14) inv (by kernel_rfl) (by decide)
      go_simp
      have HB3 : Hid (Below w0.heap.size w0 ((w0.drew.alloc (.cells #[.int .i64 0, .int .i64 0, .slice none 0 0, .bool false] 72)).alloc (.cells #[.int .i64 t] 3))) := HB2.out.alloc HB2.out.size _
      refine hK.out _ _ (fun _ => HCS.out _ HB3.out) ?_
      clear hK K
      try simp only [Act.put, List.setIfInBounds_toArray, List.set_cons_zero, List.set_cons_succ]
      refine wpU_take (i := 15) (v := .agg #[.int .i64 (a : Int), .int .i64 1, .slice (some ⟨w0.heap.size + 1, 0, none⟩) 1 1, .bool true]) rfl inv (by kernel_rfl) (by kernel_rfl) (by decide) (by decide) (by kernel_rfl) (by kernel_rfl) (by kernel_rfl) (fun _ _ _ h => h) (Or.inl ⟨by rfl, fun w' hw' => ?_⟩) (HCS.out _ HB3.out) (fun inv => ?_)
      · obtain ⟨h0, h1, h2, h3⟩ := hw'
        go_simp
      try simp only [Act.put, List.setIfInBounds_toArray, List.set_cons_zero, List.set_cons_succ]
      refine wpU_one (i := 17) (by kernel_rfl) rfl (fun K hK => ?_)
      go_simp
      refine hK.out _ _ (fun h => absurd (show true = false from h) (by decide)) ?_
      clear hK K
      try simp only [Act.put, List.setIfInBounds_toArray, List.set_cons_zero, List.set_cons_succ]
      refine wpU_done (by kernel_rfl) ?_ _
      go_wp2_with fail
      go_meet
      refine ⟨w0.heap.size, w0.heap.size + 1, rfl, ?_⟩
      show ON _ _ _ _ _ _
      have k2 := bx_new (w0.alloc (.cells #[.int .i64 (a : Int), .int .i64 1, .slice (some ⟨w0.heap.size + 1, 0, none⟩) 1 1, .bool true] 72)) (.cells #[.int .i64 t] 3) (w0.heap.size + 1) (by simp)
      have k1 := bx_keep (bx_new w0 (.cells #[.int .i64 (a : Int), .int .i64 1, .slice (some ⟨w0.heap.size + 1, 0, none⟩) 1 1, .bool true] 72) _ rfl) ((Below.refl _ _).alloc (Nat.le_refl _) (.cells #[.int .i64 t] 3))
      exact ⟨(((Below.refl w0.heap.size w0).alloc (Nat.le_refl _) _).alloc (by simp) _).drew, k1, k2, by omega, by omega, by omega⟩
  case rest =>
    obtain ⟨b, bs, rfl, HON⟩ := hcut
    obtain ⟨w1, HW1⟩ := nameIt wc
    rw [HW1.out] at HON ⊢
    clear HW1
    have HB1 := Lib.hid HON.out.bel
    by_cases hn0 : n = 0
    · have hd : decide ((0 : Int) < (n : Int)) = false := by simp; omega
      have hd' : ¬ (0 : Int) < (n : Int) := by omega
      have hbb : bb = false := by
        rw [← HBB.out, List.eq_nil_of_length_eq_zero (hxl.trans hn0)]; rfl
      have hres : a = oneC c w t i j := by rw [HEQ.out, hbb, HEB.out, if_pos hn0]; rfl
      have HRES := Lib.hid hres
      subst hbb
      obtain ⟨z0, z1, z2, z3⟩ := HCS.out w1 HB1.out
      have hct := containsInt sa sk xs t w1 (by rw [hxl]; exact HPT.out.keep (HB0.out.trans (HB1.out.mono HB0.out.size)))
      rw [hxl, HBB.out] at hct
      have HCT := Lib.hid hct
      have hsl1 := HSL.out w1
      obtain ⟨k0, k1, k2, k3⟩ := bx_cells4 HON.out.box
      obtain ⟨y0, y1, y2, y3⟩ := bx_cells4 (bx_keep HZ0.out HB1.out)
      obtain ⟨f0, f1, f2, f3⟩ := bx_free4 (bx_keep HZ0.out HB1.out)
      clear hres hct hn0
      go_wp2_with fail
      refine HCT.out.mono ?_
      rintro e w2 ⟨rfl, rfl⟩
      go_wp2_with fail
      refine bodyPost_ret (v := .agg #[.int .i64 (a : Int), .int .i64 1, .slice (some ⟨bs, 0, none⟩) 1 1, .bool true]) (by simp [results, Try.results96, go_sem, y0, y1, y2, y3]) rfl ?_
      exact HEND.out b bs a w1 HON.out HRES.out
    · have hd : decide ((0 : Int) < (n : Int)) = true := by simp; omega
      have hd' : (0 : Int) < (n : Int) := by omega
      obtain ⟨n1, HN1⟩ := nameIt (n - 1)
      obtain ⟨p1, HP1⟩ := nameIt (n1 * c1)
      have hp1 : p1 ≤ 1200 := by rw [← HP1.out, ← HN1.out]; exact Nat.le_trans (Nat.mul_le_mul (by omega : n - 1 ≤ 12) hc3) (by decide)
      obtain ⟨q, HQ⟩ := nameIt (c2 + p1)
      obtain ⟨d, HD⟩ := nameIt (min a q)
      obtain ⟨g, HG⟩ := nameIt (min d p1)
      have hw4 : IntKind.i64.wrap ((n : Int) - 1) = (n1 : Int) := by rw [IntWalk.i64_in _ (by omega)]; have := HN1.out; omega
      have hw5 : IntKind.i64.wrap ((n1 : Int) * (c1 : Int)) = (p1 : Int) := by
        have e : (n1 : Int) * (c1 : Int) = (p1 : Int) := by rw [← HP1.out]; simp
        rw [e]; exact IntWalk.i64_in _ (by omega)
      have hw6 : IntKind.i64.wrap ((c2 : Int) + (p1 : Int)) = (q : Int) := by have := HQ.out; rw [IntWalk.i64_in _ (by omega)]; omega
      have hw7 : min (a : Int) (q : Int) = (d : Int) := by have := HD.out; omega
      have hw8 : min (d : Int) (p1 : Int) = (g : Int) := by have := HG.out; omega
      have hres : (if bb then g else d) = oneC c w t i j := by
        rw [HEQ.out, HEB.out, if_neg hn0, HN1.out, HP1.out, HQ.out, HD.out, HG.out]
      have HRES := Lib.hid hres
      have HCS4 : Hid (∀ w', Below w1.heap.size w1 w' → w'.cell? ⟨cb, 0 + 4, none⟩ = some (.slice wa wn wk) ∧ w'.cell? ⟨cb, 0 + 5, none⟩ = some (.int .i64 (c0 : Int)) ∧ w'.cell? ⟨cb, 0 + 5 + 1, none⟩ = some (.int .i64 (c1 : Int)) ∧ w'.cell? ⟨cb, 0 + 5 + 2, none⟩ = some (.int .i64 (c2 : Int)) ∧ w'.cell? ⟨b, 0, none⟩ = some (.int .i64 (a : Int))) := by
        intro w' hb'
        obtain ⟨h1, h2, h3, h4⟩ := HCS.out w' (HB1.out.trans (hb'.mono HB1.out.size))
        exact ⟨h1, h2, h3, h4, (bx_cells4 (bx_keep HON.out.box hb')).1⟩
      have HOND := Lib.hid ((HON.out.set d).keep (Below.refl _ _).drew)
      obtain ⟨f0, f1, f2, f3⟩ := bx_free4 (HON.out.keep (Below.refl w1.heap.size w1).drew).box
      obtain ⟨k0, k1, k2, k3⟩ := bx_cells4 (HON.out.keep (Below.refl w1.heap.size w1).drew).box
      have HW4 := Lib.hid hw4
      have HW5 := Lib.hid hw5
      have HW6 := Lib.hid hw6
      have HW7 := Lib.hid hw7
      have HW8 := Lib.hid hw8
      have HDD := Lib.hid hd
      clear hres hn0 hw4 hw5 hw6 hw7 hw8
      go_upto_region 4 with fail
      refine wp_region_U (S := (fun w' => w'.cell? ⟨cb, 0 + 4, none⟩ = some (.slice wa wn wk) ∧ w'.cell? ⟨cb, 0 + 5, none⟩ = some (.int .i64 (c0 : Int)) ∧ w'.cell? ⟨cb, 0 + 5 + 1, none⟩ = some (.int .i64 (c1 : Int)) ∧ w'.cell? ⟨cb, 0 + 5 + 2, none⟩ = some (.int .i64 (c2 : Int)) ∧ w'.cell? ⟨b, 0, none⟩ = some (.int .i64 (a : Int)))) 16 (by kernel_rfl) (fun inv => ?_)
      refine wpU_take (i := 0) (v := .pointer (some ⟨b, 0, none⟩)) rfl inv (by kernel_rfl) (by kernel_rfl) (by decide) (by decide) (by kernel_rfl) (by kernel_rfl) (by kernel_rfl) (fun _ _ _ h => h) (Or.inl ⟨by rfl, fun w' hw' => ?_⟩) (HCS4.out _ (Below.refl _ _).drew) (fun inv => ?_)
      · obtain ⟨h0, h1, h2, h3, h4⟩ := hw'
        go_simp
      try simp only [Act.put, List.setIfInBounds_toArray, List.set_cons_zero, List.set_cons_succ]
      refine wpU_take (i := 1) (v := .int .i64 (a : Int)) rfl inv (by kernel_rfl) (by kernel_rfl) (by decide) (by decide) (by kernel_rfl) (by kernel_rfl) (by kernel_rfl) (fun _ _ _ h => h) (Or.inl ⟨by rfl, fun w' hw' => ?_⟩) (HCS4.out _ (Below.refl _ _).drew) (fun inv => ?_)
      · obtain ⟨h0, h1, h2, h3, h4⟩ := hw'
        go_simp
      try simp only [Act.put, List.setIfInBounds_toArray, List.set_cons_zero, List.set_cons_succ]
      refine wpU_take (i := 2) (v := .pointer (some ⟨cb, 0, none⟩)) rfl inv (by kernel_rfl) (by kernel_rfl) (by decide) (by decide) (by kernel_rfl) (by kernel_rfl) (by kernel_rfl) (fun _ _ _ h => h) (Or.inl ⟨by rfl, fun w' hw' => ?_⟩) (HCS4.out _ (Below.refl _ _).drew) (fun inv => ?_)
      · obtain ⟨h0, h1, h2, h3, h4⟩ := hw'
        go_simp
      try simp only [Act.put, List.setIfInBounds_toArray, List.set_cons_zero, List.set_cons_succ]
      refine wpU_take (i := 3) (v := .pointer (some ⟨cb, 0, none⟩)) rfl inv (by kernel_rfl) (by kernel_rfl) (by decide) (by decide) (by kernel_rfl) (by kernel_rfl) (by kernel_rfl) (fun _ _ _ h => h) (Or.inl ⟨by rfl, fun w' hw' => ?_⟩) (HCS4.out _ (Below.refl _ _).drew) (fun inv => ?_)
      · obtain ⟨h0, h1, h2, h3, h4⟩ := hw'
        go_simp
      try simp only [Act.put, List.setIfInBounds_toArray, List.set_cons_zero, List.set_cons_succ]
      refine wpU_take (i := 4) (v := .pointer (some ⟨cb, 0 + 5, none⟩)) rfl inv (by kernel_rfl) (by kernel_rfl) (by decide) (by decide) (by kernel_rfl) (by kernel_rfl) (by kernel_rfl) (fun _ _ _ h => h) (Or.inl ⟨by rfl, fun w' hw' => ?_⟩) (HCS4.out _ (Below.refl _ _).drew) (fun inv => ?_)
      · obtain ⟨h0, h1, h2, h3, h4⟩ := hw'
        go_simp
      try simp only [Act.put, List.setIfInBounds_toArray, List.set_cons_zero, List.set_cons_succ]
      refine wpU_take (i := 5) (v := .pointer (some ⟨cb, 0 + 5 + 2, none⟩)) rfl inv (by kernel_rfl) (by kernel_rfl) (by decide) (by decide) (by kernel_rfl) (by kernel_rfl) (by kernel_rfl) (fun _ _ _ h => h) (Or.inl ⟨by rfl, fun w' hw' => ?_⟩) (HCS4.out _ (Below.refl _ _).drew) (fun inv => ?_)
      · obtain ⟨h0, h1, h2, h3, h4⟩ := hw'
        go_simp
      try simp only [Act.put, List.setIfInBounds_toArray, List.set_cons_zero, List.set_cons_succ]
      refine wpU_take (i := 6) (v := .int .i64 (c2 : Int)) rfl inv (by kernel_rfl) (by kernel_rfl) (by decide) (by decide) (by kernel_rfl) (by kernel_rfl) (by kernel_rfl) (fun _ _ _ h => h) (Or.inl ⟨by rfl, fun w' hw' => ?_⟩) (HCS4.out _ (Below.refl _ _).drew) (fun inv => ?_)
      · obtain ⟨h0, h1, h2, h3, h4⟩ := hw'
        go_simp
      try simp only [Act.put, List.setIfInBounds_toArray, List.set_cons_zero, List.set_cons_succ]
      refine wpU_take (i := 7) (v := .int .i64 (n : Int)) rfl inv (by kernel_rfl) (by kernel_rfl) (by decide) (by decide) (by kernel_rfl) (by kernel_rfl) (by kernel_rfl) (fun _ _ _ h => h) (Or.inl ⟨by rfl, fun w' hw' => ?_⟩) (HCS4.out _ (Below.refl _ _).drew) (fun inv => ?_)
      · obtain ⟨h0, h1, h2, h3, h4⟩ := hw'
        go_simp
      try simp only [Act.put, List.setIfInBounds_toArray, List.set_cons_zero, List.set_cons_succ]
      refine wpU_take (i := 8) (v := .int .i64 (n1 : Int)) rfl inv (by kernel_rfl) (by kernel_rfl) (by decide) (by decide) (by kernel_rfl) (by kernel_rfl) (by kernel_rfl) (fun _ _ _ h => h) (Or.inl ⟨by rfl, fun w' hw' => ?_⟩) (HCS4.out _ (Below.refl _ _).drew) (fun inv => ?_)
      · obtain ⟨h0, h1, h2, h3, h4⟩ := hw'
        have hw4 := HW4.out; have hw5 := HW5.out; have hw6 := HW6.out; have hw7 := HW7.out; have hw8 := HW8.out; go_simp
      try simp only [Act.put, List.setIfInBounds_toArray, List.set_cons_zero, List.set_cons_succ]
      refine wpU_take (i := 9) (v := .pointer (some ⟨cb, 0, none⟩)) rfl inv (by kernel_rfl) (by kernel_rfl) (by decide) (by decide) (by kernel_rfl) (by kernel_rfl) (by kernel_rfl) (fun _ _ _ h => h) (Or.inl ⟨by rfl, fun w' hw' => ?_⟩) (HCS4.out _ (Below.refl _ _).drew) (fun inv => ?_)
      · obtain ⟨h0, h1, h2, h3, h4⟩ := hw'
        go_simp
      try simp only [Act.put, List.setIfInBounds_toArray, List.set_cons_zero, List.set_cons_succ]
      refine wpU_take (i := 10) (v := .pointer (some ⟨cb, 0, none⟩)) rfl inv (by kernel_rfl) (by kernel_rfl) (by decide) (by decide) (by kernel_rfl) (by kernel_rfl) (by kernel_rfl) (fun _ _ _ h => h) (Or.inl ⟨by rfl, fun w' hw' => ?_⟩) (HCS4.out _ (Below.refl _ _).drew) (fun inv => ?_)
      · obtain ⟨h0, h1, h2, h3, h4⟩ := hw'
        go_simp
      try simp only [Act.put, List.setIfInBounds_toArray, List.set_cons_zero, List.set_cons_succ]
      refine wpU_take (i := 11) (v := .pointer (some ⟨cb, 0 + 5, none⟩)) rfl inv (by kernel_rfl) (by kernel_rfl) (by decide) (by decide) (by kernel_rfl) (by kernel_rfl) (by kernel_rfl) (fun _ _ _ h => h) (Or.inl ⟨by rfl, fun w' hw' => ?_⟩) (HCS4.out _ (Below.refl _ _).drew) (fun inv => ?_)
      · obtain ⟨h0, h1, h2, h3, h4⟩ := hw'
        go_simp
      try simp only [Act.put, List.setIfInBounds_toArray, List.set_cons_zero, List.set_cons_succ]
      refine wpU_take (i := 12) (v := .pointer (some ⟨cb, 0 + 5 + 1, none⟩)) rfl inv (by kernel_rfl) (by kernel_rfl) (by decide) (by decide) (by kernel_rfl) (by kernel_rfl) (by kernel_rfl) (fun _ _ _ h => h) (Or.inl ⟨by rfl, fun w' hw' => ?_⟩) (HCS4.out _ (Below.refl _ _).drew) (fun inv => ?_)
      · obtain ⟨h0, h1, h2, h3, h4⟩ := hw'
        go_simp
      try simp only [Act.put, List.setIfInBounds_toArray, List.set_cons_zero, List.set_cons_succ]
      refine wpU_take (i := 13) (v := .int .i64 (c1 : Int)) rfl inv (by kernel_rfl) (by kernel_rfl) (by decide) (by decide) (by kernel_rfl) (by kernel_rfl) (by kernel_rfl) (fun _ _ _ h => h) (Or.inl ⟨by rfl, fun w' hw' => ?_⟩) (HCS4.out _ (Below.refl _ _).drew) (fun inv => ?_)
      · obtain ⟨h0, h1, h2, h3, h4⟩ := hw'
        go_simp
      try simp only [Act.put, List.setIfInBounds_toArray, List.set_cons_zero, List.set_cons_succ]
      refine wpU_take (i := 14) (v := .int .i64 (p1 : Int)) rfl inv (by kernel_rfl) (by kernel_rfl) (by decide) (by decide) (by kernel_rfl) (by kernel_rfl) (by kernel_rfl) (fun _ _ _ h => h) (Or.inl ⟨by rfl, fun w' hw' => ?_⟩) (HCS4.out _ (Below.refl _ _).drew) (fun inv => ?_)
      · obtain ⟨h0, h1, h2, h3, h4⟩ := hw'
        have hw4 := HW4.out; have hw5 := HW5.out; have hw6 := HW6.out; have hw7 := HW7.out; have hw8 := HW8.out; go_simp
      try simp only [Act.put, List.setIfInBounds_toArray, List.set_cons_zero, List.set_cons_succ]
      refine wpU_take (i := 15) (v := .int .i64 (q : Int)) rfl inv (by kernel_rfl) (by kernel_rfl) (by decide) (by decide) (by kernel_rfl) (by kernel_rfl) (by kernel_rfl) (fun _ _ _ h => h) (Or.inl ⟨by rfl, fun w' hw' => ?_⟩) (HCS4.out _ (Below.refl _ _).drew) (fun inv => ?_)
      · obtain ⟨h0, h1, h2, h3, h4⟩ := hw'
        have hw4 := HW4.out; have hw5 := HW5.out; have hw6 := HW6.out; have hw7 := HW7.out; have hw8 := HW8.out; go_simp
      try simp only [Act.put, List.setIfInBounds_toArray, List.set_cons_zero, List.set_cons_succ]
      refine wpU_one (i := 16) (by kernel_rfl) rfl (fun K hK => ?_)
      have hw7 := HW7.out
      go_simp
      refine hK.out _ _ (fun h => absurd (show true = false from h) (by decide)) ?_
      clear hK K
      try simp only [Act.put, List.setIfInBounds_toArray, List.set_cons_zero, List.set_cons_succ]
      refine wpU_one (i := 17) (by kernel_rfl) rfl (fun K hK => ?_)
      go_simp
      refine hK.out _ _ (fun h => absurd (show true = false from h) (by decide)) ?_
      clear hK K
      try simp only [Act.put, List.setIfInBounds_toArray, List.set_cons_zero, List.set_cons_succ]
      refine wpU_one (i := 18) (by kernel_rfl) rfl (fun K hK => ?_)
      go_simp
      refine hK.out _ _ (fun h => absurd (show true = false from h) (by decide)) ?_
      clear hK K
      try simp only [Act.put, List.setIfInBounds_toArray, List.set_cons_zero, List.set_cons_succ]
      refine wpU_done (by kernel_rfl) ?_ _
      obtain ⟨w2, HW2'⟩ := nameIt (w1.setCell ⟨b, 0, none⟩ (.int .i64 (d : Int))).drew
      rw [HW2'.out] at HOND
      rw [HW2'.out]
      clear HW2'
      have HB2 := Lib.hid HOND.out.bel
      obtain ⟨z0, z1, z2, z3⟩ := HCS.out w2 HB2.out
      have hct := containsInt sa sk xs t w2 (by rw [hxl]; exact HPT.out.keep (HB0.out.trans (HB2.out.mono HB0.out.size)))
      rw [hxl, HBB.out] at hct
      have HCT := Lib.hid hct
      have hsl1 := HSL.out w2
      obtain ⟨k0, k1, k2, k3⟩ := bx_cells4 HOND.out.box
      obtain ⟨y0, y1, y2, y3⟩ := bx_cells4 (bx_keep HZ0.out HB2.out)
      obtain ⟨f0, f1, f2, f3⟩ := bx_free4 (bx_keep HZ0.out HB2.out)
      clear hct
      cases bb with
      | false =>
        go_wp2_with fail
        refine HCT.out.mono ?_
        rintro e w3 ⟨rfl, rfl⟩
        go_wp2_with fail
        refine bodyPost_ret (v := .agg #[.int .i64 (d : Int), .int .i64 1, .slice (some ⟨bs, 0, none⟩) 1 1, .bool true]) (by simp [results, Try.results96, go_sem, y0, y1, y2, y3]) rfl ?_
        exact HEND.out b bs d w2 HOND.out HRES.out
      | true =>
        have HCS6 : Hid (∀ w', Below w2.heap.size w2 w' → w'.cell? ⟨cb, 0 + 4, none⟩ = some (.slice wa wn wk) ∧ w'.cell? ⟨cb, 0 + 5, none⟩ = some (.int .i64 (c0 : Int)) ∧ w'.cell? ⟨cb, 0 + 5 + 1, none⟩ = some (.int .i64 (c1 : Int)) ∧ w'.cell? ⟨cb, 0 + 5 + 2, none⟩ = some (.int .i64 (c2 : Int)) ∧ w'.cell? ⟨b, 0, none⟩ = some (.int .i64 (d : Int))) := by
          intro w' hb'
          obtain ⟨h1, h2, h3, h4⟩ := HCS.out w' (HB2.out.trans (hb'.mono HB2.out.size))
          exact ⟨h1, h2, h3, h4, (bx_cells4 (bx_keep HOND.out.box hb')).1⟩
        have HONG := Lib.hid ((HOND.out.set g).keep (Below.refl _ _).drew)
        obtain ⟨f4, f5, f6, f7⟩ := bx_free4 (HOND.out.keep (Below.refl w2.heap.size w2).drew).box
        obtain ⟨k4, k5, k6, k7⟩ := bx_cells4 (HOND.out.keep (Below.refl w2.heap.size w2).drew).box
        go_wp2_with fail
        refine HCT.out.mono ?_
        rintro e w3 ⟨rfl, rfl⟩
        go_upto_region 6 with fail
        refine wp_region_U (S := (fun w' => w'.cell? ⟨cb, 0 + 4, none⟩ = some (.slice wa wn wk) ∧ w'.cell? ⟨cb, 0 + 5, none⟩ = some (.int .i64 (c0 : Int)) ∧ w'.cell? ⟨cb, 0 + 5 + 1, none⟩ = some (.int .i64 (c1 : Int)) ∧ w'.cell? ⟨cb, 0 + 5 + 2, none⟩ = some (.int .i64 (c2 : Int)) ∧ w'.cell? ⟨b, 0, none⟩ = some (.int .i64 (d : Int)))) 10 (by kernel_rfl) (fun inv => ?_)
        refine wpU_take (i := 0) (v := .pointer (some ⟨b, 0, none⟩)) rfl inv (by kernel_rfl) (by kernel_rfl) (by decide) (by decide) (by kernel_rfl) (by kernel_rfl) (by kernel_rfl) (fun _ _ _ h => h) (Or.inl ⟨by rfl, fun w' hw' => ?_⟩) (HCS6.out _ (Below.refl _ _).drew) (fun inv => ?_)
        · obtain ⟨h0, h1, h2, h3, h4⟩ := hw'
          go_simp
        try simp only [Act.put, List.setIfInBounds_toArray, List.set_cons_zero, List.set_cons_succ]
        refine wpU_take (i := 1) (v := .int .i64 (d : Int)) rfl inv (by kernel_rfl) (by kernel_rfl) (by decide) (by decide) (by kernel_rfl) (by kernel_rfl) (by kernel_rfl) (fun _ _ _ h => h) (Or.inl ⟨by rfl, fun w' hw' => ?_⟩) (HCS6.out _ (Below.refl _ _).drew) (fun inv => ?_)
        · obtain ⟨h0, h1, h2, h3, h4⟩ := hw'
          go_simp
        try simp only [Act.put, List.setIfInBounds_toArray, List.set_cons_zero, List.set_cons_succ]
        refine wpU_take (i := 2) (v := .int .i64 (n : Int)) rfl inv (by kernel_rfl) (by kernel_rfl) (by decide) (by decide) (by kernel_rfl) (by kernel_rfl) (by kernel_rfl) (fun _ _ _ h => h) (Or.inl ⟨by rfl, fun w' hw' => ?_⟩) (HCS6.out _ (Below.refl _ _).drew) (fun inv => ?_)
        · obtain ⟨h0, h1, h2, h3, h4⟩ := hw'
          go_simp
        try simp only [Act.put, List.setIfInBounds_toArray, List.set_cons_zero, List.set_cons_succ]
        refine wpU_take (i := 3) (v := .int .i64 (n1 : Int)) rfl inv (by kernel_rfl) (by kernel_rfl) (by decide) (by decide) (by kernel_rfl) (by kernel_rfl) (by kernel_rfl) (fun _ _ _ h => h) (Or.inl ⟨by rfl, fun w' hw' => ?_⟩) (HCS6.out _ (Below.refl _ _).drew) (fun inv => ?_)
        · obtain ⟨h0, h1, h2, h3, h4⟩ := hw'
          have hw4 := HW4.out; have hw5 := HW5.out; have hw6 := HW6.out; have hw7 := HW7.out; have hw8 := HW8.out; go_simp
        try simp only [Act.put, List.setIfInBounds_toArray, List.set_cons_zero, List.set_cons_succ]
        refine wpU_take (i := 4) (v := .pointer (some ⟨cb, 0, none⟩)) rfl inv (by kernel_rfl) (by kernel_rfl) (by decide) (by decide) (by kernel_rfl) (by kernel_rfl) (by kernel_rfl) (fun _ _ _ h => h) (Or.inl ⟨by rfl, fun w' hw' => ?_⟩) (HCS6.out _ (Below.refl _ _).drew) (fun inv => ?_)
        · obtain ⟨h0, h1, h2, h3, h4⟩ := hw'
          go_simp
        try simp only [Act.put, List.setIfInBounds_toArray, List.set_cons_zero, List.set_cons_succ]
        refine wpU_take (i := 5) (v := .pointer (some ⟨cb, 0, none⟩)) rfl inv (by kernel_rfl) (by kernel_rfl) (by decide) (by decide) (by kernel_rfl) (by kernel_rfl) (by kernel_rfl) (fun _ _ _ h => h) (Or.inl ⟨by rfl, fun w' hw' => ?_⟩) (HCS6.out _ (Below.refl _ _).drew) (fun inv => ?_)
        · obtain ⟨h0, h1, h2, h3, h4⟩ := hw'
          go_simp
        try simp only [Act.put, List.setIfInBounds_toArray, List.set_cons_zero, List.set_cons_succ]
        refine wpU_take (i := 6) (v := .pointer (some ⟨cb, 0 + 5, none⟩)) rfl inv (by kernel_rfl) (by kernel_rfl) (by decide) (by decide) (by kernel_rfl) (by kernel_rfl) (by kernel_rfl) (fun _ _ _ h => h) (Or.inl ⟨by rfl, fun w' hw' => ?_⟩) (HCS6.out _ (Below.refl _ _).drew) (fun inv => ?_)
        · obtain ⟨h0, h1, h2, h3, h4⟩ := hw'
          go_simp
        try simp only [Act.put, List.setIfInBounds_toArray, List.set_cons_zero, List.set_cons_succ]
        refine wpU_take (i := 7) (v := .pointer (some ⟨cb, 0 + 5 + 1, none⟩)) rfl inv (by kernel_rfl) (by kernel_rfl) (by decide) (by decide) (by kernel_rfl) (by kernel_rfl) (by kernel_rfl) (fun _ _ _ h => h) (Or.inl ⟨by rfl, fun w' hw' => ?_⟩) (HCS6.out _ (Below.refl _ _).drew) (fun inv => ?_)
        · obtain ⟨h0, h1, h2, h3, h4⟩ := hw'
          go_simp
        try simp only [Act.put, List.setIfInBounds_toArray, List.set_cons_zero, List.set_cons_succ]
        refine wpU_take (i := 8) (v := .int .i64 (c1 : Int)) rfl inv (by kernel_rfl) (by kernel_rfl) (by decide) (by decide) (by kernel_rfl) (by kernel_rfl) (by kernel_rfl) (fun _ _ _ h => h) (Or.inl ⟨by rfl, fun w' hw' => ?_⟩) (HCS6.out _ (Below.refl _ _).drew) (fun inv => ?_)
        · obtain ⟨h0, h1, h2, h3, h4⟩ := hw'
          go_simp
        try simp only [Act.put, List.setIfInBounds_toArray, List.set_cons_zero, List.set_cons_succ]
        refine wpU_take (i := 9) (v := .int .i64 (p1 : Int)) rfl inv (by kernel_rfl) (by kernel_rfl) (by decide) (by decide) (by kernel_rfl) (by kernel_rfl) (by kernel_rfl) (fun _ _ _ h => h) (Or.inl ⟨by rfl, fun w' hw' => ?_⟩) (HCS6.out _ (Below.refl _ _).drew) (fun inv => ?_)
        · obtain ⟨h0, h1, h2, h3, h4⟩ := hw'
          have hw4 := HW4.out; have hw5 := HW5.out; have hw6 := HW6.out; have hw7 := HW7.out; have hw8 := HW8.out; go_simp
        try simp only [Act.put, List.setIfInBounds_toArray, List.set_cons_zero, List.set_cons_succ]
        refine wpU_one (i := 10) (by kernel_rfl) rfl (fun K hK => ?_)
        have hw8 := HW8.out
        go_simp
        refine hK.out _ _ (fun h => absurd (show true = false from h) (by decide)) ?_
        clear hK K
        try simp only [Act.put, List.setIfInBounds_toArray, List.set_cons_zero, List.set_cons_succ]
        refine wpU_one (i := 11) (by kernel_rfl) rfl (fun K hK => ?_)
        go_simp
        refine hK.out _ _ (fun h => absurd (show true = false from h) (by decide)) ?_
        clear hK K
        try simp only [Act.put, List.setIfInBounds_toArray, List.set_cons_zero, List.set_cons_succ]
        refine wpU_one (i := 12) (by kernel_rfl) rfl (fun K hK => ?_)
        go_simp
        refine hK.out _ _ (fun h => absurd (show true = false from h) (by decide)) ?_
        clear hK K
        try simp only [Act.put, List.setIfInBounds_toArray, List.set_cons_zero, List.set_cons_succ]
        refine wpU_done (by kernel_rfl) ?_ _
        obtain ⟨w4, HW4'⟩ := nameIt (w2.setCell ⟨b, 0, none⟩ (.int .i64 (g : Int))).drew
        rw [HW4'.out] at HONG
        rw [HW4'.out]
        clear HW4'
        have HB4 := Lib.hid HONG.out.bel
        obtain ⟨k0, k1, k2, k3⟩ := bx_cells4 HONG.out.box
        obtain ⟨y0, y1, y2, y3⟩ := bx_cells4 (bx_keep HZ0.out HB4.out)
        obtain ⟨f0, f1, f2, f3⟩ := bx_free4 (bx_keep HZ0.out HB4.out)
        go_wp2_with fail
        refine bodyPost_ret (v := .agg #[.int .i64 (g : Int), .int .i64 1, .slice (some ⟨bs, 0, none⟩) 1 1, .bool true]) (by simp [results, Try.results96, go_sem, y0, y1, y2, y3]) rfl ?_
        exact HEND.out b bs g w4 HONG.out HRES.out
end Rp
end Go.Proofs.Ytjpmebppdcclbaa
namespace Go.Proofs.Ytjpmebppdcclbaa
open Go.RowKit
theorem rd_nil (S : Nat → Prop) (w : World) : Rd S w (.sl []) [.slice none 0 0] := ⟨none, 0, [], rfl, by simp, by simp [maxLen], fun _ => rfl, fun i hi => by simp at hi, rfl⟩
structure NodeFn (g : Nat) (lb : Array Value) (w0 : World) (p : Tree → Bool) (N : Nat) (I : List Tree → (Nat → Prop) → World → Prop) : Prop where
  below : ∀ {s S W}, I s S W → Below w0.heap.size w0 W
  own : ∀ {s S W}, I s S W → ∀ k, S k → w0.heap.size ≤ k ∧ k < W.heap.size
  keep : ∀ {s S W W'}, I s S W → Below W.heap.size W W' → I s S W'
  call : ∀ s S W (t : Tree) (v : Value), I s S W → Rd AnyB w0 (.sl (t.kids.map Tree.d)) [v] → s.length < N →
    Calls Try.prog g (#[.agg #[.int .i64 t.rule, .int .i64 t.term, v]] ++ lb) W fun e W' => ∃ S', e = .returned (.bool (p t)) ∧ I (s ++ [t]) S' W' ∧ Keeps S W W' ∧ ∀ k, S' k → S k ∨ W.heap.size ≤ k
structure WalkRel (p : Tree → Bool) (I : List Tree → (Nat → Prop) → World → Prop) (t : Tree) (s : List Tree) (S : Nat → Prop) (W : World) (i : Nat) (S' : Nat → Prop) (W' : World) : Prop where
  inv : I (s ++ t :: nodesL ((kidsOf t).take i)) S' W'
  kps : Keeps S W W'
  sub : ∀ k, S' k → S k ∨ W.heap.size ≤ k
  all : (t :: nodesL ((kidsOf t).take i)).all p = true
end Go.Proofs.Ytjpmebppdcclbaa
namespace Go.Proofs.Ytjpmebppdcclbaa
open Go.RowKit
mutual
def Tree.size : Tree → Nat
  | .node _ _ ks => sizeL ks + 1
def sizeL : List Tree → Nat
  | [] => 0
  | k :: ks => Tree.size k + sizeL ks
end
theorem Tree.size_eq (t : Tree) : t.size = sizeL t.kids + 1 := by cases t; simp [Tree.size, Tree.kids]
end Go.Proofs.Ytjpmebppdcclbaa
namespace Go.Proofs.Ytjpmebppdcclbaa
open Go.RowKit
end Go.Proofs.Ytjpmebppdcclbaa
namespace Go.Proofs.Ytjpmebppdcclbaa
open Go.RowKit
mutual
theorem size_mono : ∀ (t : Tree), ∀ k ∈ t.kids, k.size < t.size
  | .node r tm ks => by
    intro k hk
    have := sizeL_mem ks k hk
    simp [Tree.size]; omega
theorem sizeL_mem : ∀ (ks : List Tree), ∀ k ∈ ks, k.size ≤ sizeL ks
  | [], k, h => by simp at h
  | x :: ks, k, h => by
    rcases List.mem_cons.1 h with rfl | h
    · simp [sizeL]
    · have := sizeL_mem ks k h; simp [sizeL]; omega
end
end Go.Proofs.Ytjpmebppdcclbaa
namespace Go.Proofs.Ytjpmebppdcclbaa
open Go.RowKit
def putT : Tree → List Int → Tree → Tree
  | _, [], s => s
  | t, i :: p, s => .node t.rule t.term (t.kids.mapIdx fun j k => if (j : Int) = i then putT k p s else k)
end Go.Proofs.Ytjpmebppdcclbaa
namespace Go.Proofs.Ytjpmebppdcclbaa
def rootS (g : Gram) (t : Tree) : Sym := if t.rule < 0 then ⟨true, t.term⟩ else match g.rules[t.rule.toNat]? with | some r => ⟨false, r.left⟩ | none => ⟨true, t.term⟩
def kidOk (g : Gram) (k : Tree) (s : Sym) : Bool := decide (-1 ≤ k.rule) && (decide (k.rule < g.rules.length) && decide (rootS g k = s))
def kidsOk (g : Gram) (ks : List Tree) (l : List Sym) : Bool := decide (ks.length = l.length) && (List.zip ks l).all fun x => kidOk g x.1 x.2
def nodeOk (g : Gram) (t : Tree) : Bool :=
  if t.rule = -1 then decide (0 ≤ t.term) && (decide (t.term < g.terms) && decide (t.kids.length = 0))
  else if t.rule < 0 then false else match g.rules[t.rule.toNat]? with
    | none => false
    | some r => decide (t.term = 0) && kidsOk g t.kids r.right
mutual
theorem kid_node : ∀ (t x k : Tree), x ∈ nodes t → x.rule ≠ -1 → k ∈ x.kids → k ∈ nodes t
  | .node r tm ks, x, k, hx, hr, hk => by
    rw [nodes] at hx ⊢
    rcases List.mem_cons.1 hx with rfl | hx
    · simp only [Tree.rule, Tree.kids] at hr hk
      rw [if_neg hr]
      exact List.mem_cons_of_mem _ (kid_mem ks k hk)
    · by_cases h : r = -1
      · rw [if_pos h] at hx; simp at hx
      · rw [if_neg h] at hx ⊢
        exact List.mem_cons_of_mem _ (kid_nodeL ks x k hx hr hk)
theorem kid_nodeL : ∀ (ks : List Tree) (x k : Tree), x ∈ nodesL ks → x.rule ≠ -1 → k ∈ x.kids → k ∈ nodesL ks
  | [], x, k, hx, _, _ => by simp [nodesL] at hx
  | y :: ks, x, k, hx, hr, hk => by
    rw [nodesL] at hx ⊢
    rcases List.mem_append.1 hx with h | h
    · exact List.mem_append_left _ (kid_node y x k h hr hk)
    · exact List.mem_append_right _ (kid_nodeL ks x k h hr hk)
theorem kid_mem : ∀ (ks : List Tree) (k : Tree), k ∈ ks → k ∈ nodesL ks
  | [], k, h => by simp at h
  | y :: ks, k, h => by
    rw [nodesL]
    rcases List.mem_cons.1 h with rfl | h
    · refine List.mem_append_left _ ?_
      rw [nodes_eq]; exact List.mem_cons_self
    · exact List.mem_append_right _ (kid_mem ks k h)
end
end Go.Proofs.Ytjpmebppdcclbaa
namespace Go.Proofs.Ytjpmebppdcclbaa
open Go.RowKit
mutual
def parts : Tree → List Tree
  | .node r t ks => .node r t ks :: partsL ks
def partsL : List Tree → List Tree
  | [] => []
  | k :: ks => parts k ++ partsL ks
end
mutual
def aps : Tree → List (List Int)
  | .node _ _ ks => [] :: apsL 0 ks
def apsL : Nat → List Tree → List (List Int)
  | _, [] => []
  | n, k :: ks => (aps k).map (fun p => (n : Int) :: p) ++ apsL (n + 1) ks
end
mutual
def chg : Tree → Int → Tree → Tree × Int
  | .node r t ks, n, b => if n = 0 then (b, -1) else (.node r t (chgL ks (n - 1) b).1, (chgL ks (n - 1) b).2)
def chgL : List Tree → Int → Tree → List Tree × Int
  | [], n, _ => ([], n)
  | k :: ks, n, b => if 0 ≤ n then ((chg k n b).1 :: (chgL ks (chg k n b).2 b).1, (chgL ks (chg k n b).2 b).2) else (k :: (chgL ks n b).1, (chgL ks n b).2)
end
mutual
def good (g : Gram) : Tree → Prop
  | .node r _ ks => (r = -1 → ks = []) ∧ -1 ≤ r ∧ r < g.rules.length ∧ goodL g ks
def goodL (g : Gram) : List Tree → Prop
  | [] => True
  | k :: ks => good g k ∧ goodL g ks
end
mutual
theorem parts_len : ∀ t : Tree, (parts t).length = t.size
  | .node r tm ks => by simp [parts, Tree.size, partsL_len ks]
theorem partsL_len : ∀ ks : List Tree, (partsL ks).length = sizeL ks
  | [] => by simp [partsL, sizeL]
  | k :: ks => by simp [partsL, sizeL, parts_len k, partsL_len ks]
end
mutual
theorem aps_len : ∀ t : Tree, (aps t).length = t.size
  | .node r tm ks => by simp [aps, Tree.size, apsL_len ks]
theorem apsL_len : ∀ (ks : List Tree) (n : Nat), (apsL n ks).length = sizeL ks
  | [], n => by simp [apsL, sizeL]
  | k :: ks, n => by simp [apsL, sizeL, aps_len k, apsL_len ks]
end
mutual
theorem ap_le : ∀ (t : Tree), ∀ p ∈ aps t, p.length < t.size
  | .node r tm ks => by
    rw [aps, Tree.size]
    intro p hp
    rcases List.mem_cons.1 hp with rfl | hp
    · simp
    · have := apL_le ks 0 p hp; omega
theorem apL_le : ∀ (ks : List Tree) (n : Nat), ∀ p ∈ apsL n ks, p.length ≤ sizeL ks
  | [], n => by simp [apsL]
  | k :: ks, n => by
    rw [apsL, sizeL]
    intro p hp
    rw [List.mem_append] at hp
    rcases hp with hp | hp
    · rw [List.mem_map] at hp
      obtain ⟨q, hq, rfl⟩ := hp
      have := ap_le k q hq
      simp; omega
    · have := apL_le ks (n + 1) p hp; omega
end
mutual
theorem part_size : ∀ (t : Tree), ∀ y ∈ parts t, y.size ≤ t.size
  | .node r tm ks => by
    rw [parts]
    intro y hy
    rcases List.mem_cons.1 hy with rfl | hy
    · exact Nat.le_refl _
    · have := partL_size ks y hy; rw [Tree.size]; omega
theorem partL_size : ∀ (ks : List Tree), ∀ y ∈ partsL ks, y.size ≤ sizeL ks
  | [] => by simp [partsL]
  | k :: ks => by
    rw [partsL, sizeL]
    intro y hy
    rcases List.mem_append.1 hy with hy | hy
    · have := part_size k y hy; omega
    · have := partL_size ks y hy; omega
end
mutual
theorem good_part {g : Gram} : ∀ (t : Tree), good g t → ∀ y ∈ parts t, good g y
  | .node r tm ks, h => by
    rw [parts]
    intro y hy
    rcases List.mem_cons.1 hy with rfl | hy
    · exact h
    · rw [good] at h; exact goodL_part ks h.2.2.2 y hy
theorem goodL_part {g : Gram} : ∀ (ks : List Tree), goodL g ks → ∀ y ∈ partsL ks, good g y
  | [], _ => by simp [partsL]
  | k :: ks, h => by
    rw [partsL]
    rw [goodL] at h
    intro y hy
    rcases List.mem_append.1 hy with hy | hy
    · exact good_part k h.1 y hy
    · exact goodL_part ks h.2 y hy
end
mutual
theorem nodes_parts {g : Gram} : ∀ (t : Tree), good g t → nodes t = parts t
  | .node r tm ks, h => by
    rw [good] at h
    rw [nodes, parts]
    by_cases hr : r = -1
    · rw [if_pos hr, h.1 hr, partsL]
    · rw [if_neg hr, nodesL_parts ks h.2.2.2]
theorem nodesL_parts {g : Gram} : ∀ (ks : List Tree), goodL g ks → nodesL ks = partsL ks
  | [], _ => by simp [nodesL, partsL]
  | k :: ks, h => by
    rw [goodL] at h
    rw [nodesL, partsL, nodes_parts k h.1, nodesL_parts ks h.2]
end
mutual
theorem good_of {g : Gram} : ∀ (t : Tree), (nodes t).all (nodeOk g) = true → good g t
  | .node r tm ks, h => by
    rw [nodes, List.all_cons, Bool.and_eq_true] at h
    obtain ⟨h1, h2⟩ := h
    rw [good]
    by_cases hr : r = -1
    · have hk : ks = [] := by
        simp [nodeOk, Tree.rule, Tree.kids, hr] at h1
        exact h1.2.2
      subst hk
      exact ⟨fun _ => rfl, by omega, by omega, trivial⟩
    · rw [if_neg hr] at h2
      refine ⟨fun e => absurd e hr, ?_, ?_, goodL_of ks h2⟩
      · by_cases h0 : r < 0
        · simp [nodeOk, Tree.rule, hr, h0] at h1
        · omega
      · by_cases h0 : r < 0
        · omega
        · by_cases h3 : r.toNat < g.rules.length
          · omega
          · have e : g.rules[r.toNat]? = none := List.getElem?_eq_none (by omega)
            simp [nodeOk, Tree.rule, hr, h0, e] at h1
theorem goodL_of {g : Gram} : ∀ (ks : List Tree), (nodesL ks).all (nodeOk g) = true → goodL g ks
  | [], _ => trivial
  | k :: ks, h => by
    rw [nodesL, List.all_append, Bool.and_eq_true] at h
    exact ⟨good_of k h.1, goodL_of ks h.2⟩
end
theorem chgL_done : ∀ (ks : List Tree) (b : Tree), chgL ks (-1) b = (ks, -1)
  | [], b => by simp [chgL]
  | k :: ks, b => by rw [chgL, if_neg (by omega), chgL_done ks b]
mutual
theorem chg_past : ∀ (t : Tree) (n : Nat) (b : Tree), t.size ≤ n → chg t n b = (t, (n : Int) - t.size)
  | .node r tm ks, n, b, h => by
    rw [Tree.size] at h
    have h1 := chgL_past ks (n - 1) b (by omega)
    rw [show ((n - 1 : Nat) : Int) = (n : Int) - 1 by omega] at h1
    rw [chg, if_neg (by omega), h1, Tree.size]
    simp; omega
theorem chgL_past : ∀ (ks : List Tree) (n : Nat) (b : Tree), sizeL ks ≤ n → chgL ks n b = (ks, (n : Int) - sizeL ks)
  | [], n, b, h => by simp [chgL, sizeL]
  | k :: ks, n, b, h => by
    rw [sizeL] at h
    have h1 := chg_past k n b (by omega)
    have h2 := chgL_past ks (n - k.size) b (by omega)
    rw [show ((n - k.size : Nat) : Int) = (n : Int) - k.size by omega] at h2
    rw [chgL, if_pos (by omega), h1, h2, sizeL]
    simp; omega
end
theorem mapIdx_if {ks : List Tree} (j : Nat) (f : Tree → Tree) : (ks.mapIdx fun m k => if (m : Int) = (j : Int) then f k else k) = ks.modify j f := by
  refine List.ext_getElem (by simp) fun i h1 h2 => ?_
  simp only [List.getElem_mapIdx, List.getElem_modify]
  by_cases e : j = i
  · rw [if_pos (by omega), if_pos e]
  · rw [if_neg (by omega), if_neg e]
theorem putT_modify (t : Tree) (j : Nat) (p : List Int) (b : Tree) : putT t ((j : Int) :: p) b = .node t.rule t.term (t.kids.modify j fun k => putT k p b) := by
  rw [putT, mapIdx_if j fun k => putT k p b]
mutual
theorem chg_put : ∀ (t : Tree) (n : Nat) (b : Tree) (h : n < (aps t).length), chg t n b = (putT t (aps t)[n] b, -1)
  | .node r tm ks, n, b, h => by
    cases n with
    | zero => simp [chg, aps, putT]
    | succ n =>
      have hn : n < (apsL 0 ks).length := by simpa [aps] using h
      obtain ⟨j, p, e1, e2, e3⟩ := chgL_put ks 0 n b hn
      rw [chg, if_neg (by omega)]
      rw [show ((n + 1 : Nat) : Int) - 1 = (n : Int) by omega, e3]
      have e4 : (aps (.node r tm ks))[n + 1] = (apsL 0 ks)[n] := by simp [aps]
      rw [e4, e1, Nat.zero_add, putT_modify]
      rfl
theorem chgL_put : ∀ (ks : List Tree) (m n : Nat) (b : Tree) (h : n < (apsL m ks).length), ∃ j p, (apsL m ks)[n] = ((m + j : Nat) : Int) :: p ∧ j < ks.length ∧ chgL ks n b = (ks.modify j (fun k => putT k p b), -1)
  | [], m, n, b, h => by simp [apsL] at h
  | k :: ks, m, n, b, h => by
    by_cases hn : n < (aps k).length
    · refine ⟨0, (aps k)[n], ?_, by simp, ?_⟩
      · simp only [apsL]
        rw [List.getElem_append_left (by simpa using hn)]; simp
      · rw [chgL, if_pos (by omega), chg_put k n b hn, chgL_done]
        simp
    · have hl := h
      simp only [apsL, List.length_append, List.length_map] at hl
      have hs : k.size ≤ n := by rw [← aps_len]; omega
      obtain ⟨j, p, e1, e2, e3⟩ := chgL_put ks (m + 1) (n - k.size) b (by rw [aps_len] at hl; omega)
      refine ⟨j + 1, p, ?_, by simpa using e2, ?_⟩
      · simp only [apsL]
        rw [List.getElem_append_right (by simp; omega)]
        simp only [List.length_map, aps_len]
        rw [e1, show m + 1 + j = m + (j + 1) by omega]
      · rw [chgL, if_pos (by omega), chg_past k n b hs]
        simp only
        rw [show (n : Int) - k.size = ((n - k.size : Nat) : Int) by omega, e3]
        simp
end
end Go.Proofs.Ytjpmebppdcclbaa
namespace Go.Proofs.Ytjpmebppdcclbaa
open Go.RowKit
end Go.Proofs.Ytjpmebppdcclbaa
namespace Go.Proofs.Ytjpmebppdcclbaa
open Go.RowKit
end Go.Proofs.Ytjpmebppdcclbaa
namespace Go.Proofs.Ytjpmebppdcclbaa
open Go.RowKit
end Go.Proofs.Ytjpmebppdcclbaa
namespace Go.Proofs.Ytjpmebppdcclbaa
open Go.RowKit
theorem Rd.tail {S : Nat → Prop} {w : World} {ds : List D} {b off n cap k : Nat} (h : Rd S w (.sl ds) [.slice (some ⟨b, off, none⟩) n cap]) (hk : ∀ d ∈ ds, d.cells = k) (hn : 1 ≤ n) :
    Rd S w (.sl (ds.drop 1)) [.slice (some ⟨b, if cap = 1 then off else off + k, none⟩) (n - 1) (cap - 1)] := by
  obtain ⟨a', cap', L, e, h1, h2, h3, h4, h5⟩ := h
  simp at e
  obtain ⟨rfl, rfl, rfl⟩ := e
  cases ds with
  | nil => simp at hn
  | cons d ds =>
    obtain ⟨c1, c2, rfl, h6, h7⟩ := h5
    have hl : c1.length = k := by rw [Rd.len d c1 h6]; exact hk d List.mem_cons_self
    simp only [List.drop_succ_cons, List.drop_zero, List.length_cons] at *
    refine ⟨_, cap - 1, c2, rfl, by omega, by omega, (fun h => by cases h), fun i hi => ⟨_, rfl, ?_, ?_⟩, h7⟩
    · obtain ⟨x, hx, hS, _⟩ := h4 (c1.length + i) (by simp; omega)
      cases hx
      exact hS
    · obtain ⟨x, hx, _, hc⟩ := h4 (c1.length + i) (by simp; omega)
      cases hx
      rw [add_at] at hc ⊢
      have hc1 : ¬ cap = 1 := by
        intro e
        have : ds = [] := List.eq_nil_of_length_eq_zero (by omega)
        subst this
        simp [RdAll] at h7
        subst h7
        simp at hi
      rw [if_neg hc1, Nat.add_assoc, ← hl, hc]
      simp
theorem Rd.headed {S : Nat → Prop} {w : World} {ds : List D} {v : Value} {k : Nat} (h : Rd S w (.sl ds) [v]) (h0 : 0 < ds.length) (hk : ∀ d ∈ ds, d.cells = k) (hp : 0 < k) : ∃ b off cap, v = .slice (some ⟨b, off, none⟩) ds.length cap ∧ ds.length ≤ cap ∧ cap ≤ maxLen := by
  obtain ⟨a, cap, rfl, h1, h2⟩ := h.form
  obtain ⟨b, off, cs, ha, _⟩ := h.at hk hp h0
  subst ha
  exact ⟨b, off, cap, rfl, h1, h2⟩
end Go.Proofs.Ytjpmebppdcclbaa
