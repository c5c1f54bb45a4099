/- slices.Index, Contains, IndexFunc and ContainsFunc of whole numbers. The contracts of gram.Has, gram.Order, gram.Compare and of slices' functions of symbols and rules. The contract of gram.Check. A region that draws its order: loads are taken first where their cells stay as they are until the tail begins. gram.Word, mean.check, mean.Accepts: of valid grammars and words. -/
import Derived.Test.YtccjdgjehecdiaaDoorJCompareTellsRow1
import Derived.Deep.LoopGhost
import Derived.Deep.Cut
import Derived.Shelf.Abstract
import Derived.Test.YtccjdgjehecdiaaDoorJCompareTellsRow2
import Derived.Deep.RegionHeld3
import Derived.Deep.DeepCutAuto
import Derived.StillTailTactics
namespace Go.Proofs.YtccjdgjehecdiaaDoor
open Go.RowKit

/-- a condition of numbers, as a function value -/
def PredAt (g : Nat) (lb : Array Value) (l : List Int) (p : Int → Bool) (w : World) : Prop :=
  ∀ (W : World) (x : Int), x ∈ l → Below w.heap.size w W → Calls Tryd.prog g (#[.int .i64 x] ++ lb) W fun e w' => e = .returned (.bool (p x)) ∧ Below W.heap.size W w'
def idxBy (p : Int → Bool) (l : List Int) : Int := if l.any p then (l.findIdx p : Int) else -1
theorem idxBy_hit {p : Int → Bool} {l : List Int} {i : Nat} (hi : i < l.length) (h : p l[i] = true) (hn : ∀ j (h : j < l.length), j < i → p l[j] = false) : idxBy p l = i := by
  have h1 : l.any p = true := List.any_eq_true.2 ⟨l[i], List.getElem_mem hi, h⟩
  rw [idxBy, if_pos h1]
  have : l.findIdx p = i := by
    rw [List.findIdx_eq hi]
    exact ⟨h, fun j hj => by simp [hn j (by omega) hj]⟩
  rw [this]
theorem idxBy_none {p : Int → Bool} {l : List Int} (hn : ∀ j (h : j < l.length), p l[j] = false) : idxBy p l = -1 := by
  have h1 : l.any p = false := by
    rw [List.any_eq_false]
    intro x hx
    obtain ⟨j, hj, rfl⟩ := List.getElem_of_mem hx
    simp [hn j hj]
  rw [idxBy, if_neg (by simp [h1])]
theorem idxBy_ge (p : Int → Bool) (l : List Int) : decide (0 ≤ idxBy p l) = l.any p := by
  unfold idxBy
  cases h : l.any p <;> simp [h]

set_option maxHeartbeats 1000000 in
theorem indexFunc (g : Nat) (lb : Array Value) (p : Int → Bool) (a : Option Addr) (cap : Nat) (l : List Int) (w : World) (eg : ∀ args w, (callFunc g args).run Tryd.prog w = .ok (.enter g args) w)
    (hf : PredAt g lb l p w) (hl : Sl w (.slice a l.length cap) (ints l)) :
    Calls Tryd.prog 36 #[.slice a l.length cap, .func (.func g) #[] lb] w fun e w' => e = .returned (.int .i64 (idxBy p l)) ∧ Below w.heap.size w w' := by
  have HL := Lib.hid hl
  have HF := Lib.hid hf
  have hc := hl.len.2
  unfold maxLen at hc
  obtain ⟨hc1, hc2⟩ := hc
  clear hl hf
  go_enter Tryd.func36, Tryd.ntmps36
  go_wp2
  go_loopg [8] l.length (fun gg v8 wr => ∃ i : Nat, i ≤ l.length ∧ l.length - i ≤ gg ∧ v8 = .int .i64 i ∧ Hid (Below w.heap.size w wr) ∧ Hid (∀ j (h : j < l.length), j < i → p l[j] = false))
  case atStart => exact ⟨0, by omega, by omega, rfl, Below.refl _ _, fun j _ hj => by omega⟩
  case round =>
    obtain ⟨i, hi, hg, rfl, HB, HN⟩ := hrel
    by_cases hlt : i < l.length
    · have hlt' : (i : Int) < (l.length : Int) := by omega
      obtain ⟨ba, oa, hae, hca⟩ := (HL.out.keep HB.out).at hlt
      have c1 := hca i (by rw [ints_len]; exact hlt)
      rw [ints_get] at c1
      obtain ⟨x, HX⟩ := nameIt (l[i]'hlt)
      rw [HX.out] at c1
      subst hae
      clear hca
      go_wp2_with fail
      refine (HF.out _ x (by rw [← HX.out]; exact List.getElem_mem hlt) HB.out).mono ?_
      rintro e w6 ⟨rfl, hb6⟩
      have HB6 := Lib.hid (HB.out.trans (hb6.mono HB.out.size))
      clear hb6 c1
      cases hp : p x with
      | true =>
        have HE : Hid (idxBy p l = i) := idxBy_hit hlt (by rw [HX.out]; exact hp) HN.out
        clear hp
        go_wp2
        go_ret
        exact ⟨by rw [HE.out]; rfl, HB6.out⟩
      | false =>
        have HN2 : Hid (∀ j (h : j < l.length), j < i + 1 → p l[j] = false) := by
          intro j h hj
          by_cases e : j = i
          · subst e; rw [HX.out]; exact hp
          · exact HN.out j h (by omega)
        clear hp
        go_wp2
        go_roundg (l.length - (i + 1))
        case measure => omega
        case rel => exact ⟨i + 1, by omega, by omega, by go_num, HB6, HN2⟩
    · have hlt' : ¬ (i : Int) < (l.length : Int) := by omega
      have HE : Hid (idxBy p l = -1) := idxBy_none fun j hj => HN.out j hj (by omega)
      go_wp2
      go_ret
      exact ⟨by rw [HE.out]; rfl, HB.out⟩

set_option maxHeartbeats 1000000 in
theorem containsFunc (g : Nat) (lb : Array Value) (p : Int → Bool) (a : Option Addr) (cap : Nat) (l : List Int) (w : World) (eg : ∀ args w, (callFunc g args).run Tryd.prog w = .ok (.enter g args) w)
    (hf : PredAt g lb l p w) (hl : Sl w (.slice a l.length cap) (ints l)) :
    Calls Tryd.prog 33 #[.slice a l.length cap, .func (.func g) #[] lb] w fun e w' => e = .returned (.bool (l.any p)) ∧ Below w.heap.size w w' := by
  have HL := Lib.hid hl
  have HF := Lib.hid hf
  have HG := Lib.hid eg
  clear hl hf eg
  go_enter Tryd.func33, Tryd.ntmps33
  go_wp2_with fail
  refine (indexFunc g lb p a cap l w HG.out HF.out HL.out).mono ?_
  rintro e w1 ⟨rfl, hb⟩
  have HB := Lib.hid hb
  clear hb
  go_wp2
  go_ret
  exact ⟨by rw [idxBy_ge]; rfl, HB.out⟩

end Go.Proofs.YtccjdgjehecdiaaDoor
namespace Go.Proofs.YtccjdgjehecdiaaDoor
open Go.RowKit

def idxG {α : Type} (p : α → Bool) (l : List α) : Int := if l.any p then (l.findIdx p : Int) else -1
theorem idxG_hit {α : Type} {p : α → Bool} {l : List α} {i : Nat} (hi : i < l.length) (h : p l[i] = true) (hn : ∀ j (h : j < l.length), j < i → p l[j] = false) : idxG p l = i := by
  have h1 : l.any p = true := List.any_eq_true.2 ⟨l[i], List.getElem_mem hi, h⟩
  rw [idxG, if_pos h1]
  have : l.findIdx p = i := by
    rw [List.findIdx_eq hi]
    exact ⟨h, fun j hj => by simp [hn j (by omega) hj]⟩
  rw [this]
theorem idxG_none {α : Type} {p : α → Bool} {l : List α} (hn : ∀ j (h : j < l.length), p l[j] = false) : idxG p l = -1 := by
  have h1 : l.any p = false := by
    rw [List.any_eq_false]
    intro x hx
    obtain ⟨j, hj, rfl⟩ := List.getElem_of_mem hx
    simp [hn j hj]
  rw [idxG, if_neg (by simp [h1])]
theorem idxG_ge {α : Type} (p : α → Bool) (l : List α) : decide (0 ≤ idxG p l) = l.any p := by
  unfold idxG
  cases h : l.any p <;> simp [h]

def PredSym (g : Nat) (lb : Array Value) (l : List Sym) (p : Sym → Bool) (w : World) : Prop :=
  ∀ (W : World) (x : Sym), x ∈ l → Below w.heap.size w W → Calls Tryd.prog g (#[.agg #[.bool x.term, .int .i64 x.n]] ++ lb) W fun e w' => e = .returned (.bool (p x)) ∧ Below W.heap.size W w'
def PredRule (g : Nat) (lb : Array Value) (l : List Rule) (p : Rule → Bool) (w : World) : Prop :=
  ∀ (W : World) (x : Rule) (v : Value), x ∈ l → Below w.heap.size w W → Rd AnyB W (.sl (x.right.map Sym.d)) [v] → Calls Tryd.prog g (#[.agg #[.int .i64 x.left, v]] ++ lb) W fun e w' => e = .returned (.bool (p x)) ∧ Below W.heap.size W w'

set_option maxHeartbeats 1000000 in
theorem indexFuncSym (g : Nat) (lb : Array Value) (p : Sym → Bool) (a : Option Addr) (cap : Nat) (l : List Sym) (w : World) (eg : ∀ args w, (callFunc g args).run Tryd.prog w = .ok (.enter g args) w)
    (hf : PredSym g lb l p w) (hl : Rd AnyB w (.sl (l.map Sym.d)) [.slice a l.length cap]) :
    Calls Tryd.prog 24 #[.slice a l.length cap, .func (.func g) #[] lb] w fun e w' => e = .returned (.int .i64 (idxG p l)) ∧ Below w.heap.size w w' := by
  have HL := Lib.hid hl
  have HF := Lib.hid hf
  have hc := hl.bounds.2
  unfold maxLen at hc
  obtain ⟨hc1, hc2⟩ := hc
  clear hl hf
  go_enter Tryd.func24, Tryd.ntmps24
  go_wp2
  go_loopg [8] l.length (fun gg v8 wr => ∃ i : Nat, i ≤ l.length ∧ l.length - i ≤ gg ∧ v8 = .int .i64 i ∧ Hid (Below w.heap.size w wr) ∧ Hid (∀ j (h : j < l.length), j < i → p l[j] = false))
  case atStart => exact ⟨0, by omega, by omega, rfl, Below.refl _ _, fun j _ hj => by omega⟩
  case round =>
    obtain ⟨i, hi, hg, rfl, HB, HN⟩ := hrel
    by_cases hlt : i < l.length
    · have hlt' : (i : Int) < (l.length : Int) := by omega
      obtain ⟨b, off, hae, -, -, c0, c1⟩ := (HL.out.below HB.out).sym_at hlt
      obtain ⟨x, HX⟩ := nameIt (l[i]'hlt)
      rw [HX.out] at c0 c1
      have hcall := HF.out wr x (by rw [← HX.out]; exact List.getElem_mem hlt) HB.out
      obtain ⟨q0, HQ0⟩ := nameIt x.term
      obtain ⟨q1, HQ1⟩ := nameIt x.n
      rw [HQ0.out] at c0 hcall
      rw [HQ1.out] at c1 hcall
      have HC := Lib.hid hcall
      clear hcall
      subst hae
      go_wp2_with fail
      refine HC.out.mono ?_
      rintro e w6 ⟨rfl, hb6⟩
      have HB6 := Lib.hid (HB.out.trans (hb6.mono HB.out.size))
      clear hb6 c0 c1
      cases hp : p x with
      | true =>
        have HE : Hid (idxG p l = i) := idxG_hit hlt (by rw [HX.out]; exact hp) HN.out
        clear hp
        go_wp2
        go_ret
        exact ⟨by rw [HE.out]; rfl, HB6.out⟩
      | false =>
        have HN2 : Hid (∀ j (h : j < l.length), j < i + 1 → p l[j] = false) := by
          intro j h hj
          by_cases e : j = i
          · subst e; rw [HX.out]; exact hp
          · exact HN.out j h (by omega)
        clear hp
        go_wp2
        go_roundg (l.length - (i + 1))
        case measure => omega
        case rel => exact ⟨i + 1, by omega, by omega, by go_num, HB6, HN2⟩
    · have hlt' : ¬ (i : Int) < (l.length : Int) := by omega
      have HE : Hid (idxG p l = -1) := idxG_none fun j hj => HN.out j hj (by omega)
      go_wp2
      go_ret
      exact ⟨by rw [HE.out]; rfl, HB.out⟩

set_option maxHeartbeats 1000000 in
theorem containsFuncSym (g : Nat) (lb : Array Value) (p : Sym → Bool) (a : Option Addr) (cap : Nat) (l : List Sym) (w : World) (eg : ∀ args w, (callFunc g args).run Tryd.prog w = .ok (.enter g args) w)
    (hf : PredSym g lb l p w) (hl : Rd AnyB w (.sl (l.map Sym.d)) [.slice a l.length cap]) :
    Calls Tryd.prog 16 #[.slice a l.length cap, .func (.func g) #[] lb] w fun e w' => e = .returned (.bool (l.any p)) ∧ Below w.heap.size w w' := by
  have HL := Lib.hid hl
  have HF := Lib.hid hf
  have HG := Lib.hid eg
  clear hl hf eg
  go_enter Tryd.func16, Tryd.ntmps16
  go_wp2_with fail
  refine (indexFuncSym g lb p a cap l w HG.out HF.out HL.out).mono ?_
  rintro e w1 ⟨rfl, hb⟩
  have HB := Lib.hid hb
  clear hb
  go_wp2
  go_ret
  exact ⟨by rw [idxG_ge]; rfl, HB.out⟩

set_option maxHeartbeats 1000000 in
theorem indexFuncRule (g : Nat) (lb : Array Value) (p : Rule → Bool) (a : Option Addr) (cap : Nat) (l : List Rule) (w : World) (eg : ∀ args w, (callFunc g args).run Tryd.prog w = .ok (.enter g args) w)
    (hf : PredRule g lb l p w) (hl : Rd AnyB w (.sl (l.map Rule.d)) [.slice a l.length cap]) :
    Calls Tryd.prog 25 #[.slice a l.length cap, .func (.func g) #[] lb] w fun e w' => e = .returned (.int .i64 (idxG p l)) ∧ Below w.heap.size w w' := by
  have HL := Lib.hid hl
  have HF := Lib.hid hf
  have hc := hl.bounds.2
  unfold maxLen at hc
  obtain ⟨hc1, hc2⟩ := hc
  clear hl hf
  go_enter Tryd.func25, Tryd.ntmps25
  go_wp2
  go_loopg [8] l.length (fun gg v8 wr => ∃ i : Nat, i ≤ l.length ∧ l.length - i ≤ gg ∧ v8 = .int .i64 i ∧ Hid (Below w.heap.size w wr) ∧ Hid (∀ j (h : j < l.length), j < i → p l[j] = false))
  case atStart => exact ⟨0, by omega, by omega, rfl, Below.refl _ _, fun j _ hj => by omega⟩
  case round =>
    obtain ⟨i, hi, hg, rfl, HB, HN⟩ := hrel
    by_cases hlt : i < l.length
    · have hlt' : (i : Int) < (l.length : Int) := by omega
      obtain ⟨b, off, vr, hae, -, -, c0, c1, hkr⟩ := (HL.out.below HB.out).rule_at hlt
      obtain ⟨ar, cr, rfl, -, -⟩ := hkr.form
      rw [List.length_map] at c1 hkr
      obtain ⟨x, HX⟩ := nameIt (l[i]'hlt)
      rw [HX.out] at c0 c1 hkr
      have hcall := HF.out wr x _ (by rw [← HX.out]; exact List.getElem_mem hlt) HB.out hkr
      obtain ⟨q0, HQ0⟩ := nameIt x.left
      obtain ⟨q1, HQ1⟩ := nameIt x.right.length
      rw [HQ0.out] at c0 hcall
      rw [HQ1.out] at c1 hcall
      have HC := Lib.hid hcall
      clear hcall hkr
      subst hae
      go_wp2_with fail
      refine HC.out.mono ?_
      rintro e w6 ⟨rfl, hb6⟩
      have HB6 := Lib.hid (HB.out.trans (hb6.mono HB.out.size))
      clear hb6 c0 c1
      cases hp : p x with
      | true =>
        have HE : Hid (idxG p l = i) := idxG_hit hlt (by rw [HX.out]; exact hp) HN.out
        clear hp
        go_wp2
        go_ret
        exact ⟨by rw [HE.out]; rfl, HB6.out⟩
      | false =>
        have HN2 : Hid (∀ j (h : j < l.length), j < i + 1 → p l[j] = false) := by
          intro j h hj
          by_cases e : j = i
          · subst e; rw [HX.out]; exact hp
          · exact HN.out j h (by omega)
        clear hp
        go_wp2
        go_roundg (l.length - (i + 1))
        case measure => omega
        case rel => exact ⟨i + 1, by omega, by omega, by go_num, HB6, HN2⟩
    · have hlt' : ¬ (i : Int) < (l.length : Int) := by omega
      have HE : Hid (idxG p l = -1) := idxG_none fun j hj => HN.out j hj (by omega)
      go_wp2
      go_ret
      exact ⟨by rw [HE.out]; rfl, HB.out⟩

set_option maxHeartbeats 1000000 in
theorem containsFuncRule (g : Nat) (lb : Array Value) (p : Rule → Bool) (a : Option Addr) (cap : Nat) (l : List Rule) (w : World) (eg : ∀ args w, (callFunc g args).run Tryd.prog w = .ok (.enter g args) w)
    (hf : PredRule g lb l p w) (hl : Rd AnyB w (.sl (l.map Rule.d)) [.slice a l.length cap]) :
    Calls Tryd.prog 19 #[.slice a l.length cap, .func (.func g) #[] lb] w fun e w' => e = .returned (.bool (l.any p)) ∧ Below w.heap.size w w' := by
  have HL := Lib.hid hl
  have HF := Lib.hid hf
  have HG := Lib.hid eg
  clear hl hf eg
  go_enter Tryd.func19, Tryd.ntmps19
  go_wp2_with fail
  refine (indexFuncRule g lb p a cap l w HG.out HF.out HL.out).mono ?_
  rintro e w1 ⟨rfl, hb⟩
  have HB := Lib.hid hb
  clear hb
  go_wp2
  go_ret
  exact ⟨by rw [idxG_ge]; rfl, HB.out⟩

set_option maxHeartbeats 1000000 in
theorem orderS (x y : Sym) (w : World) : Calls Tryd.prog 29 #[.agg #[.bool x.term, .int .i64 x.n], .agg #[.bool y.term, .int .i64 y.n]] w fun e w' => e = .returned (.int .i64 (ordS x y)) ∧ Below w.heap.size w w' := by
  obtain ⟨x0, x1⟩ := x
  obtain ⟨y0, y1⟩ := y
  dsimp only
  cases x0 <;> cases y0
  · have HC := Lib.hid (fun W => compareInt x1 y1 W)
    have HO : Hid (ordS ⟨false, x1⟩ ⟨false, y1⟩ = cmp3 x1 y1) := by show _ = _; simp [ordS]
    go_enter Tryd.func29, Tryd.ntmps29
    go_wp2_with fail
    refine (HC.out _).mono ?_
    rintro e w' ⟨rfl, rfl⟩
    go_wp2_with fail
    go_ret
    exact ⟨by rw [HO.out]; rfl, ((Below.refl _ _).alloc (Nat.le_refl _) _).alloc (by simp) _⟩
  · have HO : Hid (ordS ⟨false, x1⟩ ⟨true, y1⟩ = 1) := by show _ = _; simp [ordS]
    go_enter Tryd.func29, Tryd.ntmps29
    go_wp2_with fail
    go_ret
    exact ⟨by rw [HO.out]; rfl, ((Below.refl _ _).alloc (Nat.le_refl _) _).alloc (by simp) _⟩
  · have HO : Hid (ordS ⟨true, x1⟩ ⟨false, y1⟩ = -1) := by show _ = _; simp [ordS]
    go_enter Tryd.func29, Tryd.ntmps29
    go_wp2_with fail
    go_ret
    exact ⟨by rw [HO.out]; rfl, ((Below.refl _ _).alloc (Nat.le_refl _) _).alloc (by simp) _⟩
  · have HC := Lib.hid (fun W => compareInt x1 y1 W)
    have HO : Hid (ordS ⟨true, x1⟩ ⟨true, y1⟩ = cmp3 x1 y1) := by show _ = _; simp [ordS]
    go_enter Tryd.func29, Tryd.ntmps29
    go_wp2_with fail
    refine (HC.out _).mono ?_
    rintro e w' ⟨rfl, rfl⟩
    go_wp2_with fail
    go_ret
    exact ⟨by rw [HO.out]; rfl, ((Below.refl _ _).alloc (Nat.le_refl _) _).alloc (by simp) _⟩

theorem cmpS_at {l m : List Sym} {i : Nat} (h : i < l.length) (h2 : i < m.length) : cmpS (l.drop i) (m.drop i) = if ordS l[i] m[i] = 0 then cmpS (l.drop (i + 1)) (m.drop (i + 1)) else ordS l[i] m[i] := by
  rw [List.drop_eq_getElem_cons h, List.drop_eq_getElem_cons h2, cmpS]
theorem cmpS_long {l m : List Sym} {i : Nat} (h : i < l.length) (h2 : m.length ≤ i) : cmpS (l.drop i) (m.drop i) = 1 := by
  rw [List.drop_eq_getElem_cons h, List.drop_of_length_le h2, cmpS]
theorem cmpS_short {l m : List Sym} {i : Nat} (h : l.length ≤ i) (h2 : i < m.length) : cmpS (l.drop i) (m.drop i) = -1 := by
  rw [List.drop_eq_getElem_cons h2, List.drop_of_length_le h, cmpS]
theorem cmpS_end {l m : List Sym} {i : Nat} (h : l.length ≤ i) (h2 : m.length ≤ i) : cmpS (l.drop i) (m.drop i) = 0 := by
  rw [List.drop_of_length_le h2, List.drop_of_length_le h, cmpS]

set_option maxHeartbeats 1000000 in
theorem compareSyms (a a' : Option Addr) (cap cap' : Nat) (l m : List Sym) (w : World) (hl : Rd AnyB w (.sl (l.map Sym.d)) [.slice a l.length cap]) (hm : Rd AnyB w (.sl (m.map Sym.d)) [.slice a' m.length cap']) :
    Calls Tryd.prog 28 #[.slice a l.length cap, .slice a' m.length cap', .func (.func 29) #[] #[]] w fun e w' => e = .returned (.int .i64 (cmpS l m)) ∧ Below w.heap.size w w' := by
  have HL := Lib.hid hl
  have HM := Lib.hid hm
  have hc := hl.bounds.2
  have hc' := hm.bounds.2
  unfold maxLen at hc hc'
  obtain ⟨hc1, hc2⟩ := hc
  obtain ⟨hc3, hc4⟩ := hc'
  clear hl hm
  go_enter Tryd.func28, Tryd.ntmps28
  go_wp2_with fail
  go_loopg [13] l.length (fun gg v13 wr => ∃ i : Nat, i ≤ l.length ∧ l.length - i ≤ gg ∧ v13 = .int .i64 i ∧ Hid (Below w.heap.size w wr) ∧ Hid (cmpS (l.drop i) (m.drop i) = cmpS l m))
  case atStart => exact ⟨0, by omega, by omega, rfl, Below.refl _ _, rfl⟩
  case round =>
    obtain ⟨i, hi, hg, rfl, HB, HE⟩ := hrel
    by_cases hlt : i < l.length
    · have hlt' : (i : Int) < (l.length : Int) := by omega
      obtain ⟨b, off, hae, -, -, c0, c1⟩ := (HL.out.below HB.out).sym_at hlt
      by_cases hlt2 : i < m.length
      · have hlt2' : (i : Int) < (m.length : Int) := by omega
        obtain ⟨b', off', hae', -, -, d0, d1⟩ := (HM.out.below HB.out).sym_at hlt2
        have h1 := HE.out
        rw [cmpS_at hlt hlt2] at h1
        obtain ⟨x, HX⟩ := nameIt (l[i]'hlt)
        obtain ⟨y, HY⟩ := nameIt (m[i]'hlt2)
        rw [HX.out] at c0 c1 h1
        rw [HY.out] at d0 d1 h1
        have hcall := fun W => orderS x y W
        obtain ⟨c, HC⟩ := nameIt (ordS x y)
        obtain ⟨q0, HQ0⟩ := nameIt x.term
        obtain ⟨q1, HQ1⟩ := nameIt x.n
        obtain ⟨p0, HP0⟩ := nameIt y.term
        obtain ⟨p1, HP1⟩ := nameIt y.n
        rw [HC.out] at h1 hcall
        rw [HQ0.out] at c0 hcall
        rw [HQ1.out] at c1 hcall
        rw [HP0.out] at d0 hcall
        rw [HP1.out] at d1 hcall
        have H1 := Lib.hid h1
        have HCA := Lib.hid hcall
        have hne := lt_of_cell d0
        subst hae hae'
        clear h1 hcall
        have hbb := ((Below.refl wr.heap.size wr).alloc (Nat.le_refl _) (.cells #[.bool q0, .int .i64 q1] 43)).alloc (by simp) (.cells #[.bool p0, .int .i64 p1] 43)
        have HBB := Lib.hid (HB.out.trans (hbb.mono HB.out.size))
        clear hbb
        go_wp2_with fail
        refine (HCA.out _).mono ?_
        rintro e w6 ⟨rfl, hb6⟩
        have HB6 := Lib.hid (HBB.out.trans (hb6.mono HBB.out.size))
        clear hb6 c0 c1 d0 d1
        by_cases h0 : c = 0
        · subst h0
          have h2 := H1.out
          rw [if_pos rfl] at h2
          have HE2 := Lib.hid h2
          clear h2
          go_wp2_with fail
          go_roundg (l.length - (i + 1))
          case measure => omega
          case rel => exact ⟨i + 1, by omega, by omega, by go_num, HB6, HE2⟩
        · have h2 := H1.out
          rw [if_neg h0] at h2
          have HE2 := Lib.hid h2
          have hcb : (c != 0) = true := by simpa using h0
          clear h2 h0
          go_wp2_with fail
          go_ret
          exact ⟨by rw [← HE2.out]; rfl, HB6.out⟩
      · have hlt2' : (m.length : Int) ≤ (i : Int) := by omega
        have HE2 : Hid (cmpS l m = 1) := by show _ = _; rw [← HE.out]; exact cmpS_long hlt (by omega)
        subst hae
        go_wp2_with fail
        go_ret
        exact ⟨by rw [HE2.out]; rfl, HB.out.alloc HB.out.size _⟩
    · have hlt' : ¬ (i : Int) < (l.length : Int) := by omega
      by_cases hlt2 : l.length < m.length
      · have HE2 : Hid (cmpS l m = -1) := by show _ = _; rw [← HE.out]; exact cmpS_short (by omega) (by omega)
        have hlt3 : (l.length : Int) < (m.length : Int) := by omega
        go_wp2_with fail
        go_ret
        exact ⟨by rw [HE2.out]; rfl, HB.out⟩
      · have HE2 : Hid (cmpS l m = 0) := by show _ = _; rw [← HE.out]; exact cmpS_end (by omega) (by omega)
        have hlt3 : ¬ (l.length : Int) < (m.length : Int) := by omega
        go_wp2_with fail
        go_ret
        exact ⟨by rw [HE2.out]; rfl, HB.out⟩
end Go.Proofs.YtccjdgjehecdiaaDoor
namespace Go.Proofs.YtccjdgjehecdiaaDoor
open Go.RowKit

theorem cells4 {W w' : World} (hb : Below W.heap.size W w') {b1 b2 : Nat} {T : TypeId} {a0 a1 c0 c1 : Value} (h1 : W.heap[b1]? = some (.cells #[a0, a1] T (0, 0))) (h2 : W.heap[b2]? = some (.cells #[c0, c1] T (0, 0))) :
    w'.cell? ⟨b1, 0, none⟩ = some a0 ∧ w'.cell? ⟨b1, 0 + 1, none⟩ = some a1 ∧ w'.cell? ⟨b2, 0, none⟩ = some c0 ∧ w'.cell? ⟨b2, 0 + 1, none⟩ = some c1 := by
  obtain ⟨x1, x2⟩ := bx_cells2 (bx_keep h1 hb)
  obtain ⟨x4, x5⟩ := bx_cells2 (bx_keep h2 hb)
  exact ⟨x1, x2, x4, x5⟩

set_option maxHeartbeats 1000000 in
set_option maxRecDepth 100000 in
theorem compareR (x y : Rule) (a a' : Option Addr) (c c' : Nat) (w : World) (hx : Rd AnyB w (.sl (x.right.map Sym.d)) [.slice a x.right.length c]) (hy : Rd AnyB w (.sl (y.right.map Sym.d)) [.slice a' y.right.length c']) :
    Calls Tryd.prog 21 #[.agg #[.int .i64 x.left, .slice a x.right.length c], .agg #[.int .i64 y.left, .slice a' y.right.length c']] w fun e w' => e = .returned (.int .i64 (cmpR x y)) ∧ Below w.heap.size w w' := by
  obtain ⟨lx, HLX⟩ := nameIt x.left
  obtain ⟨ly, HLY⟩ := nameIt y.left
  obtain ⟨nx, HNX⟩ := nameIt x.right.length
  obtain ⟨ny, HNY⟩ := nameIt y.right.length
  obtain ⟨w0, HW0⟩ := nameIt ((w.alloc (.cells #[.int .i64 lx, .slice a nx c] 46)).alloc (.cells #[.int .i64 ly, .slice a' ny c'] 46))
  have HB : Hid (Below w.heap.size w w0) := by rw [← HW0.out]; exact ((Below.refl _ _).alloc (Nat.le_refl _) _).alloc (by simp) _
  have X1 : Hid (w0.heap[w.heap.size]? = some (.cells #[.int .i64 lx, .slice a nx c] 46 (0, 0))) := by
    rw [← HW0.out]; exact bx_keep (bx_new _ _ _ rfl) ((Below.refl _ _).alloc (Nat.le_refl _) _)
  have X2 : Hid (w0.heap[w.heap.size + 1]? = some (.cells #[.int .i64 ly, .slice a' ny c'] 46 (0, 0))) := by
    rw [← HW0.out]; exact bx_new _ _ _ (by simp)
  obtain ⟨q1, HQ1⟩ := nameIt (cmp3 lx ly)
  obtain ⟨q2, HQ2⟩ := nameIt (cmpS x.right y.right)
  have C1 := Lib.hid (fun W => compareInt lx ly W)
  have C2 := Lib.hid (fun W (hb : Below w0.heap.size w0 W) => compareSyms a a' c c' x.right y.right W ((hx.below HB.out).below hb) ((hy.below HB.out).below hb))
  rw [HQ1.out] at C1
  rw [HQ2.out, HNX.out, HNY.out] at C2
  have HR : Hid (cmpR x y = orL [q1, q2]) := by show _ = _; unfold cmpR; rw [HLX.out, HLY.out, HQ1.out, HQ2.out]
  rw [HLX.out, HLY.out, HNX.out, HNY.out]
  obtain ⟨x0, x1⟩ := bx_cells2 X1.out
  obtain ⟨y0, y1⟩ := bx_cells2 X2.out
  clear hx hy
  go_enter Tryd.func21, Tryd.ntmps21
  go_wp2_with fail
  rw [HW0.out]
  go_region_held3 (fun w' => w'.cell? ⟨w.heap.size, 0, none⟩ = some (.int .i64 lx) ∧ w'.cell? ⟨w.heap.size, 0 + 1, none⟩ = some (.slice a nx c) ∧ w'.cell? ⟨w.heap.size + 1, 0, none⟩ = some (.int .i64 ly) ∧ w'.cell? ⟨w.heap.size + 1, 0 + 1, none⟩ = some (.slice a' ny c'))
    (first | exact cells4 (Below.refl _ _).drew X1.out X2.out | exact cells4 (HB2.out.alloc HB2.out.size _) X1.out X2.out | exact cells4 HB2.out X1.out X2.out | fail)
    (first
      | (go_at_call 27; (with_reducible refine (C1.out _).mono ?_); rintro e w' ⟨rfl, rfl⟩)
      | (go_at_call 28; (with_reducible refine (C2.out _ (Below.refl _ _).drew).mono ?_); rintro e w2 ⟨rfl, hb2⟩; have HB2 : Hid (Below w0.heap.size w0 w2) := (Below.refl _ _).drew.trans hb2; clear hb2)
      | (go_at_call 26; (with_reducible refine (orInt _ [q1, q2] _ (sl_lit (v := #[.int .i64 q1, .int .i64 q2]) rfl (of_decide_eq_true rfl))).mono ?_); rintro e w' ⟨rfl, rfl⟩)
      | fail)
  go_wp2_with fail
  go_ret
  have hB := HB.out.trans (HB2.out.mono HB.out.size)
  exact ⟨by rw [HR.out]; rfl, hB.alloc hB.size _⟩

set_option maxHeartbeats 1000000 in
set_option maxRecDepth 100000 in
theorem hasE (g : Gram) (a : Option Addr) (n c : Nat) (s : Sym) (w : World) :
    Calls Tryd.prog 18 #[.agg #[.int .i64 g.terms, .int .i64 g.nons, .int .i64 g.start, .slice a n c], .agg #[.bool s.term, .int .i64 s.n]] w fun e w' => e = .returned (.bool (hasS g s)) ∧ Below w.heap.size w w' := by
  obtain ⟨gt, HGT⟩ := nameIt g.terms
  obtain ⟨gn, HGN⟩ := nameIt g.nons
  obtain ⟨gs, HGS⟩ := nameIt g.start
  obtain ⟨st, HST⟩ := nameIt s.term
  obtain ⟨sn, HSN⟩ := nameIt s.n
  obtain ⟨B, HBn⟩ := nameIt (hasS g s)
  have HV : Hid ((decide (0 ≤ sn) && (st && decide (sn < gt) || !st && decide (sn < gn))) = B) := by show _ = _; rw [← HBn.out]; unfold hasS; rw [HGT.out, HGN.out, HST.out, HSN.out]
  rw [HGT.out, HGN.out, HGS.out, HST.out, HSN.out, HBn.out]
  by_cases h0 : 0 ≤ sn
  · have b0 : decide (0 ≤ sn) = true := by simpa using h0
    cases st with
    | true =>
      by_cases h1 : sn < gt
      · have b1 : decide (sn < gt) = true := by simpa using h1
        obtain rfl : B = true := by rw [← HV.out]; simp [h0, h1]
        clear h0 h1
        go_enter Tryd.func18, Tryd.ntmps18
        go_wp2_with fail
        go_ret
        exact ⟨rfl, ((Below.refl _ _).alloc (Nat.le_refl _) _).alloc (by simp) _⟩
      · have b1 : decide (sn < gt) = false := by simpa using h1
        obtain rfl : B = false := by rw [← HV.out]; simp [h0, h1]
        clear h0 h1
        go_enter Tryd.func18, Tryd.ntmps18
        go_wp2_with fail
        go_ret
        exact ⟨rfl, ((Below.refl _ _).alloc (Nat.le_refl _) _).alloc (by simp) _⟩
    | false =>
      by_cases h1 : sn < gn
      · have b1 : decide (sn < gn) = true := by simpa using h1
        obtain rfl : B = true := by rw [← HV.out]; simp [h0, h1]
        clear h0 h1
        go_enter Tryd.func18, Tryd.ntmps18
        go_wp2_with fail
        go_ret
        exact ⟨rfl, ((Below.refl _ _).alloc (Nat.le_refl _) _).alloc (by simp) _⟩
      · have b1 : decide (sn < gn) = false := by simpa using h1
        obtain rfl : B = false := by rw [← HV.out]; simp [h0, h1]
        clear h0 h1
        go_enter Tryd.func18, Tryd.ntmps18
        go_wp2_with fail
        go_ret
        exact ⟨rfl, ((Below.refl _ _).alloc (Nat.le_refl _) _).alloc (by simp) _⟩
  · have b0 : decide (0 ≤ sn) = false := by simpa using h0
    obtain rfl : B = false := by rw [← HV.out]; simp [h0]
    clear h0
    go_enter Tryd.func18, Tryd.ntmps18
    go_wp2_with fail
    go_ret
    exact ⟨rfl, ((Below.refl _ _).alloc (Nat.le_refl _) _).alloc (by simp) _⟩

set_option maxHeartbeats 1000000 in
theorem hasF (g : Gram) (b : Nat) (a : Option Addr) (n c : Nat) (l : List Sym) (w : World) (hx : w.heap[b]? = some (.cells #[.int .i64 g.terms, .int .i64 g.nons, .int .i64 g.start, .slice a n c] 24 (0, 0))) :
    PredSym 17 #[.pointer (some ⟨b, 0, none⟩)] l (fun s => !hasS g s) w := by
  intro W s _ hb
  have hc := hasE g a n c s
  have hx' := bx_keep hx hb
  obtain ⟨gt, HGT⟩ := nameIt g.terms
  obtain ⟨gn, HGN⟩ := nameIt g.nons
  obtain ⟨gs, HGS⟩ := nameIt g.start
  obtain ⟨st, HST⟩ := nameIt s.term
  obtain ⟨sn, HSN⟩ := nameIt s.n
  obtain ⟨B, HBn⟩ := nameIt (hasS g s)
  rw [HGT.out, HGN.out, HGS.out] at hx'
  rw [HGT.out, HGN.out, HGS.out, HST.out, HSN.out, HBn.out] at hc
  dsimp only
  rw [HST.out, HSN.out, HBn.out]
  obtain ⟨x0, x1, x2, x3⟩ := bx_cells4 hx'
  have hlt := (Array.getElem?_eq_some_iff.1 hx').1
  have HC := Lib.hid hc
  clear hc hx hb hx'
  show Calls _ _ #[_, _] _ _
  go_enter Tryd.func17, Tryd.ntmps17
  go_wp2_with fail
  refine (HC.out _).mono ?_
  rintro e w1 ⟨rfl, hb1⟩
  have hB := (Below.refl W.heap.size W).alloc (Nat.le_refl _) (.cells #[.bool st, .int .i64 sn] 43)
  have HB1 := Lib.hid (hB.trans (hb1.mono hB.size))
  clear hb1 hB x0 x1 x2 x3
  cases B
  all_goals
    go_wp2_with fail
    go_ret
    exact ⟨rfl, HB1.out⟩

set_option maxHeartbeats 1000000 in
theorem sameRF (r : Rule) (b : Nat) (ar : Option Addr) (cr : Nat) (l : List Rule) (w : World) (hx : w.heap[b]? = some (.cells #[.int .i64 r.left, .slice ar r.right.length cr] 46 (0, 0))) (hr : Rd AnyB w (.sl (r.right.map Sym.d)) [.slice ar r.right.length cr]) :
    PredRule 20 #[.pointer (some ⟨b, 0, none⟩)] l (fun x => cmpR x r == 0) w := by
  intro W x v _ hb hv
  obtain ⟨av, cv, rfl, -, -⟩ := hv.form
  rw [List.length_map] at hv ⊢
  have hx' := bx_keep hx hb
  have hc := fun W' (h : Below W.heap.size W W') => compareR x r av ar cv cr W' (hv.below h) ((hr.below hb).below h)
  obtain ⟨lx, HLX⟩ := nameIt x.left
  obtain ⟨nx, HNX⟩ := nameIt x.right.length
  obtain ⟨lr, HLR⟩ := nameIt r.left
  obtain ⟨nr, HNR⟩ := nameIt r.right.length
  obtain ⟨q, HQ⟩ := nameIt (cmpR x r)
  rw [HLX.out, HNX.out, HLR.out, HNR.out, HQ.out] at hc
  rw [HLR.out, HNR.out] at hx'
  dsimp only
  rw [HLX.out, HNX.out, HQ.out]
  obtain ⟨x0, x1⟩ := bx_cells2 hx'
  have hlt := (Array.getElem?_eq_some_iff.1 hx').1
  have HC := Lib.hid hc
  clear hc hx hb hx' hv hr
  show Calls _ _ #[_, _] _ _
  go_enter Tryd.func20, Tryd.ntmps20
  go_wp2_with fail
  refine (HC.out _ ((Below.refl _ _).alloc (Nat.le_refl _) _)).mono ?_
  rintro e w1 ⟨rfl, hb1⟩
  have hB := (Below.refl W.heap.size W).alloc (Nat.le_refl _) (.cells #[.int .i64 lx, .slice av nx cv] 46)
  have HB1 := Lib.hid (hB.trans (hb1.mono hB.size))
  clear hb1 hB x0 x1
  go_wp2_with fail
  go_ret
  exact ⟨rfl, HB1.out⟩

/-- the first elements of a slice -/
theorem Rd.start {S : Nat → Prop} {w : World} {ds : List D} {a : Option Addr} {n cap i : Nat} (h : Rd S w (.sl ds) [.slice a n cap]) (hi : i ≤ ds.length) : Rd S w (.sl (ds.take i)) [.slice a i cap] := by
  obtain ⟨a', cap', L, e, h1, h2, h3, h4, h5⟩ := h
  simp at e
  obtain ⟨rfl, rfl, rfl⟩ := e
  rw [← List.take_append_drop i ds] at h5
  obtain ⟨c1, c2, rfl, h6, h7⟩ := h5.split
  refine ⟨a, cap, c1, by simp; omega, by simp; omega, h2, h3, fun j hj => ?_, h6⟩
  have := h4 j (by simp; omega)
  rwa [List.getElem_append_left hj] at this

theorem badHead_cases {g : Gram} (h : badHead g = true) : (decide (g.terms < 1) = true) ∨ (decide (g.terms < 1) = false ∧ decide (8 < g.terms) = true) ∨ (decide (g.terms < 1) = false ∧ decide (8 < g.terms) = false ∧ decide (g.nons < 1) = true) ∨ (decide (g.terms < 1) = false ∧ decide (8 < g.terms) = false ∧ decide (g.nons < 1) = false ∧ decide (10 < g.nons) = true) ∨
    (decide (g.terms < 1) = false ∧ decide (8 < g.terms) = false ∧ decide (g.nons < 1) = false ∧ decide (10 < g.nons) = false ∧ decide (g.start < 0) = true) ∨ (decide (g.terms < 1) = false ∧ decide (8 < g.terms) = false ∧ decide (g.nons < 1) = false ∧ decide (10 < g.nons) = false ∧ decide (g.start < 0) = false ∧ decide (g.nons ≤ g.start) = true) := by
  simp [badHead] at h ⊢
  omega
theorem goodHead {g : Gram} (h : ¬ badHead g = true) : decide (g.terms < 1) = false ∧ decide (8 < g.terms) = false ∧ decide (g.nons < 1) = false ∧ decide (10 < g.nons) = false ∧ decide (g.start < 0) = false ∧ decide (g.nons ≤ g.start) = false := by
  simp [badHead] at h ⊢
  omega

set_option maxHeartbeats 4000000 in
set_option maxRecDepth 100000 in
theorem checkE (g : Gram) (ar : Option Addr) (cr : Nat) (w : World) (hr : Rd AnyB w (.sl (g.rules.map Rule.d)) [.slice ar g.rules.length cr]) :
    Calls Tryd.prog 11 #[.agg #[.int .i64 g.terms, .int .i64 g.nons, .int .i64 g.start, .slice ar g.rules.length cr]] w fun e w' => e = .returned (.int .i64 (checkG g)) ∧ Below w.heap.size w w' := by
  have hbs := hr.bounds.2
  unfold maxLen at hbs
  obtain ⟨hc1, hc2⟩ := hbs
  obtain ⟨gt, HGT⟩ := nameIt g.terms
  obtain ⟨gn, HGN⟩ := nameIt g.nons
  obtain ⟨gs, HGS⟩ := nameIt g.start
  obtain ⟨K, HK⟩ := nameIt g.rules
  have HBC := Lib.hid (@badHead_cases g)
  have HGH := Lib.hid (@goodHead g)
  rw [HGT.out, HGN.out, HGS.out] at HBC HGH
  obtain ⟨w0, HW0⟩ := nameIt (w.alloc (.cells #[.int .i64 gt, .int .i64 gn, .int .i64 gs, .slice ar K.length cr] 24))
  have HB0 : Hid (Below w.heap.size w w0) := by rw [← HW0.out]; exact (Below.refl _ _).alloc (Nat.le_refl _) _
  have X1 : Hid (w0.heap[w.heap.size]? = some (.cells #[.int .i64 gt, .int .i64 gn, .int .i64 gs, .slice ar K.length cr] 24 (0, 0))) := by rw [← HW0.out]; exact bx_new _ _ _ rfl
  have HR := Lib.hid (hr.below HB0.out)
  rw [HK.out] at HR hc1
  rw [HGT.out, HGN.out, HGS.out, HK.out]
  obtain ⟨x0, x1, x2, x3⟩ := bx_cells4 X1.out
  clear hr
  by_cases hbad : badHead g = true
  · have HE : Hid (checkG g = 1) := by show _ = _; simp [checkG, hbad]
    rcases HBC.out hbad with h1 | ⟨h1, h2⟩ | ⟨h1, h2, h3⟩ | ⟨h1, h2, h3, h4⟩ | ⟨h1, h2, h3, h4, h5⟩ | ⟨h1, h2, h3, h4, h5, h6⟩
    all_goals
      clear hbad
      go_enter Tryd.func11, Tryd.ntmps11
      go_upto_region 1 with fail
      rw [HW0.out]
      go_wp2_with fail
      go_ret
      exact ⟨by rw [HE.out]; rfl, HB0.out⟩
  · obtain ⟨h1, h2, h3, h4, h5, h6⟩ := HGH.out hbad
    have HBD := Lib.hid hbad
    clear hbad
    by_cases hlen : 32 < K.length
    · have HE : Hid (checkG g = 2) := by show _ = _; rw [checkG, if_neg HBD.out, HK.out, if_pos hlen]
      have hlen' : (32 : Int) < (K.length : Int) := by omega
      go_enter Tryd.func11, Tryd.ntmps11
      go_upto_region 1 with fail
      rw [HW0.out]
      go_wp2_with fail
      go_ret
      exact ⟨by rw [HE.out]; rfl, HB0.out⟩
    · have HE : Hid (checkG g = faultsFrom g 0 K) := by show _ = _; rw [checkG, if_neg HBD.out, HK.out, if_neg hlen]
      have hlen' : ¬ (32 : Int) < (K.length : Int) := by omega
      go_enter Tryd.func11, Tryd.ntmps11
      go_upto_region 1 with fail
      rw [HW0.out]
      go_wp2_with fail
      clear h1 h2 h3 h4 h5 h6 x0 x1 x2 x3
      go_loopg [42] K.length (fun gg v42 wr => ∃ i : Nat, i ≤ K.length ∧ K.length - i ≤ gg ∧ v42 = .int .i64 i ∧ Hid (Below w0.heap.size w0 wr) ∧ Hid (faultsFrom g i (K.drop i) = faultsFrom g 0 K))
      case atStart => exact ⟨0, by omega, by omega, rfl, Below.refl _ _, rfl⟩
      case round =>
        obtain ⟨i, hi, hg, rfl, HB, HF⟩ := hrel
        by_cases hlt : i < K.length
        · have hlt' : (i : Int) < (K.length : Int) := by omega
          have hiK : (i : Int) ≤ (cr : Int) := by omega
          obtain ⟨b, off, vr, hae, -, hbl, c0, c1, hkr⟩ := (HR.out.below HB.out).rule_at hlt
          obtain ⟨av, cv, rfl, -, hcv⟩ := hkr.form
          rw [List.length_map] at c1 hkr
          have h1 := HF.out
          have hrl : i < g.rules.length := by rw [HK.out]; exact hlt
          rw [← HK.out, faultsFrom_at hrl] at h1
          simp only [HK.out] at h1
          obtain ⟨r, HRn⟩ := nameIt (K[i]'hlt)
          rw [HRn.out] at c0 c1 hkr h1
          have hbl2 : b < wr.heap.size := hbl
          obtain ⟨w4, HW4⟩ := nameIt (wr.alloc (.cells #[.int .i64 r.left, .slice av r.right.length cv] 46))
          have hb4 : Below wr.heap.size wr w4 := by rw [← HW4.out]; exact (Below.refl _ _).alloc (Nat.le_refl _) _
          have X4 : Hid (w4.heap[wr.heap.size]? = some (.cells #[.int .i64 r.left, .slice av r.right.length cv] 46 (0, 0))) := by rw [← HW4.out]; exact bx_new _ _ _ rfl
          have HB4 := Lib.hid (HB.out.trans (hb4.mono HB.out.size))
          have HKR := Lib.hid (hkr.below hb4)
          have X1' := Lib.hid (bx_keep X1.out HB4.out)
          have HX1 := X1'
          rw [← HGT.out, ← HGN.out, ← HGS.out] at HX1
          have PS := Lib.hid (hasF g w.heap.size ar K.length cr r.right w4 HX1.out)
          have CS := Lib.hid (containsFuncSym 17 #[.pointer (some ⟨w.heap.size, 0, none⟩)] (fun s => !hasS g s) av cv r.right w4 (fun _ _ => by kernel_rfl) PS.out HKR.out)
          have htl : (K.take i).length = i := by simp; omega
          have hst : ∀ W, Below w4.heap.size w4 W → Rd AnyB W (.sl ((K.take i).map Rule.d)) [.slice ar (K.take i).length cr] := by
            intro W hb
            have h2 := (((HR.out.below HB4.out).below hb).start (i := i) (by simp; omega))
            rw [← List.map_take] at h2
            rw [htl]; exact h2
          have CRR := Lib.hid (fun W (hb : Below w4.heap.size w4 W) => containsFuncRule 20 #[.pointer (some ⟨wr.heap.size, 0, none⟩)] (fun x => cmpR x r == 0) ar cr (K.take i) W (fun _ _ => by kernel_rfl) (sameRF r wr.heap.size av cv (K.take i) W (bx_keep X4.out hb) (HKR.out.below hb)) (hst W hb))
          rw [htl] at CRR
          obtain ⟨lf, HLF⟩ := nameIt r.left
          obtain ⟨rn, HRNn⟩ := nameIt r.right.length
          obtain ⟨A1, HA1⟩ := nameIt (r.right.any fun s => !hasS g s)
          obtain ⟨A2, HA2⟩ := nameIt ((K.take i).any fun x => cmpR x r == 0)
          have hfr : faultR g i r = if lf < 0 ∨ gn ≤ lf then 3 else if 4 < rn then 2 else if A1 then 3 else if A2 then 6 else 0 := by
            unfold faultR; rw [HLF.out, HGN.out, HRNn.out, HA1.out, HK.out, HA2.out]
          rw [HLF.out] at c0 HW4
          rw [HRNn.out] at c1 HW4 CS
          rw [HA1.out] at CS
          simp only [HA2.out] at CRR
          have X4' := X4
          rw [HLF.out, HRNn.out] at X4'
          obtain ⟨y0, y1⟩ := bx_cells2 X4'.out
          obtain ⟨x0, x1, x2, x3⟩ := bx_cells4 X1'.out
          have hl4 : wr.heap.size < w4.heap.size := (Array.getElem?_eq_some_iff.1 X4'.out).1
          have hl1 : w.heap.size < w4.heap.size := (Array.getElem?_eq_some_iff.1 X1'.out).1
          have HFR := Lib.hid hfr
          have H1 := Lib.hid h1
          have hrn : (rn : Int) ≤ 9223372036854775807 := by have := HKR.out.bounds.2; rw [HRNn.out] at this; unfold maxLen at this hcv; omega
          subst hae
          clear hkr hb4 h1 hfr htl hst
          by_cases ha : lf < 0 ∨ gn ≤ lf
          · have hf : faultR g i r = 3 := by rw [HFR.out, if_pos ha]
            have HE2 : Hid (faultsFrom g 0 K = 3) := by show _ = _; rw [← H1.out, hf, if_neg (by decide)]
            have ha' : (decide (lf < 0) = true) ∨ (decide (lf < 0) = false ∧ decide (gn ≤ lf) = true) := by simp; omega
            clear hf ha
            rcases ha' with k1 | ⟨k1, k2⟩
            all_goals
              go_upto_region 8 with fail
              rw [HW4.out]
              go_wp2_with fail
              go_ret
              exact ⟨by rw [HE.out, HE2.out]; rfl, HB0.out.trans (HB4.out.mono HB0.out.size)⟩
          · have k1 : decide (lf < 0) = false := by simp; omega
            have k2 : decide (gn ≤ lf) = false := by simp; omega
            have HFa : Hid (faultR g i r = if 4 < rn then 2 else if A1 then 3 else if A2 then 6 else 0) := by show _ = _; rw [HFR.out, if_neg ha]
            clear ha HFR
            by_cases hb : 4 < rn
            · have k3 : (4 : Int) < (rn : Int) := by omega
              have hf : faultR g i r = 2 := by rw [HFa.out, if_pos hb]
              have HE2 : Hid (faultsFrom g 0 K = 2) := by show _ = _; rw [← H1.out, hf, if_neg (by decide)]
              clear hf
              go_upto_region 8 with fail
              rw [HW4.out]
              go_wp2_with fail
              go_ret
              exact ⟨by rw [HE.out, HE2.out]; rfl, HB0.out.trans (HB4.out.mono HB0.out.size)⟩
            · have k3 : ¬ (4 : Int) < (rn : Int) := by omega
              have HFb : Hid (faultR g i r = if A1 then 3 else if A2 then 6 else 0) := by show _ = _; rw [HFa.out, if_neg hb]
              clear HFa
              go_upto_region 8 with fail
              rw [HW4.out]
              go_wp2_with fail
              refine CS.out.mono ?_
              rintro e w5 ⟨rfl, hb5⟩
              have HB45 := Lib.hid hb5
              have HB5 := Lib.hid (HB4.out.trans (hb5.mono HB4.out.size))
              obtain ⟨x0, x1, x2, x3⟩ := bx_cells4 (bx_keep X1'.out hb5)
              have hl15 : w.heap.size < w5.heap.size := (Array.getElem?_eq_some_iff.1 (bx_keep X1'.out hb5)).1
              clear hb5 y0 y1
              cases A1 with
              | true =>
                have hf : faultR g i r = 3 := by rw [HFb.out, if_pos rfl]
                have HE2 : Hid (faultsFrom g 0 K = 3) := by show _ = _; rw [← H1.out, hf, if_neg (by decide)]
                clear hf
                go_wp2_with fail
                go_ret
                exact ⟨by rw [HE.out, HE2.out]; rfl, HB0.out.trans (HB5.out.mono HB0.out.size)⟩
              | false =>
                go_wp2_with fail
                refine (CRR.out _ HB45.out).mono ?_
                rintro e w6 ⟨rfl, hb6⟩
                have HB6 := Lib.hid (HB5.out.trans (hb6.mono HB5.out.size))
                clear hb6 x0 x1 x2 x3
                cases A2 with
                | true =>
                  have hf : faultR g i r = 6 := by rw [HFb.out]; rfl
                  have HE2 : Hid (faultsFrom g 0 K = 6) := by show _ = _; rw [← H1.out, hf, if_neg (by decide)]
                  clear hf
                  go_wp2_with fail
                  go_ret
                  exact ⟨by rw [HE.out, HE2.out]; rfl, HB0.out.trans (HB6.out.mono HB0.out.size)⟩
                | false =>
                  have hf : faultR g i r = 0 := by rw [HFb.out]; rfl
                  have HE2 : Hid (faultsFrom g (i + 1) (K.drop (i + 1)) = faultsFrom g 0 K) := by show _ = _; rw [← H1.out, hf, if_pos rfl]
                  clear hf
                  go_wp2_with fail
                  go_roundg (K.length - (i + 1))
                  case measure => omega
                  case rel => exact ⟨i + 1, by omega, by omega, by go_num, HB6, HE2⟩
        · have hlt' : ¬ (i : Int) < (K.length : Int) := by omega
          have HE2 : Hid (faultsFrom g 0 K = 0) := by show _ = _; rw [← HF.out, List.drop_of_length_le (by omega)]; rfl
          go_wp2_with fail
          go_ret
          exact ⟨by rw [HE.out, HE2.out]; rfl, HB0.out.trans (HB.out.mono HB0.out.size)⟩
end Go.Proofs.YtccjdgjehecdiaaDoor
namespace Go.Proofs.YtccjdgjehecdiaaDoor
open Go.RowKit

section
variable {P : Program} {ops : Array Oper} {Q : Exit → Act → World → Prop} {md : Region.Mode} {S : World → Prop} {n : Nat}
/-- whatever order is picked; S holds behind every operation until number n has come up -/
def wpU (P : Program) (md : Region.Mode) (ops : Array Oper) (Q : Exit → Act → World → Prop) (S : World → Prop) (n : Nat) : Nat → Array Bool → Act → World → Prop
  | 0, listed, a, w => Region.ready md ops listed = [] ∧ Q .normal a w
  | f + 1, listed, a, w =>
    (Region.ready md ops listed = [] → Q .normal a w) ∧
    ∀ i ∈ Region.ready md ops listed, wpOp P ops Q i (fun a' w' => ((listed.setIfInBounds i true).getD n true = false → S w') ∧ wpU P md ops Q S n f (listed.setIfInBounds i true) a' w') a w
theorem wpAny_of_U : ∀ (f : Nat) (listed : Array Bool) (a : Act) (w : World), wpU P md ops Q S n f listed a w → wpAny P md ops Q f listed a w
  | 0, _, _, _, h => h
  | f + 1, _, _, _, h => ⟨h.1, fun i hi => wpOp_mono (fun a' w' h' => wpAny_of_U f _ a' w' h'.2) (h.2 i hi)⟩
theorem wpU_first {i : Nat} {oi : Oper} {v : Value} (hi : ops[i]? = some oi) (hsel : ∀ (j : Nat) (o : Oper) cs b, ops[j]? = some o → o.op ≠ .select cs b)
    (hQ : ∀ c a w, Q (.panic c) (a.put oi.dst v) w → Q (.panic c) a w) (hs : Region.sinkB md ops n = true) (hc : Region.chainB md ops n = true) (hn : n < ops.size) (hin : i < n) :
    ∀ (f : Nat) (listed : Array Bool) (a : Act) (w : World), HeadInv md ops n listed →
      (∀ j oj, ops[j]? = some oj → j ≠ i → listed.getD j true = false → (∀ e ∈ oj.after, Region.binds md e = true → e.on ≠ i) → oi.apart ops oj = true) →
      i ∈ Region.ready md ops listed → YieldsIf P ops S oi v a → S w →
      wpU P md ops Q S n f (listed.setIfInBounds i true) (a.put oi.dst v) w → wpU P md ops Q S n (f + 1) listed a w := by
  intro f
  induction f with
  | zero =>
    intro listed a w inv _ hr hy hS H
    refine ⟨fun h => (by rw [h] at hr; cases hr), fun j hj => ?_⟩
    by_cases hji : j = i
    · subst hji; exact hy.wpOp hi hS ⟨fun _ => hS, H⟩
    · have h1 := ready_mono hj hji
      rw [H.1] at h1
      cases h1
  | succ f ih =>
    intro listed a w inv hfree hr hy hS H
    have hun := (mem_ready.1 hr).1
    refine ⟨fun h => (by rw [h] at hr; cases hr), fun j hj => ?_⟩
    have hjn : j < n := by
      rcases Nat.lt_or_ge j n with h | h
      · exact h
      · exact absurd hj (tail_waits hs hc hn inv _ i rfl hin hun j h)
    by_cases hji : j = i
    · subst hji; exact hy.wpOp hi hS ⟨fun _ => hS, H⟩
    · have h1 := H.2 j (ready_mono hj hji)
      obtain ⟨hjun, oj, hoj, hall⟩ := mem_ready.1 hj
      have hnot : ∀ e ∈ oj.after, Region.binds md e = true → e.on ≠ i := fun e he hb heq => by
        have h1 := hall e he hb
        rw [heq, getD_both hun] at h1
        cases h1
      have h2 := wpOp_putIf hoj (hfree j oj hoj hji hjun hnot) (fun cs b => hsel i oi cs b hi) (fun cs b => hsel j oj cs b hoj) hQ hy h1
      have hfree' : ∀ k ok, ops[k]? = some ok → k ≠ i → (listed.setIfInBounds j true).getD k true = false →
          (∀ e ∈ ok.after, Region.binds md e = true → e.on ≠ i) → oi.apart ops ok = true := fun k ok hk hki hun hno => by
        refine hfree k ok hk hki ?_ hno
        by_cases hjk : j = k
        · subst hjk; exact hjun
        · rw [getD_set_ne true hjk] at hun; exact hun
      have hnn : ((listed.setIfInBounds i true).setIfInBounds j true).getD n true = false := by
        rw [getD_set_ne true (by omega), getD_set_ne true (by omega)]
        exact inv.tail n (Nat.le_refl _) hn
      refine wpOp_mono (fun a' w' h3 => ⟨fun _ => h3.2.1 hnn, ih (listed.setIfInBounds j true) a' w' (inv.set hj hjn) hfree' (ready_mono hr (Ne.symm hji)) h3.1 (h3.2.1 hnn) ?_⟩) h2
      rw [Array.setIfInBounds_comm _ _ hji]
      exact h3.2.2
theorem wpU_take {i : Nat} {oi : Oper} {v : Value} {f : Nat} {listed : Array Bool} {a : Act} {w : World} (hi : ops[i]? = some oi) (inv : HeadInv md ops n listed) (hs : Region.sinkB md ops n = true) (hc : Region.chainB md ops n = true) (hn : n < ops.size) (hin : i < n)
    (hsel : Region.noSelect ops = true) (hf : Region.free md ops listed i = true) (hr : (Region.ready md ops listed).contains i = true)
    (hQ : ∀ c a w, Q (.panic c) (a.put oi.dst v) w → Q (.panic c) a w) (hy : YieldsIf P ops S oi v a) (hS : S w)
    (h : HeadInv md ops n (listed.setIfInBounds i true) → wpU P md ops Q S n f (listed.setIfInBounds i true) (a.put oi.dst v) w) : wpU P md ops Q S n (f + 1) listed a w :=
  wpU_first hi (Region.noSelect_spec hsel) hQ hs hc hn hin f listed a w inv (Region.free_spec hi hf) (by simpa using hr) hy hS (h (inv.set (by simpa using hr) hin))
theorem wp_region_U {id : Nat} {a : Act} {w : World} (n : Nat) (hm : P.follows .mixedOrders = true)
    (h : HeadInv .any ops n (Array.replicate ops.size false) → wpU P .any ops Q S n ops.size (Array.replicate ops.size false) a w.drew) : (Code.region id ops true).wp P Q a w :=
  wp_region_any hm (wpAny_of_U _ _ _ _ (h ⟨by simp, fun j oj _ hl => (by rw [getD_replicate_false] at hl; cases hl), fun t _ ht => getD_in (by simpa using ht) (getD_replicate_false _ _)⟩))
/-- the way on, shut -/
def OnU (P : Program) (md : Region.Mode) (ops : Array Oper) (Q : Exit → Act → World → Prop) (S : World → Prop) (n f : Nat) (listed : Array Bool) (K : Act → World → Prop) : Prop :=
  ∀ a w, (listed.getD n true = false → S w) → wpU P md ops Q S n f listed a w → K a w
theorem OnU.out {f : Nat} {listed : Array Bool} {K : Act → World → Prop} (h : OnU P md ops Q S n f listed K) (a : Act) (w : World) (hS : listed.getD n true = false → S w) (hw : wpU P md ops Q S n f listed a w) : K a w := h a w hS hw
theorem wpU_one {i : Nat} {o : Oper} {f : Nat} {listed : Array Bool} {a : Act} {w : World} (hr : Region.ready md ops listed = [i]) (ho : ops[i]? = some o)
    (h : ∀ K : Act → World → Prop, OnU P md ops Q S n f (listed.setIfInBounds i true) K → if Region.wanted o (yielded ops a.tmps) = true then Oper.wp P o a w K Q else K (a.put o.dst undef) w) : wpU P md ops Q S n (f + 1) listed a w := by
  refine ⟨fun h0 => (by rw [hr] at h0; cases h0), fun j hj => ?_⟩
  rw [hr] at hj
  obtain rfl : j = i := by simpa using hj
  exact wpOp_step ho (fun K hK => h K (fun a w hS hW => hK a w ⟨hS, hW⟩))
theorem wpU_done {listed : Array Bool} {a : Act} {w : World} (hr : Region.ready md ops listed = []) (h : Q .normal a w) : ∀ f, wpU P md ops Q S n f listed a w
  | 0 => ⟨hr, h⟩
  | _ + 1 => ⟨fun _ => h, by rw [hr]; simp⟩
end
end Go.Proofs.YtccjdgjehecdiaaDoor
namespace Go.Proofs.YtccjdgjehecdiaaDoor
open Go.RowKit
namespace Lg

theorem inv_setc {md : Region.Mode} {ops : Array Oper} {n i : Nat} {listed : Array Bool} (inv : HeadInv md ops n listed) (hr : (Region.ready md ops listed).contains i = true) (hin : i < n) : HeadInv md ops n (listed.setIfInBounds i true) := inv.set (by simpa using hr) hin
theorem inWord (t gt : Int) (h0 : 0 ≤ t) (h1 : t < gt) (gb : Nat) (W : World) (x0 : W.cell? ⟨gb, 0, none⟩ = some (.int .i64 gt)) :
    Calls Tryd.prog 34 #[.int .i64 t, .pointer (some ⟨gb, 0, none⟩)] W fun e w' => e = .returned (.bool false) ∧ Below W.heap.size W w' := by
  have hd : decide (t < 0) = false := by simp; omega
  have hd2 : decide (gt ≤ t) = false := by simp; omega
  clear h0 h1
  go_enter Tryd.func34, Tryd.ntmps34
  go_wp2_with fail
  go_ret
  exact ⟨rfl, by first | exact Below.refl _ _ | exact (Below.refl _ _).drew | exact below_drewN _ _⟩
set_option maxHeartbeats 1000000 in
theorem wordOkE (g : Gram) (vr : Value) (wd : List Int) (n most : Nat) (hn : wd.length = n) (hm : n ≤ most) (hmm : most ≤ 1000000) (ht : ∀ t ∈ wd, 0 ≤ t ∧ t < g.terms) (wa : Option Addr) (wc : Nat) (w : World) (hw : Sl w (.slice wa n wc) (ints wd)) :
    Calls Tryd.prog 30 #[.agg #[.int .i64 g.terms, .int .i64 g.nons, .int .i64 g.start, vr], .slice wa n wc, .int .i64 (most : Int)] w fun e w' => e = .returned (.int .i64 0) ∧ Below w.heap.size w w' := by
  obtain ⟨w0, HW0⟩ := nameIt (w.alloc (.cells #[.int .i64 g.terms, .int .i64 g.nons, .int .i64 g.start, vr] 24))
  have hb0 : Below w.heap.size w w0 := by rw [← HW0.out]; exact (Below.refl _ _).alloc (Nat.le_refl _) _
  have X0 : Hid (w0.heap[w.heap.size]? = some (.cells #[.int .i64 g.terms, .int .i64 g.nons, .int .i64 g.start, vr] 24 (0, 0))) := by rw [← HW0.out]; exact bx_new _ _ _ rfl
  have HB0 := Lib.hid hb0
  have HCF : Hid (∀ W, Below w0.heap.size w0 W → Calls Tryd.prog 33 #[.slice wa n wc, .func (.func 34) #[] #[.pointer (some ⟨w.heap.size, 0, none⟩)]] W fun e w' => e = .returned (.bool false) ∧ Below W.heap.size W w') := fun W hb => by
    have h := containsFunc 34 #[.pointer (some ⟨w.heap.size, 0, none⟩)] (fun _ => false) wa wc wd W (fun _ _ => rfl) (fun W' c hc hb' => by
      obtain ⟨x0, _, _, _⟩ := bx_cells4 (bx_keep X0.out (hb.trans (hb'.mono hb.size)))
      exact inWord c g.terms (ht c hc).1 (ht c hc).2 w.heap.size W' x0) (by rw [hn]; exact (hw.keep hb0).keep hb)
    rw [hn] at h
    have e : wd.any (fun _ => false) = false := by simp
    rw [e] at h
    exact h
  have hwb := hw.len.2
  unfold maxLen at hwb
  obtain ⟨hwc1, hwc2⟩ := hwb
  obtain ⟨gt, HGT⟩ := nameIt g.terms
  obtain ⟨gn, HGN⟩ := nameIt g.nons
  obtain ⟨gs, HGS⟩ := nameIt g.start
  rw [HGT.out, HGN.out, HGS.out] at HW0
  rw [HGT.out, HGN.out, HGS.out]
  have hml : ¬ ((most : Int) < (n : Int)) := by omega
  clear hb0 X0 hn ht hw
  go_enter Tryd.func30, Tryd.ntmps30
  go_upto_region 1 with fail
  rw [HW0.out]
  go_wp2_with fail
  with_reducible refine (HCF.out w0 (Below.refl _ _)).mono ?_
  rintro e w1 ⟨rfl, hb1⟩
  have HB1 := Lib.hid (HB0.out.trans (hb1.mono HB0.out.size))
  clear hb1
  go_wp2_with fail
  go_ret
  exact ⟨rfl, HB1.out⟩
set_option maxHeartbeats 1000000 in
theorem meanCheckE (g : Gram) (hck : checkG g = 0) (ra : Option Addr) (rcap : Nat) (wd : List Int) (n : Nat) (hn : wd.length = n) (hm : n ≤ 12) (ht : ∀ t ∈ wd, 0 ≤ t ∧ t < g.terms) (wa : Option Addr) (wc : Nat) (w : World) (hr : Rd AnyB w (.sl (g.rules.map Rule.d)) [.slice ra g.rules.length rcap]) (hw : Sl w (.slice wa n wc) (ints wd)) :
    Calls Tryd.prog 22 #[.agg #[.int .i64 g.terms, .int .i64 g.nons, .int .i64 g.start, .slice ra g.rules.length rcap], .slice wa n wc] w fun e w' => e = .returned (.int .i64 0) ∧ Below w.heap.size w w' := by
  obtain ⟨w0, HW0⟩ := nameIt (w.alloc (.cells #[.int .i64 g.terms, .int .i64 g.nons, .int .i64 g.start, .slice ra g.rules.length rcap] 24))
  have hb0 : Below w.heap.size w w0 := by rw [← HW0.out]; exact (Below.refl _ _).alloc (Nat.le_refl _) _
  have X0 : Hid (w0.heap[w.heap.size]? = some (.cells #[.int .i64 g.terms, .int .i64 g.nons, .int .i64 g.start, .slice ra g.rules.length rcap] 24 (0, 0))) := by rw [← HW0.out]; exact bx_new _ _ _ rfl
  have HB0 := Lib.hid hb0
  have HCK := Lib.hid (checkE g ra rcap w0 (hr.below hb0))
  rw [hck] at HCK
  have HWO : Hid (∀ W, Below w0.heap.size w0 W → Calls Tryd.prog 30 #[.agg #[.int .i64 g.terms, .int .i64 g.nons, .int .i64 g.start, .slice ra g.rules.length rcap], .slice wa n wc, .int .i64 12] W fun e w' => e = .returned (.int .i64 0) ∧ Below W.heap.size W w') := fun W hb => wordOkE g _ wd n 12 hn hm (by omega) ht wa wc W ((hw.keep hb0).keep hb)
  obtain ⟨gt, HGT⟩ := nameIt g.terms
  obtain ⟨gn, HGN⟩ := nameIt g.nons
  obtain ⟨gs, HGS⟩ := nameIt g.start
  obtain ⟨rl, HRL⟩ := nameIt g.rules.length
  rw [HGT.out, HGN.out, HGS.out, HRL.out] at HW0 X0 HCK
  simp only [HGT.out, HGN.out, HGS.out, HRL.out] at HWO
  rw [HGT.out, HGN.out, HGS.out, HRL.out]
  obtain ⟨gb, HGB⟩ := nameIt w.heap.size
  rw [HGB.out] at X0
  obtain ⟨x0, x1, x2, x3⟩ := bx_cells4 X0.out
  clear hb0 hn ht hw hr hck
  go_enter Tryd.func22, Tryd.ntmps22
  go_upto_region 1 with fail
  rw [HW0.out, HGB.out]
  go_wp2_with fail
  with_reducible refine HCK.out.mono ?_
  rintro e w1 ⟨rfl, hb1⟩
  have HB1 := Lib.hid hb1
  obtain ⟨y0, y1, y2, y3⟩ := bx_cells4 (bx_keep X0.out hb1)
  clear hb1 x0 x1 x2 x3
  go_wp2_with fail
  with_reducible refine (HWO.out w1 HB1.out).mono ?_
  rintro e w2 ⟨rfl, hb2⟩
  have HB2 := Lib.hid (HB0.out.trans ((HB1.out.trans (hb2.mono HB1.out.size)).mono HB0.out.size))
  clear hb2 y0 y1 y2 y3
  go_wp2_with fail
  go_ret
  exact ⟨rfl, HB2.out⟩
/-- is a word of the start symbol -/
noncomputable def langB (g : Gram) (wd : List Int) : Bool := @decide (Lang g.rules g.start.toNat wd) (Classical.propDecidable _)
theorem langB_iff {g : Gram} {wd : List Int} : langB g wd = true ↔ Lang g.rules g.start.toNat wd := by unfold langB; exact @decide_eq_true_iff _ (Classical.propDecidable _)
set_option maxHeartbeats 2000000 in
set_option maxRecDepth 100000 in
theorem acceptsE (g : Gram) (hck : checkG g = 0) (ra : Option Addr) (rcap : Nat) (wd : List Int) (n : Nat) (hn : wd.length = n) (hm : n ≤ 12) (ht : ∀ t ∈ wd, 0 ≤ t ∧ t < g.terms) (wa : Option Addr) (wc : Nat) (w : World) (hr : Rd AnyB w (.sl (g.rules.map Rule.d)) [.slice ra g.rules.length rcap]) (hw : Sl w (.slice wa n wc) (ints wd)) (hT : TabG w) :
    Calls Tryd.prog 12 #[.agg #[.int .i64 g.terms, .int .i64 g.nons, .int .i64 g.start, .slice ra g.rules.length rcap], .slice wa n wc] w fun e w' => e = .returned (.tuple #[.bool (langB g wd), .int .i64 0]) ∧ Below w.heap.size w w' := by
  obtain ⟨w0, HW0⟩ := nameIt (w.alloc (.cells #[.int .i64 g.terms, .int .i64 g.nons, .int .i64 g.start, .slice ra g.rules.length rcap] 24))
  have hb0 : Below w.heap.size w w0 := by rw [← HW0.out]; exact (Below.refl _ _).alloc (Nat.le_refl _) _
  have X0 : Hid (w0.heap[w.heap.size]? = some (.cells #[.int .i64 g.terms, .int .i64 g.nons, .int .i64 g.start, .slice ra g.rules.length rcap] 24 (0, 0))) := by rw [← HW0.out]; exact bx_new _ _ _ rfl
  have HB0 := Lib.hid hb0
  obtain ⟨N, hgn, hN1, hN10, hok⟩ := okRu_of hck
  obtain ⟨⟨_, _, _, _, hg5, hg6⟩, _, _⟩ := checkG_zero hck
  obtain ⟨s, hs⟩ : ∃ s : Nat, g.start = (s : Int) := ⟨g.start.toNat, by omega⟩
  have hsN : s < N := by omega
  have hs0 : (0 : Int) ≤ (s : Int) := by omega
  have hs1 : (s : Int) < (N : Int) := by omega
  have HLL : Hid (∀ r ∈ g.rules, 0 ≤ r.left) := fun r hr => (hok r hr).1
  have HCK := Lib.hid (meanCheckE g hck ra rcap wd n hn hm ht wa wc w0 (hr.below hb0) (hw.keep hb0))
  have HEN : Hid (∀ W, Below w0.heap.size w0 W → Calls Tryd.prog 23 #[.agg #[.int .i64 g.terms, .int .i64 g.nons, .int .i64 g.start, .slice ra g.rules.length rcap], .slice wa n wc] W (EndsPost g.rules wd N W)) := fun W hb => endsE g N hgn hN1 hN10 hok ra rcap wd n hn hm wa wc W ((hr.below hb0).below hb) ((hw.keep hb0).keep hb) ((hT.keep hb0).keep hb)
  have HVAL : Hid (∀ E, SoundE g.rules wd E → ClosedE g.rules wd E → ((bits BinOp.and IntKind.u32 ((E s 0 : Int) / 2 ^ n) 1 == 1) = langB g wd) ∧ (E s 0 : Int) < 4294967296) := by
    intro E hsn hcl
    have hlt := hsn.lt (by omega) s 0
    have h1 : ((E s 0 : Int) / 2 ^ n) = ((E s 0 / 2 ^ n : Nat) : Int) := by push_cast; rfl
    have h0 : bits BinOp.and IntKind.u32 ((E s 0 : Int) / 2 ^ n) 1 = ((E s 0 / 2 ^ n % 2 : Nat) : Int) := by
      rw [h1]
      have h2 := u32_and_nat (E s 0 / 2 ^ n) 1 (by have := Nat.div_le_self (E s 0) (2 ^ n); omega) (by omega)
      have h3 : E s 0 / 2 ^ n &&& 1 = E s 0 / 2 ^ n % 2 := Nat.and_one_is_mod _
      rw [h3] at h2
      exact h2
    refine ⟨?_, by omega⟩
    · rw [h0]
      have h4 := ends_lang HLL.out hsn hcl (A := s)
      rw [hn] at h4
      have h5 : (E s 0).testBit n = decide (E s 0 / 2 ^ n % 2 = 1) := Nat.testBit_eq_decide_div_mod_eq
      have h6 : (((E s 0 / 2 ^ n % 2 : Nat) : Int) == 1) = (E s 0).testBit n := by
        rw [h5]
        have := Nat.mod_lt (E s 0 / 2 ^ n) (show 0 < 2 by decide)
        rcases (show E s 0 / 2 ^ n % 2 = 0 ∨ E s 0 / 2 ^ n % 2 = 1 by omega) with h | h <;> rw [h] <;> rfl
      rw [h6]
      have h7 := langB_iff (g := g) (wd := wd)
      rw [hs, Int.toNat_natCast] at h7
      rw [Bool.eq_iff_iff, h4, h7]
  rw [hgn, hs] at HW0 X0 HCK HEN
  rw [hgn, hs]
  obtain ⟨LB, HLB⟩ := nameIt (langB g wd)
  rw [HLB.out] at HVAL
  rw [HLB.out]
  obtain ⟨gt, HGT⟩ := nameIt g.terms
  obtain ⟨rl, HRL⟩ := nameIt g.rules.length
  rw [HGT.out, HRL.out] at HW0 X0 HCK
  simp only [HGT.out, HRL.out] at HEN
  rw [HGT.out, HRL.out]
  obtain ⟨gb, HGBN⟩ := nameIt w.heap.size
  rw [HGBN.out] at X0
  have HGB : Hid (∀ W', Below w0.heap.size w0 W' → W'.cell? ⟨gb, 0, none⟩ = some (.int .i64 gt) ∧ W'.cell? ⟨gb, 0 + 1, none⟩ = some (.int .i64 (N : Int)) ∧ W'.cell? ⟨gb, 0 + 2, none⟩ = some (.int .i64 (s : Int)) ∧ W'.cell? ⟨gb, 0 + 3, none⟩ = some (.slice ra rl rcap)) := fun W' h => bx_cells4 (bx_keep X0.out h)
  obtain ⟨x0, x1, x2, x3⟩ := bx_cells4 X0.out
  have HBEL : Hid (∀ w', Below w0.heap.size w0 w' → Below w.heap.size w w') := fun w' h => HB0.out.trans (h.mono HB0.out.size)
  have hwb := hw.len.2
  unfold maxLen at hwb
  obtain ⟨hwc1, hwc2⟩ := hwb
  have hn12 : (n : Int) ≤ 12 := by omega
  clear hb0 hn ht hw hr hck hT hok hgn hs hg5 hg6
  go_enter Tryd.func12, Tryd.ntmps12
  go_upto_region 1 with fail
  rw [HW0.out, HGBN.out]
  go_wp2_with fail
  with_reducible refine HCK.out.mono ?_
  rintro e w1 ⟨rfl, hb1⟩
  have HB1 := Lib.hid hb1
  clear hb1 x0 x1 x2 x3
  go_wp2_with fail
  have HS : Hid (∀ W', Below w0.heap.size w0 W' → (fun w' => w'.cell? ⟨gb, 0, none⟩ = some (.int .i64 gt) ∧ w'.cell? ⟨gb, 0 + 1, none⟩ = some (.int .i64 (N : Int)) ∧ w'.cell? ⟨gb, 0 + 2, none⟩ = some (.int .i64 (s : Int)) ∧ w'.cell? ⟨gb, 0 + 3, none⟩ = some (.slice ra rl rcap)) W') := HGB
  have HBD := Lib.hid (HB1.out.trans ((Below.refl w1.heap.size w1).drew.mono HB1.out.size))
  have HLND := Lib.hid (HEN.out _ HBD.out)
  obtain ⟨wd1, HWD⟩ := nameIt w1.drew
  rw [HWD.out] at HBD HLND
  refine wp_region_U (S := (fun w' => w'.cell? ⟨gb, 0, none⟩ = some (.int .i64 gt) ∧ w'.cell? ⟨gb, 0 + 1, none⟩ = some (.int .i64 (N : Int)) ∧ w'.cell? ⟨gb, 0 + 2, none⟩ = some (.int .i64 (s : Int)) ∧ w'.cell? ⟨gb, 0 + 3, none⟩ = some (.slice ra rl rcap))) 11 (by kernel_rfl) (fun inv => ?_)
  rw [HWD.out]
  refine wpU_take (i := 0) (v := .agg #[.int .i64 gt, .int .i64 (N : Int), .int .i64 (s : Int), .slice ra rl rcap]) rfl inv (by kernel_rfl) (by kernel_rfl) (by decide) (by decide) (by kernel_rfl) (by kernel_rfl) (by kernel_rfl) (fun _ _ _ h => h) (Or.inl ⟨by rfl, fun w' hw' => ?_⟩) (HS.out _ HBD.out) (fun inv => ?_)
  · obtain ⟨h0, h1, h2, h3⟩ := hw'
    go_simp
  try simp only [Act.put, List.setIfInBounds_toArray, List.set_cons_zero, List.set_cons_succ]
  refine wpU_take (i := 1) (v := .slice wa n wc) rfl inv (by kernel_rfl) (by kernel_rfl) (by decide) (by decide) (by kernel_rfl) (by kernel_rfl) (by kernel_rfl) (fun _ _ _ h => h) (Or.inl ⟨by rfl, fun w' hw' => ?_⟩) (HS.out _ HBD.out) (fun inv => ?_)
  · obtain ⟨h0, h1, h2, h3⟩ := hw'
    go_simp
  try simp only [Act.put, List.setIfInBounds_toArray, List.set_cons_zero, List.set_cons_succ]
  refine wpU_take (i := 3) (v := .pointer (some ⟨gb, 0 + 2, none⟩)) rfl inv (by kernel_rfl) (by kernel_rfl) (by decide) (by decide) (by kernel_rfl) (by kernel_rfl) (by kernel_rfl) (fun _ _ _ h => h) (Or.inl ⟨by rfl, fun w' hw' => ?_⟩) (HS.out _ HBD.out) (fun inv => ?_)
  · obtain ⟨h0, h1, h2, h3⟩ := hw'
    go_simp
  try simp only [Act.put, List.setIfInBounds_toArray, List.set_cons_zero, List.set_cons_succ]
  refine wpU_take (i := 4) (v := .int .i64 (s : Int)) rfl inv (by kernel_rfl) (by kernel_rfl) (by decide) (by decide) (by kernel_rfl) (by kernel_rfl) (by kernel_rfl) (fun _ _ _ h => h) (Or.inl ⟨by rfl, fun w' hw' => ?_⟩) (HS.out _ HBD.out) (fun inv => ?_)
  · obtain ⟨h0, h1, h2, h3⟩ := hw'
    go_simp
  try simp only [Act.put, List.setIfInBounds_toArray, List.set_cons_zero, List.set_cons_succ]
  refine wpU_take (i := 9) (v := .slice wa n wc) rfl inv (by kernel_rfl) (by kernel_rfl) (by decide) (by decide) (by kernel_rfl) (by kernel_rfl) (by kernel_rfl) (fun _ _ _ h => h) (Or.inl ⟨by rfl, fun w' hw' => ?_⟩) (HS.out _ HBD.out) (fun inv => ?_)
  · obtain ⟨h0, h1, h2, h3⟩ := hw'
    go_simp
  try simp only [Act.put, List.setIfInBounds_toArray, List.set_cons_zero, List.set_cons_succ]
  refine wpU_take (i := 10) (v := .int .i64 (n : Int)) rfl inv (by kernel_rfl) (by kernel_rfl) (by decide) (by decide) (by kernel_rfl) (by kernel_rfl) (by kernel_rfl) (fun _ _ _ h => h) (Or.inl ⟨by rfl, fun w' hw' => ?_⟩) (HS.out _ HBD.out) (fun inv => ?_)
  · obtain ⟨h0, h1, h2, h3⟩ := hw'
    go_simp
  try simp only [Act.put, List.setIfInBounds_toArray, List.set_cons_zero, List.set_cons_succ]
  refine wpU_one (i := 2) (by kernel_rfl) rfl (fun K hK => ?_)
  replace inv := inv_setc (i := 2) inv (by kernel_rfl) (by decide)
  go_simp
  with_reducible refine HLND.out.mono ?_
  rintro e w2 ⟨bt, H, rb, E, rfl, htab, hH, hsn, hcl, hb2⟩
  have HB2 := Lib.hid (HBD.out.trans (hb2.mono HBD.out.size))
  have c0 := htab.head hsN
  have c1 := htab.cell hsN (show 0 < wd.length + 1 by omega)
  have HHD : Hid (∃ mm, w2.cell? ⟨bt, s, none⟩ = some (.slice (some ⟨rb s, 0, none⟩) mm mm) ∧ 0 < mm) := ⟨_, c0, by omega⟩
  obtain ⟨mm, c0', hmm⟩ := HHD.out
  have hmm' : (0 : Int) < (mm : Int) := by omega
  have HV := Lib.hid (HVAL.out E hsn hcl)
  obtain ⟨y, HY⟩ := nameIt (E s 0)
  rw [HY.out] at c1 HV
  obtain ⟨rs, HRS⟩ := nameIt (rb s)
  rw [HRS.out] at c0' c1
  clear htab hsn hcl hb2 c0 HHD hmm'
  refine hK.out _ _ (fun _ => HS.out _ HB2.out) ?_
  clear hK K
  try simp only [Act.put, List.setIfInBounds_toArray, List.set_cons_zero, List.set_cons_succ]
  refine wpU_one (i := 5) (by kernel_rfl) rfl (fun K hK => ?_)
  replace inv := inv_setc (i := 5) inv (by kernel_rfl) (by decide)
  go_simp
  refine hK.out _ _ (fun _ => HS.out _ HB2.out) ?_
  clear hK K
  try simp only [Act.put, List.setIfInBounds_toArray, List.set_cons_zero, List.set_cons_succ]
  refine wpU_one (i := 6) (by kernel_rfl) rfl (fun K hK => ?_)
  replace inv := inv_setc (i := 6) inv (by kernel_rfl) (by decide)
  go_simp
  refine hK.out _ _ (fun _ => HS.out _ HB2.out) ?_
  clear hK K
  try simp only [Act.put, List.setIfInBounds_toArray, List.set_cons_zero, List.set_cons_succ]
  refine wpU_one (i := 7) (by kernel_rfl) rfl (fun K hK => ?_)
  replace inv := inv_setc (i := 7) inv (by kernel_rfl) (by decide)
  go_simp
  refine hK.out _ _ (fun _ => HS.out _ HB2.out) ?_
  clear hK K
  try simp only [Act.put, List.setIfInBounds_toArray, List.set_cons_zero, List.set_cons_succ]
  refine wpU_one (i := 8) (by kernel_rfl) rfl (fun K hK => ?_)
  replace inv := inv_setc (i := 8) inv (by kernel_rfl) (by decide)
  go_simp
  refine hK.out _ _ (fun _ => HS.out _ HB2.out) ?_
  clear hK K
  try simp only [Act.put, List.setIfInBounds_toArray, List.set_cons_zero, List.set_cons_succ]
  obtain ⟨hy1, hy3⟩ := HV.out
  have HY1 := Lib.hid hy1
  clear hy1
  refine wpU_one (i := 11) (by kernel_rfl) rfl (fun K hK => ?_)
  go_simp
  refine hK.out _ _ (fun h => absurd (show true = false from h) (by decide)) ?_
  clear hK K
  try simp only [Act.put, List.setIfInBounds_toArray, List.set_cons_zero, List.set_cons_succ]
  refine wpU_one (i := 12) (by kernel_rfl) rfl (fun K hK => ?_)
  go_simp
  refine hK.out _ _ (fun h => absurd (show true = false from h) (by decide)) ?_
  clear hK K
  try simp only [Act.put, List.setIfInBounds_toArray, List.set_cons_zero, List.set_cons_succ]
  refine wpU_one (i := 13) (by kernel_rfl) rfl (fun K hK => ?_)
  go_simp
  refine hK.out _ _ (fun h => absurd (show true = false from h) (by decide)) ?_
  clear hK K
  try simp only [Act.put, List.setIfInBounds_toArray, List.set_cons_zero, List.set_cons_succ]
  refine wpU_one (i := 14) (by kernel_rfl) rfl (fun K hK => ?_)
  go_simp
  refine hK.out _ _ (fun h => absurd (show true = false from h) (by decide)) ?_
  clear hK K
  try simp only [Act.put, List.setIfInBounds_toArray, List.set_cons_zero, List.set_cons_succ]
  refine wpU_one (i := 15) (by kernel_rfl) rfl (fun K hK => ?_)
  go_simp
  refine hK.out _ _ (fun h => absurd (show true = false from h) (by decide)) ?_
  clear hK K
  try simp only [Act.put, List.setIfInBounds_toArray, List.set_cons_zero, List.set_cons_succ]
  refine wpU_done (by kernel_rfl) ?_ _
  go_wp2_with fail
  refine bodyPost_ret (results_tmp2 Tryd.results12 _ _ _) rfl ?_
  have h := HY1.out
  show Ending.returned (.tuple #[.bool (bits BinOp.and IntKind.u32 ((y : Int) / 2 ^ n) 1 == 1), .int .i64 0]) = _ ∧ _
  rw [h]
  exact ⟨rfl, HBEL.out _ HB2.out⟩
end Lg
end Go.Proofs.YtccjdgjehecdiaaDoor
