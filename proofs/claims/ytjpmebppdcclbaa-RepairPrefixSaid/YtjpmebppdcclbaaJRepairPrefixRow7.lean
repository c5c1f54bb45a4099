/- The contracts of gram.Has, gram.Order, gram.Compare and of slices' functions of symbols and rules. parlref4.Opening. The sets of hole.follower: adding items in plain Lean, and the sets in memory. hole.follower.next; slices.Index, Contains, Clone of items. -/
import Derived.Test.YtjpmebppdcclbaaJRepairPrefixRow2
import Derived.Test.YtjpmebppdcclbaaJRepairPrefixRow1
import Derived.Deep.RegionHeld3
import Derived.Test.YtjpmebppdcclbaaJRepairPrefixRow6
namespace Go.Proofs.Ytjpmebppdcclbaa
open Go.RowKit
def idxG {α : Type} (p : α → Bool) (l : List α) : Int := if l.any p then (l.findIdx p : Int) else -1
theorem idxG_hit {α : Type} {p : α → Bool} {l : List α} {i : Nat} (hi : i < l.length) (h : p l[i] = true) (hn : ∀ j (h : j < l.length), j < i → p l[j] = false) : idxG p l = i := by
  have h1 : l.any p = true := List.any_eq_true.2 ⟨l[i], List.getElem_mem hi, h⟩
  rw [idxG, if_pos h1]
  have : l.findIdx p = i := by
    rw [List.findIdx_eq hi]
    exact ⟨h, fun j hj => by simp [hn j (by omega) hj]⟩
  rw [this]
theorem idxG_none {α : Type} {p : α → Bool} {l : List α} (hn : ∀ j (h : j < l.length), p l[j] = false) : idxG p l = -1 := by
  have h1 : l.any p = false := by
    rw [List.any_eq_false]
    intro x hx
    obtain ⟨j, hj, rfl⟩ := List.getElem_of_mem hx
    simp [hn j hj]
  rw [idxG, if_neg (by simp [h1])]
theorem idxG_ge {α : Type} (p : α → Bool) (l : List α) : decide (0 ≤ idxG p l) = l.any p := by
  unfold idxG
  cases h : l.any p <;> simp [h]
def PredSym (g : Nat) (lb : Array Value) (l : List Sym) (p : Sym → Bool) (w : World) : Prop :=
  ∀ (W : World) (x : Sym), x ∈ l → Below w.heap.size w W → Calls Try.prog g (#[.agg #[.bool x.term, .int .i64 x.n]] ++ lb) W fun e w' => e = .returned (.bool (p x)) ∧ Below W.heap.size W w'
def PredRule (g : Nat) (lb : Array Value) (l : List Rule) (p : Rule → Bool) (w : World) : Prop :=
  ∀ (W : World) (x : Rule) (v : Value), x ∈ l → Below w.heap.size w W → Rd AnyB W (.sl (x.right.map Sym.d)) [v] → Calls Try.prog g (#[.agg #[.int .i64 x.left, v]] ++ lb) W fun e w' => e = .returned (.bool (p x)) ∧ Below W.heap.size W w'
set_option maxHeartbeats 1000000 in
theorem indexFuncSym (g : Nat) (lb : Array Value) (p : Sym → Bool) (a : Option Addr) (cap : Nat) (l : List Sym) (w : World) (eg : ∀ args w, (callFunc g args).run Try.prog w = .ok (.enter g args) w)
    (hf : PredSym g lb l p w) (hl : Rd AnyB w (.sl (l.map Sym.d)) [.slice a l.length cap]) :
    Calls Try.prog 73 #[.slice a l.length cap, .func (.func g) #[] lb] w fun e w' => e = .returned (.int .i64 (idxG p l)) ∧ Below w.heap.size w w' := by
  have HL := Lib.hid hl
  have HF := Lib.hid hf
  have hc := hl.bounds.2
  unfold maxLen at hc
  obtain ⟨hc1, hc2⟩ := hc
  clear hl hf
  go_enter Try.func73, Try.ntmps73
  go_wp2
  go_loopg [8] l.length (fun gg v8 wr => ∃ i : Nat, i ≤ l.length ∧ l.length - i ≤ gg ∧ v8 = .int .i64 i ∧ Hid (Below w.heap.size w wr) ∧ Hid (∀ j (h : j < l.length), j < i → p l[j] = false))
  case atStart => exact ⟨0, by omega, by omega, rfl, Below.refl _ _, fun j _ hj => by omega⟩
  case round =>
    obtain ⟨i, hi, hg, rfl, HB, HN⟩ := hrel
    by_cases hlt : i < l.length
    · have hlt' : (i : Int) < (l.length : Int) := by omega
      obtain ⟨b, off, hae, -, -, c0, c1⟩ := (HL.out.below HB.out).sym_at hlt
      obtain ⟨x, HX⟩ := nameIt (l[i]'hlt)
      rw [HX.out] at c0 c1
      have hcall := HF.out wr x (by rw [← HX.out]; exact List.getElem_mem hlt) HB.out
      obtain ⟨q0, HQ0⟩ := nameIt x.term
      obtain ⟨q1, HQ1⟩ := nameIt x.n
      rw [HQ0.out] at c0 hcall
      rw [HQ1.out] at c1 hcall
      have HC := Lib.hid hcall
      clear hcall
      subst hae
      go_wp2_with fail
      refine HC.out.mono ?_
      rintro e w6 ⟨rfl, hb6⟩
      have HB6 := Lib.hid (HB.out.trans (hb6.mono HB.out.size))
      clear hb6 c0 c1
      cases hp : p x with
      | true =>
        have HE : Hid (idxG p l = i) := idxG_hit hlt (by rw [HX.out]; exact hp) HN.out
        clear hp
        go_wp2
        go_ret
        exact ⟨by rw [HE.out]; rfl, HB6.out⟩
      | false =>
        have HN2 : Hid (∀ j (h : j < l.length), j < i + 1 → p l[j] = false) := by
          intro j h hj
          by_cases e : j = i
          · subst e; rw [HX.out]; exact hp
          · exact HN.out j h (by omega)
        clear hp
        go_wp2
        go_roundg (l.length - (i + 1))
        case measure => omega
        case rel => exact ⟨i + 1, by omega, by omega, by go_num, HB6, HN2⟩
    · have hlt' : ¬ (i : Int) < (l.length : Int) := by omega
      have HE : Hid (idxG p l = -1) := idxG_none fun j hj => HN.out j hj (by omega)
      go_wp2
      go_ret
      exact ⟨by rw [HE.out]; rfl, HB.out⟩
set_option maxHeartbeats 1000000 in
theorem containsFuncSym (g : Nat) (lb : Array Value) (p : Sym → Bool) (a : Option Addr) (cap : Nat) (l : List Sym) (w : World) (eg : ∀ args w, (callFunc g args).run Try.prog w = .ok (.enter g args) w)
    (hf : PredSym g lb l p w) (hl : Rd AnyB w (.sl (l.map Sym.d)) [.slice a l.length cap]) :
    Calls Try.prog 32 #[.slice a l.length cap, .func (.func g) #[] lb] w fun e w' => e = .returned (.bool (l.any p)) ∧ Below w.heap.size w w' := by
  have HL := Lib.hid hl
  have HF := Lib.hid hf
  have HG := Lib.hid eg
  clear hl hf eg
  go_enter Try.func32, Try.ntmps32
  go_wp2_with fail
  refine (indexFuncSym g lb p a cap l w HG.out HF.out HL.out).mono ?_
  rintro e w1 ⟨rfl, hb⟩
  have HB := Lib.hid hb
  clear hb
  go_wp2
  go_ret
  exact ⟨by rw [idxG_ge]; rfl, HB.out⟩
set_option maxHeartbeats 1000000 in
theorem indexFuncRule (g : Nat) (lb : Array Value) (p : Rule → Bool) (a : Option Addr) (cap : Nat) (l : List Rule) (w : World) (eg : ∀ args w, (callFunc g args).run Try.prog w = .ok (.enter g args) w)
    (hf : PredRule g lb l p w) (hl : Rd AnyB w (.sl (l.map Rule.d)) [.slice a l.length cap]) :
    Calls Try.prog 74 #[.slice a l.length cap, .func (.func g) #[] lb] w fun e w' => e = .returned (.int .i64 (idxG p l)) ∧ Below w.heap.size w w' := by
  have HL := Lib.hid hl
  have HF := Lib.hid hf
  have hc := hl.bounds.2
  unfold maxLen at hc
  obtain ⟨hc1, hc2⟩ := hc
  clear hl hf
  go_enter Try.func74, Try.ntmps74
  go_wp2
  go_loopg [8] l.length (fun gg v8 wr => ∃ i : Nat, i ≤ l.length ∧ l.length - i ≤ gg ∧ v8 = .int .i64 i ∧ Hid (Below w.heap.size w wr) ∧ Hid (∀ j (h : j < l.length), j < i → p l[j] = false))
  case atStart => exact ⟨0, by omega, by omega, rfl, Below.refl _ _, fun j _ hj => by omega⟩
  case round =>
    obtain ⟨i, hi, hg, rfl, HB, HN⟩ := hrel
    by_cases hlt : i < l.length
    · have hlt' : (i : Int) < (l.length : Int) := by omega
      obtain ⟨b, off, vr, hae, -, -, c0, c1, hkr⟩ := (HL.out.below HB.out).rule_at hlt
      obtain ⟨ar, cr, rfl, -, -⟩ := hkr.form
      rw [List.length_map] at c1 hkr
      obtain ⟨x, HX⟩ := nameIt (l[i]'hlt)
      rw [HX.out] at c0 c1 hkr
      have hcall := HF.out wr x _ (by rw [← HX.out]; exact List.getElem_mem hlt) HB.out hkr
      obtain ⟨q0, HQ0⟩ := nameIt x.left
      obtain ⟨q1, HQ1⟩ := nameIt x.right.length
      rw [HQ0.out] at c0 hcall
      rw [HQ1.out] at c1 hcall
      have HC := Lib.hid hcall
      clear hcall hkr
      subst hae
      go_wp2_with fail
      refine HC.out.mono ?_
      rintro e w6 ⟨rfl, hb6⟩
      have HB6 := Lib.hid (HB.out.trans (hb6.mono HB.out.size))
      clear hb6 c0 c1
      cases hp : p x with
      | true =>
        have HE : Hid (idxG p l = i) := idxG_hit hlt (by rw [HX.out]; exact hp) HN.out
        clear hp
        go_wp2
        go_ret
        exact ⟨by rw [HE.out]; rfl, HB6.out⟩
      | false =>
        have HN2 : Hid (∀ j (h : j < l.length), j < i + 1 → p l[j] = false) := by
          intro j h hj
          by_cases e : j = i
          · subst e; rw [HX.out]; exact hp
          · exact HN.out j h (by omega)
        clear hp
        go_wp2
        go_roundg (l.length - (i + 1))
        case measure => omega
        case rel => exact ⟨i + 1, by omega, by omega, by go_num, HB6, HN2⟩
    · have hlt' : ¬ (i : Int) < (l.length : Int) := by omega
      have HE : Hid (idxG p l = -1) := idxG_none fun j hj => HN.out j hj (by omega)
      go_wp2
      go_ret
      exact ⟨by rw [HE.out]; rfl, HB.out⟩
set_option maxHeartbeats 1000000 in
theorem containsFuncRule (g : Nat) (lb : Array Value) (p : Rule → Bool) (a : Option Addr) (cap : Nat) (l : List Rule) (w : World) (eg : ∀ args w, (callFunc g args).run Try.prog w = .ok (.enter g args) w)
    (hf : PredRule g lb l p w) (hl : Rd AnyB w (.sl (l.map Rule.d)) [.slice a l.length cap]) :
    Calls Try.prog 35 #[.slice a l.length cap, .func (.func g) #[] lb] w fun e w' => e = .returned (.bool (l.any p)) ∧ Below w.heap.size w w' := by
  have HL := Lib.hid hl
  have HF := Lib.hid hf
  have HG := Lib.hid eg
  clear hl hf eg
  go_enter Try.func35, Try.ntmps35
  go_wp2_with fail
  refine (indexFuncRule g lb p a cap l w HG.out HF.out HL.out).mono ?_
  rintro e w1 ⟨rfl, hb⟩
  have HB := Lib.hid hb
  clear hb
  go_wp2
  go_ret
  exact ⟨by rw [idxG_ge]; rfl, HB.out⟩
set_option maxHeartbeats 1000000 in
theorem orderS (x y : Sym) (w : World) : Calls Try.prog 76 #[.agg #[.bool x.term, .int .i64 x.n], .agg #[.bool y.term, .int .i64 y.n]] w fun e w' => e = .returned (.int .i64 (ordS x y)) ∧ Below w.heap.size w w' := by
  obtain ⟨x0, x1⟩ := x
  obtain ⟨y0, y1⟩ := y
  dsimp only
  cases x0 <;> cases y0
  · have HC := Lib.hid (fun W => compareInt x1 y1 W)
    have HO : Hid (ordS ⟨false, x1⟩ ⟨false, y1⟩ = cmp3 x1 y1) := by show _ = _; simp [ordS]
    go_enter Try.func76, Try.ntmps76
    go_wp2_with fail
    refine (HC.out _).mono ?_
    rintro e w' ⟨rfl, rfl⟩
    go_wp2_with fail
    go_ret
    exact ⟨by rw [HO.out]; rfl, ((Below.refl _ _).alloc (Nat.le_refl _) _).alloc (by simp) _⟩
  · have HO : Hid (ordS ⟨false, x1⟩ ⟨true, y1⟩ = 1) := by show _ = _; simp [ordS]
    go_enter Try.func76, Try.ntmps76
    go_wp2_with fail
    go_ret
    exact ⟨by rw [HO.out]; rfl, ((Below.refl _ _).alloc (Nat.le_refl _) _).alloc (by simp) _⟩
  · have HO : Hid (ordS ⟨true, x1⟩ ⟨false, y1⟩ = -1) := by show _ = _; simp [ordS]
    go_enter Try.func76, Try.ntmps76
    go_wp2_with fail
    go_ret
    exact ⟨by rw [HO.out]; rfl, ((Below.refl _ _).alloc (Nat.le_refl _) _).alloc (by simp) _⟩
  · have HC := Lib.hid (fun W => compareInt x1 y1 W)
    have HO : Hid (ordS ⟨true, x1⟩ ⟨true, y1⟩ = cmp3 x1 y1) := by show _ = _; simp [ordS]
    go_enter Try.func76, Try.ntmps76
    go_wp2_with fail
    refine (HC.out _).mono ?_
    rintro e w' ⟨rfl, rfl⟩
    go_wp2_with fail
    go_ret
    exact ⟨by rw [HO.out]; rfl, ((Below.refl _ _).alloc (Nat.le_refl _) _).alloc (by simp) _⟩
theorem cmpS_at {l m : List Sym} {i : Nat} (h : i < l.length) (h2 : i < m.length) : cmpS (l.drop i) (m.drop i) = if ordS l[i] m[i] = 0 then cmpS (l.drop (i + 1)) (m.drop (i + 1)) else ordS l[i] m[i] := by
  rw [List.drop_eq_getElem_cons h, List.drop_eq_getElem_cons h2, cmpS]
theorem cmpS_long {l m : List Sym} {i : Nat} (h : i < l.length) (h2 : m.length ≤ i) : cmpS (l.drop i) (m.drop i) = 1 := by
  rw [List.drop_eq_getElem_cons h, List.drop_of_length_le h2, cmpS]
theorem cmpS_short {l m : List Sym} {i : Nat} (h : l.length ≤ i) (h2 : i < m.length) : cmpS (l.drop i) (m.drop i) = -1 := by
  rw [List.drop_eq_getElem_cons h2, List.drop_of_length_le h, cmpS]
theorem cmpS_end {l m : List Sym} {i : Nat} (h : l.length ≤ i) (h2 : m.length ≤ i) : cmpS (l.drop i) (m.drop i) = 0 := by
  rw [List.drop_of_length_le h2, List.drop_of_length_le h, cmpS]
set_option maxHeartbeats 1000000 in
theorem compareSyms (a a' : Option Addr) (cap cap' : Nat) (l m : List Sym) (w : World) (hl : Rd AnyB w (.sl (l.map Sym.d)) [.slice a l.length cap]) (hm : Rd AnyB w (.sl (m.map Sym.d)) [.slice a' m.length cap']) :
    Calls Try.prog 75 #[.slice a l.length cap, .slice a' m.length cap', .func (.func 76) #[] #[]] w fun e w' => e = .returned (.int .i64 (cmpS l m)) ∧ Below w.heap.size w w' := by
  have HL := Lib.hid hl
  have HM := Lib.hid hm
  have hc := hl.bounds.2
  have hc' := hm.bounds.2
  unfold maxLen at hc hc'
  obtain ⟨hc1, hc2⟩ := hc
  obtain ⟨hc3, hc4⟩ := hc'
  clear hl hm
  go_enter Try.func75, Try.ntmps75
  go_wp2_with fail
  go_loopg [13] l.length (fun gg v13 wr => ∃ i : Nat, i ≤ l.length ∧ l.length - i ≤ gg ∧ v13 = .int .i64 i ∧ Hid (Below w.heap.size w wr) ∧ Hid (cmpS (l.drop i) (m.drop i) = cmpS l m))
  case atStart => exact ⟨0, by omega, by omega, rfl, Below.refl _ _, rfl⟩
  case round =>
    obtain ⟨i, hi, hg, rfl, HB, HE⟩ := hrel
    by_cases hlt : i < l.length
    · have hlt' : (i : Int) < (l.length : Int) := by omega
      obtain ⟨b, off, hae, -, -, c0, c1⟩ := (HL.out.below HB.out).sym_at hlt
      by_cases hlt2 : i < m.length
      · have hlt2' : (i : Int) < (m.length : Int) := by omega
        obtain ⟨b', off', hae', -, -, d0, d1⟩ := (HM.out.below HB.out).sym_at hlt2
        have h1 := HE.out
        rw [cmpS_at hlt hlt2] at h1
        obtain ⟨x, HX⟩ := nameIt (l[i]'hlt)
        obtain ⟨y, HY⟩ := nameIt (m[i]'hlt2)
        rw [HX.out] at c0 c1 h1
        rw [HY.out] at d0 d1 h1
        have hcall := fun W => orderS x y W
        obtain ⟨c, HC⟩ := nameIt (ordS x y)
        obtain ⟨q0, HQ0⟩ := nameIt x.term
        obtain ⟨q1, HQ1⟩ := nameIt x.n
        obtain ⟨p0, HP0⟩ := nameIt y.term
        obtain ⟨p1, HP1⟩ := nameIt y.n
        rw [HC.out] at h1 hcall
        rw [HQ0.out] at c0 hcall
        rw [HQ1.out] at c1 hcall
        rw [HP0.out] at d0 hcall
        rw [HP1.out] at d1 hcall
        have H1 := Lib.hid h1
        have HCA := Lib.hid hcall
        have hne := lt_of_cell d0
        subst hae hae'
        clear h1 hcall
        have hbb := ((Below.refl wr.heap.size wr).alloc (Nat.le_refl _) (.cells #[.bool q0, .int .i64 q1] 44)).alloc (by simp) (.cells #[.bool p0, .int .i64 p1] 44)
        have HBB := Lib.hid (HB.out.trans (hbb.mono HB.out.size))
        clear hbb
        go_wp2_with fail
        refine (HCA.out _).mono ?_
        rintro e w6 ⟨rfl, hb6⟩
        have HB6 := Lib.hid (HBB.out.trans (hb6.mono HBB.out.size))
        clear hb6 c0 c1 d0 d1
        by_cases h0 : c = 0
        · subst h0
          have h2 := H1.out
          rw [if_pos rfl] at h2
          have HE2 := Lib.hid h2
          clear h2
          go_wp2_with fail
          go_roundg (l.length - (i + 1))
          case measure => omega
          case rel => exact ⟨i + 1, by omega, by omega, by go_num, HB6, HE2⟩
        · have h2 := H1.out
          rw [if_neg h0] at h2
          have HE2 := Lib.hid h2
          have hcb : (c != 0) = true := by simpa using h0
          clear h2 h0
          go_wp2_with fail
          go_ret
          exact ⟨by rw [← HE2.out]; rfl, HB6.out⟩
      · have hlt2' : (m.length : Int) ≤ (i : Int) := by omega
        have HE2 : Hid (cmpS l m = 1) := by show _ = _; rw [← HE.out]; exact cmpS_long hlt (by omega)
        subst hae
        go_wp2_with fail
        go_ret
        exact ⟨by rw [HE2.out]; rfl, HB.out.alloc HB.out.size _⟩
    · have hlt' : ¬ (i : Int) < (l.length : Int) := by omega
      by_cases hlt2 : l.length < m.length
      · have HE2 : Hid (cmpS l m = -1) := by show _ = _; rw [← HE.out]; exact cmpS_short (by omega) (by omega)
        have hlt3 : (l.length : Int) < (m.length : Int) := by omega
        go_wp2_with fail
        go_ret
        exact ⟨by rw [HE2.out]; rfl, HB.out⟩
      · have HE2 : Hid (cmpS l m = 0) := by show _ = _; rw [← HE.out]; exact cmpS_end (by omega) (by omega)
        have hlt3 : ¬ (l.length : Int) < (m.length : Int) := by omega
        go_wp2_with fail
        go_ret
        exact ⟨by rw [HE2.out]; rfl, HB.out⟩
end Go.Proofs.Ytjpmebppdcclbaa
namespace Go.Proofs.Ytjpmebppdcclbaa
open Go.RowKit
namespace Ho
open Rp Hl
open Ht hiding D
theorem rd_take {S0 : Nat → Prop} {w : World} {ds : List D} {a : Option Addr} {n cap i : Nat} (h : Rd S0 w (.sl ds) [.slice a n cap]) (hi : i ≤ n) : Rd S0 w (.sl (ds.take i)) [.slice a i cap] := by
  obtain ⟨a', cap', L, e, h1, h2, h3, h4, h5⟩ := h
  simp at e
  obtain ⟨rfl, rfl, rfl⟩ := e
  rw [← List.take_append_drop i ds] at h5
  obtain ⟨c1, c2, rfl, h6, h7⟩ := h5.split
  refine ⟨a, cap, c1, by simp; omega, by simp; omega, h2, h3, fun j hj => ?_, h6⟩
  obtain ⟨x, hx, hS, hc⟩ := h4 j (by simp; omega)
  refine ⟨x, hx, hS, ?_⟩
  rw [hc, List.getElem_append_left hj]
theorem rd_lit {w : World} {news : Array Value} {T : TypeId} {g0 n size : Nat} {S : Nat → Prop} {ds : List D} (hg : w.heap[g0]? = some (.cells news T (0, 0))) (hn : ds.length = n) (hk : ∀ d ∈ ds, d.cells = size) (h : RdAll S w ds news.toList) (hS : S g0) (hm : n ≤ maxLen) : Rd S w (.sl ds) [.slice (some ⟨g0, 0, none⟩) n n] := by
  subst hn
  refine ⟨some ⟨g0, 0, none⟩, ds.length, news.toList, rfl, Nat.le_refl _, hm, (fun e => by cases e), fun i hi => ?_, h⟩
  refine ⟨⟨g0, 0, none⟩, rfl, hS, ?_⟩
  rw [add_at]
  simp [World.cell?, hg]
structure ORow (W : World) (gb : Nat) (gt gn gs : Int) (l : List Rule) (vr : Value) (wr : World) : Prop where
  out : wr.heap[gb]? = some (.cells #[.int .i64 gt, .int .i64 gn, .int .i64 gs, vr] 24 (0, 0))
  row : RowD (fun k => k < W.heap.size ∨ gb < k) (gb + 1) 69 2 (l.map Rule.d) vr wr
  bel : Below W.heap.size W wr
  le : W.heap.size ≤ gb
theorem ORow.keep {w : World} {gb : Nat} {gt gn gs : Int} {l : List Rule} {vr : Value} {wr w' : World} (h : ORow w gb gt gn gs l vr wr) (hb : Below wr.heap.size wr w') : ORow w gb gt gn gs l vr w' :=
  ⟨bx_keep h.out hb, h.row.keep hb, h.bel.trans (hb.mono h.bel.size), h.le⟩
theorem ORow.step {w : World} {gb n : Nat} {gt gn gs : Int} {l es : List Rule} {vr v' : Value} {w3 w4 : World} {xs L : List Value} {T : Nat → Prop} (h : ORow w gb gt gn gs l vr w3) (hn : n = l.length) (ho : w3.ownsRow (gb + 1) 69 2 vr n xs) (hd : RdAll (fun k => (k < w.heap.size ∨ gb < k) ∧ vr.ownBlock ≠ some k) w3 (l.map Rule.d) xs)
    (hes : RdAll T w3 (es.map Rule.d) L) (hT : ∀ k, T k → k < w3.heap.size → (k < w.heap.size ∨ gb < k) ∧ vr.ownBlock ≠ some k)
    (ho3 : w4.ownsRow (gb + 1) 69 2 v' (n + (es.map Rule.d).length) (xs ++ L)) (hg : w3.grownBy w4 vr.ownBlock) (hat : v'.ownBlock = vr.ownBlock ∨ ∃ k, v'.ownBlock = some k ∧ w3.heap.size ≤ k) :
    w4.heap[gb]? = some (.cells #[.int .i64 gt, .int .i64 gn, .int .i64 gs, vr] 24 (0, 0)) ∧ ORow w gb gt gn gs (l ++ es) v' (w4.setCell ⟨gb, 3, none⟩ v') := by
  have hlt := (Array.getElem?_eq_some_iff.1 h.out).1
  have hb3 : w4.heap[gb]? = some (.cells #[.int .i64 gt, .int .i64 gn, .int .i64 gs, vr] 24 (0, 0)) := by
    rw [hg.block gb hlt (fun e => by have := (ho.lt gb e.symm).1; omega)]; exact h.out
  have hne : v'.ownBlock ≠ some gb := fun e => by have h1 := (ho3.lt gb e).1; omega
  have hstep := RowD.step (S := fun k => k < w.heap.size ∨ gb < k) ho hd (by rw [List.length_map]; exact hn) hes hT (by omega) ho3 hg hat
  refine ⟨hb3, ?_, ?_, ?_, h.le⟩
  · rw [bx_set hb3]; rfl
  · obtain ⟨⟨ys, h1, h2⟩, h3⟩ := hstep
    rw [← List.map_append] at h1 h2
    refine ⟨⟨ys, h1.kept (grown_cell w4 ⟨gb, 3, none⟩ _) (.inr (by simpa [Value.ownBlock] using hne)), ?_⟩, by simp [World.setCell]; omega⟩
    refine RdAll.keep (fun k hk _ => ⟨hk, Below.heap_setCell _ _ _ _ ?_⟩) _ _ h2
    intro e
    simp at e
    subst e
    have := h.le
    rcases hk.1 with hk | hk <;> omega
  · exact (h.bel.grown hg h.bel.size (fun k e => by have := (ho.lt k e).1; have := h.le; omega)).setCell h.le _
theorem valField (b : Bool) (c n : Int) (s : Value) (W : World) : (Instr.field 36 (.agg #[.bool b, .int .i64 c, .int .i64 n, s]) 0).run Try.prog W = .ok (.bool b) W := by
  simp [Instr.field, run_underlying Try.underlying36, part, asAgg, sizeOf, typeInfo, go_sem]
  try rfl
theorem eg87a : ∀ args w, (callFunc 106 args).run Try.prog w = .ok (.enter 106 args) w := fun _ _ => by kernel_rfl
set_option maxHeartbeats 2000000 in
set_option maxRecDepth 100000 in
theorem open1E (fn : Nat) (fb : Array Value) (egf : ∀ args w, (callFunc fn args).run Try.prog w = .ok (.enter fn args) w) (sv : Sym → Option Val) (ok : Sym → Prop) (P : Nat → Prop) (bf : Nat) (w : World) (hbf : w.heap[bf]? = some (.cells #[.func (.func fn) #[] fb] 41 (0, 0))) (hfr : FreeFn fn fb sv ok P w) (l : List Sym) (hl : ∀ s ∈ l, ok s) (W0 : World) (hb0 : Below w.heap.size w W0) :
    PredSym 106 #[.pointer (some ⟨bf, 0, none⟩)] l (fun y => !(sv y).isSome) W0 := by
  intro W x hx hb
  show Calls _ _ #[.agg #[.bool x.term, .int .i64 x.n], .pointer (some ⟨bf, 0, none⟩)] _ _
  obtain ⟨w1, HW⟩ := nameIt (W.alloc (.cells #[.bool x.term, .int .i64 x.n] 44))
  have hw1 : Below W.heap.size W w1 := by rw [← HW.out]; exact (Below.refl _ _).alloc (Nat.le_refl _) _
  have hy1 : w1.heap[W.heap.size]? = some (.cells #[.bool x.term, .int .i64 x.n] 44 (0, 0)) := by rw [← HW.out]; exact bx_new _ _ _ rfl
  have hb1 : Below w.heap.size w w1 := (hb0.trans (hb.mono hb0.size)).trans (hw1.mono (hb0.trans (hb.mono hb0.size)).size)
  have HFR := Lib.hid (hfr w1 x (hl x hx) hb1)
  obtain ⟨o, HO⟩ := nameIt (sv x)
  rw [HO.out] at HFR
  rw [show (fun y => !(sv y).isSome) x = !o.isSome by show (!(sv x).isSome) = _; rw [HO.out]]
  have c0 := bx_cells1 (bx_keep hbf hb1)
  obtain ⟨y0, y1⟩ := bx_cells2 hy1
  have HB1 := Lib.hid hw1
  obtain ⟨xt, HXT⟩ := nameIt x.term
  obtain ⟨xn, HXN⟩ := nameIt x.n
  rw [HXT.out] at y0 HFR HW
  rw [HXN.out] at y1 HFR HW
  rw [HXT.out, HXN.out]
  clear hw1 hy1 hb1 hb0 hb hbf hfr hl hx HXT HXN HO
  go_enter Try.func106, Try.ntmps106
  go_upto_region 1 with fail
  rw [HW.out]
  clear HW
  go_wp2_with fail
  refine HFR.out.mono ?_
  rintro e w2 ⟨v, rfl, hv, hb2⟩
  obtain ⟨a1, m1, k1, rfl, hrd⟩ := vr_form hv
  have HB2 := Lib.hid (HB1.out.trans (hb2.mono HB1.out.size))
  clear hv hb2 hrd c0 y0 y1
  have hfl := valField o.isSome (oC o) (oN o) (.slice a1 m1 k1) w2
  go_wp2_with fail
  go_ret
  exact ⟨by simp, HB2.out⟩
set_option maxHeartbeats 1000000 in
theorem cloneRow (l : List Sym) (a : Option Addr) (c : Nat) (w : World) (h : Rd AnyB w (.sl (l.map Sym.d)) [.slice a l.length c]) (hb : l.length ≤ 1000) :
    Calls Try.prog 65 #[.slice a l.length c] w fun e w' => ∃ a c, e = .returned (.slice a l.length c) ∧ RowD (fun _ => False) w.heap.size 44 2 (l.map Sym.d) (.slice a l.length c) w' ∧ Below w.heap.size w w' := by
  have hnil := fun (w : World) (a : Option Addr) (n c : Nat) => Lib.run_eql_slice_nil (P := Try.prog) w 47 44 a n c 0 0 Try.underlying47
  cases a with
  | none =>
    have hl : l = [] := by
      cases l with
      | nil => rfl
      | cons x l => obtain ⟨b, off, e, _⟩ := h.sym_at (i := 0) (by simp); cases e
    subst hl
    go_enter Try.func65, Try.ntmps65
    go_wp2
    go_ret
    exact ⟨none, 0, rfl, RowD.nil _ _ _ _ _ (Nat.le_refl _), Below.refl _ _⟩
  | some x =>
    have hb1 : Below w.heap.size w (w.alloc (.cells #[] 44)) := (Below.refl _ _).alloc (Nat.le_refl _) _
    have HV := Lib.hid (h.below hb1)
    have HO : Hid ((w.alloc (.cells #[] 44)).ownsRow w.heap.size 44 2 (.slice (some ⟨w.heap.size, 0, none⟩) 0 0) 0 []) := World.ownsRow_made w #[] 0 (Nat.le_refl _) (by simp) rfl
    have HB1 := Lib.hid hb1
    have HML : Hid ((l.map Sym.d).length = l.length) := by show _ = _; simp
    clear h hb1
    go_enter Try.func65, Try.ntmps65
    go_wp2_with (at_builtin; refine wp_appD elSym rfl _ _ rfl HO.out rfl HV.out rfl (syms_cells l) (by rw [HML.out]; omega) (by rw [HML.out]; unfold maxLen; omega) (by simp) ?_)
    intro v' w' L hd ho hg hat
    have hb2 : Below w.heap.size w w' := HB1.out.trans (below_grown hg (by simp) (fun k hk => by simp [Value.ownBlock] at hk; omega))
    have hrow : RowD (fun _ => False) w.heap.size 44 2 (l.map Sym.d) v' w' := ⟨⟨L, by simpa using ho, Gs.symsW hd⟩, hb2.size⟩
    obtain ⟨a', c', rfl, -, -, -⟩ := hrow.form
    rw [HML.out] at hrow
    rw [HML.out]
    have HR := Lib.hid hrow
    have HB2 := Lib.hid hb2
    clear hd ho hg hat hb2 hrow
    go_wp2
    go_ret
    exact ⟨a', c', rfl, HR.out, HB2.out⟩
def OpenPost (K : List Rule) (N tm : Nat) (gt st : Int) (W : World) (e : Ending) (w' : World) : Prop :=
  ∃ S a c, ShT K N tm S ∧ e = .returned (.agg #[.int .i64 gt, .int .i64 ((2 * N : Nat) : Int), .int .i64 (st + (N : Int)), .slice a (KO K N (hwOf K N tm)).length c]) ∧ Rd AnyB w' (.sl ((KO K N (hwOf K N tm)).map Rule.d)) [.slice a (KO K N (hwOf K N tm)).length c] ∧ Below W.heap.size W w'
def opnK (K : List Rule) (N : Nat) (hw : Sym → Bool) (i : Nat) : List Rule := K ++ (KW (K.take i) hw).flatMap (opn N)
theorem opnK_zero (K : List Rule) (N : Nat) (hw : Sym → Bool) : opnK K N hw 0 = K := by simp [opnK, KW]
theorem opnK_all {K : List Rule} {N i : Nat} {hw : Sym → Bool} (h : K.length ≤ i) : opnK K N hw i = KO K N hw := by
  unfold opnK KO
  rw [List.take_of_length_le h]
theorem opnK_no {K : List Rule} {N i : Nat} {hw : Sym → Bool} (hi : i < K.length) (h : K[i].right.all (hwS hw) = false) : opnK K N hw (i + 1) = opnK K N hw i := by
  unfold opnK KW
  rw [List.take_succ_eq_append_getElem hi, List.filter_append]
  simp [h]
theorem opnK_yes {K : List Rule} {N i : Nat} {hw : Sym → Bool} (hi : i < K.length) (h : K[i].right.all (hwS hw) = true) : opnK K N hw (i + 1) = opnK K N hw i ++ opn N K[i] := by
  unfold opnK KW
  rw [List.take_succ_eq_append_getElem hi, List.filter_append, List.flatMap_append]
  simp [h]
theorem opnK_len {K : List Rule} {N i : Nat} {hw : Sym → Bool} (hr4 : ∀ r ∈ K, r.right.length ≤ 4) (hK : K.length ≤ 100) : (opnK K N hw i).length ≤ 700 := by
  have key : ∀ l : List Rule, (∀ r ∈ l, r.right.length ≤ 4) → (l.flatMap (opn N)).length ≤ 6 * l.length := by
    intro l
    induction l with
    | nil => intro _; simp
    | cons r l ih =>
      intro h
      have h1 := ih (fun r hr => h r (by simp [hr]))
      have h2 := h r (by simp)
      rw [List.flatMap_cons, List.length_append, List.length_cons]
      have h3 : (opn N r).length = r.right.length + 2 := by simp [opn]
      omega
  have h1 := key (KW (K.take i) hw) (fun r hr => hr4 r (List.mem_of_mem_take (mem_KW.1 hr).1))
  have h2 : (KW (K.take i) hw).length ≤ K.length := by
    unfold KW
    refine Nat.le_trans (List.length_filter_le _ _) ?_
    rw [List.length_take]; omega
  unfold opnK
  rw [List.length_append]
  omega
def hdK (N : Nat) (r : Rule) (p : Nat) : List Rule := [⟨r.left + N, []⟩, ⟨r.left + N, r.right⟩] ++ (List.range p).map fun q => ⟨r.left + N, headO N r q⟩
theorem hdK_succ (N : Nat) (r : Rule) (p : Nat) : hdK N r (p + 1) = hdK N r p ++ [⟨r.left + N, headO N r p⟩] := by
  unfold hdK
  rw [List.range_succ, List.map_append, ← List.append_assoc]; rfl
theorem hdK_all (N : Nat) (r : Rule) : hdK N r r.right.length = opn N r := rfl
set_option maxHeartbeats 16000000 in
set_option maxRecDepth 100000 in
theorem openE (K : List Rule) (N tm st : Nat) (hN : N ≤ 10) (htm : tm ≤ 100) (hsN : st < N) (hK : KG N K (Hl.okS N tm)) (hr4 : ∀ r ∈ K, r.right.length ≤ 4) (hkl : K.length ≤ 100) (gt : Int) (ga : Option Addr) (gc : Nat) (W : World) (hgr : Rd AnyB W (.sl (K.map Rule.d)) [.slice ga K.length gc]) :
    Calls Try.prog 87 #[.agg #[.int .i64 gt, .int .i64 (N : Int), .int .i64 (st : Int), .slice ga K.length gc]] W (OpenPost K N tm gt (st : Int) W) := by
  obtain ⟨wa, HWA⟩ := nameIt ((W.alloc (.cells #[.int .i64 gt, .int .i64 (N : Int), .int .i64 (st : Int), .slice ga K.length gc] 24)).alloc (.cells #[.int .i64 0, .int .i64 0, .int .i64 0, .slice none 0 0] 24))
  have hwa : Below W.heap.size W wa := by rw [← HWA.out]; exact ((Below.refl _ _).alloc (Nat.le_refl _) _).alloc (by simp) _
  have HG0 : Hid (wa.heap[W.heap.size]? = some (.cells #[.int .i64 gt, .int .i64 (N : Int), .int .i64 (st : Int), .slice ga K.length gc] 24 (0, 0))) := by
    rw [← HWA.out]; exact bx_keep (bx_new _ _ _ rfl) ((Below.refl _ _).alloc (Nat.le_refl _) _)
  have HR0 : Hid (wa.heap[W.heap.size + 1]? = some (.cells #[.int .i64 0, .int .i64 0, .int .i64 0, .slice none 0 0] 24 (0, 0))) := by
    rw [← HWA.out]; exact bx_new _ _ _ (by simp)
  have HSA : Hid (wa.heap.size = W.heap.size + 1 + 1) := by show _ = _; rw [← HWA.out]; simp
  have hoks : ∀ s, Hl.okS N tm s → okN s.n := fun s hs => by
    obtain ⟨h1, h2, h3⟩ := hs
    cases ht : s.term with
    | true => have := h2 ht; exact ⟨h1, by omega⟩
    | false => have := h3 ht; exact ⟨h1, by omega⟩
  have HSH := Lib.hid (shortE K N tm hN htm hK hr4 gt (N : Int) (st : Int) ga gc wa (hgr.below hwa))
  have HFRF : Hid (∀ S W1 b w1 w2, ShT K N tm S → ShM W1 gt (N : Int) (st : Int) (.slice ga K.length gc) S b w1 → Below w1.heap.size w1 w2 → FreeFn 48 #[.pointer (some ⟨b, 0, none⟩)] (svOf K N tm) (Hl.okS N tm) (fun k => W1.heap.size ≤ k ∧ k < w1.heap.size) w2) := by
    intro S W1 b w1 w2 hS hM hb12 W' y hy hb
    obtain ⟨hcg, hjs, hcl⟩ := hS
    have := freeE hM (Hl.okS N tm) hoks W' y hy (hb12.trans (hb.mono hb12.size))
    rw [show (fun y => ofT leafS S y 0 0) y = svOf K N tm y from sv_eqT hcg hcl y] at this
    exact this
  have HTN : Hid (∀ S, ShT K N tm S → ∀ s : Sym, (!(svOf K N tm s).isSome) = !(hwS (hwOf K N tm) s)) := by
    intro S hS s
    obtain ⟨hcg, hjs, hcl⟩ := hS
    unfold hwS hwOf
    cases ht : s.term with
    | true => rw [(svOk hN hcg hjs hcl).tn s ht]; rfl
    | false => simp
  have HGR : Hid (Rd (fun k => k < W.heap.size) wa (.sl (K.map Rule.d)) [.slice ga K.length gc]) := (hgr.mono (S' := fun k => k < W.heap.size) (fun k _ hl => hl)).below hwa
  have HKO := Lib.hid hK
  have HR4 := Lib.hid hr4
  have HWa := Lib.hid hwa
  obtain ⟨PST, HP⟩ := nameIt (OpenPost K N tm gt (st : Int) W)
  obtain ⟨hw, HHW⟩ := nameIt (hwOf K N tm)
  obtain ⟨sv, HSV⟩ := nameIt (svOf K N tm)
  have hn2 : IntKind.i64.wrap (2 * (N : Int)) = ((2 * N : Nat) : Int) := by rw [IntWalk.i64_in _ (by omega)]; omega
  obtain ⟨n2, HN2⟩ := nameIt ((2 * N : Nat) : Int)
  obtain ⟨s2, HS2⟩ := nameIt ((st : Int) + (N : Int))
  have hs2 : IntKind.i64.wrap ((st : Int) + (N : Int)) = s2 := by rw [IntWalk.i64_in _ (by omega)]; exact HS2.out
  rw [HN2.out] at hn2
  have HFIN : Hid (∀ S a c w', ShT K N tm S → Rd AnyB w' (.sl ((KO K N hw).map Rule.d)) [.slice a (KO K N hw).length c] → Below W.heap.size W w' → PST (.returned (.agg #[.int .i64 gt, .int .i64 n2, .int .i64 s2, .slice a (KO K N hw).length c])) w') := by
    intro S a c w' h1 h2 h3
    rw [← HP.out]
    rw [← HHW.out] at h2 ⊢
    rw [← HN2.out, ← HS2.out]
    exact ⟨S, a, c, h1, rfl, h2, h3⟩
  rw [HSV.out, HHW.out] at HTN
  rw [HSV.out] at HFRF
  rw [HP.out]
  obtain ⟨kn, HKN⟩ := nameIt K.length
  rw [HKN.out] at HWA HG0 HSH HFRF HGR hkl
  rw [HKN.out]
  clear hwa hgr hoks hK hr4 HP HHW HSV
  go_enter Try.func87, Try.ntmps87
  go_upto_region 1 with fail
  rw [HWA.out]
  clear HWA
  obtain ⟨x0, x1, x2, x3⟩ := bx_cells4 HG0.out
  go_wp2_with fail
  refine HSH.out.mono ?_
  rintro e w1 ⟨S, W1, b, rfl, hS, hM, hb1, hb01⟩
  clear x0 x1 x2 x3 HSH
  obtain ⟨w2, HW2⟩ := nameIt (w1.alloc (.cells #[.func (.func 48) #[] #[.pointer (some ⟨b, 0, none⟩)]] 41))
  have hw2 : Below w1.heap.size w1 w2 := by rw [← HW2.out]; exact (Below.refl _ _).alloc (Nat.le_refl _) _
  have HF0 : Hid (w2.heap[w1.heap.size]? = some (.cells #[.func (.func 48) #[] #[.pointer (some ⟨b, 0, none⟩)]] 41 (0, 0))) := by rw [← HW2.out]; exact bx_new _ _ _ rfl
  have HB2 : Hid (Below wa.heap.size wa w2) := hb01.trans (hw2.mono hb01.size)
  have HFR := Lib.hid (HFRF.out S W1 b w1 w2 hS hM hw2)
  have HSS := Lib.hid hS
  have HTS := Lib.hid (HTN.out S hS)
  obtain ⟨fq, HFQ⟩ := nameIt w1.heap.size
  rw [HFQ.out] at HF0
  clear hS hM hb1 hb01 hw2 HFRF HTN
  go_upto_region 2 with fail
  rw [HW2.out, HFQ.out]
  clear HW2
  have HGB := Lib.hid (bx_keep HG0.out HB2.out)
  have HRB := Lib.hid (bx_keep HR0.out HB2.out)
  obtain ⟨x0, x1, x2, x3⟩ := bx_cells4 HGB.out
  obtain ⟨w3, HW3⟩ := nameIt (w2.alloc (.cells #[.int .i64 gt, .int .i64 n2, .int .i64 s2, .slice none 0 0] 24))
  have hb3 : Below w2.heap.size w2 w3 := by rw [← HW3.out]; exact (Below.refl _ _).alloc (Nat.le_refl _) _
  have hx3 : w3.heap[w2.heap.size]? = some (.cells #[.int .i64 gt, .int .i64 n2, .int .i64 s2, .slice none 0 0] 24 (0, 0)) := by rw [← HW3.out]; exact bx_new _ _ _ rfl
  have HSZ3 : Hid (w3.heap.size = w2.heap.size + 1) := by show _ = _; rw [← HW3.out]; simp
  have HBW3 : Hid (Below W.heap.size W w3) := HWa.out.trans ((HB2.out.trans (hb3.mono HB2.out.size)).mono HWa.out.size)
  have HB23 := Lib.hid hb3
  have HGR2 := Lib.hid (HGR.out.below HB2.out)
  have HGR3 := Lib.hid (HGR2.out.below hb3)
  have HWG : Hid (W.heap.size + 2 ≤ w2.heap.size) := by show _ ≤ _; have h1 := HSA.out; have h2 := HB2.out.size; omega
  have HO0 : Hid (ORow W w2.heap.size gt n2 s2 [] (.slice none 0 0) w3) := ⟨hx3, RowD.nil _ _ _ _ _ (Nat.le_of_eq HSZ3.out.symm), HBW3.out, by have := HWG.out; omega⟩
  have HFB : Hid (fq < w2.heap.size) := bx_lt HF0.out
  obtain ⟨gb, HGBN⟩ := nameIt w2.heap.size
  rw [HGBN.out] at hx3 HSZ3 HO0 HWG HFB
  clear hb3
  go_upto_region 3 with fail
  rw [HW3.out, HGBN.out]
  clear HW3 x0 x1 x2 x3
  obtain ⟨x0, x1, x2, x3⟩ := bx_cells4 (bx_keep HGB.out HB23.out)
  obtain ⟨y0, y1, y2, y3⟩ := bx_cells4 hx3
  clear hx3
  have HM0 : Hid ((K.map Rule.d).length = kn) := by show _ = _; rw [List.length_map]; exact HKN.out
  go_wp2_with (at_builtin; refine wp_appD elRule rfl _ _ rfl (World.ownsRow_nil w3 (gb + 1) 69 2) rfl HGR3.out rfl (rules_cells K) (by rw [HM0.out]; omega) (by rw [HM0.out]; unfold maxLen; omega) (by have := HSZ3.out; omega) ?_)
  intro v' w4 L hd ho hg hat
  have hst := ORow.step (es := K) HO0.out rfl (World.ownsRow_nil w3 (gb + 1) 69 2) (by simp [RdAll]) hd (fun k hk _ => ⟨.inl hk, by simp [Value.ownBlock]⟩) (by simpa using ho) hg hat
  rw [HKN.out] at ho
  obtain ⟨a', c', rfl, -, -⟩ := own_len ho
  obtain ⟨hbx, hst⟩ := hst
  have hg4 : Below w2.heap.size w2 w4 := HB23.out.trans (below_grown hg (Nat.le_trans HB23.out.size (Nat.le_refl _)) (fun k e => by cases e))
  have HB4 := Lib.hid (hg4.setCell (p := ⟨gb, 3, none⟩) (by rw [← HGBN.out]; exact Nat.le_refl _) (.slice a' kn c'))
  rw [List.nil_append, ← opnK_zero K N hw] at hst
  have HST := Lib.hid hst
  obtain ⟨z0, z1, z2, z3⟩ := bx_cells4 hbx
  obtain ⟨f0, f1, f2, f3⟩ := bx_free4 hbx
  clear hd ho hg hat hbx hst hg4 y0 y1 y2 y3
  go_upto_region 4 with fail
  obtain ⟨w5, HW5⟩ := nameIt (w4.setCell ⟨gb, 3, none⟩ (.slice a' kn c'))
  rw [HW5.out] at HST HB4
  rw [HW5.out]
  clear HW5 z0 z1 z2 z3 f0 f1 f2 f3 x0 x1 x2 x3
  obtain ⟨x0, x1, x2, x3⟩ := bx_cells4 (bx_keep HGB.out HB4.out)
  go_wp2_with fail
  go_loopg [6, 7, 8, 9, 10, 33] kn (fun gg v6 v7 v8 v9 v10 v33 wr => ∃ (i : Nat) (vr : Value), i ≤ kn ∧ kn - i ≤ gg ∧ v33 = .int .i64 (i : Int) ∧ Hid (ORow W gb gt n2 s2 (opnK K N hw i) vr wr) ∧ Hid (Below w2.heap.size w2 wr))
  case atStart => exact ⟨0, _, by omega, by omega, rfl, HST, HB4⟩
  case round =>
    clear x0 x1 x2 x3 HST HB4 HO0 HGR3 HBW3 HB23
    obtain ⟨i, vr, hi, hgg, rfl, HO, HBR⟩ := hrel
    obtain ⟨w0, rfl⟩ : ∃ ww : World, ww = wr := ⟨_, rfl⟩
    by_cases hik : i < kn
    · have hik' : (i : Int) < (kn : Int) := by omega
      have hiK : i < K.length := by rw [HKN.out]; exact hik
      have hlen := opnK_len (N := N) (hw := hw) (i := i) HR4.out (by rw [HKN.out]; exact hkl)
      obtain ⟨ar, cr, hvr, hcr1, hcr2, hvb⟩ := HO.out.row.form
      rw [List.length_map] at hvr hcr1
      subst hvr
      unfold maxLen at hcr2
      obtain ⟨bk, ro, v, hae, -, hbk, s0, s1, hrr⟩ := (HGR2.out.below HBR.out).rule_at hiK
      obtain ⟨av, cv, rfl, hv1, hv2⟩ := hrr.form
      unfold maxLen at hv2
      have hrl := HR4.out _ (List.getElem_mem hiK)
      obtain ⟨hl1, hl2, hl3⟩ := HKO.out _ (List.getElem_mem hiK)
      have HNO := Lib.hid (opnK_no (N := N) (hw := hw) hiK)
      have HYES := Lib.hid (opnK_yes (N := N) (hw := hw) hiK)
      obtain ⟨r, HRN⟩ := nameIt (K[i]'hiK)
      rw [HRN.out] at s0 s1 hrr hrl hl1 hl2 hl3 HNO HYES
      rw [HRN.out, List.length_map] at hv1
      rw [List.length_map] at s1 hrr
      clear HRN
      obtain ⟨lf, RL⟩ := r
      dsimp only at s0 s1 hrr hrl hl1 hl2 hl3 hv1 HNO HYES
      have HRR : Hid (∀ w', Below w2.heap.size w2 w' → Rd (fun k => k < W.heap.size) w' (.sl (RL.map Sym.d)) [.slice av RL.length cv]) := fun w' hb' => Rd.keep (fun k hk _ => ⟨hk, (hb'.block k (by have := HWG.out; have := HGBN.out; omega)).trans (HBR.out.block k (by have := HWG.out; have := HGBN.out; omega)).symm⟩) _ _ hrr
      obtain ⟨w5, HW5⟩ := nameIt (w0.alloc (.cells #[.int .i64 lf, .slice av RL.length cv] 69))
      have hb5 : Below w0.heap.size w0 w5 := by rw [← HW5.out]; exact (Below.refl _ _).alloc (Nat.le_refl _) _
      have X5 : Hid (w5.heap[w0.heap.size]? = some (.cells #[.int .i64 lf, .slice av RL.length cv] 69 (0, 0))) := by rw [← HW5.out]; exact bx_new _ _ _ rfl
      have HB25 : Hid (Below w2.heap.size w2 w5) := HBR.out.trans (hb5.mono HBR.out.size)
      have hany : RL.any (fun y => !(sv y).isSome) = !(RL.all (hwS hw)) := by
        rw [show (fun y => !(sv y).isSome) = fun y => !(hwS hw y) from funext HTS.out]
        exact (List.not_all_eq_any_not).symm
      have hcf := containsFuncSym 106 #[.pointer (some ⟨fq, 0, none⟩)] (fun y => !(sv y).isSome) av cv RL w5 eg87a (open1E 48 #[.pointer (some ⟨b, 0, none⟩)] eg48 sv (Hl.okS N tm) (fun k => W1.heap.size ≤ k ∧ k < w1.heap.size) fq w2 HF0.out HFR.out RL hl3 w5 HB25.out) ((hrr.below hb5).mono (fun _ _ _ => trivial))
      rw [hany] at hcf
      have HCF := Lib.hid hcf
      have HO5 := Lib.hid (HO.out.keep hb5)
      have HQ6 : Hid (gb < w0.heap.size) := bx_lt HO.out.out
      obtain ⟨cb, HCB⟩ := nameIt (RL.all (hwS hw))
      rw [HCB.out] at HCF HNO HYES
      obtain ⟨rn, HRN⟩ := nameIt RL.length
      rw [HRN.out] at s1 hrl hv1 HRR HW5 X5 HCF
      obtain ⟨q6, HQN⟩ := nameIt w0.heap.size
      have HVB6 : Hid (∀ k, (Value.slice ar (opnK K N hw i).length cr).ownBlock = some k → k ≠ q6) := fun k e => by have := (hvb k e).2; have := HQN.out; omega
      rw [HQN.out] at X5 HQ6
      have HQS : Hid (q6 < w5.heap.size) := bx_lt X5.out
      subst hae
      clear hrr hb5 hany hcf hvb
      go_upto_region 7 with fail
      rw [HW5.out, HQN.out]
      clear HW5 s0 s1
      obtain ⟨r0, r1⟩ := bx_cells2 X5.out
      go_wp2_with fail
      refine HCF.out.mono ?_
      rintro e w6 ⟨rfl, hb6⟩
      have HB26 : Hid (Below w2.heap.size w2 w6) := HB25.out.trans (hb6.mono HB25.out.size)
      have HO6 := Lib.hid (HO5.out.keep hb6)
      have X6 := Lib.hid (bx_keep X5.out hb6)
      have HS56 := Lib.hid hb6.size
      clear hb6 r0 r1
      cases cb with
      | false =>
        have HO' : Hid (ORow W gb gt n2 s2 (opnK K N hw (i + 1)) (.slice ar (opnK K N hw i).length cr) w6) := by rw [HNO.out rfl]; exact HO6.out
        go_wp2_with fail
        go_roundg (kn - (i + 1))
        case measure => omega
        case rel => exact ⟨i + 1, _, by omega, by omega, by go_num, HO', HB26⟩
      | true =>
        obtain ⟨l2, HL2⟩ := nameIt (lf + (N : Int))
        have hwl : IntKind.i64.wrap (lf + (N : Int)) = l2 := by rw [IntWalk.i64_in _ (by omega)]; exact HL2.out
        obtain ⟨x0, x1, x2, x3⟩ := bx_cells4 (bx_keep HGB.out HB26.out)
        obtain ⟨r0, r1⟩ := bx_cells2 X6.out
        go_upto_region 9 with fail
        clear x0 x1 x2 x3 r0 r1
        obtain ⟨xs, hown, hdat⟩ := HO6.out.row.own
        rw [List.length_map] at hown
        have HVGE : Hid (∀ k, (Value.slice ar (opnK K N hw i).length cr).ownBlock = some k → gb + 1 ≤ k ∧ k < w6.heap.size) := hown.lt
        obtain ⟨m, HM⟩ := nameIt (opnK K N hw i).length
        rw [HM.out] at hown hdat hlen HVGE HO6 HVB6
        obtain ⟨w7, HW7⟩ := nameIt (w6.alloc (.cells #[.int .i64 l2, .slice none 0 0, .int .i64 l2, .slice av rn cv] 69))
        have hb7 : Below w6.heap.size w6 w7 := by rw [← HW7.out]; exact (Below.refl _ _).alloc (Nat.le_refl _) _
        have X7 : w7.heap[w6.heap.size]? = some (.cells #[.int .i64 l2, .slice none 0 0, .int .i64 l2, .slice av rn cv] 69 (0, 0)) := by rw [← HW7.out]; exact bx_new _ _ _ rfl
        have HO7 := Lib.hid (HO6.out.keep hb7)
        have HOW := Lib.hid (own_keep hown hb7)
        have HDA := Lib.hid (hdat.below hb7)
        have HB27 : Hid (Below w2.heap.size w2 w7) := HB26.out.trans (hb7.mono HB26.out.size)
        have HRR7 := Lib.hid (HRR.out w7 HB27.out)
        have HL7 : Hid (Rd (fun k => k < W.heap.size ∨ k = w6.heap.size) w7 (.sl ([(⟨l2, []⟩ : Rule), ⟨l2, RL⟩].map Rule.d)) [.slice (some ⟨w6.heap.size, 0, none⟩) 2 2]) := by
          refine rd_lit X7 rfl (rules_cells _) ?_ (.inr rfl) (by simp [maxLen])
          refine ⟨[.int .i64 l2, .slice none 0 0], [.int .i64 l2, .slice av rn cv], rfl, rd_rule (r := ⟨l2, []⟩) ⟨none, 0, [], rfl, by simp, by simp [maxLen], fun _ => rfl, fun i hi => by simp at hi, rfl⟩, RdAll.one (rd_rule (r := ⟨l2, RL⟩) (HRR7.out.mono fun k hk _ => .inl hk))⟩
        obtain ⟨r0, r1⟩ := bx_cells2 X6.out
        obtain ⟨y0, y1, y2, y3⟩ := bx_cells4 HO6.out.out
        have X67 := Lib.hid (bx_keep X6.out hb7)
        have HS67 := Lib.hid hb7.size
        have HQ67 : Hid (w6.heap.size < w7.heap.size) := bx_lt X7
        have HQ27 : Hid (w2.heap.size ≤ w6.heap.size) := HB26.out.size
        have HQW : Hid (q6 < w6.heap.size) := bx_lt X6.out
        go_wp2_with (at_builtin; rw [HW7.out]; refine wp_appD elRule rfl _ _ rfl HOW.out rfl HL7.out rfl (rules_cells _) (by simp; omega) (by simp [maxLen]; omega) (by have := HQ67.out; have := HQ6.out; have := HQW.out; omega) ?_)
        intro v' w8 L hd ho hg hat
        have hst := ORow.step (es := [(⟨l2, []⟩ : Rule), ⟨l2, RL⟩]) HO7.out HM.out.symm HOW.out HDA.out hd (fun k hk _ => by
          have h1 := HWG.out
          have h2 := HQ6.out
          have h3 := HQW.out
          rcases hk with hk | hk
          · exact ⟨.inl hk, fun e => by have := (HVGE.out k e).1; omega⟩
          · exact ⟨.inr (by omega), fun e => by have := (HVGE.out k e).2; omega⟩) (by simpa using ho) hg hat
        obtain ⟨hbx, hst⟩ := hst
        have hg8 : Below w2.heap.size w2 (w8.setCell ⟨gb, 3, none⟩ v') := (HB27.out.grown hg (HB27.out.size) (fun k e => by have := (HVGE.out k e).1; have := HGBN.out; omega)).setCell (p := ⟨gb, 3, none⟩) (by rw [← HGBN.out]; exact Nat.le_refl _) v'
        have hq8 : (w8.setCell ⟨gb, 3, none⟩ v').heap[q6]? = some (.cells #[.int .i64 lf, .slice av rn cv] 69 (0, 0)) := by
          refine bx_other ((hg.block q6 (by have := HQ67.out; have := HQW.out; omega) (fun e => HVB6.out q6 e.symm rfl)).trans X67.out) (by have := HQ6.out; omega) _ _
        have hv8 : ∀ k, v'.ownBlock = some k → k ≠ q6 := fun k e => by
          rcases hat with h | ⟨k', h, h2⟩
          · exact HVB6.out k (h.symm.trans e)
          · rw [e] at h; cases h; have := HQ67.out; have := HQW.out; omega
        obtain ⟨a', c', rfl, -, -⟩ := own_len ho
        obtain ⟨z0, z1, z2, z3⟩ := bx_cells4 hbx
        obtain ⟨f0, f1, f2, f3⟩ := bx_free4 hbx
        obtain ⟨w9, HW9⟩ := nameIt (w8.setCell ⟨gb, 3, none⟩ (.slice a' (m + 2) c'))
        rw [HW9.out] at hst hg8 hq8
        have HST := Lib.hid hst
        have HB29 := Lib.hid hg8
        have X9 := Lib.hid hq8
        have HV9 := Lib.hid hv8
        clear hd ho hg hat hbx hst hg8 hq8 hv8 r0 r1 y0 y1 y2 y3 hown hdat hb7 X7
        go_upto_region 10 with fail
        rw [HW9.out]
        clear HW9 HO7 HOW HDA HL7 HRR7 HB27 X67 HS67 HQ67 HO6 HVB6 HVGE
        obtain ⟨r0, r1⟩ := bx_cells2 X9.out
        go_wp2_with fail
        obtain ⟨B, HBB⟩ := nameIt (opnK K N hw i)
        rw [HBB.out] at HST HYES
        go_loopg [8, 9, 10, 60] rn (fun gg v8 v9 v10 v60 wr => ∃ (p : Nat) (vr : Value), p ≤ rn ∧ rn - p ≤ gg ∧ v60 = .int .i64 (p : Int) ∧ Hid (ORow W gb gt n2 s2 (B ++ hdK N ⟨lf, RL⟩ p) vr wr) ∧ Hid (Below w2.heap.size w2 wr) ∧ Hid (wr.heap[q6]? = some (.cells #[.int .i64 lf, .slice av rn cv] 69 (0, 0))) ∧ Hid (∀ k, vr.ownBlock = some k → k ≠ q6))
        case atStart => exact ⟨0, _, by omega, by omega, rfl, by rw [← HL2.out] at HST; exact HST.out, HB29, X9, HV9⟩
        case round =>
          clear r0 r1 HST HB29 X9 HV9
          obtain ⟨p, vr, hp, hgg2, rfl, HOP, HBP, XP, HVP⟩ := hrel
          by_cases hpr : p < rn
          · have hpr' : (p : Int) < (rn : Int) := by omega
            have hpL : p < RL.length := by rw [HRN.out]; exact hpr
            obtain ⟨wq, rfl⟩ : ∃ ww : World, ww = wr := ⟨_, rfl⟩
            have hhl : (B ++ hdK N ⟨lf, RL⟩ p).length ≤ 800 := by
              rw [List.length_append, ← HBB.out]
              have : (hdK N ⟨lf, RL⟩ p).length = p + 2 := by simp [hdK]
              rw [HM.out, this]; omega
            have HHS := Lib.hid (hdK_succ N ⟨lf, RL⟩ p)
            obtain ⟨ar2, cr2, hvr2, hcr3, hcr4, hvb2⟩ := HOP.out.row.form
            rw [List.length_map] at hvr2 hcr3
            subst hvr2
            unfold maxLen at hcr4
            have hrd := HRR.out wq HBP.out
            have hrt : Rd AnyB wq (.sl ((RL.take p).map Sym.d)) [.slice av p cv] := by
              rw [List.map_take]
              exact (rd_take hrd (by omega)).mono (fun _ _ _ => trivial)
            obtain ⟨sb, so, hae2, -, hsb, t0, t1⟩ := hrd.sym_at hpL
            have hyo := hl3 _ (List.getElem_mem hpL)
            have hho : headO N ⟨lf, RL⟩ p = if RL[p].term then RL.take p else RL.take p ++ [⟨false, RL[p].n + N⟩] := by
              unfold headO
              rw [show (⟨lf, RL⟩ : Rule).right[p]? = some RL[p] from List.getElem?_eq_getElem hpL]
            obtain ⟨y, HY⟩ := nameIt (RL[p]'hpL)
            rw [HY.out] at t0 t1 hyo hho
            obtain ⟨yt, yn⟩ := y
            dsimp only at t0 t1 hho
            obtain ⟨hy1, -, hy3⟩ := hyo
            dsimp only at hy1 hy3
            obtain ⟨wb, HWB⟩ := nameIt (wq.alloc (.cells #[.bool yt, .int .i64 yn] 44))
            have hbb : Below wq.heap.size wq wb := by rw [← HWB.out]; exact (Below.refl _ _).alloc (Nat.le_refl _) _
            have XB : Hid (wb.heap[wq.heap.size]? = some (.cells #[.bool yt, .int .i64 yn] 44 (0, 0))) := by rw [← HWB.out]; exact bx_new _ _ _ rfl
            have HSB : Hid (wb.heap.size = wq.heap.size + 1) := by show _ = _; rw [← HWB.out]; simp
            have hpl : (RL.take p).length = p := by rw [List.length_take]; omega
            have hcl := cloneRow (RL.take p) av cv wb (by
              have := hrt.below hbb
              rw [hpl]
              exact this) (by omega)
            simp only [hpl] at hcl
            have HCL := Lib.hid hcl
            subst hae2
            have hsl : ∀ W : World, (Instr.slice 47 (.slice (some ⟨sb, so, none⟩) rn cv) none (some (.int .i64 (p : Int))) none).run Try.prog W = .ok (.slice (some ⟨sb, so, none⟩) p cv) W := fun W => by
              have hs := run_slice_h (P := Try.prog) W 47 (some ⟨sb, so, none⟩) rn cv (by kernel_rfl) .i64 (p : Int) (by omega) (by omega)
              rw [hs]
              simp [sliced, go_sem]
            have HBP2 : Hid (Below w2.heap.size w2 wb) := HBP.out.trans (hbb.mono HBP.out.size)
            have XPB := Lib.hid (bx_keep XP.out hbb)
            have HHO := Lib.hid hho
            have HPL := Lib.hid hpl
            have HVB := Lib.hid hvb2
            have HBQ := Lib.hid hbb
            have HGQ : Hid (gb < wq.heap.size) := bx_lt HOP.out.out
            obtain ⟨qy, HQY⟩ := nameIt wq.heap.size
            rw [HQY.out] at XB HSB
            clear hrd hrt hbb hcl hpl hho hvb2 HY
            go_upto_region 13 with fail
            rw [HWB.out, HQY.out]
            clear t0 t1
            obtain ⟨r0, r1⟩ := bx_cells2 XPB.out
            go_wp2_with fail
            refine HCL.out.mono ?_
            rintro e wd ⟨ha, hc, rfl, hrow, hbd⟩
            have XYD := Lib.hid (bx_keep XB.out hbd)
            have HBD := Lib.hid hbd
            have HRW := Lib.hid hrow
            have HB2D : Hid (Below w2.heap.size w2 wd) := HBP2.out.trans (hbd.mono HBP2.out.size)
            obtain ⟨hn, HHN⟩ := nameIt (headO N ⟨lf, RL⟩ p).length
            clear hrow hbd r0 r1 hsl
            obtain ⟨s0, s1⟩ := bx_cells2 XYD.out
            go_upto_if 72 with fail
            go_cut [10] (fun v10 wx => ∃ (a : Option Addr) (c : Nat), v10 = .slice a hn c ∧ Hid (RowD (fun _ => False) wb.heap.size 44 2 ((headO N ⟨lf, RL⟩ p).map Sym.d) (.slice a hn c) wx) ∧ Hid (Below wb.heap.size wb wx))
            case first =>
              cases yt with
              | true =>
                have hh : headO N ⟨lf, RL⟩ p = RL.take p := by rw [HHO.out]; rfl
                have hn1 : hn = p := by rw [← HHN.out, hh]; exact HPL.out
                have HRW2 : Hid (RowD (fun _ => False) wb.heap.size 44 2 ((headO N ⟨lf, RL⟩ p).map Sym.d) (.slice ha p hc) wd) := by rw [hh]; exact HRW.out
                clear hh
                go_wp2_with fail
                go_meet
                exact ⟨ha, hc, by rw [hn1], by rw [hn1]; exact HRW2, HBD⟩
              | false =>
                have hh : headO N ⟨lf, RL⟩ p = RL.take p ++ [⟨false, yn + N⟩] := by rw [HHO.out]; rfl
                have hn1 : hn = p + 1 := by rw [← HHN.out, hh, List.length_append, HPL.out]; rfl
                obtain ⟨y2, HY2⟩ := nameIt (yn + (N : Int))
                have hwy : IntKind.i64.wrap (yn + (N : Int)) = y2 := by have := hy3 rfl; rw [IntWalk.i64_in _ (by omega)]; exact HY2.out
                obtain ⟨x0, x1, x2, x3⟩ := bx_cells4 (bx_keep HGB.out HB2D.out)
                obtain ⟨ys, ho1, hd1⟩ := HRW.out.own
                rw [List.length_map, HPL.out] at ho1
                obtain ⟨we, HWE⟩ := nameIt (wd.alloc (.cells #[.bool false, .int .i64 y2] 44))
                have hbe : Below wd.heap.size wd we := by rw [← HWE.out]; exact (Below.refl _ _).alloc (Nat.le_refl _) _
                have xe : we.heap[wd.heap.size]? = some (.cells #[.bool false, .int .i64 y2] 44 (0, 0)) := by rw [← HWE.out]; exact bx_new _ _ _ rfl
                have HLE : Hid (Rd AnyB we (.sl ([(⟨false, y2⟩ : Sym)].map Sym.d)) [.slice (some ⟨wd.heap.size, 0, none⟩) 1 1]) := rd_lit xe rfl (syms_cells _) (RdAll.one (rd_sym ⟨false, y2⟩)) trivial (by simp [maxLen])
                have HOE := Lib.hid (own_keep ho1 hbe)
                have HBE := Lib.hid (HBD.out.trans (hbe.mono HBD.out.size))
                have HYS : Hid (∀ wf : World, RdAll (fun _ => False) wf (((RL.take p) ++ [(⟨false, y2⟩ : Sym)]).map Sym.d) (ys ++ [.bool false, .int .i64 y2])) := by
                  intro wf
                  rw [List.map_append]
                  exact RdAll.append (Gs.symsW hd1) (RdAll.one (rd_sym ⟨false, y2⟩))
                rw [HY2.out] at hh
                have HH2 := Lib.hid hh
                have HN1 := Lib.hid hn1
                clear ho1 hd1 hbe xe hh hn1
                go_wp2_with (at_builtin; rw [HWE.out]; refine wp_appD elSym rfl _ _ rfl HOE.out rfl HLE.out rfl (syms_cells _) (by simp; omega) (by simp [maxLen]; omega) (by have := HBE.out.size; omega) ?_)
                intro v' wf L hd ho hg hat
                have hL : L = [.bool false, .int .i64 y2] := (RdAll.one_iff.1 hd).sym
                subst hL
                obtain ⟨a', c', rfl, -, -⟩ := own_len ho
                have HRW2 : Hid (RowD (fun _ => False) wb.heap.size 44 2 ((headO N ⟨lf, RL⟩ p).map Sym.d) (.slice a' (p + 1) c') wf) := by
                  rw [HH2.out]
                  exact ⟨⟨_, by rw [List.length_map, List.length_append, HPL.out]; exact ho, (HYS.out wf).mono (fun k h _ => h.elim)⟩, by have := HBE.out.size; have := hg.size; omega⟩
                have HBF : Hid (Below wb.heap.size wb wf) := HBE.out.grown hg HBE.out.size (fun k e => (HOE.out.lt k e).1)
                clear hd ho hg hat x0 x1 x2 x3
                go_wp2_with fail
                go_meet
                exact ⟨a', c', by rw [HN1.out], by rw [HN1.out]; exact HRW2, HBF⟩
            case rest =>
            obtain ⟨ha2, hc2, rfl, HRX, HBX⟩ := hcut
            have hbx2 : Below wq.heap.size wq wc := HBQ.out.trans (HBX.out.mono HBQ.out.size)
            have HBX2 : Hid (Below w2.heap.size w2 wc) := HBP.out.trans (hbx2.mono HBP.out.size)
            have HOX := HOP.out.keep hbx2
            have XPX := bx_keep XP.out hbx2
            obtain ⟨xs, hown, hdat⟩ := HOX.row.own
            rw [List.length_map] at hown
            have HVGE : Hid (∀ k, (Value.slice ar2 (B ++ hdK N ⟨lf, RL⟩ p).length cr2).ownBlock = some k → gb + 1 ≤ k ∧ k < wb.heap.size) := fun k e => by
              have h1 := HVB.out k e
              have h2 := HSB.out
              have h3 := HQY.out
              omega
            obtain ⟨m2, HM2⟩ := nameIt (B ++ hdK N ⟨lf, RL⟩ p).length
            rw [HM2.out] at hown hdat hhl HVGE HOX HVP
            obtain ⟨wg, HWG2⟩ := nameIt (wc.alloc (.cells #[.int .i64 l2, .slice ha2 hn hc2] 69))
            have hbg : Below wc.heap.size wc wg := by rw [← HWG2.out]; exact (Below.refl _ _).alloc (Nat.le_refl _) _
            have xg : wg.heap[wc.heap.size]? = some (.cells #[.int .i64 l2, .slice ha2 hn hc2] 69 (0, 0)) := by rw [← HWG2.out]; exact bx_new _ _ _ rfl
            have HOG := Lib.hid (HOX.keep hbg)
            have HOW := Lib.hid (own_keep hown hbg)
            have HDA := Lib.hid (hdat.below hbg)
            have HBG : Hid (Below w2.heap.size w2 wg) := HBX2.out.trans (hbg.mono HBX2.out.size)
            have HLG : Hid (Rd (fun k => wb.heap.size ≤ k) wg (.sl ([(⟨l2, headO N ⟨lf, RL⟩ p⟩ : Rule)].map Rule.d)) [.slice (some ⟨wc.heap.size, 0, none⟩) 1 1]) :=
              rd_lit xg rfl (rules_cells _) (RdAll.one (rd_rule (r := ⟨l2, headO N ⟨lf, RL⟩ p⟩) ((HRX.out.rd.below hbg).mono (fun k hk _ => hk.elim (fun h => h.elim) id)))) HBX.out.size (by simp [maxLen])
            have XPG := Lib.hid (bx_keep XPX hbg)
            have HSX : Hid (wb.heap.size ≤ wc.heap.size ∧ wc.heap.size < wg.heap.size ∧ q6 < qy ∧ gb < qy ∧ wb.heap.size = qy + 1) := by
              have h1 := HBX.out.size
              have h2 := bx_lt xg
              have h3 := bx_lt XP.out
              have h4 := HGQ.out
              have h5 := HQY.out
              have h6 := HSB.out
              refine ⟨h1, h2, by omega, by omega, h6⟩
            obtain ⟨y0, y1, y2, y3⟩ := bx_cells4 HOX.out
            clear hbx2 hown hdat hbg xg XPX s0 s1
            go_wp2_with (at_builtin; rw [HWG2.out]; refine wp_appD elRule rfl _ _ rfl HOW.out rfl HLG.out rfl (rules_cells _) (by simp; omega) (by simp [maxLen]; omega) (by have := HSX.out; omega) ?_)
            intro v' w8 L hd ho hg hat
            have hst := ORow.step (es := [(⟨l2, headO N ⟨lf, RL⟩ p⟩ : Rule)]) HOG.out HM2.out.symm HOW.out HDA.out hd (fun k hk _ => by
              have h1 := HSX.out
              have hk2 : wb.heap.size ≤ k := hk
              exact ⟨.inr (by omega), fun e => by have := (HVGE.out k e).2; omega⟩) (by simpa using ho) hg hat
            obtain ⟨hbx, hst⟩ := hst
            have hg8 : Below w2.heap.size w2 (w8.setCell ⟨gb, 3, none⟩ v') := (HBG.out.grown hg (HBG.out.size) (fun k e => by have := (HVGE.out k e).1; have := HGBN.out; omega)).setCell (p := ⟨gb, 3, none⟩) (by rw [← HGBN.out]; exact Nat.le_refl _) v'
            have hq8 : (w8.setCell ⟨gb, 3, none⟩ v').heap[q6]? = some (.cells #[.int .i64 lf, .slice (some ⟨sb, so, none⟩) rn cv] 69 (0, 0)) := by
              refine bx_other ((hg.block q6 (by have := HSX.out; omega) (fun e => HVP.out q6 e.symm rfl)).trans XPG.out) (by have := HQ6.out; omega) _ _
            have hv8 : ∀ k, v'.ownBlock = some k → k ≠ q6 := fun k e => by
              rcases hat with h | ⟨k', h, h2⟩
              · exact HVP.out k (h.symm.trans e)
              · rw [e] at h; cases h; have := HSX.out; omega
            obtain ⟨a', c', rfl, -, -⟩ := own_len ho
            obtain ⟨z0, z1, z2, z3⟩ := bx_cells4 hbx
            obtain ⟨f0, f1, f2, f3⟩ := bx_free4 hbx
            have hll : B ++ hdK N ⟨lf, RL⟩ p ++ [(⟨l2, headO N ⟨lf, RL⟩ p⟩ : Rule)] = B ++ hdK N ⟨lf, RL⟩ (p + 1) := by
              rw [HHS.out, List.append_assoc, ← HL2.out]
            rw [hll] at hst
            have HST := Lib.hid hst
            have HB29 := Lib.hid hg8
            have X9 := Lib.hid hq8
            have HV9 := Lib.hid hv8
            clear hd ho hg hat hbx hst hg8 hq8 hv8 hll y0 y1 y2 y3
            go_wp2_with fail
            go_roundg (rn - (p + 1))
            case measure => omega
            case rel => exact ⟨p + 1, _, by omega, by omega, by go_num, HST, HB29, X9, HV9⟩
          · have hpr' : ¬ (p : Int) < (rn : Int) := by omega
            obtain rfl : p = rn := by omega
            have HO' : Hid (ORow W gb gt n2 s2 (opnK K N hw (i + 1)) vr wr) := by
              rw [HYES.out (by first | rfl | trivial), ← hdK_all, show (⟨lf, RL⟩ : Rule).right.length = p from HRN.out]; exact HOP.out
            go_wp2_with fail
            go_roundg (kn - (i + 1))
            case measure => omega
            case rel => exact ⟨i + 1, _, by omega, by omega, by go_num, HO', HBP⟩
    · have hik' : ¬ (i : Int) < (kn : Int) := by omega
      have htk : opnK K N hw i = KO K N hw := opnK_all (by rw [HKN.out]; omega)
      rw [htk] at HO
      obtain ⟨ar, cr, hvr, hcr1, hcr2, hvb⟩ := HO.out.row.form
      rw [List.length_map] at hvr
      subst hvr
      have HE := Lib.hid (fun x0 x1 x2 x3 => HFIN.out S ar cr ((((w0.setCell ⟨W.heap.size + 1, 0, none⟩ x0).setCell ⟨W.heap.size + 1, 1, none⟩ x1).setCell ⟨W.heap.size + 1, 2, none⟩ x2).setCell ⟨W.heap.size + 1, 3, none⟩ x3) HSS.out (by
        obtain ⟨xs, h3, h4⟩ := HO.out.row.own
        rw [List.length_map] at h3
        exact (Rd.box4 (S := fun k => k < W.heap.size ∨ gb < k) (rd_of_own h3 (h4.mono fun k hk _ => hk.1) (by simp) (fun k e => .inr (h3.lt k e).1)) (b := W.heap.size + 1) (fun h => by have := HWG.out; rcases h with h | h <;> omega) x0 x1 x2 x3).mono (fun _ _ _ => trivial)) (below_box4 HO.out.bel (by omega) x0 x1 x2 x3))
      obtain ⟨x0, x1, x2, x3⟩ := bx_cells4 HO.out.out
      obtain ⟨z0, z1, z2, z3⟩ := bx_cells4 (bx_keep HRB.out HBR.out)
      obtain ⟨f0, f1, f2, f3⟩ := bx_free4 (bx_keep HRB.out HBR.out)
      obtain ⟨kl, HKL⟩ := nameIt (KO K N hw).length
      rw [HKL.out] at HE x3
      clear htk hvb hcr1 hcr2
      go_wp2_with fail
      refine bodyPost_ret (v := .agg #[.int .i64 gt, .int .i64 n2, .int .i64 s2, .slice ar kl cr]) (by simp [results, Try.results87, go_sem, z0, z1, z2, z3]) rfl ?_
      exact HE.out _ _ _ _
end Ho
end Go.Proofs.Ytjpmebppdcclbaa
namespace Go.Proofs.Ytjpmebppdcclbaa
open Go.RowKit
namespace Ht
open Rp Hl
def putI (c : List Itm) : Option Itm → List Itm
  | some x => addI c x
  | none => c
def addF {α : Type} (P : α → Option Itm) (c : List Itm) (ys : List α) : List Itm := ys.foldl (fun c y => putI c (P y)) c
theorem pre_putI (c : List Itm) : ∀ o, c <+: putI c o
  | some x => pre_addI c x
  | none => List.prefix_refl _
theorem nodup_putI {c : List Itm} (h : c.Nodup) : ∀ o, (putI c o).Nodup
  | some _ => nodup_addI h
  | none => h
theorem mem_putI {c : List Itm} {y : Itm} : ∀ {o : Option Itm}, y ∈ putI c o ↔ y ∈ c ∨ o = some y
  | some x => by
    show y ∈ addI c x ↔ _
    rw [mem_addI]
    constructor
    · rintro (h | rfl)
      · exact .inl h
      · exact .inr rfl
    · rintro (h | h)
      · exact .inl h
      · cases h; exact .inr rfl
  | none => by simp [putI]
section
variable {α : Type} {P : α → Option Itm}
theorem pre_addF : ∀ {ys : List α} {c : List Itm}, c <+: addF P c ys
  | [], c => List.prefix_refl _
  | y :: ys, c => (pre_putI c (P y)).trans (pre_addF (ys := ys))
theorem nodup_addF : ∀ {ys : List α} {c : List Itm}, c.Nodup → (addF P c ys).Nodup
  | [], _, h => h
  | y :: ys, _, h => nodup_addF (ys := ys) (nodup_putI h (P y))
theorem mem_addF {y : Itm} : ∀ {ys : List α} {c : List Itm}, y ∈ addF P c ys ↔ y ∈ c ∨ ∃ z ∈ ys, P z = some y
  | [], c => by simp [addF]
  | z :: ys, c => by
    show y ∈ addF P (putI c (P z)) ys ↔ _
    rw [mem_addF, mem_putI]
    constructor
    · rintro ((h | h) | ⟨x, hx, h⟩)
      · exact .inl h
      · exact .inr ⟨z, by simp, h⟩
      · exact .inr ⟨x, by simp [hx], h⟩
    · rintro (h | ⟨x, hx, h⟩)
      · exact .inl (.inl h)
      · rcases List.mem_cons.1 hx with rfl | hx
        · exact .inl (.inr h)
        · exact .inr ⟨x, hx, h⟩
theorem addF_succ {c : List Itm} {ys : List α} {j : Nat} (hj : j < ys.length) : addF P c (ys.take (j + 1)) = putI (addF P c (ys.take j)) (P ys[j]) := by
  unfold addF
  rw [List.take_succ_eq_append_getElem hj, List.foldl_append]; rfl
end
def prP (K : List Rule) (s : Sym) (k : Nat) (i : Nat) : Option Itm := if (K[i]?).any (fun r => decide (s = ⟨false, r.left⟩)) then some ⟨i, 0, k⟩ else none
def prF (K : List Rule) (s : Sym) (k : Nat) (c : List Itm) : List Itm := addF (prP K s k) c (List.range K.length)
def coP (K : List Rule) (A : Int) (y : Itm) : Option Itm := if nxt K y = some ⟨false, A⟩ then some ⟨y.r, y.d + 1, y.f⟩ else none
def scP (K : List Rule) (cell : Sym) (y : Itm) : Option Itm := if (nxt K y).any (fun s => fitB s cell) then some ⟨y.r, y.d + 1, y.f⟩ else none
theorem prP_some {K : List Rule} {s : Sym} {k i : Nat} {y : Itm} : prP K s k i = some y ↔ ∃ r, K[i]? = some r ∧ s = ⟨false, r.left⟩ ∧ y = ⟨i, 0, k⟩ := by
  unfold prP
  cases e : K[i]? with
  | none => simp
  | some r =>
    simp only [Option.any_some, decide_eq_true_eq]
    split
    · rename_i h
      constructor
      · intro h2; cases h2; exact ⟨r, rfl, h, rfl⟩
      · rintro ⟨r', h1, _, rfl⟩; rfl
    · rename_i h
      constructor
      · intro h2; cases h2
      · rintro ⟨r', h1, h2, _⟩; cases h1; exact absurd h2 h
theorem coP_some {K : List Rule} {A : Int} {x y : Itm} : coP K A x = some y ↔ nxt K x = some ⟨false, A⟩ ∧ y = ⟨x.r, x.d + 1, x.f⟩ := by
  unfold coP
  split
  · rename_i h
    exact ⟨fun e => by cases e; exact ⟨h, rfl⟩, fun e => by rw [e.2]⟩
  · rename_i h
    exact ⟨fun e => (by cases e), fun e => absurd e.1 h⟩
theorem scP_some {K : List Rule} {cell : Sym} {x y : Itm} : scP K cell x = some y ↔ ∃ s, nxt K x = some s ∧ fitB s cell = true ∧ y = ⟨x.r, x.d + 1, x.f⟩ := by
  unfold scP
  cases e : nxt K x with
  | none => simp
  | some s =>
    simp only [Option.any_some]
    split
    · rename_i h
      exact ⟨fun e => by cases e; exact ⟨s, rfl, h, rfl⟩, fun ⟨_, _, _, e⟩ => by rw [e]⟩
    · rename_i h
      exact ⟨fun e => (by cases e), fun ⟨_, h1, h2, _⟩ => (by cases h1; exact absurd h2 h)⟩
/-! memory -/
def flatI : List Itm → List Value
  | [] => []
  | x :: l => .int .i64 (x.r : Int) :: .int .i64 (x.d : Int) :: .int .i64 (x.f : Int) :: flatI l
theorem flatI_app : ∀ (c : List Itm) (x : Itm), flatI (c ++ [x]) = flatI c ++ [.int .i64 (x.r : Int), .int .i64 (x.d : Int), .int .i64 (x.f : Int)]
  | [], x => rfl
  | y :: l, x => by simp [flatI, flatI_app l x]
theorem flatI_get : ∀ {c : List Itm} {i : Nat} (h : i < c.length), (flatI c)[i * 3]? = some (.int .i64 (c[i].r : Int)) ∧ (flatI c)[i * 3 + 1]? = some (.int .i64 (c[i].d : Int)) ∧ (flatI c)[i * 3 + 2]? = some (.int .i64 (c[i].f : Int))
  | x :: l, 0, _ => ⟨rfl, rfl, rfl⟩
  | x :: l, i + 1, h => by
    have := flatI_get (c := l) (i := i) (by simpa using h)
    have e : (i + 1) * 3 = i * 3 + 1 + 1 + 1 := by omega
    rw [e]
    simpa [flatI] using this
def upL (L : Nat → List Itm) (k : Nat) (c : List Itm) : Nat → List Itm := fun j => if j = k then c else L j
theorem elItem : ElemT Try.prog 102 104 3 24 := ElemT.mk' (z := .agg #[.int .i64 0, .int .i64 0, .int .i64 0]) Try.underlying102 (by kernel_rfl) rfl (by decide)
theorem elSet : ElemT Try.prog 97 102 1 24 := ElemT.mk' (z := .slice none 0 0) Try.underlying97 (by kernel_rfl) rfl (by decide)
theorem own_blkI {w w' : World} {B : Nat} {e : TypeId} {s : Nat} {v : Value} {n : Nat} {xs : List Value} (h : w.ownsRow B e s v n xs) (hb : ∀ g, v.ownBlock = some g → w'.heap[g]? = w.heap[g]?) : w'.ownsRow B e s v n xs := by
  obtain ⟨h1, h2⟩ := h
  refine ⟨h1, ?_⟩
  rcases h2 with h2 | ⟨g, cap, cur, rfl, hg, hh, r⟩
  · exact .inl h2
  · exact .inr ⟨g, cap, cur, rfl, hg, by rw [hb g rfl]; exact hh, r⟩
structure ST (B sb cap n : Nat) (val : Nat → Value) (L : Nat → List Itm) (w : World) : Prop where
  out : w.ownsRow B 102 1 (.slice (some ⟨sb, 0, none⟩) n cap) n ((List.range n).map val)
  row : ∀ k, k < n → w.ownsRow B 104 3 (val k) (L k).length (flatI (L k))
  dis : ∀ k k', k < n → k' < n → k ≠ k' → ∀ g, (val k).ownBlock = some g → (val k').ownBlock ≠ some g
  dso : ∀ k, k < n → (val k).ownBlock ≠ some sb
section
variable {B sb cap n : Nat} {val : Nat → Value} {L : Nat → List Itm} {w w' : World}
theorem ST.keep (h : ST B sb cap n val L w) (hb : Below w.heap.size w w') : ST B sb cap n val L w' := ⟨own_keep h.out hb, fun k hk => own_keep (h.row k hk) hb, h.dis, h.dso⟩
theorem ST.cell (h : ST B sb cap n val L w) {k : Nat} (hk : k < n) : w.cell? ⟨sb, k, none⟩ = some (val k) := by
  rw [h.out.cellAt k (by omega), List.getElem?_map, List.getElem?_range hk]; rfl
theorem ST.item (h : ST B sb cap n val L w) {k : Nat} (hk : k < n) {i : Nat} (hi : i < (L k).length) : ∃ g m, val k = .slice (some ⟨g, 0, none⟩) (L k).length m ∧ g < w.heap.size ∧ w.cell? ⟨g, i * 3, none⟩ = some (.int .i64 ((L k)[i].r : Int)) ∧ w.cell? ⟨g, i * 3 + 1, none⟩ = some (.int .i64 ((L k)[i].d : Int)) ∧ w.cell? ⟨g, i * 3 + 2, none⟩ = some (.int .i64 ((L k)[i].f : Int)) := by
  have hr := h.row k hk
  rcases hr.2 with ⟨_, h0⟩ | ⟨g, m, cur, e, _, _, _⟩
  · omega
  · have hlt := (hr.lt g (by rw [e]; rfl)).2
    rw [e] at hr
    obtain ⟨f0, f1, f2⟩ := flatI_get hi
    exact ⟨g, m, e, hlt, by rw [hr.cellAt _ (by omega)]; exact f0, by rw [hr.cellAt _ (by omega)]; exact f1, by rw [hr.cellAt _ (by omega)]; exact f2⟩
theorem ST.app (h : ST B sb cap n val L w) {t : Nat} (ht : t < n) {v' : Value} {x : Itm} (ho : w'.ownsRow B 104 3 v' ((L t).length + 1) (flatI (L t) ++ [.int .i64 (x.r : Int), .int .i64 (x.d : Int), .int .i64 (x.f : Int)])) (hg : w.grownBy w' (val t).ownBlock)
    (hat : v'.ownBlock = (val t).ownBlock ∨ ∃ k, v'.ownBlock = some k ∧ w.heap.size ≤ k) :
    w'.cell? ⟨sb, t, none⟩ = some (val t) ∧ w'.frozen? ⟨sb, t, none⟩ = false ∧ ST B sb cap n (fun k => if k = t then v' else val k) (upL L t (L t ++ [x])) (w'.setCell ⟨sb, t, none⟩ v') := by
  obtain ⟨h1, h2, h3, h4⟩ := h
  have hsb := (h1.lt sb rfl).2
  have ho1 : w'.ownsRow B 102 1 (.slice (some ⟨sb, 0, none⟩) n cap) n ((List.range n).map val) := h1.kept hg (.inr (fun e => h4 t ht (e.symm.trans rfl)))
  have hne : ∀ k g, k < n → (if k = t then v' else val k).ownBlock = some g → g ≠ sb := by
    intro k g hk e
    by_cases e1 : k = t
    · rw [if_pos e1] at e
      rcases hat with e2 | ⟨q, e2, hq⟩
      · exact fun e3 => h4 t ht (by rw [← e2, e, e3])
      · rw [e2] at e; cases e; omega
    · rw [if_neg e1] at e
      exact fun e3 => h4 k hk (by rw [e, e3])
  have hlt := fun k hk => (h2 k hk).lt
  refine ⟨?_, ho1.frozenAt t, ?_, fun k hk => ?_, fun k k' hk hk' hkk g hgk hgk' => ?_, fun k hk e => hne k sb hk e rfl⟩
  · rw [ho1.cellAt t (by omega), List.getElem?_map, List.getElem?_range ht]; rfl
  · have := (ho1.stored t v').1
    have e : ((List.range n).map val).set t v' = (List.range n).map (fun k => if k = t then v' else val k) := by
      apply List.ext_getElem?
      intro j
      rw [List.getElem?_set]
      by_cases hj : j < n
      · by_cases e : t = j
        · subst e
          simp [hj]
        · rw [if_neg e]
          simp [hj, Ne.symm e]
      · have hj' : ¬ j < n := hj
        by_cases e : t = j
        · omega
        · rw [if_neg e]
          simp [hj]
    rw [e] at this
    exact this
  · by_cases e : k = t
    · subst e
      unfold upL
      simp only [if_true]
      rw [flatI_app, List.length_append]
      exact own_blkI (w := w') ho fun g hgk => Below.heap_setCell _ _ _ _ (hne k g hk (by rw [if_pos rfl]; exact hgk))
    · unfold upL
      simp only [e, if_false]
      refine own_blkI (w := w) (h2 k hk) fun g hgk => ?_
      have h5 := hne k g hk (by rw [if_neg e]; exact hgk)
      have h6 := (h2 k hk).lt g hgk
      have h7 : (val t).ownBlock ≠ some g := fun e2 => h3 k t hk ht e g hgk e2
      have h8 := hg.block g h6.2 (fun e2 => h7 e2.symm)
      rw [← h8]
      exact Below.heap_setCell _ _ _ _ h5
  · have hq : ∀ j, j < n → j ≠ t → (val j).ownBlock ≠ v'.ownBlock ∨ v'.ownBlock = none := by
      intro j hj hjt
      rcases hat with e | ⟨q, e, hq⟩
      · cases hv : v'.ownBlock with
        | none => exact .inr rfl
        | some g' =>
          refine .inl fun e2 => ?_
          rw [hv] at e
          exact h3 j t hj ht hjt g' e2 e.symm
      · rw [e]
        refine .inl fun e2 => ?_
        have := ((h2 j hj).lt q e2).2
        omega
    by_cases e1 : k = t <;> by_cases e2 : k' = t <;> simp only [e1, e2, if_true, if_false] at hgk hgk'
    · exact hkk (by rw [e1, e2])
    · rcases hq k' hk' e2 with h | h
      · exact h (by rw [hgk, hgk'])
      · rw [h] at hgk; cases hgk
    · rcases hq k hk e1 with h | h
      · exact h (by rw [hgk, hgk'])
      · rw [h] at hgk'; cases hgk'
    · exact h3 k k' hk hk' hkk g hgk hgk'
theorem ST.more (h : ST B sb cap n val L w) {sb' cap' : Nat} (ho : w'.ownsRow B 102 1 (.slice (some ⟨sb', 0, none⟩) (n + 1) cap') (n + 1) ((List.range n).map val ++ [.slice none 0 0])) (hg : w.grownBy w' (some sb)) (hat : sb' = sb ∨ w.heap.size ≤ sb') (hL : L n = []) :
    ST B sb' cap' (n + 1) (fun k => if k = n then .slice none 0 0 else val k) L w' := by
  obtain ⟨h1, h2, h3, h4⟩ := h
  have hlt := fun k hk => (h2 k hk).lt
  refine ⟨?_, fun k hk => ?_, fun k k' hk hk' hkk g hgk hgk' => ?_, fun k hk e => ?_⟩
  · have e : (List.range (n + 1)).map (fun k => if k = n then (Value.slice none 0 0) else val k) = (List.range n).map val ++ [.slice none 0 0] := by
      rw [List.range_succ, List.map_append]
      congr 1
      · refine List.map_congr_left fun k hk => ?_
        rw [List.mem_range] at hk
        rw [if_neg (by omega)]
      · simp
    rw [e]; exact ho
  · by_cases e : k = n
    · subst e
      simp only [if_true]
      rw [hL]
      exact World.ownsRow_nil _ _ _ _
    · simp only [e, if_false]
      exact (h2 k (by omega)).kept hg (.inr (h4 k (by omega)))
  · by_cases e1 : k = n
    · simp only [e1, if_true] at hgk; cases hgk
    · by_cases e2 : k' = n
      · simp only [e2, if_true] at hgk'; cases hgk'
      · simp only [e1, e2, if_false] at hgk hgk'
        exact h3 k k' (by omega) (by omega) hkk g hgk hgk'
  · by_cases e1 : k = n
    · simp only [e1, if_true] at e; cases e
    · simp only [e1, if_false] at e
      rcases hat with rfl | h5
      · exact h4 k (by omega) e
      · have := (hlt k (by omega) sb' e).2
        omega
end
def OwA (sb n : Nat) (val : Nat → Value) (k : Nat) : Prop := k = sb ∨ ∃ i, i < n ∧ (val i).ownBlock = some k
def OwS (fb sb n : Nat) (val : Nat → Value) (k : Nat) : Prop := k = fb ∨ k = sb ∨ ∃ i, i + 1 = n ∧ (val i).ownBlock = some k
structure FMi (B fb : Nat) (gt gn gs : Int) (ra : Option Addr) (rc : Nat) (K : List Rule) (sb cap n : Nat) (val : Nat → Value) (L : Nat → List Itm) (w : World) : Prop where
  st : ST B sb cap n val L w
  box : w.heap[fb]? = some (.cells #[.int .i64 gt, .int .i64 gn, .int .i64 gs, .slice ra K.length rc, .slice (some ⟨sb, 0, none⟩) n cap] 99 (0, 0))
  nf : ¬ OwA sb n val fb
  fbl : B ≤ fb
  rd : Rd (fun k => k < B) w (.sl (K.map Rule.d)) [.slice ra K.length rc]
def FM (B fb : Nat) (gt gn gs : Int) (ra : Option Addr) (rc : Nat) (K : List Rule) (O : Nat → Prop) (n : Nat) (L : Nat → List Itm) (w : World) : Prop := ∃ sb cap val, FMi B fb gt gn gs ra rc K sb cap n val L w ∧ ∀ k, O k ↔ OwS fb sb n val k
structure Stp (O O' : Nat → Prop) (w w' : World) : Prop where
  os : w'.os = w.os
  tape : w'.tape = w.tape
  output : w'.output = w.output
  size : w.heap.size ≤ w'.heap.size
  same : ∀ k, k < w.heap.size → ¬ O k → w'.heap[k]? = w.heap[k]?
  own : ∀ k, O' k → O k ∨ w.heap.size ≤ k
section
variable {O O' O2 : Nat → Prop} {w w' w2 : World}
theorem Stp.trans (h : Stp O O' w w') (h2 : Stp O' O2 w' w2) : Stp O O2 w w2 :=
  ⟨h2.os.trans h.os, h2.tape.trans h.tape, h2.output.trans h.output, Nat.le_trans h.size h2.size, fun k hk hn => (h2.same k (Nat.lt_of_lt_of_le hk h.size) (fun e => (h.own k e).elim hn (fun h3 => by omega))).trans (h.same k hk hn), fun k hk => by
    rcases h2.own k hk with h3 | h3
    · exact h.own k h3
    · have := h.size; exact .inr (by omega)⟩
theorem Stp.below (h : Below w.heap.size w w') : Stp O O w w' := ⟨h.os, h.tape, h.output, h.size, fun k hk _ => h.block k hk, fun _ hk => .inl hk⟩
theorem Stp.bel (h : Stp O O' w w') {B : Nat} (hB : B ≤ w.heap.size) (hO : ∀ k, O k → B ≤ k) : Below B w w' := ⟨h.os, h.tape, h.output, h.size, fun k hk => h.same k (by omega) (fun e => by have := hO k e; omega)⟩
theorem Stp.box (h : Stp O O' w w') {b : Nat} {o : Obj} (hb : w.heap[b]? = some o) (hn : ¬ O b) : w'.heap[b]? = some o ∧ ¬ O' b := by
  have hlt := (Array.getElem?_eq_some_iff.1 hb).1
  exact ⟨(h.same b hlt hn).trans hb, fun e => (h.own b e).elim hn (fun h3 => by omega)⟩
variable {B fb : Nat} {gt gn gs : Int} {ra : Option Addr} {rc : Nat} {K : List Rule} {n : Nat} {L : Nat → List Itm}
theorem FM.keep (h : FM B fb gt gn gs ra rc K O n L w) (hb : Below w.heap.size w w') : FM B fb gt gn gs ra rc K O n L w' := by
  obtain ⟨sb, cap, val, h1, h2⟩ := h
  exact ⟨sb, cap, val, ⟨h1.st.keep hb, bx_keep h1.box hb, h1.nf, h1.fbl, h1.rd.below hb⟩, h2⟩
theorem FM.lt (h : FM B fb gt gn gs ra rc K O n L w) : ∀ k, O k → B ≤ k ∧ k < w.heap.size := by
  obtain ⟨sb, cap, val, h1, h2⟩ := h
  intro k hk
  rcases (h2 k).1 hk with rfl | rfl | ⟨i, hi, e⟩
  · exact ⟨h1.fbl, (Array.getElem?_eq_some_iff.1 h1.box).1⟩
  · exact h1.st.out.lt k rfl
  · exact (h1.st.row i (by omega)).lt k e
theorem FM.new (h : FM B fb gt gn gs ra rc K O n L w) {b : Nat} (hb : w.heap.size ≤ b) : ¬ O b := fun e => by have := (h.lt b e).2; omega
end
end Ht
end Go.Proofs.Ytjpmebppdcclbaa
namespace Go.Proofs.Ytjpmebppdcclbaa
open Go.RowKit
namespace Ho
open Rp Hl
open Ht hiding D
theorem itmEq (a b c a' b' c' : Int) (w : World) : (binOp .eql 104 (.agg #[.int .i64 a, .int .i64 b, .int .i64 c]) (.agg #[.int .i64 a', .int .i64 b', .int .i64 c'])).run Try.prog w = .ok (.bool (a == a' && (b == b' && c == c'))) w := by
  have h1 : Try.prog.underlying 104 = some (.struct (Try.prog.fieldsOf 104)) := by kernel_rfl
  have h2 : Try.prog.stoodInHeld 104 = false := by kernel_rfl
  have h3 := Try.underlying104
  have h5 := Try.underlying3
  rw [run_eql_struct, run_equalIn_agg (d := 9999) _ _ _ _ h1 h2]
  simp only [Program.fieldsOf, h3]
  by_cases ha : a = a' <;> by_cases hb : b = b' <;> by_cases hc : c = c' <;> simp [Op.eqFields, go_sem, h5, ha, hb, hc]
def nxtV (K : List Rule) (x : Itm) : Sym := (nxt K x).getD ⟨false, 0⟩
set_option maxHeartbeats 4000000 in
set_option maxRecDepth 100000 in
theorem nextE {B fb : Nat} {gt gn gs : Int} {ra : Option Addr} {rc : Nat} {K : List Rule} {O : Nat → Prop} {n : Nat} {L : Nat → List Itm} (W : World) (h : FM B fb gt gn gs ra rc K O n L W) (x : Itm) (hx : x.r < K.length) :
    Calls Try.prog 63 #[.pointer (some ⟨fb, 0, none⟩), .agg #[.int .i64 (x.r : Int), .int .i64 (x.d : Int), .int .i64 (x.f : Int)]] W fun e w' => e = .returned (.tuple #[.agg #[.bool (nxtV K x).term, .int .i64 (nxtV K x).n], .bool (nxt K x).isSome]) ∧ Below W.heap.size W w' := by
  obtain ⟨sb, cap, val, ⟨-, hbx, -, -, hrd⟩, -⟩ := h
  obtain ⟨w0, HW⟩ := nameIt ((W.alloc (.cells #[.int .i64 (x.r : Int), .int .i64 (x.d : Int), .int .i64 (x.f : Int)] 104)).alloc (.cells #[.bool false, .int .i64 0] 44))
  have hw0 : Below W.heap.size W w0 := by rw [← HW.out]; exact ((Below.refl _ _).alloc (Nat.le_refl _) _).alloc (by simp) _
  have HI0 : Hid (w0.heap[W.heap.size]? = some (.cells #[.int .i64 (x.r : Int), .int .i64 (x.d : Int), .int .i64 (x.f : Int)] 104 (0, 0))) := by
    rw [← HW.out]; exact bx_keep (bx_new _ _ _ rfl) ((Below.refl _ _).alloc (Nat.le_refl _) _)
  have HZ0 : Hid (w0.heap[W.heap.size + 1]? = some (.cells #[.bool false, .int .i64 0] 44 (0, 0))) := by
    rw [← HW.out]; exact bx_new _ _ _ (by simp)
  have HB0 := Lib.hid hw0
  have hb5 := bx_keep hbx hw0
  have h3 : w0.cell? ⟨fb, 0 + 3, none⟩ = some (.slice ra K.length rc) := by simp [World.cell?, hb5]
  obtain ⟨bk, ro, v, hae, -, hbk, s0, s1, hrr⟩ := (hrd.below hw0).rule_at hx
  obtain ⟨av, cv, rfl, hv1, hv2⟩ := hrr.form
  have hnx : nxt K x = K[x.r].right[x.d]? := by unfold nxt; rw [List.getElem?_eq_getElem hx]; rfl
  obtain ⟨r, HR⟩ := nameIt (K[x.r]'hx)
  rw [HR.out] at s1 hrr hv1 hnx
  rw [List.length_map] at s1 hrr hv1
  unfold nxtV
  obtain ⟨PST, HP⟩ := nameIt (fun (e : Ending) (w' : World) => e = .returned (.tuple #[.agg #[.bool ((nxt K x).getD ⟨false, 0⟩).term, .int .i64 ((nxt K x).getD ⟨false, 0⟩).n], .bool (nxt K x).isSome]) ∧ Below W.heap.size W w')
  have HEND : Hid (∀ (s : Sym) (q : Bool) w', (nxt K x).getD ⟨false, 0⟩ = s → (nxt K x).isSome = q → Below w0.heap.size w0 w' → PST (.returned (.tuple #[.agg #[.bool s.term, .int .i64 s.n], .bool q])) ((w'.setCell ⟨W.heap.size + 1, 0, none⟩ (.bool s.term)).setCell ⟨W.heap.size + 1, 0 + 1, none⟩ (.int .i64 s.n))) := by
    intro s q w' h1 h2 hb
    rw [← HP.out, h1, h2]
    have hB : Below W.heap.size W w' := HB0.out.trans (hb.mono HB0.out.size)
    exact ⟨rfl, (hB.setCell (p := ⟨W.heap.size + 1, 0, none⟩) (by simp) _).setCell (p := ⟨W.heap.size + 1, 0 + 1, none⟩) (by simp) _⟩
  rw [HP.out]
  rw [hnx] at HEND
  have HRR := Lib.hid hrr
  obtain ⟨rn, HRN⟩ := nameIt r.right.length
  rw [HRN.out] at s1 HRR hv1
  obtain ⟨kn, HKN⟩ := nameIt K.length
  have hxk : x.r < kn := by rw [← HKN.out]; exact hx
  have hxk' : (x.r : Int) < (kn : Int) := by omega
  rw [HKN.out] at h3
  obtain ⟨xr, HXR⟩ := nameIt x.r
  obtain ⟨xd, HXD⟩ := nameIt x.d
  obtain ⟨xf, HXF⟩ := nameIt x.f
  rw [HXR.out] at s1 hxk hxk'
  rw [HXR.out, HXD.out, HXF.out] at HW HI0
  rw [HXD.out] at HEND
  rw [HXR.out, HXD.out, HXF.out]
  unfold maxLen at hv2
  subst hae
  have i0 := aft_cell h3
  obtain ⟨y0, y1, y2⟩ := bx_cells3 HI0.out
  have i1 := aft_cell y0
  have i2 := aft_cell s1
  clear h3 y0 y1 y2 s0 s1 hrr hw0 hb5 hbx hrd hnx HP
  go_enter Try.func63, Try.ntmps63
  go_upto_region 1 with fail
  rw [HW.out]
  clear HW
  refine wp_region_after (by kernel_rfl) (by kernel_rfl) ?_
  repeat (go_big_quiet_step (fail))
  refine wpQuiet_nil ?_
  rintro w7 ⟨⟨_, hb7⟩, rfl⟩
  have HB7 := Lib.hid hb7
  obtain ⟨y0, y1, y2⟩ := bx_cells3 (bx_keep HI0.out hb7)
  obtain ⟨z0, z1⟩ := bx_cells2 (bx_keep HZ0.out hb7)
  have f0 : w7.frozen? ⟨W.heap.size + 1, 0, none⟩ = false := by simp [World.frozen?, bx_keep HZ0.out hb7]
  have f1 : w7.frozen? ⟨W.heap.size + 1, 0 + 1, none⟩ = false := by simp [World.frozen?, bx_keep HZ0.out hb7]
  have hrw := HRR.out.below hb7
  clear hb7 i0 i1 i2
  by_cases hd : xd < rn
  · have hd' : (xd : Int) < (rn : Int) := by omega
    have hdL : xd < r.right.length := by rw [HRN.out]; exact hd
    obtain ⟨sb2, so, hae2, -, -, t0, t1⟩ := hrw.sym_at hdL
    have HE := Lib.hid (HEND.out r.right[xd] true w7 (by rw [List.getElem?_eq_getElem hdL]; rfl) (by rw [List.getElem?_eq_getElem hdL]; rfl) HB7.out)
    obtain ⟨⟨st, sn⟩, HS⟩ := nameIt (r.right[xd]'hdL)
    rw [HS.out] at HE t0 t1
    subst hae2
    clear hrw
    go_wp2_with fail
    first | exact HE.out | (refine bodyPost_ret (v := .tuple #[.agg #[.bool st, .int .i64 sn], .bool true]) (by simp [results, Try.results63, go_sem, z0, z1]) rfl ?_; exact HE.out)
  · have hd' : ¬ (xd : Int) < (rn : Int) := by omega
    have hno : r.right[xd]? = none := List.getElem?_eq_none (by rw [HRN.out]; omega)
    have HE := Lib.hid (HEND.out ⟨false, 0⟩ false w7 (by rw [hno]; rfl) (by rw [hno]; rfl) HB7.out)
    clear hrw hno
    go_wp2_with fail
    first | exact HE.out | (refine bodyPost_ret (v := .tuple #[.agg #[.bool false, .int .i64 0], .bool false]) (by simp [results, Try.results63, go_sem, z0, z1]) rfl ?_; exact HE.out)
def IRow (P : Nat → Prop) (w : World) (a : Option Addr) (c : List Itm) : Prop := ∀ i (h : i < c.length), ∃ g, a = some ⟨g, 0, none⟩ ∧ P g ∧ g < w.heap.size ∧ w.cell? ⟨g, i * 3, none⟩ = some (.int .i64 (c[i].r : Int)) ∧ w.cell? ⟨g, i * 3 + 1, none⟩ = some (.int .i64 (c[i].d : Int)) ∧ w.cell? ⟨g, i * 3 + 2, none⟩ = some (.int .i64 (c[i].f : Int))
theorem IRow.step {P : Nat → Prop} {w w' : World} {a : Option Addr} {c : List Itm} (h : IRow P w a c) (hs : w.heap.size ≤ w'.heap.size) (hk : ∀ k, P k → k < w.heap.size → w'.heap[k]? = w.heap[k]?) : IRow P w' a c := by
  intro i hi
  obtain ⟨g, h1, h2, h3, h4, h5, h6⟩ := h i hi
  have e := hk g h2 h3
  refine ⟨g, h1, h2, Nat.lt_of_lt_of_le h3 hs, ?_, ?_, ?_⟩ <;> (rw [World.cell?_of_block (w := w) (by exact e)]; assumption)
theorem IRow.below {P : Nat → Prop} {w w' : World} {a : Option Addr} {c : List Itm} (h : IRow P w a c) (hb : Below w.heap.size w w') : IRow P w' a c := h.step hb.size (fun k _ hk => hb.block k hk)
theorem IRow.mono {P Q : Nat → Prop} {w : World} {a : Option Addr} {c : List Itm} (h : IRow P w a c) (hq : ∀ k, P k → Q k) : IRow Q w a c := fun i hi => by
  obtain ⟨g, h1, h2, h3⟩ := h i hi
  exact ⟨g, h1, hq g h2, h3⟩
theorem FM.irow {B fb : Nat} {gt gn gs : Int} {ra : Option Addr} {rc : Nat} {K : List Rule} {sb cap n : Nat} {val : Nat → Value} {L : Nat → List Itm} {w : World} (h : FMi B fb gt gn gs ra rc K sb cap n val L w) {k : Nat} (hk : k < n) : ∃ a m, val k = .slice a (L k).length m ∧ (L k).length ≤ m ∧ m ≤ maxLen ∧ IRow (OwA sb n val) w a (L k) := by
  obtain ⟨a, m, e, e1, e2⟩ := own_len (h.st.row k hk)
  refine ⟨a, m, e, e1, e2, fun i hi => ?_⟩
  obtain ⟨g, m', q1, q2, q3, q4, q5⟩ := h.st.item hk hi
  rw [e] at q1
  cases q1
  exact ⟨g, rfl, .inr ⟨k, hk, by rw [e]; rfl⟩, q2, q3, q4, q5⟩
set_option maxHeartbeats 4000000 in
set_option maxRecDepth 100000 in
theorem indexI (a : Option Addr) (cap : Nat) (c : List Itm) (x : Itm) (hc : c.length ≤ maxLen) (W : World) (hr : IRow (fun _ => True) W a c) :
    Calls Try.prog 115 #[.slice a c.length cap, .agg #[.int .i64 (x.r : Int), .int .i64 (x.d : Int), .int .i64 (x.f : Int)]] W fun e w' => e = .returned (.int .i64 (idxG (fun y => decide (x = y)) c)) ∧ Below W.heap.size W w' := by
  obtain ⟨w0, HW⟩ := nameIt (W.alloc (.cells #[.int .i64 (x.r : Int), .int .i64 (x.d : Int), .int .i64 (x.f : Int)] 104))
  have hw0 : Below W.heap.size W w0 := by rw [← HW.out]; exact (Below.refl _ _).alloc (Nat.le_refl _) _
  have HI0 : Hid (w0.heap[W.heap.size]? = some (.cells #[.int .i64 (x.r : Int), .int .i64 (x.d : Int), .int .i64 (x.f : Int)] 104 (0, 0))) := by rw [← HW.out]; exact bx_new _ _ _ rfl
  have HB0 := Lib.hid hw0
  have HR0 := Lib.hid (hr.below hw0)
  unfold maxLen at hc
  obtain ⟨n, HN⟩ := nameIt c.length
  rw [HN.out] at hc
  rw [HN.out]
  have HXX : Hid (∀ y : Itm, ((x.r : Int) == (y.r : Int) && ((x.d : Int) == (y.d : Int) && (x.f : Int) == (y.f : Int))) = decide (x = y)) := by
    intro y
    obtain ⟨a1, a2, a3⟩ := x
    obtain ⟨b1, b2, b3⟩ := y
    by_cases h1 : a1 = b1 <;> by_cases h2 : a2 = b2 <;> by_cases h3 : a3 = b3 <;> simp [h1, h2, h3] <;> omega
  obtain ⟨xr, HXR⟩ := nameIt x.r
  obtain ⟨xd, HXD⟩ := nameIt x.d
  obtain ⟨xf, HXF⟩ := nameIt x.f
  rw [HXR.out, HXD.out, HXF.out] at HW HI0
  simp only [HXR.out, HXD.out, HXF.out] at HXX
  rw [HXR.out, HXD.out, HXF.out]
  obtain ⟨PST, HP⟩ := nameIt (fun (e : Ending) (w' : World) => e = .returned (.int .i64 (idxG (fun y => decide (x = y)) c)) ∧ Below W.heap.size W w')
  have HEND : Hid (∀ z w', idxG (fun y => decide (x = y)) c = z → Below w0.heap.size w0 w' → PST (.returned (.int .i64 z)) w') := by
    intro z w' h1 h2
    rw [← HP.out, h1]
    exact ⟨rfl, HB0.out.trans (h2.mono HB0.out.size)⟩
  rw [HP.out]
  clear hw0 hr HP
  go_enter Try.func115, Try.ntmps115
  go_upto_region 1 with fail
  rw [HW.out]
  clear HW
  go_wp2_with fail
  go_loopg [5, 8] n (fun gg v5 v8 wr => ∃ i : Nat, i ≤ n ∧ n - i ≤ gg ∧ v8 = .int .i64 (i : Int) ∧ Hid (Below w0.heap.size w0 wr) ∧ Hid (∀ j (h : j < c.length), j < i → decide (x = c[j]) = false))
  case atStart => exact ⟨0, by omega, by omega, rfl, Below.refl _ _, fun j _ hj => by omega⟩
  case round =>
    obtain ⟨i, hi, hg, rfl, HB, HNN⟩ := hrel
    by_cases hlt : i < n
    · have hlt' : (i : Int) < (n : Int) := by omega
      have hiL : i < c.length := by rw [HN.out]; exact hlt
      obtain ⟨g, hae, -, hgl, q0, q1, q2⟩ := HR0.out.below HB.out i hiL
      obtain ⟨y0, y1, y2⟩ := bx_cells3 (bx_keep HI0.out HB.out)
      have HY := Lib.hid (HXX.out c[i])
      obtain ⟨y, HYN⟩ := nameIt (c[i]'hiL)
      rw [HYN.out] at q0 q1 q2 HY
      have he := itmEq (xr : Int) (xd : Int) (xf : Int) (y.r : Int) (y.d : Int) (y.f : Int)
      rw [HY.out] at he
      obtain ⟨b, HBN⟩ := nameIt (decide (x = y))
      rw [HBN.out] at he
      have i0 := aft_cell y0
      have i1 := aft_cell y1
      have i2 := aft_cell y2
      have i3 := aft_cell q0
      have i4 := aft_cell q1
      have i5 := aft_cell q2
      subst hae
      clear y0 y1 y2 q0 q1 q2
      go_upto_region 4 with fail
      refine wp_region_after (by kernel_rfl) (by kernel_rfl) ?_
      repeat (go_big_quiet_step (fail))
      refine wpQuiet_nil ?_
      rintro w7 ⟨⟨_, hb7⟩, rfl⟩
      have HB7 := Lib.hid (HB.out.trans (hb7.mono HB.out.size))
      clear hb7 i0 i1 i2 i3 i4 i5 he
      cases b with
      | true =>
        have HE := Lib.hid (HEND.out (i : Int) w7 (idxG_hit hiL (by rw [HYN.out]; exact HBN.out) HNN.out) HB7.out)
        go_wp2_with fail
        exact HE.out
      | false =>
        have HN2 : Hid (∀ j (h : j < c.length), j < i + 1 → decide (x = c[j]) = false) := by
          intro j h hj
          by_cases e : j = i
          · subst e; rw [HYN.out]; exact HBN.out
          · exact HNN.out j h (by omega)
        go_wp2_with fail
        go_roundg (n - (i + 1))
        case measure => omega
        case rel => exact ⟨i + 1, by omega, by omega, by go_num, HB7, HN2⟩
    · have hlt' : ¬ (i : Int) < (n : Int) := by omega
      have HE := Lib.hid (HEND.out (-1) wr (idxG_none fun j hj => HNN.out j hj (by rw [HN.out] at hj; omega)) HB.out)
      go_wp2_with fail
      exact HE.out
theorem any_mem {c : List Itm} {x : Itm} : c.any (fun y => decide (x = y)) = decide (x ∈ c) := by
  rw [Bool.eq_iff_iff, List.any_eq_true, decide_eq_true_eq]
  constructor
  · rintro ⟨y, hy, e⟩
    rw [of_decide_eq_true e]; exact hy
  · intro h; exact ⟨x, h, by simp⟩
set_option maxHeartbeats 2000000 in
theorem containsI (a : Option Addr) (cap : Nat) (c : List Itm) (x : Itm) (hc : c.length ≤ maxLen) (W : World) (hr : IRow (fun _ => True) W a c) :
    Calls Try.prog 110 #[.slice a c.length cap, .agg #[.int .i64 (x.r : Int), .int .i64 (x.d : Int), .int .i64 (x.f : Int)]] W fun e w' => e = .returned (.bool (decide (x ∈ c))) ∧ Below W.heap.size W w' := by
  obtain ⟨w0, HW⟩ := nameIt (W.alloc (.cells #[.int .i64 (x.r : Int), .int .i64 (x.d : Int), .int .i64 (x.f : Int)] 104))
  have hw0 : Below W.heap.size W w0 := by rw [← HW.out]; exact (Below.refl _ _).alloc (Nat.le_refl _) _
  have HI0 : Hid (w0.heap[W.heap.size]? = some (.cells #[.int .i64 (x.r : Int), .int .i64 (x.d : Int), .int .i64 (x.f : Int)] 104 (0, 0))) := by rw [← HW.out]; exact bx_new _ _ _ rfl
  have HB0 := Lib.hid hw0
  have HC := Lib.hid (indexI a cap c x hc w0 (hr.below hw0))
  have hge := idxG_ge (fun y => decide (x = y)) c
  rw [any_mem] at hge
  obtain ⟨z, HZ⟩ := nameIt (idxG (fun y => decide (x = y)) c)
  rw [HZ.out] at HC hge
  obtain ⟨xr, HXR⟩ := nameIt x.r
  obtain ⟨xd, HXD⟩ := nameIt x.d
  obtain ⟨xf, HXF⟩ := nameIt x.f
  rw [HXR.out, HXD.out, HXF.out] at HW HI0 HC
  rw [HXR.out, HXD.out, HXF.out]
  obtain ⟨b, HBN⟩ := nameIt (decide (x ∈ c))
  rw [HBN.out] at hge
  rw [HBN.out]
  obtain ⟨y0, y1, y2⟩ := bx_cells3 HI0.out
  clear hw0 hr
  go_enter Try.func110, Try.ntmps110
  go_upto_region 1 with fail
  rw [HW.out]
  clear HW
  go_wp2_with fail
  refine HC.out.mono ?_
  rintro e w1 ⟨rfl, hb⟩
  have HB := Lib.hid (HB0.out.trans (hb.mono HB0.out.size))
  clear hb y0 y1 y2
  go_wp2_with fail
  go_ret
  exact ⟨rfl, HB.out⟩
end Ho
end Go.Proofs.Ytjpmebppdcclbaa
