/- slices.ContainsFunc of documents and of bytes; Solid. -/
import Derived.Test.YtgpikophndbmeaaDocDocs
import Derived.Test.YtgpikophndbmeaaDocSound
import Derived.Laws.IdiomStrings
namespace Go.Proofs.Ytgpikophndbmeaa
open Go.RowKit
namespace Dc

def idxG {α : Type} (p : α → Bool) (l : List α) : Int := if l.any p then (l.findIdx p : Int) else -1
theorem idxG_hit {α : Type} {p : α → Bool} {l : List α} {i : Nat} (hi : i < l.length) (h : p l[i] = true) (hn : ∀ j (h : j < l.length), j < i → p l[j] = false) : idxG p l = i := by
  have h1 : l.any p = true := List.any_eq_true.2 ⟨l[i], List.getElem_mem hi, h⟩
  rw [idxG, if_pos h1]
  have : l.findIdx p = i := by
    rw [List.findIdx_eq hi]
    exact ⟨h, fun j hj => by simp [hn j (by omega) hj]⟩
  rw [this]
theorem idxG_none {α : Type} {p : α → Bool} {l : List α} (hn : ∀ j (h : j < l.length), p l[j] = false) : idxG p l = -1 := by
  have h1 : l.any p = false := by
    rw [List.any_eq_false]
    intro x hx
    obtain ⟨j, hj, rfl⟩ := List.getElem_of_mem hx
    simp [hn j hj]
  rw [idxG, if_neg (by simp [h1])]
theorem idxG_ge {α : Type} (p : α → Bool) (l : List α) : decide (0 ≤ idxG p l) = l.any p := by
  unfold idxG
  cases h : l.any p <;> simp [h]

def PredDoc (g : Nat) (lb : Array Value) (p : Doc → Bool) (w : World) : Prop :=
  ∀ (W : World) (x : Doc) (v : Value), Below w.heap.size w W → Rd AnyB W (.sl (x.kids.map Doc.d)) [v] → Calls Try.prog g (#[.agg #[.int .i64 x.kind, .string x.txt, .int .i64 x.n, v]] ++ lb) W fun e w' => e = .returned (.bool (p x)) ∧ Below W.heap.size W w'

set_option maxHeartbeats 1000000 in
theorem indexFuncDoc (g : Nat) (lb : Array Value) (p : Doc → Bool) (a : Option Addr) (n cap : Nat) (l : List Doc) (w : World) (eg : ∀ args w, (callFunc g args).run Try.prog w = .ok (.enter g args) w)
    (hf : PredDoc g lb p w) (hl : Rd AnyB w (.sl (l.map Doc.d)) [.slice a n cap]) :
    Calls Try.prog 34 #[.slice a n cap, .func (.func g) #[] lb] w fun e w' => e = .returned (.int .i64 (idxG p l)) ∧ Below w.heap.size w w' := by
  have HL := Lib.hid hl
  have HF := Lib.hid hf
  obtain ⟨hn0, hc1, hc2⟩ := hl.bounds
  rw [List.length_map] at hn0
  have HN0 := Lib.hid hn0
  unfold maxLen at hc2
  clear hl hf hn0
  go_enter Try.func34, Try.ntmps34
  go_wp2
  go_loopg [8] n (fun gg v8 wr => ∃ i : Nat, i ≤ n ∧ n - i ≤ gg ∧ v8 = .int .i64 i ∧ Hid (Below w.heap.size w wr) ∧ Hid (∀ j (h : j < l.length), j < i → p l[j] = false))
  case atStart => exact ⟨0, by omega, by omega, rfl, Below.refl _ _, fun j _ hj => by omega⟩
  case round =>
    obtain ⟨i, hi, hg, rfl, HB, HN⟩ := hrel
    by_cases hlt0 : i < n
    · have hlt' : (i : Int) < (n : Int) := by omega
      have hlt : i < l.length := by rw [← HN0.out]; exact hlt0
      obtain ⟨b, off, vr, hae, -, -, c0, c1, c2, c3, hkr⟩ := Rd.kid (HL.out.below HB.out) hlt
      obtain ⟨ar, cr, rfl, -, -⟩ := hkr.form
      obtain ⟨x, HX⟩ := nameIt (l[i]'hlt)
      rw [HX.out] at c0 c1 c2 c3 hkr
      have hcall := HF.out wr x _ HB.out hkr
      obtain ⟨q0, HQ0⟩ := nameIt x.kind
      rw [HQ0.out] at c0 hcall
      obtain ⟨q1, HQ1⟩ := nameIt x.txt
      rw [HQ1.out] at c1 hcall
      obtain ⟨q2, HQ2⟩ := nameIt x.n
      rw [HQ2.out] at c2 hcall
      obtain ⟨qn, HQN⟩ := nameIt (x.kids.map Doc.d).length
      rw [HQN.out] at c3 hcall
      have HC := Lib.hid hcall
      clear hcall hkr
      subst hae
      go_wp2_with fail
      refine HC.out.mono ?_
      rintro e w6 ⟨rfl, hb6⟩
      have HB6 := Lib.hid (HB.out.trans (hb6.mono HB.out.size))
      clear hb6 c0 c1 c2 c3
      cases hp : p x with
      | true =>
        have HE : Hid (idxG p l = i) := idxG_hit hlt (by rw [HX.out]; exact hp) HN.out
        clear hp
        go_wp2
        go_ret
        exact ⟨by rw [HE.out]; rfl, HB6.out⟩
      | false =>
        have HN2 : Hid (∀ j (h : j < l.length), j < i + 1 → p l[j] = false) := by
          intro j h hj
          by_cases e : j = i
          · subst e; rw [HX.out]; exact hp
          · exact HN.out j h (by omega)
        clear hp
        go_wp2
        go_roundg (n - (i + 1))
        case measure => omega
        case rel => exact ⟨i + 1, by omega, by omega, by go_num, HB6, HN2⟩
    · have hlt' : ¬ (i : Int) < (n : Int) := by omega
      have HE : Hid (idxG p l = -1) := idxG_none fun j hj => HN.out j hj (by have := HN0.out; omega)
      go_wp2
      go_ret
      exact ⟨by rw [HE.out]; rfl, HB.out⟩

set_option maxHeartbeats 1000000 in
theorem containsFuncDoc (g : Nat) (lb : Array Value) (p : Doc → Bool) (a : Option Addr) (n cap : Nat) (l : List Doc) (w : World) (eg : ∀ args w, (callFunc g args).run Try.prog w = .ok (.enter g args) w)
    (hf : PredDoc g lb p w) (hl : Rd AnyB w (.sl (l.map Doc.d)) [.slice a n cap]) :
    Calls Try.prog 24 #[.slice a n cap, .func (.func g) #[] lb] w fun e w' => e = .returned (.bool (l.any p)) ∧ Below w.heap.size w w' := by
  have HI := Lib.hid (indexFuncDoc g lb p a n cap l w eg hf hl)
  clear hl hf eg
  go_enter Try.func24, Try.ntmps24
  go_wp2_with fail
  refine HI.out.mono ?_
  rintro e w1 ⟨rfl, hb⟩
  have HB := Lib.hid hb
  clear hb
  go_wp2
  go_ret
  exact ⟨by rw [idxG_ge]; rfl, HB.out⟩

/-- the two predicates -/
def isHard (t : Doc) : Bool := t.kind == 3
def isLine (t : Doc) : Bool := t.kind == 1 || (t.kind == 2 || t.kind == 3)
set_option maxHeartbeats 1000000 in
theorem hardE (w : World) : PredDoc 27 #[] isHard w := by
  intro W x v hb hv
  obtain ⟨a, cap, rfl, -, -⟩ := hv.form
  obtain ⟨nk, HNK⟩ := nameIt (x.kids.map Doc.d).length
  rw [HNK.out]
  obtain ⟨q1, HQ1⟩ := nameIt x.txt
  obtain ⟨q2, HQ2⟩ := nameIt x.n
  rw [HQ1.out, HQ2.out]
  unfold isHard
  obtain ⟨q0, HQ0⟩ := nameIt x.kind
  rw [HQ0.out]
  clear hv
  obtain ⟨w1, HW1⟩ := nameIt (W.alloc (.cells #[.int .i64 q0, .string q1, .int .i64 q2, .slice a nk cap] 24))
  have HB1 : Hid (Below W.heap.size W w1) := by rw [← HW1.out]; exact (Below.refl _ _).alloc (Nat.le_refl _) _
  obtain ⟨x0, x1, x2, x3⟩ := bx_cells4d (show w1.heap[W.heap.size]? = _ by rw [← HW1.out]; exact bx_new _ _ _ rfl)
  go_enter Try.func27, Try.ntmps27
  go_upto_region 1 with fail
  rw [HW1.out]
  go_wp2_with fail
  go_ret
  exact ⟨rfl, HB1.out⟩
set_option maxHeartbeats 1000000 in
theorem lineE (w : World) : PredDoc 25 #[] isLine w := by
  intro W x v hb hv
  obtain ⟨a, cap, rfl, -, -⟩ := hv.form
  obtain ⟨nk, HNK⟩ := nameIt (x.kids.map Doc.d).length
  rw [HNK.out]
  obtain ⟨q1, HQ1⟩ := nameIt x.txt
  obtain ⟨q2, HQ2⟩ := nameIt x.n
  rw [HQ1.out, HQ2.out]
  obtain ⟨PST, HP⟩ := nameIt (fun (e : Ending) (w' : World) => e = .returned (.bool (isLine x)) ∧ Below W.heap.size W w')
  have hfin : ∀ w', Below W.heap.size W w' → PST (.returned (.bool (isLine x))) w' := fun w' h => by rw [← HP.out]; exact ⟨rfl, h⟩
  rw [HP.out]
  unfold isLine at hfin
  obtain ⟨q0, HQ0⟩ := nameIt x.kind
  rw [HQ0.out] at hfin ⊢
  clear hv
  obtain ⟨w1, HW1⟩ := nameIt (W.alloc (.cells #[.int .i64 q0, .string q1, .int .i64 q2, .slice a nk cap] 24))
  have HB1 : Hid (Below W.heap.size W w1) := by rw [← HW1.out]; exact (Below.refl _ _).alloc (Nat.le_refl _) _
  have HE := Lib.hid (hfin w1 HB1.out)
  obtain ⟨x0, x1, x2, x3⟩ := bx_cells4d (show w1.heap[W.heap.size]? = _ by rw [← HW1.out]; exact bx_new _ _ _ rfl)
  clear hfin
  go_enter Try.func25, Try.ntmps25
  go_upto_region 1 with fail
  rw [HW1.out]
  cases h1 : (q0 == 1) with
  | true =>
    rw [h1, Bool.true_or] at HE
    go_wp2_with fail
    exact HE.out
  | false =>
    rw [h1, Bool.false_or] at HE
    cases h2 : (q0 == 2) with
    | true =>
      rw [h2, Bool.true_or] at HE
      go_wp2_with fail
      exact HE.out
    | false =>
      rw [h2, Bool.false_or] at HE
      go_wp2_with fail
      exact HE.out
set_option maxHeartbeats 1000000 in
theorem solidE (t : Doc) (v : Value) (w : World) (hv : Rd AnyB w (.sl (t.kids.map Doc.d)) [v]) (hN : (nodes t).length ≤ 2000000) :
    Calls Try.prog 11 #[.agg #[.int .i64 t.kind, .string t.txt, .int .i64 t.n, v]] w fun e w' => e = .returned (.bool ((nodes t).any isHard)) ∧ Below w.heap.size w w' := by
  obtain ⟨a, cap, rfl, -, -⟩ := hv.form
  obtain ⟨w1, HW1⟩ := nameIt (w.alloc (.cells #[.int .i64 t.kind, .string t.txt, .int .i64 t.n, .slice a (t.kids.map Doc.d).length cap] 24))
  have hb1 : Below w.heap.size w w1 := by rw [← HW1.out]; exact (Below.refl _ _).alloc (Nat.le_refl _) _
  have hx1 : w1.heap[w.heap.size]? = some (.cells #[.int .i64 t.kind, .string t.txt, .int .i64 t.n, .slice a (t.kids.map Doc.d).length cap] 24 (0, 0)) := by rw [← HW1.out]; exact bx_new _ _ _ rfl
  have HB1 := Lib.hid hb1
  have HD := Lib.hid (docsE (fun k => k < w1.heap.size) (nodes t).length t _ w1 (Nat.le_refl _) (fun _ h => h) ((hv.below hb1).mono fun k _ h => h) hN)
  obtain ⟨x0, x1, x2, x3⟩ := bx_cells4d hx1
  obtain ⟨q0, HQ0⟩ := nameIt t.kind
  obtain ⟨q1, HQ1⟩ := nameIt t.txt
  obtain ⟨q2, HQ2⟩ := nameIt t.n
  obtain ⟨nk, HNK⟩ := nameIt (t.kids.map Doc.d).length
  rw [HQ0.out, HQ1.out, HQ2.out, HNK.out] at HW1 HD
  rw [HQ0.out] at x0
  rw [HQ1.out] at x1
  rw [HQ2.out] at x2
  rw [HNK.out] at x3
  rw [HQ0.out, HQ1.out, HQ2.out, HNK.out]
  clear hv hb1 hx1
  go_enter Try.func11, Try.ntmps11
  go_upto_region 1 with fail
  rw [HW1.out]
  go_wp2_with fail
  refine HD.out.mono ?_
  rintro e w2 ⟨v2, rfl, hr2, hb2⟩
  have HB2 := Lib.hid (HB1.out.trans (hb2.mono HB1.out.size))
  have hr2' := hr2.any
  obtain ⟨a2, c2, rfl, -, -⟩ := hr2'.form
  have HC := Lib.hid (containsFuncDoc 27 #[] isHard a2 _ c2 (nodes t) w2 (fun _ _ => by kernel_rfl) (hardE w2) hr2')
  obtain ⟨nl, HNL⟩ := nameIt ((nodes t).map Doc.d).length
  rw [HNL.out] at HC ⊢
  clear hr2 hr2' hb2 x0 x1 x2 x3
  go_wp2_with fail
  refine HC.out.mono ?_
  rintro e w3 ⟨rfl, hb3⟩
  have HB3 := Lib.hid (HB2.out.trans (hb3.mono HB2.out.size))
  clear hb3
  go_wp2_with fail
  go_ret
  exact ⟨rfl, HB3.out⟩

/-- bytes -/
def badB (b : UInt8) : Bool := !okB b
theorem badBE (b : UInt8) (W : World) : Calls Try.prog 18 #[.int .u8 b.toNat] W fun e w' => e = .returned (.bool (badB b)) ∧ w' = W := by
  obtain ⟨n, HN⟩ := nameIt b.toNat
  have hb : badB b = (decide (n < 32) || decide (126 < n)) := by
    unfold badB okB
    rw [HN.out]
    by_cases h1 : n < 32
    · simp [h1]
      try omega
    · by_cases h2 : 126 < n
      · simp [h2]
        try omega
      · simp [h1, h2]
        try omega
  rw [hb, HN.out]
  by_cases h1 : n < 32 <;> by_cases h2 : 126 < n
  all_goals
    have z1 : (n : Int) < 32 ↔ n < 32 := by omega
    have z2 : (126 : Int) < (n : Int) ↔ 126 < n := by omega
    go_enter Try.func18, Try.ntmps18
    go_wp2
    all_goals first | (exfalso; omega) | (go_ret; exact ⟨by simp [h1, h2], rfl⟩)
set_option maxHeartbeats 1000000 in
theorem indexFuncByte (b : Nat) (cap : Nat) (l : List UInt8) (n : Nat) (w : World) (hn : l.length = n) (hn2 : n ≤ 9223372036854775807) (hl : ∀ j (h : j < l.length), w.cell? ⟨b, j, none⟩ = some (.int .u8 l[j].toNat)) :
    Calls Try.prog 31 #[.slice (some ⟨b, 0, none⟩) n cap, .func (.func 18) #[] #[]] w fun e w' => e = .returned (.int .i64 (idxG badB l)) ∧ Below w.heap.size w w' := by
  have HL := Lib.hid hl
  have HN0 := Lib.hid hn
  have eg : ∀ args w, (callFunc 18 args).run Try.prog w = .ok (.enter 18 args) w := fun _ _ => by kernel_rfl
  clear hl hn
  go_enter Try.func31, Try.ntmps31
  go_wp2
  go_loopg [8] n (fun gg v8 wr => ∃ i : Nat, i ≤ n ∧ n - i ≤ gg ∧ v8 = .int .i64 i ∧ Hid (Below w.heap.size w wr) ∧ Hid (∀ j (h : j < l.length), j < i → badB l[j] = false))
  case atStart => exact ⟨0, by omega, by omega, rfl, Below.refl _ _, fun j _ hj => by omega⟩
  case round =>
    obtain ⟨i, hi, hg, rfl, HB, HN⟩ := hrel
    by_cases hlt0 : i < n
    · have hlt' : (i : Int) < (n : Int) := by omega
      have hlt : i < l.length := by rw [HN0.out]; exact hlt0
      have c0' := HL.out i hlt
      have c0 := (HB.out.cell (p := ⟨b, i, none⟩) (lt_of_cell c0')).trans c0'
      have c0' : wr.cell? ⟨b, 0 + i, none⟩ = some (.int .u8 l[i].toNat) := by rw [Nat.zero_add]; exact c0
      obtain ⟨x, HX⟩ := nameIt (l[i]'hlt)
      rw [HX.out] at c0 c0'
      have HC := Lib.hid (badBE x wr)
      go_wp2_with fail
      refine HC.out.mono ?_
      rintro e w6 ⟨rfl, rfl⟩
      cases hp : badB x with
      | true =>
        have HE : Hid (idxG badB l = i) := idxG_hit hlt (by rw [HX.out]; exact hp) HN.out
        clear hp
        go_wp2
        go_ret
        exact ⟨by rw [HE.out]; rfl, HB.out⟩
      | false =>
        have HN2 : Hid (∀ j (h : j < l.length), j < i + 1 → badB l[j] = false) := by
          intro j h hj
          by_cases e : j = i
          · subst e; rw [HX.out]; exact hp
          · exact HN.out j h (by omega)
        clear hp
        go_wp2
        go_roundg (n - (i + 1))
        case measure => omega
        case rel => exact ⟨i + 1, by omega, by omega, by go_num, HB, HN2⟩
    · have hlt' : ¬ (i : Int) < (n : Int) := by omega
      have HE : Hid (idxG badB l = -1) := idxG_none fun j hj => HN.out j hj (by have := HN0.out; omega)
      go_wp2
      go_ret
      exact ⟨by rw [HE.out]; rfl, HB.out⟩
set_option maxHeartbeats 1000000 in
theorem containsFuncByte (b : Nat) (cap : Nat) (l : List UInt8) (n : Nat) (w : World) (hn : l.length = n) (hn2 : n ≤ 9223372036854775807) (hl : ∀ j (h : j < l.length), w.cell? ⟨b, j, none⟩ = some (.int .u8 l[j].toNat)) :
    Calls Try.prog 17 #[.slice (some ⟨b, 0, none⟩) n cap, .func (.func 18) #[] #[]] w fun e w' => e = .returned (.bool (l.any badB)) ∧ Below w.heap.size w w' := by
  have HI := Lib.hid (indexFuncByte b cap l n w hn hn2 hl)
  clear hl hn
  go_enter Try.func17, Try.ntmps17
  go_wp2_with fail
  refine HI.out.mono ?_
  rintro e w1 ⟨rfl, hb⟩
  have HB := Lib.hid hb
  clear hb
  go_wp2
  go_ret
  exact ⟨by rw [idxG_ge]; rfl, HB.out⟩
theorem any_badB (s : ByteArray) : s.data.toList.any badB = !prB s := by
  unfold prB badB
  induction s.data.toList with
  | nil => rfl
  | cons a l ih => rw [List.any_cons, List.all_cons, ih, Bool.not_and]
end Dc
end Go.Proofs.Ytgpikophndbmeaa
