/- Plain: the ranges of nonterminals, as the reference's table has them. parlref4.one, covers and ranges: a table of parts as a map. The contract of tree.Cover. The contract of Inside. Which paths lead to the leaf with a number, in plain Lean. parlref4.Allowed. -/
import Derived.Test.YtgcfpbjifjklbaaDoorJFilterBansRow7
import Derived.Test.YtgcfpbjifjklbaaDoorJFilterBansRow6
import Derived.Test.YtgcfpbjifjklbaaDoorJFilterBansRow1
import Derived.Test.YtgcfpbjifjklbaaDoorJFilterBansRow5
import Derived.DeepKeys4
import Derived.Deep.LoopGhost
import Derived.Test.YtgcfpbjifjklbaaDoorJFilterBansRow8
import Derived.Test.YtgcfpbjifjklbaaDoorJFilterBansRow4
namespace Go.Proofs.YtgcfpbjifjklbaaDoor
open Go.RowKit
namespace Fb
open Lg (Lang LL LS seg seg_len seg_app seg_one seg_nil seg_all lang_ind lang_rule)
abbrev Tab3 := Int → Nat → Nat → Bool
def hitF (F : Tab3) (w : List Int) (s : Sym) (p j : Nat) : Bool := if s.term then decide (j = p + 1) && decide (w[p]? = some s.n) else F s.n p j
def covF (F : Tab3) (w : List Int) : List Sym → Nat → Nat → Bool
  | [], i, j => decide (i = j)
  | s :: l, i, j => (List.range (j + 1 - i)).any fun d => hitF F w s i (i + d) && covF F w l (i + d) j
theorem covF_cons {F : Tab3} {w : List Int} {s : Sym} {l : List Sym} {i j : Nat} : covF F w (s :: l) i j = true ↔ ∃ m, i ≤ m ∧ m ≤ j ∧ hitF F w s i m = true ∧ covF F w l m j = true := by
  rw [covF, List.any_eq_true]
  constructor
  · rintro ⟨d, hd, h⟩
    rw [List.mem_range] at hd
    rw [Bool.and_eq_true] at h
    exact ⟨i + d, by omega, by omega, h.1, h.2⟩
  · rintro ⟨m, h1, h2, h3, h4⟩
    refine ⟨m - i, List.mem_range.2 (by omega), ?_⟩
    rw [show i + (m - i) = m by omega, h3, h4]; rfl
def SoundF (rules : List Rule) (w : List Int) (F : Tab3) : Prop := ∀ n i j, F n i j = true → 0 ≤ n ∧ i ≤ j ∧ j ≤ w.length ∧ Lang rules n.toNat (seg w i j)
def ClosedF (rules : List Rule) (w : List Int) (F : Tab3) : Prop := ∀ r ∈ rules, ∀ i j, i ≤ j → j ≤ w.length → covF F w r.right i j = true → F r.left i j = true
section
variable {rules : List Rule} {F : Tab3} {w : List Int}
theorem hitF_sound (hs : SoundF rules w F) {s : Sym} {p j : Nat} (h : hitF F w s p j = true) : p ≤ j ∧ j ≤ w.length ∧ LS (Lang rules) s (seg w p j) := by
  unfold hitF at h
  unfold LS
  by_cases e : s.term = true
  · rw [if_pos e] at h ⊢
    rw [Bool.and_eq_true, decide_eq_true_eq, decide_eq_true_eq] at h
    obtain ⟨rfl, h1⟩ := h
    obtain ⟨hp, h2⟩ := List.getElem?_eq_some_iff.1 h1
    exact ⟨by omega, by omega, by rw [seg_one hp, h2]⟩
  · rw [if_neg e] at h ⊢
    exact (hs _ _ _ h).2
theorem covF_sound (hs : SoundF rules w F) : ∀ {l : List Sym} {i j : Nat}, i ≤ w.length → covF F w l i j = true → i ≤ j ∧ j ≤ w.length ∧ LL (Lang rules) l (seg w i j)
  | [], i, j, hi, h => by
    obtain rfl : i = j := of_decide_eq_true h
    exact ⟨Nat.le_refl _, hi, seg_nil⟩
  | s :: l, i, j, hi, h => by
    obtain ⟨m, _, _, h1, h2⟩ := covF_cons.1 h
    obtain ⟨a1, a2, a3⟩ := hitF_sound hs h1
    obtain ⟨b1, b2, b3⟩ := covF_sound hs a2 h2
    exact ⟨by omega, b2, seg w i m, seg w m j, (seg_app a1 b1).symm, a3, b3⟩
theorem SoundF.put (hs : SoundF rules w F) {r : Rule} (hr : r ∈ rules) (hl : 0 ≤ r.left) {i j : Nat} (hi : i ≤ w.length) (h : covF F w r.right i j = true) : SoundF rules w (fun n' i' j' => if n' = r.left ∧ i' = i ∧ j' = j then true else F n' i' j') := by
  intro n' i' j' h'
  dsimp only at h'
  by_cases e : n' = r.left ∧ i' = i ∧ j' = j
  · obtain ⟨rfl, rfl, rfl⟩ := e
    obtain ⟨h1, h2, h3⟩ := covF_sound hs hi h
    exact ⟨hl, h1, h2, lang_rule hr (by omega) h3⟩
  · rw [if_neg e] at h'; exact hs _ _ _ h'
theorem closedF_all (hl : ∀ r ∈ rules, 0 ≤ r.left) (hv : ∀ r ∈ rules, ∀ s ∈ r.right, s.term = false → 0 ≤ s.n) (hc : ClosedF rules w F) {A : Nat} {u : List Int} (hu : Lang rules A u) : ∀ i, i + u.length ≤ w.length → seg w i (i + u.length) = u → F (A : Int) i (i + u.length) = true := by
  have key : ∀ (l : List Sym) (u : List Int), (∀ s ∈ l, s.term = false → 0 ≤ s.n) → LL (fun A u => ∀ i, i + u.length ≤ w.length → seg w i (i + u.length) = u → F (A : Int) i (i + u.length) = true) l u → ∀ i, i + u.length ≤ w.length → seg w i (i + u.length) = u → covF F w l i (i + u.length) = true := by
    intro l
    induction l with
    | nil => intro u _ h i _ _; obtain rfl : u = [] := h; simp [covF]
    | cons s l ih =>
      rintro u hvl ⟨a, b, rfl, h1, h2⟩ i hi hseg
      rw [List.length_append] at hi hseg
      have e : seg w i (i + a.length) ++ seg w (i + a.length) (i + (a.length + b.length)) = a ++ b := by rw [seg_app (by omega) (by omega)]; exact hseg
      have hla : (seg w i (i + a.length)).length = a.length := by rw [seg_len (by omega)]; omega
      obtain ⟨ea, eb⟩ := List.append_inj e hla
      refine covF_cons.2 ⟨i + a.length, by omega, by rw [List.length_append]; omega, ?_, ?_⟩
      · unfold LS at h1
        unfold hitF
        by_cases et : s.term = true
        · rw [if_pos et] at h1 ⊢
          subst h1
          have hp : i < w.length := by simp at hi; omega
          have h3 : seg w i (i + 1) = [s.n] := ea
          rw [seg_one hp] at h3
          rw [List.getElem?_eq_getElem hp]
          simp at h3 ⊢; exact h3
        · rw [if_neg et] at h1 ⊢
          have h4 := h1 i (by omega) ea
          have h5 := hvl s (by simp) (by simpa using et)
          rwa [show ((s.n.toNat : Nat) : Int) = s.n by omega] at h4
      · have := ih b (fun s hs => hvl s (List.mem_cons_of_mem _ hs)) h2 (i + a.length) (by omega) (by rw [show i + a.length + b.length = i + (a.length + b.length) by omega]; exact eb)
        rw [List.length_append]
        rw [show i + a.length + b.length = i + (a.length + b.length) by omega] at this
        exact this
  refine lang_ind (P := fun A u => ∀ i, i + u.length ≤ w.length → seg w i (i + u.length) = u → F (A : Int) i (i + u.length) = true) (fun r hr A u hA h i hi hseg => ?_) hu
  have h1 := hc r hr i _ (by omega) hi (key r.right u (hv r hr) h i hi hseg)
  rwa [hA] at h1
theorem tabF_lang (hl : ∀ r ∈ rules, 0 ≤ r.left) (hv : ∀ r ∈ rules, ∀ s ∈ r.right, s.term = false → 0 ≤ s.n) (hs : SoundF rules w F) (hc : ClosedF rules w F) {A i j : Nat} (hi : i ≤ j) (hj : j ≤ w.length) : F (A : Int) i j = true ↔ Lang rules A (seg w i j) := by
  constructor
  · intro h; simpa using (hs _ _ _ h).2.2.2
  · intro h
    have hlen : (seg w i j).length = j - i := seg_len hj
    have := closedF_all hl hv hc h i (by omega) (by rw [hlen, show i + (j - i) = j by omega])
    rwa [hlen, show i + (j - i) = j by omega] at this
theorem tabE_lang {E : Nat → Nat → Nat} (hl : ∀ r ∈ rules, 0 ≤ r.left) (hs : Lg.SoundE rules w E) (hc : Lg.ClosedE rules w E) {A i j : Nat} (hi : i ≤ j) (hj : j ≤ w.length) : (E A i).testBit j = true ↔ Lang rules A (seg w i j) := by
  constructor
  · intro h; exact (hs _ _ _ h).2.2
  · intro h
    have hlen : (seg w i j).length = j - i := seg_len hj
    have := Lg.closed_all hl hc h i (by omega) (by rw [hlen, show i + (j - i) = j by omega])
    rwa [hlen, show i + (j - i) = j by omega] at this
end
def dom : List (Nat × Nat × Nat) := (List.range 10).flatMap fun n => (List.range 13).flatMap fun i => (List.range 13).map fun j => (n, i, j)
def cntF (F : Tab3) : Nat := dom.countP fun p => !F (p.1 : Int) p.2.1 p.2.2
theorem mem_dom {n i j : Nat} (h1 : n < 10) (h2 : i < 13) (h3 : j < 13) : (n, i, j) ∈ dom := by
  unfold dom
  simp only [List.mem_flatMap, List.mem_map, List.mem_range]
  exact ⟨n, h1, i, h2, j, h3, rfl⟩
theorem dom_len : dom.length = 1690 := of_decide_eq_true (by kernel_rfl)
theorem cntF_le (F : Tab3) : cntF F ≤ 1690 := by unfold cntF; rw [← dom_len]; exact List.countP_le_length
theorem countP_lt {α : Type} {p q : α → Bool} : ∀ {l : List α}, (∀ x ∈ l, q x = true → p x = true) → (∃ x ∈ l, p x = true ∧ q x = false) → l.countP q < l.countP p
  | [], _, ⟨x, hx, _⟩ => by cases hx
  | a :: l, h, ⟨x, hx, h1, h2⟩ => by
    rw [List.countP_cons, List.countP_cons]
    have hle : l.countP q ≤ l.countP p := List.countP_mono_left fun y hy => h y (List.mem_cons_of_mem _ hy)
    rcases List.mem_cons.1 hx with rfl | hx
    · rw [h1, h2]; simp; omega
    · have ih := countP_lt (fun y hy => h y (List.mem_cons_of_mem _ hy)) ⟨x, hx, h1, h2⟩
      have h3 := h a (by simp)
      cases hq : q a with
      | false => simp; omega
      | true => rw [h3 hq]; simp; omega
theorem cntF_put {F : Tab3} {n : Int} {i j : Nat} (h0 : 0 ≤ n) (h1 : n < 10) (h2 : i ≤ 12) (h3 : j ≤ 12) (hF : F n i j = false) : cntF (fun n' i' j' => if n' = n ∧ i' = i ∧ j' = j then true else F n' i' j') < cntF F := by
  unfold cntF
  refine countP_lt (fun p _ hp => ?_) ⟨(n.toNat, i, j), mem_dom (by omega) (by omega) (by omega), ?_, ?_⟩
  · simp only [Bool.not_eq_true'] at hp ⊢
    by_cases e : (p.1 : Int) = n ∧ p.2.1 = i ∧ p.2.2 = j
    · rw [if_pos e] at hp; cases hp
    · rwa [if_neg e] at hp
  · simp only
    rw [show ((n.toNat : Nat) : Int) = n by omega, hF]; rfl
  · simp [show ((n.toNat : Nat) : Int) = n by omega]
def before (k i j k' i' j' : Nat) : Prop := k' < k ∨ k' = k ∧ (i' < i ∨ i' = i ∧ j' < j)
structure PassF (rules : List Rule) (w : List Int) (F0 F : Tab3) (ag : Bool) (k i j : Nat) : Prop where
  snd : SoundF rules w F
  same : ag = false → F = F0 ∧ ∀ k' i' j' (hk : k' < rules.length), before k i j k' i' j' → i' ≤ j' → j' ≤ w.length → covF F w rules[k'].right i' j' = true → F rules[k'].left i' j' = true
  less : ag = true → cntF F < cntF F0
theorem PassF.start {rules : List Rule} {w : List Int} {F : Tab3} (hs : SoundF rules w F) : PassF rules w F F false 0 0 0 := ⟨hs, fun _ => ⟨rfl, fun k' i' j' _ h => by unfold before at h; omega⟩, fun h => by cases h⟩
theorem PassF.skip {rules : List Rule} {w : List Int} {F0 F : Tab3} {ag : Bool} {k i j : Nat} (h : PassF rules w F0 F ag k i j) (hk : k < rules.length) (hc : F rules[k].left i j = false → covF F w rules[k].right i j = false) : PassF rules w F0 F ag k i (j + 1) := by
  refine ⟨h.snd, fun ha => ⟨(h.same ha).1, fun k' i' j' hk' hb h1 h2 h3 => ?_⟩, h.less⟩
  by_cases e : k' = k ∧ i' = i ∧ j' = j
  · obtain ⟨rfl, rfl, rfl⟩ := e
    cases hF : F rules[k'].left i' j' with
    | true => rfl
    | false => rw [hc hF] at h3; cases h3
  · exact (h.same ha).2 k' i' j' hk' (by unfold before at hb ⊢; omega) h1 h2 h3
theorem PassF.row {rules : List Rule} {w : List Int} {F0 F : Tab3} {ag : Bool} {k i j : Nat} (h : PassF rules w F0 F ag k i j) (hj : w.length < j) : PassF rules w F0 F ag k (i + 1) (i + 1) := by
  refine ⟨h.snd, fun ha => ⟨(h.same ha).1, fun k' i' j' hk' hb h1 h2 h3 => (h.same ha).2 k' i' j' hk' (by unfold before at hb ⊢; omega) h1 h2 h3⟩, h.less⟩
theorem PassF.rule {rules : List Rule} {w : List Int} {F0 F : Tab3} {ag : Bool} {k i j : Nat} (h : PassF rules w F0 F ag k i j) (hi : w.length < i) : PassF rules w F0 F ag (k + 1) 0 0 := by
  refine ⟨h.snd, fun ha => ⟨(h.same ha).1, fun k' i' j' hk' hb h1 h2 h3 => (h.same ha).2 k' i' j' hk' (by unfold before at hb ⊢; omega) h1 h2 h3⟩, h.less⟩
theorem PassF.closed {rules : List Rule} {w : List Int} {F0 F : Tab3} {k i j : Nat} (h : PassF rules w F0 F false k i j) (hk : rules.length ≤ k) : ClosedF rules w F := by
  intro r hr i' j' h1 h2 h3
  obtain ⟨k', hk', rfl⟩ := List.getElem_of_mem hr
  exact (h.same rfl).2 k' i' j' hk' (by unfold before; omega) h1 h2 h3
theorem PassF.put {rules : List Rule} {w : List Int} {F0 F : Tab3} {ag : Bool} {k i j : Nat} (h : PassF rules w F0 F ag k i j) (hk : k < rules.length) (hl : 0 ≤ rules[k].left) (hl2 : rules[k].left < 10) (hw : w.length ≤ 12) (hi : i ≤ w.length) (hj : j ≤ w.length) (hF : F rules[k].left i j = false) (hc : covF F w rules[k].right i j = true) :
    PassF rules w F0 (fun n' i' j' => if n' = rules[k].left ∧ i' = i ∧ j' = j then true else F n' i' j') true k i (j + 1) := by
  refine ⟨h.snd.put (List.getElem_mem hk) hl hi hc, fun e => (by cases e), fun _ => ?_⟩
  have h1 := cntF_put hl hl2 (show i ≤ 12 by omega) (show j ≤ 12 by omega) hF
  cases ag with
  | false => have := (h.same rfl).1; rw [this] at h1 ⊢; exact h1
  | true => exact Nat.lt_trans h1 (h.less rfl)
end Fb
end Go.Proofs.YtgcfpbjifjklbaaDoor
namespace Go.Proofs.YtgcfpbjifjklbaaDoor
open Go.RowKit
namespace Fb
theorem ptLaid : laidOutB Tryd.prog = true := by kernel_rfl
theorem ptRow : (96 : TypeId) < Tryd.prog.types.size := of_decide_eq_true (by kernel_rfl)
theorem ptWide : (match Tryd.prog.underlying 96 with | some (.array _ _) | some (.struct _) => true | _ => false) = true := by kernel_rfl
theorem ptAt : Tryd.prog.keyTypeAt 3 96 = true := by kernel_rfl
set_option maxRecDepth 100000 in
theorem ptLaw : WideMaps.KeyLaw Tryd.prog 96 := deep_law_laid ptLaid (m := 3) (by omega) ptRow ptAt ptWide
theorem ptK : Go.Maps.Keyed Tryd.prog 96 := .of_law ptLaw
def ptL (b : Bool) (n : Int) (i j : Nat) : Lit := .string (keyBytes [.bool b, .int .i64 n, .int .i64 i, .int .i64 j])
def okN (n : Int) : Prop := 0 ≤ n ∧ n ≤ 100
def okP (n : Int) (i j : Nat) : Prop := okN n ∧ i ≤ 100 ∧ j ≤ 100
theorem wfN {n : Int} (h : okN n) : (Lit.int .i64 n).wf = true := by
  obtain ⟨h1, h2⟩ := h
  simp [Lit.wf, IntKind.min, IntKind.max, IntKind.signed, IntKind.bits]; omega
theorem wfM {n : Nat} (h : n ≤ 100) : (Lit.int .i64 (n : Int)).wf = true := wfN ⟨by omega, by omega⟩
def ptV (b : Bool) (n : Int) (i j : Nat) : Value := .agg #[.bool b, .int .i64 n, .int .i64 i, .int .i64 j]
theorem ptKey {b : Bool} {n : Int} {i j : Nat} (h : okP n i j) : keyOf Tryd.prog 96 (ptV b n i j) = some (ptL b n i j) := by
  have hn := wfN h.1
  have hi := wfM h.2.1
  have hj := wfM h.2.2
  have h1 : Tryd.prog.keyType 96 = true := by kernel_rfl
  have h3 : Tryd.prog.cellsOf 96 = 4 := by kernel_rfl
  have h4 : Tryd.prog.cellsOf 3 = 1 := by kernel_rfl
  have h5 : Tryd.prog.cellsOf 4 = 1 := by kernel_rfl
  have h6 : Tryd.prog.cellsOf 60 = 2 := by kernel_rfl
  have h2 : (Value.agg #[.bool b, Value.int .i64 n, Value.int .i64 i, Value.int .i64 j]).formed Tryd.prog 96 = true := by simp [Value.formed, Tryd.underlying96, h3]
  obtain ⟨m, hm⟩ : ∃ m, Tryd.prog.types.size = m + 1 + 1 := ⟨Tryd.prog.types.size - 2, by have h : 1 < Tryd.prog.types.size := of_decide_eq_true (by kernel_rfl); omega⟩
  have h7 : Tryd.prog.keyLits (Tryd.prog.types.size + 1) 96 [.bool b, .int .i64 n, .int .i64 i, .int .i64 j] = some [.bool b, .int .i64 n, .int .i64 i, .int .i64 j] := by
    rw [hm]
    simp [Program.keyLits, Tryd.underlying96, Tryd.underlying60, h3, h4, h5, h6, Tryd.underlying3, Tryd.underlying4, hn, hi, hj]
    rw [if_pos (fun i x => by match i, x with | 0, _ => simp | 1, _ => simp | n + 2, h => exact absurd h (by omega))]
    rfl
  unfold ptV keyOf
  simp only [Tryd.underlying96, h1, h2, Bool.and_self, if_true]
  show Option.map _ (Tryd.prog.keyLits _ _ [.bool b, .int .i64 n, .int .i64 i, .int .i64 j]) = _
  rw [h7]
  rfl
theorem ptL_inj {b b' : Bool} {n n' : Int} {i j i' j' : Nat} (h : okP n i j) (h' : okP n' i' j') (e : ptL b n i j = ptL b' n' i' j') : b = b' ∧ n = n' ∧ i = i' ∧ j = j' := by
  have h1 := ptKey (b := b) h
  have h2 := ptKey (b := b') h'
  rw [← e] at h2
  have := ptK.inj h1 h2
  unfold ptV at this
  simp at this
  obtain ⟨a1, a2, a3, a4⟩ := this
  exact ⟨a1, a2, by omega, by omega⟩
theorem zeroBo (w : World) : (zeroValue 4).run Tryd.prog w = .ok (.bool false) w := by
  obtain ⟨i, hi, hz, _⟩ := info_parts (show (Tryd.prog.info? 4).map (fun i => (i.zero, i.size, i.bytes)) = some (some (.bool false), 1, 1) by kernel_rfl)
  simp [zeroValue, typeInfo, hi, hz]
def PtM (mb c : Nat) (F : Tab3) (w : World) : Prop := ∃ S, SetM Tryd.prog 96 4 mb c S w ∧ ∀ n i j, okP n i j → S (ptL false n i j) = F n i j
section
variable {mb c : Nat} {F : Tab3} {w w' : World}
theorem PtM.keep (h : PtM mb c F w) (hb : Below w.heap.size w w') : PtM mb c F w' := by obtain ⟨S, h1, h2⟩ := h; exact ⟨S, h1.keep hb, h2⟩
theorem PtM.lt (h : PtM mb c F w) : mb < w.heap.size := by obtain ⟨S, h1, h2⟩ := h; exact h1.lt
theorem PtM.start (w : World) : PtM w.heap.size 0 (fun _ _ _ => false) (w.alloc (.map #[] 0)) := ⟨fun _ => false, SetM.start _ _ _ _ rfl (fun _ => rfl), fun _ _ _ _ => rfl⟩
theorem PtM.look (h : PtM mb c F w) {n : Int} {i j : Nat} (hk : okP n i j) : (Instr.lookup 87 (.map (some mb)) (.agg #[.bool false, .int .i64 n, .int .i64 i, .int .i64 j]) false).run Tryd.prog w = .ok (.bool (F n i j)) w := by
  obtain ⟨S, h1, h2⟩ := h
  rw [← h2 n i j hk]
  exact h1.look ptK Tryd.underlying87 Tryd.underlying4 (zeroBo w) (ptKey (b := false) hk)
open Classical in
theorem PtM.add (h : PtM mb c F w) (hc : c ≤ 100000) {n : Int} {i j : Nat} (hk : okP n i j) :
    ∃ w', (Instr.mapUpdate 87 (.map (some mb)) (.agg #[.bool false, .int .i64 n, .int .i64 i, .int .i64 j]) (.bool true)).run Tryd.prog w = .ok () w' ∧ PtM mb (c + 1) (fun n' i' j' => if n' = n ∧ i' = i ∧ j' = j then true else F n' i' j') w' ∧ w.grownBy w' (some mb) := by
  obtain ⟨S, h1, h2⟩ := h
  obtain ⟨w', hr, hs, hg⟩ := h1.add ptK Tryd.underlying87 Tryd.underlying4 (by unfold maxLen; omega) (ptKey (b := false) hk) (S' := fun l => if l = ptL false n i j then true else S l) (by simp) (fun l' h => by simp [h])
  refine ⟨w', hr, ⟨_, hs, fun n' i' j' hk' => ?_⟩, hg⟩
  by_cases e : n' = n ∧ i' = i ∧ j' = j
  · obtain ⟨rfl, rfl, rfl⟩ := e
    simp
  · have hne : ¬ ptL false n' i' j' = ptL false n i j := fun h => e (ptL_inj hk' hk h).2
    show (if _ then _ else _) = (if _ then _ else _)
    rw [if_neg hne, if_neg e, h2 n' i' j' hk']
end
theorem ints_getD2 {l : List Int} {i : Nat} (h : i < l.length) : (ints l)[i]'(by rw [ints_len]; exact h) = .int .i64 (l.getD i 0) := by
  unfold ints
  rw [List.getElem_map, List.getD_eq_getElem?_getD, List.getElem?_eq_getElem h]
  rfl
set_option maxHeartbeats 1000000 in
set_option maxRecDepth 100000 in
theorem oneE (F : Tab3) (mb c : Nat) (wd : List Int) (s : Sym) (i j : Nat) (wa : Option Addr) (wc : Nat) (W : World) (hm : PtM mb c F W) (hw : Sl W (.slice wa wd.length wc) (ints wd)) (hwc : (wd.length : Int) ≤ (wc : Int)) (hl : wd.length ≤ 12) (hi : i ≤ wd.length) (hj : j ≤ wd.length) (hs : s.term = false → okN s.n) :
    Calls Tryd.prog 84 #[.map (some mb), .slice wa wd.length wc, .agg #[.bool s.term, .int .i64 s.n], .int .i64 i, .int .i64 j] W fun e w' => e = .returned (.bool (hitF F wd s i j)) ∧ Below W.heap.size W w' := by
  obtain ⟨st, sn⟩ := s
  simp only at hs ⊢
  obtain ⟨w0, HW0⟩ := nameIt (W.alloc (.cells #[.bool st, .int .i64 sn] 60))
  have hb0 : Below W.heap.size W w0 := by rw [← HW0.out]; exact (Below.refl _ _).alloc (Nat.le_refl _) _
  have X1 : Hid (w0.heap[W.heap.size]? = some (.cells #[.bool st, .int .i64 sn] 60 (0, 0))) := by rw [← HW0.out]; exact bx_new _ _ _ rfl
  obtain ⟨x0, x1⟩ := bx_cells2 X1.out
  have hl1 := (Array.getElem?_eq_some_iff.1 X1.out).1
  have HB0 := Lib.hid hb0
  obtain ⟨B, HBn⟩ := nameIt (hitF F wd ⟨st, sn⟩ i j)
  have HBV : Hid (B = if st then decide (j = i + 1) && decide (wd[i]? = some sn) else F sn i j) := by show _ = _; rw [← HBn.out]; rfl
  cases st with
  | true =>
    simp only [if_true] at HBV
    by_cases hji : j = i + 1
    · have hil : i < wd.length := by omega
      obtain ⟨bb, bo, rfl, hce⟩ := (hw.keep hb0).at hil
      have c0 := hce i (by rw [ints_len]; exact hil)
      rw [ints_getD2 hil] at c0
      obtain ⟨v, HV⟩ := nameIt (wd.getD i 0)
      have HBE : Hid ((v == sn) = B) := by
        show _ = _
        rw [HBV.out, decide_eq_true hji, Bool.true_and, Bool.eq_iff_iff, beq_iff_eq, decide_eq_true_eq, List.getElem?_eq_getElem hil, ← HV.out, List.getD_eq_getElem?_getD, List.getElem?_eq_getElem hil]
        simp
      rw [HV.out] at c0
      obtain ⟨n, HN⟩ := nameIt wd.length
      rw [HN.out] at hil hl hwc
      rw [HBn.out, HN.out]
      have hil' : (i : Int) < (n : Int) := by omega
      have hic : (i : Int) ≤ (wc : Int) := by omega
      have k1 : ((j : Int) == (i : Int) + 1) = true := by simp; omega
      have k2 : IntKind.i64.wrap ((i : Int) + 1) = (i : Int) + 1 := IntWalk.i64_in _ (by omega)
      have k3 := HBE.out
      clear hm hw hs hji HBV hce
      go_enter Tryd.func84, Tryd.ntmps84
      go_upto_region 1 with fail
      rw [HW0.out]
      clear HW0
      go_upto_region 2 with fail
      go_quiet (fail)
      go_wp2_with fail
      go_ret
      exact ⟨rfl, HB0.out.trans ((below_drewN _ _).mono HB0.out.size)⟩
    · have HBE : Hid (B = false) := by show _ = _; rw [HBV.out, decide_eq_false hji]; rfl
      have k1 : ((j : Int) == (i : Int) + 1) = false := by simp; omega
      have k2 : IntKind.i64.wrap ((i : Int) + 1) = (i : Int) + 1 := IntWalk.i64_in _ (by omega)
      obtain ⟨n, HN⟩ := nameIt wd.length
      rw [HBn.out, HN.out]
      clear hm hw hs hji HBV
      go_enter Tryd.func84, Tryd.ntmps84
      go_upto_region 1 with fail
      rw [HW0.out]
      clear HW0
      go_upto_region 2 with fail
      go_quiet (fail)
      go_wp2_with fail
      go_ret
      exact ⟨by rw [HBE.out]; rfl, HB0.out.trans ((below_drewN _ _).mono HB0.out.size)⟩
  | false =>
    simp only [Bool.false_eq_true, if_false] at HBV
    have hlk := (hm.keep hb0).look (n := sn) (i := i) (j := j) ⟨hs rfl, by omega, by omega⟩
    rw [← HBV.out] at hlk
    obtain ⟨n, HN⟩ := nameIt wd.length
    rw [HBn.out, HN.out]
    clear hm hw hs HBV
    go_enter Tryd.func84, Tryd.ntmps84
    go_upto_region 1 with fail
    rw [HW0.out]
    clear HW0
    go_wp2_with fail
    go_ret
    exact ⟨rfl, HB0.out⟩
theorem covF_none {F : Tab3} {w : List Int} {s : Sym} {l : List Sym} {i j m : Nat} (h : ∀ m', i ≤ m' → m' < m → (hitF F w s i m' && covF F w l m' j) = false) (hm : j < m) : covF F w (s :: l) i j = false := by
  cases hc : covF F w (s :: l) i j with
  | false => rfl
  | true =>
    obtain ⟨m', h1, h2, h3, h4⟩ := covF_cons.1 hc
    have := h m' h1 (by omega)
    rw [h3, h4] at this; cases this
theorem covF_some {F : Tab3} {w : List Int} {s : Sym} {l : List Sym} {i j m : Nat} (h1 : i ≤ m) (h2 : m ≤ j) (h3 : hitF F w s i m = true) (h4 : covF F w l m j = true) : covF F w (s :: l) i j = true := covF_cons.2 ⟨m, h1, h2, h3, h4⟩
theorem tailRun {W : World} {s : Sym} {l : List Sym} {ra : Option Addr} {rc : Nat} (hr : Rd AnyB W (.sl ((s :: l).map Sym.d)) [.slice ra (s :: l).length rc]) :
    ∃ ra' rc', (∀ W', (Instr.slice 55 (.slice ra (s :: l).length rc) (some (.int .i64 1)) none none).run Tryd.prog W' = .ok (.slice ra' l.length rc') W') ∧ ∀ W', Below W.heap.size W W' → Rd AnyB W' (.sl (l.map Sym.d)) [.slice ra' l.length rc'] := by
  obtain ⟨sb, so, cap, hsv, hcc1, hcc2⟩ := hr.headed (by simp) (syms_cells _) (by decide)
  rw [List.length_map] at hsv hcc1
  obtain ⟨rfl, rfl⟩ : ra = some ⟨sb, so, none⟩ ∧ rc = cap := by simpa using hsv
  have ht := hr.tail (syms_cells _) (by simp)
  rw [show (List.map Sym.d (s :: l)).drop 1 = l.map Sym.d from rfl, show (s :: l).length - 1 = l.length from rfl] at ht
  refine ⟨_, _, fun W' => ?_, fun W' hb => ht.below hb⟩
  obtain ⟨n, HN⟩ : ∃ n, (s :: l).length = n + 1 := ⟨l.length, rfl⟩
  have hn : l.length = n := by simpa using HN
  rw [HN] at hcc1
  have hs := run_slice_l (P := Tryd.prog) W' 55 (some ⟨sb, so, none⟩) (n + 1) rc (by kernel_rfl) .i64 1 (by omega) (by omega)
  rw [HN, hs, hn]
  by_cases hct : rc = 1
  · subst hct; simp [go_sem]
  · simp [go_sem, hct]
set_option maxHeartbeats 2000000 in
set_option maxRecDepth 100000 in
theorem coversE (F : Tab3) (mb c : Nat) (wd : List Int) (wa : Option Addr) (wc : Nat) (hl : wd.length ≤ 12) (hwc : (wd.length : Int) ≤ (wc : Int)) : ∀ (l : List Sym) (ra : Option Addr) (rc : Nat) (i j : Nat) (W : World), PtM mb c F W → Sl W (.slice wa wd.length wc) (ints wd) → Rd AnyB W (.sl (l.map Sym.d)) [.slice ra l.length rc] → i ≤ j → j ≤ wd.length → (∀ s ∈ l, s.term = false → okN s.n) →
    Calls Tryd.prog 64 #[.map (some mb), .slice wa wd.length wc, .slice ra l.length rc, .int .i64 i, .int .i64 j] W fun e w' => e = .returned (.bool (covF F wd l i j)) ∧ Below W.heap.size W w' := by
  intro l
  induction l with
  | nil =>
    intro ra rc i j W hm hw hr hij hj hs
    have HBV : Hid (((i : Int) == (j : Int)) = covF F wd [] i j) := by show _ = _; unfold covF; rw [Bool.eq_iff_iff]; simp; omega
    obtain ⟨B, HBn⟩ := nameIt (covF F wd [] i j)
    rw [HBn.out] at HBV ⊢
    have k1 := HBV.out
    obtain ⟨n, HN⟩ := nameIt wd.length
    rw [HN.out, show ([] : List Sym).length = 0 from rfl]
    clear hm hw hr
    go_enter Tryd.func64, Tryd.ntmps64
    go_wp2_with fail
    go_ret
    exact ⟨rfl, Below.refl _ _⟩
  | cons s l ih =>
    intro ra rc i j W hm hw hr hij hj hs
    have hi : i ≤ wd.length := by omega
    have HIJ := Lib.hid hij
    clear hij
    obtain ⟨hc1, hc2⟩ := hr.bounds.2
    unfold maxLen at hc2
    have IH := Lib.hid ih
    have HS := Lib.hid hs
    have HM := Lib.hid hm
    have HW := Lib.hid hw
    have HR := Lib.hid hr
    have HNONE := Lib.hid (fun (m : Nat) (h : ∀ m', i ≤ m' → m' < m → (hitF F wd s i m' && covF F wd l m' j) = false) (hm : j < m) => covF_none h hm)
    have HSOME := Lib.hid (fun (m : Nat) (h1 : i ≤ m) (h2 : m ≤ j) h3 h4 => @covF_some F wd s l i j m h1 h2 h3 h4)
    have HONE := Lib.hid (fun (m : Nat) (w' : World) (hb : Below W.heap.size W w') (hm : m ≤ wd.length) => oneE F mb c wd s i m wa wc w' (HM.out.keep hb) (HW.out.keep hb) hwc hl hi hm (fun e => HS.out s (by simp) e))
    have HREC := Lib.hid (fun (m : Nat) (w' : World) (hb : Below W.heap.size W w') (ra' : Option Addr) (rc' : Nat) (hr : Rd AnyB w' (.sl (l.map Sym.d)) [.slice ra' l.length rc']) (hm : m ≤ j) => IH.out ra' rc' m j w' (HM.out.keep hb) (HW.out.keep hb) hr hm hj (fun s hs e => HS.out s (List.mem_cons_of_mem _ hs) e))
    obtain ⟨sb, so, cap, hsv, hcc1, hcc2⟩ := hr.headed (by simp) (syms_cells _) (by decide)
    rw [List.length_map] at hsv hcc1
    obtain ⟨rfl, rfl⟩ : ra = some ⟨sb, so, none⟩ ∧ rc = cap := by simpa using hsv
    clear hsv
    have HAT := Lib.hid (fun (w' : World) (hb : Below W.heap.size W w') => by
      have h := (HR.out.below hb).sym_at (i := 0) (by simp)
      obtain ⟨b', off', e', -, -, x0, x1⟩ := h
      simp at e'
      obtain ⟨rfl, rfl⟩ := e'
      simp only [List.getElem_cons_zero, Nat.zero_mul, Nat.add_zero] at x0 x1
      exact And.intro x0 x1)
    obtain ⟨ra', rc', hslt, htl⟩ := tailRun hr
    have HTL := Lib.hid htl
    have HREC2 := Lib.hid (fun (m : Nat) (w' : World) (hb : Below W.heap.size W w') (hm : m ≤ j) => HREC.out m w' hb ra' rc' (HTL.out w' hb) hm)
    obtain ⟨n, HN⟩ := nameIt wd.length
    obtain ⟨B, HBn⟩ := nameIt (covF F wd (s :: l) i j)
    simp only [HBn.out] at HNONE HSOME
    rw [HBn.out]
    obtain ⟨l1, HL1⟩ := nameIt (s :: l).length
    obtain ⟨l2, HL2⟩ := nameIt l.length
    have hl12 : l1 = l2 + 1 := by rw [← HL1.out, ← HL2.out]; simp
    have HL12 : Hid (1 ≤ l1) := by show _ ≤ _; omega
    have HLC : Hid (l1 ≤ rc) := by rw [← HL1.out]; exact hcc1
    clear hl12
    rw [HN.out] at hi hj hl hwc HONE HREC2
    rw [HL1.out] at hslt
    rw [HL2.out] at hslt HREC2
    rw [HN.out, HL1.out]
    obtain ⟨st, HST⟩ := nameIt s.term
    obtain ⟨sn, HSN⟩ := nameIt s.n
    rw [HST.out, HSN.out] at HAT HONE
    have hl11 : 1 ≤ l1 := HL12.out
    have hlrc : l1 ≤ rc := HLC.out
    have k0 : ((l1 : Int) == 0) = false := by simp; omega
    unfold maxLen at hcc2
    clear hm hw hr hs ih IH HREC hcc1 htl hc1 hc2
    go_enter Tryd.func64, Tryd.ntmps64
    go_wp2_with fail
    have hil : i ≤ j := HIJ.out
    go_loopg [11] (j + 1 - i) (fun gg v11 wr => ∃ m : Nat, i ≤ m ∧ m ≤ j + 1 ∧ j + 1 - m ≤ gg ∧ v11 = .int .i64 m ∧ Hid (Below W.heap.size W wr) ∧ Hid (∀ m', i ≤ m' → m' < m → (hitF F wd s i m' && covF F wd l m' j) = false))
    case atStart => exact ⟨i, by omega, by omega, by omega, rfl, Below.refl _ _, fun m' h1 h2 => absurd h1 (by omega)⟩
    case round =>
      obtain ⟨m, hm1, hm2, hg, rfl, HB, HNO⟩ := hrel
      by_cases hlt : m ≤ j
      · have hlt' : (m : Int) ≤ (j : Int) := by omega
        obtain ⟨x0, x1⟩ := HAT.out wr HB.out
        have HC1 := Lib.hid (HONE.out m wr HB.out (by omega))
        have HNX : Hid ((hitF F wd s i m && covF F wd l m j) = false → ∀ m', i ≤ m' → m' < m + 1 → (hitF F wd s i m' && covF F wd l m' j) = false) := by
          intro h m' h1 h2
          by_cases e : m' = m
          · rw [e]; exact h
          · exact HNO.out m' h1 (by omega)
        have HS1 := Lib.hid (HSOME.out m hm1 hlt)
        obtain ⟨hv, HHV⟩ := nameIt (hitF F wd s i m)
        rw [HHV.out] at HC1 HNX HS1
        have hmn : m ≤ n := by omega
        have HC2 := Lib.hid (fun w' hb => HREC2.out m w' hb hlt)
        obtain ⟨cv, HCV⟩ := nameIt (covF F wd l m j)
        rw [HCV.out] at HNX HS1
        simp only [HCV.out] at HC2
        have k2 : IntKind.i64.wrap ((m : Int) + 1) = (m : Int) + 1 := IntWalk.i64_in _ (by omega)
        clear HNO
        go_wp2_with fail
        refine HC1.out.mono ?_
        rintro e w1 ⟨rfl, hb1⟩
        have HB1 : Hid (Below W.heap.size W w1) := HB.out.trans (hb1.mono HB.out.size)
        clear hb1 x0 x1
        cases hv with
        | false =>
          have HNE := Lib.hid (HNX.out rfl)
          clear HNX
          go_wp2_with fail
          go_roundg (j + 1 - (m + 1))
          case measure => omega
          case rel => exact ⟨m + 1, by omega, by omega, by omega, by go_num, HB1.out, HNE.out⟩
        | true =>
          have HC3 := Lib.hid (HC2.out w1 HB1.out)
          go_wp2_with fail
          refine HC3.out.mono ?_
          rintro e w2 ⟨rfl, hb2⟩
          have HB2 : Hid (Below W.heap.size W w2) := HB1.out.trans (hb2.mono HB1.out.size)
          clear hb2
          cases cv with
          | false =>
            have HNE := Lib.hid (HNX.out rfl)
            clear HNX
            go_wp2_with fail
            go_roundg (j + 1 - (m + 1))
            case measure => omega
            case rel => exact ⟨m + 1, by omega, by omega, by omega, by go_num, HB2.out, HNE.out⟩
          | true =>
            have HE : Hid (B = true) := HS1.out (by trivial) (by trivial)
            clear HNX HS1
            go_wp2_with fail
            go_ret
            exact ⟨by rw [HE.out]; rfl, HB2.out⟩
      · have hlt' : ¬ (m : Int) ≤ (j : Int) := by omega
        have HE : Hid (B = false) := HNONE.out m HNO.out (by omega)
        clear HNO
        go_wp2_with fail
        go_ret
        exact ⟨by rw [HE.out]; rfl, HB.out⟩
structure RgI (w0 : World) (mb : Nat) (F : Tab3) (wr : World) : Prop where
  pt : ∃ c, PtM mb c F wr ∧ c + cntF F ≤ 1690
  lo : w0.heap.size ≤ mb
  bel : Below w0.heap.size w0 wr
section
variable {w0 wr w' : World} {mb : Nat} {F : Tab3}
theorem RgI.keep (h : RgI w0 mb F wr) (hb : Below wr.heap.size wr w') : RgI w0 mb F w' := by
  obtain ⟨⟨c, h1, h2⟩, h3, h4⟩ := h
  exact ⟨⟨c, h1.keep hb, h2⟩, h3, h4.trans (hb.mono h4.size)⟩
theorem RgI.start (w0 : World) : RgI w0 w0.heap.size (fun _ _ _ => false) (w0.alloc (.map #[] 0)) := ⟨⟨0, PtM.start w0, by have := cntF_le (fun _ _ _ => false); omega⟩, Nat.le_refl _, (Below.refl _ _).alloc (Nat.le_refl _) _⟩
theorem RgI.add (h : RgI w0 mb F wr) {n : Int} {i j : Nat} (h0 : 0 ≤ n) (h1 : n < 10) (h2 : i ≤ 12) (h3 : j ≤ 12) (hF : F n i j = false) :
    ∃ w', (Instr.mapUpdate 87 (.map (some mb)) (.agg #[.bool false, .int .i64 n, .int .i64 i, .int .i64 j]) (.bool true)).run Tryd.prog wr = .ok () w' ∧ RgI w0 mb (fun n' i' j' => if n' = n ∧ i' = i ∧ j' = j then true else F n' i' j') w' ∧ wr.grownBy w' (some mb) := by
  obtain ⟨⟨c, hp, hc⟩, hlo, hb⟩ := h
  obtain ⟨w', hr, hs, hg⟩ := hp.add (by omega) (n := n) (i := i) (j := j) ⟨⟨h0, by omega⟩, by omega, by omega⟩
  have := cntF_put h0 h1 h2 h3 hF
  exact ⟨w', hr, ⟨⟨c + 1, hs, by omega⟩, hlo, hb.grown hg hb.size (fun k e => by cases e; exact hlo)⟩, hg⟩
end
def RangesPost (rules : List Rule) (wd : List Int) (W : World) (e : Ending) (w' : World) : Prop :=
  ∃ mb c F, e = .returned (.map (some mb)) ∧ PtM mb c F w' ∧ SoundF rules wd F ∧ ClosedF rules wd F ∧ W.heap.size ≤ mb ∧ Below W.heap.size W w'
set_option maxHeartbeats 4000000 in
set_option maxRecDepth 100000 in
theorem rangesE (g : Gram) (ar : Option Addr) (cr : Nat) (wd : List Int) (wa : Option Addr) (wc : Nat) (W : World) (hr : Rd AnyB W (.sl (g.rules.map Rule.d)) [.slice ar g.rules.length cr]) (hw : Sl W (.slice wa wd.length wc) (ints wd)) (hwc : (wd.length : Int) ≤ (wc : Int)) (hl : wd.length ≤ 12)
    (hL : ∀ r ∈ g.rules, 0 ≤ r.left ∧ r.left < 10) (hS : ∀ r ∈ g.rules, ∀ s ∈ r.right, s.term = false → okN s.n) :
    Calls Tryd.prog 43 #[.agg #[.int .i64 g.terms, .int .i64 g.nons, .int .i64 g.start, .slice ar g.rules.length cr], .slice wa wd.length wc] W (RangesPost g.rules wd W) := by
  obtain ⟨hc1, hc2⟩ := hr.bounds.2
  unfold maxLen at hc2
  obtain ⟨PST, HP⟩ := nameIt (RangesPost g.rules wd W)
  have HFIN : Hid (∀ w0 mb F w', W.heap.size ≤ w0.heap.size → Below W.heap.size W w0 → RgI w0 mb F w' → SoundF g.rules wd F → ClosedF g.rules wd F → PST (.returned (.map (some mb))) w') := by
    intro w0 mb F w' h0 hb h1 h2 h3
    obtain ⟨⟨c, h4, _⟩, h5, h6⟩ := h1
    rw [← HP.out]
    exact ⟨mb, c, F, rfl, h4, h2, h3, Nat.le_trans h0 h5, hb.trans (h6.mono h0)⟩
  rw [HP.out]
  clear HP
  obtain ⟨gt, HGT⟩ := nameIt g.terms
  obtain ⟨gn, HGN⟩ := nameIt g.nons
  obtain ⟨gs, HGS⟩ := nameIt g.start
  obtain ⟨K, HKn⟩ := nameIt g.rules.length
  obtain ⟨n, HNn⟩ := nameIt wd.length
  have HL := Lib.hid hL
  have HS := Lib.hid hS
  obtain ⟨w0, HW0⟩ := nameIt (W.alloc (.cells #[.int .i64 gt, .int .i64 gn, .int .i64 gs, .slice ar K cr] 24))
  have HB0 : Hid (Below W.heap.size W w0) := by rw [← HW0.out]; exact (Below.refl _ _).alloc (Nat.le_refl _) _
  have X1 : Hid (w0.heap[W.heap.size]? = some (.cells #[.int .i64 gt, .int .i64 gn, .int .i64 gs, .slice ar K cr] 24 (0, 0))) := by rw [← HW0.out]; exact bx_new _ _ _ rfl
  have HRR := Lib.hid (hr.below HB0.out)
  have HWD := Lib.hid (hw.keep HB0.out)
  have hl1 : W.heap.size < w0.heap.size := (Array.getElem?_eq_some_iff.1 X1.out).1
  have hmk : ∀ W : World, (Instr.makeMap 87 none).run Tryd.prog W = .ok (.map (some W.heap.size)) (W.alloc (.map #[] 0)) := fun W => by
    simp [Instr.makeMap, run_underlying Tryd.underlying87]; try rfl
  have HCOV := Lib.hid (fun (F : Tab3) (mb c : Nat) (l : List Sym) ra rc i j w' hp hs hr hij hj h2 => coversE F mb c wd wa wc hl hwc l ra rc i j w' hp hs hr hij hj h2)
  have HST : Hid (RgI w0 w0.heap.size (fun _ _ _ => false) (w0.alloc (.map #[] 0))) := RgI.start w0
  have HSO : Hid (SoundF g.rules wd (fun _ _ _ => false)) := fun n i j h => by cases h
  rw [HKn.out] at HRR hc1
  rw [HNn.out] at HWD hl hwc
  simp only [HNn.out] at HCOV
  rw [HGT.out, HGN.out, HGS.out, HKn.out, HNn.out]
  clear hr hw hL hS
  go_enter Tryd.func43, Tryd.ntmps43
  go_upto_region 1 with fail
  rw [HW0.out]
  clear HW0
  go_wp2_with fail
  obtain ⟨w1, HW1⟩ := nameIt (w0.alloc (.map #[] 0))
  rw [HW1.out] at HST
  rw [HW1.out]
  clear HW1
  obtain ⟨mb, HMB⟩ := nameIt w0.heap.size
  have HMB2 : Hid (w0.heap.size ≤ mb) := by show _ ≤ _; rw [HMB.out]; exact Nat.le_refl _
  rw [HMB.out] at HST
  rw [HMB.out]
  go_loopg [6] 1692 (fun gg v6 wr => ∃ (F : Tab3) (ag : Bool), v6 = .bool ag ∧ (ag = true → cntF F + 1 ≤ gg) ∧ Hid (RgI w0 mb F wr) ∧ Hid (SoundF g.rules wd F) ∧ Hid (ag = false → ClosedF g.rules wd F))
  case atStart => exact ⟨_, true, rfl, fun _ => by have := cntF_le (fun _ _ _ => false); omega, HST.out, HSO.out, fun h => by cases h⟩
  case round =>
    clear HST HSO
    obtain ⟨F, ag, rfl, hg, HI, HF, HC⟩ := hrel
    cases ag with
    | false =>
      have HE := Lib.hid (HFIN.out w0 mb F wr HB0.out.size HB0.out HI.out HF.out (HC.out rfl))
      clear hg
      go_wp2_with fail
      exact HE.out
    | true =>
      have hg' := hg rfl
      clear hg
      have HP0 : Hid (PassF g.rules wd F F false 0 0 0) := PassF.start HF.out
      have X1a := Lib.hid (bx_keep X1.out HI.out.bel)
      obtain ⟨x0, x1, x2, x3⟩ := bx_cells4 X1a.out
      have hl2 : W.heap.size < wr.heap.size := (Array.getElem?_eq_some_iff.1 X1a.out).1
      go_wp2_with fail
      clear x0 x1 x2 x3 X1a
      obtain ⟨wo, rfl⟩ : ∃ wo : World, wo = wr := ⟨_, rfl⟩
      go_loopg [6, 17] K (fun gg v6 v17 wr => ∃ (k : Nat) (F' : Tab3) (ag : Bool), k ≤ K ∧ K - k ≤ gg ∧ v6 = .bool ag ∧ v17 = .int .i64 k ∧ Hid (RgI w0 mb F' wr) ∧ Hid (PassF g.rules wd F F' ag k 0 0))
      case atStart => exact ⟨0, F, false, by omega, by omega, rfl, rfl, HI.out, HP0.out⟩
      case round =>
        clear HP0 HI
        obtain ⟨k, F', ag, hk, hg2, rfl, rfl, HI, HPA⟩ := hrel
        by_cases hlt : k < K
        · have hlt' : (k : Int) < (K : Int) := by omega
          have hkc : (k : Int) ≤ (cr : Int) := by omega
          have hkl : k < g.rules.length := by rw [HKn.out]; exact hlt
          obtain ⟨rb, ro, vr, hae, -, hbl, d0, d1, hkr⟩ := HRR.out.rule_at hkl
          replace d0 := (HI.out.bel.cell (lt_of_cell d0)).trans d0
          replace d1 := (HI.out.bel.cell (lt_of_cell d1)).trans d1
          obtain ⟨av2, cv2, rfl, hcx1, hcx2⟩ := hkr.form
          rw [List.length_map] at hcx1 hkr d1
          obtain ⟨hl0, hl9⟩ := HL.out _ (List.getElem_mem hkl)
          have HSY := Lib.hid (HS.out _ (List.getElem_mem hkl))
          have HSKP := Lib.hid (fun F' ag i j (h : PassF g.rules wd F F' ag k i j) hc => h.skip hkl hc)
          have HPUT := Lib.hid (fun F' ag i j (h : PassF g.rules wd F F' ag k i j) hi hj hF hc => h.put hkl hl0 hl9 (by rw [HNn.out]; exact hl) hi hj hF hc)
          obtain ⟨lr, HLf⟩ := nameIt (g.rules[k]'hkl).left
          obtain ⟨RR, HRR2⟩ := nameIt (g.rules[k]'hkl).right
          rw [HLf.out] at d0 hl0 hl9
          simp only [HLf.out, HRR2.out, HNn.out] at HSKP HPUT
          rw [HRR2.out] at d1 hkr hcx1 HSY
          have HCO := Lib.hid (fun (F : Tab3) (c : Nat) (i j : Nat) w' hp hs hr hij hj => HCOV.out F mb c RR av2 cv2 i j w' hp hs hr hij hj HSY.out)
          obtain ⟨rn, HRN⟩ := nameIt RR.length
          rw [HRN.out] at d1 hkr hcx1
          simp only [HRN.out] at HCO
          have HKR : Hid (Rd AnyB w0 (.sl (RR.map Sym.d)) [.slice av2 rn cv2]) := hkr
          obtain ⟨w4, HW4⟩ := nameIt (wr.alloc (.cells #[.int .i64 lr, .slice av2 rn cv2] 57))
          have hb4 : Below wr.heap.size wr w4 := by rw [← HW4.out]; exact (Below.refl _ _).alloc (Nat.le_refl _) _
          have X8 : Hid (w4.heap[wr.heap.size]? = some (.cells #[.int .i64 lr, .slice av2 rn cv2] 57 (0, 0))) := by rw [← HW4.out]; exact bx_new _ _ _ rfl
          have HI4 := Lib.hid (HI.out.keep hb4)
          have hmb8 : mb < wr.heap.size := by obtain ⟨⟨c, h, _⟩, _, _⟩ := HI.out; exact h.lt
          obtain ⟨b8, HB8⟩ := nameIt wr.heap.size
          rw [HB8.out] at X8 hmb8
          have HROW := Lib.hid (fun F' ag i j (h : PassF g.rules wd F F' ag k i j) (hj : n < j) => h.row (by rw [HNn.out]; exact hj))
          have HRUL := Lib.hid (fun F' ag i j (h : PassF g.rules wd F F' ag k i j) (hi : n < i) => h.rule (by rw [HNn.out]; exact hi))
          subst hae
          go_upto_region 8 with fail
          rw [HW4.out, HB8.out]
          clear d0 d1 hbl hkr HI HW4 hb4
          go_wp2_with fail
          go_loopg [6, 9] (n + 1) (fun gg v6 v9 wr => ∃ (i : Nat) (F' : Tab3) (ag : Bool), i ≤ n + 1 ∧ n + 1 - i ≤ gg ∧ v6 = .bool ag ∧ v9 = .int .i64 i ∧ Hid (RgI w0 mb F' wr) ∧ Hid (wr.heap[b8]? = some (.cells #[.int .i64 lr, .slice av2 rn cv2] 57 (0, 0))) ∧ Hid (PassF g.rules wd F F' ag k i i))
          case atStart => exact ⟨0, F', ag, by omega, by omega, rfl, rfl, HI4.out, X8.out, HPA.out⟩
          case round =>
            clear HI4 X8 HPA
            obtain ⟨i, F', ag, hi, hg3, rfl, rfl, HI, X8, HPA⟩ := hrel
            by_cases hlt2 : i ≤ n
            · have hlt2' : (i : Int) ≤ (n : Int) := by omega
              go_wp2_with fail
              go_loopg [6, 10] (n + 1 - i) (fun gg v6 v10 wr => ∃ (j : Nat) (F' : Tab3) (ag : Bool), i ≤ j ∧ j ≤ n + 1 ∧ n + 1 - j ≤ gg ∧ v6 = .bool ag ∧ v10 = .int .i64 j ∧ Hid (RgI w0 mb F' wr) ∧ Hid (wr.heap[b8]? = some (.cells #[.int .i64 lr, .slice av2 rn cv2] 57 (0, 0))) ∧ Hid (PassF g.rules wd F F' ag k i j))
              case atStart => exact ⟨i, F', ag, by omega, by omega, by omega, rfl, rfl, HI.out, X8.out, HPA.out⟩
              case round =>
                clear HI X8 HPA
                obtain ⟨j, F', ag, hj1, hj2, hg4, rfl, rfl, HI, X8, HPA⟩ := hrel
                by_cases hlt3 : j ≤ n
                · have hlt3' : (j : Int) ≤ (n : Int) := by omega
                  obtain ⟨y0, y1⟩ := bx_cells2 X8.out
                  have hl8 : b8 < wr.heap.size := (Array.getElem?_eq_some_iff.1 X8.out).1
                  have k2 : IntKind.i64.wrap ((j : Int) + 1) = (j : Int) + 1 := IntWalk.i64_in _ (by omega)
                  obtain ⟨w5, HW5⟩ := nameIt (wr.alloc (.cells #[.bool false, .int .i64 lr, .int .i64 i, .int .i64 j] 96))
                  have hb5 : Below wr.heap.size wr w5 := by rw [← HW5.out]; exact (Below.refl _ _).alloc (Nat.le_refl _) _
                  have X5 : Hid (w5.heap[wr.heap.size]? = some (.cells #[.bool false, .int .i64 lr, .int .i64 i, .int .i64 j] 96 (0, 0))) := by rw [← HW5.out]; exact bx_new _ _ _ rfl
                  have HI5 := Lib.hid (HI.out.keep hb5)
                  have X85 := Lib.hid (bx_keep X8.out hb5)
                  obtain ⟨c, hpt, hcn⟩ := HI5.out.pt
                  have hlk := hpt.look (n := lr) (i := i) (j := j) ⟨⟨hl0, by omega⟩, by omega, by omega⟩
                  have HCE := Lib.hid (HCO.out F' c i j w5 hpt (HWD.out.keep HI5.out.bel) ((HKR.out.below (HI5.out.bel)) ) hj1 hlt3)
                  have HSK := Lib.hid (HSKP.out F' ag i j HPA.out)
                  have HPU := Lib.hid (HPUT.out F' ag i j HPA.out hlt2 hlt3)
                  have HADD := Lib.hid (fun w' (h : RgI w0 mb F' w') hF => h.add (n := lr) (i := i) (j := j) hl0 hl9 (by omega) (by omega) hF)
                  obtain ⟨fv, HFV⟩ := nameIt (F' lr i j)
                  rw [HFV.out] at hlk HSK HPU HADD
                  obtain ⟨cv, HCV⟩ := nameIt (covF F' wd RR i j)
                  rw [HCV.out] at HCE HSK HPU
                  obtain ⟨z0, z1, z2, z3⟩ := bx_cells4 X5.out
                  obtain ⟨y0', y1'⟩ := bx_cells2 X85.out
                  have hl9' : wr.heap.size < w5.heap.size := (Array.getElem?_eq_some_iff.1 X5.out).1
                  obtain ⟨b11, HB11⟩ := nameIt wr.heap.size
                  rw [HB11.out] at X5 z0 z1 z2 z3 hl9' hl8
                  go_upto_region 15 with fail
                  rw [HW5.out, HB11.out]
                  clear HI X8 HPA HW5 hb5 hpt y0 y1
                  cases fv with
                  | true =>
                    have HP2 := Lib.hid (HSK.out (fun h => by cases h))
                    clear HSK HPU HADD
                    go_wp2_with fail
                    go_roundg (n + 1 - (j + 1))
                    case measure => omega
                    case rel => exact ⟨j + 1, F', ag, by omega, by omega, by omega, rfl, by go_num, HI5.out, X85.out, HP2.out⟩
                  | false =>
                    go_wp2_with fail
                    refine HCE.out.mono ?_
                    rintro e w6 ⟨rfl, hb6⟩
                    have HI6 := Lib.hid (HI5.out.keep hb6)
                    have X86 := Lib.hid (bx_keep X85.out hb6)
                    have X56 := Lib.hid (bx_keep X5.out hb6)
                    clear hb6 z0 z1 z2 z3 y0' y1' hlk
                    obtain ⟨z0, z1, z2, z3⟩ := bx_cells4 X56.out
                    cases cv with
                    | false =>
                      have HP2 := Lib.hid (HSK.out (fun _ => rfl))
                      clear HSK HPU HADD
                      go_wp2_with fail
                      go_roundg (n + 1 - (j + 1))
                      case measure => omega
                      case rel => exact ⟨j + 1, F', ag, by omega, by omega, by omega, rfl, by go_num, HI6.out, X86.out, HP2.out⟩
                    | true =>
                      have HP2 := Lib.hid (HPU.out (by trivial) (by trivial))
                      obtain ⟨w7, hup, hI7, hg7⟩ := HADD.out w6 HI6.out (by trivial)
                      have HI7 := Lib.hid hI7
                      have X87 : Hid (w7.heap[b8]? = some (.cells #[.int .i64 lr, .slice av2 rn cv2] 57 (0, 0))) := (hg7.block b8 (Array.getElem?_eq_some_iff.1 X86.out).1 (by intro e; cases e; omega)).trans X86.out
                      clear HSK HPU HADD hI7 hg7
                      go_wp2_with fail
                      go_roundg (n + 1 - (j + 1))
                      case measure => omega
                      case rel => exact ⟨j + 1, _, true, by omega, by omega, by omega, rfl, by go_num, HI7.out, X87.out, HP2.out⟩
                · have hlt3' : ¬ (j : Int) ≤ (n : Int) := by omega
                  have HP2 := Lib.hid (HROW.out F' ag i j HPA.out (by omega))
                  have k2 : IntKind.i64.wrap ((i : Int) + 1) = (i : Int) + 1 := IntWalk.i64_in _ (by omega)
                  clear HPA
                  go_wp2_with fail
                  go_roundg (n + 1 - (i + 1))
                  case measure => omega
                  case rel => exact ⟨i + 1, F', ag, by omega, by omega, rfl, by go_num, HI.out, X8.out, HP2.out⟩
            · have hlt2' : ¬ (i : Int) ≤ (n : Int) := by omega
              have HP2 := Lib.hid (HRUL.out F' ag i i HPA.out (by omega))
              clear HPA
              go_wp2_with fail
              go_roundg (K - (k + 1))
              case measure => omega
              case rel => exact ⟨k + 1, F', ag, by omega, by omega, rfl, by go_num, HI.out, HP2.out⟩
        · have hend : k = K := by omega
          have hlt' : ¬ (k : Int) < (K : Int) := by omega
          have HSN : Hid (SoundF g.rules wd F') := HPA.out.snd
          have HLS : Hid (ag = true → cntF F' + 1 ≤ cntF F) := fun h => HPA.out.less h
          have HCL : Hid (ag = false → ClosedF g.rules wd F') := fun h => by
            have h1 := HPA.out
            rw [h] at h1
            exact h1.closed (by rw [HKn.out]; omega)
          clear HPA
          go_wp2_with fail
          go_roundg (cntF F)
          case measure => omega
          case rel => exact ⟨F', ag, rfl, HLS.out, HI.out, HSN.out, HCL.out⟩
end Fb
end Go.Proofs.YtgcfpbjifjklbaaDoor
namespace Go.Proofs.YtgcfpbjifjklbaaDoor
open Go.RowKit
mutual
def coverP : Tree → Nat → Nat → Nat → List Int
  | .node r _ ks, n, f, t => if r = -1 then [] else coverPL 0 ks n f t
def coverPL : Nat → List Tree → Nat → Nat → Nat → List Int
  | _, [], _, _, _ => []
  | i, k :: ks, n, f, t => if n ≤ f ∧ t ≤ n + lv k then (i : Int) :: coverP k n f t else coverPL (i + 1) ks (n + lv k) f t
end
structure CoverRel (t : Tree) (f tz : Nat) (w : World) (c : Tree) (n : Nat) (P : List Int) (cv pv : Value) (wr : World) : Prop where
  box : wr.heap[w.heap.size]? = some (.cells #[.int .i64 c.rule, .int .i64 c.term, cv] 32 (0, 0))
  kid : Rd AnyB w (.sl (c.kids.map Tree.d)) [cv]
  own : wr.ownsRow (w.heap.size + 1) 3 1 pv P.length (ints P)
  bel : Below w.heap.size w wr
  eq : P ++ coverP c n f tz = coverP t 0 f tz
  lt : n + lv c ≤ lv t
  len : P.length + (nodes c).length ≤ (nodes t).length
end Go.Proofs.YtgcfpbjifjklbaaDoor
namespace Go.Proofs.YtgcfpbjifjklbaaDoor
open Go.RowKit
structure InsRel (t : Tree) (f tz : Nat) (w : World) (c : Tree) (P : List Int) (pv : Value) (wr : World) : Prop where
  box : ∃ v, wr.heap[w.heap.size]? = some (.cells #[.int .i64 t.rule, .int .i64 t.term, v] 32 (0, 0)) ∧ Rd AnyB w (.sl (t.kids.map Tree.d)) [v]
  sl : Sl wr pv (ints P)
  bel : Below w.heap.size w wr
  ex : belowT t P = some c
  eq : P ++ coverP c (rangeT t P).1 f tz = coverP t 0 f tz
  lt : (rangeT t P).1 + lv c ≤ lv t
  len : P.length + (nodes c).length ≤ (nodes t).length
end Go.Proofs.YtgcfpbjifjklbaaDoor
namespace Go.Proofs.YtgcfpbjifjklbaaDoor
open Go.RowKit
def leafAt (t : Tree) (p : List Int) : Bool := match belowT t p with | some x => x.rule == -1 | none => false
def hit (t : Tree) (n : Int) (p : List Int) : Bool := leafAt t p && decide (((rangeT t p).1 : Int) = n)
theorem hit_cons {t k : Tree} (hr : t.rule ≠ -1) {j : Nat} (hj : t.kids[j]? = some k) (n : Int) (p : List Int) : hit t n ((j : Int) :: p) = hit k (n - lvs (t.kids.take j)) p := by
  obtain ⟨h1, h2⟩ := List.getElem?_eq_some_iff.1 hj
  unfold hit leafAt
  rw [belowT, kidAt_in hr h1, h2, rangeT_cons hj]
  simp only [Option.bind_some, shift]
  congr 1
  exact decide_eq_decide.2 ⟨fun h => by omega, fun h => by omega⟩
mutual
theorem hits : ∀ (t : Tree) (n : Int), (paths t).filter (hit t n) = if 0 ≤ n ∧ n < lv t then [leafP t n.toNat] else []
  | .node r tm ks, n => by
    rw [paths]
    by_cases h : r = -1
    · have hl : lv (.node r tm ks) = 1 := lv_leaf (by simpa [Tree.rule] using h)
      have hp : leafP (.node r tm ks) n.toNat = [] := leafP_leaf (by simpa [Tree.rule] using h) _
      rw [hl, hp, if_pos h]
      have h0 : hit (.node r tm ks) n [] = decide (n = 0) := by
        simp only [hit, leafAt, belowT, rangeT_nil, Tree.rule, h]
        simp only [beq_self_eq_true, Bool.true_and]
        exact decide_eq_decide.2 ⟨fun h => by omega, fun h => by omega⟩
      rw [List.filter_cons, h0]
      by_cases hn : n = 0
      · simp [hn]
      · rw [if_neg (by simpa using hn), if_neg (by omega)]; rfl
    · have hl : lv (.node r tm ks) = lvs ks := lv_inner (by simpa [Tree.rule] using h)
      have hp : leafP (.node r tm ks) n.toNat = leafPL 0 ks n.toNat := by simp [leafP, h]
      have h0 : hit (.node r tm ks) n [] = false := by simp [hit, leafAt, belowT, Tree.rule, h]
      rw [hl, hp, if_neg h, List.filter_cons, h0]
      have := hitsL ks (.node r tm ks) [] (by simpa [Tree.rule] using h) (by simp [Tree.kids]) n
      simpa [lvs] using this
theorem hitsL : ∀ (ks : List Tree) (t : Tree) (pre : List Tree), t.rule ≠ -1 → t.kids = pre ++ ks → ∀ n : Int, (pathsL pre.length ks).filter (hit t n) = if 0 ≤ n - lvs pre ∧ n - lvs pre < lvs ks then [leafPL pre.length ks (n - lvs pre).toNat] else []
  | [], t, pre, hr, hk, n => by
    rw [pathsL, lvs, if_neg (by omega)]; rfl
  | k :: ks, t, pre, hr, hk, n => by
    have hj : t.kids[pre.length]? = some k := by rw [hk]; simp
    have ht : t.kids.take pre.length = pre := by rw [hk]; simp
    have hrest := hitsL ks t (pre ++ [k]) hr (by rw [hk]; simp) n
    have e1 : lvs (pre ++ [k]) = lvs pre + lv k := by rw [lvs_append]; simp [lvs]
    rw [e1, List.length_append] at hrest
    have hfirst : ((paths k).map fun p => (pre.length : Int) :: p).filter (hit t n) = if 0 ≤ n - lvs pre ∧ n - lvs pre < lv k then [(pre.length : Int) :: leafP k (n - lvs pre).toNat] else [] := by
      rw [List.filter_map]
      have e : (hit t n ∘ fun p => (pre.length : Int) :: p) = hit k (n - lvs pre) := by
        funext p
        simp only [Function.comp]
        rw [hit_cons hr hj, ht]
      rw [e, hits k (n - lvs pre)]
      split <;> simp
    rw [pathsL, List.filter_append, hfirst]
    have e2 : (pathsL (pre.length + 1) ks).filter (hit t n) = _ := hrest
    rw [e2, lvs, leafPL]
    by_cases c1 : 0 ≤ n - lvs pre
    · by_cases c2 : n - lvs pre < lv k
      · rw [if_pos ⟨c1, c2⟩, if_neg (by omega), if_pos (by omega), if_pos (by omega)]; rfl
      · rw [if_neg (by omega), if_neg (show ¬ (n - (lvs pre : Int)).toNat < lv k by omega)]
        by_cases c3 : n - lvs pre < lv k + lvs ks
        · rw [if_pos (by omega), if_pos (by omega)]
          simp only [List.nil_append]
          congr 2
          omega
        · rw [if_neg (by omega), if_neg (by omega)]; rfl
    · rw [if_neg (by omega), if_neg (by omega), if_neg (by omega)]; rfl
end
mutual
theorem paths_below : ∀ (t : Tree), ∀ p ∈ paths t, ∃ x, belowT t p = some x
  | .node r tm ks => by
    rw [paths]
    by_cases h : r = -1
    · simp [h, belowT]
    · rw [if_neg h]
      intro p hp
      rw [List.mem_cons] at hp
      rcases hp with rfl | hp
      · exact ⟨_, rfl⟩
      · exact pathsL_below ks (.node r tm ks) [] (by simpa [Tree.rule] using h) (by simp [Tree.kids]) p hp
theorem pathsL_below : ∀ (ks : List Tree) (t : Tree) (pre : List Tree), t.rule ≠ -1 → t.kids = pre ++ ks → ∀ p ∈ pathsL pre.length ks, ∃ x, belowT t p = some x
  | [], t, pre, hr, hk => by simp [pathsL]
  | k :: ks, t, pre, hr, hk => by
    intro p hp
    rw [pathsL, List.mem_append] at hp
    rcases hp with hp | hp
    · rw [List.mem_map] at hp
      obtain ⟨q, hq, rfl⟩ := hp
      obtain ⟨x, hx⟩ := paths_below k q hq
      have hj : pre.length < t.kids.length := by rw [hk]; simp
      refine ⟨x, ?_⟩
      rw [belowT, kidAt_in hr hj]
      simp only [Option.bind_some]
      have : t.kids[pre.length] = k := by simp [hk]
      rw [this]; exact hx
    · have := pathsL_below ks t (pre ++ [k]) hr (by rw [hk]; simp) p
      rw [List.length_append] at this
      exact this hp
end
end Go.Proofs.YtgcfpbjifjklbaaDoor
namespace Go.Proofs.YtgcfpbjifjklbaaDoor
open Go.RowKit
namespace Fb
theorem belowT_node : ∀ (p : List Int) (t y : Tree), belowT t p = some y → y ∈ nodes t
  | [], t, y, h => by
    rw [belowT] at h; cases h
    rw [nodes_eq]; exact List.mem_cons_self
  | i :: p, t, y, h => by
    obtain ⟨j, rfl, hr, hj, h2⟩ := below_kid h
    have h3 := belowT_node p _ _ h2
    rw [nodes_eq, show kidsOf t = t.kids from by simp [kidsOf, hr], nodesL_split hj]
    simp [h3]
theorem rangeT_le : ∀ (p : List Int) (t y : Tree), belowT t p = some y → (rangeT t p).1 + lv y = (rangeT t p).2 ∧ (rangeT t p).2 ≤ lv t
  | [], t, y, h => by
    rw [belowT] at h; cases h
    rw [rangeT]; simp
  | i :: p, t, y, h => by
    obtain ⟨j, rfl, hr, hj, h2⟩ := below_kid h
    obtain ⟨h3, h4⟩ := rangeT_le p _ _ h2
    rw [rangeT_cons (List.getElem?_eq_getElem hj)]
    have h5 := lv_kid_le hr hj
    unfold shift
    simp only
    omega
def AllowPost (g : Gram) (x : Filt) (t : Tree) (W : World) (e : Ending) (w' : World) : Prop :=
  Below W.heap.size W w' ∧ ∃ F, SoundF g.rules (leavesOf (nodes t)) F ∧ ClosedF g.rules (leavesOf (nodes t)) F ∧ e = .returned (.bool (allowB g x F t))
theorem allow_stop {g : Gram} {x : Filt} {F : Tab3} {t : Tree} {i : Nat} (hi : i < (paths t).length) (h : atP (permP g x F) t 0 (paths t)[i] = false) : allowB g x F t = false := by
  unfold allowB
  rw [List.all_eq_false]
  exact ⟨_, List.getElem_mem hi, by rw [h]; decide⟩
theorem allow_all {g : Gram} {x : Filt} {F : Tab3} {t : Tree} (h : ∀ i (hi : i < (paths t).length), atP (permP g x F) t 0 (paths t)[i] = true) : allowB g x F t = true := by
  unfold allowB
  rw [List.all_eq_true]
  intro p hp
  obtain ⟨i, hi, rfl⟩ := List.getElem_of_mem hp
  exact h i hi
theorem atP_at {P : NodeP} {t y : Tree} {p : List Int} (h : belowT t p = some y) : atP P t 0 p = ((y.rule == -1) || P y (rangeT t p).1 (rangeT t p).2) := by
  unfold atP
  rw [h]
  simp
def rejUp (rejs : List Rej) (lf : Int) (T : Int → Nat → Nat → Bool) (i j n : Nat) : Bool := rejHit (rejs.take n) lf T i j
theorem rejUp_succ {rejs : List Rej} {lf : Int} {T : Int → Nat → Nat → Bool} {i j n : Nat} (h : n < rejs.length) : rejUp rejs lf T i j (n + 1) = (rejUp rejs lf T i j n || ((rejs[n].n == lf) && T rejs[n].m i j)) := by
  unfold rejUp rejHit
  rw [List.take_succ_eq_append_getElem h, List.any_append]
  simp
theorem rejUp_true {rejs : List Rej} {lf : Int} {T : Int → Nat → Nat → Bool} {i j n : Nat} (h : rejUp rejs lf T i j n = true) : rejHit rejs lf T i j = true := by
  unfold rejUp rejHit at *
  rw [List.any_eq_true] at *
  obtain ⟨q, hq, h⟩ := h
  exact ⟨q, List.mem_of_mem_take hq, h⟩
theorem rejUp_all {rejs : List Rej} {lf : Int} {T : Int → Nat → Nat → Bool} {i j n : Nat} (h : rejs.length ≤ n) : rejUp rejs lf T i j n = rejHit rejs lf T i j := by
  unfold rejUp
  rw [List.take_of_length_le h]
set_option maxHeartbeats 4000000 in
set_option maxRecDepth 100000 in
theorem allowE (g : Gram) (x : Filt) (t : Tree) (ar : Option Addr) (cr : Nat) (ba : Option Addr) (bc : Nat) (ja : Option Addr) (jc : Nat) (at' : Option Addr) (ct : Nat) (W : World) (hr : Rd AnyB W (.sl (g.rules.map Rule.d)) [.slice ar g.rules.length cr])
    (hb : Rd AnyB W (.sl (x.bans.map Ban.d)) [.slice ba x.bans.length bc]) (hj : Rd AnyB W (.sl (x.rejs.map Rej.d)) [.slice ja x.rejs.length jc]) (hk : Rd AnyB W (.sl (t.kids.map Tree.d)) [.slice at' t.kids.length ct]) (hg : checkG g = 0) (ht : checkT g t = 0) (hx : filtF g x = 0) (hl : lv t ≤ 12) :
    Calls Tryd.prog 15 #[.agg #[.int .i64 g.terms, .int .i64 g.nons, .int .i64 g.start, .slice ar g.rules.length cr], .agg #[.slice ba x.bans.length bc, .slice ja x.rejs.length jc], .agg #[.int .i64 t.rule, .int .i64 t.term, .slice at' t.kids.length ct]] W (AllowPost g x t W) := by
  obtain ⟨PST, HP⟩ := nameIt (AllowPost g x t W)
  have HFIN : Hid (∀ w' F b, Below W.heap.size W w' → SoundF g.rules (leavesOf (nodes t)) F → ClosedF g.rules (leavesOf (nodes t)) F → allowB g x F t = b → PST (.returned (.bool b)) w') := by
    intro w' F b h0 h1 h2 h3; rw [← HP.out]; exact ⟨h0, F, h1, h2, by rw [h3]⟩
  rw [HP.out]
  clear HP
  obtain ⟨hck, hn5⟩ := checkT_g ht
  have hval := valid_rules ht
  obtain ⟨hgb, hK32, hru⟩ := checkG_zero hg
  obtain ⟨hb400, hj20, _, hrj⟩ := filtF_bans hx
  obtain ⟨w0, HW0⟩ := nameIt (((W.alloc (.cells #[.int .i64 g.terms, .int .i64 g.nons, .int .i64 g.start, .slice ar g.rules.length cr] 24)).alloc (.cells #[.slice ba x.bans.length bc, .slice ja x.rejs.length jc] 28)).alloc (.cells #[.int .i64 t.rule, .int .i64 t.term, .slice at' t.kids.length ct] 32))
  have hb0 : Below W.heap.size W w0 := by rw [← HW0.out]; exact (((Below.refl _ _).alloc (Nat.le_refl _) _).alloc (by simp) _).alloc (by first | (simp; done) | (simp; omega)) _
  have X1 : Hid (w0.heap[W.heap.size]? = some (.cells #[.int .i64 g.terms, .int .i64 g.nons, .int .i64 g.start, .slice ar g.rules.length cr] 24 (0, 0))) := by
    rw [← HW0.out]; exact bx_keep (bx_new _ _ _ rfl) (((Below.refl _ _).alloc (Nat.le_refl _) _).alloc (by simp) _)
  have X2 : Hid (w0.heap[W.heap.size + 1]? = some (.cells #[.slice ba x.bans.length bc, .slice ja x.rejs.length jc] 28 (0, 0))) := by
    rw [← HW0.out]; exact bx_keep (bx_new _ _ _ (by simp)) ((Below.refl _ _).alloc (Nat.le_refl _) _)
  have X3 : Hid (w0.heap[W.heap.size + 2]? = some (.cells #[.int .i64 t.rule, .int .i64 t.term, .slice at' t.kids.length ct] 32 (0, 0))) := by
    rw [← HW0.out]; exact bx_new _ _ _ (by simp)
  have HB0 := Lib.hid hb0
  have HRR := Lib.hid (hr.below hb0)
  have HBB := Lib.hid (hb.below hb0)
  have HJJ := Lib.hid (hj.below hb0)
  have HKK := Lib.hid (hk.below hb0)
  have C1 := Lib.hid (yieldE t _ w0 HKK.out (by omega))
  have C2 := Lib.hid (fun w' (h : Below w0.heap.size w0 w') wa wc (hw : Sl w' (.slice wa (leavesOf (nodes t)).length wc) (ints (leavesOf (nodes t)))) (hwc : ((leavesOf (nodes t)).length : Int) ≤ (wc : Int)) => rangesE g ar cr (leavesOf (nodes t)) wa wc w' (HRR.out.below h) hw hwc hl (fun r hr => ⟨(hru r hr).1, by have := (hru r hr).2.1; omega⟩) (fun r hr s hs e => by
    have h := (hru r hr).2.2.2 s hs
    unfold hasS at h
    rw [e] at h
    simp at h
    exact ⟨by omega, by omega⟩))
  have C3 := Lib.hid (fun w' (h : Below w0.heap.size w0 w') => pathsE (nodes t).length t _ w' (Nat.le_refl _) (HKK.out.below h) (by omega))
  have C4 := Lib.hid (fun w' (h : Below w0.heap.size w0 w') ap cp p (hp : Sl w' (.slice ap p.length cp) (ints p)) => belowE t _ ap cp p w' (HKK.out.below h) hp)
  have C5 := Lib.hid (fun w' (h : Below w0.heap.size w0 w') ap cp p y (hp : Sl w' (.slice ap p.length cp) (ints p)) (hy : belowT t p = some y) => rangeE t y _ ap cp p w' (HKK.out.below h) hp hy (by omega))
  have C6 := Lib.hid (fun (b : Ban) (w' : World) (h : Below w0.heap.size w0 w') => containsBanE x.bans b ba bc w' (HBB.out.below h))
  have HPB := Lib.hid (fun p hp => paths_below t p hp)
  have HVAL : Hid (∀ p y, belowT t p = some y → -1 ≤ y.rule ∧ y.rule < (g.rules.length : Int)) := fun p y h => hval y (belowT_node p t y h)
  have HRL := Lib.hid (fun p y h => rangeT_le p t y h)
  have HPL : Hid ((paths t).length ≤ 5000) := by show _ ≤ _; rw [paths_len]; exact hn5
  have HPALL := Lib.hid (fun F h => @allow_all g x F t h)
  have HPST := Lib.hid (fun F i hi h => @allow_stop g x F t i hi h)
  have HRJM : Hid (∀ q ∈ x.rejs, 0 ≤ q.m ∧ q.m < 10) := fun q hq => by have := hrj q hq; omega
  have HAP := Lib.hid (fun F p y h => @atP_at (permP g x F) t y p h)
  obtain ⟨wd, HWDn⟩ := nameIt (leavesOf (nodes t))
  have hlw : wd.length = lv t := by rw [← HWDn.out]; rfl
  simp only [HWDn.out] at C1 C2 HFIN
  obtain ⟨gt, HGT⟩ := nameIt g.terms
  obtain ⟨gn, HGN⟩ := nameIt g.nons
  obtain ⟨gs, HGS⟩ := nameIt g.start
  obtain ⟨K, HKn⟩ := nameIt g.rules.length
  obtain ⟨bn, HBNn⟩ := nameIt x.bans.length
  obtain ⟨jn, HJNn⟩ := nameIt x.rejs.length
  obtain ⟨tr, HTR⟩ := nameIt t.rule
  obtain ⟨tm, HTM⟩ := nameIt t.term
  obtain ⟨kn, HKNn⟩ := nameIt t.kids.length
  obtain ⟨n, HNn⟩ := nameIt wd.length
  rw [HNn.out] at hlw
  have hn12 : n ≤ 12 := by omega
  have HLW : Hid (n = lv t) := hlw
  rw [HGT.out, HGN.out, HGS.out, HKn.out, HBNn.out, HJNn.out, HTR.out, HTM.out, HKNn.out] at HW0
  rw [HGT.out, HGN.out, HGS.out, HKn.out] at X1
  rw [HBNn.out, HJNn.out] at X2
  rw [HTR.out, HTM.out, HKNn.out] at X3
  rw [HTR.out, HTM.out, HKNn.out] at C1
  simp only [HGT.out, HGN.out, HGS.out, HKn.out, HNn.out] at C2
  simp only [HTR.out, HTM.out, HKNn.out] at C3 C4 C5
  simp only [HBNn.out] at C6
  rw [HKn.out] at HRR HVAL
  rw [HJNn.out] at HJJ
  have hjc := HJJ.out.bounds.2
  have hgc := HRR.out.bounds.2
  unfold maxLen at hjc hgc
  obtain ⟨hjc1, hjc2⟩ := hjc
  obtain ⟨hgc1, hgc2⟩ := hgc
  rw [HGT.out, HGN.out, HGS.out, HKn.out, HBNn.out, HJNn.out, HTR.out, HTM.out, HKNn.out]
  have HBW : Hid (∀ w', Below w0.heap.size w0 w' → Below W.heap.size W w') := fun w' h => HB0.out.trans (h.mono HB0.out.size)
  obtain ⟨b1, HBX⟩ := nameIt W.heap.size
  rw [HBX.out] at X1 X2 X3
  obtain ⟨y0, y1, y2⟩ := bx_cells3 X3.out
  have HREJ := Lib.hid hj20
  clear hr hb hj hk hb0 hg ht hx hl hck hn5 hval hgb hK32 hru hb400 hj20 hrj hlw HBB HKK
  go_enter Tryd.func15, Tryd.ntmps15
  go_upto_region 1 with fail
  rw [HW0.out, HBX.out]
  clear HW0
  have hl3 : b1 + 2 < w0.heap.size := (Array.getElem?_eq_some_iff.1 X3.out).1
  go_wp2_with fail
  refine C1.out.mono ?_
  rintro e w1 ⟨v1, rfl, hs1, hb1⟩
  obtain ⟨a1, c1, rfl⟩ := hs1.form
  have hs1c := hs1.len.2
  unfold maxLen at hs1c
  rw [ints_len, HNn.out] at hs1 hs1c
  rw [ints_len, HNn.out]
  have HB01 := Lib.hid hb1
  have C2a := Lib.hid (C2.out w1 HB01.out a1 c1 hs1 (by omega))
  obtain ⟨x0, x1, x2, x3⟩ := bx_cells4 (bx_keep X1.out HB01.out)
  clear hb1 y0 y1 y2 C1 C2 hs1 hs1c
  go_wp2_with fail
  refine C2a.out.mono ?_
  rintro e w2 ⟨mb, mc, F, rfl, hpt, hsn, hcl, -, hb2⟩
  have HB02 := Lib.hid (HB01.out.trans (hb2.mono HB01.out.size))
  have HPT := Lib.hid hpt
  have HFIN2 : Hid (∀ w' b, Below w0.heap.size w0 w' → allowB g x F t = b → PST (.returned (.bool b)) w') := fun w' b h1 h2 => HFIN.out w' F b (HBW.out w' h1) hsn hcl h2
  have C3a := Lib.hid (C3.out w2 HB02.out)
  have HALL := Lib.hid (HPALL.out F)
  have HSTP := Lib.hid (HPST.out F)
  have HAT := Lib.hid (HAP.out F)
  obtain ⟨y0, y1, y2⟩ := bx_cells3 (bx_keep X3.out HB02.out)
  clear hb2 x0 x1 x2 x3 hpt hsn hcl C2a HFIN HPALL HPST HAP C3
  go_wp2_with fail
  refine C3a.out.mono ?_
  rintro e w3 ⟨v3, rfl, hr3, hb3⟩
  obtain ⟨a3, c3, rfl, hc31, hc32⟩ := hr3.form
  unfold maxLen at hc32
  rw [List.length_map] at hc31 hr3
  rw [List.length_map]
  have HB03 := Lib.hid (HB02.out.trans (hb3.mono HB02.out.size))
  have HPT3 := Lib.hid (HPT.out.keep hb3)
  have HR3 : Hid (Rd AnyB w3 (.sl ((paths t).map D.ints)) [.slice a3 (paths t).length c3]) := hr3.any
  obtain ⟨ps, HPSn⟩ := nameIt (paths t)
  rw [HPSn.out] at HR3 hc31 HPL HPB
  simp only [HPSn.out] at HALL HSTP
  rw [HPSn.out]
  obtain ⟨pn, HPN⟩ := nameIt ps.length
  rw [HPN.out] at HR3 hc31 HPL
  rw [HPN.out]
  have hpl5 : pn ≤ 5000 := HPL.out
  clear hr3 hb3 y0 y1 y2 HPT C3a
  go_wp2_with fail
  go_loopg [27] pn (fun gg v27 wr => ∃ i : Nat, i ≤ pn ∧ pn - i ≤ gg ∧ v27 = .int .i64 i ∧ Hid (Below w3.heap.size w3 wr) ∧ Hid (∀ k (h : k < ps.length), k < i → atP (permP g x F) t 0 ps[k] = true))
  case atStart => exact ⟨0, by omega, by omega, rfl, Below.refl _ _, fun k h1 h2 => by omega⟩
  case round =>
    obtain ⟨i, hi, hg, rfl, HB, HOK⟩ := hrel
    by_cases hlt : i < pn
    · have hlt' : (i : Int) < (pn : Int) := by omega
      have hic : (i : Int) ≤ (c3 : Int) := by omega
      have hil : i < ps.length := by rw [HPN.out]; exact hlt
      obtain ⟨b7, off1, cs, hae1, -, hb1l, hcs, hcll, hcc⟩ := (HR3.out.below HB.out).at (intsD_cells ps) (by decide) (i := i) (by simpa using hil)
      rw [List.getElem_map] at hcs
      obtain ⟨pv, rfl⟩ := List.length_eq_one_iff.1 hcll
      have d0 := hcc 0 (by simp)
      simp only [Nat.mul_one, Nat.add_zero, List.getElem_cons_zero] at d0
      have hsl := sl_rd hcs
      obtain ⟨ap, cp, rfl⟩ := hsl.form
      rw [ints_len] at hsl d0
      obtain ⟨y, hy⟩ := HPB.out ps[i] (List.getElem_mem hil)
      have HNX : Hid (atP (permP g x F) t 0 ps[i] = true → ∀ k (h : k < ps.length), k < i + 1 → atP (permP g x F) t 0 ps[k] = true) := fun hne k h1 h2 => by
        by_cases e : k = i
        · subst e; exact hne
        · exact HOK.out k h1 (by omega)
      have HST := Lib.hid (HSTP.out i hil)
      obtain ⟨p, HP⟩ := nameIt (ps[i]'hil)
      rw [HP.out] at hsl d0 hy HNX HST
      have HATY := Lib.hid (HAT.out p y hy)
      have hyv := HVAL.out p y hy
      obtain ⟨hr1, hr2⟩ := HRL.out p y hy
      rw [← HLW.out] at hr2
      have HB0R : Hid (Below w0.heap.size w0 wr) := HB03.out.trans (HB.out.mono HB03.out.size)
      have hbe := C4.out wr HB0R.out ap cp p hsl
      rw [hy] at hbe
      have HBE := Lib.hid hbe
      have HSL := Lib.hid hsl
      have C5a := Lib.hid (fun w' (hb : Below wr.heap.size wr w') => C5.out w' (HB0R.out.trans (hb.mono HB0R.out.size)) ap cp p y (HSL.out.keep hb) hy)
      have HFIN3 : Hid (∀ w', Below wr.heap.size wr w' → atP (permP g x F) t 0 p = false → PST (.returned (.bool false)) w') := fun w' hb h => HFIN2.out w' false (HB0R.out.trans (hb.mono HB0R.out.size)) (HST.out h)
      obtain ⟨r1, HR1⟩ := nameIt (rangeT t p).1
      obtain ⟨r2, HR2⟩ := nameIt (rangeT t p).2
      rw [HR1.out, HR2.out] at HATY
      rw [HR1.out] at hr1
      rw [HR2.out] at hr1 hr2
      have hrr : r1 ≤ r2 := by omega
      unfold RangePost at C5a
      simp only [HR1.out, HR2.out] at C5a
      obtain ⟨y0, y1, y2⟩ := bx_cells3 (bx_keep X3.out HB0R.out)
      subst hae1
      clear hcs hcll hcc hsl hb1l hy hbe hr1 HOK
      go_wp2_with fail
      refine HBE.out.mono ?_
      rintro e w5 ⟨v5, rfl, hr5, hb5⟩
      simp only [Option.getD_some, foundB, Option.isSome_some] at hr5 ⊢
      obtain ⟨a5, n5, c5, rfl⟩ := treeBox hr5
      have hr5b := hr5.bounds
      unfold maxLen at hr5b
      rw [List.length_map] at hr5b
      have HY5 : Hid (y.kids.length = n5) := hr5b.1.symm
      obtain ⟨w6, HW6⟩ := nameIt (w5.alloc (.cells #[.int .i64 y.rule, .int .i64 y.term, .slice a5 n5 c5] 32))
      have hb56 : Below w5.heap.size w5 w6 := by rw [← HW6.out]; exact (Below.refl _ _).alloc (Nat.le_refl _) _
      have HB6 : Hid (Below wr.heap.size wr w6) := hb5.trans (hb56.mono hb5.size)
      have X11 : Hid (w6.heap[w5.heap.size]? = some (.cells #[.int .i64 y.rule, .int .i64 y.term, .slice a5 n5 c5] 32 (0, 0))) := by rw [← HW6.out]; exact bx_new _ _ _ rfl
      have HR6 := Lib.hid (hr5.below hb56)
      have hn5c : n5 ≤ c5 := hr5b.2.1
      have hc5m : c5 ≤ 9223372036854775807 := by omega
      obtain ⟨b11, HB11⟩ := nameIt w5.heap.size
      rw [HB11.out] at X11
      have hl11 : b11 < w6.heap.size := (Array.getElem?_eq_some_iff.1 X11.out).1
      clear hr5 hb5 y0 y1 y2 HBE d0 hb56 hr5b
      by_cases hyr : y.rule = -1
      · have HAOK : Hid (atP (permP g x F) t 0 p = true) := by show _ = _; rw [HATY.out, hyr]; rfl
        have HO6 := Lib.hid (HNX.out HAOK.out)
        have HB36 : Hid (Below w3.heap.size w3 w6) := HB.out.trans (HB6.out.mono HB.out.size)
        obtain ⟨yr, HYR⟩ := nameIt y.rule
        obtain ⟨yt, HYT⟩ := nameIt y.term
        rw [HYR.out, HYT.out] at HW6 X11
        rw [HYR.out] at hyr
        subst hyr
        rw [HYR.out, HYT.out]
        obtain ⟨z0, z1, z2⟩ := bx_cells3 X11.out
        clear hyv HFIN3 HNX HST HAT
        go_upto_region 7 with fail
        rw [HW6.out, HB11.out]
        clear HW6
        go_wp2_with fail
        go_roundg (pn - (i + 1))
        case measure => omega
        case rel => exact ⟨i + 1, by omega, by omega, by go_num, HB36.out, HO6.out⟩
      · obtain ⟨ri, hri⟩ : ∃ ri : Nat, y.rule = (ri : Int) := ⟨y.rule.toNat, by omega⟩
        have hrK : ri < K := by omega
        have hrl : ri < g.rules.length := by rw [HKn.out]; exact hrK
        have HRA : Hid ((ruleAt g y.rule).left = (g.rules[ri]'hrl).left) := by show _ = _; unfold ruleAt; rw [hri, Int.toNat_natCast, List.getElem?_eq_getElem hrl]; rfl
        have HATP : Hid (atP (permP g x F) t 0 p = (!banAny x.bans y n5 && !rejHit x.rejs (g.rules[ri]'hrl).left F r1 r2)) := by
          show _ = _
          rw [HATY.out, show (y.rule == -1) = false from by simpa using hyr, ← HRA.out, ← HY5.out]; rfl
        obtain ⟨yt, HYT⟩ := nameIt y.term
        rw [hri, HYT.out] at HW6 X11
        rw [hri, HYT.out]
        have HRI : Hid (y.rule = (ri : Int)) := hri
        have hrK' : (ri : Int) < (K : Int) := by omega
        have hrc' : (ri : Int) ≤ (cr : Int) := by omega
        have k1 : ((ri : Int) == -1) = false := by first | (simp; done) | (simp; omega)
        have HB06 : Hid (Below w0.heap.size w0 w6) := HB0R.out.trans (HB6.out.mono HB0R.out.size)
        have C5b := Lib.hid (C5a.out w6 HB6.out)
        obtain ⟨z0, z1, z2⟩ := bx_cells3 X11.out
        obtain ⟨y0, y1, y2⟩ := bx_cells3 (bx_keep X3.out HB06.out)
        clear hyv hyr hri HATY HRA C5 C4 hl3
        have hl3 : b1 + 2 < w6.heap.size := (Array.getElem?_eq_some_iff.1 (bx_keep X3.out HB06.out)).1
        go_upto_region 7 with fail
        rw [HW6.out, HB11.out]
        clear HW6
        go_wp2_with fail
        refine C5b.out.mono ?_
        rintro e w7 ⟨rfl, hb7⟩
        have HB7 : Hid (Below wr.heap.size wr w7) := HB6.out.trans (hb7.mono HB6.out.size)
        have HB07 : Hid (Below w0.heap.size w0 w7) := HB06.out.trans (hb7.mono HB06.out.size)
        have HB37 : Hid (Below w3.heap.size w3 w7) := HB.out.trans (HB7.out.mono HB.out.size)
        have X117 := Lib.hid (bx_keep X11.out hb7)
        have HR7 := Lib.hid (HR6.out.below hb7)
        have HPT7 := Lib.hid (HPT3.out.keep HB37.out)
        have HFIN4 : Hid (∀ w', Below w7.heap.size w7 w' → atP (permP g x F) t 0 p = false → PST (.returned (.bool false)) w') := fun w' hb h => HFIN3.out w' (HB7.out.trans (hb.mono HB7.out.size)) h
        obtain ⟨g0, g1⟩ := bx_cells2 (bx_keep X2.out HB07.out)
        obtain ⟨lf, HLF⟩ := nameIt (g.rules[ri]'hrl).left
        have HGD : Hid (∀ w', Below w7.heap.size w7 w' → ∃ rb ro, ar = some ⟨rb, ro, none⟩ ∧ w'.cell? ⟨rb, ro + ri * 2, none⟩ = some (.int .i64 lf)) := by
          intro w' hb'
          obtain ⟨rb, ro, vr, hae, -, hbl, e0, e1, -⟩ := (HRR.out.below (HB07.out.trans (hb'.mono HB07.out.size))).rule_at hrl
          exact ⟨rb, ro, hae, by rw [← HLF.out]; exact e0⟩
        rw [HLF.out] at HATP
        have HRU0 : Hid (rejUp x.rejs lf F r1 r2 0 = false) := rfl
        have HRS := Lib.hid (fun k (h : k < x.rejs.length) => @rejUp_succ x.rejs lf F r1 r2 k h)
        have HRT : Hid (∀ k, rejUp x.rejs lf F r1 r2 k = true → atP (permP g x F) t 0 p = false) := fun k h => by rw [HATP.out, rejUp_true h]; simp
        have HRE : Hid (rejUp x.rejs lf F r1 r2 jn = rejHit x.rejs lf F r1 r2) := rejUp_all (by rw [HJNn.out]; exact Nat.le_refl _)
        have hr12 : r1 ≤ 12 := by omega
        have hr22 : r2 ≤ 12 := by omega
        clear hb7 y0 y1 y2 z0 z1 z2 C5a C5b X11 HR6 HB6 HB06
        go_wp2_with fail
        clear g0 g1
        obtain ⟨wo, rfl⟩ : ∃ wo : World, wo = wr := ⟨_, rfl⟩
        go_loopg [49] jn (fun gg v49 wr => ∃ k : Nat, k ≤ jn ∧ jn - k ≤ gg ∧ v49 = .int .i64 k ∧ Hid (Below w7.heap.size w7 wr) ∧ Hid (rejUp x.rejs lf F r1 r2 k = false))
        case atStart => exact ⟨0, by omega, by omega, rfl, Below.refl _ _, HRU0.out⟩
        case round =>
          clear HRU0
          obtain ⟨k, hk, hg2, rfl, HBK, HRU⟩ := hrel
          by_cases hlt2 : k < jn
          · have hlt2' : (k : Int) < (jn : Int) := by omega
            have hkc : (k : Int) ≤ (jc : Int) := by omega
            have hkl : k < x.rejs.length := by rw [HJNn.out]; exact hlt2
            have HB0K : Hid (Below w0.heap.size w0 wr) := HB07.out.trans (HBK.out.mono HB07.out.size)
            obtain ⟨bb, bo, hje, -, hbl, c0, c1⟩ := Rd.rej_at (HJJ.out.below HB0K.out) hkl
            have HRS2 := Lib.hid (HRS.out k hkl)
            have hqm := HRJM.out _ (List.getElem_mem hkl)
            obtain ⟨q, HQ⟩ := nameIt (x.rejs[k]'hkl)
            rw [HQ.out] at c0 c1 HRS2 hqm
            obtain ⟨qn, qm⟩ := q
            simp only at c0 c1 HRS2 hqm
            obtain ⟨w8, HW8⟩ := nameIt (wr.alloc (.cells #[.int .i64 qn, .int .i64 qm] 58))
            have hb8 : Below wr.heap.size wr w8 := by rw [← HW8.out]; exact (Below.refl _ _).alloc (Nat.le_refl _) _
            have X16 : Hid (w8.heap[wr.heap.size]? = some (.cells #[.int .i64 qn, .int .i64 qm] 58 (0, 0))) := by rw [← HW8.out]; exact bx_new _ _ _ rfl
            have HB78 : Hid (Below w7.heap.size w7 w8) := HBK.out.trans (hb8.mono HBK.out.size)
            have HB08 : Hid (Below w0.heap.size w0 w8) := HB0K.out.trans (hb8.mono HB0K.out.size)
            have hlk : ∀ x8 : Aft w8, (Instr.lookup 87 (.map (some mb)) (.agg #[.bool false, .int .i64 qm, .int .i64 r1, .int .i64 r2]) false).run Tryd.prog x8.w = .ok (.bool (F qm r1 r2)) x8.w := fun x8 => ((HPT7.out.keep HB78.out).keep x8.bel).look ⟨⟨hqm.1, by omega⟩, by omega, by omega⟩
            obtain ⟨fv, HFV⟩ := nameIt (F qm r1 r2)
            simp only [HFV.out] at hlk HRS2
            obtain ⟨b16, HB16⟩ := nameIt wr.heap.size
            rw [HB16.out] at X16
            have hl16 : b16 < w8.heap.size := (Array.getElem?_eq_some_iff.1 X16.out).1
            obtain ⟨p0, p1⟩ := bx_cells2 X16.out
            obtain ⟨z0, z1, z2⟩ := bx_cells3 (bx_keep X117.out HB78.out)
            obtain ⟨h0, h1, h2, h3⟩ := bx_cells4 (bx_keep X1.out HB08.out)
            obtain ⟨rb, ro, hae, e0⟩ := HGD.out w8 HB78.out
            have ap0 := aft_cell p0
            have ap1 := aft_cell p1
            have az0 := aft_cell z0
            have ah3 := aft_cell h3
            have ae0 := aft_cell e0
            have HB7A : Hid (∀ w', Below w8.heap.size w8 w' → Below w7.heap.size w7 w') := fun w' hb' => HB78.out.trans (hb'.mono HB78.out.size)
            subst hae hje
            go_upto_region 12 with fail
            rw [HW8.out, HB16.out]
            clear HW8 c0 c1 hbl hb8 p0 p1 z0 z1 z2 h0 h1 h2 h3 e0
            by_cases hq : qn = lf
            · subst hq
              have k2 : (qn == qn) = true := by simp
              refine wp_region_after (by kernel_rfl) (by kernel_rfl) ?_
              repeat (go_big_quiet_step (fail))
              refine wpQuiet_nil ?_
              rintro w9 ⟨⟨_, hb9⟩, rfl⟩
              have HB79 := Lib.hid (HB7A.out w9 hb9)
              clear ap0 ap1 az0 ah3 ae0 hlk hb9
              cases fv with
              | true =>
                have HE := Lib.hid (HFIN4.out w9 HB79.out (HRT.out (k + 1) (by rw [HRS2.out]; simp)))
                clear HRS2
                go_wp2_with fail
                exact HE.out
              | false =>
                have HN := Lib.hid (show rejUp x.rejs qn F r1 r2 (k + 1) = false from by rw [HRS2.out, HRU.out]; simp)
                clear HRS2
                go_wp2_with fail
                go_roundg (jn - (k + 1))
                case measure => omega
                case rel => exact ⟨k + 1, by omega, by omega, by go_num, HB79.out, HN.out⟩
            · have k2 : (qn == lf) = false := by simpa using hq
              have HN := Lib.hid (show rejUp x.rejs lf F r1 r2 (k + 1) = false from by rw [HRS2.out, HRU.out, k2]; rfl)
              clear hq HRS2
              refine wp_region_after (by kernel_rfl) (by kernel_rfl) ?_
              repeat (go_big_quiet_step (fail))
              refine wpQuiet_nil ?_
              rintro w9 ⟨⟨_, hb9⟩, rfl⟩
              have HB79 := Lib.hid (HB7A.out w9 hb9)
              clear ap0 ap1 az0 ah3 ae0 hlk hb9
              go_wp2_with fail
              go_roundg (jn - (k + 1))
              case measure => omega
              case rel => exact ⟨k + 1, by omega, by omega, by go_num, HB79.out, HN.out⟩
          · have hlt2' : ¬ (k : Int) < (jn : Int) := by omega
            have hkj : k = jn := by omega
            have HRF : Hid (rejHit x.rejs lf F r1 r2 = false) := by show _ = _; rw [← HRE.out, ← hkj]; exact HRU.out
            have HAT2 : Hid (atP (permP g x F) t 0 p = !banAny x.bans y n5) := by show _ = _; rw [HATP.out, HRF.out]; simp
            have HBS := Lib.hid (fun k => banAny_succ x.bans y k)
            have HBT : Hid (∀ k, k ≤ n5 → banAny x.bans y k = true → atP (permP g x F) t 0 p = false) := fun k hk h => by rw [HAT2.out, banAny_true h hk]; rfl
            have HBA0 : Hid (banAny x.bans y 0 = false) := rfl
            have HFIN5 : Hid (∀ w', Below wr.heap.size wr w' → atP (permP g x F) t 0 p = false → PST (.returned (.bool false)) w') := fun w' hb h => HFIN4.out w' (HBK.out.trans (hb.mono HBK.out.size)) h
            have HB3K : Hid (∀ w', Below wr.heap.size wr w' → Below w3.heap.size w3 w') := fun w' hb' => HB37.out.trans ((HBK.out.trans (hb'.mono HBK.out.size)).mono HB37.out.size)
            have HB0L : Hid (∀ w', Below wr.heap.size wr w' → Below w0.heap.size w0 w') := fun w' hb' => HB07.out.trans ((HBK.out.trans (hb'.mono HBK.out.size)).mono HB07.out.size)
            have X11K := Lib.hid (bx_keep X117.out HBK.out)
            have HRK := Lib.hid (HR7.out.below HBK.out)
            obtain ⟨z0, z1, z2⟩ := bx_cells3 X11K.out
            clear hkj HRU HRS HRT HRE
            go_wp2_with fail
            clear z0 z1 z2
            obtain ⟨wp, rfl⟩ : ∃ wp : World, wp = wr := ⟨_, rfl⟩
            go_loopg [77] n5 (fun gg v77 wr => ∃ k : Nat, k ≤ n5 ∧ n5 - k ≤ gg ∧ v77 = .int .i64 k ∧ Hid (Below wp.heap.size wp wr) ∧ Hid (banAny x.bans y k = false))
            case atStart => exact ⟨0, by omega, by omega, rfl, Below.refl _ _, HBA0.out⟩
            case round =>
              clear HBA0
              obtain ⟨k, hk, hg2, rfl, HBL, HBA⟩ := hrel
              by_cases hlt3 : k < n5
              · have hlt3' : (k : Int) < (n5 : Int) := by omega
                have hkc : (k : Int) ≤ (c5 : Int) := by omega
                have hkl : k < y.kids.length := by rw [HY5.out]; exact hlt3
                obtain ⟨kb, ko, vk, hye, -, hbl, c0, c1, c2, hkv⟩ := (HRK.out.below HBL.out).kid hkl
                obtain ⟨vka, vkn, vkc, rfl⟩ := treeBox hkv
                have HBH : Hid (banHit x.bans y k = decide ((⟨y.rule, (k : Int), y.kids[k].rule⟩ : Ban) ∈ x.bans)) := banHit_at hkl
                have HBSK := Lib.hid (HBS.out k)
                rw [HRI.out] at HBH
                obtain ⟨kr, HKR⟩ := nameIt y.kids[k].rule
                obtain ⟨kt, HKT⟩ := nameIt y.kids[k].term
                rw [HKR.out] at c0 HBH
                rw [HKT.out] at c1
                obtain ⟨w8, HW8⟩ := nameIt (wr.alloc (.cells #[.int .i64 kr, .int .i64 kt, .slice vka vkn vkc] 32))
                have hb8 : Below wr.heap.size wr w8 := by rw [← HW8.out]; exact (Below.refl _ _).alloc (Nat.le_refl _) _
                have X18 : Hid (w8.heap[wr.heap.size]? = some (.cells #[.int .i64 kr, .int .i64 kt, .slice vka vkn vkc] 32 (0, 0))) := by rw [← HW8.out]; exact bx_new _ _ _ rfl
                have HBP8 : Hid (Below wp.heap.size wp w8) := HBL.out.trans (hb8.mono HBL.out.size)
                have HC6 := Lib.hid (C6.out ⟨(ri : Int), (k : Int), kr⟩ w8 (HB0L.out w8 HBP8.out))
                simp only at HC6
                obtain ⟨bm, HBM⟩ := nameIt (decide ((⟨(ri : Int), (k : Int), kr⟩ : Ban) ∈ x.bans))
                rw [HBM.out] at HBH HC6
                rw [HBH.out, HBA.out] at HBSK
                obtain ⟨b18, HB18⟩ := nameIt wr.heap.size
                rw [HB18.out] at X18
                have hl18 : b18 < w8.heap.size := (Array.getElem?_eq_some_iff.1 X18.out).1
                obtain ⟨q0, q1, q2⟩ := bx_cells3 X18.out
                obtain ⟨z0, z1, z2⟩ := bx_cells3 (bx_keep X11K.out HBP8.out)
                obtain ⟨g0, g1⟩ := bx_cells2 (bx_keep X2.out (HB0L.out w8 HBP8.out))
                subst hye
                go_upto_region 18 with fail
                rw [HW8.out, HB18.out]
                clear HW8 c0 c1 c2 hbl hkv hb8
                go_wp2_with fail
                refine HC6.out.mono ?_
                rintro e w9 ⟨rfl, hb9⟩
                have HBP9 : Hid (Below wp.heap.size wp w9) := HBP8.out.trans (hb9.mono HBP8.out.size)
                clear hb9 q0 q1 q2 z0 z1 z2 g0 g1
                cases bm with
                | true =>
                  have HE := Lib.hid (HFIN5.out w9 HBP9.out (HBT.out (k + 1) (by omega) (by rw [HBSK.out]; rfl)))
                  clear HBSK
                  go_wp2_with fail
                  exact HE.out
                | false =>
                  have HN := Lib.hid (show banAny x.bans y (k + 1) = false from by rw [HBSK.out]; rfl)
                  clear HBSK
                  go_wp2_with fail
                  go_roundg (n5 - (k + 1))
                  case measure => omega
                  case rel => exact ⟨k + 1, by omega, by omega, by go_num, HBP9.out, HN.out⟩
              · have hlt3' : ¬ (k : Int) < (n5 : Int) := by omega
                have hkn : k = n5 := by omega
                have HA : Hid (atP (permP g x F) t 0 p = true) := by show _ = _; rw [HAT2.out, ← hkn, HBA.out]; rfl
                have HO9 := Lib.hid (HNX.out HA.out)
                have HB39 := Lib.hid (HB3K.out wr HBL.out)
                clear hkn
                go_wp2_with fail
                go_roundg (pn - (i + 1))
                case measure => omega
                case rel => exact ⟨i + 1, by omega, by omega, by go_num, HB39.out, HO9.out⟩
    · have hlt' : ¬ (i : Int) < (pn : Int) := by omega
      have HE := Lib.hid (HFIN2.out wr true (HB03.out.trans (HB.out.mono HB03.out.size)) (HALL.out fun k hk => HOK.out k hk (by rw [HPN.out] at hk; omega)))
      go_wp2_with fail
      exact HE.out
end Fb
end Go.Proofs.YtgcfpbjifjklbaaDoor
