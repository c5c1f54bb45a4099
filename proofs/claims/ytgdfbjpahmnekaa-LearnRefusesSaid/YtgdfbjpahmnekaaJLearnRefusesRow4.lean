/- learner.close: what its loops keep. learner.close: the rows, the beginning, the end. The contracts of tree.kids and tree.walk. The contracts of gram.CopyTree and tree.Clone. The contracts of Below and tree.At. -/
import Derived.Test.YtgdfbjpahmnekaaJLearnRefusesRow2
import Derived.Test.YtgdfbjpahmnekaaJLearnRefusesRow3
import Derived.Test.YtgdfbjpahmnekaaJLearnRefusesRow1
import Derived.Deep.LoopGhost
import Derived.Deep.Cut
import Derived.Shelf.Abstract
import Derived.Deep.RegionHeld3
namespace Go.Proofs.Ytgdfbjpahmnekaa
open Go.RowKit
namespace Cl
open Df Lr Km

/-- all but the blocks of X is as it was -/
structure GrX (X : Nat → Prop) (w w' : World) : Prop where
  os : w'.os = w.os
  tape : w'.tape = w.tape
  output : w'.output = w.output
  size : w.heap.size ≤ w'.heap.size
  block : ∀ k, k < w.heap.size → ¬ X k → w'.heap[k]? = w.heap[k]?
theorem GrX.refl (X : Nat → Prop) (w : World) : GrX X w w := ⟨rfl, rfl, rfl, Nat.le_refl _, fun _ _ _ => rfl⟩
theorem GrX.trans {X : Nat → Prop} {a b c : World} (h : GrX X a b) (k : GrX X b c) : GrX X a c := ⟨k.os.trans h.os, k.tape.trans h.tape, k.output.trans h.output, Nat.le_trans h.size k.size, fun q hq hx => (k.block q (Nat.lt_of_lt_of_le hq h.size) hx).trans (h.block q hq hx)⟩
theorem GrX.grown {X : Nat → Prop} {a b c : World} (h : GrX X a b) {row : Option Nat} (hg : b.grownBy c row) (hr : ∀ q, row = some q → q < a.heap.size → X q) : GrX X a c :=
  ⟨hg.os.trans h.os, hg.tape.trans h.tape, hg.output.trans h.output, Nat.le_trans h.size hg.size, fun q hq hx => (hg.block q (Nat.lt_of_lt_of_le hq h.size) (fun e => hx (hr q e.symm hq))).trans (h.block q hq hx)⟩
theorem GrX.mono {X Y : Nat → Prop} {a b : World} (h : GrX X a b) (hX : ∀ q, q < a.heap.size → X q → Y q) : GrX Y a b := ⟨h.os, h.tape, h.output, h.size, fun q hq hy => h.block q hq (fun e => hy (hX q hq e))⟩
/-- the learner's words: access -/
def AcR (S : Nat → Prop) (B0 : Nat) (A : List (List Int)) (sv : Value) (w : World) : Prop := ∃ xs, w.ownsRow B0 22 1 sv A.length xs ∧ RdAll (fun q => S q ∧ sv.ownBlock ≠ some q) w (A.map D.ints) xs
theorem AcR.rd {S : Nat → Prop} {B0 : Nat} {A : List (List Int)} {sv : Value} {w : World} (h : AcR S B0 A sv w) : Rd AnyB w (.sl (A.map D.ints)) [sv] := by
  obtain ⟨xs, h1, h2⟩ := h
  exact rd_of_own h1 h2.any (by simp) (fun _ _ => trivial)
/-- a learner -/
structure LrS (f : List Int → Bool) (T : List (List Int)) (B0 b mb : Nat) (kv fv tv : Value) (c : Nat) (A : List (List Int)) (sv rv : Value) (w : World) : Prop where
  bx : w.heap[b]? = some (.cells #[kv, fv, .map (some mb), sv, tv, rv] 36 (0, 0))
  kn : KN f mb c w
  ac : AcR (fun q => q ≠ b ∧ q ≠ mb) B0 A sv w
  so : ∀ q, sv.ownBlock = some q → q ≠ b ∧ q ≠ mb
  ts : Rd (fun q => q ≠ b ∧ q ≠ mb ∧ sv.ownBlock ≠ some q) w (.sl (T.map D.ints)) [tv]
  ne : b ≠ mb
/-- the blocks of words -/
def SE (X G : Nat → Prop) (b mb rb ob s0 : Nat) (q : Nat) : Prop := (q ≤ ob ∧ q ≠ b ∧ q ≠ mb ∧ q ≠ rb ∧ q ≠ ob ∧ q ≠ s0) ∨ (ob < q ∧ X q ∧ ¬ G q)
structure ClI (f : List Int → Bool) (T : List (List Int)) (w0 : World) (B0 b mb rb ob : Nat) (kv fv tv sv0 : Value) (X G : Nat → Prop) (c : Nat) (A : List (List Int)) (K : List (List UInt8)) (sv : Value) (LR : List (List Int)) (LA : List Int) (vR vA : Value) (wr : World) : Prop where
  bx : wr.heap[b]? = some (.cells #[kv, fv, .map (some mb), sv, tv, .map (some rb)] 36 (0, 0))
  kn : KN f mb c wr
  km : KMap 9 3 rb (FS K) K.length wr
  ac : AcR (SE X G b mb rb ob w0.heap.size) B0 A sv wr
  so : ∀ q, sv.ownBlock = some q → SE X G b mb rb ob w0.heap.size q
  ts : Rd (fun q => q < w0.heap.size ∧ q ≠ b ∧ q ≠ mb ∧ sv.ownBlock ≠ some q) wr (.sl (T.map D.ints)) [tv]
  px : PX X (ob + 1) wr [] 0 LR LA vR vA none none none wr
  bxo : wr.heap[ob]? = some (.cells #[.int .i64 0, vA, vR] 25 (0, 0))
  rbx : wr.heap[w0.heap.size]? = some (.cells #[.int .i64 0, .slice none 0 0, .slice none 0 0] 25 (0, 0))
  fr : GrX (fun q => q = b ∨ q = mb ∨ sv0.ownBlock = some q) w0 wr
  s0 : ∀ q, sv.ownBlock = some q → q < w0.heap.size → sv0.ownBlock = some q
  lo : b < w0.heap.size ∧ mb < w0.heap.size ∧ b ≠ mb ∧ w0.heap.size < rb ∧ rb < ob ∧ B0 ≤ ob
  gx : ∀ q, G q → X q ∧ ob < q
/-- X and all new blocks -/
def FrX (X : Nat → Prop) (w w' : World) : Nat → Prop := fun q => X q ∨ (w.heap.size ≤ q ∧ q < w'.heap.size)
section
variable {f : List Int → Bool} {T : List (List Int)} {w0 : World} {B0 b mb rb ob : Nat} {kv fv tv sv0 : Value} {X G X' G' : Nat → Prop} {c c' : Nat} {A : List (List Int)} {K K' : List (List UInt8)} {sv : Value} {LR : List (List Int)} {LA : List Int} {vR vA : Value} {wr w' w1 w2 : World}
/-- which blocks may change -/
def May (G : Nat → Prop) (mb rb : Nat) (row : Option Nat) : Prop := row = none ∨ row = some mb ∨ row = some rb ∨ ∃ g, row = some g ∧ G g
theorem ClI.size (h : ClI f T w0 B0 b mb rb ob kv fv tv sv0 X G c A K sv LR LA vR vA wr) : ob < wr.heap.size := (Array.getElem?_eq_some_iff.1 h.bxo).1
theorem ClI.may (h : ClI f T w0 B0 b mb rb ob kv fv tv sv0 X G c A K sv LR LA vR vA wr) {row : Option Nat} (hrow : May G mb rb row) {q : Nat} (hq : SE X G b mb rb ob w0.heap.size q) : row ≠ some q := by
  obtain ⟨l1, l2, l3, l4, l5, l6⟩ := h.lo
  have hgx := h.gx
  intro e
  rcases hrow with e' | e' | e' | ⟨g, e', hg⟩ <;> rw [e] at e' <;> cases e'
  · rcases hq with hq | hq <;> omega
  · rcases hq with hq | hq <;> omega
  · have := hgx q hg
    rcases hq with hq | hq
    · omega
    · exact hq.2.2 hg
theorem ClI.se (h : ClI f T w0 B0 b mb rb ob kv fv tv sv0 X G c A K sv LR LA vR vA wr) {row : Option Nat} (hg : wr.grownBy w' row) (hrow : May G mb rb row) (hX : ∀ q, q < wr.heap.size → SE X G b mb rb ob w0.heap.size q → SE X' G' b mb rb ob w0.heap.size q) {q : Nat} (hq : SE X G b mb rb ob w0.heap.size q ∧ sv.ownBlock ≠ some q) (hlt : q < wr.heap.size) :
    (SE X' G' b mb rb ob w0.heap.size q ∧ sv.ownBlock ≠ some q) ∧ w'.heap[q]? = wr.heap[q]? := ⟨⟨hX q hlt hq.1, hq.2⟩, hg.block q hlt (fun e => h.may hrow hq.1 e.symm)⟩
theorem ClI.touch (h : ClI f T w0 B0 b mb rb ob kv fv tv sv0 X G c A K sv LR LA vR vA wr) {row : Option Nat} (hg : wr.grownBy w' row) (hrow : May G mb rb row) (hkn : KN f mb c' w') (hkm : KMap 9 3 rb (FS K') K'.length w')
    (hX : ∀ q, q < wr.heap.size → SE X G b mb rb ob w0.heap.size q → SE X' G' b mb rb ob w0.heap.size q) (hX' : ∀ q, X' q → X q ∨ (wr.heap.size ≤ q ∧ q < w'.heap.size)) (hG' : ∀ q, G' q → X' q ∧ ob < q) :
    ClI f T w0 B0 b mb rb ob kv fv tv sv0 X' G' c' A K' sv LR LA vR vA w' := by
  have hse := fun q => h.se (q := q) (X' := X') (G' := G') hg hrow hX
  have hmay := fun q => h.may (q := q) hrow
  have hz := h.size
  obtain ⟨h1, h2, h3, ⟨xs, h4, h5⟩, h6, h7, h8, h9, h10, h11, h12, ⟨l1, l2, l3, l4, l5, l6⟩, h14⟩ := h
  have hl4 := h4.lt
  have hne : ∀ q, q ≤ ob → q ≠ mb → q ≠ rb → row ≠ some q := by
    intro q a1 a2 a3 e
    rcases hrow with e' | e' | e' | ⟨g, e', hg⟩ <;> rw [e] at e' <;> cases e'
    · exact a2 rfl
    · exact a3 rfl
    · have := h14 q hg; omega
  have hb : ∀ q, q ≤ ob → q ≠ mb → q ≠ rb → w'.heap[q]? = wr.heap[q]? := fun q a1 a2 a3 => hg.block q (by omega) (fun e => hne q a1 a2 a3 e.symm)
  refine ⟨(hb b (by omega) l3 (by omega)).trans h1, hkn, hkm, ⟨xs, own_otherP h4 hg fun q e => hmay q (h6 q e), RdAll.keep (fun q hq hlt => hse q hq hlt) _ _ h5⟩, fun q e => hX q (hl4 q e).2 (h6 q e), Rd.keep (fun q hq hlt => ⟨hq, hb q (by omega) (by omega) (by omega)⟩) _ _ h7, ?_, (hb ob (Nat.le_refl _) (by omega) (by omega)).trans h9, (hb _ (by omega) (by omega) (by omega)).trans h10, h11.grown hg ?_, h12, ⟨l1, l2, l3, l4, l5, l6⟩, hG'⟩
  · refine h8.other hg (fun q e => ?_) hX' [] 0
    rcases hrow with e' | e' | e' | ⟨g, e', hg⟩ <;> rw [e] at e' <;> cases e'
    · left; omega
    · left; omega
    · exact .inr (.inl (h14 q hg).1)
  · intro q e hq
    rcases hrow with e' | e' | e' | ⟨g, e', hg⟩ <;> rw [e] at e' <;> cases e'
    · exact .inr (.inl rfl)
    · omega
    · have := h14 q hg; omega
/-- what X and all new blocks have -/
theorem se_fr {s0 q : Nat} (h : SE X G b mb rb ob s0 q) : SE (FrX X wr w') G b mb rb ob s0 q := by
  rcases h with h | ⟨h1, h2, h3⟩
  · exact .inl h
  · exact .inr ⟨h1, .inl h2, h3⟩
theorem ClI.touchF (h : ClI f T w0 B0 b mb rb ob kv fv tv sv0 X G c A K sv LR LA vR vA wr) {row : Option Nat} (hg : wr.grownBy w' row) (hrow : May G mb rb row) (hkn : KN f mb c' w') (hkm : KMap 9 3 rb (FS K') K'.length w') :
    ClI f T w0 B0 b mb rb ob kv fv tv sv0 (FrX X wr w') G c' A K' sv LR LA vR vA w' :=
  h.touch hg hrow hkn hkm (fun q _ hq => se_fr hq) (fun q e => e) (fun q e => ⟨.inl (h.gx q e).1, (h.gx q e).2⟩)
theorem ClI.rdF (h : ClI f T w0 B0 b mb rb ob kv fv tv sv0 X G c A K sv LR LA vR vA wr) {row : Option Nat} (hg : wr.grownBy w' row) (hrow : May G mb rb row) {d : D} {cs : List Value} (hd : Rd (fun q => SE X G b mb rb ob w0.heap.size q ∧ sv.ownBlock ≠ some q) wr d cs) :
    Rd (fun q => SE (FrX X wr w') G b mb rb ob w0.heap.size q ∧ sv.ownBlock ≠ some q) w' d cs := Rd.keep (fun q hq hlt => h.se hg hrow (fun q _ hq => se_fr hq) hq hlt) _ _ hd
/-- the calls -/
theorem ClI.call (h : ClI f T w0 B0 b mb rb ob kv fv tv sv0 X G c A K sv LR LA vR vA wr) (hg : wr.grownBy w' (some mb)) (hkn : KN f mb c' w') : ClI f T w0 B0 b mb rb ob kv fv tv sv0 (FrX X wr w') G c' A K sv LR LA vR vA w' :=
  h.touchF hg (.inr (.inl rfl)) hkn (h.km.kept hg (fun e => by have := h.lo; cases e; omega))
theorem ClI.below (h : ClI f T w0 B0 b mb rb ob kv fv tv sv0 X G c A K sv LR LA vR vA wr) (hb : Below wr.heap.size wr w') : ClI f T w0 B0 b mb rb ob kv fv tv sv0 (FrX X wr w') G c A K sv LR LA vR vA w' :=
  h.touchF (grown_below hb none) (.inl rfl) (h.kn.keep hb) (h.km.keep hb)
theorem ClI.mapped (h : ClI f T w0 B0 b mb rb ob kv fv tv sv0 X G c A K sv LR LA vR vA wr) (hg : wr.grownBy w' (some rb)) (hkm : KMap 9 3 rb (FS K') K'.length w') : ClI f T w0 B0 b mb rb ob kv fv tv sv0 (FrX X wr w') G c A K' sv LR LA vR vA w' :=
  h.touchF hg (.inr (.inr (.inl rfl))) (h.kn.kept hg (fun e => by have := h.lo; cases e; omega)) hkm
theorem ClI.cell (h : ClI f T w0 B0 b mb rb ob kv fv tv sv0 X G c A K sv LR LA vR vA wr) {g : Nat} (hG : G g) (j : Nat) (v : Value) : ClI f T w0 B0 b mb rb ob kv fv tv sv0 (FrX X wr (wr.setCell ⟨g, j, none⟩ v)) G c A K sv LR LA vR vA (wr.setCell ⟨g, j, none⟩ v) := by
  have hg := grown_cell wr ⟨g, j, none⟩ v
  have h2 := (h.gx g hG).2
  have hlo := h.lo
  exact h.touchF hg (.inr (.inr (.inr ⟨g, rfl, hG⟩))) (h.kn.kept hg (fun e => by have e2 : mb = g := Option.some.inj e; omega)) (h.km.kept hg (fun e => by have e2 : rb = g := Option.some.inj e; omega))
/-- a new row is begun -/
theorem ClI.begin (h : ClI f T w0 B0 b mb rb ob kv fv tv sv0 X (fun _ => False) c A K sv LR LA vR vA wr) {g : Nat} (hg : g = wr.heap.size) (o : Obj) : ClI f T w0 B0 b mb rb ob kv fv tv sv0 (FrX X wr (wr.alloc o)) (fun q => q = g) c A K sv LR LA vR vA (wr.alloc o) := by
  have hb : Below wr.heap.size wr (wr.alloc o) := (Below.refl _ _).alloc (Nat.le_refl _) _
  have hz := h.size
  subst hg
  refine h.touch (row := none) (grown_below hb none) (.inl rfl) (h.kn.keep hb) (h.km.keep hb) (fun q hlt hq => ?_) (fun q e => e) (fun q e => ?_)
  · rcases hq with hq | ⟨h1, h2, h3⟩
    · exact .inl hq
    · exact .inr ⟨h1, .inl h2, fun e => by omega⟩
  · refine ⟨.inr ?_, by omega⟩
    subst e
    exact ⟨Nat.le_refl _, by simp⟩
theorem ClI.rdB (h : ClI f T w0 B0 b mb rb ob kv fv tv sv0 X (fun _ => False) c A K sv LR LA vR vA wr) {g : Nat} (hg : g = wr.heap.size) (o : Obj) {d : D} {cs : List Value} (hd : Rd (fun q => SE X (fun _ => False) b mb rb ob w0.heap.size q ∧ sv.ownBlock ≠ some q) wr d cs) :
    Rd (fun q => SE (FrX X wr (wr.alloc o)) (fun q => q = g) b mb rb ob w0.heap.size q ∧ sv.ownBlock ≠ some q) (wr.alloc o) d cs := by
  have hb : Below wr.heap.size wr (wr.alloc o) := (Below.refl _ _).alloc (Nat.le_refl _) _
  subst hg
  refine Rd.keep (fun q hq hlt => ⟨⟨?_, hq.2⟩, hb.block q hlt⟩) _ _ hd
  rcases hq.1 with hq | ⟨h1, h2, h3⟩
  · exact .inl hq
  · exact .inr ⟨h1, .inl h2, fun e => by omega⟩
/-- a word more: the append, then the store into the learner -/
theorem ClI.push (h : ClI f T w0 B0 b mb rb ob kv fv tv sv0 X G c A K sv LR LA vR vA w1) {x : List Int} {xv sv' : Value} {xs : List Value} (hxs : RdAll (fun q => SE X G b mb rb ob w0.heap.size q ∧ sv.ownBlock ≠ some q) w1 (A.map D.ints) xs) (hx : Rd (fun q => SE X G b mb rb ob w0.heap.size q ∧ sv.ownBlock ≠ some q) w1 (D.ints x) [xv])
    (ho : w2.ownsRow B0 22 1 sv' (A.length + 1) (xs ++ [xv])) (hg : w1.grownBy w2 sv.ownBlock) (hat : sv'.ownBlock = sv.ownBlock ∨ ∃ q, sv'.ownBlock = some q ∧ w1.heap.size ≤ q) :
    ClI f T w0 B0 b mb rb ob kv fv tv sv0 (FrX X w1 w2) G c (A ++ [x]) K sv' LR LA vR vA (w2.setCell ⟨b, 3, none⟩ sv') ∧ ∀ {d : D} {cs : List Value}, Rd (fun q => SE X G b mb rb ob w0.heap.size q ∧ sv.ownBlock ≠ some q) w1 d cs → Rd (fun q => SE (FrX X w1 w2) G b mb rb ob w0.heap.size q ∧ sv'.ownBlock ≠ some q) (w2.setCell ⟨b, 3, none⟩ sv') d cs := by
  have hz := h.size
  have hkl := h.kn.lt
  have hml := h.km.lt
  obtain ⟨h1, h2, h3, ⟨xs0, h4, _⟩, h6, h7, h8, h9, h10, h11, h12, ⟨l1, l2, l3, l4, l5, l6⟩, h14⟩ := h
  have hl4 := h4.lt
  have hlo := ho.lt
  have hg2 : w2.grownBy (w2.setCell ⟨b, 3, none⟩ sv') (some b) := grown_cell w2 ⟨b, 3, none⟩ sv'
  have hne : ∀ q, sv.ownBlock = some q → q ≠ b ∧ q ≠ mb ∧ q ≠ rb ∧ q ≠ ob ∧ q ≠ w0.heap.size ∧ ¬ G q := by
    intro q e
    rcases h6 q e with hq | hq
    · refine ⟨hq.2.1, hq.2.2.1, hq.2.2.2.1, hq.2.2.2.2.1, hq.2.2.2.2.2, fun hG => ?_⟩
      have := h14 q hG; omega
    · refine ⟨by omega, by omega, by omega, by omega, by omega, hq.2.2⟩
  have e2 : ∀ q, q < w1.heap.size → sv.ownBlock ≠ some q → q ≠ b → (w2.setCell ⟨b, 3, none⟩ sv').heap[q]? = w1.heap[q]? := fun q hq h1 h2 =>
    (hg2.block q (Nat.lt_of_lt_of_le hq hg.size) (fun e => h2 (Option.some.inj e))).trans (hg.block q hq (fun e => h1 e.symm))
  have e3 : ∀ q, q < w1.heap.size → sv.ownBlock ≠ some q → sv'.ownBlock ≠ some q := by
    intro q hq h1 e
    rcases hat with h | ⟨q', e', hq'⟩
    · exact h1 (h ▸ e)
    · rw [e'] at e; cases e; omega
  have hse : ∀ q, SE X G b mb rb ob w0.heap.size q ∧ sv.ownBlock ≠ some q → q < w1.heap.size → (SE (FrX X w1 w2) G b mb rb ob w0.heap.size q ∧ sv'.ownBlock ≠ some q) ∧ (w2.setCell ⟨b, 3, none⟩ sv').heap[q]? = w1.heap[q]? := by
    rintro q ⟨a1, a2⟩ hq
    refine ⟨⟨se_fr a1, e3 q hq a2⟩, e2 q hq a2 ?_⟩
    rcases a1 with a | a <;> omega
  have hown : ∀ q, sv'.ownBlock = some q → SE (FrX X w1 w2) G b mb rb ob w0.heap.size q := by
    intro q e
    rcases hat with h | ⟨q', e', hq'⟩
    · exact se_fr (h6 q (h ▸ e))
    · rw [e'] at e; cases e
      refine .inr ⟨by omega, .inr ⟨hq', (hlo q e').2⟩, fun hG => ?_⟩
      have h15 := h8.px q (h14 q hG).1
      omega
  have hob : ∀ q, sv'.ownBlock = some q → q ≠ b := by
    intro q e
    rcases hown q e with a | a <;> omega
  refine ⟨⟨?_, ?_, ?_, ⟨xs ++ [xv], ?_, ?_⟩, hown, ?_, ?_, ?_, ?_, ?_, ?_, ⟨l1, l2, l3, l4, l5, l6⟩, fun q e => ⟨.inl (h14 q e).1, (h14 q e).2⟩⟩, fun hd => Rd.keep hse _ _ hd⟩
  · have h15 : w2.heap[b]? = _ := (hg.block b (by omega) (fun e => (hne b e.symm).1 rfl)).trans h1
    have := bx_set h15 3 sv'
    simpa using this
  · obtain ⟨F, hk, hF⟩ := h2
    exact ⟨F, kmap_blk hk (e2 mb hkl (fun e => (hne mb e).2.1 rfl) (fun e => l3 e.symm)), hF⟩
  · exact kmap_blk h3 (e2 rb hml (fun e => (hne rb e).2.2.1 rfl) (by omega))
  · rw [List.length_append]
    exact own_blk ho fun g e => hg2.block g (hlo g e).2 (fun e2 => hob g e (Option.some.inj e2))
  · rw [List.map_append]
    exact RdAll.append (RdAll.keep hse _ _ hxs) (RdAll.one (Rd.keep hse _ _ hx))
  · refine Rd.keep (fun q hq hlt => ⟨⟨hq.1, hq.2.1, hq.2.2.1, e3 q hlt hq.2.2.2⟩, e2 q hlt hq.2.2.2 hq.2.1⟩) _ _ h7
  · have k1 := h8.other (X' := FrX X w1 w2) hg (fun q e => ?_) (fun q e => e) [] 0
    · exact k1.other (X' := FrX X w1 w2) hg2 (fun q e => by cases e; left; omega) (fun q e => .inl e) [] 0
    · rcases h6 q e with a | a
      · left; omega
      · exact .inr (.inl a.2.1)
  · exact (e2 ob hz (fun e => (hne ob e).2.2.2.1 rfl) (by omega)).trans h9
  · exact (e2 _ (by omega) (fun e => (hne _ e).2.2.2.2.1 rfl) (by omega)).trans h10
  · exact (h11.grown hg (fun q e hq => .inr (.inr (h12 q e hq)))).grown hg2 (fun q e _ => .inl (Option.some.inj e).symm)
  · intro q e hq
    rcases hat with h | ⟨q', e', hq'⟩
    · exact h12 q (h ▸ e) hq
    · rw [e'] at e; cases e; omega
end
end Cl
end Go.Proofs.Ytgdfbjpahmnekaa
namespace Go.Proofs.Ytgdfbjpahmnekaa
open Go.RowKit
namespace Cl
open Df Lr Km

def rowVA (f : List Int → Bool) (T : List (List Int)) (A : List (List Int)) (u : List Int) (c q : Nat) : Value := .int .i64 (if q < c then valA f T A (u ++ [(q : Int)]) else 0)
section
variable {f : List Int → Bool} {T : List (List Int)} {w0 : World} {B0 b mb rb ob : Nat} {kv fv tv sv0 : Value} {X G X' G' : Nat → Prop} {c c' : Nat} {A : List (List Int)} {K K' : List (List UInt8)} {sv : Value} {LR : List (List Int)} {LA : List Int} {vR vA vR' vA' : Value} {wr w' w1 w2 : World} {u : List Int} {g k : Nat} {rv : Value} {aa an : Option Addr} {ca cn : Nat}
theorem vrowA_set (h : Vrow 3 g k (rowVA f T (extA f T u A c) u c) wr) (hc : c < k) {z : Int} (hz : z = valA f T (extA f T u A (c + 1)) (u ++ [(c : Int)])) : Vrow 3 g k (rowVA f T (extA f T u A (c + 1)) u (c + 1)) (wr.setCell ⟨g, c, none⟩ (.int .i64 z)) := by
  subst hz
  refine h.set hc fun q _ => ?_
  unfold rowVA
  by_cases e : q = c
  · subst e; rw [if_pos rfl, if_pos (by omega)]
  · rw [if_neg e]
    by_cases e2 : q < c
    · rw [if_pos e2, if_pos (by omega), valA_prefix (by rw [extA_next]; exact stepA_prefix _ _) (extA_mem u A e2)]
    · rw [if_neg e2, if_neg (by omega)]
/-- the row is whole -/
theorem ClI.whole (h : ClI f T w0 B0 b mb rb ob kv fv tv sv0 X (fun q => q = g) c A K sv LR LA vR vA wr) (hv : Vrow 3 g k (rowVA f T A u k) wr) (hm : k ≤ maxLen) (hk : u.length = u.length) (m : Int) :
    ClI f T w0 B0 b mb rb ob kv fv tv sv0 (fun q => X q ∧ q ≠ g) (fun _ => False) c A K sv LR LA vR vA wr ∧ PX (fun q => X q ∧ q ≠ g) (ob + 1) wr (rowA f T k A u) m LR LA vR vA (some (.slice (some ⟨g, 0, none⟩) k k)) none none wr := by
  have hgX := h.gx g rfl
  have k1 : ClI f T w0 B0 b mb rb ob kv fv tv sv0 (fun q => X q ∧ q ≠ g) (fun _ => False) c A K sv LR LA vR vA wr := h.touch (row := none) (grown_below (Below.refl _ _) none) (.inl rfl) h.kn h.km (fun q _ hq => by
    rcases hq with hq | ⟨h1, h2, h3⟩
    · exact .inl hq
    · exact .inr ⟨h1, ⟨h2, h3⟩, fun e => e⟩) (fun q e => .inl e.1) (fun q e => e.elim)
  refine ⟨k1, ?_⟩
  have k2 := h.px.other (X' := fun q => X q ∧ q ≠ g) (row := none) (grown_below (Below.refl _ _) none) (fun q e => by cases e) (fun q e => .inl e.1) (rowA f T k A u) m
  refine k2.call (rd_vrow hv (by unfold rowA; simp) hm ⟨hgX.2, fun e => e.2 rfl, fun e => h.px.xr _ e hgX.1, fun e => h.px.xa _ e hgX.1⟩ fun q hq => ?_)
  unfold rowVA
  unfold rowA at hq ⊢
  rw [List.length_map, List.length_range] at hq
  rw [if_pos hq, List.getElem_map, List.getElem_range]
/-- behind the two appends and stores -/
theorem ClI.next (h : ClI f T w0 B0 b mb rb ob kv fv tv sv0 X (fun _ => False) c A K sv LR LA vR vA w1) {r : List Int} {m : Int} {NR : List (List Int)} {NA : List Int} (hp : PX X (ob + 1) w1 r m NR NA vR' vA' none none none w2) :
    ClI f T w0 B0 b mb rb ob kv fv tv sv0 X (fun _ => False) c A K sv NR NA vR' vA' ((w2.setCell ⟨ob, 2, none⟩ vR').setCell ⟨ob, 1, none⟩ vA') := by
  have hz := h.size
  obtain ⟨h1, h2, h3, ⟨xs, h4, h5⟩, h6, h7, h8, h9, h10, h11, h12, ⟨l1, l2, l3, l4, l5, l6⟩, h14⟩ := h
  have hl4 := h4.lt
  have hsz := hp.bel.size
  have e2 : ∀ q, q ≤ ob → q ≠ ob → ((w2.setCell ⟨ob, 2, none⟩ vR').setCell ⟨ob, 1, none⟩ vA').heap[q]? = w1.heap[q]? := by
    intro q hq hne
    rw [(grown_cell _ ⟨ob, 1, none⟩ vA').block q (by have := (grown_cell w2 ⟨ob, 2, none⟩ vR').size; omega) (fun e => hne (Option.some.inj e)), (grown_cell w2 ⟨ob, 2, none⟩ vR').block q (by omega) (fun e => hne (Option.some.inj e))]
    exact hp.bel.block q (by omega)
  have e3 : ∀ q, X q → q ≠ ob → ((w2.setCell ⟨ob, 2, none⟩ vR').setCell ⟨ob, 1, none⟩ vA').heap[q]? = w1.heap[q]? := by
    intro q hq hne
    have hx := hp.px q hq
    rw [(grown_cell _ ⟨ob, 1, none⟩ vA').block q (by have := (grown_cell w2 ⟨ob, 2, none⟩ vR').size; omega) (fun e => hne (Option.some.inj e)), (grown_cell w2 ⟨ob, 2, none⟩ vR').block q (by omega) (fun e => hne (Option.some.inj e))]
    exact hx.2
  have e4 : ∀ q, SE X (fun _ => False) b mb rb ob w0.heap.size q → ((w2.setCell ⟨ob, 2, none⟩ vR').setCell ⟨ob, 1, none⟩ vA').heap[q]? = w1.heap[q]? := by
    rintro q (hq | hq)
    · exact e2 q hq.1 hq.2.2.2.2.1
    · exact e3 q hq.2.1 (by omega)
  refine ⟨(e2 b (by omega) (by omega)).trans h1, ?_, kmap_blk h3 (e2 rb (by omega) (by omega)), ⟨xs, own_blk h4 fun q e => e4 q (h6 q e), RdAll.keep (fun q hq _ => ⟨hq, e4 q hq.1⟩) _ _ h5⟩, h6, Rd.keep (fun q hq _ => ⟨hq, e2 q (by have := hq.1; omega) (by have := hq.1; omega)⟩) _ _ h7, ?_, ?_, (e2 _ (by omega) (by omega)).trans h10, ?_, h12, ⟨l1, l2, l3, l4, l5, l6⟩, h14⟩
  · obtain ⟨F, hk, hF⟩ := h2
    exact ⟨F, kmap_blk hk (e2 mb (by omega) (by omega)), hF⟩
  · exact (hp.other (X' := X) (row := some ob) (grown_cell w2 ⟨ob, 2, none⟩ vR') (fun q e => by cases e; left; omega) (fun q e => .inl e) [] 0).other (X' := X) (row := some ob) (grown_cell _ ⟨ob, 1, none⟩ vA') (fun q e => by cases e; left; omega) (fun q e => .inl e) [] 0
  · have h15 : w2.heap[ob]? = _ := (hp.bel.block ob (by omega)).trans h9
    have := bx_set (bx_set h15 2 vR') 1 vA'
    simpa using this
  · refine ⟨hp.bel.os.trans h11.os, hp.bel.tape.trans h11.tape, hp.bel.output.trans h11.output, ?_, fun q hq hx => ?_⟩
    · have a1 := (grown_cell (w2.setCell ⟨ob, 2, none⟩ vR') ⟨ob, 1, none⟩ vA').size
      have a2 := (grown_cell w2 ⟨ob, 2, none⟩ vR').size
      have a3 := h11.size
      omega
    · exact (e2 q (by omega) (by omega)).trans (h11.block q hq hx)
/-- while the first words' rows are asked for -/
structure ClF (f : List Int → Bool) (w0 : World) (b mb rb : Nat) (kv fv tv sv0 : Value) (c : Nat) (K : List (List UInt8)) (wr : World) : Prop where
  bx : wr.heap[b]? = some (.cells #[kv, fv, .map (some mb), sv0, tv, .map (some rb)] 36 (0, 0))
  kn : KN f mb c wr
  km : KMap 9 3 rb (FS K) K.length wr
  rbx : wr.heap[w0.heap.size]? = some (.cells #[.int .i64 0, .slice none 0 0, .slice none 0 0] 25 (0, 0))
  fr : GrX (fun q => q = b ∨ q = mb) w0 wr
theorem ClF.call (h : ClF f w0 b mb rb kv fv tv sv0 c K wr) (hlo : b < w0.heap.size ∧ mb < w0.heap.size ∧ b ≠ mb ∧ w0.heap.size < rb) (hg : wr.grownBy w' (some mb)) (hkn : KN f mb c' w') : ClF f w0 b mb rb kv fv tv sv0 c' K w' := by
  obtain ⟨h1, h2, h3, h4, h5⟩ := h
  have hb := (Array.getElem?_eq_some_iff.1 h1).1
  have hb4 := (Array.getElem?_eq_some_iff.1 h4).1
  exact ⟨(hg.block b hb (fun e => hlo.2.2.1 (Option.some.inj e))).trans h1, hkn, h3.kept hg (fun e => by have := Option.some.inj e; omega), (hg.block _ hb4 (fun e => by have := Option.some.inj e; omega)).trans h4, h5.grown hg (fun q e _ => .inr (Option.some.inj e).symm)⟩
theorem ClF.mapped (h : ClF f w0 b mb rb kv fv tv sv0 c K wr) (hlo : b < w0.heap.size ∧ mb < w0.heap.size ∧ b ≠ mb ∧ w0.heap.size < rb) (hg : wr.grownBy w' (some rb)) (hkm : KMap 9 3 rb (FS K') K'.length w') : ClF f w0 b mb rb kv fv tv sv0 c K' w' := by
  obtain ⟨h1, h2, h3, h4, h5⟩ := h
  have hb := (Array.getElem?_eq_some_iff.1 h1).1
  have hb4 := (Array.getElem?_eq_some_iff.1 h4).1
  exact ⟨(hg.block b hb (fun e => by have := Option.some.inj e; omega)).trans h1, h2.kept hg (fun e => by have := Option.some.inj e; omega), hkm, (hg.block _ hb4 (fun e => by have := Option.some.inj e; omega)).trans h4, h5.grown hg (fun q e hq => by have := Option.some.inj e; omega)⟩
theorem ClF.drew (h : ClF f w0 b mb rb kv fv tv sv0 c K wr) (hb : Below wr.heap.size wr w') : ClF f w0 b mb rb kv fv tv sv0 c K w' := by
  obtain ⟨h1, h2, h3, h4, h5⟩ := h
  exact ⟨bx_keep h1 hb, h2.keep hb, h3.keep hb, bx_keep h4 hb, h5.grown (grown_below hb none) (fun q e => by cases e)⟩
theorem ClF.start (hl : LrS f T B0 b mb kv fv tv c A sv0 rv w0) (hrb : rb = w0.heap.size + 1) :
    ClF f w0 b mb rb kv fv tv sv0 c [] (((w0.setCell ⟨b, 5, none⟩ (.map (some rb))).alloc (.cells #[.int .i64 0, .slice none 0 0, .slice none 0 0] 25)).alloc (.map #[] 0)) := by
  obtain ⟨h1, h2, h3, h4, h5, h6⟩ := hl
  have hb := (Array.getElem?_eq_some_iff.1 h1).1
  have hm := h2.lt
  have g1 := grown_cell w0 ⟨b, 5, none⟩ (.map (some rb))
  have hs : (w0.setCell ⟨b, 5, none⟩ (.map (some rb))).heap.size = w0.heap.size := by simp [World.setCell]
  have hb1 : (w0.setCell ⟨b, 5, none⟩ (.map (some rb))).heap[b]? = some (.cells #[kv, fv, .map (some mb), sv0, tv, .map (some rb)] 36 (0, 0)) := by
    have := bx_set h1 5 (.map (some rb))
    simpa using this
  obtain ⟨w1, HW1⟩ := nameIt (w0.setCell ⟨b, 5, none⟩ (.map (some rb)))
  rw [HW1.out] at hs hb1 g1
  rw [HW1.out]
  have k1 : Below w1.heap.size w1 ((w1.alloc (.cells #[.int .i64 0, .slice none 0 0, .slice none 0 0] 25)).alloc (.map #[] 0)) := ((Below.refl _ _).alloc (Nat.le_refl _) _).alloc (by simp) _
  refine ⟨bx_keep hb1 k1, (h2.kept g1 (fun e => h6 (Option.some.inj e).symm)).keep k1, ?_, ?_, ((GrX.refl _ _).grown g1 (fun q e _ => .inl (Option.some.inj e).symm)).grown (grown_below k1 none) (fun q e => by cases e)⟩
  · rw [fS_nil]
    exact KMap.start _ (by simp [hs]; exact hrb)
  · exact bx_keep (bx_new _ _ _ hs.symm) ((Below.refl _ _).alloc (Nat.le_refl _) _)
/-- from the first words to the rounds -/
theorem ClF.rounds (h : ClF f w0 b mb rb kv fv tv sv c (ks f T A) wr) (hl : LrS f T B0 b mb kv fv tv c' A sv rv w0) (hrb : rb = w0.heap.size + 1) (hB : B0 ≤ w0.heap.size) (ho : ob = wr.heap.size) :
    ClI f T w0 B0 b mb rb ob kv fv tv sv (fun _ => False) (fun _ => False) c A (ks f T A) sv [] [] (.slice none 0 0) (.slice none 0 0) (wr.alloc (.cells #[.int .i64 0, .slice none 0 0, .slice none 0 0] 25)) := by
  have hb : Below wr.heap.size wr (wr.alloc (.cells #[.int .i64 0, .slice none 0 0, .slice none 0 0] 25)) := (Below.refl _ _).alloc (Nat.le_refl _) _
  obtain ⟨h1, h2, h3, h4, h5⟩ := h
  obtain ⟨a1, a2, ⟨xs, a3, a4⟩, a5, a6, a7⟩ := hl
  have hbl := (Array.getElem?_eq_some_iff.1 a1).1
  have hml := a2.lt
  have hrl := h3.lt
  have hal := a3.lt
  have hz := h5.size
  subst ho
  have fr : GrX (fun q => q = b ∨ q = mb) w0 (wr.alloc (.cells #[.int .i64 0, .slice none 0 0, .slice none 0 0] 25)) := h5.grown (grown_below hb none) (fun q e => by cases e)
  have e1 : ∀ q, q < w0.heap.size → q ≠ b ∧ q ≠ mb → (wr.alloc (.cells #[.int .i64 0, .slice none 0 0, .slice none 0 0] 25)).heap[q]? = w0.heap[q]? := fun q hq hne => fr.block q hq (fun e => e.elim hne.1 hne.2)
  have e2 : ∀ q, q < w0.heap.size → q ≠ b ∧ q ≠ mb → SE (fun _ => False) (fun _ => False) b mb rb wr.heap.size w0.heap.size q := fun q hq hne => .inl ⟨by omega, hne.1, hne.2, by omega, by omega, by omega⟩
  refine ⟨bx_keep h1 hb, h2.keep hb, h3.keep hb, ⟨xs, own_blk a3 fun q e => e1 q (hal q e).2 (a5 q e), RdAll.keep (fun q hq hlt => ⟨⟨e2 q hlt hq.1, hq.2⟩, e1 q hlt hq.1⟩) _ _ a4⟩, fun q e => e2 q (hal q e).2 (a5 q e), Rd.keep (fun q hq hlt => ⟨⟨hlt, hq⟩, e1 q hlt ⟨hq.1, hq.2.1⟩⟩) _ _ a6, PX.nil _ _ _ _ _ (by simp) (fun q e => e.elim), bx_new _ _ _ rfl, bx_keep h4 hb, fr.mono (fun q _ e => e.elim .inl (fun e => .inr (.inl e))), fun q e _ => e, ⟨hbl, hml, a7, by omega, by omega, by omega⟩, fun q e => e.elim⟩
/-- what close leaves -/
def CloseR (f : List Int → Bool) (T : List (List Int)) (w : World) (B0 b mb : Nat) (kv fv tv sv0 : Value) (c : Nat) (A : List (List Int)) (LR : List (List Int)) (LA : List Int) (e : Ending) (w' : World) : Prop :=
  ∃ (aa an : Option Addr) (ca cn rb c' : Nat) (sv' : Value), e = .returned (.tuple #[.agg #[.int .i64 0, .slice aa LA.length ca, .slice an LR.length cn], .bool true]) ∧ LrS f T B0 b mb kv fv tv c' A sv' (.map (some rb)) w' ∧ c' ≤ c ∧
  Rd (fun q => w.heap.size ≤ q ∧ sv'.ownBlock ≠ some q) w' (D.ints LA) [.slice aa LA.length ca] ∧ Rd (fun q => w.heap.size ≤ q ∧ sv'.ownBlock ≠ some q) w' (.sl (LR.map D.ints)) [.slice an LR.length cn] ∧ GrX (fun q => q = b ∨ q = mb ∨ sv0.ownBlock = some q) w w'
theorem ClI.fin (h : ClI f T w0 B0 b mb rb ob kv fv tv sv0 X (fun _ => False) c A K sv LR LA (.slice an LR.length cn) (.slice aa LA.length ca) wr) (hc : c ≤ c') (w3 : World) (hg : wr.grownBy w3 (some w0.heap.size)) :
    CloseR f T w0 B0 b mb kv fv tv sv0 c' A LR LA (.returned (.tuple #[.agg #[.int .i64 0, .slice aa LA.length ca, .slice an LR.length cn], .bool true])) w3 := by
  have hz := h.size
  have hkl := h.kn.lt
  obtain ⟨h1, h2, h3, ⟨xs, h4, h5⟩, h6, h7, h8, h9, h10, h11, h12, ⟨l1, l2, l3, l4, l5, l6⟩, h14⟩ := h
  have hl4 := h4.lt
  have hse : ∀ q, SE X (fun _ => False) b mb rb ob w0.heap.size q → q ≠ b ∧ q ≠ mb ∧ q ≠ w0.heap.size := by
    rintro q (hq | hq) <;> omega
  have e2 : ∀ q, q < wr.heap.size → q ≠ w0.heap.size → w3.heap[q]? = wr.heap[q]? := fun q hq hne => hg.block q hq (fun e => hne (Option.some.inj e))
  obtain ⟨⟨xr, r1, r2⟩, r3⟩ := And.intro h8.rows h8.acc
  have hr1 := r1.lt
  have hr3 := r3.lt
  have hX : ∀ q, ob + 1 ≤ q → ¬ X q → sv.ownBlock ≠ some q := by
    intro q hq hx e
    rcases h6 q e with a | a
    · omega
    · exact hx a.2.1
  refine ⟨aa, an, ca, cn, rb, c, sv, rfl, ⟨(e2 b (by omega) (by omega)).trans h1, ?_, ⟨xs, own_blk h4 fun q e => e2 q (hl4 q e).2 (hse q (h6 q e)).2.2, RdAll.keep (fun q hq hlt => ⟨⟨⟨(hse q hq.1).1, (hse q hq.1).2.1⟩, hq.2⟩, e2 q hlt (hse q hq.1).2.2⟩) _ _ h5⟩, fun q e => ⟨(hse q (h6 q e)).1, (hse q (h6 q e)).2.1⟩, Rd.keep (fun q hq hlt => ⟨⟨hq.2.1, hq.2.2.1, hq.2.2.2⟩, e2 q hlt (by have := hq.1; omega)⟩) _ _ h7, l3⟩, hc, ?_, ?_, h11.grown hg (fun q e hq => by have := Option.some.inj e; omega)⟩
  · obtain ⟨F, hk, hF⟩ := h2
    exact ⟨F, kmap_blk hk (e2 mb hkl (by omega)), hF⟩
  · have k1 : Rd (fun q => ob + 1 ≤ q ∧ ¬ X q) wr (D.ints LA) [.slice aa LA.length ca] := by
      have := rd_of_own (S := fun q => ob + 1 ≤ q ∧ ¬ X q) (ds := LA.map D.int) r3 ((rdAll_ints LA _).2 rfl) (by simp) (fun q e => ⟨(hr3 q e).1, h8.xa q e⟩)
      exact this
    exact Rd.keep (fun q hq hlt => ⟨⟨by omega, hX q hq.1 hq.2⟩, e2 q hlt (by omega)⟩) _ _ k1
  · have k1 : Rd (fun q => ob + 1 ≤ q ∧ ¬ X q) wr (.sl (LR.map D.ints)) [.slice an LR.length cn] :=
      rd_of_own r1 (r2.mono fun q hq _ => ⟨hq.1, hq.2.1⟩) (by simp) (fun q e => ⟨(hr1 q e).1, h8.xr q e⟩)
    exact Rd.keep (fun q hq hlt => ⟨⟨by omega, hX q hq.1 hq.2⟩, e2 q hlt (by omega)⟩) _ _ k1
end
end Cl
end Go.Proofs.Ytgdfbjpahmnekaa
namespace Go.Proofs.Ytgdfbjpahmnekaa
open Go.RowKit

theorem rd_nil (S : Nat → Prop) (w : World) : Rd S w (.sl []) [.slice none 0 0] := ⟨none, 0, [], rfl, by simp, by simp [maxLen], fun _ => rfl, fun i hi => by simp at hi, rfl⟩

/-- a function of nodes, as a function value: I: what it holds of the nodes seen so far, in which blocks -/
structure NodeFn (g : Nat) (lb : Array Value) (w0 : World) (p : Tree → Bool) (N : Nat) (I : List Tree → (Nat → Prop) → World → Prop) : Prop where
  below : ∀ {s S W}, I s S W → Below w0.heap.size w0 W
  own : ∀ {s S W}, I s S W → ∀ k, S k → w0.heap.size ≤ k ∧ k < W.heap.size
  keep : ∀ {s S W W'}, I s S W → Below W.heap.size W W' → I s S W'
  call : ∀ s S W (t : Tree) (v : Value), I s S W → Rd AnyB w0 (.sl (t.kids.map Tree.d)) [v] → s.length < N →
    Calls Try.prog g (#[.agg #[.int .i64 t.rule, .int .i64 t.term, v]] ++ lb) W fun e W' => ∃ S', e = .returned (.bool (p t)) ∧ I (s ++ [t]) S' W' ∧ Keeps S W W' ∧ ∀ k, S' k → S k ∨ W.heap.size ≤ k

structure WalkRel (p : Tree → Bool) (I : List Tree → (Nat → Prop) → World → Prop) (t : Tree) (s : List Tree) (S : Nat → Prop) (W : World) (i : Nat) (S' : Nat → Prop) (W' : World) : Prop where
  inv : I (s ++ t :: nodesL ((kidsOf t).take i)) S' W'
  kps : Keeps S W W'
  sub : ∀ k, S' k → S k ∨ W.heap.size ≤ k
  all : (t :: nodesL ((kidsOf t).take i)).all p = true

end Go.Proofs.Ytgdfbjpahmnekaa
namespace Go.Proofs.Ytgdfbjpahmnekaa
open Go.RowKit

mutual
def Tree.size : Tree → Nat
  | .node _ _ ks => sizeL ks + 1
def sizeL : List Tree → Nat
  | [] => 0
  | k :: ks => Tree.size k + sizeL ks
end
theorem Tree.size_eq (t : Tree) : t.size = sizeL t.kids + 1 := by cases t; simp [Tree.size, Tree.kids]
theorem grown_box3 (b : Nat) (w : World) (x y z : Value) : w.grownBy (((w.setCell ⟨b, 0, none⟩ x).setCell ⟨b, 1, none⟩ y).setCell ⟨b, 2, none⟩ z) (some b) := grown_trans (grown_trans (grown_cell _ _ _) (grown_cell _ _ _)) (grown_cell _ _ _)
end Go.Proofs.Ytgdfbjpahmnekaa
namespace Go.Proofs.Ytgdfbjpahmnekaa
open Go.RowKit

theorem bx_set3 {w : World} {b : Nat} {x0 x1 x2 : Value} {T : TypeId} (h : w.heap[b]? = some (.cells #[x0, x1, x2] T (0, 0))) (y0 y1 y2 : Value) : (((w.setCell ⟨b, 0, none⟩ y0).setCell ⟨b, 1, none⟩ y1).setCell ⟨b, 2, none⟩ y2).heap[b]? = some (.cells #[y0, y1, y2] T (0, 0)) := by
  rw [bx_set (bx_set (bx_set h 0 y0) 1 y1) 2 y2]; rfl
theorem bx_other3 {w : World} {b c : Nat} {o : Obj} (h : w.heap[b]? = some o) (hne : b ≠ c) (y0 y1 y2 : Value) : (((w.setCell ⟨c, 0, none⟩ y0).setCell ⟨c, 1, none⟩ y1).setCell ⟨c, 2, none⟩ y2).heap[b]? = some o :=
  bx_other (bx_other (bx_other h hne _ _) hne _ _) hne _ _

end Go.Proofs.Ytgdfbjpahmnekaa
