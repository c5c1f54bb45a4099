/- learner.close: what its loops keep. learner.close: the rows, the beginning, the end. learn.Of: what its rounds keep. The contracts of tree.kids and tree.walk. The contracts of gram.CopyTree and tree.Clone. The contracts of Below and tree.At. -/
import Derived.Test.YtclpmmbclgihbaaJLearnTellsRow2
import Derived.Test.YtclpmmbclgihbaaJLearnTellsRow4
import Derived.Test.YtclpmmbclgihbaaJLearnTellsRow5
import Derived.Test.YtclpmmbclgihbaaJLearnTellsRow1
import Derived.Deep.LoopGhost
import Derived.Deep.Cut
import Derived.Shelf.Abstract
import Derived.Deep.RegionHeld3
namespace Go.Proofs.Ytclpmmbclgihbaa
open Go.RowKit
namespace Cl
open Df Lr Km

/-- all but the blocks of X is as it was -/
structure GrX (X : Nat → Prop) (w w' : World) : Prop where
  os : w'.os = w.os
  tape : w'.tape = w.tape
  output : w'.output = w.output
  size : w.heap.size ≤ w'.heap.size
  block : ∀ k, k < w.heap.size → ¬ X k → w'.heap[k]? = w.heap[k]?
theorem GrX.refl (X : Nat → Prop) (w : World) : GrX X w w := ⟨rfl, rfl, rfl, Nat.le_refl _, fun _ _ _ => rfl⟩
theorem GrX.trans {X : Nat → Prop} {a b c : World} (h : GrX X a b) (k : GrX X b c) : GrX X a c := ⟨k.os.trans h.os, k.tape.trans h.tape, k.output.trans h.output, Nat.le_trans h.size k.size, fun q hq hx => (k.block q (Nat.lt_of_lt_of_le hq h.size) hx).trans (h.block q hq hx)⟩
theorem GrX.grown {X : Nat → Prop} {a b c : World} (h : GrX X a b) {row : Option Nat} (hg : b.grownBy c row) (hr : ∀ q, row = some q → q < a.heap.size → X q) : GrX X a c :=
  ⟨hg.os.trans h.os, hg.tape.trans h.tape, hg.output.trans h.output, Nat.le_trans h.size hg.size, fun q hq hx => (hg.block q (Nat.lt_of_lt_of_le hq h.size) (fun e => hx (hr q e.symm hq))).trans (h.block q hq hx)⟩
theorem GrX.mono {X Y : Nat → Prop} {a b : World} (h : GrX X a b) (hX : ∀ q, q < a.heap.size → X q → Y q) : GrX Y a b := ⟨h.os, h.tape, h.output, h.size, fun q hq hy => h.block q hq (fun e => hy (hX q hq e))⟩
/-- the learner's words: access -/
def AcR (S : Nat → Prop) (B0 : Nat) (A : List (List Int)) (sv : Value) (w : World) : Prop := ∃ xs, w.ownsRow B0 22 1 sv A.length xs ∧ RdAll (fun q => S q ∧ sv.ownBlock ≠ some q) w (A.map D.ints) xs
theorem AcR.rd {S : Nat → Prop} {B0 : Nat} {A : List (List Int)} {sv : Value} {w : World} (h : AcR S B0 A sv w) : Rd AnyB w (.sl (A.map D.ints)) [sv] := by
  obtain ⟨xs, h1, h2⟩ := h
  exact rd_of_own h1 h2.any (by simp) (fun _ _ => trivial)
/-- a learner -/
structure LrS (Z : Nat → Prop) (f : List Int → Bool) (T : List (List Int)) (B0 b mb : Nat) (kv fv tv : Value) (c : Nat) (A : List (List Int)) (sv rv : Value) (w : World) : Prop where
  bx : w.heap[b]? = some (.cells #[kv, fv, .map (some mb), sv, tv, rv] 43 (0, 0))
  kn : KN f mb c w
  ac : AcR (fun q => q ≠ b ∧ q ≠ mb ∧ ¬ Z q) B0 A sv w
  so : ∀ q, sv.ownBlock = some q → q ≠ b ∧ q ≠ mb ∧ ¬ Z q
  ts : Rd (fun q => q ≠ b ∧ q ≠ mb ∧ sv.ownBlock ≠ some q) w (.sl (T.map D.ints)) [tv]
  ne : b ≠ mb
/-- the blocks of words -/
def SE (Z X G : Nat → Prop) (b mb rb ob s0 : Nat) (q : Nat) : Prop := (q ≤ ob ∧ q ≠ b ∧ q ≠ mb ∧ q ≠ rb ∧ q ≠ ob ∧ q ≠ s0 ∧ ¬ Z q) ∨ (ob < q ∧ X q ∧ ¬ G q)
structure ClI (Z : Nat → Prop) (f : List Int → Bool) (T : List (List Int)) (w0 : World) (B0 b mb rb ob : Nat) (kv fv tv sv0 : Value) (X G : Nat → Prop) (c : Nat) (A : List (List Int)) (K : List (List UInt8)) (sv : Value) (LR : List (List Int)) (LA : List Int) (vR vA : Value) (wr : World) : Prop where
  bx : wr.heap[b]? = some (.cells #[kv, fv, .map (some mb), sv, tv, .map (some rb)] 43 (0, 0))
  kn : KN f mb c wr
  km : KMap 9 3 rb (FS K) K.length wr
  ac : AcR (SE Z X G b mb rb ob w0.heap.size) B0 A sv wr
  so : ∀ q, sv.ownBlock = some q → SE Z X G b mb rb ob w0.heap.size q
  ts : Rd (fun q => q < w0.heap.size ∧ q ≠ b ∧ q ≠ mb ∧ sv.ownBlock ≠ some q) wr (.sl (T.map D.ints)) [tv]
  px : PX X (ob + 1) wr [] 0 LR LA vR vA none none none wr
  bxo : wr.heap[ob]? = some (.cells #[.int .i64 0, vA, vR] 25 (0, 0))
  rbx : wr.heap[w0.heap.size]? = some (.cells #[.int .i64 0, .slice none 0 0, .slice none 0 0] 25 (0, 0))
  fr : GrX (fun q => q = b ∨ q = mb ∨ sv0.ownBlock = some q) w0 wr
  s0 : ∀ q, sv.ownBlock = some q → q < w0.heap.size → sv0.ownBlock = some q
  lo : b < w0.heap.size ∧ mb < w0.heap.size ∧ b ≠ mb ∧ w0.heap.size < rb ∧ rb < ob ∧ B0 ≤ ob
  gx : ∀ q, G q → X q ∧ ob < q
/-- X and all new blocks -/
def FrX (X : Nat → Prop) (w w' : World) : Nat → Prop := fun q => X q ∨ (w.heap.size ≤ q ∧ q < w'.heap.size)
section
variable {Z : Nat → Prop} {f : List Int → Bool} {T : List (List Int)} {w0 : World} {B0 b mb rb ob : Nat} {kv fv tv sv0 : Value} {X G X' G' : Nat → Prop} {c c' : Nat} {A : List (List Int)} {K K' : List (List UInt8)} {sv : Value} {LR : List (List Int)} {LA : List Int} {vR vA : Value} {wr w' w1 w2 : World}
/-- which blocks may change -/
def May (G : Nat → Prop) (mb rb : Nat) (row : Option Nat) : Prop := row = none ∨ row = some mb ∨ row = some rb ∨ ∃ g, row = some g ∧ G g
theorem ClI.size (h : ClI Z f T w0 B0 b mb rb ob kv fv tv sv0 X G c A K sv LR LA vR vA wr) : ob < wr.heap.size := (Array.getElem?_eq_some_iff.1 h.bxo).1
theorem ClI.may (h : ClI Z f T w0 B0 b mb rb ob kv fv tv sv0 X G c A K sv LR LA vR vA wr) {row : Option Nat} (hrow : May G mb rb row) {q : Nat} (hq : SE Z X G b mb rb ob w0.heap.size q) : row ≠ some q := by
  obtain ⟨l1, l2, l3, l4, l5, l6⟩ := h.lo
  have hgx := h.gx
  intro e
  rcases hrow with e' | e' | e' | ⟨g, e', hg⟩ <;> rw [e] at e' <;> cases e'
  · rcases hq with hq | hq <;> omega
  · rcases hq with hq | hq <;> omega
  · have := hgx q hg
    rcases hq with hq | hq
    · omega
    · exact hq.2.2 hg
theorem ClI.se (h : ClI Z f T w0 B0 b mb rb ob kv fv tv sv0 X G c A K sv LR LA vR vA wr) {row : Option Nat} (hg : wr.grownBy w' row) (hrow : May G mb rb row) (hX : ∀ q, q < wr.heap.size → SE Z X G b mb rb ob w0.heap.size q → SE Z X' G' b mb rb ob w0.heap.size q) {q : Nat} (hq : SE Z X G b mb rb ob w0.heap.size q ∧ sv.ownBlock ≠ some q) (hlt : q < wr.heap.size) :
    (SE Z X' G' b mb rb ob w0.heap.size q ∧ sv.ownBlock ≠ some q) ∧ w'.heap[q]? = wr.heap[q]? := ⟨⟨hX q hlt hq.1, hq.2⟩, hg.block q hlt (fun e => h.may hrow hq.1 e.symm)⟩
theorem ClI.touch (h : ClI Z f T w0 B0 b mb rb ob kv fv tv sv0 X G c A K sv LR LA vR vA wr) {row : Option Nat} (hg : wr.grownBy w' row) (hrow : May G mb rb row) (hkn : KN f mb c' w') (hkm : KMap 9 3 rb (FS K') K'.length w')
    (hX : ∀ q, q < wr.heap.size → SE Z X G b mb rb ob w0.heap.size q → SE Z X' G' b mb rb ob w0.heap.size q) (hX' : ∀ q, X' q → X q ∨ (wr.heap.size ≤ q ∧ q < w'.heap.size)) (hG' : ∀ q, G' q → X' q ∧ ob < q) :
    ClI Z f T w0 B0 b mb rb ob kv fv tv sv0 X' G' c' A K' sv LR LA vR vA w' := by
  have hse := fun q => h.se (q := q) (X' := X') (G' := G') hg hrow hX
  have hmay := fun q => h.may (q := q) hrow
  have hz := h.size
  obtain ⟨h1, h2, h3, ⟨xs, h4, h5⟩, h6, h7, h8, h9, h10, h11, h12, ⟨l1, l2, l3, l4, l5, l6⟩, h14⟩ := h
  have hl4 := h4.lt
  have hne : ∀ q, q ≤ ob → q ≠ mb → q ≠ rb → row ≠ some q := by
    intro q a1 a2 a3 e
    rcases hrow with e' | e' | e' | ⟨g, e', hg⟩ <;> rw [e] at e' <;> cases e'
    · exact a2 rfl
    · exact a3 rfl
    · have := h14 q hg; omega
  have hb : ∀ q, q ≤ ob → q ≠ mb → q ≠ rb → w'.heap[q]? = wr.heap[q]? := fun q a1 a2 a3 => hg.block q (by omega) (fun e => hne q a1 a2 a3 e.symm)
  refine ⟨(hb b (by omega) l3 (by omega)).trans h1, hkn, hkm, ⟨xs, own_otherP h4 hg fun q e => hmay q (h6 q e), RdAll.keep (fun q hq hlt => hse q hq hlt) _ _ h5⟩, fun q e => hX q (hl4 q e).2 (h6 q e), Rd.keep (fun q hq hlt => ⟨hq, hb q (by omega) (by omega) (by omega)⟩) _ _ h7, ?_, (hb ob (Nat.le_refl _) (by omega) (by omega)).trans h9, (hb _ (by omega) (by omega) (by omega)).trans h10, h11.grown hg ?_, h12, ⟨l1, l2, l3, l4, l5, l6⟩, hG'⟩
  · refine h8.other hg (fun q e => ?_) hX' [] 0
    rcases hrow with e' | e' | e' | ⟨g, e', hg⟩ <;> rw [e] at e' <;> cases e'
    · left; omega
    · left; omega
    · exact .inr (.inl (h14 q hg).1)
  · intro q e hq
    rcases hrow with e' | e' | e' | ⟨g, e', hg⟩ <;> rw [e] at e' <;> cases e'
    · exact .inr (.inl rfl)
    · omega
    · have := h14 q hg; omega
/-- what X and all new blocks have -/
theorem se_fr {s0 q : Nat} (h : SE Z X G b mb rb ob s0 q) : SE Z (FrX X wr w') G b mb rb ob s0 q := by
  rcases h with h | ⟨h1, h2, h3⟩
  · exact .inl h
  · exact .inr ⟨h1, .inl h2, h3⟩
theorem ClI.touchF (h : ClI Z f T w0 B0 b mb rb ob kv fv tv sv0 X G c A K sv LR LA vR vA wr) {row : Option Nat} (hg : wr.grownBy w' row) (hrow : May G mb rb row) (hkn : KN f mb c' w') (hkm : KMap 9 3 rb (FS K') K'.length w') :
    ClI Z f T w0 B0 b mb rb ob kv fv tv sv0 (FrX X wr w') G c' A K' sv LR LA vR vA w' :=
  h.touch hg hrow hkn hkm (fun q _ hq => se_fr hq) (fun q e => e) (fun q e => ⟨.inl (h.gx q e).1, (h.gx q e).2⟩)
theorem ClI.rdF (h : ClI Z f T w0 B0 b mb rb ob kv fv tv sv0 X G c A K sv LR LA vR vA wr) {row : Option Nat} (hg : wr.grownBy w' row) (hrow : May G mb rb row) {d : D} {cs : List Value} (hd : Rd (fun q => SE Z X G b mb rb ob w0.heap.size q ∧ sv.ownBlock ≠ some q) wr d cs) :
    Rd (fun q => SE Z (FrX X wr w') G b mb rb ob w0.heap.size q ∧ sv.ownBlock ≠ some q) w' d cs := Rd.keep (fun q hq hlt => h.se hg hrow (fun q _ hq => se_fr hq) hq hlt) _ _ hd
/-- the calls -/
theorem ClI.call (h : ClI Z f T w0 B0 b mb rb ob kv fv tv sv0 X G c A K sv LR LA vR vA wr) (hg : wr.grownBy w' (some mb)) (hkn : KN f mb c' w') : ClI Z f T w0 B0 b mb rb ob kv fv tv sv0 (FrX X wr w') G c' A K sv LR LA vR vA w' :=
  h.touchF hg (.inr (.inl rfl)) hkn (h.km.kept hg (fun e => by have := h.lo; cases e; omega))
theorem ClI.below (h : ClI Z f T w0 B0 b mb rb ob kv fv tv sv0 X G c A K sv LR LA vR vA wr) (hb : Below wr.heap.size wr w') : ClI Z f T w0 B0 b mb rb ob kv fv tv sv0 (FrX X wr w') G c A K sv LR LA vR vA w' :=
  h.touchF (grown_below hb none) (.inl rfl) (h.kn.keep hb) (h.km.keep hb)
theorem ClI.mapped (h : ClI Z f T w0 B0 b mb rb ob kv fv tv sv0 X G c A K sv LR LA vR vA wr) (hg : wr.grownBy w' (some rb)) (hkm : KMap 9 3 rb (FS K') K'.length w') : ClI Z f T w0 B0 b mb rb ob kv fv tv sv0 (FrX X wr w') G c A K' sv LR LA vR vA w' :=
  h.touchF hg (.inr (.inr (.inl rfl))) (h.kn.kept hg (fun e => by have := h.lo; cases e; omega)) hkm
theorem ClI.cell (h : ClI Z f T w0 B0 b mb rb ob kv fv tv sv0 X G c A K sv LR LA vR vA wr) {g : Nat} (hG : G g) (j : Nat) (v : Value) : ClI Z f T w0 B0 b mb rb ob kv fv tv sv0 (FrX X wr (wr.setCell ⟨g, j, none⟩ v)) G c A K sv LR LA vR vA (wr.setCell ⟨g, j, none⟩ v) := by
  have hg := grown_cell wr ⟨g, j, none⟩ v
  have h2 := (h.gx g hG).2
  have hlo := h.lo
  exact h.touchF hg (.inr (.inr (.inr ⟨g, rfl, hG⟩))) (h.kn.kept hg (fun e => by have e2 : mb = g := Option.some.inj e; omega)) (h.km.kept hg (fun e => by have e2 : rb = g := Option.some.inj e; omega))
/-- a new row is begun -/
theorem ClI.begin (h : ClI Z f T w0 B0 b mb rb ob kv fv tv sv0 X (fun _ => False) c A K sv LR LA vR vA wr) {g : Nat} (hg : g = wr.heap.size) (o : Obj) : ClI Z f T w0 B0 b mb rb ob kv fv tv sv0 (FrX X wr (wr.alloc o)) (fun q => q = g) c A K sv LR LA vR vA (wr.alloc o) := by
  have hb : Below wr.heap.size wr (wr.alloc o) := (Below.refl _ _).alloc (Nat.le_refl _) _
  have hz := h.size
  subst hg
  refine h.touch (row := none) (grown_below hb none) (.inl rfl) (h.kn.keep hb) (h.km.keep hb) (fun q hlt hq => ?_) (fun q e => e) (fun q e => ?_)
  · rcases hq with hq | ⟨h1, h2, h3⟩
    · exact .inl hq
    · exact .inr ⟨h1, .inl h2, fun e => by omega⟩
  · refine ⟨.inr ?_, by omega⟩
    subst e
    exact ⟨Nat.le_refl _, by simp⟩
theorem ClI.rdB (h : ClI Z f T w0 B0 b mb rb ob kv fv tv sv0 X (fun _ => False) c A K sv LR LA vR vA wr) {g : Nat} (hg : g = wr.heap.size) (o : Obj) {d : D} {cs : List Value} (hd : Rd (fun q => SE Z X (fun _ => False) b mb rb ob w0.heap.size q ∧ sv.ownBlock ≠ some q) wr d cs) :
    Rd (fun q => SE Z (FrX X wr (wr.alloc o)) (fun q => q = g) b mb rb ob w0.heap.size q ∧ sv.ownBlock ≠ some q) (wr.alloc o) d cs := by
  have hb : Below wr.heap.size wr (wr.alloc o) := (Below.refl _ _).alloc (Nat.le_refl _) _
  subst hg
  refine Rd.keep (fun q hq hlt => ⟨⟨?_, hq.2⟩, hb.block q hlt⟩) _ _ hd
  rcases hq.1 with hq | ⟨h1, h2, h3⟩
  · exact .inl hq
  · exact .inr ⟨h1, .inl h2, fun e => by omega⟩
/-- a word more: the append, then the store into the learner -/
theorem ClI.push (h : ClI Z f T w0 B0 b mb rb ob kv fv tv sv0 X G c A K sv LR LA vR vA w1) {x : List Int} {xv sv' : Value} {xs : List Value} (hxs : RdAll (fun q => SE Z X G b mb rb ob w0.heap.size q ∧ sv.ownBlock ≠ some q) w1 (A.map D.ints) xs) (hx : Rd (fun q => SE Z X G b mb rb ob w0.heap.size q ∧ sv.ownBlock ≠ some q) w1 (D.ints x) [xv])
    (ho : w2.ownsRow B0 22 1 sv' (A.length + 1) (xs ++ [xv])) (hg : w1.grownBy w2 sv.ownBlock) (hat : sv'.ownBlock = sv.ownBlock ∨ ∃ q, sv'.ownBlock = some q ∧ w1.heap.size ≤ q) :
    ClI Z f T w0 B0 b mb rb ob kv fv tv sv0 (FrX X w1 w2) G c (A ++ [x]) K sv' LR LA vR vA (w2.setCell ⟨b, 3, none⟩ sv') ∧ ∀ {d : D} {cs : List Value}, Rd (fun q => SE Z X G b mb rb ob w0.heap.size q ∧ sv.ownBlock ≠ some q) w1 d cs → Rd (fun q => SE Z (FrX X w1 w2) G b mb rb ob w0.heap.size q ∧ sv'.ownBlock ≠ some q) (w2.setCell ⟨b, 3, none⟩ sv') d cs := by
  have hz := h.size
  have hkl := h.kn.lt
  have hml := h.km.lt
  obtain ⟨h1, h2, h3, ⟨xs0, h4, _⟩, h6, h7, h8, h9, h10, h11, h12, ⟨l1, l2, l3, l4, l5, l6⟩, h14⟩ := h
  have hl4 := h4.lt
  have hlo := ho.lt
  have hg2 : w2.grownBy (w2.setCell ⟨b, 3, none⟩ sv') (some b) := grown_cell w2 ⟨b, 3, none⟩ sv'
  have hne : ∀ q, sv.ownBlock = some q → q ≠ b ∧ q ≠ mb ∧ q ≠ rb ∧ q ≠ ob ∧ q ≠ w0.heap.size ∧ ¬ G q := by
    intro q e
    rcases h6 q e with hq | hq
    · refine ⟨hq.2.1, hq.2.2.1, hq.2.2.2.1, hq.2.2.2.2.1, hq.2.2.2.2.2.1, fun hG => ?_⟩
      have := h14 q hG; omega
    · refine ⟨by omega, by omega, by omega, by omega, by omega, hq.2.2⟩
  have e2 : ∀ q, q < w1.heap.size → sv.ownBlock ≠ some q → q ≠ b → (w2.setCell ⟨b, 3, none⟩ sv').heap[q]? = w1.heap[q]? := fun q hq h1 h2 =>
    (hg2.block q (Nat.lt_of_lt_of_le hq hg.size) (fun e => h2 (Option.some.inj e))).trans (hg.block q hq (fun e => h1 e.symm))
  have e3 : ∀ q, q < w1.heap.size → sv.ownBlock ≠ some q → sv'.ownBlock ≠ some q := by
    intro q hq h1 e
    rcases hat with h | ⟨q', e', hq'⟩
    · exact h1 (h ▸ e)
    · rw [e'] at e; cases e; omega
  have hse : ∀ q, SE Z X G b mb rb ob w0.heap.size q ∧ sv.ownBlock ≠ some q → q < w1.heap.size → (SE Z (FrX X w1 w2) G b mb rb ob w0.heap.size q ∧ sv'.ownBlock ≠ some q) ∧ (w2.setCell ⟨b, 3, none⟩ sv').heap[q]? = w1.heap[q]? := by
    rintro q ⟨a1, a2⟩ hq
    refine ⟨⟨se_fr a1, e3 q hq a2⟩, e2 q hq a2 ?_⟩
    rcases a1 with a | a <;> omega
  have hown : ∀ q, sv'.ownBlock = some q → SE Z (FrX X w1 w2) G b mb rb ob w0.heap.size q := by
    intro q e
    rcases hat with h | ⟨q', e', hq'⟩
    · exact se_fr (h6 q (h ▸ e))
    · rw [e'] at e; cases e
      refine .inr ⟨by omega, .inr ⟨hq', (hlo q e').2⟩, fun hG => ?_⟩
      have h15 := h8.px q (h14 q hG).1
      omega
  have hob : ∀ q, sv'.ownBlock = some q → q ≠ b := by
    intro q e
    rcases hown q e with a | a <;> omega
  refine ⟨⟨?_, ?_, ?_, ⟨xs ++ [xv], ?_, ?_⟩, hown, ?_, ?_, ?_, ?_, ?_, ?_, ⟨l1, l2, l3, l4, l5, l6⟩, fun q e => ⟨.inl (h14 q e).1, (h14 q e).2⟩⟩, fun hd => Rd.keep hse _ _ hd⟩
  · have h15 : w2.heap[b]? = _ := (hg.block b (by omega) (fun e => (hne b e.symm).1 rfl)).trans h1
    have := bx_set h15 3 sv'
    simpa using this
  · obtain ⟨F, hk, hF⟩ := h2
    exact ⟨F, kmap_blk hk (e2 mb hkl (fun e => (hne mb e).2.1 rfl) (fun e => l3 e.symm)), hF⟩
  · exact kmap_blk h3 (e2 rb hml (fun e => (hne rb e).2.2.1 rfl) (by omega))
  · rw [List.length_append]
    exact own_blk ho fun g e => hg2.block g (hlo g e).2 (fun e2 => hob g e (Option.some.inj e2))
  · rw [List.map_append]
    exact RdAll.append (RdAll.keep hse _ _ hxs) (RdAll.one (Rd.keep hse _ _ hx))
  · refine Rd.keep (fun q hq hlt => ⟨⟨hq.1, hq.2.1, hq.2.2.1, e3 q hlt hq.2.2.2⟩, e2 q hlt hq.2.2.2 hq.2.1⟩) _ _ h7
  · have k1 := h8.other (X' := FrX X w1 w2) hg (fun q e => ?_) (fun q e => e) [] 0
    · exact k1.other (X' := FrX X w1 w2) hg2 (fun q e => by cases e; left; omega) (fun q e => .inl e) [] 0
    · rcases h6 q e with a | a
      · left; omega
      · exact .inr (.inl a.2.1)
  · exact (e2 ob hz (fun e => (hne ob e).2.2.2.1 rfl) (by omega)).trans h9
  · exact (e2 _ (by omega) (fun e => (hne _ e).2.2.2.2.1 rfl) (by omega)).trans h10
  · exact (h11.grown hg (fun q e hq => .inr (.inr (h12 q e hq)))).grown hg2 (fun q e _ => .inl (Option.some.inj e).symm)
  · intro q e hq
    rcases hat with h | ⟨q', e', hq'⟩
    · exact h12 q (h ▸ e) hq
    · rw [e'] at e; cases e; omega
end
end Cl
end Go.Proofs.Ytclpmmbclgihbaa
namespace Go.Proofs.Ytclpmmbclgihbaa
open Go.RowKit
namespace Cl
open Df Lr Km

def rowVA (f : List Int → Bool) (T : List (List Int)) (A : List (List Int)) (u : List Int) (c q : Nat) : Value := .int .i64 (if q < c then valA f T A (u ++ [(q : Int)]) else 0)
section
variable {Z : Nat → Prop} {f : List Int → Bool} {T : List (List Int)} {w0 : World} {B0 b mb rb ob : Nat} {kv fv tv sv0 : Value} {X G X' G' : Nat → Prop} {c c' : Nat} {A : List (List Int)} {K K' : List (List UInt8)} {sv : Value} {LR : List (List Int)} {LA : List Int} {vR vA vR' vA' : Value} {wr w' w1 w2 : World} {u : List Int} {g k : Nat} {rv : Value} {aa an : Option Addr} {ca cn : Nat}
theorem vrowA_set (h : Vrow 3 g k (rowVA f T (extA f T u A c) u c) wr) (hc : c < k) {z : Int} (hz : z = valA f T (extA f T u A (c + 1)) (u ++ [(c : Int)])) : Vrow 3 g k (rowVA f T (extA f T u A (c + 1)) u (c + 1)) (wr.setCell ⟨g, c, none⟩ (.int .i64 z)) := by
  subst hz
  refine h.set hc fun q _ => ?_
  unfold rowVA
  by_cases e : q = c
  · subst e; rw [if_pos rfl, if_pos (by omega)]
  · rw [if_neg e]
    by_cases e2 : q < c
    · rw [if_pos e2, if_pos (by omega), valA_prefix (by rw [extA_next]; exact stepA_prefix _ _) (extA_mem u A e2)]
    · rw [if_neg e2, if_neg (by omega)]
/-- the row is whole -/
theorem ClI.whole (h : ClI Z f T w0 B0 b mb rb ob kv fv tv sv0 X (fun q => q = g) c A K sv LR LA vR vA wr) (hv : Vrow 3 g k (rowVA f T A u k) wr) (hm : k ≤ maxLen) (hk : u.length = u.length) (m : Int) :
    ClI Z f T w0 B0 b mb rb ob kv fv tv sv0 (fun q => X q ∧ q ≠ g) (fun _ => False) c A K sv LR LA vR vA wr ∧ PX (fun q => X q ∧ q ≠ g) (ob + 1) wr (rowA f T k A u) m LR LA vR vA (some (.slice (some ⟨g, 0, none⟩) k k)) none none wr := by
  have hgX := h.gx g rfl
  have k1 : ClI Z f T w0 B0 b mb rb ob kv fv tv sv0 (fun q => X q ∧ q ≠ g) (fun _ => False) c A K sv LR LA vR vA wr := h.touch (row := none) (grown_below (Below.refl _ _) none) (.inl rfl) h.kn h.km (fun q _ hq => by
    rcases hq with hq | ⟨h1, h2, h3⟩
    · exact .inl hq
    · exact .inr ⟨h1, ⟨h2, h3⟩, fun e => e⟩) (fun q e => .inl e.1) (fun q e => e.elim)
  refine ⟨k1, ?_⟩
  have k2 := h.px.other (X' := fun q => X q ∧ q ≠ g) (row := none) (grown_below (Below.refl _ _) none) (fun q e => by cases e) (fun q e => .inl e.1) (rowA f T k A u) m
  refine k2.call (rd_vrow hv (by unfold rowA; simp) hm ⟨hgX.2, fun e => e.2 rfl, fun e => h.px.xr _ e hgX.1, fun e => h.px.xa _ e hgX.1⟩ fun q hq => ?_)
  unfold rowVA
  unfold rowA at hq ⊢
  rw [List.length_map, List.length_range] at hq
  rw [if_pos hq, List.getElem_map, List.getElem_range]
/-- behind the two appends and stores -/
theorem ClI.next (h : ClI Z f T w0 B0 b mb rb ob kv fv tv sv0 X (fun _ => False) c A K sv LR LA vR vA w1) {r : List Int} {m : Int} {NR : List (List Int)} {NA : List Int} (hp : PX X (ob + 1) w1 r m NR NA vR' vA' none none none w2) :
    ClI Z f T w0 B0 b mb rb ob kv fv tv sv0 X (fun _ => False) c A K sv NR NA vR' vA' ((w2.setCell ⟨ob, 2, none⟩ vR').setCell ⟨ob, 1, none⟩ vA') := by
  have hz := h.size
  obtain ⟨h1, h2, h3, ⟨xs, h4, h5⟩, h6, h7, h8, h9, h10, h11, h12, ⟨l1, l2, l3, l4, l5, l6⟩, h14⟩ := h
  have hl4 := h4.lt
  have hsz := hp.bel.size
  have e2 : ∀ q, q ≤ ob → q ≠ ob → ((w2.setCell ⟨ob, 2, none⟩ vR').setCell ⟨ob, 1, none⟩ vA').heap[q]? = w1.heap[q]? := by
    intro q hq hne
    rw [(grown_cell _ ⟨ob, 1, none⟩ vA').block q (by have := (grown_cell w2 ⟨ob, 2, none⟩ vR').size; omega) (fun e => hne (Option.some.inj e)), (grown_cell w2 ⟨ob, 2, none⟩ vR').block q (by omega) (fun e => hne (Option.some.inj e))]
    exact hp.bel.block q (by omega)
  have e3 : ∀ q, X q → q ≠ ob → ((w2.setCell ⟨ob, 2, none⟩ vR').setCell ⟨ob, 1, none⟩ vA').heap[q]? = w1.heap[q]? := by
    intro q hq hne
    have hx := hp.px q hq
    rw [(grown_cell _ ⟨ob, 1, none⟩ vA').block q (by have := (grown_cell w2 ⟨ob, 2, none⟩ vR').size; omega) (fun e => hne (Option.some.inj e)), (grown_cell w2 ⟨ob, 2, none⟩ vR').block q (by omega) (fun e => hne (Option.some.inj e))]
    exact hx.2
  have e4 : ∀ q, SE Z X (fun _ => False) b mb rb ob w0.heap.size q → ((w2.setCell ⟨ob, 2, none⟩ vR').setCell ⟨ob, 1, none⟩ vA').heap[q]? = w1.heap[q]? := by
    rintro q (hq | hq)
    · exact e2 q hq.1 hq.2.2.2.2.1
    · exact e3 q hq.2.1 (by omega)
  refine ⟨(e2 b (by omega) (by omega)).trans h1, ?_, kmap_blk h3 (e2 rb (by omega) (by omega)), ⟨xs, own_blk h4 fun q e => e4 q (h6 q e), RdAll.keep (fun q hq _ => ⟨hq, e4 q hq.1⟩) _ _ h5⟩, h6, Rd.keep (fun q hq _ => ⟨hq, e2 q (by have := hq.1; omega) (by have := hq.1; omega)⟩) _ _ h7, ?_, ?_, (e2 _ (by omega) (by omega)).trans h10, ?_, h12, ⟨l1, l2, l3, l4, l5, l6⟩, h14⟩
  · obtain ⟨F, hk, hF⟩ := h2
    exact ⟨F, kmap_blk hk (e2 mb (by omega) (by omega)), hF⟩
  · exact (hp.other (X' := X) (row := some ob) (grown_cell w2 ⟨ob, 2, none⟩ vR') (fun q e => by cases e; left; omega) (fun q e => .inl e) [] 0).other (X' := X) (row := some ob) (grown_cell _ ⟨ob, 1, none⟩ vA') (fun q e => by cases e; left; omega) (fun q e => .inl e) [] 0
  · have h15 : w2.heap[ob]? = _ := (hp.bel.block ob (by omega)).trans h9
    have := bx_set (bx_set h15 2 vR') 1 vA'
    simpa using this
  · refine ⟨hp.bel.os.trans h11.os, hp.bel.tape.trans h11.tape, hp.bel.output.trans h11.output, ?_, fun q hq hx => ?_⟩
    · have a1 := (grown_cell (w2.setCell ⟨ob, 2, none⟩ vR') ⟨ob, 1, none⟩ vA').size
      have a2 := (grown_cell w2 ⟨ob, 2, none⟩ vR').size
      have a3 := h11.size
      omega
    · exact (e2 q (by omega) (by omega)).trans (h11.block q hq hx)
/-- while the first words' rows are asked for -/
structure ClF (f : List Int → Bool) (w0 : World) (b mb rb : Nat) (kv fv tv sv0 : Value) (c : Nat) (K : List (List UInt8)) (wr : World) : Prop where
  bx : wr.heap[b]? = some (.cells #[kv, fv, .map (some mb), sv0, tv, .map (some rb)] 43 (0, 0))
  kn : KN f mb c wr
  km : KMap 9 3 rb (FS K) K.length wr
  rbx : wr.heap[w0.heap.size]? = some (.cells #[.int .i64 0, .slice none 0 0, .slice none 0 0] 25 (0, 0))
  fr : GrX (fun q => q = b ∨ q = mb) w0 wr
theorem ClF.call (h : ClF f w0 b mb rb kv fv tv sv0 c K wr) (hlo : b < w0.heap.size ∧ mb < w0.heap.size ∧ b ≠ mb ∧ w0.heap.size < rb) (hg : wr.grownBy w' (some mb)) (hkn : KN f mb c' w') : ClF f w0 b mb rb kv fv tv sv0 c' K w' := by
  obtain ⟨h1, h2, h3, h4, h5⟩ := h
  have hb := (Array.getElem?_eq_some_iff.1 h1).1
  have hb4 := (Array.getElem?_eq_some_iff.1 h4).1
  exact ⟨(hg.block b hb (fun e => hlo.2.2.1 (Option.some.inj e))).trans h1, hkn, h3.kept hg (fun e => by have := Option.some.inj e; omega), (hg.block _ hb4 (fun e => by have := Option.some.inj e; omega)).trans h4, h5.grown hg (fun q e _ => .inr (Option.some.inj e).symm)⟩
theorem ClF.mapped (h : ClF f w0 b mb rb kv fv tv sv0 c K wr) (hlo : b < w0.heap.size ∧ mb < w0.heap.size ∧ b ≠ mb ∧ w0.heap.size < rb) (hg : wr.grownBy w' (some rb)) (hkm : KMap 9 3 rb (FS K') K'.length w') : ClF f w0 b mb rb kv fv tv sv0 c K' w' := by
  obtain ⟨h1, h2, h3, h4, h5⟩ := h
  have hb := (Array.getElem?_eq_some_iff.1 h1).1
  have hb4 := (Array.getElem?_eq_some_iff.1 h4).1
  exact ⟨(hg.block b hb (fun e => by have := Option.some.inj e; omega)).trans h1, h2.kept hg (fun e => by have := Option.some.inj e; omega), hkm, (hg.block _ hb4 (fun e => by have := Option.some.inj e; omega)).trans h4, h5.grown hg (fun q e hq => by have := Option.some.inj e; omega)⟩
theorem ClF.drew (h : ClF f w0 b mb rb kv fv tv sv0 c K wr) (hb : Below wr.heap.size wr w') : ClF f w0 b mb rb kv fv tv sv0 c K w' := by
  obtain ⟨h1, h2, h3, h4, h5⟩ := h
  exact ⟨bx_keep h1 hb, h2.keep hb, h3.keep hb, bx_keep h4 hb, h5.grown (grown_below hb none) (fun q e => by cases e)⟩
theorem ClF.start (hl : LrS Z f T B0 b mb kv fv tv c A sv0 rv w0) (hrb : rb = w0.heap.size + 1) :
    ClF f w0 b mb rb kv fv tv sv0 c [] (((w0.setCell ⟨b, 5, none⟩ (.map (some rb))).alloc (.cells #[.int .i64 0, .slice none 0 0, .slice none 0 0] 25)).alloc (.map #[] 0)) := by
  obtain ⟨h1, h2, h3, h4, h5, h6⟩ := hl
  have hb := (Array.getElem?_eq_some_iff.1 h1).1
  have hm := h2.lt
  have g1 := grown_cell w0 ⟨b, 5, none⟩ (.map (some rb))
  have hs : (w0.setCell ⟨b, 5, none⟩ (.map (some rb))).heap.size = w0.heap.size := by simp [World.setCell]
  have hb1 : (w0.setCell ⟨b, 5, none⟩ (.map (some rb))).heap[b]? = some (.cells #[kv, fv, .map (some mb), sv0, tv, .map (some rb)] 43 (0, 0)) := by
    have := bx_set h1 5 (.map (some rb))
    simpa using this
  obtain ⟨w1, HW1⟩ := nameIt (w0.setCell ⟨b, 5, none⟩ (.map (some rb)))
  rw [HW1.out] at hs hb1 g1
  rw [HW1.out]
  have k1 : Below w1.heap.size w1 ((w1.alloc (.cells #[.int .i64 0, .slice none 0 0, .slice none 0 0] 25)).alloc (.map #[] 0)) := ((Below.refl _ _).alloc (Nat.le_refl _) _).alloc (by simp) _
  refine ⟨bx_keep hb1 k1, (h2.kept g1 (fun e => h6 (Option.some.inj e).symm)).keep k1, ?_, ?_, ((GrX.refl _ _).grown g1 (fun q e _ => .inl (Option.some.inj e).symm)).grown (grown_below k1 none) (fun q e => by cases e)⟩
  · rw [fS_nil]
    exact KMap.start _ (by simp [hs]; exact hrb)
  · exact bx_keep (bx_new _ _ _ hs.symm) ((Below.refl _ _).alloc (Nat.le_refl _) _)
/-- from the first words to the rounds -/
theorem ClF.rounds (h : ClF f w0 b mb rb kv fv tv sv c (ks f T A) wr) (hl : LrS Z f T B0 b mb kv fv tv c' A sv rv w0) (hrb : rb = w0.heap.size + 1) (hB : B0 ≤ w0.heap.size) (ho : ob = wr.heap.size) :
    ClI Z f T w0 B0 b mb rb ob kv fv tv sv (fun _ => False) (fun _ => False) c A (ks f T A) sv [] [] (.slice none 0 0) (.slice none 0 0) (wr.alloc (.cells #[.int .i64 0, .slice none 0 0, .slice none 0 0] 25)) := by
  have hb : Below wr.heap.size wr (wr.alloc (.cells #[.int .i64 0, .slice none 0 0, .slice none 0 0] 25)) := (Below.refl _ _).alloc (Nat.le_refl _) _
  obtain ⟨h1, h2, h3, h4, h5⟩ := h
  obtain ⟨a1, a2, ⟨xs, a3, a4⟩, a5, a6, a7⟩ := hl
  have hbl := (Array.getElem?_eq_some_iff.1 a1).1
  have hml := a2.lt
  have hrl := h3.lt
  have hal := a3.lt
  have hz := h5.size
  subst ho
  have fr : GrX (fun q => q = b ∨ q = mb) w0 (wr.alloc (.cells #[.int .i64 0, .slice none 0 0, .slice none 0 0] 25)) := h5.grown (grown_below hb none) (fun q e => by cases e)
  have e1 : ∀ q, q < w0.heap.size → q ≠ b ∧ q ≠ mb → (wr.alloc (.cells #[.int .i64 0, .slice none 0 0, .slice none 0 0] 25)).heap[q]? = w0.heap[q]? := fun q hq hne => fr.block q hq (fun e => e.elim hne.1 hne.2)
  have e2 : ∀ q, q < w0.heap.size → q ≠ b ∧ q ≠ mb ∧ ¬ Z q → SE Z (fun _ => False) (fun _ => False) b mb rb wr.heap.size w0.heap.size q := fun q hq hne => .inl ⟨by omega, hne.1, hne.2.1, by omega, by omega, by omega, hne.2.2⟩
  refine ⟨bx_keep h1 hb, h2.keep hb, h3.keep hb, ⟨xs, own_blk a3 fun q e => e1 q (hal q e).2 ⟨(a5 q e).1, (a5 q e).2.1⟩, RdAll.keep (fun q hq hlt => ⟨⟨e2 q hlt hq.1, hq.2⟩, e1 q hlt ⟨hq.1.1, hq.1.2.1⟩⟩) _ _ a4⟩, fun q e => e2 q (hal q e).2 (a5 q e), Rd.keep (fun q hq hlt => ⟨⟨hlt, hq⟩, e1 q hlt ⟨hq.1, hq.2.1⟩⟩) _ _ a6, PX.nil _ _ _ _ _ (by simp) (fun q e => e.elim), bx_new _ _ _ rfl, bx_keep h4 hb, fr.mono (fun q _ e => e.elim .inl (fun e => .inr (.inl e))), fun q e _ => e, ⟨hbl, hml, a7, by omega, by omega, by omega⟩, fun q e => e.elim⟩
/-- what close leaves -/
def CloseR (Z : Nat → Prop) (f : List Int → Bool) (T : List (List Int)) (w : World) (B0 b mb : Nat) (kv fv tv sv0 : Value) (c : Nat) (A : List (List Int)) (LR : List (List Int)) (LA : List Int) (e : Ending) (w' : World) : Prop :=
  ∃ (aa an : Option Addr) (ca cn rb c' : Nat) (sv' : Value), e = .returned (.tuple #[.agg #[.int .i64 0, .slice aa LA.length ca, .slice an LR.length cn], .bool true]) ∧ LrS Z f T B0 b mb kv fv tv c' A sv' (.map (some rb)) w' ∧ c' ≤ c ∧
  Rd (fun q => w.heap.size ≤ q ∧ sv'.ownBlock ≠ some q) w' (D.ints LA) [.slice aa LA.length ca] ∧ Rd (fun q => w.heap.size ≤ q ∧ sv'.ownBlock ≠ some q) w' (.sl (LR.map D.ints)) [.slice an LR.length cn] ∧ GrX (fun q => q = b ∨ q = mb ∨ sv0.ownBlock = some q) w w' ∧ ∀ q, sv'.ownBlock = some q → q < w.heap.size → sv0.ownBlock = some q
theorem ClI.fin (h : ClI Z f T w0 B0 b mb rb ob kv fv tv sv0 X (fun _ => False) c A K sv LR LA (.slice an LR.length cn) (.slice aa LA.length ca) wr) (hc : c ≤ c') (hZ : ∀ q, Z q → q < w0.heap.size) (w3 : World) (hg : wr.grownBy w3 (some w0.heap.size)) :
    CloseR Z f T w0 B0 b mb kv fv tv sv0 c' A LR LA (.returned (.tuple #[.agg #[.int .i64 0, .slice aa LA.length ca, .slice an LR.length cn], .bool true])) w3 := by
  have hz := h.size
  have hkl := h.kn.lt
  obtain ⟨h1, h2, h3, ⟨xs, h4, h5⟩, h6, h7, h8, h9, h10, h11, h12, ⟨l1, l2, l3, l4, l5, l6⟩, h14⟩ := h
  have hl4 := h4.lt
  have hse : ∀ q, SE Z X (fun _ => False) b mb rb ob w0.heap.size q → q ≠ b ∧ q ≠ mb ∧ q ≠ w0.heap.size ∧ ¬ Z q := by
    rintro q (hq | hq)
    · exact ⟨hq.2.1, hq.2.2.1, hq.2.2.2.2.2.1, hq.2.2.2.2.2.2⟩
    · exact ⟨by omega, by omega, by omega, fun e => by have := hZ q e; omega⟩
  have e2 : ∀ q, q < wr.heap.size → q ≠ w0.heap.size → w3.heap[q]? = wr.heap[q]? := fun q hq hne => hg.block q hq (fun e => hne (Option.some.inj e))
  obtain ⟨⟨xr, r1, r2⟩, r3⟩ := And.intro h8.rows h8.acc
  have hr1 := r1.lt
  have hr3 := r3.lt
  have hX : ∀ q, ob + 1 ≤ q → ¬ X q → sv.ownBlock ≠ some q := by
    intro q hq hx e
    rcases h6 q e with a | a
    · omega
    · exact hx a.2.1
  refine ⟨aa, an, ca, cn, rb, c, sv, rfl, ⟨(e2 b (by omega) (by omega)).trans h1, ?_, ⟨xs, own_blk h4 fun q e => e2 q (hl4 q e).2 (hse q (h6 q e)).2.2.1, RdAll.keep (fun q hq hlt => ⟨⟨⟨(hse q hq.1).1, (hse q hq.1).2.1, (hse q hq.1).2.2.2⟩, hq.2⟩, e2 q hlt (hse q hq.1).2.2.1⟩) _ _ h5⟩, fun q e => ⟨(hse q (h6 q e)).1, (hse q (h6 q e)).2.1, (hse q (h6 q e)).2.2.2⟩, Rd.keep (fun q hq hlt => ⟨⟨hq.2.1, hq.2.2.1, hq.2.2.2⟩, e2 q hlt (by have := hq.1; omega)⟩) _ _ h7, l3⟩, hc, ?_, ?_, h11.grown hg (fun q e hq => by have := Option.some.inj e; omega), h12⟩
  · obtain ⟨F, hk, hF⟩ := h2
    exact ⟨F, kmap_blk hk (e2 mb hkl (by omega)), hF⟩
  · have k1 : Rd (fun q => ob + 1 ≤ q ∧ ¬ X q) wr (D.ints LA) [.slice aa LA.length ca] := by
      have := rd_of_own (S := fun q => ob + 1 ≤ q ∧ ¬ X q) (ds := LA.map D.int) r3 ((rdAll_ints LA _).2 rfl) (by simp) (fun q e => ⟨(hr3 q e).1, h8.xa q e⟩)
      exact this
    exact Rd.keep (fun q hq hlt => ⟨⟨by omega, hX q hq.1 hq.2⟩, e2 q hlt (by omega)⟩) _ _ k1
  · have k1 : Rd (fun q => ob + 1 ≤ q ∧ ¬ X q) wr (.sl (LR.map D.ints)) [.slice an LR.length cn] :=
      rd_of_own r1 (r2.mono fun q hq _ => ⟨hq.1, hq.2.1⟩) (by simp) (fun q e => ⟨(hr1 q e).1, h8.xr q e⟩)
    exact Rd.keep (fun q hq hlt => ⟨⟨by omega, hX q hq.1 hq.2⟩, e2 q hlt (by omega)⟩) _ _ k1
end
end Cl
end Go.Proofs.Ytclpmmbclgihbaa
namespace Go.Proofs.Ytclpmmbclgihbaa
open Go.RowKit
namespace Lr
open Df Km Cl

structure OfI (f : List Int → Bool) (w0 : World) (s0 b mb : Nat) (kv fv : Value) (T A0 : List (List Int)) (tv sv rv : Value) (c : Nat) (wr : World) : Prop where
  ls : LrS (fun q => tv.ownBlock = some q) f T (s0 + 1) b mb kv fv tv c A0 sv rv wr
  tr : AcR (fun q => q ≠ b ∧ q ≠ mb ∧ sv.ownBlock ≠ some q) (s0 + 1) T tv wr
  tn : ∀ q, tv.ownBlock = some q → q ≠ b ∧ q ≠ mb ∧ sv.ownBlock ≠ some q
  rbx : wr.heap[s0]? = some (.cells #[.int .i64 0, .slice none 0 0, .slice none 0 0] 25 (0, 0))
  bel : Below s0 w0 wr
  lo : s0 < b ∧ s0 < mb
section
variable {f : List Int → Bool} {w0 : World} {s0 b mb : Nat} {kv fv : Value} {T A0 A : List (List Int)} {tv sv rv sv' rv' tv' : Value} {c c' : Nat} {wr w' w1 w2 : World}
theorem LrS.chg {Z : Nat → Prop} {B0 : Nat} (h : LrS Z f T B0 b mb kv fv tv c A0 sv rv wr) (hs : ∀ q, q < wr.heap.size → q ≠ mb → w'.heap[q]? = wr.heap[q]?) (hk : KN f mb c' w') : LrS Z f T B0 b mb kv fv tv c' A0 sv rv w' := by
  obtain ⟨h1, h2, ⟨xs, h3, h4⟩, h5, h6, h7⟩ := h
  have hl := h3.lt
  have hb := (Array.getElem?_eq_some_iff.1 h1).1
  exact ⟨(hs b hb h7).trans h1, hk, ⟨xs, own_blk h3 fun q e => hs q (hl q e).2 (h5 q e).2.1, RdAll.keep (fun q hq hlt => ⟨hq, hs q hlt hq.1.2.1⟩) _ _ h4⟩, h5, Rd.keep (fun q hq hlt => ⟨hq, hs q hlt hq.2.1⟩) _ _ h6, h7⟩
/-- a call of member: only the known answers change -/
theorem OfI.call (h : OfI f w0 s0 b mb kv fv T A0 tv sv rv c wr) (hg : wr.grownBy w' (some mb)) (hk : KN f mb c' w') : OfI f w0 s0 b mb kv fv T A0 tv sv rv c' w' := by
  have hs : ∀ q, q < wr.heap.size → q ≠ mb → w'.heap[q]? = wr.heap[q]? := fun q hq hne => hg.block q hq (fun e => hne (Option.some.inj e))
  obtain ⟨h1, ⟨xs, h2, h3⟩, h4, h5, h6, h7, h8⟩ := h
  have hl := h2.lt
  have hb5 := (Array.getElem?_eq_some_iff.1 h5).1
  exact ⟨Lr.LrS.chg h1 hs hk, ⟨xs, own_blk h2 fun q e => hs q (hl q e).2 (h4 q e).2.1, RdAll.keep (fun q hq hlt => ⟨hq, hs q hlt hq.1.2.1⟩) _ _ h3⟩, h4, (hs s0 hb5 (by omega)).trans h5, h6.grown hg (by omega) (fun q e => by have := Option.some.inj e; omega), h7, h8⟩
theorem OfI.below (h : OfI f w0 s0 b mb kv fv T A0 tv sv rv c wr) (hb : Below wr.heap.size wr w') : OfI f w0 s0 b mb kv fv T A0 tv sv rv c w' := h.call (grown_below hb _) (h.ls.kn.keep hb)
/-- behind close -/
theorem OfI.closed (h : OfI f w0 s0 b mb kv fv T A0 tv sv rv c wr) (hl : LrS (fun q => tv.ownBlock = some q) f T (s0 + 1) b mb kv fv tv c' A sv' rv' w') (hg : GrX (fun q => q = b ∨ q = mb ∨ sv.ownBlock = some q) wr w') (hs : ∀ q, sv'.ownBlock = some q → q < wr.heap.size → sv.ownBlock = some q) : OfI f w0 s0 b mb kv fv T A tv sv' rv' c' w' := by
  obtain ⟨⟨a1, a2, ⟨ys, a3, a3'⟩, a4, a5, a6⟩, ⟨xs, h2, h3⟩, h4, h5, h6, h7, h8⟩ := h
  have hl2 := h2.lt
  have hl3 := a3.lt
  have hb5 := (Array.getElem?_eq_some_iff.1 h5).1
  have hgb : ∀ q, q < wr.heap.size → q ≠ b ∧ q ≠ mb ∧ sv.ownBlock ≠ some q → w'.heap[q]? = wr.heap[q]? := fun q hq hne => hg.block q hq (fun e => e.elim hne.1 (fun e => e.elim hne.2.1 hne.2.2))
  have hnew : ∀ q, q < wr.heap.size → sv.ownBlock ≠ some q → sv'.ownBlock ≠ some q := fun q hq hn e => hn (hs q e hq)
  refine ⟨hl, ⟨xs, own_blk h2 fun q e => hgb q (hl2 q e).2 (h4 q e), RdAll.keep (fun q hq hlt => ⟨⟨⟨hq.1.1, hq.1.2.1, hnew q hlt hq.1.2.2⟩, hq.2⟩, hgb q hlt hq.1⟩) _ _ h3⟩, fun q e => ⟨(h4 q e).1, (h4 q e).2.1, hnew q (hl2 q e).2 (h4 q e).2.2⟩, (hgb s0 hb5 ⟨by omega, by omega, fun e => by have := (hl3 s0 e).1; omega⟩).trans h5, ⟨hg.os.trans h6.os, hg.tape.trans h6.tape, hg.output.trans h6.output, Nat.le_trans h6.size hg.size, fun q hq => ?_⟩, h7, h8⟩
  rw [← h6.block q hq]
  exact hgb q (by omega) ⟨by omega, by omega, fun e => by have := (hl3 q e).1; omega⟩
/-- a test more: the append, then the store into the learner -/
theorem OfI.push (h : OfI f w0 s0 b mb kv fv T A0 tv sv rv c w1) {t : List Int} {x : Value} {xs : List Value} (hxs : RdAll (fun q => (q ≠ b ∧ q ≠ mb ∧ sv.ownBlock ≠ some q) ∧ tv.ownBlock ≠ some q) w1 (T.map D.ints) xs) (hx : Rd (fun q => (q ≠ b ∧ q ≠ mb ∧ sv.ownBlock ≠ some q) ∧ tv.ownBlock ≠ some q) w1 (D.ints t) [x])
    (ho : w2.ownsRow (s0 + 1) 22 1 tv' (T.length + 1) (xs ++ [x])) (hg : w1.grownBy w2 tv.ownBlock) (hat : tv'.ownBlock = tv.ownBlock ∨ ∃ q, tv'.ownBlock = some q ∧ w1.heap.size ≤ q) :
    OfI f w0 s0 b mb kv fv (T ++ [t]) A0 tv' sv rv c (w2.setCell ⟨b, 4, none⟩ tv') := by
  obtain ⟨⟨a1, a2, ⟨ys, a3, a3'⟩, a4, a5, a6⟩, ⟨xs0, h2, _⟩, h4, h5, h6, h7, h8⟩ := h
  have hl2 := h2.lt
  have hl3 := a3.lt
  have hlo := ho.lt
  have hkl := a2.lt
  have hbl := (Array.getElem?_eq_some_iff.1 a1).1
  have hb5 := (Array.getElem?_eq_some_iff.1 h5).1
  have g2 : w2.grownBy (w2.setCell ⟨b, 4, none⟩ tv') (some b) := grown_cell w2 ⟨b, 4, none⟩ tv'
  have e1 : ∀ q, q < w1.heap.size → tv.ownBlock ≠ some q → q ≠ b → (w2.setCell ⟨b, 4, none⟩ tv').heap[q]? = w1.heap[q]? := fun q hq h1 h2 =>
    (g2.block q (Nat.lt_of_lt_of_le hq hg.size) (fun e => h2 (Option.some.inj e))).trans (hg.block q hq (fun e => h1 e.symm))
  have e2 : ∀ q, q < w1.heap.size → tv.ownBlock ≠ some q → tv'.ownBlock ≠ some q := by
    intro q hq h1 e
    rcases hat with h | ⟨q', e', hq'⟩
    · exact h1 (h ▸ e)
    · rw [e'] at e; cases e; omega
  have e3 : ∀ q, tv'.ownBlock = some q → q ≠ b ∧ q ≠ mb ∧ sv.ownBlock ≠ some q := by
    intro q e
    rcases hat with h | ⟨q', e', hq'⟩
    · exact h4 q (h ▸ e)
    · rw [e'] at e; cases e
      exact ⟨by omega, by omega, fun e2 => by have := (hl3 q e2).2; omega⟩
  have hse : ∀ q, ((q ≠ b ∧ q ≠ mb ∧ sv.ownBlock ≠ some q) ∧ tv.ownBlock ≠ some q) → q < w1.heap.size → ((q ≠ b ∧ q ≠ mb ∧ sv.ownBlock ≠ some q) ∧ tv'.ownBlock ≠ some q) ∧ (w2.setCell ⟨b, 4, none⟩ tv').heap[q]? = w1.heap[q]? := fun q hq hlt => ⟨⟨hq.1, e2 q hlt hq.2⟩, e1 q hlt hq.2 hq.1.1⟩
  have htr : RdAll (fun q => (q ≠ b ∧ q ≠ mb ∧ sv.ownBlock ≠ some q) ∧ tv'.ownBlock ≠ some q) (w2.setCell ⟨b, 4, none⟩ tv') ((T ++ [t]).map D.ints) (xs ++ [x]) := by
    rw [List.map_append]
    exact RdAll.append (RdAll.keep hse _ _ hxs) (RdAll.one (Rd.keep hse _ _ hx))
  have hown : (w2.setCell ⟨b, 4, none⟩ tv').ownsRow (s0 + 1) 22 1 tv' (T ++ [t]).length (xs ++ [x]) := by
    rw [List.length_append]
    exact own_blk ho fun g e => g2.block g (hlo g e).2 (fun e2 => (e3 g e).1 (Option.some.inj e2))
  have hmt : tv.ownBlock ≠ some mb := fun e => (h4 mb e).2.1 rfl
  refine ⟨⟨?_, ?_, ⟨ys, own_blk a3 fun q e => e1 q (hl3 q e).2 (fun e2 => (a4 q e).2.2 e2) (a4 q e).1, RdAll.keep (fun q hq hlt => ⟨⟨⟨hq.1.1, hq.1.2.1, e2 q hlt hq.1.2.2⟩, hq.2⟩, e1 q hlt hq.1.2.2 hq.1.1⟩) _ _ a3'⟩, fun q e => ⟨(a4 q e).1, (a4 q e).2.1, e2 q (hl3 q e).2 (a4 q e).2.2⟩, ?_, a6⟩, ⟨xs ++ [x], hown, htr⟩, e3, (e1 s0 hb5 (fun e => by have := (hl2 s0 e).1; omega) (by omega)).trans h5, ?_, h7, h8⟩
  · have h15 : w2.heap[b]? = _ := (hg.block b hbl (fun e => (h4 b e.symm).1 rfl)).trans a1
    have := bx_set h15 4 tv'
    simpa using this
  · obtain ⟨F, hk, hF⟩ := a2
    exact ⟨F, kmap_blk hk (e1 mb hkl hmt (fun e => a6 e.symm)), hF⟩
  · refine rd_of_own hown (htr.mono fun q hq _ => hq.1) (by simp) e3
  · exact (h6.grown hg (by omega) (fun q e => by have := (hl2 q e).1; omega)).grown g2 (by have := hg.size; omega) (fun q e => by have := Option.some.inj e; omega)
end
/-- the learner at its beginning -/
theorem ofI_start (f : List Int → Bool) (kv fv : Value) (w : World) (s0 : Nat) (hs : w.heap.size = s0) : ∀ w1, w1 = (((((((w.alloc (.cells #[.int .i64 0, .slice none 0 0, .slice none 0 0] 25)).alloc (.map #[] 0)).alloc (.cells #[] 3)).alloc (.cells #[.slice (some ⟨s0 + 1 + 1, 0, none⟩) 0 0] 22)).alloc (.cells #[] 3)).alloc (.cells #[.slice (some ⟨s0 + 1 + 1 + 1 + 1, 0, none⟩) 0 0] 22)).alloc (.cells #[kv, fv, .map (some (s0 + 1)), .slice (some ⟨s0 + 1 + 1 + 1, 0, none⟩) 1 1, .slice (some ⟨s0 + 1 + 1 + 1 + 1 + 1, 0, none⟩) 1 1, .map none] 43)) →
    OfI f w s0 (s0 + 1 + 1 + 1 + 1 + 1 + 1) (s0 + 1) kv fv [[]] [[]] (.slice (some ⟨s0 + 1 + 1 + 1 + 1 + 1, 0, none⟩) 1 1) (.slice (some ⟨s0 + 1 + 1 + 1, 0, none⟩) 1 1) (.map none) 0 w1 := by
  rintro w1 rfl
  have rd0 : ∀ {S : Nat → Prop} {W : World} (a : Addr), Rd S W (D.ints []) [.slice (some a) 0 0] := fun a => ⟨some a, 0, [], rfl, Nat.le_refl _, by simp [maxLen], (fun h => by cases h), fun i hi => by simp at hi, by simp [RdAll]⟩
  subst hs
  obtain ⟨a1, H1⟩ := nameIt (w.alloc (.cells #[.int .i64 0, .slice none 0 0, .slice none 0 0] 25))
  rw [H1.out]
  have z1 : a1.heap.size = w.heap.size + 1 := by rw [← H1.out]; simp
  have b1 : Below w.heap.size w a1 := by rw [← H1.out]; exact (Below.refl _ _).alloc (Nat.le_refl _) _
  have r1 : a1.heap[w.heap.size]? = some (.cells #[.int .i64 0, .slice none 0 0, .slice none 0 0] 25 (0, 0)) := by rw [← H1.out]; exact bx_new _ _ _ rfl
  obtain ⟨a2, H2⟩ := nameIt (a1.alloc (.map #[] 0))
  rw [H2.out]
  have z2 : a2.heap.size = w.heap.size + 1 + 1 := by rw [← H2.out]; simp [z1]
  have b2 : Below a1.heap.size a1 a2 := by rw [← H2.out]; exact (Below.refl _ _).alloc (Nat.le_refl _) _
  have m2 : KMap 9 4 (w.heap.size + 1) (fun _ => none) 0 a2 := by rw [← H2.out]; exact KMap.start _ z1.symm
  obtain ⟨a3, H3⟩ := nameIt (a2.alloc (.cells #[] 3))
  rw [H3.out]
  have z3 : a3.heap.size = w.heap.size + 1 + 1 + 1 := by rw [← H3.out]; simp [z2]
  have b3 : Below a2.heap.size a2 a3 := by rw [← H3.out]; exact (Below.refl _ _).alloc (Nat.le_refl _) _
  obtain ⟨a4, H4⟩ := nameIt (a3.alloc (.cells #[.slice (some ⟨w.heap.size + 1 + 1, 0, none⟩) 0 0] 22))
  rw [H4.out]
  have z4 : a4.heap.size = w.heap.size + 1 + 1 + 1 + 1 := by rw [← H4.out]; simp [z3]
  have b4 : Below a3.heap.size a3 a4 := by rw [← H4.out]; exact (Below.refl _ _).alloc (Nat.le_refl _) _
  have o4 : a4.ownsRow (w.heap.size + 1) 22 1 (.slice (some ⟨w.heap.size + 1 + 1 + 1, 0, none⟩) 1 1) 1 [.slice (some ⟨w.heap.size + 1 + 1, 0, none⟩) 0 0] := by
    have := World.ownsRow_lit (base := w.heap.size + 1) (e := 22) (size := 1) a3 #[.slice (some ⟨w.heap.size + 1 + 1, 0, none⟩) 0 0] 1 (by omega) (by decide) (by rfl)
    rw [H4.out, z3] at this
    exact this
  obtain ⟨a5, H5⟩ := nameIt (a4.alloc (.cells #[] 3))
  rw [H5.out]
  have z5 : a5.heap.size = w.heap.size + 1 + 1 + 1 + 1 + 1 := by rw [← H5.out]; simp [z4]
  have b5 : Below a4.heap.size a4 a5 := by rw [← H5.out]; exact (Below.refl _ _).alloc (Nat.le_refl _) _
  obtain ⟨a6, H6⟩ := nameIt (a5.alloc (.cells #[.slice (some ⟨w.heap.size + 1 + 1 + 1 + 1, 0, none⟩) 0 0] 22))
  rw [H6.out]
  have z6 : a6.heap.size = w.heap.size + 1 + 1 + 1 + 1 + 1 + 1 := by rw [← H6.out]; simp [z5]
  have b6 : Below a5.heap.size a5 a6 := by rw [← H6.out]; exact (Below.refl _ _).alloc (Nat.le_refl _) _
  have o6 : a6.ownsRow (w.heap.size + 1) 22 1 (.slice (some ⟨w.heap.size + 1 + 1 + 1 + 1 + 1, 0, none⟩) 1 1) 1 [.slice (some ⟨w.heap.size + 1 + 1 + 1 + 1, 0, none⟩) 0 0] := by
    have := World.ownsRow_lit (base := w.heap.size + 1) (e := 22) (size := 1) a5 #[.slice (some ⟨w.heap.size + 1 + 1 + 1 + 1, 0, none⟩) 0 0] 1 (by omega) (by decide) (by rfl)
    rw [H6.out, z5] at this
    exact this
  obtain ⟨a7, H7⟩ := nameIt (a6.alloc (.cells #[kv, fv, .map (some (w.heap.size + 1)), .slice (some ⟨w.heap.size + 1 + 1 + 1, 0, none⟩) 1 1, .slice (some ⟨w.heap.size + 1 + 1 + 1 + 1 + 1, 0, none⟩) 1 1, .map none] 43))
  rw [H7.out]
  have b7 : Below a6.heap.size a6 a7 := by rw [← H7.out]; exact (Below.refl _ _).alloc (Nat.le_refl _) _
  have r7 : a7.heap[w.heap.size + 1 + 1 + 1 + 1 + 1 + 1]? = some (.cells #[kv, fv, .map (some (w.heap.size + 1)), .slice (some ⟨w.heap.size + 1 + 1 + 1, 0, none⟩) 1 1, .slice (some ⟨w.heap.size + 1 + 1 + 1 + 1 + 1, 0, none⟩) 1 1, .map none] 43 (0, 0)) := by rw [← H7.out]; exact bx_new _ _ _ z6.symm
  have b47 : Below a4.heap.size a4 a7 := b5.trans ((b6.trans (b7.mono b6.size)).mono b5.size)
  have b27 : Below a2.heap.size a2 a7 := b3.trans ((b4.trans (b47.mono b4.size)).mono b3.size)
  have b17 : Below a1.heap.size a1 a7 := b2.trans (b27.mono b2.size)
  have nb : ∀ {p q : Nat}, (Value.slice (some ⟨p, 0, none⟩) 1 1).ownBlock = some q → p = q := fun e => Option.some.inj e
  refine ⟨⟨r7, ⟨_, m2.keep b27, fun l x h => by cases h⟩, ⟨_, own_keep o4 b47, RdAll.one (rd0 _)⟩, fun q e => ?_, ?_, by omega⟩, ⟨_, own_keep o6 b7, RdAll.one (rd0 _)⟩, fun q e => ?_, bx_keep r1 b17, b1.trans (b17.mono b1.size), by omega, by omega⟩
  · have e2 := nb e
    exact ⟨by omega, by omega, fun e3 => by have := nb e3; omega⟩
  · refine rd_of_own (own_keep o6 b7) (RdAll.one (rd0 _)) rfl (fun q e => ?_)
    have e2 := nb e
    exact ⟨by omega, by omega, fun e3 => by have := nb e3; omega⟩
  · have e2 := nb e
    exact ⟨by omega, by omega, fun e3 => by have := nb e3; omega⟩
end Lr
end Go.Proofs.Ytclpmmbclgihbaa
namespace Go.Proofs.Ytclpmmbclgihbaa
open Go.RowKit

/-- a function of nodes, as a function value: I: what it holds of the nodes seen so far, in which blocks -/
structure NodeFn (g : Nat) (lb : Array Value) (w0 : World) (p : Tree → Bool) (N : Nat) (I : List Tree → (Nat → Prop) → World → Prop) : Prop where
  below : ∀ {s S W}, I s S W → Below w0.heap.size w0 W
  own : ∀ {s S W}, I s S W → ∀ k, S k → w0.heap.size ≤ k ∧ k < W.heap.size
  keep : ∀ {s S W W'}, I s S W → Below W.heap.size W W' → I s S W'
  call : ∀ s S W (t : Tree) (v : Value), I s S W → Rd AnyB w0 (.sl (t.kids.map Tree.d)) [v] → s.length < N →
    Calls Try.prog g (#[.agg #[.int .i64 t.rule, .int .i64 t.term, v]] ++ lb) W fun e W' => ∃ S', e = .returned (.bool (p t)) ∧ I (s ++ [t]) S' W' ∧ Keeps S W W' ∧ ∀ k, S' k → S k ∨ W.heap.size ≤ k

structure WalkRel (p : Tree → Bool) (I : List Tree → (Nat → Prop) → World → Prop) (t : Tree) (s : List Tree) (S : Nat → Prop) (W : World) (i : Nat) (S' : Nat → Prop) (W' : World) : Prop where
  inv : I (s ++ t :: nodesL ((kidsOf t).take i)) S' W'
  kps : Keeps S W W'
  sub : ∀ k, S' k → S k ∨ W.heap.size ≤ k
  all : (t :: nodesL ((kidsOf t).take i)).all p = true

end Go.Proofs.Ytclpmmbclgihbaa
namespace Go.Proofs.Ytclpmmbclgihbaa
open Go.RowKit

mutual
def Tree.size : Tree → Nat
  | .node _ _ ks => sizeL ks + 1
def sizeL : List Tree → Nat
  | [] => 0
  | k :: ks => Tree.size k + sizeL ks
end
theorem Tree.size_eq (t : Tree) : t.size = sizeL t.kids + 1 := by cases t; simp [Tree.size, Tree.kids]
theorem grown_box3 (b : Nat) (w : World) (x y z : Value) : w.grownBy (((w.setCell ⟨b, 0, none⟩ x).setCell ⟨b, 1, none⟩ y).setCell ⟨b, 2, none⟩ z) (some b) := grown_trans (grown_trans (grown_cell _ _ _) (grown_cell _ _ _)) (grown_cell _ _ _)
end Go.Proofs.Ytclpmmbclgihbaa
namespace Go.Proofs.Ytclpmmbclgihbaa
open Go.RowKit

theorem bx_set3 {w : World} {b : Nat} {x0 x1 x2 : Value} {T : TypeId} (h : w.heap[b]? = some (.cells #[x0, x1, x2] T (0, 0))) (y0 y1 y2 : Value) : (((w.setCell ⟨b, 0, none⟩ y0).setCell ⟨b, 1, none⟩ y1).setCell ⟨b, 2, none⟩ y2).heap[b]? = some (.cells #[y0, y1, y2] T (0, 0)) := by
  rw [bx_set (bx_set (bx_set h 0 y0) 1 y1) 2 y2]; rfl
theorem bx_other3 {w : World} {b c : Nat} {o : Obj} (h : w.heap[b]? = some o) (hne : b ≠ c) (y0 y1 y2 : Value) : (((w.setCell ⟨c, 0, none⟩ y0).setCell ⟨c, 1, none⟩ y1).setCell ⟨c, 2, none⟩ y2).heap[b]? = some o :=
  bx_other (bx_other (bx_other h hne _ _) hne _ _) hne _ _

end Go.Proofs.Ytclpmmbclgihbaa
