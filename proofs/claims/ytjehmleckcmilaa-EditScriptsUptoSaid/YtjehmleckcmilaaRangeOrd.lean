/- A range over a function whose rounds come in a known order and never leave early: the iterator's contract by the rounds' numbers, and the caller's law. (The kit's laws ask the body at every element in every order: the body of edit.Run would panic there.) -/
import Derived.RangeFuncNested
import Derived.RangeFuncBound
import Derived.RangeFuncCalls
import Derived.RangeFuncLeaves
namespace Go.Proofs.Ytjehmleckcmilaa
open Go Go.RowKit
variable {F : Fence} {n : Nat} {P : Program}

/-- the iterator gf (with captured lb) calls yield N times, the k-th time with encs k; each round keeps Kp -/
def SeqOrd (F : Fence) (n : Nat) (P : Program) (gf : Nat) (lb : Array Value) (encs : Nat → Array Value) (Kp : World → World → Prop) (N : Nat) (w : World) : Prop :=
  ∀ (l : Nat) (J : Nat → World → Prop) (W : World), Below w.heap.size w W →
    (∀ k V, k < N → J k V → YieldAt F (n - 1) P l (encs k) V fun e V' => e = .returned (.bool true) ∧ J (k + 1) V' ∧ Kp V V') → J 0 W →
    CallsIn F n P gf (#[.func (.yield l) #[] #[]] ++ lb) W fun e W' => (∃ v, e = .returned v) ∧ J N W'

/-- how a round's body ends -/
def ordPost (S : Nat) (Kp : World → World → Prop) (I : Nat → World → Prop) (k : Nat) (W : World) : Exit → Act → World → Prop
  | .normal, _, W' => KeepsFrom S W W' ∧ Kp W W' ∧ I (k + 1) W'
  | _, _, _ => False

theorem wpIn_range_ord {g : Operand} {ps : Array Tmp} {assign body : Code} {Q : Exit → Act → World → Prop} {a : Act} {w : World}
    (hro : F.round = none) (h1 : 1 ≤ n) {gf : Nat} {lb : Array Value} (hg : a.eval g = .func (.func gf) #[] lb) (hFg : F.fn gf) (eg : ∀ args w, (callFunc gf args).run P w = .ok (.enter gf args) w)
    {encs : Nat → Array Value} {Kp : World → World → Prop} {N : Nat} (hKt : ∀ {A B C : World}, Kp A B → Kp B C → Kp A C) (hKb : ∀ (W : World) (l : Nat) (o o' : Obj), w.heap.size ≤ l → W.heap[l]? = some o → o.isCells = false → Kp W (W.putObj l o')) (hseq : SeqOrd F (n - 1) P gf lb encs Kp N w) (hps : ∀ k, (encs k).size = ps.size)
    (I : Nat → World → Prop) (hI : OwnFrom w.heap.size I) (h0 : I 0 w) (Ax : Nat → Act → World → Prop) (hAx : ∀ k a', OwnFrom w.heap.size (fun (_ : Unit) W => Ax k a' W))
    (hassign : ∀ (l k : Nat) (W : World) (K : Act → World → Prop), k < N → I k W → (∀ a' W', KeepsFrom w.heap.size W W' → Kp W W' → I k W' → Ax k a' W' → K a' W') →
      assign.wpIn (F.inRound l) (n - 1 - 1) P (Exit.then K (fun _ _ _ => False)) { tmps := (ps.zip (encs k)).foldl (fun t (p, v) => t.setIfInBounds p v) a.tmps, defers := [] } W)
    (hbody : ∀ (l k : Nat) (a' : Act) (W : World), k < N → I k W → Ax k a' W → body.wpIn (F.inRound l) (n - 1 - 1) P (ordPost w.heap.size Kp I k W) a' W)
    (hdone : ∀ (D : Nat) (W : World), w.heap.size ≤ D → I N W → W.heap[D]? = some (.deferred (some [])) → Q .normal { a with defers := { target := .collected D, args := #[] } :: a.defers } W) :
    (Code.rangeFunc g ps assign body).wpIn F n P Q a w := by
  refine wpIn_rangeFunc fun fn hfn => ?_
  rw [hro]
  let rec' : LoopState → Loop := fun st => { state := st, pending := none, fn, tmps := a.tmps, params := ps, assign, body, defers := w.heap.size }
  obtain ⟨V, hV⟩ : ∃ V, (w.alloc (.deferred (some []))).alloc (.loop (rec' .ready)) = V := ⟨_, rfl⟩
  have hD : V.heap[w.heap.size]? = some (.deferred (some [])) := by
    rw [← hV]; exact (Below.heap_alloc _ _ _ (by simp)).trans (World.alloc_heap_new w _)
  have hL : V.heap[w.heap.size + 1]? = some (.loop (rec' .ready)) := by
    have h := World.alloc_heap_new (w.alloc (.deferred (some []))) (.loop (rec' .ready))
    rw [World.size_alloc] at h
    rw [← hV]; exact h
  have hIV : I 0 V := by rw [← hV]; exact hI.alloc _ (hI.alloc _ h0)
  have hbV : Below w.heap.size w V := by rw [← hV]; exact ((Below.refl _ w).alloc (Nat.le_refl _) _).alloc (by simp) _
  refine ⟨w.heap.size + 1, [{ target := .collected w.heap.size, args := #[] }], V, { target := .fn (.func gf) lb, args := #[.func (.yield (w.heap.size + 1)) #[] #[]] }, V, gf, #[.func (.yield (w.heap.size + 1)) #[] #[]] ++ lb, V, ?_, ?_, ?_, ?_, fun _ => h1, ?_⟩
  · rw [← hV]; exact run_enterLoop_outer _ _ _ _ _
  · simp only [resolve, hg]
    simp [go_sem]
  · intro f' hf'; simp [Target.leads] at hf'; subst hf'; exact hFg
  · simp [invoke, go_sem, eg]
  · refine (hseq (w.heap.size + 1) (fun k W => I k W ∧ W.heap[w.heap.size + 1]? = some (.loop (rec' .ready)) ∧ W.heap[w.heap.size]? = some (.deferred (some []))) V hbV ?_ ⟨hIV, hL, hD⟩).mono ?_
    · rintro k W hk ⟨hi, hl, hd⟩
      have hy := run_yield (P := P) (args := encs k) hl (hps k)
      refine ⟨fn, _, assign, body, hy, roundIn_of_wpIn hfn (hassign _ k W _ hk hi ?_)⟩
      intro a' Wa kf bl ia ax
      have hla := kf.same _ _ (by omega) hl rfl
      have hda := kf.same _ _ (Nat.le_refl _) hd rfl
      have hlt := (Array.getElem?_eq_some_iff.1 hla).1
      refine ⟨_, run_beginRound hla rfl, ?_⟩
      refine wpIn_mono (hbody _ k a' _ hk (hI.putObj _ ia (by omega) hla rfl) ((hAx k a').putObj (s := ()) _ ax (by omega) hla rfl)) ?_
      have hl2 : (Wa.putObj (w.heap.size + 1) (.loop { rec' .ready with state := .busy })).heap[w.heap.size + 1]? = some (.loop { rec' .ready with state := .busy }) := World.putObj_heap_same hlt
      have hd2 : (Wa.putObj (w.heap.size + 1) (.loop { rec' .ready with state := .busy })).heap[w.heap.size]? = some (.deferred (some [])) := (World.putObj_heap_other (by omega)).trans hda
      have hb2 : Kp Wa (Wa.putObj (w.heap.size + 1) (.loop { rec' .ready with state := .busy })) := hKb _ _ _ _ (by omega) hla rfl
      rintro e a3 W3 hp
      cases e with
      | normal =>
        obtain ⟨kf3, bl3, i3⟩ := hp
        have hl3 := kf3.same _ _ (by omega) hl2 rfl
        have hd3 := kf3.same _ _ (Nat.le_refl _) hd2 rfl
        refine ⟨_, _, run_endRound (P := P) none hl3, rfl, ⟨hI.putObj _ i3 (by omega) hl3 rfl, ?_, (World.putObj_heap_other (by omega)).trans hd3⟩, hKt bl (hKt hb2 (hKt bl3 (hKb _ _ _ _ (by omega) hl3 rfl)))⟩
        exact World.putObj_heap_same (Array.getElem?_eq_some_iff.1 hl3).1
      | ret => exact hp.elim
      | exit id => exact hp.elim
      | goto t => exact hp.elim
      | panic ch => exact hp.elim
      | outgrown => exact hp.elim
    · rintro e W2 ⟨⟨v, rfl⟩, hi, hl, hd⟩
      exact ⟨none, _, run_endLoop (P := P) hl (by simp [rec']), hdone _ _ (Nat.le_refl _) (hI.putObj _ hi (by omega) hl rfl) ((World.putObj_heap_other (by omega)).trans hd)⟩

/-- what lies below B, and block s, are kept -/
def KeepsB (B s : Nat) (W W' : World) : Prop := Below B W W' ∧ W'.heap[s]? = W.heap[s]?
theorem KeepsB.trans {B s : Nat} {X Y Z : World} (h : KeepsB B s X Y) (k : KeepsB B s Y Z) : KeepsB B s X Z := ⟨h.1.trans k.1, k.2.trans h.2⟩
theorem KeepsB.put {B s m : Nat} (hB : B ≤ m) (hs : s < m) (W : World) (l : Nat) (o o' : Obj) (hl : m ≤ l) (h : W.heap[l]? = some o) (_ : o.isCells = false) : KeepsB B s W (W.putObj l o') :=
  ⟨(Below.refl B W).grown (grownBy_putObj' W l o') (by have := (Array.getElem?_eq_some_iff.1 h).1; omega) (fun k e => by cases e; omega), World.putObj_heap_other (by omega)⟩
theorem KeepsB.cell {B s : Nat} {W W' : World} (h : KeepsB B s W W') {p : Addr} (hp : p.block < B ∨ p.block = s) : W'.cell? p = W.cell? p := by
  rcases hp with hp | hp
  · exact h.1.cell hp
  · unfold World.cell?
    rw [hp, h.2]
end Go.Proofs.Ytjehmleckcmilaa
