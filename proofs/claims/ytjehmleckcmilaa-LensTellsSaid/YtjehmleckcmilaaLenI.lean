/- lengthsOf: what its rounds keep. -/
import Derived.Test.YtjehmleckcmilaaAddWalk
import Derived.Test.YtjehmleckcmilaaLensQ
import Derived.Test.YtjehmleckcmilaaGridB
namespace Go.Proofs.Ytjehmleckcmilaa
open Go.RowKit
namespace Ln

theorem Grd.same {tr te : TypeId} {B bt n m hi : Nat} {rb : Nat → Nat} {val : Nat → Nat → Value} {wr w' : World} (h : Grd tr te B bt n m hi rb val wr) (h1 : w'.heap[bt]? = wr.heap[bt]?) (h2 : ∀ i, i < hi → i < n → w'.heap[rb i]? = wr.heap[rb i]?) : Grd tr te B bt n m hi rb val w' := by
  obtain ⟨⟨cs, k1, k2⟩, k3, k4, k5, k6⟩ := h
  refine ⟨⟨cs, h1.trans k1, k2⟩, fun k hk hn => ?_, k4, k5, k6⟩
  obtain ⟨rs, r1, r2⟩ := k3 k hk hn
  exact ⟨rs, (h2 k hk hn).trans r1, r2⟩
theorem Grd.base {tr te : TypeId} {B B' bt n m hi : Nat} {rb : Nat → Nat} {val : Nat → Nat → Value} {wr : World} (h : Grd tr te B bt n m hi rb val wr) (hB : B' ≤ B) : Grd tr te B' bt n m hi rb val wr :=
  ⟨h.tb, h.row, h.inj, fun k hk hn => ⟨(h.ne k hk hn).1, Nat.le_trans hB (h.ne k hk hn).2⟩, Nat.le_trans hB h.bB⟩
section
variable {w2 : World} {nb s n : Nat} {X X' : Nat → Prop} {L L0 : List (Nat × Nat × Nat)} {p g0 off0 : Nat} {wr w' : World}
theorem AI.rebase (h : AI w2 nb s n X L p L0 g0 off0 wr) : AI wr nb s n X L p L0 g0 off0 wr := by
  obtain ⟨h1, h2, h3, ⟨va, vq, r1, r2, r3⟩, h5, h6, h7, h8, h9, h10⟩ := h
  exact ⟨h1, h2, h3, ⟨va, vq, r1, r2, r3⟩, h5, Below.refl _ _, h7, h8, h9, fun k hk => ⟨(r3.ax k hk).2.2.2, rfl⟩⟩
theorem AI.other {b : Nat} (h : AI wr nb s n X L p L0 g0 off0 wr) (hg : wr.grownBy w' (some b)) (hb : b < s) (hn : b ≠ nb) : AI w' nb s n X L p L0 g0 off0 w' := by
  obtain ⟨h1, h2, ⟨c, h3, h4⟩, ⟨va, vq, r1, r2, r3⟩, h5, h6, h7, h8, h9, h10⟩ := h
  have hB : ∀ k, k < wr.heap.size → k ≠ b → w'.heap[k]? = wr.heap[k]? := fun k hk hne => hg.block k hk (fun e => hne (by simpa using e))
  refine ⟨(hB nb (by omega) (by omega)).trans h1, (hB _ (by omega) (by omega)).trans h2, ⟨c, h3.kept hg (fun e => by cases e; omega), h4⟩, ⟨va, vq, (hB _ (by omega) (by omega)).trans r1, (hB _ (by omega) (by omega)).trans r2, r3.other hg (fun k e => by cases e; omega)⟩, h5, Below.refl _ _, h7, Nat.le_trans h8 hg.size, h9, fun k hk => ⟨Nat.lt_of_lt_of_le (r3.ax k hk).2.2.2 hg.size, rfl⟩⟩
theorem AI.protect (h : AI wr nb s n X L p L0 g0 off0 wr) (hb : Below wr.heap.size wr w') (hx : ∀ k, X' k → X k ∨ (wr.heap.size ≤ k ∧ k < w'.heap.size)) : AI w' nb s n X' L p L0 g0 off0 w' := by
  obtain ⟨h1, h2, ⟨c, h3, h4⟩, ⟨va, vq, r1, r2, r3⟩, h5, h6, h7, h8, h9, h10⟩ := h
  have hp : RR (s + 4) X' L (L.drop p) L0 g0 off0 va vq w' := r3.protect hb (fun k hk => (hx k hk).imp id (fun e => ⟨by omega, e⟩))
  exact ⟨bx_keep h1 hb, bx_keep h2 hb, ⟨c, h3.keep hb, h4⟩, ⟨va, vq, bx_keep r1 hb, bx_keep r2 hb, hp⟩, h5, Below.refl _ _, h7, Nat.le_trans h8 hb.size, h9, fun k hk => ⟨(hp.ax k hk).2.2.2, rfl⟩⟩
theorem AI.unsnap (h : AI wr nb s n X L p L0 g0 off0 wr) : AI wr nb s n X L p [] 0 0 wr := by
  obtain ⟨h1, h2, h3, ⟨va, vq, r1, r2, r3⟩, h5, h6, h7, h8, h9, h10⟩ := h
  exact ⟨h1, h2, h3, ⟨va, vq, r1, r2, r3.unsnap (by omega)⟩, h5, h6, h7, h8, h9, h10⟩
/-- what is read of all is kept under the appends -/
theorem AI.snap (h : AI wr nb s n X L p [] g0 off0 wr) (hl : 0 < L.length) : ∃ g off cap, wr.heap[s + 2]? = some (.cells #[.slice (some ⟨g, off, none⟩) L.length cap] 269 (0, 0)) ∧ L.length ≤ cap ∧ cap ≤ maxLen ∧ AI wr nb s n X L p L g off wr := by
  obtain ⟨h1, h2, h3, ⟨va, vq, r1, r2, r3⟩, h5, h6, h7, h8, h9, h10⟩ := h
  obtain ⟨g, off, cap, rfl, _⟩ := r3.all.cells hl
  obtain ⟨a', c', e, e1, e2⟩ := r3.all.form
  cases e
  exact ⟨g, off, cap, r1, e1, e2, h1, h2, h3, ⟨_, vq, r1, r2, r3.snap⟩, h5, h6, h7, h8, h9, h10⟩
/-- the first item that waits -/
theorem AI.first (h : AI wr nb s n X L p L0 g0 off0 wr) {x : Nat × Nat × Nat} (hl : p < L.length) (hx : L[p] = x) : ∃ g off cap, wr.heap[s + 3]? = some (.cells #[.slice (some ⟨g, off, none⟩) (L.length - p) cap] 269 (0, 0)) ∧ L.length - p ≤ cap ∧ cap ≤ maxLen ∧ s + 4 ≤ g ∧ g < wr.heap.size ∧
    wr.cell? ⟨g, off, none⟩ = some (.int .i64 x.1) ∧ wr.cell? ⟨g, off + 1, none⟩ = some (.int .i64 x.2.1) ∧ wr.cell? ⟨g, off + 2, none⟩ = some (.int .i64 x.2.2) ∧
    ∀ w' : World, Below wr.heap.size wr w' → (∀ k, X' k → X k ∨ (wr.heap.size ≤ k ∧ k < w'.heap.size)) → AI (w'.setCell ⟨s + 3, 0, none⟩ (.slice (if cap = 1 then some ⟨g, off, none⟩ else some ⟨g, off + 3, none⟩) (L.length - p - 1) (cap - 1))) nb s n X' L (p + 1) L0 g0 off0 (w'.setCell ⟨s + 3, 0, none⟩ (.slice (if cap = 1 then some ⟨g, off, none⟩ else some ⟨g, off + 3, none⟩) (L.length - p - 1) (cap - 1))) := by
  have hp := h
  obtain ⟨h1, h2, h3, ⟨va, vq, r1, r2, r3⟩, h5, h6, h7, h8, h9, h10⟩ := h
  have hd : L.drop p = x :: L.drop (p + 1) := by rw [List.drop_eq_getElem_cons hl, hx]
  have hlen : (L.drop p).length = L.length - p := List.length_drop
  have hrow := r3.row
  obtain ⟨g, off, cap, rfl, hc⟩ := hrow.cells (by omega)
  have hlt := hrow.lt g rfl
  obtain ⟨a', c', e, e1, e2⟩ := hrow.form
  cases e
  rw [hlen] at r2 e1
  have hi : its (L.drop p) = it3 x ++ its (L.drop (p + 1)) := by rw [hd]; simp [its]
  rw [hi] at hc
  have c0 := hc 0 _ (by simp [it3]; rfl)
  have c1 := hc 1 _ (by simp [it3]; rfl)
  have c2 := hc 2 _ (by simp [it3]; rfl)
  refine ⟨g, off, cap, r2, e1, e2, hlt.1, hlt.2, by simpa using c0, c1, c2, fun w' hb hX => ?_⟩
  have hq := hp.protect hb hX
  obtain ⟨q1, q2, ⟨c, q3, q4⟩, ⟨ua, uq, s1, s2, s3⟩, q5, q6, q7, q8, q9, q10⟩ := hq
  have hu := s2.symm.trans (bx_keep r2 hb)
  simp at hu
  subst hu
  have ht : ownsQ w' (s + 4) 271 3 (.slice (if cap = 1 then some ⟨g, off, none⟩ else some ⟨g, off + 3, none⟩) (L.length - p - 1) (cap - 1)) (L.length - p - 1) (its (L.drop (p + 1))) := by
    have h4 := s3.row
    rw [hlen, hi] at h4
    rw [show L.length - p = (L.length - p - 1) + 1 by omega] at h4
    exact h4.tail rfl (by decide)
  have hob : ∀ k, (Value.slice (if cap = 1 then some ⟨g, off, none⟩ else some ⟨g, off + 3, none⟩) (L.length - p - 1) (cap - 1)).ownBlock = some k → k = g := by
    intro k hk
    by_cases hc1 : cap = 1
    · rw [if_pos hc1] at hk; simpa [Value.ownBlock] using hk.symm
    · rw [if_neg hc1] at hk; simpa [Value.ownBlock] using hk.symm
  obtain ⟨v', HV'⟩ := nameIt (Value.slice (if cap = 1 then some ⟨g, off, none⟩ else some ⟨g, off + 3, none⟩) (L.length - p - 1) (cap - 1))
  rw [HV'.out] at ht hob ⊢
  have hg : w'.grownBy (w'.setCell ⟨s + 3, 0, none⟩ v') (some (s + 3)) := grown_cell w' ⟨s + 3, 0, none⟩ v'
  have hrr : RR (s + 4) X' L (L.drop (p + 1)) L0 g0 off0 ua v' w' := by
    refine ⟨s3.all, ?_, ?_, s3.sn, s3.sl, s3.sb, ?_, s3.sa, ?_⟩
    · rw [show (L.drop (p + 1)).length = L.length - p - 1 by rw [List.length_drop]; omega]; exact ht
    · intro k e e2
      have := hob k e2
      subst this
      exact s3.ap _ e rfl
    · intro e
      have := hob _ e
      subst this
      exact s3.sq rfl
    · intro k hk
      obtain ⟨k1, k2, k3, k4⟩ := s3.ax k hk
      refine ⟨k1, fun e => ?_, k3, k4⟩
      have := hob _ e
      subst this
      exact k2 rfl
  exact ⟨bx_other q1 (by omega) _ _, bx_other q2 (by omega) _ _, ⟨c, q3.kept hg (by simp), q4⟩, ⟨ua, v', bx_other s1 (by omega) _ _, by simpa using bx_set s2 0 v', hrr.other hg (fun k e => by cases e; omega)⟩, q5, Below.refl _ _, q7, by simpa [World.setCell] using q8, by omega, fun k hk => ⟨by have := (hrr.ax k hk).2.2.2; simpa [World.setCell] using this, rfl⟩⟩
end
theorem slNilQ (w : World) (B : Nat) (e : TypeId) (k : Nat) : ownsQ w B e k (.slice none 0 0) 0 [] := ⟨by simp, .inl ⟨rfl, rfl⟩⟩
theorem AI.start {w2 : World} {nb s n : Nat} (hs : s = w2.heap.size) (hn : w2.heap[nb]? = some (.cells #[.int .i64 n] 3 (0, 0))) {w3 : World} (hw : (((w2.alloc (.map #[] 0)).alloc (.cells #[.map (some s)] 268)).alloc (.cells #[.slice none 0 0] 269)).alloc (.cells #[.slice none 0 0] 269) = w3) : AI w3 nb s n (fun _ => False) [] 0 [] 0 0 w3 := by
  have hlt := (Array.getElem?_eq_some_iff.1 hn).1
  have ha : ∀ (W : World) (o : Obj), Below W.heap.size W (W.alloc o) := fun W o => (Below.refl _ _).alloc (Nat.le_refl _) _
  have hz : ∀ (W : World) (o : Obj), (W.alloc o).heap.size = W.heap.size + 1 := fun W o => by simp
  subst hs
  obtain ⟨wa, hwa⟩ : ∃ wa, wa = w2.alloc (.map #[] 0) := ⟨_, rfl⟩
  have hset : SetM Try.prog 271 4 w2.heap.size 0 (inSet []) wa := by rw [hwa]; exact SetM.start _ _ _ _ rfl (fun l => by simp [inSet])
  have b1 := ha w2 (.map #[] 0)
  have z1 := hz w2 (.map #[] 0)
  rw [← hwa] at b1 z1 hw
  obtain ⟨wb, hwb⟩ : ∃ wb, wb = wa.alloc (.cells #[.map (some w2.heap.size)] 268) := ⟨_, rfl⟩
  have b2 := ha wa (.cells #[.map (some w2.heap.size)] 268)
  have z2 := hz wa (.cells #[.map (some w2.heap.size)] 268)
  have k2 := bx_new wa (.cells #[.map (some w2.heap.size)] 268) (w2.heap.size + 1) z1.symm
  rw [← hwb] at b2 z2 k2 hw
  obtain ⟨wc, hwc⟩ : ∃ wc, wc = wb.alloc (.cells #[.slice none 0 0] 269) := ⟨_, rfl⟩
  have b3 := ha wb (.cells #[.slice none 0 0] 269)
  have z3 := hz wb (.cells #[.slice none 0 0] 269)
  have k3 := bx_new wb (.cells #[.slice none 0 0] 269) (w2.heap.size + 2) (by omega)
  rw [← hwc] at b3 z3 k3 hw
  have b4 := ha wc (.cells #[.slice none 0 0] 269)
  have z4 := hz wc (.cells #[.slice none 0 0] 269)
  have k4 := bx_new wc (.cells #[.slice none 0 0] 269) (w2.heap.size + 3) (by omega)
  rw [hw] at b4 z4 k4
  refine ⟨bx_keep (bx_keep (bx_keep (bx_keep hn b1) b2) b3) b4, bx_keep (bx_keep k2 b3) b4, ⟨0, ((hset.keep b2).keep b3).keep b4, Nat.le_refl _⟩, ⟨_, _, bx_keep k3 b4, k4, ⟨slNilQ _ _ _ _, slNilQ _ _ _ _, (fun k e => by cases e), (fun j u hj => by simp [its] at hj), by omega, .inl rfl, (fun e => by cases e), (fun e => by cases e), (fun k hk => hk.elim)⟩⟩, by simp, Below.refl _ _, hlt, by omega, by simp, fun k hk => hk.elim⟩
/-- what the rounds keep -/
structure MI (w : World) (s n N : Nat) (G : Array Value) (bt : Nat) (rb : Nat → Nat) (X : Nat → Prop) (L : List (Nat × Nat × Nat)) (p : Nat) (L0 : List (Nat × Nat × Nat)) (g0 off0 : Nat) (C : Nat → Nat → Bool) (wr : World) : Prop where
  ai : AI wr (w.heap.size + 1) s n X L p L0 g0 off0 wr
  can : Grd 78 4 (w.heap.size + 2) bt N (n + 1) N rb (fun i j => .bool (C i j)) wr
  lim : bt < s ∧ ∀ i, i < N → rb i < s
  gbox : wr.heap[w.heap.size]? = some (.cells G 77 (0, 0))
  bel : Below w.heap.size w wr
section
variable {w : World} {s n N : Nat} {G : Array Value} {bt : Nat} {rb : Nat → Nat} {X X' : Nat → Prop} {L L' : List (Nat × Nat × Nat)} {p : Nat} {L0 : List (Nat × Nat × Nat)} {g0 off0 : Nat} {C C' : Nat → Nat → Bool} {wr w' : World}
theorem MI.keep (h : MI w s n N G bt rb X L p L0 g0 off0 C wr) (hb : Below wr.heap.size wr w') (hx : ∀ k, X' k → X k ∨ (wr.heap.size ≤ k ∧ k < w'.heap.size)) : MI w s n N G bt rb X' L p L0 g0 off0 C w' :=
  ⟨h.ai.protect hb hx, h.can.keep hb, h.lim, bx_keep h.gbox hb, h.bel.trans (hb.mono h.bel.size)⟩
theorem MI.call (h : MI w s n N G bt rb X L p L0 g0 off0 C wr) (ha : AI wr (w.heap.size + 1) s n X L' p L0 g0 off0 w') : MI w s n N G bt rb X L' p L0 g0 off0 C w' := by
  have hlo := h.ai.lo
  have hb := ha.bel
  have hle := h.ai.le
  refine ⟨ha.rebase, Grd.same h.can (hb.block bt h.lim.1) (fun i hi _ => hb.block _ (h.lim.2 i hi)), h.lim, (hb.block _ (by omega)).trans h.gbox, ?_⟩
  exact h.bel.trans (hb.mono (by omega))
theorem MI.set (h : MI w s n N G bt rb X L p L0 g0 off0 C wr) {i j : Nat} (hi : i < N) (hj : j < n + 1) (he : ∀ a b, a < N → b < n + 1 → C' a b = if a = i ∧ b = j then true else C a b) : MI w s n N G bt rb X L p L0 g0 off0 C' (wr.setCell ⟨rb i, j, none⟩ (.bool true)) := by
  have hne := h.can.ne i hi hi
  have hg : wr.grownBy (wr.setCell ⟨rb i, j, none⟩ (.bool true)) (some (rb i)) := grown_cell wr ⟨rb i, j, none⟩ (.bool true)
  refine ⟨h.ai.other hg (h.lim.2 i hi) (by omega), (h.can.set hi hi hj (.bool true)).eq (fun a b _ ha hb => ?_), h.lim, bx_other h.gbox (by omega) _ _, h.bel.setCell (by show w.heap.size ≤ rb i; omega) _⟩
  rw [he a b ha hb]
  split <;> rfl
theorem MI.pop {v : Value} (h : MI w s n N G bt rb X L p L0 g0 off0 C wr) (hb : Below wr.heap.size wr w') (ha : AI (w'.setCell ⟨s + 3, 0, none⟩ v) (w.heap.size + 1) s n X' L (p + 1) L0 g0 off0 (w'.setCell ⟨s + 3, 0, none⟩ v)) : MI w s n N G bt rb X' L (p + 1) L0 g0 off0 C (w'.setCell ⟨s + 3, 0, none⟩ v) := by
  have hlo := h.ai.lo
  have h1 := h.bel.trans (hb.mono h.bel.size)
  exact ⟨ha, Grd.same (h.can.keep hb) (Below.heap_setCell _ _ _ _ (by have := h.lim.1; show bt ≠ s + 3; omega)) (fun i hi _ => Below.heap_setCell _ _ _ _ (by have := h.lim.2 i hi; show rb i ≠ s + 3; omega)), h.lim, bx_other (bx_keep h.gbox hb) (by show w.heap.size ≠ s + 3; omega) _ _, h1.setCell (by show w.heap.size ≤ s + 3; omega) _⟩
theorem MI.snap (h : MI w s n N G bt rb X L p [] g0 off0 C wr) (hl : 0 < L.length) : ∃ g off cap, wr.heap[s + 2]? = some (.cells #[.slice (some ⟨g, off, none⟩) L.length cap] 269 (0, 0)) ∧ L.length ≤ cap ∧ cap ≤ maxLen ∧ MI w s n N G bt rb X L p L g off C wr := by
  obtain ⟨g, off, cap, h1, h2, h3, h4⟩ := h.ai.snap hl
  exact ⟨g, off, cap, h1, h2, h3, h4, h.can, h.lim, h.gbox, h.bel⟩
theorem MI.read (h : MI w s n N G bt rb X L p L0 g0 off0 C wr) {j : Nat} {x : Nat × Nat × Nat} (hj : j < L0.length) (hx : L0[j] = x) : wr.cell? ⟨g0, off0 + j * 3, none⟩ = some (.int .i64 x.1) ∧ wr.cell? ⟨g0, off0 + j * 3 + 1, none⟩ = some (.int .i64 x.2.1) ∧ wr.cell? ⟨g0, off0 + j * 3 + 2, none⟩ = some (.int .i64 x.2.2) := by
  obtain ⟨va, vq, r1, r2, r3⟩ := h.ai.rows
  obtain ⟨k0, k1, k2⟩ := its_at hj
  rw [hx] at k0 k1 k2
  exact ⟨r3.sn _ _ k0, r3.sn _ _ k1, r3.sn _ _ k2⟩
theorem MI.lt2 (h : MI w s n N G bt rb X L p L0 g0 off0 C wr) {i : Nat} (hi : i < N) : rb i < s := h.lim.2 i hi
theorem MI.unsnap (h : MI w s n N G bt rb X L p L0 g0 off0 C wr) : MI w s n N G bt rb X L p [] 0 0 C wr := ⟨h.ai.unsnap, h.can, h.lim, h.gbox, h.bel⟩
theorem MI.drop (h : MI w s n N G bt rb X L p L0 g0 off0 C wr) (hx : ∀ k, X' k → X k) : MI w s n N G bt rb X' L p L0 g0 off0 C wr := h.keep (Below.refl _ _) (fun k hk => .inl (hx k hk))
theorem addMI (h : MI w s n N G bt rb X L p L0 g0 off0 C wr) {i d l : Nat} {d' l' : Int} (hd : ((d : Nat) : Int) = d') (hl : ((l : Nat) : Int) = l') (hi1 : i ≤ 1000) (hd1 : d ≤ 1000) (hl1 : l ≤ 1000) (hn : n ≤ 400) (hL : L.length ≤ 100000) :
    Calls Try.prog 178 #[.agg #[.int .i64 i, .int .i64 d', .int .i64 l'], .pointer (some ⟨w.heap.size + 1, 0, none⟩), .pointer (some ⟨s + 1, 0, none⟩), .pointer (some ⟨s + 2, 0, none⟩), .pointer (some ⟨s + 3, 0, none⟩)] wr
      (fun e w' => e = .returned (.tuple #[]) ∧ AI wr (w.heap.size + 1) s n X (addL n L (i, d, l)) p L0 g0 off0 w') := by
  subst hd hl
  exact addE wr (w.heap.size + 1) s n X L p L0 g0 off0 i d l wr h.ai ⟨hi1, hd1, hl1⟩ hn hL
end
end Ln
end Go.Proofs.Ytjehmleckcmilaa
