/- The contract of grid, of truth values. lengthsOf: what its rounds keep. parlref5.lister.fits. parlref5.lister.trees. parlref5.lister.trees. -/
import Derived.Test.YtbnpemgmdnghgaaJDrawTreesRow12
import Derived.Deep.DeepCutAuto
import Derived.Test.YtbnpemgmdnghgaaJDrawTreesRow2
import Derived.Test.YtbnpemgmdnghgaaJDrawTreesRow5
import Derived.StillTailTactics
import Derived.BigQuiet
import Derived.Test.YtbnpemgmdnghgaaJDrawTreesRow11
import Derived.Test.YtbnpemgmdnghgaaJDrawTreesRow3
namespace Go.Proofs.Ytbnpemgmdnghgaa
open Go.RowKit
namespace Ln

def GridPost (N m : Nat) (w : World) (e : Ending) (w' : World) : Prop :=
  ∃ bt rb, e = .returned (.slice (some ⟨bt, 0, none⟩) N N) ∧ Grd 51 4 w.heap.size bt N m N rb (fun _ _ => .bool false) w' ∧ Below w.heap.size w w'
set_option maxHeartbeats 1000000 in
set_option maxRecDepth 100000 in
theorem gridB (N m : Nat) (w : World) (hN : 1 ≤ N ∧ N ≤ 1000) (hm : 1 ≤ m ∧ m ≤ 1000) : Calls Try.prog 32 #[.int .i64 N, .int .i64 m] w (GridPost N m w) := by
  obtain ⟨hN1, hN2⟩ := hN
  obtain ⟨hm1, hm2⟩ := hm
  have hmk1 : ∀ W : World, (Instr.makeSlice 73 (.int .i64 (N : Int)) (.int .i64 (N : Int))).run Try.prog W = .ok (.slice (some ⟨W.heap.size, 0, none⟩) N N) (W.alloc (.cells (madeCells #[.slice none 0 0] N) 51)) := fun W => by
    have := run_make_row' (P := Try.prog) 73 51 (.slice none 0 0) 24 Try.underlying73 (by kernel_rfl) rfl .i64 .i64 N (by omega) (by omega) W
    simpa using this
  have hmk2 : ∀ W : World, (Instr.makeSlice 51 (.int .i64 (m : Int)) (.int .i64 (m : Int))).run Try.prog W = .ok (.slice (some ⟨W.heap.size, 0, none⟩) m m) (W.alloc (.cells (madeCells #[.bool false] m) 4)) := fun W => by
    have := run_make_row' (P := Try.prog) 51 4 (.bool false) 1 Try.underlying51 (by kernel_rfl) rfl .i64 .i64 m (by omega) (by omega) W
    simpa using this
  obtain ⟨bt, HBT⟩ := nameIt w.heap.size
  have HI0 : Hid (∃ rb, Grd 51 4 w.heap.size bt N m 0 rb (fun _ _ => .bool false) (w.alloc (.cells (madeCells #[.slice none 0 0] N) 51)) ∧ Below w.heap.size w (w.alloc (.cells (madeCells #[.slice none 0 0] N) 51))) :=
    ⟨fun _ => 0, Grd.start _ _ _ HBT.out.symm (Nat.le_refl _), (Below.refl _ _).alloc (Nat.le_refl _) _⟩
  go_enter Try.func32, Try.ntmps32
  go_wp2_with fail
  rw [HBT.out]
  clear hmk1
  go_loopg [11] N (fun gg v11 wr => ∃ k : Nat, k ≤ N ∧ N - k ≤ gg ∧ v11 = .int .i64 k ∧ Hid (∃ rb, Grd 51 4 w.heap.size bt N m k rb (fun _ _ => .bool false) wr ∧ Below w.heap.size w wr))
  case atStart => exact ⟨0, by omega, by omega, rfl, HI0⟩
  case round =>
    clear HI0
    obtain ⟨k, hk, hg, rfl, HI⟩ := hrel
    by_cases hkN : k < N
    · have hkN' : (k : Int) < (N : Int) := by omega
      obtain ⟨rb, hd, hbel⟩ := HI.out
      have hbt := hd.lt
      have hbB := hd.bB
      have hsz := hbel.size
      obtain ⟨⟨vc, hc8⟩, hf8⟩ := hd.hcell hkN
      have HT1 : Hid (∃ rb, Grd 51 4 w.heap.size bt N m (k + 1) rb (fun _ _ => .bool false) ((wr.alloc (.cells (madeCells #[.bool false] m) 4)).setCell ⟨bt, k, none⟩ (.slice (some ⟨wr.heap.size, 0, none⟩) m m)) ∧ Below w.heap.size w ((wr.alloc (.cells (madeCells #[.bool false] m) 4)).setCell ⟨bt, k, none⟩ (.slice (some ⟨wr.heap.size, 0, none⟩) m m))) :=
        ⟨_, hd.add hkN (by omega), (hbel.alloc (by omega) _).setCell (by show w.heap.size ≤ bt; omega) _⟩
      have hne8 : ¬ bt = wr.heap.size := by omega
      have hne9 : ¬ wr.heap.size = bt := by omega
      obtain ⟨w2, HW2⟩ := nameIt ((wr.alloc (.cells (madeCells #[.bool false] m) 4)).setCell ⟨bt, k, none⟩ (.slice (some ⟨wr.heap.size, 0, none⟩) m m))
      have hcomm : (wr.setCell ⟨bt, k, none⟩ (.slice (some ⟨wr.heap.size, 0, none⟩) m m)).alloc (.cells (madeCells #[.bool false] m) 4) = w2 := by
        rw [← HW2.out]
        simp [go_sem, hbt]
      have HCM := Lib.hid hcomm
      rw [HW2.out] at HT1
      clear hcomm hd hbel
      go_upto_region 6 with fail
      rw [HCM.out]
      clear hc8 hf8 hne8 hne9
      go_wp2_with fail
      go_roundg (N - (k + 1))
      case measure => omega
      case rel => exact ⟨k + 1, by omega, by omega, by go_num, HT1⟩
    · have hkN' : ¬ (k : Int) < (N : Int) := by omega
      have hkk : k = N := by omega
      have HE := HI.out
      rw [hkk] at HE
      have HE1 := Lib.hid HE
      clear HE hkk
      go_wp2_with fail
      go_ret
      obtain ⟨rb, h1, h2⟩ := HE1.out
      exact ⟨bt, rb, rfl, h1, h2⟩
end Ln
end Go.Proofs.Ytbnpemgmdnghgaa
namespace Go.Proofs.Ytbnpemgmdnghgaa
open Go.RowKit
namespace Ln

theorem Grd.same {tr te : TypeId} {B bt n m hi : Nat} {rb : Nat → Nat} {val : Nat → Nat → Value} {wr w' : World} (h : Grd tr te B bt n m hi rb val wr) (h1 : w'.heap[bt]? = wr.heap[bt]?) (h2 : ∀ i, i < hi → i < n → w'.heap[rb i]? = wr.heap[rb i]?) : Grd tr te B bt n m hi rb val w' := by
  obtain ⟨⟨cs, k1, k2⟩, k3, k4, k5, k6⟩ := h
  refine ⟨⟨cs, h1.trans k1, k2⟩, fun k hk hn => ?_, k4, k5, k6⟩
  obtain ⟨rs, r1, r2⟩ := k3 k hk hn
  exact ⟨rs, (h2 k hk hn).trans r1, r2⟩
theorem Grd.base {tr te : TypeId} {B B' bt n m hi : Nat} {rb : Nat → Nat} {val : Nat → Nat → Value} {wr : World} (h : Grd tr te B bt n m hi rb val wr) (hB : B' ≤ B) : Grd tr te B' bt n m hi rb val wr :=
  ⟨h.tb, h.row, h.inj, fun k hk hn => ⟨(h.ne k hk hn).1, Nat.le_trans hB (h.ne k hk hn).2⟩, Nat.le_trans hB h.bB⟩
section
variable {w2 : World} {nb s n : Nat} {X X' : Nat → Prop} {L L0 : List (Nat × Nat × Nat)} {p g0 off0 : Nat} {wr w' : World}
theorem AI.rebase (h : AI w2 nb s n X L p L0 g0 off0 wr) : AI wr nb s n X L p L0 g0 off0 wr := by
  obtain ⟨h1, h2, h3, ⟨va, vq, r1, r2, r3⟩, h5, h6, h7, h8, h9, h10⟩ := h
  exact ⟨h1, h2, h3, ⟨va, vq, r1, r2, r3⟩, h5, Below.refl _ _, h7, h8, h9, fun k hk => ⟨(r3.ax k hk).2.2.2, rfl⟩⟩
theorem AI.other {b : Nat} (h : AI wr nb s n X L p L0 g0 off0 wr) (hg : wr.grownBy w' (some b)) (hb : b < s) (hn : b ≠ nb) : AI w' nb s n X L p L0 g0 off0 w' := by
  obtain ⟨h1, h2, ⟨c, h3, h4⟩, ⟨va, vq, r1, r2, r3⟩, h5, h6, h7, h8, h9, h10⟩ := h
  have hB : ∀ k, k < wr.heap.size → k ≠ b → w'.heap[k]? = wr.heap[k]? := fun k hk hne => hg.block k hk (fun e => hne (by simpa using e))
  refine ⟨(hB nb (by omega) (by omega)).trans h1, (hB _ (by omega) (by omega)).trans h2, ⟨c, h3.kept hg (fun e => by cases e; omega), h4⟩, ⟨va, vq, (hB _ (by omega) (by omega)).trans r1, (hB _ (by omega) (by omega)).trans r2, r3.other hg (fun k e => by cases e; omega)⟩, h5, Below.refl _ _, h7, Nat.le_trans h8 hg.size, h9, fun k hk => ⟨Nat.lt_of_lt_of_le (r3.ax k hk).2.2.2 hg.size, rfl⟩⟩
theorem AI.protect (h : AI wr nb s n X L p L0 g0 off0 wr) (hb : Below wr.heap.size wr w') (hx : ∀ k, X' k → X k ∨ (wr.heap.size ≤ k ∧ k < w'.heap.size)) : AI w' nb s n X' L p L0 g0 off0 w' := by
  obtain ⟨h1, h2, ⟨c, h3, h4⟩, ⟨va, vq, r1, r2, r3⟩, h5, h6, h7, h8, h9, h10⟩ := h
  have hp : RR (s + 4) X' L (L.drop p) L0 g0 off0 va vq w' := r3.protect hb (fun k hk => (hx k hk).imp id (fun e => ⟨by omega, e⟩))
  exact ⟨bx_keep h1 hb, bx_keep h2 hb, ⟨c, h3.keep hb, h4⟩, ⟨va, vq, bx_keep r1 hb, bx_keep r2 hb, hp⟩, h5, Below.refl _ _, h7, Nat.le_trans h8 hb.size, h9, fun k hk => ⟨(hp.ax k hk).2.2.2, rfl⟩⟩
theorem AI.unsnap (h : AI wr nb s n X L p L0 g0 off0 wr) : AI wr nb s n X L p [] 0 0 wr := by
  obtain ⟨h1, h2, h3, ⟨va, vq, r1, r2, r3⟩, h5, h6, h7, h8, h9, h10⟩ := h
  exact ⟨h1, h2, h3, ⟨va, vq, r1, r2, r3.unsnap (by omega)⟩, h5, h6, h7, h8, h9, h10⟩
/-- what is read of all is kept under the appends -/
theorem AI.snap (h : AI wr nb s n X L p [] g0 off0 wr) (hl : 0 < L.length) : ∃ g off cap, wr.heap[s + 2]? = some (.cells #[.slice (some ⟨g, off, none⟩) L.length cap] 118 (0, 0)) ∧ L.length ≤ cap ∧ cap ≤ maxLen ∧ AI wr nb s n X L p L g off wr := by
  obtain ⟨h1, h2, h3, ⟨va, vq, r1, r2, r3⟩, h5, h6, h7, h8, h9, h10⟩ := h
  obtain ⟨g, off, cap, rfl, _⟩ := r3.all.cells hl
  obtain ⟨a', c', e, e1, e2⟩ := r3.all.form
  cases e
  exact ⟨g, off, cap, r1, e1, e2, h1, h2, h3, ⟨_, vq, r1, r2, r3.snap⟩, h5, h6, h7, h8, h9, h10⟩
/-- the first item that waits -/
theorem AI.first (h : AI wr nb s n X L p L0 g0 off0 wr) {x : Nat × Nat × Nat} (hl : p < L.length) (hx : L[p] = x) : ∃ g off cap, wr.heap[s + 3]? = some (.cells #[.slice (some ⟨g, off, none⟩) (L.length - p) cap] 118 (0, 0)) ∧ L.length - p ≤ cap ∧ cap ≤ maxLen ∧ s + 4 ≤ g ∧ g < wr.heap.size ∧
    wr.cell? ⟨g, off, none⟩ = some (.int .i64 x.1) ∧ wr.cell? ⟨g, off + 1, none⟩ = some (.int .i64 x.2.1) ∧ wr.cell? ⟨g, off + 2, none⟩ = some (.int .i64 x.2.2) ∧
    ∀ w' : World, Below wr.heap.size wr w' → (∀ k, X' k → X k ∨ (wr.heap.size ≤ k ∧ k < w'.heap.size)) → AI (w'.setCell ⟨s + 3, 0, none⟩ (.slice (if cap = 1 then some ⟨g, off, none⟩ else some ⟨g, off + 3, none⟩) (L.length - p - 1) (cap - 1))) nb s n X' L (p + 1) L0 g0 off0 (w'.setCell ⟨s + 3, 0, none⟩ (.slice (if cap = 1 then some ⟨g, off, none⟩ else some ⟨g, off + 3, none⟩) (L.length - p - 1) (cap - 1))) := by
  have hp := h
  obtain ⟨h1, h2, h3, ⟨va, vq, r1, r2, r3⟩, h5, h6, h7, h8, h9, h10⟩ := h
  have hd : L.drop p = x :: L.drop (p + 1) := by rw [List.drop_eq_getElem_cons hl, hx]
  have hlen : (L.drop p).length = L.length - p := List.length_drop
  have hrow := r3.row
  obtain ⟨g, off, cap, rfl, hc⟩ := hrow.cells (by omega)
  have hlt := hrow.lt g rfl
  obtain ⟨a', c', e, e1, e2⟩ := hrow.form
  cases e
  rw [hlen] at r2 e1
  have hi : its (L.drop p) = it3 x ++ its (L.drop (p + 1)) := by rw [hd]; simp [its]
  rw [hi] at hc
  have c0 := hc 0 _ (by simp [it3]; rfl)
  have c1 := hc 1 _ (by simp [it3]; rfl)
  have c2 := hc 2 _ (by simp [it3]; rfl)
  refine ⟨g, off, cap, r2, e1, e2, hlt.1, hlt.2, by simpa using c0, c1, c2, fun w' hb hX => ?_⟩
  have hq := hp.protect hb hX
  obtain ⟨q1, q2, ⟨c, q3, q4⟩, ⟨ua, uq, s1, s2, s3⟩, q5, q6, q7, q8, q9, q10⟩ := hq
  have hu := s2.symm.trans (bx_keep r2 hb)
  simp at hu
  subst hu
  have ht : ownsQ w' (s + 4) 120 3 (.slice (if cap = 1 then some ⟨g, off, none⟩ else some ⟨g, off + 3, none⟩) (L.length - p - 1) (cap - 1)) (L.length - p - 1) (its (L.drop (p + 1))) := by
    have h4 := s3.row
    rw [hlen, hi] at h4
    rw [show L.length - p = (L.length - p - 1) + 1 by omega] at h4
    exact h4.tail rfl (by decide)
  have hob : ∀ k, (Value.slice (if cap = 1 then some ⟨g, off, none⟩ else some ⟨g, off + 3, none⟩) (L.length - p - 1) (cap - 1)).ownBlock = some k → k = g := by
    intro k hk
    by_cases hc1 : cap = 1
    · rw [if_pos hc1] at hk; simpa [Value.ownBlock] using hk.symm
    · rw [if_neg hc1] at hk; simpa [Value.ownBlock] using hk.symm
  obtain ⟨v', HV'⟩ := nameIt (Value.slice (if cap = 1 then some ⟨g, off, none⟩ else some ⟨g, off + 3, none⟩) (L.length - p - 1) (cap - 1))
  rw [HV'.out] at ht hob ⊢
  have hg : w'.grownBy (w'.setCell ⟨s + 3, 0, none⟩ v') (some (s + 3)) := grown_cell w' ⟨s + 3, 0, none⟩ v'
  have hrr : RR (s + 4) X' L (L.drop (p + 1)) L0 g0 off0 ua v' w' := by
    refine ⟨s3.all, ?_, ?_, s3.sn, s3.sl, s3.sb, ?_, s3.sa, ?_⟩
    · rw [show (L.drop (p + 1)).length = L.length - p - 1 by rw [List.length_drop]; omega]; exact ht
    · intro k e e2
      have := hob k e2
      subst this
      exact s3.ap _ e rfl
    · intro e
      have := hob _ e
      subst this
      exact s3.sq rfl
    · intro k hk
      obtain ⟨k1, k2, k3, k4⟩ := s3.ax k hk
      refine ⟨k1, fun e => ?_, k3, k4⟩
      have := hob _ e
      subst this
      exact k2 rfl
  exact ⟨bx_other q1 (by omega) _ _, bx_other q2 (by omega) _ _, ⟨c, q3.kept hg (by simp), q4⟩, ⟨ua, v', bx_other s1 (by omega) _ _, by simpa using bx_set s2 0 v', hrr.other hg (fun k e => by cases e; omega)⟩, q5, Below.refl _ _, q7, by simpa [World.setCell] using q8, by omega, fun k hk => ⟨by have := (hrr.ax k hk).2.2.2; simpa [World.setCell] using this, rfl⟩⟩
end
theorem slNilQ (w : World) (B : Nat) (e : TypeId) (k : Nat) : ownsQ w B e k (.slice none 0 0) 0 [] := ⟨by simp, .inl ⟨rfl, rfl⟩⟩
theorem AI.start {w2 : World} {nb s n : Nat} (hs : s = w2.heap.size) (hn : w2.heap[nb]? = some (.cells #[.int .i64 n] 3 (0, 0))) {w3 : World} (hw : (((w2.alloc (.map #[] 0)).alloc (.cells #[.map (some s)] 117)).alloc (.cells #[.slice none 0 0] 118)).alloc (.cells #[.slice none 0 0] 118) = w3) : AI w3 nb s n (fun _ => False) [] 0 [] 0 0 w3 := by
  have hlt := (Array.getElem?_eq_some_iff.1 hn).1
  have ha : ∀ (W : World) (o : Obj), Below W.heap.size W (W.alloc o) := fun W o => (Below.refl _ _).alloc (Nat.le_refl _) _
  have hz : ∀ (W : World) (o : Obj), (W.alloc o).heap.size = W.heap.size + 1 := fun W o => by simp
  subst hs
  obtain ⟨wa, hwa⟩ : ∃ wa, wa = w2.alloc (.map #[] 0) := ⟨_, rfl⟩
  have hset : SetM Try.prog 120 4 w2.heap.size 0 (inSet []) wa := by rw [hwa]; exact SetM.start _ _ _ _ rfl (fun l => by simp [inSet])
  have b1 := ha w2 (.map #[] 0)
  have z1 := hz w2 (.map #[] 0)
  rw [← hwa] at b1 z1 hw
  obtain ⟨wb, hwb⟩ : ∃ wb, wb = wa.alloc (.cells #[.map (some w2.heap.size)] 117) := ⟨_, rfl⟩
  have b2 := ha wa (.cells #[.map (some w2.heap.size)] 117)
  have z2 := hz wa (.cells #[.map (some w2.heap.size)] 117)
  have k2 := bx_new wa (.cells #[.map (some w2.heap.size)] 117) (w2.heap.size + 1) z1.symm
  rw [← hwb] at b2 z2 k2 hw
  obtain ⟨wc, hwc⟩ : ∃ wc, wc = wb.alloc (.cells #[.slice none 0 0] 118) := ⟨_, rfl⟩
  have b3 := ha wb (.cells #[.slice none 0 0] 118)
  have z3 := hz wb (.cells #[.slice none 0 0] 118)
  have k3 := bx_new wb (.cells #[.slice none 0 0] 118) (w2.heap.size + 2) (by omega)
  rw [← hwc] at b3 z3 k3 hw
  have b4 := ha wc (.cells #[.slice none 0 0] 118)
  have z4 := hz wc (.cells #[.slice none 0 0] 118)
  have k4 := bx_new wc (.cells #[.slice none 0 0] 118) (w2.heap.size + 3) (by omega)
  rw [hw] at b4 z4 k4
  refine ⟨bx_keep (bx_keep (bx_keep (bx_keep hn b1) b2) b3) b4, bx_keep (bx_keep k2 b3) b4, ⟨0, ((hset.keep b2).keep b3).keep b4, Nat.le_refl _⟩, ⟨_, _, bx_keep k3 b4, k4, ⟨slNilQ _ _ _ _, slNilQ _ _ _ _, (fun k e => by cases e), (fun j u hj => by simp [its] at hj), by omega, .inl rfl, (fun e => by cases e), (fun e => by cases e), (fun k hk => hk.elim)⟩⟩, by simp, Below.refl _ _, hlt, by omega, by simp, fun k hk => hk.elim⟩
/-- what the rounds keep -/
structure MI (w : World) (s n N : Nat) (G : Array Value) (bt : Nat) (rb : Nat → Nat) (X : Nat → Prop) (L : List (Nat × Nat × Nat)) (p : Nat) (L0 : List (Nat × Nat × Nat)) (g0 off0 : Nat) (C : Nat → Nat → Bool) (wr : World) : Prop where
  ai : AI wr (w.heap.size + 1) s n X L p L0 g0 off0 wr
  can : Grd 51 4 (w.heap.size + 2) bt N (n + 1) N rb (fun i j => .bool (C i j)) wr
  lim : bt < s ∧ ∀ i, i < N → rb i < s
  gbox : wr.heap[w.heap.size]? = some (.cells G 24 (0, 0))
  bel : Below w.heap.size w wr
section
variable {w : World} {s n N : Nat} {G : Array Value} {bt : Nat} {rb : Nat → Nat} {X X' : Nat → Prop} {L L' : List (Nat × Nat × Nat)} {p : Nat} {L0 : List (Nat × Nat × Nat)} {g0 off0 : Nat} {C C' : Nat → Nat → Bool} {wr w' : World}
theorem MI.keep (h : MI w s n N G bt rb X L p L0 g0 off0 C wr) (hb : Below wr.heap.size wr w') (hx : ∀ k, X' k → X k ∨ (wr.heap.size ≤ k ∧ k < w'.heap.size)) : MI w s n N G bt rb X' L p L0 g0 off0 C w' :=
  ⟨h.ai.protect hb hx, h.can.keep hb, h.lim, bx_keep h.gbox hb, h.bel.trans (hb.mono h.bel.size)⟩
theorem MI.call (h : MI w s n N G bt rb X L p L0 g0 off0 C wr) (ha : AI wr (w.heap.size + 1) s n X L' p L0 g0 off0 w') : MI w s n N G bt rb X L' p L0 g0 off0 C w' := by
  have hlo := h.ai.lo
  have hb := ha.bel
  have hle := h.ai.le
  refine ⟨ha.rebase, Grd.same h.can (hb.block bt h.lim.1) (fun i hi _ => hb.block _ (h.lim.2 i hi)), h.lim, (hb.block _ (by omega)).trans h.gbox, ?_⟩
  exact h.bel.trans (hb.mono (by omega))
theorem MI.set (h : MI w s n N G bt rb X L p L0 g0 off0 C wr) {i j : Nat} (hi : i < N) (hj : j < n + 1) (he : ∀ a b, a < N → b < n + 1 → C' a b = if a = i ∧ b = j then true else C a b) : MI w s n N G bt rb X L p L0 g0 off0 C' (wr.setCell ⟨rb i, j, none⟩ (.bool true)) := by
  have hne := h.can.ne i hi hi
  have hg : wr.grownBy (wr.setCell ⟨rb i, j, none⟩ (.bool true)) (some (rb i)) := grown_cell wr ⟨rb i, j, none⟩ (.bool true)
  refine ⟨h.ai.other hg (h.lim.2 i hi) (by omega), (h.can.set hi hi hj (.bool true)).eq (fun a b _ ha hb => ?_), h.lim, bx_other h.gbox (by omega) _ _, h.bel.setCell (by show w.heap.size ≤ rb i; omega) _⟩
  rw [he a b ha hb]
  split <;> rfl
theorem MI.pop {v : Value} (h : MI w s n N G bt rb X L p L0 g0 off0 C wr) (hb : Below wr.heap.size wr w') (ha : AI (w'.setCell ⟨s + 3, 0, none⟩ v) (w.heap.size + 1) s n X' L (p + 1) L0 g0 off0 (w'.setCell ⟨s + 3, 0, none⟩ v)) : MI w s n N G bt rb X' L (p + 1) L0 g0 off0 C (w'.setCell ⟨s + 3, 0, none⟩ v) := by
  have hlo := h.ai.lo
  have h1 := h.bel.trans (hb.mono h.bel.size)
  exact ⟨ha, Grd.same (h.can.keep hb) (Below.heap_setCell _ _ _ _ (by have := h.lim.1; show bt ≠ s + 3; omega)) (fun i hi _ => Below.heap_setCell _ _ _ _ (by have := h.lim.2 i hi; show rb i ≠ s + 3; omega)), h.lim, bx_other (bx_keep h.gbox hb) (by show w.heap.size ≠ s + 3; omega) _ _, h1.setCell (by show w.heap.size ≤ s + 3; omega) _⟩
theorem MI.snap (h : MI w s n N G bt rb X L p [] g0 off0 C wr) (hl : 0 < L.length) : ∃ g off cap, wr.heap[s + 2]? = some (.cells #[.slice (some ⟨g, off, none⟩) L.length cap] 118 (0, 0)) ∧ L.length ≤ cap ∧ cap ≤ maxLen ∧ MI w s n N G bt rb X L p L g off C wr := by
  obtain ⟨g, off, cap, h1, h2, h3, h4⟩ := h.ai.snap hl
  exact ⟨g, off, cap, h1, h2, h3, h4, h.can, h.lim, h.gbox, h.bel⟩
theorem MI.read (h : MI w s n N G bt rb X L p L0 g0 off0 C wr) {j : Nat} {x : Nat × Nat × Nat} (hj : j < L0.length) (hx : L0[j] = x) : wr.cell? ⟨g0, off0 + j * 3, none⟩ = some (.int .i64 x.1) ∧ wr.cell? ⟨g0, off0 + j * 3 + 1, none⟩ = some (.int .i64 x.2.1) ∧ wr.cell? ⟨g0, off0 + j * 3 + 2, none⟩ = some (.int .i64 x.2.2) := by
  obtain ⟨va, vq, r1, r2, r3⟩ := h.ai.rows
  obtain ⟨k0, k1, k2⟩ := its_at hj
  rw [hx] at k0 k1 k2
  exact ⟨r3.sn _ _ k0, r3.sn _ _ k1, r3.sn _ _ k2⟩
theorem MI.lt2 (h : MI w s n N G bt rb X L p L0 g0 off0 C wr) {i : Nat} (hi : i < N) : rb i < s := h.lim.2 i hi
theorem MI.unsnap (h : MI w s n N G bt rb X L p L0 g0 off0 C wr) : MI w s n N G bt rb X L p [] 0 0 C wr := ⟨h.ai.unsnap, h.can, h.lim, h.gbox, h.bel⟩
theorem MI.drop (h : MI w s n N G bt rb X L p L0 g0 off0 C wr) (hx : ∀ k, X' k → X k) : MI w s n N G bt rb X' L p L0 g0 off0 C wr := h.keep (Below.refl _ _) (fun k hk => .inl (hx k hk))
theorem addMI (h : MI w s n N G bt rb X L p L0 g0 off0 C wr) {i d l : Nat} {d' l' : Int} (hd : ((d : Nat) : Int) = d') (hl : ((l : Nat) : Int) = l') (hi1 : i ≤ 1000) (hd1 : d ≤ 1000) (hl1 : l ≤ 1000) (hn : n ≤ 400) (hL : L.length ≤ 100000) :
    Calls Try.prog 70 #[.agg #[.int .i64 i, .int .i64 d', .int .i64 l'], .pointer (some ⟨w.heap.size + 1, 0, none⟩), .pointer (some ⟨s + 1, 0, none⟩), .pointer (some ⟨s + 2, 0, none⟩), .pointer (some ⟨s + 3, 0, none⟩)] wr
      (fun e w' => e = .returned (.tuple #[]) ∧ AI wr (w.heap.size + 1) s n X (addL n L (i, d, l)) p L0 g0 off0 w') := by
  subst hd hl
  exact addE wr (w.heap.size + 1) s n X L p L0 g0 off0 i d l wr h.ai ⟨hi1, hd1, hl1⟩ hn hL
end
end Ln
end Go.Proofs.Ytbnpemgmdnghgaa
namespace Go.Proofs.Ytbnpemgmdnghgaa
open Go.RowKit
namespace Cs

theorem stB_has (H : Nat → Nat → Bool) (s : Sym) (j : Nat) : Ln.stB H s j = hasK H s j := by
  unfold Ln.stB hasK
  cases s.term <;> simp [BEq.beq]
theorem canK_snoc {S : Nat → Nat → Bool} {s : Sym} : ∀ {l : List Sym} {k : Nat}, canK S (l ++ [s]) k = true ↔ ∃ i j, i + j = k ∧ canK S l i = true ∧ hasK S s j = true
  | [], k => by
    rw [List.nil_append, canK_cons]
    constructor
    · rintro ⟨i, hi, h1, h2⟩
      have : k - i = 0 := by simpa [canK] using h2
      exact ⟨0, i, by omega, rfl, h1⟩
    · rintro ⟨i, j, hij, h1, h2⟩
      have : i = 0 := by simpa [canK] using h1
      subst this
      exact ⟨j, by omega, h2, by simp [canK]; omega⟩
  | x :: l, k => by
    rw [List.cons_append, canK_cons]
    constructor
    · rintro ⟨i, hi, h1, h2⟩
      obtain ⟨a, b, hab, h3, h4⟩ := canK_snoc.1 h2
      exact ⟨i + a, b, by omega, canK_cons.2 ⟨i, by omega, h1, by rw [Nat.add_sub_cancel_left]; exact h3⟩, h4⟩
    · rintro ⟨i, j, hij, h1, h2⟩
      obtain ⟨a, ha, h3, h4⟩ := canK_cons.1 h1
      exact ⟨a, by omega, h3, canK_snoc.2 ⟨i - a, j, by omega, h4, h2⟩⟩
theorem atR_canK (H : Nat → Nat → Bool) (n : Nat) (l : List Sym) : ∀ q, q ≤ l.length → ∀ m, m ≤ n → Ln.atR H n (l.take q) m = canK H (l.take q) m := by
  intro q
  induction q with
  | zero => intro _ m _; simp [Ln.atR, canK, BEq.beq]
  | succ q ih =>
    intro hq m hm
    rw [List.take_succ_eq_append_getElem (by omega), Ln.atR_snoc, Bool.eq_iff_iff, Ln.nxt_iff, canK_snoc]
    constructor
    · rintro ⟨_, i, j, hij, h1, h2⟩
      exact ⟨i, j, hij, by rw [← ih (by omega) i (by omega)]; exact h1, by rw [← stB_has]; exact h2⟩
    · rintro ⟨i, j, hij, h1, h2⟩
      exact ⟨hm, i, j, hij, by rw [ih (by omega) i (by omega)]; exact h1, by rw [stB_has]; exact h2⟩
/-- the lister in memory -/
structure LE (g : Gram) (ra : Option Addr) (rcap N n : Nat) (lb most bt : Nat) (rb : Nat → Nat) (H : Nat → Nat → Bool) (w1 : World) : Prop where
  box : w1.heap[lb]? = some (.cells #[.int .i64 g.terms, .int .i64 g.nons, .int .i64 g.start, .slice ra g.rules.length rcap, .slice (some ⟨bt, 0, none⟩) N N, .int .i64 (most : Int)] 93 (0, 0))
  tab : Grd 51 4 0 bt N (n + 1) N rb (fun i j => .bool (H i j)) w1
  rules : Rd AnyB w1 (.sl (g.rules.map Rule.d)) [.slice ra g.rules.length rcap]
theorem bx_cells6c {w : World} {b : Nat} {x0 x1 x2 x3 x4 x5 : Value} {T : TypeId} (h : w.heap[b]? = some (.cells #[x0, x1, x2, x3, x4, x5] T (0, 0))) :
    w.cell? ⟨b, 0, none⟩ = some x0 ∧ w.cell? ⟨b, 0 + 1, none⟩ = some x1 ∧ w.cell? ⟨b, 0 + 2, none⟩ = some x2 ∧ w.cell? ⟨b, 0 + 3, none⟩ = some x3 ∧ w.cell? ⟨b, 0 + 4, none⟩ = some x4 ∧ w.cell? ⟨b, 0 + 5, none⟩ = some x5 := by
  refine ⟨?_, ?_, ?_, ?_, ?_, ?_⟩ <;> simp [World.cell?, h]
/-- what the rounds over the places keep -/
structure FI (W : World) (sx : Nat) (SB : Array Value) (ga : Nat) (A : Nat → Bool) (gn : Nat) (M : Nat → Bool) (m : Nat) (wr : World) : Prop where
  bel : Below W.heap.size W wr
  sbox : wr.heap[sx]? = some (.cells SB 65 (0, 0))
  arow : Ln.Brow ga m A wr
  nrow : Ln.Brow gn m M wr
  ne : W.heap.size ≤ gn ∧ gn ≠ sx ∧ gn ≠ ga
section
variable {W : World} {sx : Nat} {SB : Array Value} {ga : Nat} {A : Nat → Bool} {gn : Nat} {M M' : Nat → Bool} {m : Nat} {wr w' : World}
theorem FI.eq (h : FI W sx SB ga A gn M m wr) (he : ∀ k, k < m → M k = M' k) : FI W sx SB ga A gn M' m wr := ⟨h.bel, h.sbox, h.arow, h.nrow.eq he, h.ne⟩
theorem FI.keep (h : FI W sx SB ga A gn M m wr) (hb : Below wr.heap.size wr w') : FI W sx SB ga A gn M m w' := ⟨h.bel.trans (hb.mono h.bel.size), bx_keep h.sbox hb, h.arow.keep hb, h.nrow.keep hb, h.ne⟩
theorem Brow.setV (h : Ln.Brow gn m M wr) {j : Nat} {x : Bool} (hj : j < m) (he : ∀ k, k < m → M' k = if k = j then x else M k) : Ln.Brow gn m M' (wr.setCell ⟨gn, j, none⟩ (.bool x)) := by
  obtain ⟨cs, h1, h2, h3⟩ := h
  refine ⟨cs.setIfInBounds j (.bool x), bx_set h1 _ _, by simpa using h2, fun k hk => ?_⟩
  rw [Array.getElem?_setIfInBounds, he k hk]
  by_cases e : j = k
  · subst e; rw [if_pos rfl, if_pos (by omega)]; simp
  · rw [if_neg e, h3 k hk, if_neg (fun h => e h.symm)]
theorem FI.set (h : FI W sx SB ga A gn M m wr) {j : Nat} {x : Bool} (hj : j < m) (he : ∀ k, k < m → M' k = if k = j then x else M k) : FI W sx SB ga A gn M' m (wr.setCell ⟨gn, j, none⟩ (.bool x)) := by
  obtain ⟨h1, h2, h3, h4, e1, e2, e3⟩ := h
  exact ⟨h1.setCell (p := ⟨gn, j, none⟩) e1 _, bx_other h2 (fun e => e2 e.symm) _ _, h3.other (fun e => e3 e.symm) _ _, Brow.setV h4 hj he, e1, e2, e3⟩
end

set_option maxHeartbeats 16000000 in
set_option maxRecDepth 100000 in
theorem fitsE {g : Gram} {ra : Option Addr} {rcap N nn : Nat} {lb most bt : Nat} {rb : Nat → Nat} {H : Nat → Nat → Bool} {w1 : World} (h : LE g ra rcap N nn lb most bt rb H w1) (hnn : nn ≤ 400) (R : List Sym) (hR : ∀ s ∈ R, okS N s) (n : Nat) (hn : n ≤ nn) (av : Option Addr) (cv : Nat) (hrd : Rd AnyB w1 (.sl (R.map Sym.d)) [.slice av R.length cv])
    (W : World) (hW : Below w1.heap.size w1 W) :
    Calls Try.prog 71 #[.pointer (some ⟨lb, 0, none⟩), .slice av R.length cv, .int .i64 (n : Int)] W fun e w' => e = .returned (.bool (canK H R n)) ∧ Below W.heap.size W w' := by
  have hn400 : n ≤ 400 := by omega
  obtain ⟨PST, HP⟩ := nameIt (fun (e : Ending) (w' : World) => e = .returned (.bool (canK H R n)) ∧ Below W.heap.size W w')
  rw [HP.out]
  have HFIN : Hid (∀ (b : Bool) w', b = canK H R n → Below W.heap.size W w' → PST (.returned (.bool b)) w') := by
    rintro b w' rfl h; rw [← HP.out]; exact ⟨rfl, h⟩
  have hmk2 : ∀ W : World, (Instr.makeSlice 51 (.int .i64 ((n : Int) + 1)) (.int .i64 ((n : Int) + 1))).run Try.prog W = .ok (.slice (some ⟨W.heap.size, 0, none⟩) (n + 1) (n + 1)) (W.alloc (.cells (madeCells #[.bool false] (n + 1)) 4)) := fun W => by
    have := run_make_row' (P := Try.prog) 51 4 (.bool false) 1 Try.underlying51 (by kernel_rfl) rfl .i64 .i64 (n + 1) (by omega) (by omega) W
    simpa using this
  have hbs := hrd.bounds.2
  unfold maxLen at hbs
  obtain ⟨hcv1, hcv2⟩ := hbs
  have HKR := Lib.hid hrd
  have HOKS := Lib.hid hR
  have hlb := (Array.getElem?_eq_some_iff.1 h.box).1
  have HLB : Hid (∀ W', Below w1.heap.size w1 W' → W'.cell? ⟨lb, 0 + 4, none⟩ = some (.slice (some ⟨bt, 0, none⟩) N N)) := fun W' hb => (bx_cells6c ((hb.block lb hlb).trans h.box)).2.2.2.2.1
  have HTB : Hid (∀ W' a k, Below w1.heap.size w1 W' → a < N → k ≤ nn → W'.cell? ⟨bt, a, none⟩ = some (.slice (some ⟨rb a, 0, none⟩) (nn + 1) (nn + 1)) ∧ W'.cell? ⟨rb a, k, none⟩ = some (.bool (H a k))) := by
    intro W' a k hb ha hk
    have t0 := h.tab.hdr ha ha
    have t1 := h.tab.cell ha ha (show k < nn + 1 by omega)
    exact ⟨(hb.cell (lt_of_cell t0)).trans t0, (hb.cell (lt_of_cell t1)).trans t1⟩
  have HATR : Hid (∀ m, m ≤ n → Ln.atR H n (R.take R.length) m = canK H R m) := by
    intro m hm
    rw [atR_canK H n R R.length (Nat.le_refl _) m hm, List.take_length]
  have HWW := Lib.hid hW
  obtain ⟨ga0, HGA⟩ := nameIt W.heap.size
  have hbr0 := Ln.brow_new W (n + 1) HGA.out.symm
  obtain ⟨w5, HW5⟩ := nameIt (W.alloc (.cells (madeCells #[.bool false] (n + 1)) 4))
  rw [HW5.out] at hbr0
  have hb5 : Below W.heap.size W w5 := by rw [← HW5.out]; exact (Below.refl _ _).alloc (Nat.le_refl _) _
  have e0 := hbr0.cell (k := 0) (by omega)
  have f0 := hbr0.free 0
  have hn1 : (0 : Int) < (n : Int) + 1 := by omega
  have HBR : Hid (Ln.Brow ga0 (n + 1) (Ln.atR H n (R.take 0)) (w5.setCell ⟨ga0, 0, none⟩ (.bool true))) := hbr0.set (by omega) (fun k _ => by by_cases e : k = 0 <;> simp [Ln.atR, e])
  have HB6 : Hid (Below W.heap.size W (w5.setCell ⟨ga0, 0, none⟩ (.bool true))) := hb5.setCell (p := ⟨ga0, 0, none⟩) (by show W.heap.size ≤ ga0; rw [HGA.out]; exact Nat.le_refl _) _
  obtain ⟨w6, HW6⟩ := nameIt (w5.setCell ⟨ga0, 0, none⟩ (.bool true))
  rw [HW6.out] at HBR HB6
  have HGAL : Hid (W.heap.size ≤ ga0) := by show _ ≤ _ ; rw [← HGA.out]; exact Nat.le_refl _
  clear hb5 hbr0 hrd hR h hW hlb HP
  go_enter Try.func71, Try.ntmps71
  go_upto_region 2 with fail
  rw [HW5.out, HGA.out]
  go_upto_region 3 with fail
  rw [HW6.out]
  go_wp2_with fail
  clear e0 f0 HW5 HW6 HGA
  go_loopg [7, 21] R.length (fun gg v7 v21 wr => ∃ (q ga : Nat), q ≤ R.length ∧ R.length - q ≤ gg ∧ v21 = .int .i64 q ∧ v7 = .slice (some ⟨ga, 0, none⟩) (n + 1) (n + 1) ∧ Hid (W.heap.size ≤ ga) ∧ Hid (Ln.Brow ga (n + 1) (Ln.atR H n (R.take q)) wr) ∧ Hid (Below W.heap.size W wr))
  case atStart => exact ⟨0, ga0, by omega, by omega, rfl, rfl, HGAL, HBR, HB6⟩
  case round =>
    clear HBR HB6 HGAL
    obtain ⟨wq, rfl⟩ : ∃ wq : World, wq = wr := ⟨_, rfl⟩
    obtain ⟨q, ga, hq, hgq, rfl, rfl, HGL, HBR, HBQ⟩ := hrel
    have HBW := Lib.hid (HWW.out.trans (HBQ.out.mono HWW.out.size))
    by_cases hqR : q < R.length
    · have hqR' : (q : Int) < (R.length : Int) := by omega
      obtain ⟨b', off', hae', -, hbl', d0, d1⟩ := HKR.out.sym_at hqR
      have e0 := (HBW.out.cell (p := ⟨b', off' + q * 2, none⟩) (lt_of_cell d0)).trans d0
      have e1 := (HBW.out.cell (p := ⟨b', off' + q * 2 + 1, none⟩) (lt_of_cell d1)).trans d1
      have HTK : Hid (R.take (q + 1) = R.take q ++ [R[q]'hqR]) := List.take_succ_eq_append_getElem hqR
      have hsb := HOKS.out R[q] (List.getElem_mem hqR)
      obtain ⟨s, HSn⟩ := nameIt (R[q]'hqR)
      rw [HSn.out] at e0 e1 HTK hsb
      unfold okS at hsb
      obtain ⟨A, HA⟩ := nameIt (Ln.atR H n (R.take q))
      have HNX : Hid (Ln.atR H n (R.take (q + 1)) = Ln.nxt H n s A) := by show _ = _; rw [HTK.out, Ln.atR_snoc, HA.out]
      rw [HA.out] at HBR
      obtain ⟨stb, HST⟩ := nameIt s.term
      obtain ⟨sn, HSN⟩ := nameIt s.n
      rw [HST.out] at e0 hsb
      rw [HSN.out] at e1 hsb
      have HSB : Hid (∀ l, Ln.stB H s l = if stb then l == 1 else H sn.toNat l) := fun l => by unfold Ln.stB; rw [HST.out, HSN.out]
      obtain ⟨w7, HW7⟩ := nameIt (wq.alloc (.cells #[.bool stb, .int .i64 sn] 65))
      have hb7 : Below wq.heap.size wq w7 := by rw [← HW7.out]; exact (Below.refl _ _).alloc (Nat.le_refl _) _
      have X7 : w7.heap[wq.heap.size]? = some (.cells #[.bool stb, .int .i64 sn] 65 (0, 0)) := by rw [← HW7.out]; exact bx_new _ _ _ rfl
      have hs7 : w7.heap.size = wq.heap.size + 1 := by rw [← HW7.out]; simp
      obtain ⟨gx, HGX⟩ := nameIt w7.heap.size
      obtain ⟨w8, HW8⟩ := nameIt (w7.alloc (.cells (madeCells #[.bool false] (n + 1)) 4))
      have hb8 : Below w7.heap.size w7 w8 := by rw [← HW8.out]; exact (Below.refl _ _).alloc (Nat.le_refl _) _
      have hbr8 := Ln.brow_new w7 (n + 1) HGX.out.symm
      rw [HW8.out] at hbr8
      have hgxl : W.heap.size ≤ gx := by have h4 := HGX.out; have h5 := HBQ.out.size; omega
      have HRI0 : Hid (FI W wq.heap.size #[.bool stb, .int .i64 sn] ga A gx (Ln.midN H n s A 0 0) (n + 1) w8) := by
        have h2 := HBR.out.lt
        have h4 := HGX.out
        exact ⟨(HBQ.out.trans (hb7.mono HBQ.out.size)).trans (hb8.mono (by have h5 := HBQ.out.size; omega)), bx_keep X7 hb8, (HBR.out.keep hb7).keep hb8, hbr8.eq (fun k _ => (Ln.midN_start H n s A k).symm), hgxl, by omega, by omega⟩
      have HGXL := Lib.hid hgxl
      obtain ⟨sx, HSX⟩ := nameIt wq.heap.size
      rw [HSX.out] at HRI0
      have hbl8 : b' < wq.heap.size := Nat.lt_of_lt_of_le hbl' HBW.out.size
      subst hae'
      clear d0 d1 hb7 hb8 X7 hs7 hbr8 hgxl
      go_upto_region 6 with fail
      rw [HW7.out, HSX.out]
      go_upto_region 7 with fail
      rw [HW8.out, HGX.out]
      go_wp2_with fail
      clear e0 e1
      go_loopg [11, 12, 13, 30] (n + 1) (fun gg v11 v12 v13 v30 wr => ∃ i : Nat, i ≤ n + 1 ∧ n + 1 - i ≤ gg ∧ v30 = .int .i64 i ∧ Hid (FI W sx #[.bool stb, .int .i64 sn] ga A gx (Ln.midN H n s A i 0) (n + 1) wr))
      case atStart => exact ⟨0, by omega, by omega, rfl, HRI0⟩
      case round =>
        clear HRI0
        obtain ⟨i, hi, hgi, rfl, HRI⟩ := hrel
        by_cases hin : i < n + 1
        · have hin' : (i : Int) < (n : Int) + 1 := by omega
          have hi0 : (0 : Int) ≤ (i : Int) := by omega
          have a0 := HRI.out.arow.cell hin
          obtain ⟨ab, HAB⟩ := nameIt (A i)
          rw [HAB.out] at a0
          have HRJ := HRI
          go_wp2_with fail
          clear a0
          go_loopg [13] (n + 1) (fun gg v13 wr => ∃ l : Nat, i + l ≤ n + 1 ∧ n + 1 - l ≤ gg ∧ v13 = .int .i64 l ∧ Hid (FI W sx #[.bool stb, .int .i64 sn] ga A gx (Ln.midN H n s A i l) (n + 1) wr))
          case atStart => exact ⟨0, by omega, by omega, rfl, HRJ⟩
          case round =>
            clear HRJ HRI
            obtain ⟨l, hl, hgl, rfl, HRI⟩ := hrel
            obtain ⟨wl, rfl⟩ : ∃ ww : World, ww = wr := ⟨_, rfl⟩
            have hil : IntKind.i64.wrap ((i : Int) + (l : Int)) = (i : Int) + (l : Int) := IntWalk.i64_in _ (by omega)
            cases ab with
            | false =>
              have HRN : Hid (FI W sx #[.bool stb, .int .i64 sn] ga A gx (Ln.midN H n s A (i + 1) 0) (n + 1) wl) := HRI.out.eq (fun k _ => Ln.midN_row (.inl HAB.out) k)
              go_wp2_with fail
              go_roundg (n + 1 - (i + 1))
              case measure => omega
              case rel => exact ⟨i + 1, by omega, by omega, by go_num, HRN⟩
            | true =>
              by_cases hle : i + l ≤ n
              · have hle' : (i : Int) + (l : Int) ≤ (n : Int) := by omega
                have hle2 : decide ((i : Int) + (l : Int) ≤ (n : Int)) = true := by simpa using hle'
                obtain ⟨z0, z1⟩ := bx_cells2 HRI.out.sbox
                obtain ⟨sv, HSV⟩ := nameIt (Ln.stB H s l)
                have hsv : (if stb then l == 1 else H sn.toNat l) = sv := by rw [← HSV.out, HSB.out l]
                have hil0 : (0 : Int) ≤ (i : Int) + (l : Int) := by omega
                have hil1 : (i : Int) + (l : Int) < (n : Int) + 1 := by omega
                have u0 := HRI.out.nrow.cell (show i + l < n + 1 by omega)
                have u1 := HRI.out.nrow.free (i + l)
                have hto : ((i : Int) + (l : Int)).toNat = i + l := by omega
                obtain ⟨mv, HMV⟩ := nameIt (Ln.midN H n s A i l (i + l))
                rw [HMV.out] at u0
                have HRN : Hid (FI W sx #[.bool stb, .int .i64 sn] ga A gx (Ln.midN H n s A i (l + 1)) (n + 1) (wl.setCell ⟨gx, i + l, none⟩ (.bool (mv || sv))).drew) :=
                  FI.keep (HRI.out.set (by omega) (fun k _ => by
                    rw [Ln.midN_step HAB.out hle, HSV.out]
                    by_cases e : k = i + l
                    · subst e; rw [HMV.out]; cases sv <;> simp
                    · simp [e])) (Below.refl _ _).drew
                go_upto_region 13 with fail
                cases mv with
                | true =>
                  clear hsv hsb
                  refine wp_region_still_tail 37 (by kernel_rfl) (by kernel_rfl) ?_
                  simp only [List.take_succ_cons, List.take_zero, List.drop_succ_cons, List.drop_zero]
                  change wpStill _ _ (World.drew _) _ _ _
                  refine still_quiet _ _ ?_
                  repeat (go_big_quiet_step (fail))
                  refine wpQuiet_nil ?_
                  change wpList _ _ _ _ _ (World.drew _)
                  go_wp2_with fail
                  go_roundg (n + 1 - (l + 1))
                  case measure => omega
                  case rel => exact ⟨l + 1, by omega, by omega, by go_num, by simpa using HRN⟩
                | false =>
                  cases stb with
                  | true =>
                    have hl1 : ((l : Int) == 1) = sv := by
                      rw [← hsv, if_pos rfl, Bool.eq_iff_iff, beq_iff_eq, beq_iff_eq]
                      omega
                    cases sv with
                    | true =>
                      refine wp_region_still_tail 37 (by kernel_rfl) (by kernel_rfl) ?_
                      simp only [List.take_succ_cons, List.take_zero, List.drop_succ_cons, List.drop_zero]
                      change wpStill _ _ (World.drew _) _ _ _
                      refine still_quiet _ _ ?_
                      repeat (go_big_quiet_step (fail))
                      refine wpQuiet_nil ?_
                      change wpList _ _ _ _ _ (World.drew _)
                      go_wp2_with fail
                      go_roundg (n + 1 - (l + 1))
                      case measure => omega
                      case rel => exact ⟨l + 1, by omega, by omega, by go_num, by simpa using HRN⟩
                    | false =>
                      refine wp_region_still_tail 37 (by kernel_rfl) (by kernel_rfl) ?_
                      simp only [List.take_succ_cons, List.take_zero, List.drop_succ_cons, List.drop_zero]
                      change wpStill _ _ (World.drew _) _ _ _
                      refine still_quiet _ _ ?_
                      repeat (go_big_quiet_step (fail))
                      refine wpQuiet_nil ?_
                      change wpList _ _ _ _ _ (World.drew _)
                      go_wp2_with fail
                      go_roundg (n + 1 - (l + 1))
                      case measure => omega
                      case rel => exact ⟨l + 1, by omega, by omega, by go_num, by simpa using HRN⟩
                  | false =>
                    obtain ⟨sm, hsm⟩ : ∃ k : Nat, sn = (k : Int) := ⟨sn.toNat, by have := (hsb rfl).1; omega⟩
                    subst hsm
                    have hsN : sm < N := by simpa using (hsb rfl).2
                    have hsN' : (sm : Int) < (N : Int) := by omega
                    have hs0 : (0 : Int) ≤ (sm : Int) := by omega
                    have hl0' : (0 : Int) ≤ (l : Int) := by omega
                    have hl1' : (l : Int) < (nn : Int) + 1 := by omega
                    have hbl := HWW.out.trans (HRI.out.bel.mono HWW.out.size)
                    have t2 := HLB.out wl hbl
                    obtain ⟨t0, t1⟩ := HTB.out wl sm l hbl hsN (by omega)
                    have hsv2 : H sm l = sv := by rw [← hsv]; simp
                    rw [hsv2] at t1
                    obtain ⟨rs, HRS⟩ := nameIt (rb sm)
                    rw [HRS.out] at t0 t1
                    clear hsb hsv hsv2 hbl
                    cases sv with
                    | true =>
                      refine wp_region_still_tail 37 (by kernel_rfl) (by kernel_rfl) ?_
                      simp only [List.take_succ_cons, List.take_zero, List.drop_succ_cons, List.drop_zero]
                      change wpStill _ _ (World.drew _) _ _ _
                      refine still_quiet _ _ ?_
                      repeat (go_big_quiet_step (fail))
                      refine wpQuiet_nil ?_
                      change wpList _ _ _ _ _ (World.drew _)
                      go_wp2_with fail
                      go_roundg (n + 1 - (l + 1))
                      case measure => omega
                      case rel => exact ⟨l + 1, by omega, by omega, by go_num, by simpa using HRN⟩
                    | false =>
                      refine wp_region_still_tail 37 (by kernel_rfl) (by kernel_rfl) ?_
                      simp only [List.take_succ_cons, List.take_zero, List.drop_succ_cons, List.drop_zero]
                      change wpStill _ _ (World.drew _) _ _ _
                      refine still_quiet _ _ ?_
                      repeat (go_big_quiet_step (fail))
                      refine wpQuiet_nil ?_
                      change wpList _ _ _ _ _ (World.drew _)
                      go_wp2_with fail
                      go_roundg (n + 1 - (l + 1))
                      case measure => omega
                      case rel => exact ⟨l + 1, by omega, by omega, by go_num, by simpa using HRN⟩
              · have hle2 : decide ((i : Int) + (l : Int) ≤ (n : Int)) = false := by simp; omega
                have HRN : Hid (FI W sx #[.bool stb, .int .i64 sn] ga A gx (Ln.midN H n s A (i + 1) 0) (n + 1) wl) := HRI.out.eq (fun k _ => Ln.midN_row (.inr (by omega)) k)
                go_wp2_with fail
                go_roundg (n + 1 - (i + 1))
                case measure => omega
                case rel => exact ⟨i + 1, by omega, by omega, by go_num, HRN⟩
        · have hin' : ¬ (i : Int) < (n : Int) + 1 := by omega
          have HBN : Hid (Ln.Brow gx (n + 1) (Ln.atR H n (R.take (q + 1))) wr) := HRI.out.nrow.eq (fun k _ => by rw [HNX.out, Ln.midN_end (by omega)])
          have HBL := Lib.hid HRI.out.bel
          go_wp2_with fail
          go_roundg (R.length - (q + 1))
          case measure => omega
          case rel => exact ⟨q + 1, gx, by omega, by omega, by go_num, rfl, HGXL, HBN, HBL⟩
    · have hqR' : ¬ (q : Int) < (R.length : Int) := by omega
      obtain rfl : q = R.length := by omega
      have u0 := HBR.out.cell (k := n) (by omega)
      rw [HATR.out n (Nat.le_refl _)] at u0
      have HE := Lib.hid (HFIN.out _ wq rfl HBQ.out)
      obtain ⟨cb, HCB⟩ := nameIt (canK H R n)
      rw [HCB.out] at u0 HE
      have hn0 : (0 : Int) ≤ (n : Int) := by omega
      have hn2 : (n : Int) < (n : Int) + 1 := by omega
      go_wp2_with fail
      first | exact HE.out | (go_ret; exact HE.out)
end Cs
end Go.Proofs.Ytbnpemgmdnghgaa
namespace Go.Proofs.Ytbnpemgmdnghgaa
open Go.RowKit
namespace Cs

/-- a row that is being made in an inner loop; vo: the row when the loop began, in w3 -/
structure InG (e : TypeId) (size B : Nat) (w3 : World) (vo : Value) (ds : List D) (v : Value) (wr : World) : Prop where
  row : RowD (fun k => B ≤ k) B e size ds v wr
  gr : w3.grownBy wr vo.ownBlock
  at' : v.ownBlock = vo.ownBlock ∨ ∃ k, v.ownBlock = some k ∧ w3.heap.size ≤ k
section
variable {e : TypeId} {size B : Nat} {w1 w3 : World} {vo : Value} {ds : List D} {v v' : Value} {wr w' W0 W1 : World}
theorem InG.start (h : RowD (fun k => B ≤ k) B e size ds vo w3) : InG e size B w3 vo ds vo w3 := ⟨h, ⟨rfl, rfl, rfl, Nat.le_refl _, fun _ _ _ => rfl⟩, .inl rfl⟩
theorem InG.keep (h : InG e size B w3 vo ds v wr) (hb : Below wr.heap.size wr w') : InG e size B w3 vo ds v w' := ⟨h.row.keep hb, grown_trans h.gr (grown_below hb _), h.at'⟩
theorem InG.rd (h : InG e size B w3 vo ds v wr) {T : Nat → Prop} {d : D} {cs : List Value} (hd : Rd (fun k => T k ∧ vo.ownBlock ≠ some k) w3 d cs) : Rd (fun k => T k ∧ k < wr.heap.size ∧ v.ownBlock ≠ some k) wr d cs := by
  refine Rd.keep (fun k hk hlt => ⟨⟨hk.1, Nat.lt_of_lt_of_le hlt h.gr.size, fun e => ?_⟩, h.gr.block k hlt (fun e => hk.2 e.symm)⟩) _ _ hd
  rcases h.at' with h2 | ⟨j, h2, hj⟩
  · rw [h2] at e; exact hk.2 e
  · rw [h2] at e; cases e; omega
theorem InG.below (h : InG e size B w3 vo ds v wr) (hb : Below B w1 w3) (hB : B ≤ w3.heap.size) (hvo : ∀ k, vo.ownBlock = some k → B ≤ k) : Below B w1 wr := hb.grown h.gr hB hvo
theorem InG.step {xs news : List Value} {n : Nat} {T : Nat → Prop} {d : D} (h : InG e size B w3 vo ds v W0) (ho : W0.ownsRow B e size v n xs) (hd : RdAll (fun k => B ≤ k ∧ v.ownBlock ≠ some k) W0 ds xs) (hn : n = ds.length)
    (hr : Rd T W0 d news) (hT : ∀ k, T k → k < W0.heap.size → B ≤ k ∧ v.ownBlock ≠ some k)
    (ho' : W1.ownsRow B e size v' (n + 1) (xs ++ news)) (hg : W0.grownBy W1 v.ownBlock) (hat : v'.ownBlock = v.ownBlock ∨ ∃ k, v'.ownBlock = some k ∧ W0.heap.size ≤ k) : InG e size B w3 vo (ds ++ [d]) v' W1 := by
  refine ⟨RowD.step (es := [d]) ho hd hn (RdAll.one hr) hT h.row.le ho' hg hat, ?_, ?_⟩
  · refine ⟨hg.os.trans h.gr.os, hg.tape.trans h.gr.tape, hg.output.trans h.gr.output, Nat.le_trans h.gr.size hg.size, fun k hk hne => ?_⟩
    rw [hg.block k (Nat.lt_of_lt_of_le hk h.gr.size) ?_, h.gr.block k hk hne]
    intro e
    rcases h.at' with h2 | ⟨j, h2, hj⟩
    · exact hne (by rw [e, h2])
    · rw [h2] at e; cases e; omega
  · have := h.gr.size
    rcases hat with h2 | ⟨j, h2, hj⟩
    · rw [h2]; exact h.at'
    · exact .inr ⟨j, h2, by omega⟩
end
theorem rd_nilD (S : Nat → Prop) (w : World) : Rd S w (.sl []) [.slice none 0 0] := rd_of_own (World.ownsRow_nil w 0 42 3) (by simp [RdAll]) rfl (fun k e => by simp [Value.ownBlock] at e)
def rowsD (R : List (List Tree)) : List D := R.map fun ks => .sl (ks.map Tree.d)
def LsPost (spec : Option (List Tree)) (W : World) (e : Ending) (W' : World) : Prop :=
  ∃ (a : Option Addr) (n c : Nat), e = .returned (.tuple #[.slice a n c, .bool spec.isSome]) ∧ Below W.heap.size W W' ∧ ∀ L, spec = some L → Rd (fun b => W.heap.size ≤ b) W' (.sl (L.map Tree.d)) [.slice a n c]
def LrPost (spec : Option (List (List Tree))) (W : World) (e : Ending) (W' : World) : Prop :=
  ∃ (a : Option Addr) (n c : Nat), e = .returned (.tuple #[.slice a n c, .bool spec.isSome]) ∧ Below W.heap.size W W' ∧ ∀ L, spec = some L → Rd (fun b => W.heap.size ≤ b) W' (.sl (rowsD L)) [.slice a n c]
def TsP (g : Gram) (N n lb most : Nat) (H : Nat → Nat → Bool) (w1 : World) (d : Nat) : Prop :=
  ∀ (s : Sym), okS N s → ∀ k, k ≤ n → ∀ W, Below w1.heap.size w1 W → Calls Try.prog 46 #[.pointer (some ⟨lb, 0, none⟩), .agg #[.bool s.term, .int .i64 s.n], .int .i64 (k : Int), .int .i64 (d : Int)] W (LsPost (lsT H most g.rules d s k) W)
def RwP (g : Gram) (N n lb most : Nat) (H : Nat → Nat → Bool) (w1 : World) (d : Nat) : Prop :=
  ∀ (l : List Sym), (∀ s ∈ l, okS N s) → l.length ≤ 1000 → ∀ k, k ≤ n → ∀ (a : Option Addr) (cap : Nat), Rd AnyB w1 (.sl (l.map Sym.d)) [.slice a l.length cap] → ∀ W, Below w1.heap.size w1 W →
    Calls Try.prog 72 #[.pointer (some ⟨lb, 0, none⟩), .slice a l.length cap, .int .i64 (k : Int), .int .i64 (d : Int)] W (LrPost (lsL H most (lsT H most g.rules d) l k) W)
theorem rows_cells (R : List (List Tree)) : ∀ d ∈ rowsD R, d.cells = 1 := by
  intro d hd
  unfold rowsD at hd
  simp at hd
  obtain ⟨t, _, rfl⟩ := hd
  rfl
theorem rowsD_len (R : List (List Tree)) : (rowsD R).length = R.length := by simp [rowsD]
/-- a list of trees in a row of lists -/
theorem Rd.row_at {S : Nat → Prop} {w : World} {R : List (List Tree)} {a : Option Addr} {n cap i : Nat} (h : Rd S w (.sl (rowsD R)) [.slice a n cap]) (hi : i < R.length) :
    ∃ b off v, a = some ⟨b, off, none⟩ ∧ S b ∧ b < w.heap.size ∧ w.cell? ⟨b, off + i, none⟩ = some v ∧ Rd S w (.sl (R[i].map Tree.d)) [v] := by
  obtain ⟨b, off, cs, ha, hS, hlt, hr, hl, hc⟩ := h.at (rows_cells R) (by decide) (i := i) (by rw [rowsD_len]; exact hi)
  have e : (rowsD R)[i]'(by rw [rowsD_len]; exact hi) = .sl (R[i].map Tree.d) := by simp [rowsD]
  rw [e] at hr
  obtain ⟨a', cap', L, hcs, _⟩ := id hr
  subst hcs
  have h0 := hc 0 (by simp)
  rw [Nat.mul_one, Nat.add_zero] at h0
  exact ⟨b, off, _, ha, hS, hlt, h0, hr⟩
end Cs
end Go.Proofs.Ytbnpemgmdnghgaa
namespace Go.Proofs.Ytbnpemgmdnghgaa
open Go.RowKit
namespace Cs

/-- what the rounds over the rules keep -/
structure LTI (H : Nat → Nat → Bool) (most : Nat) (o : Sym → Nat → Option (List Tree)) (A : Int) (k : Nat) (rules : List Rule) (spec : Option (List Tree)) (w0 : World) (j : Nat) (out : List Tree) (v : Value) (W : World) : Prop where
  rest : lsR H most o A k (rules.drop j) j out = spec
  len : out.length ≤ most
  row : RowD (fun b => w0.heap.size ≤ b) w0.heap.size 42 3 (out.map Tree.d) v W
  bel : Below w0.heap.size w0 W
def lsNext (H : Nat → Nat → Bool) (most : Nat) (o : Sym → Nat → Option (List Tree)) (A : Int) (k : Nat) (rs : List Rule) (j : Nat) (out : List Tree) : Option (List (List Tree)) → Option (List Tree)
  | none => none
  | some b => if most < (out ++ b.map fun ks => Tree.node (j : Int) 0 ks).length then none else lsR H most o A k rs (j + 1) (out ++ b.map fun ks => Tree.node (j : Int) 0 ks)
theorem lsR_at {H : Nat → Nat → Bool} {most : Nat} {o : Sym → Nat → Option (List Tree)} {A : Int} {k : Nat} {rules : List Rule} {j : Nat} {out : List Tree} (hj : j < rules.length) :
    lsR H most o A k (rules.drop j) j out = if (decide (rules[j].left = A) && canK H rules[j].right k) = true then lsNext H most o A k (rules.drop (j + 1)) j out (lsL H most o rules[j].right k) else lsR H most o A k (rules.drop (j + 1)) (j + 1) out := by
  rw [List.drop_eq_getElem_cons hj, lsR]
  cases lsL H most o rules[j].right k <;> rfl
theorem take_node {b : List (List Tree)} {q : Nat} (hq : q < b.length) (out : List Tree) (j : Int) : (out ++ (b.take (q + 1)).map fun ks => Tree.node j 0 ks).map Tree.d = (out ++ (b.take q).map fun ks => Tree.node j 0 ks).map Tree.d ++ [(Tree.node j 0 b[q]).d] := by
  rw [List.take_succ_eq_append_getElem hq]; simp only [List.map_append, List.map_cons, List.map_nil, List.append_assoc]
theorem node_d (j : Int) (ks : List Tree) : (Tree.node j 0 ks).rule = j ∧ (Tree.node j 0 ks).term = 0 ∧ (Tree.node j 0 ks).kids = ks := ⟨rfl, rfl, rfl⟩

set_option maxHeartbeats 16000000 in
set_option maxRecDepth 100000 in
theorem treesL {g : Gram} {ra : Option Addr} {rcap N n : Nat} {lb most bt : Nat} {rb : Nat → Nat} {H : Nat → Nat → Bool} {w1 : World} (h : LE g ra rcap N n lb most bt rb H w1) (hn : n ≤ 400) (hm1 : 1 ≤ most) (hm2 : most ≤ 1000) (hok : ∀ r ∈ g.rules, ∀ s ∈ r.right, okS N s) (h4 : ∀ r ∈ g.rules, r.right.length ≤ 1000) (hsn : True)
    (d : Nat) (hd : d ≤ 1000) (hL : ∀ d0, d = d0 + 1 → RwP g N n lb most H w1 d0) : TsP g N n lb most H w1 d := by
  intro s hs k hk W hW
  obtain ⟨st, sn⟩ := s
  obtain ⟨PST, HP⟩ := nameIt (LsPost (lsT H most g.rules d ⟨st, sn⟩ k) W)
  rw [HP.out]
  obtain ⟨w0, HW0⟩ := nameIt (W.alloc (.cells #[.bool st, .int .i64 sn] 65))
  have hb0 : Below W.heap.size W w0 := by rw [← HW0.out]; exact (Below.refl _ _).alloc (Nat.le_refl _) _
  have HB0 := Lib.hid hb0
  have Y0 : Hid (w0.heap[W.heap.size]? = some (.cells #[.bool st, .int .i64 sn] 65 (0, 0))) := by rw [← HW0.out]; exact bx_new _ _ _ rfl
  have HB10 := Lib.hid (hW.trans (hb0.mono hW.size))
  have hsz0 : w0.heap.size = W.heap.size + 1 := by rw [← HW0.out]; simp
  have HSZ0 := Lib.hid hsz0
  obtain ⟨sb, HSB⟩ := nameIt W.heap.size
  rw [HSB.out] at Y0
  obtain ⟨y0, y1⟩ := bx_cells2 Y0.out
  cases st with
  | true =>
    have hsp : lsT H most g.rules d ⟨true, sn⟩ k = some (if k = 1 then [.node (-1) sn []] else []) := by cases d <;> simp [lsT]
    rw [hsp] at HP
    by_cases hk1 : k = 1
    · subst hk1
      rw [if_pos rfl] at HP
      obtain ⟨w2, HW2⟩ := nameIt (w0.alloc (.cells #[.int .i64 (-1), .int .i64 sn, .slice none 0 0] 42))
      have HE : Hid (PST (.returned (.tuple #[.slice (some ⟨w0.heap.size, 0, none⟩) 1 1, .bool true])) w2) := by
        show PST _ _
        rw [← HP.out]
        refine ⟨_, _, _, rfl, ?_, ?_⟩
        · rw [← HW2.out]; exact (hb0.alloc hb0.size _)
        · intro L hL'
          cases hL'
          have hx : w2.heap[w0.heap.size]? = some (.cells #[.int .i64 (-1), .int .i64 sn, .slice none 0 0] 42 (0, 0)) := by rw [← HW2.out]; exact bx_new _ _ _ rfl
          have hown : w2.ownsRow w0.heap.size 42 3 (.slice (some ⟨w0.heap.size, 0, none⟩) 1 1) 1 [.int .i64 (-1), .int .i64 sn, .slice none 0 0] := by
            refine ⟨by simp, .inr ⟨w0.heap.size, 1, #[.int .i64 (-1), .int .i64 sn, .slice none 0 0], rfl, Nat.le_refl _, hx, ?_⟩⟩
            simp [maxLen]
          exact rd_of_own hown (RdAll.one (rd_tree (t := .node (-1) sn []) (rd_nilD _ _))) rfl (fun b e => by simp [Value.ownBlock] at e; subst e; exact hb0.size)
      clear hb0 hL hs h4 hok h HP hsp hsz0
      go_enter Try.func46, Try.ntmps46
      go_upto_region 1 with fail
      rw [HW0.out, HSB.out]
      go_upto_region 3 with fail
      go_wp2_with fail
      simp only [HW2.out]
      first | exact HE.out | (refine bodyPost_ret (results_tmp2 Try.results46 _ _ _) rfl ?_; exact HE.out)
    · rw [if_neg hk1] at HP
      have hk1' : ((k : Int) == 1) = false := by simp; omega
      have HE : Hid (PST (.returned (.tuple #[.slice none 0 0, .bool true])) w0) := by
        show PST _ _
        rw [← HP.out]
        refine ⟨none, 0, 0, rfl, hb0, ?_⟩
        intro L hL'
        cases hL'
        exact rd_nilD _ _
      clear hb0 hL hs h4 hok h HP hsp hsz0
      go_enter Try.func46, Try.ntmps46
      go_upto_region 1 with fail
      rw [HW0.out, HSB.out]
      go_wp2_with fail
      first | exact HE.out | (refine bodyPost_ret (results_tmp2 Try.results46 _ _ _) rfl ?_; exact HE.out)
  | false =>
    have HNO : Hid (∀ w', lsT H most g.rules d ⟨false, sn⟩ k = none → Below w0.heap.size w0 w' → PST (.returned (.tuple #[.slice none 0 0, .bool false])) w') := by
      intro w' h1 h2
      rw [← HP.out, h1]
      exact ⟨none, 0, 0, rfl, hb0.trans (h2.mono hb0.size), fun L h => by cases h⟩
    cases d with
    | zero =>
      have HE := Lib.hid (HNO.out w0 (by unfold lsT; rfl) (Below.refl _ _))
      clear hb0 hL hs h4 hok h HP hsz0 HNO
      go_enter Try.func46, Try.ntmps46
      go_upto_region 1 with fail
      rw [HW0.out, HSB.out]
      go_wp2_with fail
      first | exact HE.out | (refine bodyPost_ret (results_tmp2 Try.results46 _ _ _) rfl ?_; exact HE.out)
    | succ d =>
      replace hL := hL d rfl
      have hsp : lsT H most g.rules (d + 1) ⟨false, sn⟩ k = lsR H most (lsT H most g.rules d) sn k g.rules 0 [] := by rw [lsT]; rfl
      rw [hsp] at HP HNO
      obtain ⟨o, HO⟩ := nameIt (lsT H most g.rules d)
      obtain ⟨spec, HSP⟩ := nameIt (lsR H most (lsT H most g.rules d) sn k g.rules 0 [])
      rw [HSP.out] at HP HNO
      rw [HO.out] at HSP
      have HI0 : Hid (LTI H most o sn k g.rules spec w0 0 [] (.slice none 0 0) w0) := ⟨HSP.out, by simp, RowD.nil _ _ _ _ _ (Nat.le_refl _), Below.refl _ _⟩
      have HYES : Hid (∀ out v W', LTI H most o sn k g.rules spec w0 g.rules.length out v W' → ∃ a c, v = .slice a out.length c ∧ PST (.returned (.tuple #[v, .bool true])) W') := by
        intro out v W' hi
        have h1 := hi.rest
        rw [List.drop_length, lsR] at h1
        have h2 := hi.row.rd
        obtain ⟨a, c, hv, -⟩ := hi.row.form
        rw [List.length_map] at hv
        refine ⟨a, c, hv, ?_⟩
        rw [← HP.out, ← h1, hv]
        refine ⟨a, _, c, rfl, hb0.trans (hi.bel.mono hb0.size), fun L hL' => ?_⟩
        cases hL'
        rw [← hv]
        exact h2.mono fun b hb _ => by have := hb0.size; have : w0.heap.size ≤ b := hb.elim id id; omega
      have HFT : Hid (∀ j (hj : j < g.rules.length) av cv, Rd AnyB w1 (.sl (g.rules[j].right.map Sym.d)) [.slice av g.rules[j].right.length cv] → ∀ W', Below w1.heap.size w1 W' → Calls Try.prog 71 #[.pointer (some ⟨lb, 0, none⟩), .slice av g.rules[j].right.length cv, .int .i64 (k : Int)] W' fun e w' => e = .returned (.bool (canK H g.rules[j].right k)) ∧ Below W'.heap.size W' w') :=
        fun j hj av cv hrd W' hb => fitsE h hn _ (hok _ (List.getElem_mem hj)) k hk av cv hrd W' hb
      have HRW : Hid (∀ j (hj : j < g.rules.length) av cv, Rd AnyB w1 (.sl (g.rules[j].right.map Sym.d)) [.slice av g.rules[j].right.length cv] → ∀ W', Below w1.heap.size w1 W' → Calls Try.prog 72 #[.pointer (some ⟨lb, 0, none⟩), .slice av g.rules[j].right.length cv, .int .i64 (k : Int), .int .i64 (d : Int)] W' (LrPost (lsL H most o g.rules[j].right k) W')) := by
        intro j hj av cv hrd W' hb
        rw [← HO.out]
        exact hL _ (hok _ (List.getElem_mem hj)) (h4 _ (List.getElem_mem hj)) k hk av cv hrd W' hb
      have HLL : Hid (∀ j (hj : j < g.rules.length) b, lsL H most o g.rules[j].right k = some b → b.length ≤ most) := fun j hj b hb => lsL_len hm1 _ _ _ hb
      have HAT : Hid (∀ j (hj : j < g.rules.length) out, lsR H most o sn k (g.rules.drop j) j out = if (decide (g.rules[j].left = sn) && canK H g.rules[j].right k) = true then
      lsNext H most o sn k (g.rules.drop (j + 1)) j out (lsL H most o g.rules[j].right k)
    else lsR H most o sn k (g.rules.drop (j + 1)) (j + 1) out) := fun j hj out => lsR_at hj
      have hlb := (Array.getElem?_eq_some_iff.1 h.box).1
      have HLB : Hid (∀ W', Below w0.heap.size w0 W' → W'.cell? ⟨lb, 0 + 3, none⟩ = some (.slice ra g.rules.length rcap) ∧ W'.cell? ⟨lb, 0 + 5, none⟩ = some (.int .i64 (most : Int))) := by
        intro W' hb
        have hb1 := HB10.out.trans (hb.mono HB10.out.size)
        obtain ⟨_, _, _, x3, _, x5⟩ := bx_cells6c ((hb1.block lb hlb).trans h.box)
        exact ⟨x3, x5⟩
      have HYB : Hid (∀ W', Below w0.heap.size w0 W' → W'.cell? ⟨sb, 0, none⟩ = some (.bool false) ∧ W'.cell? ⟨sb, 0 + 1, none⟩ = some (.int .i64 sn)) := fun W' hb => bx_cells2 (bx_keep Y0.out hb)
      have HRD := Lib.hid h.rules
      have hrc : rcap ≤ maxLen ∧ g.rules.length ≤ rcap := by obtain ⟨a', cap', L, e, h1, h2, _⟩ := h.rules; simp at e h1; omega
      unfold maxLen at hrc
      obtain ⟨rl, HRL⟩ := nameIt g.rules.length
      have HRLE := HRL.out
      rw [HRL.out] at HYES hrc
      simp only [HRLE] at HLB HRD HFT HRW HLL HAT
      have hdw : IntKind.i64.wrap (((d + 1 : Nat) : Int) - 1) = (d : Int) := by rw [IntWalk.i64_in _ (by omega)]; omega
      have hdw' : IntKind.i64.wrap ((d : Int) + 1 - 1) = (d : Int) := by rw [IntWalk.i64_in _ (by omega)]; omega
      have hdn : (((d + 1 : Nat) : Int) == 0) = false := by simp; omega
      have hdn' : ((d : Int) + 1 == 0) = false := by simp; omega
      obtain ⟨x3, x5⟩ := HLB.out w0 (Below.refl _ _)
      clear hb0 hL hs h4 hok h HP hsp hsz0 hlb HSP
      go_enter Try.func46, Try.ntmps46
      go_upto_region 1 with fail
      rw [HW0.out, HSB.out]
      go_wp2_with fail
      clear y0 y1 x3 x5
      go_loopg [10, 11, 13, 14, 16, 33] rl (fun gg v10 v11 v13 v14 v16 v33 wr => ∃ (j : Nat) (out : List Tree) (vo : Value), j ≤ rl ∧ rl - j ≤ gg ∧ vo = v10 ∧ v33 = .int .i64 (j : Int) ∧ Hid (LTI H most o sn k g.rules spec w0 j out vo wr))
      case atStart => exact ⟨0, [], _, by omega, by omega, rfl, rfl, HI0⟩
      case round =>
        clear HI0
        obtain ⟨j, out, vo, hj, hgg, rfl, rfl, HI⟩ := hrel
        obtain ⟨w5, rfl⟩ : ∃ ww : World, ww = wr := ⟨_, rfl⟩
        obtain ⟨ao, co, hvo, hco1, hco2, hown⟩ := HI.out.row.form
        have holen := HI.out.len
        rw [List.length_map] at hvo hco1
        unfold maxLen at hco2
        subst hvo
        have HOWN := Lib.hid hown
        obtain ⟨no, HNO2⟩ := nameIt out.length
        rw [HNO2.out] at HI HOWN hco1 holen
        rw [HNO2.out]
        clear hown
        by_cases hjr : j < rl
        · have hjr' : (j : Int) < (rl : Int) := by omega
          have hj0 : (0 : Int) ≤ (j : Int) := by omega
          have hjx : j < g.rules.length := by rw [HRLE]; omega
          have HB5 := Lib.hid (HB10.out.trans (HI.out.bel.mono HB10.out.size))
          obtain ⟨rbk, ro, rv, rfl, -, hrb, s0, s1, hrr⟩ := HRD.out.rule_at hjx
          obtain ⟨ak, kc, rfl, hkc1, hkc2⟩ := hrr.form
          rw [List.length_map] at s1 hrr hkc1
          unfold maxLen at hkc2
          have t0 := (HB5.out.cell (lt_of_cell s0)).trans s0
          have t1 := (HB5.out.cell (lt_of_cell s1)).trans s1
          have hft := fun W' hb => HFT.out j hjr ak kc hrr W' hb
          have hrw := fun W' hb => HRW.out j hjr ak kc hrr W' hb
          have hll := HLL.out j hjr
          have hat := HAT.out j hjr out
          obtain ⟨kn, HKN⟩ := nameIt (g.rules[j]'hjx).right.length
          obtain ⟨kl, HKL⟩ := nameIt (g.rules[j]'hjx).left
          obtain ⟨cb, HCB⟩ := nameIt (canK H (g.rules[j]'hjx).right k)
          obtain ⟨bs, HBS⟩ := nameIt (lsL H most o (g.rules[j]'hjx).right k)
          rw [HKN.out] at t1 hkc1
          rw [HKL.out] at t0 hat
          simp only [HKN.out, HCB.out] at hft
          simp only [HKN.out, HBS.out] at hrw
          rw [HBS.out] at hll
          rw [HCB.out, HBS.out, HI.out.rest] at hat
          have HFTJ := Lib.hid hft
          have HRWJ := Lib.hid hrw
          have HLLJ := Lib.hid hll
          have HATJ := Lib.hid hat
          obtain ⟨w6, HW6⟩ := nameIt (w5.alloc (.cells #[.int .i64 kl, .slice ak kn kc] 48))
          have HB56 : Hid (Below w5.heap.size w5 w6) := by rw [← HW6.out]; exact (Below.refl _ _).alloc (Nat.le_refl _) _
          have HB06 := Lib.hid (HI.out.bel.trans (HB56.out.mono HI.out.bel.size))
          have HB16 := Lib.hid (HB10.out.trans (HB06.out.mono HB10.out.size))
          have Z6 : Hid (w6.heap[w5.heap.size]? = some (.cells #[.int .i64 kl, .slice ak kn kc] 48 (0, 0))) := by rw [← HW6.out]; exact bx_new _ _ _ rfl
          have HRW6 := Lib.hid (HI.out.row.keep HB56.out)
          obtain ⟨rbx, HRBX2⟩ := nameIt w5.heap.size
          rw [HRBX2.out] at Z6
          clear hrr s0 s1 hft hrw hll hat
          go_upto_region 11 with fail
          rw [HW6.out, HRBX2.out]
          clear t0 t1
          obtain ⟨y0, y1⟩ := HYB.out w6 HB06.out
          obtain ⟨z0, z1⟩ := bx_cells2 Z6.out
          by_cases hkl : kl = sn
          · subst hkl
            go_wp2_with fail
            refine (HFTJ.out w6 HB16.out).mono ?_
            rintro e w7 ⟨rfl, hb7⟩
            have HB67 := Lib.hid hb7
            have HB07 := Lib.hid (HB06.out.trans (hb7.mono HB06.out.size))
            have HB17 := Lib.hid (HB16.out.trans (hb7.mono HB16.out.size))
            have HRW7 := Lib.hid (HRW6.out.keep hb7)
            have Z7 := Lib.hid (bx_keep Z6.out hb7)
            clear hb7 y0 y1 z0 z1
            cases cb with
            | false =>
              have HI2 : Hid (LTI H most o kl k g.rules spec w0 (j + 1) out (.slice ao no co) w7) := ⟨by have := HATJ.out; simp at this; exact this.symm, by rw [HNO2.out]; exact holen, HRW7.out, HB07.out⟩
              go_wp2_with fail
              go_roundg (rl - (j + 1))
              case measure => omega
              case rel => exact ⟨j + 1, out, _, by omega, by omega, rfl, by go_num, HI2⟩
            | true =>
              have HAT2 : Hid (spec = lsNext H most o kl k (g.rules.drop (j + 1)) j out bs) := by show _ = _; have := HATJ.out; simpa using this
              obtain ⟨z0, z1⟩ := bx_cells2 Z7.out
              clear HATJ
              go_wp2_with fail
              refine (HRWJ.out w7 HB17.out).mono ?_
              rintro e w8 ⟨ab, nb, cbb, rfl, hb8, hrd8⟩
              have HB08 := Lib.hid (HB07.out.trans (hb8.mono HB07.out.size))
              have HRW8 := Lib.hid (HRW7.out.keep hb8)
              cases bs with
              | none =>
                have HE := Lib.hid (HNO.out w8 HAT2.out HB08.out)
                clear hb8 hrd8 z0 z1
                go_wp2_with fail
                first | exact HE.out | (refine bodyPost_ret (results_tmp2 Try.results46 _ _ _) rfl ?_; exact HE.out)
              | some b =>
                have hr8 := hrd8 b rfl
                have hbl := HLLJ.out b rfl
                have hbb := hr8.bounds
                rw [rowsD_len] at hbb
                obtain ⟨rfl, hcb1, hcb2⟩ := hbb
                unfold maxLen at hcb2
                have h78 := hb8.size
                have HVO : Hid (∀ b', (Value.slice ao no co).ownBlock = some b' → w0.heap.size ≤ b' ∧ b' < w7.heap.size) := fun b' e => ⟨(HOWN.out b' e).1, Nat.lt_of_lt_of_le (HOWN.out b' e).2 (Nat.le_trans HB56.out.size HB67.out.size)⟩
                have HR8 : Hid (Rd (fun q => w0.heap.size ≤ q ∧ (Value.slice ao no co).ownBlock ≠ some q) w8 (.sl (rowsD b)) [.slice ab b.length cbb]) := hr8.mono fun q hq _ => ⟨by have h9 : w7.heap.size ≤ q := hq; have := HB07.out.size; omega, fun e => by have := (HVO.out q e).2; have h9 : w7.heap.size ≤ q := hq; omega⟩
                have HG0 : Hid (InG 42 3 w0.heap.size w8 (.slice ao no co) ((out ++ (b.take 0).map fun ks => Tree.node (j : Int) 0 ks).map Tree.d) (.slice ao no co) w8) := by
                  rw [List.take_zero, List.map_nil, List.append_nil]; exact InG.start HRW8.out
                obtain ⟨bl, HBL⟩ := nameIt b.length
                rw [HBL.out] at HR8 hcb1 hbl
                rw [HBL.out]
                clear hr8 hrd8 hb8 z0 z1
                go_wp2_with fail
                go_loopg [10, 16, 65] bl (fun gg v10 v16 v65 wr => ∃ (q : Nat) (vq : Value), q ≤ bl ∧ bl - q ≤ gg ∧ vq = v10 ∧ v65 = .int .i64 (q : Int) ∧ Hid (InG 42 3 w0.heap.size w8 (.slice ao no co) ((out ++ (b.take q).map fun ks => Tree.node (j : Int) 0 ks).map Tree.d) vq wr))
                case atStart => exact ⟨0, _, by omega, by omega, rfl, rfl, HG0⟩
                case round =>
                  clear HG0
                  obtain ⟨q, vq, hq, hgq, rfl, rfl, HG⟩ := hrel
                  obtain ⟨w9, rfl⟩ : ∃ ww : World, ww = wr := ⟨_, rfl⟩
                  obtain ⟨aq, cq, hvq, hcq1, hcq2, hownq⟩ := HG.out.row.form
                  rw [List.length_map, List.length_append, List.length_map, List.length_take, HNO2.out, HBL.out] at hvq hcq1
                  unfold maxLen at hcq2
                  subst hvq
                  have HB09 : Hid (Below w0.heap.size w0 w9) := HG.out.below HB08.out HB08.out.size (fun b' e => (HVO.out b' e).1)
                  obtain ⟨nq, HNQ⟩ := nameIt (no + min q bl)
                  rw [HNQ.out] at HG hcq1
                  rw [HNQ.out]
                  have HNQ2 : Hid (nq = no + q) := by show _ = _; have := HNQ.out; omega
                  have hnqb : nq ≤ 3000 := by have := HNQ2.out; omega
                  by_cases hqb : q < bl
                  · have hqb' : (q : Int) < (bl : Int) := by omega
                    have hq0 : (0 : Int) ≤ (q : Int) := by omega
                    have hqx : q < b.length := by rw [HBL.out]; exact hqb
                    have hr9 := HG.out.rd HR8.out
                    obtain ⟨bb, off, vk, rfl, -, -, c0, hrk⟩ := Rd.row_at hr9 hqx
                    obtain ⟨ak2, ck2, rfl, -, -⟩ := hrk.form
                    rw [List.length_map] at c0 hrk
                    have HTK := Lib.hid (take_node hqx out (j : Int))
                    have HRK := Lib.hid hrk
                    obtain ⟨bq, HBQ⟩ := nameIt (b[q]'hqx)
                    rw [HBQ.out] at c0 HRK HTK
                    obtain ⟨lq, HLQ⟩ := nameIt bq.length
                    rw [HLQ.out] at c0 HRK
                    obtain ⟨xs, ho, hd'⟩ := HG.out.row.own
                    rw [List.length_map, List.length_append, List.length_map, List.length_take, HNO2.out, HBL.out, HNQ.out] at ho
                    have HOQ := Lib.hid ho
                    have HDQ := Lib.hid hd'
                    have hle9 := HG.out.row.le
                    clear hr9 hrk ho hd' hownq
                    go_upto_region 18 with fail
                    go_wp2_with (at_builtin; refine wp_app1at elTree rfl _ _ rfl HOQ.out rfl rfl (by simp) rfl rfl (by omega) (by unfold maxLen; omega) (by omega) ?_)
                    intro v' w10 ho10 hg10 hat10
                    have HG2 : Hid (InG 42 3 w0.heap.size w8 (.slice ao no co) ((out ++ (b.take (q + 1)).map fun ks => Tree.node (j : Int) 0 ks).map Tree.d) v' w10) := by
                      show InG _ _ _ _ _ _ _ _
                      rw [HTK.out]
                      exact HG.out.step HOQ.out HDQ.out (by rw [List.length_map, List.length_append, List.length_map, List.length_take, HNO2.out, HBL.out]; exact HNQ.out.symm) (rd_tree (t := Tree.node (j : Int) 0 bq) HRK.out) (fun q' hq' _ => ⟨hq'.1, hq'.2.2⟩) ho10 hg10 hat10
                    obtain ⟨a10, c10, rfl, -, -⟩ := own_len ho10
                    clear ho10 hg10 hat10 c0
                    go_wp2_with fail
                    go_roundg (bl - (q + 1))
                    case measure => omega
                    case rel => exact ⟨q + 1, _, by omega, by omega, rfl, by go_num, HG2⟩
                  · obtain rfl : q = bl := by omega
                    have htk : b.take q = b := List.take_of_length_le (by rw [HBL.out]; exact Nat.le_refl _)
                    have hg := HG.out
                    rw [htk] at hg
                    have HGG := Lib.hid hg
                    have HAT3 : spec = (if most < (out ++ b.map fun ks => Tree.node (j : Int) 0 ks).length then none else lsR H most o kl k (g.rules.drop (j + 1)) (j + 1) (out ++ b.map fun ks => Tree.node (j : Int) 0 ks)) := HAT2.out
                    have hln : (out ++ b.map fun ks => Tree.node (j : Int) 0 ks).length = nq := by rw [List.length_append, List.length_map, HNO2.out, HBL.out]; have := HNQ2.out; omega
                    rw [hln] at HAT3
                    have HLN := Lib.hid hln
                    have HAT4 := Lib.hid HAT3
                    obtain ⟨x3, x5⟩ := HLB.out w9 HB09.out
                    clear hg HAT3 hln hownq htk HG
                    by_cases hmn : most < nq
                    · have hmn' : decide ((most : Int) < (nq : Int)) = true := by simp; omega
                      have HE := Lib.hid (HNO.out w9 (by have := HAT4.out; rw [if_pos hmn] at this; exact this) HB09.out)
                      go_wp2_with fail
                      first | exact HE.out | (refine bodyPost_ret (results_tmp2 Try.results46 _ _ _) rfl ?_; exact HE.out)
                    · have hmn' : decide ((most : Int) < (nq : Int)) = false := by simp; omega
                      have HI2 : Hid (LTI H most o kl k g.rules spec w0 (j + 1) (out ++ b.map fun ks => Tree.node (j : Int) 0 ks) (.slice aq nq cq) w9) :=
                        ⟨by have := HAT4.out; rw [if_neg hmn] at this; exact this.symm, by rw [HLN.out]; omega, HGG.out.row, HB09.out⟩
                      go_wp2_with fail
                      go_roundg (rl - (j + 1))
                      case measure => omega
                      case rel => exact ⟨j + 1, _, _, by omega, by omega, rfl, by go_num, HI2⟩
          · have hkl' : (kl != sn) = true := by simpa using hkl
            have HI2 : Hid (LTI H most o sn k g.rules spec w0 (j + 1) out (.slice ao no co) w6) := ⟨by have := HATJ.out; simp only [hkl, decide_false, Bool.false_and, Bool.false_eq_true, if_false] at this; exact this.symm, by rw [HNO2.out]; exact holen, HRW6.out, HB06.out⟩
            go_wp2_with fail
            go_roundg (rl - (j + 1))
            case measure => omega
            case rel => exact ⟨j + 1, out, _, by omega, by omega, rfl, by go_num, HI2⟩
        · obtain rfl : j = rl := by omega
          obtain ⟨_, _, -, hpst⟩ := HYES.out out _ w5 HI.out
          have HE := Lib.hid hpst
          clear hpst
          go_wp2_with fail
          first | exact HE.out | (refine bodyPost_ret (results_tmp2 Try.results46 _ _ _) rfl ?_; exact HE.out)
end Cs
end Go.Proofs.Ytbnpemgmdnghgaa
