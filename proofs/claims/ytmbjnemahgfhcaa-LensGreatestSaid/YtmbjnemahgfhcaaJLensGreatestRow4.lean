/- The walk of lengthsOf's inner function. lengthsOf: what a round adds, in plain Lean. The contract of Groups' inner function: what is derived from a nonterminal. The contract of approx.derives. lens.Set: what its rounds keep. The contract of grid, of truth values. lengthsOf: what its rounds keep. parlref5.lister.fits. parlref5.lister.trees. parlref5.lister.trees. A block that is known whole is a row. -/
import Derived.Test.YtmbjnemahgfhcaaJLensGreatestRow3
import Derived.Test.YtmbjnemahgfhcaaJLensGreatestRow1
import Derived.Test.YtmbjnemahgfhcaaJLensGreatestRow2
import Derived.Deep.DeepCutAuto
import Derived.StillTailTactics
import Derived.BigQuiet
namespace Go.Proofs.Ytmbjnemahgfhcaa
open Go.RowKit
namespace Ln

/-- in the midst of the two appends -/
structure RS (w2 w3 : World) (s : Nat) (S : Lit → Bool) (b : Nat) (X : Nat → Prop) (A Q L0 : List (Nat × Nat × Nat)) (g0 off0 : Nat) (va vq : Value) (W : World) : Prop where
  rr : RR (s + 4) X A Q L0 g0 off0 va vq W
  low : ∀ k, k < s + 4 → W.heap[k]? = w3.heap[k]?
  size : w3.heap.size ≤ W.heap.size
  bel : Below s w2 W
  set : ∃ c, SetM Try.prog 59 4 s c S W ∧ c ≤ b
  le : s + 4 ≤ w3.heap.size
  px : ∀ k, X k → W.heap[k]? = w3.heap[k]?
section
variable {w2 w3 : World} {s : Nat} {S : Lit → Bool} {b : Nat} {X : Nat → Prop} {A Q L0 : List (Nat × Nat × Nat)} {g0 off0 : Nat} {va vq : Value} {W W1 : World}
theorem RS.keep (h : RS w2 w3 s S b X A Q L0 g0 off0 va vq W) (hb : Below W.heap.size W W1) : RS w2 w3 s S b X A Q L0 g0 off0 va vq W1 := by
  obtain ⟨h1, h2, h3, h4, ⟨c, h5, h6⟩, h7, h8⟩ := h
  exact ⟨h1.keep hb, fun k hk => (hb.block k (by omega)).trans (h2 k hk), Nat.le_trans h3 hb.size, h4.trans (hb.mono (by omega)), ⟨c, h5.keep hb, h6⟩, h7, fun k hk => (hb.block k (h1.ax k hk).2.2.2).trans (h8 k hk)⟩
theorem RS.appA {x : Nat × Nat × Nat} {g off cap : Nat} (h : RS w2 w3 s S b X A Q L0 g0 off0 va vq W) (ho : ownsQ W1 (s + 4) 59 3 (.slice (some ⟨g, off, none⟩) (A.length + 1) cap) (A.length + 1) (its A ++ it3 x)) (hg : W.grownBy W1 va.ownBlock)
    (hat : (∃ cap0, va = .slice (some ⟨g, off, none⟩) A.length cap0) ∨ (g = W.heap.size ∧ W.grownBy W1 none)) : RS w2 w3 s S b X (A ++ [x]) Q L0 g0 off0 (.slice (some ⟨g, off, none⟩) (A.length + 1) cap) vq W1 := by
  obtain ⟨h1, h2, h3, h4, ⟨c, h5, h6⟩, h7, h8⟩ := h
  exact ⟨h1.appA ho hg hat, fun k hk => (hg.block k (by omega) (fun e => by have := (h1.all.lt k e.symm).1; omega)).trans (h2 k hk), Nat.le_trans h3 hg.size, h4.grown hg (by omega) (fun k e => by have := (h1.all.lt k e).1; omega), ⟨c, h5.kept hg (fun e => by have := (h1.all.lt s e.symm).1; omega), h6⟩, h7, fun k hk => (hg.block k (h1.ax k hk).2.2.2 (fun e => (h1.ax k hk).1 e.symm)).trans (h8 k hk)⟩
theorem RS.appQ {x : Nat × Nat × Nat} {g off cap : Nat} (h : RS w2 w3 s S b X A Q L0 g0 off0 va vq W) (ho : ownsQ W1 (s + 4) 59 3 (.slice (some ⟨g, off, none⟩) (Q.length + 1) cap) (Q.length + 1) (its Q ++ it3 x)) (hg : W.grownBy W1 vq.ownBlock)
    (hat : (∃ cap0, vq = .slice (some ⟨g, off, none⟩) Q.length cap0) ∨ (g = W.heap.size ∧ W.grownBy W1 none)) : RS w2 w3 s S b X A (Q ++ [x]) L0 g0 off0 va (.slice (some ⟨g, off, none⟩) (Q.length + 1) cap) W1 := by
  obtain ⟨h1, h2, h3, h4, ⟨c, h5, h6⟩, h7, h8⟩ := h
  exact ⟨h1.appQ ho hg hat, fun k hk => (hg.block k (by omega) (fun e => by have := (h1.row.lt k e.symm).1; omega)).trans (h2 k hk), Nat.le_trans h3 hg.size, h4.grown hg (by omega) (fun k e => by have := (h1.row.lt k e).1; omega), ⟨c, h5.kept hg (fun e => by have := (h1.row.lt s e.symm).1; omega), h6⟩, h7, fun k hk => (hg.block k (h1.ax k hk).2.2.2 (fun e => (h1.ax k hk).2.1 e.symm)).trans (h8 k hk)⟩
theorem RS.fin {nb n p : Nat} {L : List (Nat × Nat × Nat)} {x : Nat × Nat × Nat} {v0 v1 : Value} (h : RS w2 w3 s (inSet (L ++ [x])) (L.length + 1) X (L ++ [x]) (L.drop p ++ [x]) L0 g0 off0 va vq W)
    (h1 : w3.heap[nb]? = some (.cells #[.int .i64 n] 3 (0, 0))) (h2 : w3.heap[s + 1]? = some (.cells #[.map (some s)] 56 (0, 0)))
    (h4 : w3.heap[s + 2]? = some (.cells #[v0] 57 (0, 0))) (h5 : w3.heap[s + 3]? = some (.cells #[v1] 57 (0, 0)))
    (hs : ∀ y ∈ L, small3 y) (hx : small3 x) (hl : nb < s) (hp : p ≤ L.length) (hpx : ∀ k, X k → k < w2.heap.size ∧ w3.heap[k]? = w2.heap[k]?) :
    AI w2 nb s n X (L ++ [x]) p L0 g0 off0 ((W.setCell ⟨s + 2, 0, none⟩ va).setCell ⟨s + 3, 0, none⟩ vq) := by
  obtain ⟨k1, k2, k3, k4, ⟨c, k5, k6⟩, k7, k8⟩ := h
  replace h1 := (k2 nb (by omega)).trans h1
  replace h2 := (k2 (s + 1) (by omega)).trans h2
  replace h4 := (k2 (s + 2) (by omega)).trans h4
  replace h5 := (k2 (s + 3) (by omega)).trans h5
  have g1 : W.grownBy (W.setCell ⟨s + 2, 0, none⟩ va) (some (s + 2)) := grown_cell W ⟨s + 2, 0, none⟩ va
  have g2 : (W.setCell ⟨s + 2, 0, none⟩ va).grownBy ((W.setCell ⟨s + 2, 0, none⟩ va).setCell ⟨s + 3, 0, none⟩ vq) (some (s + 3)) := grown_cell _ ⟨s + 3, 0, none⟩ vq
  refine ⟨bx_other (bx_other h1 (by omega) _ _) (by omega) _ _, bx_other (bx_other h2 (by omega) _ _) (by omega) _ _, ⟨c, (k5.kept g1 (by simp)).kept g2 (by simp), by simpa using k6⟩, ?_, ?_, (k4.setCell (by show s ≤ s + 2; omega) _).setCell (by show s ≤ s + 3; omega) _, hl, by simp [World.setCell]; omega, by simp; omega, fun k hk => ⟨(hpx k hk).1, ?_⟩⟩
  · refine ⟨va, vq, bx_other (by simpa using bx_set h4 0 va) (by omega) _ _, by simpa using bx_set (bx_other h5 (by omega : s + 3 ≠ s + 2) 0 va) 0 vq, ?_⟩
    rw [List.drop_append_of_le_length hp]
    exact (k1.other g1 (fun k e => by cases e; omega)).other g2 (fun k e => by cases e; omega)
  · intro y hy
    rcases List.mem_append.1 hy with h | h
    · exact hs y h
    · simp at h; subst h; exact hx
  · have hB := (k1.ax k hk).2.2.1
    rw [Below.heap_setCell _ _ _ _ (by show k ≠ s + 3; omega), Below.heap_setCell _ _ _ _ (by show k ≠ s + 2; omega), k8 k hk]
    exact (hpx k hk).2
end
open Classical in
theorem addL_no {n : Nat} {L : List (Nat × Nat × Nat)} {x : Nat × Nat × Nat} (h : ¬ x.2.2 ≤ n ∨ x ∈ L) : addL n L x = L := by
  unfold addL
  rw [if_neg]
  rintro ⟨h1, h2⟩
  rcases h with h | h
  · exact h h1
  · exact h2 h
open Classical in
theorem addL_yes {n : Nat} {L : List (Nat × Nat × Nat)} {x : Nat × Nat × Nat} (h : x.2.2 ≤ n) (h2 : x ∉ L) : addL n L x = L ++ [x] := by
  unfold addL; rw [if_pos ⟨h, h2⟩]

set_option maxHeartbeats 4000000 in
set_option maxRecDepth 100000 in
open Classical in
theorem addE (w2 : World) (nb s n : Nat) (X : Nat → Prop) (L : List (Nat × Nat × Nat)) (p : Nat) (L0 : List (Nat × Nat × Nat)) (gs os : Nat) (i d l : Nat) (W : World) (h : AI w2 nb s n X L p L0 gs os W) (hx : small3 (i, d, l)) (hn : n ≤ 400) (hL : L.length ≤ 100000) :
    Calls Try.prog 22 #[.agg #[.int .i64 i, .int .i64 d, .int .i64 l], .pointer (some ⟨nb, 0, none⟩), .pointer (some ⟨s + 1, 0, none⟩), .pointer (some ⟨s + 2, 0, none⟩), .pointer (some ⟨s + 3, 0, none⟩)] W
      (fun e w' => e = .returned (.tuple #[]) ∧ AI w2 nb s n X (addL n L (i, d, l)) p L0 gs os w') := by
  obtain ⟨hx1, hx2, hx3⟩ := hx
  simp only at hx1 hx2 hx3
  have hxs : small3 (i, d, l) := ⟨hx1, hx2, hx3⟩
  obtain ⟨w1, HW1⟩ := nameIt (W.alloc (.cells #[.int .i64 i, .int .i64 d, .int .i64 l] 59))
  have hb1 : Below W.heap.size W w1 := by rw [← HW1.out]; exact (Below.refl _ _).alloc (Nat.le_refl _) _
  have X1 : Hid (w1.heap[W.heap.size]? = some (.cells #[.int .i64 i, .int .i64 d, .int .i64 l] 59 (0, 0))) := by rw [← HW1.out]; exact bx_new _ _ _ rfl
  have HA := Lib.hid (h.keep hb1)
  have hle := h.le
  have hlo := h.lo
  have hpl := h.pl
  have hs1 : W.heap.size < w1.heap.size := (Array.getElem?_eq_some_iff.1 X1.out).1
  obtain ⟨x0, x1, x2⟩ := bx_cells3 X1.out
  have n0 := bx_cells1 HA.out.nbox
  have m0 := bx_cells1 HA.out.sbox
  have HNO : Hid (¬ l ≤ n ∨ (i, d, l) ∈ L → AI w2 nb s n X (addL n L (i, d, l)) p L0 gs os w1) := fun hc => by rw [addL_no (x := (i, d, l)) hc]; exact HA.out
  obtain ⟨va, vq, r1W, r2W, r3W⟩ := h.rows
  have HVA : Hid (∀ k, va.ownBlock = some k → s + 4 ≤ k ∧ k < W.heap.size) := r3W.all.lt
  have HVQ : Hid (∀ k, vq.ownBlock = some k → s + 4 ≤ k ∧ k < W.heap.size) := r3W.row.lt
  have R1 := Lib.hid (bx_keep r1W hb1)
  have R2 := Lib.hid (bx_keep r2W hb1)
  have R3 := Lib.hid (r3W.keep hb1)
  clear h r1W r2W r3W
  go_enter Try.func22, Try.ntmps22
  go_upto_region 1 with fail
  rw [HW1.out]
  by_cases hln : l ≤ n
  · have hln' : decide ((l : Int) ≤ (n : Int)) = true := by simp; omega
    obtain ⟨c, hset, hc⟩ := HA.out.set
    have hkey := itemKey hx1 hx2 hx3
    have hlk := hset.look itemK Try.underlying56 Try.underlying4 (zeroB w1) hkey
    have hin := inSet_at HA.out.small hxs
    simp only at hin
    rw [hin] at hlk
    by_cases hmem : (i, d, l) ∈ L
    · have hdm : decide ((i, d, l) ∈ L) = true := by simpa using hmem
      rw [hdm] at hlk
      have HF := Lib.hid (HNO.out (.inr hmem))
      clear hmem hin hset hdm
      go_wp2_with fail
      exact bodyPost_end (results_none Try.results22 _ _ _) rfl ⟨rfl, HF.out⟩
    · have hdm : decide ((i, d, l) ∈ L) = false := by simpa using hmem
      rw [hdm] at hlk
      have HADD : Hid (addL n L (i, d, l) = L ++ [(i, d, l)]) := addL_yes (x := (i, d, l)) hln hmem
      obtain ⟨w3, hup, hset3, hgr3⟩ := hset.add itemK Try.underlying56 Try.underlying4 (by unfold maxLen; omega) hkey (S' := inSet (L ++ [(i, d, l)])) inSet_add (fun l' h => inSet_other h)
      have hle1 := HA.out.le
      have hblk : ∀ k, k < w1.heap.size → k ≠ s → w3.heap[k]? = w1.heap[k]? := fun k hk hne => hgr3.block k hk (fun e => hne (by simpa using e))
      have N3 := Lib.hid ((hblk nb (by omega) (by omega)).trans HA.out.nbox)
      have S3 := Lib.hid ((hblk (s + 1) (by omega) (by omega)).trans HA.out.sbox)
      have A3 := Lib.hid ((hblk (s + 2) (by omega) (by omega)).trans R1.out)
      have Q3 := Lib.hid ((hblk (s + 3) (by omega) (by omega)).trans R2.out)
      have X3 := Lib.hid ((hblk W.heap.size hs1 (by omega)).trans X1.out)
      have HPX : Hid (∀ k, X k → w3.heap[k]? = w1.heap[k]?) := fun k hk => hblk k (R3.out.ax k hk).2.2.2 (by have := (R3.out.ax k hk).2.2.1; omega)
      have hle3 : s + 4 ≤ w3.heap.size := Nat.le_trans hle1 hgr3.size
      have HRS := Lib.hid (show RS w2 w3 s (inSet (L ++ [(i, d, l)])) (L.length + 1) X L (L.drop p) L0 gs os va vq w3 from ⟨R3.out.other hgr3 (fun k e => by cases e; omega), fun _ _ => rfl, Nat.le_refl _, HA.out.bel.grown hgr3 (by have := HA.out.bel.size; omega) (fun k e => by cases e; exact Nat.le_refl _), ⟨c + 1, hset3, by omega⟩, hle3, fun _ _ => rfl⟩)
      have HFIN : Hid (∀ va' vq' W', RS w2 w3 s (inSet (L ++ [(i, d, l)])) (L.length + 1) X (L ++ [(i, d, l)]) (L.drop p ++ [(i, d, l)]) L0 gs os va' vq' W' → AI w2 nb s n X (addL n L (i, d, l)) p L0 gs os ((W'.setCell ⟨s + 2, 0, none⟩ va').setCell ⟨s + 3, 0, none⟩ vq')) := by
        intro va' vq' W' h
        rw [HADD.out]
        exact h.fin N3.out S3.out A3.out Q3.out HA.out.small hxs hlo hpl (fun k hk => ⟨(HA.out.px k hk).1, (HPX.out k hk).trans (HA.out.px k hk).2⟩)
      have hw3 : W.heap.size < w3.heap.size := Nat.lt_of_lt_of_le hs1 hgr3.size
      obtain ⟨aa, ca, hva, ha1, ha2⟩ := HRS.out.rr.all.form
      obtain ⟨aq, cq, hvq, hq1, hq2⟩ := HRS.out.rr.row.form
      subst hva hvq
      unfold maxLen at ha2 hq2
      have hql : (L.drop p).length ≤ 100000 := by rw [List.length_drop]; omega
      obtain ⟨Q, HQ⟩ := nameIt (L.drop p)
      rw [HQ.out] at HRS HFIN HVQ Q3 hql hq1
      clear hset hset3 hgr3 hblk hmem hin hdm
      go_upto_region 3 with fail
      clear x0 x1 x2 n0 m0 hlk hup
      obtain ⟨x0, x1, x2⟩ := bx_cells3 X3.out
      have hs33 : s + 3 < w3.heap.size := by omega
      have hs32 : s + 2 < w3.heap.size := by omega
      have c0 := bx_cells1 A3.out
      have c1 := bx_cells1 Q3.out
      have f0 := bx_free1 A3.out
      have f1 := bx_free1 Q3.out
      have hS3 : ∀ W', Below w3.heap.size w3 W' → (fun w' => w'.cell? ⟨s + 2, 0, none⟩ = some (.slice aa L.length ca) ∧ w'.cell? ⟨s + 3, 0, none⟩ = some (.slice aq Q.length cq) ∧ w'.cell? ⟨W.heap.size, 0, none⟩ = some (.int .i64 i) ∧ w'.cell? ⟨W.heap.size, 0 + 1, none⟩ = some (.int .i64 d) ∧ w'.cell? ⟨W.heap.size, 0 + 2, none⟩ = some (.int .i64 l)) W' := fun W' hb => ⟨(hb.cell (p := ⟨s + 2, 0, none⟩) hs32).trans c0, (hb.cell (p := ⟨s + 3, 0, none⟩) hs33).trans c1, (hb.cell (p := ⟨W.heap.size, 0, none⟩) hw3).trans x0, (hb.cell (p := ⟨W.heap.size, 0 + 1, none⟩) hw3).trans x1, (hb.cell (p := ⟨W.heap.size, 0 + 2, none⟩) hw3).trans x2⟩
      have HS3 := Lib.hid hS3
      clear hS3
      refine wp_region_U (S := (fun w' => w'.cell? ⟨s + 2, 0, none⟩ = some (.slice aa L.length ca) ∧ w'.cell? ⟨s + 3, 0, none⟩ = some (.slice aq Q.length cq) ∧ w'.cell? ⟨W.heap.size, 0, none⟩ = some (.int .i64 i) ∧ w'.cell? ⟨W.heap.size, 0 + 1, none⟩ = some (.int .i64 d) ∧ w'.cell? ⟨W.heap.size, 0 + 2, none⟩ = some (.int .i64 l))) 8 (by kernel_rfl) (fun inv => ?_)
      refine wpU_take (i := 0) (v := .slice aa L.length ca) rfl inv (by kernel_rfl) (by kernel_rfl) (by decide) (by decide) (by kernel_rfl) (by kernel_rfl) (by kernel_rfl) (fun _ _ _ h => h) (Or.inl ⟨by rfl, fun w' hw' => ?_⟩) (HS3.out _ (Below.refl _ _).drew) (fun inv => ?_)
      · obtain ⟨h1, h2, h3, h4, h5⟩ := hw'
        go_simp
      try simp only [Act.put, List.setIfInBounds_toArray, List.set_cons_zero, List.set_cons_succ]
      refine wpU_take (i := 1) (v := .agg #[.int .i64 i, .int .i64 d, .int .i64 l]) rfl inv (by kernel_rfl) (by kernel_rfl) (by decide) (by decide) (by kernel_rfl) (by kernel_rfl) (by kernel_rfl) (fun _ _ _ h => h) (Or.inl ⟨by rfl, fun w' hw' => ?_⟩) (HS3.out _ (Below.refl _ _).drew) (fun inv => ?_)
      · obtain ⟨h1, h2, h3, h4, h5⟩ := hw'
        go_simp
      try simp only [Act.put, List.setIfInBounds_toArray, List.set_cons_zero, List.set_cons_succ]
      refine wpU_take (i := 4) (v := .slice aq Q.length cq) rfl inv (by kernel_rfl) (by kernel_rfl) (by decide) (by decide) (by kernel_rfl) (by kernel_rfl) (by kernel_rfl) (fun _ _ _ h => h) (Or.inl ⟨by rfl, fun w' hw' => ?_⟩) (HS3.out _ (Below.refl _ _).drew) (fun inv => ?_)
      · obtain ⟨h1, h2, h3, h4, h5⟩ := hw'
        go_simp
      try simp only [Act.put, List.setIfInBounds_toArray, List.set_cons_zero, List.set_cons_succ]
      refine wpU_take (i := 5) (v := .agg #[.int .i64 i, .int .i64 d, .int .i64 l]) rfl inv (by kernel_rfl) (by kernel_rfl) (by decide) (by decide) (by kernel_rfl) (by kernel_rfl) (by kernel_rfl) (fun _ _ _ h => h) (Or.inl ⟨by rfl, fun w' hw' => ?_⟩) (HS3.out _ (Below.refl _ _).drew) (fun inv => ?_)
      · obtain ⟨h1, h2, h3, h4, h5⟩ := hw'
        go_simp
      try simp only [Act.put, List.setIfInBounds_toArray, List.set_cons_zero, List.set_cons_succ]
      refine wpU_two (i := 2) (j := 6) (by kernel_rfl) rfl rfl (fun K hK => ?_) (fun K hK => ?_)
      · go_simp
        refine hK.out _ _ (fun _ => HS3.out _ (by first | exact Below.refl _ _ | exact (Below.refl _ _).alloc (Nat.le_refl _) _ | exact ((Below.refl _ _).alloc (Nat.le_refl _) _).drew | exact ((Below.refl _ _).alloc (Nat.le_refl _) _).alloc (by simp) _ | exact (((Below.refl _ _).alloc (Nat.le_refl _) _).alloc (by simp) _).drew | exact (Below.refl _ _).drew)) ?_
        clear hK K
        try simp only [Act.put, List.setIfInBounds_toArray, List.set_cons_zero, List.set_cons_succ]
        refine wpU_two (i := 3) (j := 6) (by kernel_rfl) rfl rfl (fun K hK => ?_) (fun K hK => ?_)
        · refine step_appQ elItem (by rfl) _ _ (by rfl) (HRS.out.keep (by first | exact Below.refl _ _ | exact (Below.refl _ _).alloc (Nat.le_refl _) _ | exact ((Below.refl _ _).alloc (Nat.le_refl _) _).drew | exact ((Below.refl _ _).alloc (Nat.le_refl _) _).alloc (by simp) _ | exact (((Below.refl _ _).alloc (Nat.le_refl _) _).alloc (by simp) _).drew | exact (Below.refl _ _).drew)).rr.all (by rfl) (by rfl) (by first | exact bx_new _ _ _ rfl | exact bx_keep (w := w3.drew.alloc (.cells #[.int .i64 i, .int .i64 d, .int .i64 l] 59)) (bx_new _ _ _ rfl) ((Below.refl _ _).alloc (Nat.le_refl _) _) | exact bx_new _ _ _ (by simp)) (by rfl) (by rfl) (show (L.length + 1) * 24 ≤ 140737488355328 by omega) (show L.length + 1 ≤ maxLen by unfold maxLen; omega) (Nat.le_trans hle3 (Below.size (B := w3.heap.size) (by first | exact Below.refl _ _ | exact (Below.refl _ _).alloc (Nat.le_refl _) _ | exact ((Below.refl _ _).alloc (Nat.le_refl _) _).drew | exact ((Below.refl _ _).alloc (Nat.le_refl _) _).alloc (by simp) _ | exact (((Below.refl _ _).alloc (Nat.le_refl _) _).alloc (by simp) _).drew | exact (Below.refl _ _).drew))) ?_
          intro ga oa cga w4 ho4 hg4 hat4 hlt4
          have HRS4 := Lib.hid ((HRS.out.keep (by first | exact Below.refl _ _ | exact (Below.refl _ _).alloc (Nat.le_refl _) _ | exact ((Below.refl _ _).alloc (Nat.le_refl _) _).drew | exact ((Below.refl _ _).alloc (Nat.le_refl _) _).alloc (by simp) _ | exact (((Below.refl _ _).alloc (Nat.le_refl _) _).alloc (by simp) _).drew | exact (Below.refl _ _).drew)).appA (x := (i, d, l)) ho4 hg4 hat4)
          have HKO := Lib.hid hg4
          have hx4 := (hg4.block W.heap.size (Nat.lt_of_lt_of_le hw3 (Below.size (B := w3.heap.size) (by first | exact Below.refl _ _ | exact (Below.refl _ _).alloc (Nat.le_refl _) _ | exact ((Below.refl _ _).alloc (Nat.le_refl _) _).drew | exact ((Below.refl _ _).alloc (Nat.le_refl _) _).alloc (by simp) _ | exact (((Below.refl _ _).alloc (Nat.le_refl _) _).alloc (by simp) _).drew | exact (Below.refl _ _).drew))) (fun e => by have := (HVA.out W.heap.size e.symm).2; omega)).trans ((Below.block (B := w3.heap.size) (by first | exact Below.refl _ _ | exact (Below.refl _ _).alloc (Nat.le_refl _) _ | exact ((Below.refl _ _).alloc (Nat.le_refl _) _).drew | exact ((Below.refl _ _).alloc (Nat.le_refl _) _).alloc (by simp) _ | exact (((Below.refl _ _).alloc (Nat.le_refl _) _).alloc (by simp) _).drew | exact (Below.refl _ _).drew) W.heap.size hw3).trans X3.out)
          have hw34 : w3.heap.size ≤ w4.heap.size := HRS4.out.size
          have hS4 : ∀ W', Below w4.heap.size w4 W' → (fun w' => w'.cell? ⟨s + 2, 0, none⟩ = some (.slice aa L.length ca) ∧ w'.cell? ⟨s + 3, 0, none⟩ = some (.slice aq Q.length cq) ∧ w'.cell? ⟨W.heap.size, 0, none⟩ = some (.int .i64 i) ∧ w'.cell? ⟨W.heap.size, 0 + 1, none⟩ = some (.int .i64 d) ∧ w'.cell? ⟨W.heap.size, 0 + 2, none⟩ = some (.int .i64 l)) W' := fun W' hb => by
            obtain ⟨q0, q1, q2⟩ := bx_cells3 (bx_keep hx4 hb)
            exact ⟨(hb.cell (p := ⟨s + 2, 0, none⟩) (Nat.lt_of_lt_of_le hs32 hw34)).trans ((cell_of_block (HRS4.out.low (s + 2) (by omega))).trans c0), (hb.cell (p := ⟨s + 3, 0, none⟩) (Nat.lt_of_lt_of_le hs33 hw34)).trans ((cell_of_block (HRS4.out.low (s + 3) (by omega))).trans c1), q0, q1, q2⟩
          have HS4 := Lib.hid hS4
          clear ho4 hg4 hat4 hx4 hS4
          refine hK.out _ _ (fun _ => HS4.out _ (Below.refl _ _)) ?_
          clear hK K
          try simp only [Act.put, List.setIfInBounds_toArray, List.set_cons_zero, List.set_cons_succ]
          refine wpU_one (i := 6) (by kernel_rfl) rfl (fun K hK => ?_)
          go_simp
          refine hK.out _ _ (fun _ => HS4.out _ (by first | exact Below.refl _ _ | exact (Below.refl _ _).alloc (Nat.le_refl _) _ | exact ((Below.refl _ _).alloc (Nat.le_refl _) _).drew | exact ((Below.refl _ _).alloc (Nat.le_refl _) _).alloc (by simp) _ | exact (((Below.refl _ _).alloc (Nat.le_refl _) _).alloc (by simp) _).drew | exact (Below.refl _ _).drew)) ?_
          clear hK K
          try simp only [Act.put, List.setIfInBounds_toArray, List.set_cons_zero, List.set_cons_succ]
          refine wpU_one (i := 7) (by kernel_rfl) rfl (fun K hK => ?_)
          refine step_appQ elItem (by rfl) _ _ (by rfl) (HRS4.out.keep (by first | exact Below.refl _ _ | exact (Below.refl _ _).alloc (Nat.le_refl _) _ | exact ((Below.refl _ _).alloc (Nat.le_refl _) _).drew | exact ((Below.refl _ _).alloc (Nat.le_refl _) _).alloc (by simp) _ | exact (((Below.refl _ _).alloc (Nat.le_refl _) _).alloc (by simp) _).drew | exact (Below.refl _ _).drew)).rr.row (by rfl) (by rfl) (by first | exact bx_new _ _ _ rfl | exact bx_new _ _ _ (by simp) | (refine (HKO.out.block _ (by simp <;> omega) (fun e => by have := (HVA.out _ e.symm).2; omega)).trans ?_; first | exact bx_new _ _ _ rfl | exact bx_keep (w := w3.drew.alloc (.cells #[.int .i64 i, .int .i64 d, .int .i64 l] 59)) (bx_new _ _ _ rfl) ((Below.refl _ _).alloc (Nat.le_refl _) _) | exact bx_new _ _ _ (by simp))) (by rfl) (by rfl) (show (Q.length + 1) * 24 ≤ 140737488355328 by omega) (show Q.length + 1 ≤ maxLen by unfold maxLen; omega) (Nat.le_trans hle3 (Nat.le_trans hw34 (Below.size (B := w4.heap.size) (by first | exact Below.refl _ _ | exact (Below.refl _ _).alloc (Nat.le_refl _) _ | exact ((Below.refl _ _).alloc (Nat.le_refl _) _).drew | exact ((Below.refl _ _).alloc (Nat.le_refl _) _).alloc (by simp) _ | exact (((Below.refl _ _).alloc (Nat.le_refl _) _).alloc (by simp) _).drew | exact (Below.refl _ _).drew)))) ?_
          intro gq oq cgq w5 ho5 hg5 hat5 hlt5
          have HRS5 := Lib.hid ((HRS4.out.keep (by first | exact Below.refl _ _ | exact (Below.refl _ _).alloc (Nat.le_refl _) _ | exact ((Below.refl _ _).alloc (Nat.le_refl _) _).drew | exact ((Below.refl _ _).alloc (Nat.le_refl _) _).alloc (by simp) _ | exact (((Below.refl _ _).alloc (Nat.le_refl _) _).alloc (by simp) _).drew | exact (Below.refl _ _).drew)).appQ (x := (i, d, l)) ho5 hg5 hat5)
          have HK5 := Lib.hid hg5
          have A5 := (HRS5.out.low (s + 2) (by omega)).trans A3.out
          have Q5 := (HRS5.out.low (s + 3) (by omega)).trans Q3.out
          have hx5 := (hg5.block W.heap.size (Nat.lt_of_lt_of_le (Nat.lt_of_lt_of_le hw3 hw34) (Below.size (B := w4.heap.size) (by first | exact Below.refl _ _ | exact (Below.refl _ _).alloc (Nat.le_refl _) _ | exact ((Below.refl _ _).alloc (Nat.le_refl _) _).drew | exact ((Below.refl _ _).alloc (Nat.le_refl _) _).alloc (by simp) _ | exact (((Below.refl _ _).alloc (Nat.le_refl _) _).alloc (by simp) _).drew | exact (Below.refl _ _).drew))) (fun e => by have := (HVQ.out W.heap.size e.symm).2; omega))
          obtain ⟨w6, HW6⟩ := nameIt (w5.setCell ⟨s + 2, 0, none⟩ (.slice (some ⟨ga, oa, none⟩) (L.length + 1) cga))
          have Q6 : w6.heap[s + 3]? = some (.cells #[.slice aq Q.length cq] 57 (0, 0)) := by rw [← HW6.out]; exact bx_other Q5 (by omega) _ _
          have j0 := bx_cells1 A5
          have j1 := bx_cells1 Q6
          have j2 := bx_free1 A5
          have j3 := bx_free1 Q6
          have HX5 : Hid ((fun w' => w'.cell? ⟨s + 2, 0, none⟩ = some (.slice aa L.length ca) ∧ w'.cell? ⟨s + 3, 0, none⟩ = some (.slice aq Q.length cq) ∧ w'.cell? ⟨W.heap.size, 0, none⟩ = some (.int .i64 i) ∧ w'.cell? ⟨W.heap.size, 0 + 1, none⟩ = some (.int .i64 d) ∧ w'.cell? ⟨W.heap.size, 0 + 2, none⟩ = some (.int .i64 l)) w5) := by
            have h6 := HS4.out _ (by first | exact Below.refl _ _ | exact (Below.refl _ _).alloc (Nat.le_refl _) _ | exact ((Below.refl _ _).alloc (Nat.le_refl _) _).drew | exact ((Below.refl _ _).alloc (Nat.le_refl _) _).alloc (by simp) _ | exact (((Below.refl _ _).alloc (Nat.le_refl _) _).alloc (by simp) _).drew | exact (Below.refl _ _).drew)
            have e5 : ∀ o, w5.cell? ⟨W.heap.size, o, none⟩ = _ := fun o => cell_of_block (o := o) hx5
            exact ⟨bx_cells1 A5, bx_cells1 Q5, (e5 0).trans (HS4.out _ (by first | exact Below.refl _ _ | exact (Below.refl _ _).alloc (Nat.le_refl _) _ | exact ((Below.refl _ _).alloc (Nat.le_refl _) _).drew | exact ((Below.refl _ _).alloc (Nat.le_refl _) _).alloc (by simp) _ | exact (((Below.refl _ _).alloc (Nat.le_refl _) _).alloc (by simp) _).drew | exact (Below.refl _ _).drew)).2.2.1, (e5 (0 + 1)).trans (HS4.out _ (by first | exact Below.refl _ _ | exact (Below.refl _ _).alloc (Nat.le_refl _) _ | exact ((Below.refl _ _).alloc (Nat.le_refl _) _).drew | exact ((Below.refl _ _).alloc (Nat.le_refl _) _).alloc (by simp) _ | exact (((Below.refl _ _).alloc (Nat.le_refl _) _).alloc (by simp) _).drew | exact (Below.refl _ _).drew)).2.2.2.1, (e5 (0 + 2)).trans (HS4.out _ (by first | exact Below.refl _ _ | exact (Below.refl _ _).alloc (Nat.le_refl _) _ | exact ((Below.refl _ _).alloc (Nat.le_refl _) _).drew | exact ((Below.refl _ _).alloc (Nat.le_refl _) _).alloc (by simp) _ | exact (((Below.refl _ _).alloc (Nat.le_refl _) _).alloc (by simp) _).drew | exact (Below.refl _ _).drew)).2.2.2.2⟩
          clear ho5 hg5 hat5 A5 Q5 Q6 hx5
          refine hK.out _ _ (fun _ => HX5.out) ?_
          clear hK K
          try simp only [Act.put, List.setIfInBounds_toArray, List.set_cons_zero, List.set_cons_succ]
          refine wpU_one (i := 8) (by kernel_rfl) rfl (fun K hK => ?_)
          go_simp
          rw [HW6.out]
          refine hK.out _ _ (fun h => absurd (show true = false from h) (by decide)) ?_
          clear hK K
          try simp only [Act.put, List.setIfInBounds_toArray, List.set_cons_zero, List.set_cons_succ]
          refine wpU_one (i := 9) (by kernel_rfl) rfl (fun K hK => ?_)
          go_simp
          refine hK.out _ _ (fun h => absurd (show true = false from h) (by decide)) ?_
          clear hK K
          try simp only [Act.put, List.setIfInBounds_toArray, List.set_cons_zero, List.set_cons_succ]
          refine wpU_done (by kernel_rfl) ?_ _
          rw [← HW6.out]
          have HE := Lib.hid (HFIN.out _ _ _ HRS5.out)
          go_wp2_with fail
          exact bodyPost_end (results_none Try.results22 _ _ _) rfl ⟨rfl, HE.out⟩
        · go_simp
          refine hK.out _ _ (fun _ => HS3.out _ (by first | exact Below.refl _ _ | exact (Below.refl _ _).alloc (Nat.le_refl _) _ | exact ((Below.refl _ _).alloc (Nat.le_refl _) _).drew | exact ((Below.refl _ _).alloc (Nat.le_refl _) _).alloc (by simp) _ | exact (((Below.refl _ _).alloc (Nat.le_refl _) _).alloc (by simp) _).drew | exact (Below.refl _ _).drew)) ?_
          clear hK K
          try simp only [Act.put, List.setIfInBounds_toArray, List.set_cons_zero, List.set_cons_succ]
          refine wpU_one (i := 3) (by kernel_rfl) rfl (fun K hK => ?_)
          refine step_appQ elItem (by rfl) _ _ (by rfl) (HRS.out.keep (by first | exact Below.refl _ _ | exact (Below.refl _ _).alloc (Nat.le_refl _) _ | exact ((Below.refl _ _).alloc (Nat.le_refl _) _).drew | exact ((Below.refl _ _).alloc (Nat.le_refl _) _).alloc (by simp) _ | exact (((Below.refl _ _).alloc (Nat.le_refl _) _).alloc (by simp) _).drew | exact (Below.refl _ _).drew)).rr.all (by rfl) (by rfl) (by first | exact bx_new _ _ _ rfl | exact bx_keep (w := w3.drew.alloc (.cells #[.int .i64 i, .int .i64 d, .int .i64 l] 59)) (bx_new _ _ _ rfl) ((Below.refl _ _).alloc (Nat.le_refl _) _) | exact bx_new _ _ _ (by simp)) (by rfl) (by rfl) (show (L.length + 1) * 24 ≤ 140737488355328 by omega) (show L.length + 1 ≤ maxLen by unfold maxLen; omega) (Nat.le_trans hle3 (Below.size (B := w3.heap.size) (by first | exact Below.refl _ _ | exact (Below.refl _ _).alloc (Nat.le_refl _) _ | exact ((Below.refl _ _).alloc (Nat.le_refl _) _).drew | exact ((Below.refl _ _).alloc (Nat.le_refl _) _).alloc (by simp) _ | exact (((Below.refl _ _).alloc (Nat.le_refl _) _).alloc (by simp) _).drew | exact (Below.refl _ _).drew))) ?_
          intro ga oa cga w4 ho4 hg4 hat4 hlt4
          have HRS4 := Lib.hid ((HRS.out.keep (by first | exact Below.refl _ _ | exact (Below.refl _ _).alloc (Nat.le_refl _) _ | exact ((Below.refl _ _).alloc (Nat.le_refl _) _).drew | exact ((Below.refl _ _).alloc (Nat.le_refl _) _).alloc (by simp) _ | exact (((Below.refl _ _).alloc (Nat.le_refl _) _).alloc (by simp) _).drew | exact (Below.refl _ _).drew)).appA (x := (i, d, l)) ho4 hg4 hat4)
          have HKO := Lib.hid hg4
          have hx4 := (hg4.block W.heap.size (Nat.lt_of_lt_of_le hw3 (Below.size (B := w3.heap.size) (by first | exact Below.refl _ _ | exact (Below.refl _ _).alloc (Nat.le_refl _) _ | exact ((Below.refl _ _).alloc (Nat.le_refl _) _).drew | exact ((Below.refl _ _).alloc (Nat.le_refl _) _).alloc (by simp) _ | exact (((Below.refl _ _).alloc (Nat.le_refl _) _).alloc (by simp) _).drew | exact (Below.refl _ _).drew))) (fun e => by have := (HVA.out W.heap.size e.symm).2; omega)).trans ((Below.block (B := w3.heap.size) (by first | exact Below.refl _ _ | exact (Below.refl _ _).alloc (Nat.le_refl _) _ | exact ((Below.refl _ _).alloc (Nat.le_refl _) _).drew | exact ((Below.refl _ _).alloc (Nat.le_refl _) _).alloc (by simp) _ | exact (((Below.refl _ _).alloc (Nat.le_refl _) _).alloc (by simp) _).drew | exact (Below.refl _ _).drew) W.heap.size hw3).trans X3.out)
          have hw34 : w3.heap.size ≤ w4.heap.size := HRS4.out.size
          have hS4 : ∀ W', Below w4.heap.size w4 W' → (fun w' => w'.cell? ⟨s + 2, 0, none⟩ = some (.slice aa L.length ca) ∧ w'.cell? ⟨s + 3, 0, none⟩ = some (.slice aq Q.length cq) ∧ w'.cell? ⟨W.heap.size, 0, none⟩ = some (.int .i64 i) ∧ w'.cell? ⟨W.heap.size, 0 + 1, none⟩ = some (.int .i64 d) ∧ w'.cell? ⟨W.heap.size, 0 + 2, none⟩ = some (.int .i64 l)) W' := fun W' hb => by
            obtain ⟨q0, q1, q2⟩ := bx_cells3 (bx_keep hx4 hb)
            exact ⟨(hb.cell (p := ⟨s + 2, 0, none⟩) (Nat.lt_of_lt_of_le hs32 hw34)).trans ((cell_of_block (HRS4.out.low (s + 2) (by omega))).trans c0), (hb.cell (p := ⟨s + 3, 0, none⟩) (Nat.lt_of_lt_of_le hs33 hw34)).trans ((cell_of_block (HRS4.out.low (s + 3) (by omega))).trans c1), q0, q1, q2⟩
          have HS4 := Lib.hid hS4
          clear ho4 hg4 hat4 hx4 hS4
          refine hK.out _ _ (fun _ => HS4.out _ (Below.refl _ _)) ?_
          clear hK K
          try simp only [Act.put, List.setIfInBounds_toArray, List.set_cons_zero, List.set_cons_succ]
          refine wpU_one (i := 7) (by kernel_rfl) rfl (fun K hK => ?_)
          refine step_appQ elItem (by rfl) _ _ (by rfl) (HRS4.out.keep (by first | exact Below.refl _ _ | exact (Below.refl _ _).alloc (Nat.le_refl _) _ | exact ((Below.refl _ _).alloc (Nat.le_refl _) _).drew | exact ((Below.refl _ _).alloc (Nat.le_refl _) _).alloc (by simp) _ | exact (((Below.refl _ _).alloc (Nat.le_refl _) _).alloc (by simp) _).drew | exact (Below.refl _ _).drew)).rr.row (by rfl) (by rfl) (by first | exact bx_new _ _ _ rfl | exact bx_new _ _ _ (by simp) | (refine (HKO.out.block _ (by simp <;> omega) (fun e => by have := (HVA.out _ e.symm).2; omega)).trans ?_; first | exact bx_new _ _ _ rfl | exact bx_keep (w := w3.drew.alloc (.cells #[.int .i64 i, .int .i64 d, .int .i64 l] 59)) (bx_new _ _ _ rfl) ((Below.refl _ _).alloc (Nat.le_refl _) _) | exact bx_new _ _ _ (by simp))) (by rfl) (by rfl) (show (Q.length + 1) * 24 ≤ 140737488355328 by omega) (show Q.length + 1 ≤ maxLen by unfold maxLen; omega) (Nat.le_trans hle3 (Nat.le_trans hw34 (Below.size (B := w4.heap.size) (by first | exact Below.refl _ _ | exact (Below.refl _ _).alloc (Nat.le_refl _) _ | exact ((Below.refl _ _).alloc (Nat.le_refl _) _).drew | exact ((Below.refl _ _).alloc (Nat.le_refl _) _).alloc (by simp) _ | exact (((Below.refl _ _).alloc (Nat.le_refl _) _).alloc (by simp) _).drew | exact (Below.refl _ _).drew)))) ?_
          intro gq oq cgq w5 ho5 hg5 hat5 hlt5
          have HRS5 := Lib.hid ((HRS4.out.keep (by first | exact Below.refl _ _ | exact (Below.refl _ _).alloc (Nat.le_refl _) _ | exact ((Below.refl _ _).alloc (Nat.le_refl _) _).drew | exact ((Below.refl _ _).alloc (Nat.le_refl _) _).alloc (by simp) _ | exact (((Below.refl _ _).alloc (Nat.le_refl _) _).alloc (by simp) _).drew | exact (Below.refl _ _).drew)).appQ (x := (i, d, l)) ho5 hg5 hat5)
          have HK5 := Lib.hid hg5
          have A5 := (HRS5.out.low (s + 2) (by omega)).trans A3.out
          have Q5 := (HRS5.out.low (s + 3) (by omega)).trans Q3.out
          have hx5 := (hg5.block W.heap.size (Nat.lt_of_lt_of_le (Nat.lt_of_lt_of_le hw3 hw34) (Below.size (B := w4.heap.size) (by first | exact Below.refl _ _ | exact (Below.refl _ _).alloc (Nat.le_refl _) _ | exact ((Below.refl _ _).alloc (Nat.le_refl _) _).drew | exact ((Below.refl _ _).alloc (Nat.le_refl _) _).alloc (by simp) _ | exact (((Below.refl _ _).alloc (Nat.le_refl _) _).alloc (by simp) _).drew | exact (Below.refl _ _).drew))) (fun e => by have := (HVQ.out W.heap.size e.symm).2; omega))
          obtain ⟨w6, HW6⟩ := nameIt (w5.setCell ⟨s + 2, 0, none⟩ (.slice (some ⟨ga, oa, none⟩) (L.length + 1) cga))
          have Q6 : w6.heap[s + 3]? = some (.cells #[.slice aq Q.length cq] 57 (0, 0)) := by rw [← HW6.out]; exact bx_other Q5 (by omega) _ _
          have j0 := bx_cells1 A5
          have j1 := bx_cells1 Q6
          have j2 := bx_free1 A5
          have j3 := bx_free1 Q6
          have HX5 : Hid ((fun w' => w'.cell? ⟨s + 2, 0, none⟩ = some (.slice aa L.length ca) ∧ w'.cell? ⟨s + 3, 0, none⟩ = some (.slice aq Q.length cq) ∧ w'.cell? ⟨W.heap.size, 0, none⟩ = some (.int .i64 i) ∧ w'.cell? ⟨W.heap.size, 0 + 1, none⟩ = some (.int .i64 d) ∧ w'.cell? ⟨W.heap.size, 0 + 2, none⟩ = some (.int .i64 l)) w5) := by
            have h6 := HS4.out _ (by first | exact Below.refl _ _ | exact (Below.refl _ _).alloc (Nat.le_refl _) _ | exact ((Below.refl _ _).alloc (Nat.le_refl _) _).drew | exact ((Below.refl _ _).alloc (Nat.le_refl _) _).alloc (by simp) _ | exact (((Below.refl _ _).alloc (Nat.le_refl _) _).alloc (by simp) _).drew | exact (Below.refl _ _).drew)
            have e5 : ∀ o, w5.cell? ⟨W.heap.size, o, none⟩ = _ := fun o => cell_of_block (o := o) hx5
            exact ⟨bx_cells1 A5, bx_cells1 Q5, (e5 0).trans (HS4.out _ (by first | exact Below.refl _ _ | exact (Below.refl _ _).alloc (Nat.le_refl _) _ | exact ((Below.refl _ _).alloc (Nat.le_refl _) _).drew | exact ((Below.refl _ _).alloc (Nat.le_refl _) _).alloc (by simp) _ | exact (((Below.refl _ _).alloc (Nat.le_refl _) _).alloc (by simp) _).drew | exact (Below.refl _ _).drew)).2.2.1, (e5 (0 + 1)).trans (HS4.out _ (by first | exact Below.refl _ _ | exact (Below.refl _ _).alloc (Nat.le_refl _) _ | exact ((Below.refl _ _).alloc (Nat.le_refl _) _).drew | exact ((Below.refl _ _).alloc (Nat.le_refl _) _).alloc (by simp) _ | exact (((Below.refl _ _).alloc (Nat.le_refl _) _).alloc (by simp) _).drew | exact (Below.refl _ _).drew)).2.2.2.1, (e5 (0 + 2)).trans (HS4.out _ (by first | exact Below.refl _ _ | exact (Below.refl _ _).alloc (Nat.le_refl _) _ | exact ((Below.refl _ _).alloc (Nat.le_refl _) _).drew | exact ((Below.refl _ _).alloc (Nat.le_refl _) _).alloc (by simp) _ | exact (((Below.refl _ _).alloc (Nat.le_refl _) _).alloc (by simp) _).drew | exact (Below.refl _ _).drew)).2.2.2.2⟩
          clear ho5 hg5 hat5 A5 Q5 Q6 hx5
          refine hK.out _ _ (fun _ => HX5.out) ?_
          clear hK K
          try simp only [Act.put, List.setIfInBounds_toArray, List.set_cons_zero, List.set_cons_succ]
          refine wpU_one (i := 8) (by kernel_rfl) rfl (fun K hK => ?_)
          go_simp
          rw [HW6.out]
          refine hK.out _ _ (fun h => absurd (show true = false from h) (by decide)) ?_
          clear hK K
          try simp only [Act.put, List.setIfInBounds_toArray, List.set_cons_zero, List.set_cons_succ]
          refine wpU_one (i := 9) (by kernel_rfl) rfl (fun K hK => ?_)
          go_simp
          refine hK.out _ _ (fun h => absurd (show true = false from h) (by decide)) ?_
          clear hK K
          try simp only [Act.put, List.setIfInBounds_toArray, List.set_cons_zero, List.set_cons_succ]
          refine wpU_done (by kernel_rfl) ?_ _
          rw [← HW6.out]
          have HE := Lib.hid (HFIN.out _ _ _ HRS5.out)
          go_wp2_with fail
          exact bodyPost_end (results_none Try.results22 _ _ _) rfl ⟨rfl, HE.out⟩
      · go_simp
        refine hK.out _ _ (fun _ => HS3.out _ (by first | exact Below.refl _ _ | exact (Below.refl _ _).alloc (Nat.le_refl _) _ | exact ((Below.refl _ _).alloc (Nat.le_refl _) _).drew | exact ((Below.refl _ _).alloc (Nat.le_refl _) _).alloc (by simp) _ | exact (((Below.refl _ _).alloc (Nat.le_refl _) _).alloc (by simp) _).drew | exact (Below.refl _ _).drew)) ?_
        clear hK K
        try simp only [Act.put, List.setIfInBounds_toArray, List.set_cons_zero, List.set_cons_succ]
        refine wpU_one (i := 2) (by kernel_rfl) rfl (fun K hK => ?_)
        go_simp
        refine hK.out _ _ (fun _ => HS3.out _ (by first | exact Below.refl _ _ | exact (Below.refl _ _).alloc (Nat.le_refl _) _ | exact ((Below.refl _ _).alloc (Nat.le_refl _) _).drew | exact ((Below.refl _ _).alloc (Nat.le_refl _) _).alloc (by simp) _ | exact (((Below.refl _ _).alloc (Nat.le_refl _) _).alloc (by simp) _).drew | exact (Below.refl _ _).drew)) ?_
        clear hK K
        try simp only [Act.put, List.setIfInBounds_toArray, List.set_cons_zero, List.set_cons_succ]
        refine wpU_one (i := 3) (by kernel_rfl) rfl (fun K hK => ?_)
        refine step_appQ elItem (by rfl) _ _ (by rfl) (HRS.out.keep (by first | exact Below.refl _ _ | exact (Below.refl _ _).alloc (Nat.le_refl _) _ | exact ((Below.refl _ _).alloc (Nat.le_refl _) _).drew | exact ((Below.refl _ _).alloc (Nat.le_refl _) _).alloc (by simp) _ | exact (((Below.refl _ _).alloc (Nat.le_refl _) _).alloc (by simp) _).drew | exact (Below.refl _ _).drew)).rr.all (by rfl) (by rfl) (by first | exact bx_new _ _ _ rfl | exact bx_keep (w := w3.drew.alloc (.cells #[.int .i64 i, .int .i64 d, .int .i64 l] 59)) (bx_new _ _ _ rfl) ((Below.refl _ _).alloc (Nat.le_refl _) _) | exact bx_new _ _ _ (by simp)) (by rfl) (by rfl) (show (L.length + 1) * 24 ≤ 140737488355328 by omega) (show L.length + 1 ≤ maxLen by unfold maxLen; omega) (Nat.le_trans hle3 (Below.size (B := w3.heap.size) (by first | exact Below.refl _ _ | exact (Below.refl _ _).alloc (Nat.le_refl _) _ | exact ((Below.refl _ _).alloc (Nat.le_refl _) _).drew | exact ((Below.refl _ _).alloc (Nat.le_refl _) _).alloc (by simp) _ | exact (((Below.refl _ _).alloc (Nat.le_refl _) _).alloc (by simp) _).drew | exact (Below.refl _ _).drew))) ?_
        intro ga oa cga w4 ho4 hg4 hat4 hlt4
        have HRS4 := Lib.hid ((HRS.out.keep (by first | exact Below.refl _ _ | exact (Below.refl _ _).alloc (Nat.le_refl _) _ | exact ((Below.refl _ _).alloc (Nat.le_refl _) _).drew | exact ((Below.refl _ _).alloc (Nat.le_refl _) _).alloc (by simp) _ | exact (((Below.refl _ _).alloc (Nat.le_refl _) _).alloc (by simp) _).drew | exact (Below.refl _ _).drew)).appA (x := (i, d, l)) ho4 hg4 hat4)
        have HKO := Lib.hid hg4
        have hx4 := (hg4.block W.heap.size (Nat.lt_of_lt_of_le hw3 (Below.size (B := w3.heap.size) (by first | exact Below.refl _ _ | exact (Below.refl _ _).alloc (Nat.le_refl _) _ | exact ((Below.refl _ _).alloc (Nat.le_refl _) _).drew | exact ((Below.refl _ _).alloc (Nat.le_refl _) _).alloc (by simp) _ | exact (((Below.refl _ _).alloc (Nat.le_refl _) _).alloc (by simp) _).drew | exact (Below.refl _ _).drew))) (fun e => by have := (HVA.out W.heap.size e.symm).2; omega)).trans ((Below.block (B := w3.heap.size) (by first | exact Below.refl _ _ | exact (Below.refl _ _).alloc (Nat.le_refl _) _ | exact ((Below.refl _ _).alloc (Nat.le_refl _) _).drew | exact ((Below.refl _ _).alloc (Nat.le_refl _) _).alloc (by simp) _ | exact (((Below.refl _ _).alloc (Nat.le_refl _) _).alloc (by simp) _).drew | exact (Below.refl _ _).drew) W.heap.size hw3).trans X3.out)
        have hw34 : w3.heap.size ≤ w4.heap.size := HRS4.out.size
        have hS4 : ∀ W', Below w4.heap.size w4 W' → (fun w' => w'.cell? ⟨s + 2, 0, none⟩ = some (.slice aa L.length ca) ∧ w'.cell? ⟨s + 3, 0, none⟩ = some (.slice aq Q.length cq) ∧ w'.cell? ⟨W.heap.size, 0, none⟩ = some (.int .i64 i) ∧ w'.cell? ⟨W.heap.size, 0 + 1, none⟩ = some (.int .i64 d) ∧ w'.cell? ⟨W.heap.size, 0 + 2, none⟩ = some (.int .i64 l)) W' := fun W' hb => by
          obtain ⟨q0, q1, q2⟩ := bx_cells3 (bx_keep hx4 hb)
          exact ⟨(hb.cell (p := ⟨s + 2, 0, none⟩) (Nat.lt_of_lt_of_le hs32 hw34)).trans ((cell_of_block (HRS4.out.low (s + 2) (by omega))).trans c0), (hb.cell (p := ⟨s + 3, 0, none⟩) (Nat.lt_of_lt_of_le hs33 hw34)).trans ((cell_of_block (HRS4.out.low (s + 3) (by omega))).trans c1), q0, q1, q2⟩
        have HS4 := Lib.hid hS4
        clear ho4 hg4 hat4 hx4 hS4
        refine hK.out _ _ (fun _ => HS4.out _ (Below.refl _ _)) ?_
        clear hK K
        try simp only [Act.put, List.setIfInBounds_toArray, List.set_cons_zero, List.set_cons_succ]
        refine wpU_one (i := 7) (by kernel_rfl) rfl (fun K hK => ?_)
        refine step_appQ elItem (by rfl) _ _ (by rfl) (HRS4.out.keep (by first | exact Below.refl _ _ | exact (Below.refl _ _).alloc (Nat.le_refl _) _ | exact ((Below.refl _ _).alloc (Nat.le_refl _) _).drew | exact ((Below.refl _ _).alloc (Nat.le_refl _) _).alloc (by simp) _ | exact (((Below.refl _ _).alloc (Nat.le_refl _) _).alloc (by simp) _).drew | exact (Below.refl _ _).drew)).rr.row (by rfl) (by rfl) (by first | exact bx_new _ _ _ rfl | exact bx_new _ _ _ (by simp) | (refine (HKO.out.block _ (by simp <;> omega) (fun e => by have := (HVA.out _ e.symm).2; omega)).trans ?_; first | exact bx_new _ _ _ rfl | exact bx_keep (w := w3.drew.alloc (.cells #[.int .i64 i, .int .i64 d, .int .i64 l] 59)) (bx_new _ _ _ rfl) ((Below.refl _ _).alloc (Nat.le_refl _) _) | exact bx_new _ _ _ (by simp))) (by rfl) (by rfl) (show (Q.length + 1) * 24 ≤ 140737488355328 by omega) (show Q.length + 1 ≤ maxLen by unfold maxLen; omega) (Nat.le_trans hle3 (Nat.le_trans hw34 (Below.size (B := w4.heap.size) (by first | exact Below.refl _ _ | exact (Below.refl _ _).alloc (Nat.le_refl _) _ | exact ((Below.refl _ _).alloc (Nat.le_refl _) _).drew | exact ((Below.refl _ _).alloc (Nat.le_refl _) _).alloc (by simp) _ | exact (((Below.refl _ _).alloc (Nat.le_refl _) _).alloc (by simp) _).drew | exact (Below.refl _ _).drew)))) ?_
        intro gq oq cgq w5 ho5 hg5 hat5 hlt5
        have HRS5 := Lib.hid ((HRS4.out.keep (by first | exact Below.refl _ _ | exact (Below.refl _ _).alloc (Nat.le_refl _) _ | exact ((Below.refl _ _).alloc (Nat.le_refl _) _).drew | exact ((Below.refl _ _).alloc (Nat.le_refl _) _).alloc (by simp) _ | exact (((Below.refl _ _).alloc (Nat.le_refl _) _).alloc (by simp) _).drew | exact (Below.refl _ _).drew)).appQ (x := (i, d, l)) ho5 hg5 hat5)
        have HK5 := Lib.hid hg5
        have A5 := (HRS5.out.low (s + 2) (by omega)).trans A3.out
        have Q5 := (HRS5.out.low (s + 3) (by omega)).trans Q3.out
        have hx5 := (hg5.block W.heap.size (Nat.lt_of_lt_of_le (Nat.lt_of_lt_of_le hw3 hw34) (Below.size (B := w4.heap.size) (by first | exact Below.refl _ _ | exact (Below.refl _ _).alloc (Nat.le_refl _) _ | exact ((Below.refl _ _).alloc (Nat.le_refl _) _).drew | exact ((Below.refl _ _).alloc (Nat.le_refl _) _).alloc (by simp) _ | exact (((Below.refl _ _).alloc (Nat.le_refl _) _).alloc (by simp) _).drew | exact (Below.refl _ _).drew))) (fun e => by have := (HVQ.out W.heap.size e.symm).2; omega))
        obtain ⟨w6, HW6⟩ := nameIt (w5.setCell ⟨s + 2, 0, none⟩ (.slice (some ⟨ga, oa, none⟩) (L.length + 1) cga))
        have Q6 : w6.heap[s + 3]? = some (.cells #[.slice aq Q.length cq] 57 (0, 0)) := by rw [← HW6.out]; exact bx_other Q5 (by omega) _ _
        have j0 := bx_cells1 A5
        have j1 := bx_cells1 Q6
        have j2 := bx_free1 A5
        have j3 := bx_free1 Q6
        have HX5 : Hid ((fun w' => w'.cell? ⟨s + 2, 0, none⟩ = some (.slice aa L.length ca) ∧ w'.cell? ⟨s + 3, 0, none⟩ = some (.slice aq Q.length cq) ∧ w'.cell? ⟨W.heap.size, 0, none⟩ = some (.int .i64 i) ∧ w'.cell? ⟨W.heap.size, 0 + 1, none⟩ = some (.int .i64 d) ∧ w'.cell? ⟨W.heap.size, 0 + 2, none⟩ = some (.int .i64 l)) w5) := by
          have h6 := HS4.out _ (by first | exact Below.refl _ _ | exact (Below.refl _ _).alloc (Nat.le_refl _) _ | exact ((Below.refl _ _).alloc (Nat.le_refl _) _).drew | exact ((Below.refl _ _).alloc (Nat.le_refl _) _).alloc (by simp) _ | exact (((Below.refl _ _).alloc (Nat.le_refl _) _).alloc (by simp) _).drew | exact (Below.refl _ _).drew)
          have e5 : ∀ o, w5.cell? ⟨W.heap.size, o, none⟩ = _ := fun o => cell_of_block (o := o) hx5
          exact ⟨bx_cells1 A5, bx_cells1 Q5, (e5 0).trans (HS4.out _ (by first | exact Below.refl _ _ | exact (Below.refl _ _).alloc (Nat.le_refl _) _ | exact ((Below.refl _ _).alloc (Nat.le_refl _) _).drew | exact ((Below.refl _ _).alloc (Nat.le_refl _) _).alloc (by simp) _ | exact (((Below.refl _ _).alloc (Nat.le_refl _) _).alloc (by simp) _).drew | exact (Below.refl _ _).drew)).2.2.1, (e5 (0 + 1)).trans (HS4.out _ (by first | exact Below.refl _ _ | exact (Below.refl _ _).alloc (Nat.le_refl _) _ | exact ((Below.refl _ _).alloc (Nat.le_refl _) _).drew | exact ((Below.refl _ _).alloc (Nat.le_refl _) _).alloc (by simp) _ | exact (((Below.refl _ _).alloc (Nat.le_refl _) _).alloc (by simp) _).drew | exact (Below.refl _ _).drew)).2.2.2.1, (e5 (0 + 2)).trans (HS4.out _ (by first | exact Below.refl _ _ | exact (Below.refl _ _).alloc (Nat.le_refl _) _ | exact ((Below.refl _ _).alloc (Nat.le_refl _) _).drew | exact ((Below.refl _ _).alloc (Nat.le_refl _) _).alloc (by simp) _ | exact (((Below.refl _ _).alloc (Nat.le_refl _) _).alloc (by simp) _).drew | exact (Below.refl _ _).drew)).2.2.2.2⟩
        clear ho5 hg5 hat5 A5 Q5 Q6 hx5
        refine hK.out _ _ (fun _ => HX5.out) ?_
        clear hK K
        try simp only [Act.put, List.setIfInBounds_toArray, List.set_cons_zero, List.set_cons_succ]
        refine wpU_one (i := 8) (by kernel_rfl) rfl (fun K hK => ?_)
        go_simp
        rw [HW6.out]
        refine hK.out _ _ (fun h => absurd (show true = false from h) (by decide)) ?_
        clear hK K
        try simp only [Act.put, List.setIfInBounds_toArray, List.set_cons_zero, List.set_cons_succ]
        refine wpU_one (i := 9) (by kernel_rfl) rfl (fun K hK => ?_)
        go_simp
        refine hK.out _ _ (fun h => absurd (show true = false from h) (by decide)) ?_
        clear hK K
        try simp only [Act.put, List.setIfInBounds_toArray, List.set_cons_zero, List.set_cons_succ]
        refine wpU_done (by kernel_rfl) ?_ _
        rw [← HW6.out]
        have HE := Lib.hid (HFIN.out _ _ _ HRS5.out)
        go_wp2_with fail
        exact bodyPost_end (results_none Try.results22 _ _ _) rfl ⟨rfl, HE.out⟩
  · have hln' : decide ((l : Int) ≤ (n : Int)) = false := by simp; omega
    have hlt2 : (n : Int) < (l : Int) := by omega
    have HF := Lib.hid (HNO.out (.inl hln))
    clear hln
    go_wp2_with fail
    exact bodyPost_end (results_none Try.results22 _ _ _) rfl ⟨rfl, HF.out⟩
end Ln
end Go.Proofs.Ytmbjnemahgfhcaa
namespace Go.Proofs.Ytmbjnemahgfhcaa
open Go.RowKit
namespace Ln

theorem nodup_le : ∀ (l m : List (Nat × Nat × Nat)), l.Nodup → (∀ x ∈ l, x ∈ m) → l.length ≤ m.length
  | [], m, _, _ => by simp
  | a :: l, m, hn, hs => by
    have ha := hs a List.mem_cons_self
    rw [List.nodup_cons] at hn
    have := nodup_le l (m.erase a) hn.2 fun x hx => by
      have hne : x ≠ a := fun e => hn.1 (e ▸ hx)
      exact (List.mem_erase_of_ne hne).2 (hs x (List.mem_cons_of_mem _ hx))
    rw [List.length_erase_of_mem ha] at this
    have : 0 < m.length := List.length_pos_of_mem ha
    simp; omega
def boxL (a b c : Nat) : List (Nat × Nat × Nat) := (List.range a).flatMap fun i => (List.range b).flatMap fun j => (List.range c).map fun k => (i, j, k)
theorem mem_boxL {a b c i j k : Nat} : (i, j, k) ∈ boxL a b c ↔ i < a ∧ j < b ∧ k < c := by
  unfold boxL
  simp only [List.mem_flatMap, List.mem_map, List.mem_range, Prod.mk.injEq]
  constructor
  · rintro ⟨a1, h1, b1, h2, c1, h3, rfl, rfl, rfl⟩; exact ⟨h1, h2, h3⟩
  · rintro ⟨h1, h2, h3⟩; exact ⟨i, h1, j, h2, k, h3, rfl, rfl, rfl⟩
theorem len_flat {α β : Type} (f : α → List β) (m : Nat) : ∀ (l : List α), (∀ x ∈ l, (f x).length = m) → (l.flatMap f).length = l.length * m
  | [], _ => by simp
  | x :: l, h => by
    rw [List.flatMap_cons, List.length_append, h x List.mem_cons_self, len_flat f m l (fun y hy => h y (List.mem_cons_of_mem _ hy)), List.length_cons, Nat.add_mul]; omega
theorem len_boxL (a b c : Nat) : (boxL a b c).length = a * (b * c) := by
  unfold boxL
  rw [len_flat _ (b * c)]
  · simp
  · intro i _
    rw [len_flat _ c]
    · simp
    · intro j _; simp
variable {K : List Rule} {n : Nat}
/-- the items have grown by sound ones -/
structure Grow (K : List Rule) (n : Nat) (L0 L : List (Nat × Nat × Nat)) : Prop where
  pre : L0 <+: L
  nodup : L.Nodup
  sound : ∀ x ∈ L, It K x.1 x.2.1 x.2.2 ∧ x.2.2 ≤ n
open Classical in
theorem mem_addL_old {L : List (Nat × Nat × Nat)} {x y : Nat × Nat × Nat} (h : y ∈ L) : y ∈ addL n L x := by
  unfold addL; split
  · exact List.mem_append_left _ h
  · exact h
open Classical in
theorem mem_addL {L : List (Nat × Nat × Nat)} {x : Nat × Nat × Nat} (h : x.2.2 ≤ n) : x ∈ addL n L x := by
  unfold addL
  by_cases hx : x ∈ L
  · rw [if_neg (by simp [hx])]; exact hx
  · rw [if_pos ⟨h, hx⟩]; simp
open Classical in
theorem Grow.add {L0 L : List (Nat × Nat × Nat)} {x : Nat × Nat × Nat} (h : Grow K n L0 L) (hx : It K x.1 x.2.1 x.2.2) : Grow K n L0 (addL n L x) := by
  unfold addL; split
  · rename_i hc
    refine ⟨h.pre.trans (List.prefix_append _ _), ?_, ?_⟩
    · rw [List.nodup_append]
      refine ⟨h.nodup, by simp, ?_⟩
      intro a ha b hb e
      simp at hb
      subst hb; subst e
      exact hc.2 ha
    · intro y hy
      rcases List.mem_append.1 hy with hy | hy
      · exact h.sound y hy
      · simp at hy; subst hy; exact ⟨hx, hc.1⟩
  · exact h
theorem Grow.len {L0 L : List (Nat × Nat × Nat)} (h : Grow K n L0 L) (hK : K.length ≤ 32) (hr : ∀ i, (rt K i).length ≤ 4) (hn : n ≤ 400) : L.length ≤ 64160 := by
  have h1 := nodup_le L (boxL 32 5 401) h.nodup (fun x hx => by
    obtain ⟨h1, h2⟩ := h.sound x hx
    have h3 := h1.lt
    have h4 := h1.dot
    have h5 := hr x.1
    obtain ⟨i, j, k⟩ := x
    simp only at h2 h3 h4 h5
    exact mem_boxL.2 ⟨by omega, by omega, by omega⟩)
  rw [len_boxL] at h1
  omega
theorem Grow.refl {L : List (Nat × Nat × Nat)} (h1 : L.Nodup) (h2 : ∀ x ∈ L, It K x.1 x.2.1 x.2.2 ∧ x.2.2 ≤ n) : Grow K n L L := ⟨List.prefix_refl _, h1, h2⟩
/-- one item is done -/
theorem Items.next {L L' : List (Nat × Nat × Nat)} {p : Nat} {C C' : Nat → Nat → Bool} (h : Items K n L p C) (hp : p < L.length) {x : Nat × Nat × Nat} (hx : L[p] = x) (hg : Grow K n L L')
    (hc : ∀ a k, C' a k = true → C a k = true ∨ (x.2.1 = (rt K x.1).length ∧ lft K x.1 = (a : Int) ∧ x.2.2 = k))
    (hf0 : ∀ a k, C a k = true → C' a k = true)
    (hf : x.2.1 = (rt K x.1).length → C' (lft K x.1).toNat x.2.2 = true)
    (ht : ∀ s, (rt K x.1)[x.2.1]? = some s → s.term = true → x.2.2 + 1 ≤ n → (x.1, x.2.1 + 1, x.2.2 + 1) ∈ L')
    (hn : ∀ s, (rt K x.1)[x.2.1]? = some s → s.term = false → ∀ k, C' s.n.toNat k = true → x.2.2 + k ≤ n → (x.1, x.2.1 + 1, x.2.2 + k) ∈ L')
    (hn2 : ∀ y ∈ L, ∀ s, (rt K y.1)[y.2.1]? = some s → s.term = false → ∀ k, C' s.n.toNat k = true → C s.n.toNat k = false → y.2.2 + k ≤ n → (y.1, y.2.1 + 1, y.2.2 + k) ∈ L') : Items K n L' (p + 1) C' := by
  obtain ⟨t, rfl⟩ := hg.pre
  have htk : (L ++ t).take (p + 1) = L.take p ++ [x] := by
    rw [List.take_append_of_le_length (by omega), List.take_succ_eq_append_getElem hp, hx]
  refine ⟨hg.sound, hg.nodup, fun i hi => List.mem_append_left _ (h.start i hi), ?_, ?_, ?_, ?_⟩
  · intro a k hk
    rw [htk]
    rcases hc a k hk with h1 | ⟨h1, h2, h3⟩
    · obtain ⟨y, hy, h2⟩ := h.csound a k h1
      exact ⟨y, List.mem_append_left _ hy, h2⟩
    · exact ⟨x, by simp, h1, h2, h3⟩
  · intro y hy
    rw [htk] at hy
    rcases List.mem_append.1 hy with hy | hy
    · exact fun e => hf0 _ _ (h.full y hy e)
    · simp at hy; subst hy; exact hf
  · intro y hy
    rw [htk] at hy
    rcases List.mem_append.1 hy with hy | hy
    · exact fun s h1 h2 h3 => List.mem_append_left _ (h.term y hy s h1 h2 h3)
    · simp at hy; subst hy; exact ht
  · intro y hy
    rw [htk] at hy
    rcases List.mem_append.1 hy with hy | hy
    · intro s h1 h2 k h3 h4
      cases e : C s.n.toNat k with
      | true => exact List.mem_append_left _ (h.non y hy s h1 h2 k e h4)
      | false => exact hn2 y (List.mem_of_mem_take hy) s h1 h2 k h3 e h4
    · simp at hy; subst hy; exact hn
theorem Items.full_old {L : List (Nat × Nat × Nat)} {p i d l : Nat} {C : Nat → Nat → Bool} (h : Items K n L p C) (hp : p < L.length) (hx : L[p] = (i, d, l)) (hd : d = (rt K i).length) (hC : C (lft K i).toNat l = true) : Items K n L (p + 1) C :=
  h.next hp hx (Grow.refl h.nodup h.sound) (fun _ _ h => .inl h) (fun _ _ h => h) (fun _ => hC)
    (fun s hs _ _ => by have := (List.getElem?_eq_some_iff.1 hs).1; simp only at this; omega)
    (fun s hs _ k _ _ => by have := (List.getElem?_eq_some_iff.1 hs).1; simp only at this; omega)
    (fun y _ s _ _ k h1 h2 _ => by rw [h1] at h2; cases h2)
theorem Items.full_new {L L' : List (Nat × Nat × Nat)} {p i d l : Nat} {C C' : Nat → Nat → Bool} (h : Items K n L p C) (hp : p < L.length) (hx : L[p] = (i, d, l)) (hd : d = (rt K i).length) (hl0 : 0 ≤ lft K i) (hpos : ∀ i, i < K.length → ∀ s ∈ rt K i, s.term = false → 0 ≤ s.n) (hg : Grow K n L L')
    (hall : ∀ y ∈ L, ∀ s, (rt K y.1)[y.2.1]? = some s → s.term = false → s.n = lft K i → y.2.2 + l ≤ n → (y.1, y.2.1 + 1, y.2.2 + l) ∈ L') (hC : ∀ a b, C' a b = if a = (lft K i).toNat ∧ b = l then true else C a b) : Items K n L' (p + 1) C' := by
  refine h.next hp hx hg (fun a k h1 => ?_) (fun a k h1 => ?_) (fun _ => by rw [hC]; simp) (fun s hs _ _ => ?_) (fun s hs _ k _ _ => ?_) (fun y hy s hs ht k h1 h2 h3 => ?_)
  · rw [hC] at h1
    by_cases e : a = (lft K i).toNat ∧ k = l
    · right; exact ⟨hd, by obtain ⟨e1, e2⟩ := e; show lft K i = (a : Int); omega, e.2.symm⟩
    · rw [if_neg e] at h1; exact .inl h1
  · rw [hC]; split
    · rfl
    · exact h1
  · have := (List.getElem?_eq_some_iff.1 hs).1; simp only at this; omega
  · have := (List.getElem?_eq_some_iff.1 hs).1; simp only at this; omega
  · rw [hC] at h1
    by_cases e : s.n.toNat = (lft K i).toNat ∧ k = l
    · obtain ⟨e1, rfl⟩ := e
      have h4 := (h.sound y hy).1.lt
      have h5 := hpos _ h4 s (List.mem_of_getElem? hs) ht
      exact hall y hy s hs ht (by omega) h3
    · rw [if_neg e, h2] at h1; cases h1
open Classical in
theorem Items.termN {L : List (Nat × Nat × Nat)} {p i d l : Nat} {C : Nat → Nat → Bool} {s : Sym} (h : Items K n L p C) (hp : p < L.length) (hx : L[p] = (i, d, l)) (hs : (rt K i)[d]? = some s) (ht : s.term = true) : Items K n (addL n L (i, d + 1, l + 1)) (p + 1) C := by
  have hit := (h.sound _ (List.getElem_mem hp)).1
  rw [hx] at hit
  refine h.next hp hx ((Grow.refl h.nodup h.sound).add (.term hit hs ht)) (fun _ _ h => .inl h) (fun _ _ h => h) (fun e => ?_) (fun s' hs' ht' hl => mem_addL hl) (fun s' hs' ht' k _ _ => ?_) (fun y _ s _ _ k h1 h2 _ => by rw [h1] at h2; cases h2)
  · have := (List.getElem?_eq_some_iff.1 hs).1; simp only at e; omega
  · simp only at hs'
    rw [hs] at hs'; cases hs'; rw [ht] at ht'; cases ht'
theorem Items.nonN {L L' : List (Nat × Nat × Nat)} {p i d l : Nat} {C : Nat → Nat → Bool} {s : Sym} (h : Items K n L p C) (hp : p < L.length) (hx : L[p] = (i, d, l)) (hs : (rt K i)[d]? = some s) (ht : s.term = false) (hg : Grow K n L L')
    (hall : ∀ k, k ≤ n → C s.n.toNat k = true → l + k ≤ n → (i, d + 1, l + k) ∈ L') : Items K n L' (p + 1) C := by
  refine h.next hp hx hg (fun _ _ h => .inl h) (fun _ _ h => h) (fun e => ?_) (fun s' hs' ht' hl => ?_) (fun s' hs' ht' k h1 h2 => ?_) (fun y _ s _ _ k h1 h2 _ => by rw [h1] at h2; cases h2)
  · have := (List.getElem?_eq_some_iff.1 hs).1; simp only at e; omega
  · simp only at hs'
    rw [hs] at hs'; cases hs'; rw [ht] at ht'; cases ht'
  · simp only at hs' h2 ⊢
    rw [hs] at hs'; cases hs'
    exact hall k (by omega) h1 h2
theorem Items.nonIt {L : List (Nat × Nat × Nat)} {p i d l k : Nat} {C : Nat → Nat → Bool} {s : Sym} (h : Items K n L p C) (hit : It K i d l) (hs : (rt K i)[d]? = some s) (ht : s.term = false) (h0 : 0 ≤ s.n) (hC : C s.n.toNat k = true) : It K i (d + 1) (l + k) := by
  obtain ⟨x, hx, h1, h2, h3⟩ := h.csound _ _ hC
  have h4 := (h.sound x (List.mem_of_mem_take hx)).1
  rw [h1, h3] at h4
  exact .non hit hs ht h4 (by rw [h2]; omega)
theorem Items.start' {L : List (Nat × Nat × Nat)} (h : Grow K n [] L) (hs : ∀ i, i < K.length → (i, 0, 0) ∈ L) : Items K n L 0 (fun _ _ => false) :=
  ⟨h.sound, h.nodup, hs, fun _ _ h => by simp at h, fun x hx => by simp at hx, fun x hx => by simp at hx, fun x hx => by simp at hx⟩
end Ln
end Go.Proofs.Ytmbjnemahgfhcaa
namespace Go.Proofs.Ytmbjnemahgfhcaa
open Go.RowKit

def symEdge (l : Int) (s : Sym) : Option (Nat × Nat) := if s.term then none else some (l.toNat, s.n.toNat)
end Go.Proofs.Ytmbjnemahgfhcaa
namespace Go.Proofs.Ytmbjnemahgfhcaa
open Go.RowKit

abbrev BTab (B bt N hi : Nat) (rb : Nat → Nat) (val : Nat → Nat → Bool) (wr : World) : Prop := Grd 33 4 B bt N N hi rb (fun i j => .bool (val i j)) wr
structure DI (w : World) (bt N : Nat) (G : Array Value) (rb : Nat → Nat) (hi : Nat) (val : Nat → Nat → Bool) (wr : World) : Prop where
  tab : BTab (w.heap.size + 1) bt N hi rb val wr
  bel : Below w.heap.size w wr
  box : wr.heap[w.heap.size]? = some (.cells G 24 (0, 0))
section
variable {w : World} {bt N : Nat} {G : Array Value} {rb : Nat → Nat} {hi : Nat} {val val' : Nat → Nat → Bool} {wr w' : World}
theorem DI.keep (h : DI w bt N G rb hi val wr) (hb : Below wr.heap.size wr w') : DI w bt N G rb hi val w' := ⟨h.tab.keep hb, h.bel.trans (hb.mono h.bel.size), bx_keep h.box hb⟩
theorem DI.eq (h : DI w bt N G rb hi val wr) (he : ∀ i j, i < N → j < N → val i j = val' i j) : DI w bt N G rb hi val' wr := ⟨h.tab.eq (fun i j _ hi hj => by rw [he i j hi hj]), h.bel, h.box⟩
theorem DI.set (h : DI w bt N G rb N val wr) {i j : Nat} (hi : i < N) (hj : j < N) (x : Bool) (he : ∀ a b, a < N → b < N → val' a b = if a = i ∧ b = j then x else val a b) : DI w bt N G rb N val' (wr.setCell ⟨rb i, j, none⟩ (.bool x)) := by
  have hne := (h.tab.ne i hi hi).2
  refine ⟨(h.tab.set hi hi hj (.bool x)).eq (fun a b _ ha hb => ?_), h.bel.setCell (by show w.heap.size ≤ rb i; omega) _, bx_other h.box (by show w.heap.size ≠ rb i; omega) _ _⟩
  rw [he a b ha hb]
  split <;> rfl
end
/-- the table behind some rules, and some symbols of the next one -/
def edV (K : List Rule) (j : Nat) (lf : Int) (R : List Sym) (q a b : Nat) : Bool := decide ((a, b) ∈ (K.take j).flatMap ruleEdges ++ (R.take q).filterMap (symEdge lf))
end Go.Proofs.Ytmbjnemahgfhcaa
namespace Go.Proofs.Ytmbjnemahgfhcaa
open Go.RowKit
namespace Ln

/-- a row of truth values -/
def Brow (g m : Nat) (A : Nat → Bool) (wr : World) : Prop := ∃ cs, wr.heap[g]? = some (.cells cs 4 (0, 0)) ∧ cs.size = m ∧ ∀ k, k < m → cs[k]? = some (.bool (A k))
section
variable {g m : Nat} {A A' : Nat → Bool} {wr w' : World}
theorem Brow.lt (h : Brow g m A wr) : g < wr.heap.size := by obtain ⟨cs, h1, _⟩ := h; exact (Array.getElem?_eq_some_iff.1 h1).1
theorem Brow.keep (h : Brow g m A wr) (hb : Below wr.heap.size wr w') : Brow g m A w' := by obtain ⟨cs, h1, h2⟩ := h; exact ⟨cs, bx_keep h1 hb, h2⟩
theorem Brow.cell (h : Brow g m A wr) {k : Nat} (hk : k < m) : wr.cell? ⟨g, k, none⟩ = some (.bool (A k)) := by obtain ⟨cs, h1, h2, h3⟩ := h; simp [World.cell?, h1, h3 k hk]
theorem Brow.free (h : Brow g m A wr) (k : Nat) : wr.frozen? ⟨g, k, none⟩ = false := by obtain ⟨cs, h1, h2, h3⟩ := h; simp [World.frozen?, h1]
theorem Brow.eq (h : Brow g m A wr) (he : ∀ k, k < m → A k = A' k) : Brow g m A' wr := by obtain ⟨cs, h1, h2, h3⟩ := h; exact ⟨cs, h1, h2, fun k hk => by rw [h3 k hk, he k hk]⟩
theorem Brow.set (h : Brow g m A wr) {j : Nat} (hj : j < m) (he : ∀ k, k < m → A' k = if k = j then true else A k) : Brow g m A' (wr.setCell ⟨g, j, none⟩ (.bool true)) := by
  obtain ⟨cs, h1, h2, h3⟩ := h
  refine ⟨cs.setIfInBounds j (.bool true), bx_set h1 _ _, by simpa using h2, fun k hk => ?_⟩
  rw [Array.getElem?_setIfInBounds, he k hk]
  by_cases e : j = k
  · subst e; rw [if_pos rfl, if_pos (by omega)]; simp
  · rw [if_neg e, h3 k hk, if_neg (fun h => e h.symm)]
theorem Brow.other (h : Brow g m A wr) {b : Nat} (hne : g ≠ b) (j : Nat) (v : Value) : Brow g m A (wr.setCell ⟨b, j, none⟩ v) := by obtain ⟨cs, h1, h2⟩ := h; exact ⟨cs, bx_other h1 hne _ _, h2⟩
end
/-- the table, and the box of the grammar -/
structure LI (w : World) (bt N m : Nat) (G : Array Value) (rb : Nat → Nat) (hi : Nat) (H : Nat → Nat → Bool) (wr : World) : Prop where
  tab : Grd 33 4 (w.heap.size + 1) bt N m hi rb (fun i j => .bool (H i j)) wr
  bel : Below w.heap.size w wr
  box : wr.heap[w.heap.size]? = some (.cells G 24 (0, 0))
section
variable {w : World} {bt N m : Nat} {G : Array Value} {rb : Nat → Nat} {hi : Nat} {H H' : Nat → Nat → Bool} {wr w' : World}
theorem LI.keep (h : LI w bt N m G rb hi H wr) (hb : Below wr.heap.size wr w') : LI w bt N m G rb hi H w' := ⟨h.tab.keep hb, h.bel.trans (hb.mono h.bel.size), bx_keep h.box hb⟩
theorem LI.set (h : LI w bt N m G rb N H wr) {i j : Nat} (hi : i < N) (hj : j < m) (he : ∀ a b, a < N → b < m → H' a b = if a = i ∧ b = j then true else H a b) : LI w bt N m G rb N H' (wr.setCell ⟨rb i, j, none⟩ (.bool true)) := by
  have hne := (h.tab.ne i hi hi).2
  refine ⟨(h.tab.set hi hi hj (.bool true)).eq (fun a b _ ha hb => ?_), h.bel.setCell (by show w.heap.size ≤ rb i; omega) _, bx_other h.box (by show w.heap.size ≠ rb i; omega) _ _⟩
  rw [he a b ha hb]
  split <;> rfl
/-- a store into a block of its own, beside the table -/
theorem LI.beside (h : LI w bt N m G rb N H wr) {b : Nat} (hb : w.heap.size < b) (hbt : b ≠ bt) (hrb : ∀ i, i < N → b ≠ rb i) (j : Nat) (v : Value) : LI w bt N m G rb N H (wr.setCell ⟨b, j, none⟩ v) := by
  refine ⟨h.tab.grown (row := some b) ⟨rfl, rfl, rfl, by simp [World.setCell], fun k _ hn => Below.heap_setCell _ _ _ _ (fun e => hn (by rw [e]))⟩ (fun k e => by cases e; exact ⟨hbt, fun i _ hi e => hrb i hi e.symm⟩), h.bel.setCell (by show w.heap.size ≤ b; omega) _, bx_other h.box (by show w.heap.size ≠ b; omega) _ _⟩
end
/-- how many cells of the table are true -/
def cells (N m : Nat) : List (Nat × Nat) := (List.range N).flatMap fun a => (List.range m).map fun b => (a, b)
def trues (N m : Nat) (H : Nat → Nat → Bool) : Nat := ((cells N m).filter fun p => H p.1 p.2).length
end Ln
end Go.Proofs.Ytmbjnemahgfhcaa
namespace Go.Proofs.Ytmbjnemahgfhcaa
open Go.RowKit
namespace Ln

def GridPost (N m : Nat) (w : World) (e : Ending) (w' : World) : Prop :=
  ∃ bt rb, e = .returned (.slice (some ⟨bt, 0, none⟩) N N) ∧ Grd 33 4 w.heap.size bt N m N rb (fun _ _ => .bool false) w' ∧ Below w.heap.size w w'
set_option maxHeartbeats 1000000 in
set_option maxRecDepth 100000 in
theorem gridB (N m : Nat) (w : World) (hN : 1 ≤ N ∧ N ≤ 1000) (hm : 1 ≤ m ∧ m ≤ 1000) : Calls Try.prog 21 #[.int .i64 N, .int .i64 m] w (GridPost N m w) := by
  obtain ⟨hN1, hN2⟩ := hN
  obtain ⟨hm1, hm2⟩ := hm
  have hmk1 : ∀ W : World, (Instr.makeSlice 44 (.int .i64 (N : Int)) (.int .i64 (N : Int))).run Try.prog W = .ok (.slice (some ⟨W.heap.size, 0, none⟩) N N) (W.alloc (.cells (madeCells #[.slice none 0 0] N) 33)) := fun W => by
    have := run_make_row' (P := Try.prog) 44 33 (.slice none 0 0) 24 Try.underlying44 (by kernel_rfl) rfl .i64 .i64 N (by omega) (by omega) W
    simpa using this
  have hmk2 : ∀ W : World, (Instr.makeSlice 33 (.int .i64 (m : Int)) (.int .i64 (m : Int))).run Try.prog W = .ok (.slice (some ⟨W.heap.size, 0, none⟩) m m) (W.alloc (.cells (madeCells #[.bool false] m) 4)) := fun W => by
    have := run_make_row' (P := Try.prog) 33 4 (.bool false) 1 Try.underlying33 (by kernel_rfl) rfl .i64 .i64 m (by omega) (by omega) W
    simpa using this
  obtain ⟨bt, HBT⟩ := nameIt w.heap.size
  have HI0 : Hid (∃ rb, Grd 33 4 w.heap.size bt N m 0 rb (fun _ _ => .bool false) (w.alloc (.cells (madeCells #[.slice none 0 0] N) 33)) ∧ Below w.heap.size w (w.alloc (.cells (madeCells #[.slice none 0 0] N) 33))) :=
    ⟨fun _ => 0, Grd.start _ _ _ HBT.out.symm (Nat.le_refl _), (Below.refl _ _).alloc (Nat.le_refl _) _⟩
  go_enter Try.func21, Try.ntmps21
  go_wp2_with fail
  rw [HBT.out]
  clear hmk1
  go_loopg [11] N (fun gg v11 wr => ∃ k : Nat, k ≤ N ∧ N - k ≤ gg ∧ v11 = .int .i64 k ∧ Hid (∃ rb, Grd 33 4 w.heap.size bt N m k rb (fun _ _ => .bool false) wr ∧ Below w.heap.size w wr))
  case atStart => exact ⟨0, by omega, by omega, rfl, HI0⟩
  case round =>
    clear HI0
    obtain ⟨k, hk, hg, rfl, HI⟩ := hrel
    by_cases hkN : k < N
    · have hkN' : (k : Int) < (N : Int) := by omega
      obtain ⟨rb, hd, hbel⟩ := HI.out
      have hbt := hd.lt
      have hbB := hd.bB
      have hsz := hbel.size
      obtain ⟨⟨vc, hc8⟩, hf8⟩ := hd.hcell hkN
      have HT1 : Hid (∃ rb, Grd 33 4 w.heap.size bt N m (k + 1) rb (fun _ _ => .bool false) ((wr.alloc (.cells (madeCells #[.bool false] m) 4)).setCell ⟨bt, k, none⟩ (.slice (some ⟨wr.heap.size, 0, none⟩) m m)) ∧ Below w.heap.size w ((wr.alloc (.cells (madeCells #[.bool false] m) 4)).setCell ⟨bt, k, none⟩ (.slice (some ⟨wr.heap.size, 0, none⟩) m m))) :=
        ⟨_, hd.add hkN (by omega), (hbel.alloc (by omega) _).setCell (by show w.heap.size ≤ bt; omega) _⟩
      have hne8 : ¬ bt = wr.heap.size := by omega
      have hne9 : ¬ wr.heap.size = bt := by omega
      obtain ⟨w2, HW2⟩ := nameIt ((wr.alloc (.cells (madeCells #[.bool false] m) 4)).setCell ⟨bt, k, none⟩ (.slice (some ⟨wr.heap.size, 0, none⟩) m m))
      have hcomm : (wr.setCell ⟨bt, k, none⟩ (.slice (some ⟨wr.heap.size, 0, none⟩) m m)).alloc (.cells (madeCells #[.bool false] m) 4) = w2 := by
        rw [← HW2.out]
        simp [go_sem, hbt]
      have HCM := Lib.hid hcomm
      rw [HW2.out] at HT1
      clear hcomm hd hbel
      go_upto_region 6 with fail
      rw [HCM.out]
      clear hc8 hf8 hne8 hne9
      go_wp2_with fail
      go_roundg (N - (k + 1))
      case measure => omega
      case rel => exact ⟨k + 1, by omega, by omega, by go_num, HT1⟩
    · have hkN' : ¬ (k : Int) < (N : Int) := by omega
      have hkk : k = N := by omega
      have HE := HI.out
      rw [hkk] at HE
      have HE1 := Lib.hid HE
      clear HE hkk
      go_wp2_with fail
      go_ret
      obtain ⟨rb, h1, h2⟩ := HE1.out
      exact ⟨bt, rb, rfl, h1, h2⟩
end Ln
end Go.Proofs.Ytmbjnemahgfhcaa
namespace Go.Proofs.Ytmbjnemahgfhcaa
open Go.RowKit
namespace Ln

theorem Grd.same {tr te : TypeId} {B bt n m hi : Nat} {rb : Nat → Nat} {val : Nat → Nat → Value} {wr w' : World} (h : Grd tr te B bt n m hi rb val wr) (h1 : w'.heap[bt]? = wr.heap[bt]?) (h2 : ∀ i, i < hi → i < n → w'.heap[rb i]? = wr.heap[rb i]?) : Grd tr te B bt n m hi rb val w' := by
  obtain ⟨⟨cs, k1, k2⟩, k3, k4, k5, k6⟩ := h
  refine ⟨⟨cs, h1.trans k1, k2⟩, fun k hk hn => ?_, k4, k5, k6⟩
  obtain ⟨rs, r1, r2⟩ := k3 k hk hn
  exact ⟨rs, (h2 k hk hn).trans r1, r2⟩
theorem Grd.base {tr te : TypeId} {B B' bt n m hi : Nat} {rb : Nat → Nat} {val : Nat → Nat → Value} {wr : World} (h : Grd tr te B bt n m hi rb val wr) (hB : B' ≤ B) : Grd tr te B' bt n m hi rb val wr :=
  ⟨h.tb, h.row, h.inj, fun k hk hn => ⟨(h.ne k hk hn).1, Nat.le_trans hB (h.ne k hk hn).2⟩, Nat.le_trans hB h.bB⟩
section
variable {w2 : World} {nb s n : Nat} {X X' : Nat → Prop} {L L0 : List (Nat × Nat × Nat)} {p g0 off0 : Nat} {wr w' : World}
theorem AI.rebase (h : AI w2 nb s n X L p L0 g0 off0 wr) : AI wr nb s n X L p L0 g0 off0 wr := by
  obtain ⟨h1, h2, h3, ⟨va, vq, r1, r2, r3⟩, h5, h6, h7, h8, h9, h10⟩ := h
  exact ⟨h1, h2, h3, ⟨va, vq, r1, r2, r3⟩, h5, Below.refl _ _, h7, h8, h9, fun k hk => ⟨(r3.ax k hk).2.2.2, rfl⟩⟩
theorem AI.other {b : Nat} (h : AI wr nb s n X L p L0 g0 off0 wr) (hg : wr.grownBy w' (some b)) (hb : b < s) (hn : b ≠ nb) : AI w' nb s n X L p L0 g0 off0 w' := by
  obtain ⟨h1, h2, ⟨c, h3, h4⟩, ⟨va, vq, r1, r2, r3⟩, h5, h6, h7, h8, h9, h10⟩ := h
  have hB : ∀ k, k < wr.heap.size → k ≠ b → w'.heap[k]? = wr.heap[k]? := fun k hk hne => hg.block k hk (fun e => hne (by simpa using e))
  refine ⟨(hB nb (by omega) (by omega)).trans h1, (hB _ (by omega) (by omega)).trans h2, ⟨c, h3.kept hg (fun e => by cases e; omega), h4⟩, ⟨va, vq, (hB _ (by omega) (by omega)).trans r1, (hB _ (by omega) (by omega)).trans r2, r3.other hg (fun k e => by cases e; omega)⟩, h5, Below.refl _ _, h7, Nat.le_trans h8 hg.size, h9, fun k hk => ⟨Nat.lt_of_lt_of_le (r3.ax k hk).2.2.2 hg.size, rfl⟩⟩
theorem AI.protect (h : AI wr nb s n X L p L0 g0 off0 wr) (hb : Below wr.heap.size wr w') (hx : ∀ k, X' k → X k ∨ (wr.heap.size ≤ k ∧ k < w'.heap.size)) : AI w' nb s n X' L p L0 g0 off0 w' := by
  obtain ⟨h1, h2, ⟨c, h3, h4⟩, ⟨va, vq, r1, r2, r3⟩, h5, h6, h7, h8, h9, h10⟩ := h
  have hp : RR (s + 4) X' L (L.drop p) L0 g0 off0 va vq w' := r3.protect hb (fun k hk => (hx k hk).imp id (fun e => ⟨by omega, e⟩))
  exact ⟨bx_keep h1 hb, bx_keep h2 hb, ⟨c, h3.keep hb, h4⟩, ⟨va, vq, bx_keep r1 hb, bx_keep r2 hb, hp⟩, h5, Below.refl _ _, h7, Nat.le_trans h8 hb.size, h9, fun k hk => ⟨(hp.ax k hk).2.2.2, rfl⟩⟩
theorem AI.unsnap (h : AI wr nb s n X L p L0 g0 off0 wr) : AI wr nb s n X L p [] 0 0 wr := by
  obtain ⟨h1, h2, h3, ⟨va, vq, r1, r2, r3⟩, h5, h6, h7, h8, h9, h10⟩ := h
  exact ⟨h1, h2, h3, ⟨va, vq, r1, r2, r3.unsnap (by omega)⟩, h5, h6, h7, h8, h9, h10⟩
/-- what is read of all is kept under the appends -/
theorem AI.snap (h : AI wr nb s n X L p [] g0 off0 wr) (hl : 0 < L.length) : ∃ g off cap, wr.heap[s + 2]? = some (.cells #[.slice (some ⟨g, off, none⟩) L.length cap] 57 (0, 0)) ∧ L.length ≤ cap ∧ cap ≤ maxLen ∧ AI wr nb s n X L p L g off wr := by
  obtain ⟨h1, h2, h3, ⟨va, vq, r1, r2, r3⟩, h5, h6, h7, h8, h9, h10⟩ := h
  obtain ⟨g, off, cap, rfl, _⟩ := r3.all.cells hl
  obtain ⟨a', c', e, e1, e2⟩ := r3.all.form
  cases e
  exact ⟨g, off, cap, r1, e1, e2, h1, h2, h3, ⟨_, vq, r1, r2, r3.snap⟩, h5, h6, h7, h8, h9, h10⟩
/-- the first item that waits -/
theorem AI.first (h : AI wr nb s n X L p L0 g0 off0 wr) {x : Nat × Nat × Nat} (hl : p < L.length) (hx : L[p] = x) : ∃ g off cap, wr.heap[s + 3]? = some (.cells #[.slice (some ⟨g, off, none⟩) (L.length - p) cap] 57 (0, 0)) ∧ L.length - p ≤ cap ∧ cap ≤ maxLen ∧ s + 4 ≤ g ∧ g < wr.heap.size ∧
    wr.cell? ⟨g, off, none⟩ = some (.int .i64 x.1) ∧ wr.cell? ⟨g, off + 1, none⟩ = some (.int .i64 x.2.1) ∧ wr.cell? ⟨g, off + 2, none⟩ = some (.int .i64 x.2.2) ∧
    ∀ w' : World, Below wr.heap.size wr w' → (∀ k, X' k → X k ∨ (wr.heap.size ≤ k ∧ k < w'.heap.size)) → AI (w'.setCell ⟨s + 3, 0, none⟩ (.slice (if cap = 1 then some ⟨g, off, none⟩ else some ⟨g, off + 3, none⟩) (L.length - p - 1) (cap - 1))) nb s n X' L (p + 1) L0 g0 off0 (w'.setCell ⟨s + 3, 0, none⟩ (.slice (if cap = 1 then some ⟨g, off, none⟩ else some ⟨g, off + 3, none⟩) (L.length - p - 1) (cap - 1))) := by
  have hp := h
  obtain ⟨h1, h2, h3, ⟨va, vq, r1, r2, r3⟩, h5, h6, h7, h8, h9, h10⟩ := h
  have hd : L.drop p = x :: L.drop (p + 1) := by rw [List.drop_eq_getElem_cons hl, hx]
  have hlen : (L.drop p).length = L.length - p := List.length_drop
  have hrow := r3.row
  obtain ⟨g, off, cap, rfl, hc⟩ := hrow.cells (by omega)
  have hlt := hrow.lt g rfl
  obtain ⟨a', c', e, e1, e2⟩ := hrow.form
  cases e
  rw [hlen] at r2 e1
  have hi : its (L.drop p) = it3 x ++ its (L.drop (p + 1)) := by rw [hd]; simp [its]
  rw [hi] at hc
  have c0 := hc 0 _ (by simp [it3]; rfl)
  have c1 := hc 1 _ (by simp [it3]; rfl)
  have c2 := hc 2 _ (by simp [it3]; rfl)
  refine ⟨g, off, cap, r2, e1, e2, hlt.1, hlt.2, by simpa using c0, c1, c2, fun w' hb hX => ?_⟩
  have hq := hp.protect hb hX
  obtain ⟨q1, q2, ⟨c, q3, q4⟩, ⟨ua, uq, s1, s2, s3⟩, q5, q6, q7, q8, q9, q10⟩ := hq
  have hu := s2.symm.trans (bx_keep r2 hb)
  simp at hu
  subst hu
  have ht : ownsQ w' (s + 4) 59 3 (.slice (if cap = 1 then some ⟨g, off, none⟩ else some ⟨g, off + 3, none⟩) (L.length - p - 1) (cap - 1)) (L.length - p - 1) (its (L.drop (p + 1))) := by
    have h4 := s3.row
    rw [hlen, hi] at h4
    rw [show L.length - p = (L.length - p - 1) + 1 by omega] at h4
    exact h4.tail rfl (by decide)
  have hob : ∀ k, (Value.slice (if cap = 1 then some ⟨g, off, none⟩ else some ⟨g, off + 3, none⟩) (L.length - p - 1) (cap - 1)).ownBlock = some k → k = g := by
    intro k hk
    by_cases hc1 : cap = 1
    · rw [if_pos hc1] at hk; simpa [Value.ownBlock] using hk.symm
    · rw [if_neg hc1] at hk; simpa [Value.ownBlock] using hk.symm
  obtain ⟨v', HV'⟩ := nameIt (Value.slice (if cap = 1 then some ⟨g, off, none⟩ else some ⟨g, off + 3, none⟩) (L.length - p - 1) (cap - 1))
  rw [HV'.out] at ht hob ⊢
  have hg : w'.grownBy (w'.setCell ⟨s + 3, 0, none⟩ v') (some (s + 3)) := grown_cell w' ⟨s + 3, 0, none⟩ v'
  have hrr : RR (s + 4) X' L (L.drop (p + 1)) L0 g0 off0 ua v' w' := by
    refine ⟨s3.all, ?_, ?_, s3.sn, s3.sl, s3.sb, ?_, s3.sa, ?_⟩
    · rw [show (L.drop (p + 1)).length = L.length - p - 1 by rw [List.length_drop]; omega]; exact ht
    · intro k e e2
      have := hob k e2
      subst this
      exact s3.ap _ e rfl
    · intro e
      have := hob _ e
      subst this
      exact s3.sq rfl
    · intro k hk
      obtain ⟨k1, k2, k3, k4⟩ := s3.ax k hk
      refine ⟨k1, fun e => ?_, k3, k4⟩
      have := hob _ e
      subst this
      exact k2 rfl
  exact ⟨bx_other q1 (by omega) _ _, bx_other q2 (by omega) _ _, ⟨c, q3.kept hg (by simp), q4⟩, ⟨ua, v', bx_other s1 (by omega) _ _, by simpa using bx_set s2 0 v', hrr.other hg (fun k e => by cases e; omega)⟩, q5, Below.refl _ _, q7, by simpa [World.setCell] using q8, by omega, fun k hk => ⟨by have := (hrr.ax k hk).2.2.2; simpa [World.setCell] using this, rfl⟩⟩
end
theorem slNilQ (w : World) (B : Nat) (e : TypeId) (k : Nat) : ownsQ w B e k (.slice none 0 0) 0 [] := ⟨by simp, .inl ⟨rfl, rfl⟩⟩
theorem AI.start {w2 : World} {nb s n : Nat} (hs : s = w2.heap.size) (hn : w2.heap[nb]? = some (.cells #[.int .i64 n] 3 (0, 0))) {w3 : World} (hw : (((w2.alloc (.map #[] 0)).alloc (.cells #[.map (some s)] 56)).alloc (.cells #[.slice none 0 0] 57)).alloc (.cells #[.slice none 0 0] 57) = w3) : AI w3 nb s n (fun _ => False) [] 0 [] 0 0 w3 := by
  have hlt := (Array.getElem?_eq_some_iff.1 hn).1
  have ha : ∀ (W : World) (o : Obj), Below W.heap.size W (W.alloc o) := fun W o => (Below.refl _ _).alloc (Nat.le_refl _) _
  have hz : ∀ (W : World) (o : Obj), (W.alloc o).heap.size = W.heap.size + 1 := fun W o => by simp
  subst hs
  obtain ⟨wa, hwa⟩ : ∃ wa, wa = w2.alloc (.map #[] 0) := ⟨_, rfl⟩
  have hset : SetM Try.prog 59 4 w2.heap.size 0 (inSet []) wa := by rw [hwa]; exact SetM.start _ _ _ _ rfl (fun l => by simp [inSet])
  have b1 := ha w2 (.map #[] 0)
  have z1 := hz w2 (.map #[] 0)
  rw [← hwa] at b1 z1 hw
  obtain ⟨wb, hwb⟩ : ∃ wb, wb = wa.alloc (.cells #[.map (some w2.heap.size)] 56) := ⟨_, rfl⟩
  have b2 := ha wa (.cells #[.map (some w2.heap.size)] 56)
  have z2 := hz wa (.cells #[.map (some w2.heap.size)] 56)
  have k2 := bx_new wa (.cells #[.map (some w2.heap.size)] 56) (w2.heap.size + 1) z1.symm
  rw [← hwb] at b2 z2 k2 hw
  obtain ⟨wc, hwc⟩ : ∃ wc, wc = wb.alloc (.cells #[.slice none 0 0] 57) := ⟨_, rfl⟩
  have b3 := ha wb (.cells #[.slice none 0 0] 57)
  have z3 := hz wb (.cells #[.slice none 0 0] 57)
  have k3 := bx_new wb (.cells #[.slice none 0 0] 57) (w2.heap.size + 2) (by omega)
  rw [← hwc] at b3 z3 k3 hw
  have b4 := ha wc (.cells #[.slice none 0 0] 57)
  have z4 := hz wc (.cells #[.slice none 0 0] 57)
  have k4 := bx_new wc (.cells #[.slice none 0 0] 57) (w2.heap.size + 3) (by omega)
  rw [hw] at b4 z4 k4
  refine ⟨bx_keep (bx_keep (bx_keep (bx_keep hn b1) b2) b3) b4, bx_keep (bx_keep k2 b3) b4, ⟨0, ((hset.keep b2).keep b3).keep b4, Nat.le_refl _⟩, ⟨_, _, bx_keep k3 b4, k4, ⟨slNilQ _ _ _ _, slNilQ _ _ _ _, (fun k e => by cases e), (fun j u hj => by simp [its] at hj), by omega, .inl rfl, (fun e => by cases e), (fun e => by cases e), (fun k hk => hk.elim)⟩⟩, by simp, Below.refl _ _, hlt, by omega, by simp, fun k hk => hk.elim⟩
/-- what the rounds keep -/
structure MI (w : World) (s n N : Nat) (G : Array Value) (bt : Nat) (rb : Nat → Nat) (X : Nat → Prop) (L : List (Nat × Nat × Nat)) (p : Nat) (L0 : List (Nat × Nat × Nat)) (g0 off0 : Nat) (C : Nat → Nat → Bool) (wr : World) : Prop where
  ai : AI wr (w.heap.size + 1) s n X L p L0 g0 off0 wr
  can : Grd 33 4 (w.heap.size + 2) bt N (n + 1) N rb (fun i j => .bool (C i j)) wr
  lim : bt < s ∧ ∀ i, i < N → rb i < s
  gbox : wr.heap[w.heap.size]? = some (.cells G 24 (0, 0))
  bel : Below w.heap.size w wr
section
variable {w : World} {s n N : Nat} {G : Array Value} {bt : Nat} {rb : Nat → Nat} {X X' : Nat → Prop} {L L' : List (Nat × Nat × Nat)} {p : Nat} {L0 : List (Nat × Nat × Nat)} {g0 off0 : Nat} {C C' : Nat → Nat → Bool} {wr w' : World}
theorem MI.keep (h : MI w s n N G bt rb X L p L0 g0 off0 C wr) (hb : Below wr.heap.size wr w') (hx : ∀ k, X' k → X k ∨ (wr.heap.size ≤ k ∧ k < w'.heap.size)) : MI w s n N G bt rb X' L p L0 g0 off0 C w' :=
  ⟨h.ai.protect hb hx, h.can.keep hb, h.lim, bx_keep h.gbox hb, h.bel.trans (hb.mono h.bel.size)⟩
theorem MI.call (h : MI w s n N G bt rb X L p L0 g0 off0 C wr) (ha : AI wr (w.heap.size + 1) s n X L' p L0 g0 off0 w') : MI w s n N G bt rb X L' p L0 g0 off0 C w' := by
  have hlo := h.ai.lo
  have hb := ha.bel
  have hle := h.ai.le
  refine ⟨ha.rebase, Grd.same h.can (hb.block bt h.lim.1) (fun i hi _ => hb.block _ (h.lim.2 i hi)), h.lim, (hb.block _ (by omega)).trans h.gbox, ?_⟩
  exact h.bel.trans (hb.mono (by omega))
theorem MI.set (h : MI w s n N G bt rb X L p L0 g0 off0 C wr) {i j : Nat} (hi : i < N) (hj : j < n + 1) (he : ∀ a b, a < N → b < n + 1 → C' a b = if a = i ∧ b = j then true else C a b) : MI w s n N G bt rb X L p L0 g0 off0 C' (wr.setCell ⟨rb i, j, none⟩ (.bool true)) := by
  have hne := h.can.ne i hi hi
  have hg : wr.grownBy (wr.setCell ⟨rb i, j, none⟩ (.bool true)) (some (rb i)) := grown_cell wr ⟨rb i, j, none⟩ (.bool true)
  refine ⟨h.ai.other hg (h.lim.2 i hi) (by omega), (h.can.set hi hi hj (.bool true)).eq (fun a b _ ha hb => ?_), h.lim, bx_other h.gbox (by omega) _ _, h.bel.setCell (by show w.heap.size ≤ rb i; omega) _⟩
  rw [he a b ha hb]
  split <;> rfl
theorem MI.pop {v : Value} (h : MI w s n N G bt rb X L p L0 g0 off0 C wr) (hb : Below wr.heap.size wr w') (ha : AI (w'.setCell ⟨s + 3, 0, none⟩ v) (w.heap.size + 1) s n X' L (p + 1) L0 g0 off0 (w'.setCell ⟨s + 3, 0, none⟩ v)) : MI w s n N G bt rb X' L (p + 1) L0 g0 off0 C (w'.setCell ⟨s + 3, 0, none⟩ v) := by
  have hlo := h.ai.lo
  have h1 := h.bel.trans (hb.mono h.bel.size)
  exact ⟨ha, Grd.same (h.can.keep hb) (Below.heap_setCell _ _ _ _ (by have := h.lim.1; show bt ≠ s + 3; omega)) (fun i hi _ => Below.heap_setCell _ _ _ _ (by have := h.lim.2 i hi; show rb i ≠ s + 3; omega)), h.lim, bx_other (bx_keep h.gbox hb) (by show w.heap.size ≠ s + 3; omega) _ _, h1.setCell (by show w.heap.size ≤ s + 3; omega) _⟩
theorem MI.snap (h : MI w s n N G bt rb X L p [] g0 off0 C wr) (hl : 0 < L.length) : ∃ g off cap, wr.heap[s + 2]? = some (.cells #[.slice (some ⟨g, off, none⟩) L.length cap] 57 (0, 0)) ∧ L.length ≤ cap ∧ cap ≤ maxLen ∧ MI w s n N G bt rb X L p L g off C wr := by
  obtain ⟨g, off, cap, h1, h2, h3, h4⟩ := h.ai.snap hl
  exact ⟨g, off, cap, h1, h2, h3, h4, h.can, h.lim, h.gbox, h.bel⟩
theorem MI.read (h : MI w s n N G bt rb X L p L0 g0 off0 C wr) {j : Nat} {x : Nat × Nat × Nat} (hj : j < L0.length) (hx : L0[j] = x) : wr.cell? ⟨g0, off0 + j * 3, none⟩ = some (.int .i64 x.1) ∧ wr.cell? ⟨g0, off0 + j * 3 + 1, none⟩ = some (.int .i64 x.2.1) ∧ wr.cell? ⟨g0, off0 + j * 3 + 2, none⟩ = some (.int .i64 x.2.2) := by
  obtain ⟨va, vq, r1, r2, r3⟩ := h.ai.rows
  obtain ⟨k0, k1, k2⟩ := its_at hj
  rw [hx] at k0 k1 k2
  exact ⟨r3.sn _ _ k0, r3.sn _ _ k1, r3.sn _ _ k2⟩
theorem MI.unsnap (h : MI w s n N G bt rb X L p L0 g0 off0 C wr) : MI w s n N G bt rb X L p [] 0 0 C wr := ⟨h.ai.unsnap, h.can, h.lim, h.gbox, h.bel⟩
theorem MI.drop (h : MI w s n N G bt rb X L p L0 g0 off0 C wr) (hx : ∀ k, X' k → X k) : MI w s n N G bt rb X' L p L0 g0 off0 C wr := h.keep (Below.refl _ _) (fun k hk => .inl (hx k hk))
theorem addMI (h : MI w s n N G bt rb X L p L0 g0 off0 C wr) {i d l : Nat} {d' l' : Int} (hd : ((d : Nat) : Int) = d') (hl : ((l : Nat) : Int) = l') (hi1 : i ≤ 1000) (hd1 : d ≤ 1000) (hl1 : l ≤ 1000) (hn : n ≤ 400) (hL : L.length ≤ 100000) :
    Calls Try.prog 22 #[.agg #[.int .i64 i, .int .i64 d', .int .i64 l'], .pointer (some ⟨w.heap.size + 1, 0, none⟩), .pointer (some ⟨s + 1, 0, none⟩), .pointer (some ⟨s + 2, 0, none⟩), .pointer (some ⟨s + 3, 0, none⟩)] wr
      (fun e w' => e = .returned (.tuple #[]) ∧ AI wr (w.heap.size + 1) s n X (addL n L (i, d, l)) p L0 g0 off0 w') := by
  subst hd hl
  exact addE wr (w.heap.size + 1) s n X L p L0 g0 off0 i d l wr h.ai ⟨hi1, hd1, hl1⟩ hn hL
end
end Ln
end Go.Proofs.Ytmbjnemahgfhcaa
namespace Go.Proofs.Ytmbjnemahgfhcaa
open Go.RowKit
namespace Cs

/-- what the rounds over the places keep -/
structure FI (W : World) (sx : Nat) (SB : Array Value) (ga : Nat) (A : Nat → Bool) (gn : Nat) (M : Nat → Bool) (m : Nat) (wr : World) : Prop where
  bel : Below W.heap.size W wr
  sbox : wr.heap[sx]? = some (.cells SB 42 (0, 0))
  arow : Ln.Brow ga m A wr
  nrow : Ln.Brow gn m M wr
  ne : W.heap.size ≤ gn ∧ gn ≠ sx ∧ gn ≠ ga
section
variable {W : World} {sx : Nat} {SB : Array Value} {ga : Nat} {A : Nat → Bool} {gn : Nat} {M M' : Nat → Bool} {m : Nat} {wr w' : World}
theorem FI.eq (h : FI W sx SB ga A gn M m wr) (he : ∀ k, k < m → M k = M' k) : FI W sx SB ga A gn M' m wr := ⟨h.bel, h.sbox, h.arow, h.nrow.eq he, h.ne⟩
theorem FI.keep (h : FI W sx SB ga A gn M m wr) (hb : Below wr.heap.size wr w') : FI W sx SB ga A gn M m w' := ⟨h.bel.trans (hb.mono h.bel.size), bx_keep h.sbox hb, h.arow.keep hb, h.nrow.keep hb, h.ne⟩
theorem Brow.setV (h : Ln.Brow gn m M wr) {j : Nat} {x : Bool} (hj : j < m) (he : ∀ k, k < m → M' k = if k = j then x else M k) : Ln.Brow gn m M' (wr.setCell ⟨gn, j, none⟩ (.bool x)) := by
  obtain ⟨cs, h1, h2, h3⟩ := h
  refine ⟨cs.setIfInBounds j (.bool x), bx_set h1 _ _, by simpa using h2, fun k hk => ?_⟩
  rw [Array.getElem?_setIfInBounds, he k hk]
  by_cases e : j = k
  · subst e; rw [if_pos rfl, if_pos (by omega)]; simp
  · rw [if_neg e, h3 k hk, if_neg (fun h => e h.symm)]
theorem FI.set (h : FI W sx SB ga A gn M m wr) {j : Nat} {x : Bool} (hj : j < m) (he : ∀ k, k < m → M' k = if k = j then x else M k) : FI W sx SB ga A gn M' m (wr.setCell ⟨gn, j, none⟩ (.bool x)) := by
  obtain ⟨h1, h2, h3, h4, e1, e2, e3⟩ := h
  exact ⟨h1.setCell (p := ⟨gn, j, none⟩) e1 _, bx_other h2 (fun e => e2 e.symm) _ _, h3.other (fun e => e3 e.symm) _ _, Brow.setV h4 hj he, e1, e2, e3⟩
end

end Cs
end Go.Proofs.Ytmbjnemahgfhcaa
namespace Go.Proofs.Ytmbjnemahgfhcaa
open Go.RowKit
namespace Cs

/-- a row that is being made in an inner loop; vo: the row when the loop began, in w3 -/
structure InG (e : TypeId) (size B : Nat) (w3 : World) (vo : Value) (ds : List D) (v : Value) (wr : World) : Prop where
  row : RowD (fun k => B ≤ k) B e size ds v wr
  gr : w3.grownBy wr vo.ownBlock
  at' : v.ownBlock = vo.ownBlock ∨ ∃ k, v.ownBlock = some k ∧ w3.heap.size ≤ k
section
variable {e : TypeId} {size B : Nat} {w1 w3 : World} {vo : Value} {ds : List D} {v v' : Value} {wr w' W0 W1 : World}
theorem InG.start (h : RowD (fun k => B ≤ k) B e size ds vo w3) : InG e size B w3 vo ds vo w3 := ⟨h, ⟨rfl, rfl, rfl, Nat.le_refl _, fun _ _ _ => rfl⟩, .inl rfl⟩
theorem InG.keep (h : InG e size B w3 vo ds v wr) (hb : Below wr.heap.size wr w') : InG e size B w3 vo ds v w' := ⟨h.row.keep hb, grown_trans h.gr (grown_below hb _), h.at'⟩
theorem InG.rd (h : InG e size B w3 vo ds v wr) {T : Nat → Prop} {d : D} {cs : List Value} (hd : Rd (fun k => T k ∧ vo.ownBlock ≠ some k) w3 d cs) : Rd (fun k => T k ∧ k < wr.heap.size ∧ v.ownBlock ≠ some k) wr d cs := by
  refine Rd.keep (fun k hk hlt => ⟨⟨hk.1, Nat.lt_of_lt_of_le hlt h.gr.size, fun e => ?_⟩, h.gr.block k hlt (fun e => hk.2 e.symm)⟩) _ _ hd
  rcases h.at' with h2 | ⟨j, h2, hj⟩
  · rw [h2] at e; exact hk.2 e
  · rw [h2] at e; cases e; omega
theorem InG.below (h : InG e size B w3 vo ds v wr) (hb : Below B w1 w3) (hB : B ≤ w3.heap.size) (hvo : ∀ k, vo.ownBlock = some k → B ≤ k) : Below B w1 wr := hb.grown h.gr hB hvo
theorem InG.step {xs news : List Value} {n : Nat} {T : Nat → Prop} {d : D} (h : InG e size B w3 vo ds v W0) (ho : W0.ownsRow B e size v n xs) (hd : RdAll (fun k => B ≤ k ∧ v.ownBlock ≠ some k) W0 ds xs) (hn : n = ds.length)
    (hr : Rd T W0 d news) (hT : ∀ k, T k → k < W0.heap.size → B ≤ k ∧ v.ownBlock ≠ some k)
    (ho' : W1.ownsRow B e size v' (n + 1) (xs ++ news)) (hg : W0.grownBy W1 v.ownBlock) (hat : v'.ownBlock = v.ownBlock ∨ ∃ k, v'.ownBlock = some k ∧ W0.heap.size ≤ k) : InG e size B w3 vo (ds ++ [d]) v' W1 := by
  refine ⟨RowD.step (es := [d]) ho hd hn (RdAll.one hr) hT h.row.le ho' hg hat, ?_, ?_⟩
  · refine ⟨hg.os.trans h.gr.os, hg.tape.trans h.gr.tape, hg.output.trans h.gr.output, Nat.le_trans h.gr.size hg.size, fun k hk hne => ?_⟩
    rw [hg.block k (Nat.lt_of_lt_of_le hk h.gr.size) ?_, h.gr.block k hk hne]
    intro e
    rcases h.at' with h2 | ⟨j, h2, hj⟩
    · exact hne (by rw [e, h2])
    · rw [h2] at e; cases e; omega
  · have := h.gr.size
    rcases hat with h2 | ⟨j, h2, hj⟩
    · rw [h2]; exact h.at'
    · exact .inr ⟨j, h2, by omega⟩
end
end Cs
end Go.Proofs.Ytmbjnemahgfhcaa
namespace Go.Proofs.Ytmbjnemahgfhcaa
open Go.RowKit
namespace Cs

end Cs
end Go.Proofs.Ytmbjnemahgfhcaa
namespace Go.Proofs.Ytmbjnemahgfhcaa
open Go.RowKit

/-- a block that is known whole is a row -/
theorem own_of_block {w : World} {g : Nat} {e : TypeId} {size n : Nat} {cur : Array Value} (h : w.heap[g]? = some (.cells cur e (0, 0))) (hn : cur.size = n * size) (hm : n ≤ maxLen) : w.ownsRow 0 e size (.slice (some ⟨g, 0, none⟩) n n) n cur.toList :=
  ⟨by simpa using hn, .inr ⟨_, n, cur, rfl, Nat.zero_le _, h, Nat.le_refl _, hm, hn, by rw [← hn]; exact List.take_of_length_le (by simp)⟩⟩
end Go.Proofs.Ytmbjnemahgfhcaa
