/- The walk of lengthsOf's inner function. -/
import Derived.Test.YtjehmleckcmilaaAddI
import Derived.Test.YtjehmleckcmilaaRegU
namespace Go.Proofs.Ytjehmleckcmilaa
open Go.RowKit
namespace Ln

/-- in the midst of the two appends -/
structure RS (w2 w3 : World) (s : Nat) (S : Lit → Bool) (b : Nat) (X : Nat → Prop) (A Q L0 : List (Nat × Nat × Nat)) (g0 off0 : Nat) (va vq : Value) (W : World) : Prop where
  rr : RR (s + 4) X A Q L0 g0 off0 va vq W
  low : ∀ k, k < s + 4 → W.heap[k]? = w3.heap[k]?
  size : w3.heap.size ≤ W.heap.size
  bel : Below s w2 W
  set : ∃ c, SetM Try.prog 271 4 s c S W ∧ c ≤ b
  le : s + 4 ≤ w3.heap.size
  px : ∀ k, X k → W.heap[k]? = w3.heap[k]?
section
variable {w2 w3 : World} {s : Nat} {S : Lit → Bool} {b : Nat} {X : Nat → Prop} {A Q L0 : List (Nat × Nat × Nat)} {g0 off0 : Nat} {va vq : Value} {W W1 : World}
theorem RS.keep (h : RS w2 w3 s S b X A Q L0 g0 off0 va vq W) (hb : Below W.heap.size W W1) : RS w2 w3 s S b X A Q L0 g0 off0 va vq W1 := by
  obtain ⟨h1, h2, h3, h4, ⟨c, h5, h6⟩, h7, h8⟩ := h
  exact ⟨h1.keep hb, fun k hk => (hb.block k (by omega)).trans (h2 k hk), Nat.le_trans h3 hb.size, h4.trans (hb.mono (by omega)), ⟨c, h5.keep hb, h6⟩, h7, fun k hk => (hb.block k (h1.ax k hk).2.2.2).trans (h8 k hk)⟩
theorem RS.appA {x : Nat × Nat × Nat} {g off cap : Nat} (h : RS w2 w3 s S b X A Q L0 g0 off0 va vq W) (ho : ownsQ W1 (s + 4) 271 3 (.slice (some ⟨g, off, none⟩) (A.length + 1) cap) (A.length + 1) (its A ++ it3 x)) (hg : W.grownBy W1 va.ownBlock)
    (hat : (∃ cap0, va = .slice (some ⟨g, off, none⟩) A.length cap0) ∨ (g = W.heap.size ∧ W.grownBy W1 none)) : RS w2 w3 s S b X (A ++ [x]) Q L0 g0 off0 (.slice (some ⟨g, off, none⟩) (A.length + 1) cap) vq W1 := by
  obtain ⟨h1, h2, h3, h4, ⟨c, h5, h6⟩, h7, h8⟩ := h
  exact ⟨h1.appA ho hg hat, fun k hk => (hg.block k (by omega) (fun e => by have := (h1.all.lt k e.symm).1; omega)).trans (h2 k hk), Nat.le_trans h3 hg.size, h4.grown hg (by omega) (fun k e => by have := (h1.all.lt k e).1; omega), ⟨c, h5.kept hg (fun e => by have := (h1.all.lt s e.symm).1; omega), h6⟩, h7, fun k hk => (hg.block k (h1.ax k hk).2.2.2 (fun e => (h1.ax k hk).1 e.symm)).trans (h8 k hk)⟩
theorem RS.appQ {x : Nat × Nat × Nat} {g off cap : Nat} (h : RS w2 w3 s S b X A Q L0 g0 off0 va vq W) (ho : ownsQ W1 (s + 4) 271 3 (.slice (some ⟨g, off, none⟩) (Q.length + 1) cap) (Q.length + 1) (its Q ++ it3 x)) (hg : W.grownBy W1 vq.ownBlock)
    (hat : (∃ cap0, vq = .slice (some ⟨g, off, none⟩) Q.length cap0) ∨ (g = W.heap.size ∧ W.grownBy W1 none)) : RS w2 w3 s S b X A (Q ++ [x]) L0 g0 off0 va (.slice (some ⟨g, off, none⟩) (Q.length + 1) cap) W1 := by
  obtain ⟨h1, h2, h3, h4, ⟨c, h5, h6⟩, h7, h8⟩ := h
  exact ⟨h1.appQ ho hg hat, fun k hk => (hg.block k (by omega) (fun e => by have := (h1.row.lt k e.symm).1; omega)).trans (h2 k hk), Nat.le_trans h3 hg.size, h4.grown hg (by omega) (fun k e => by have := (h1.row.lt k e).1; omega), ⟨c, h5.kept hg (fun e => by have := (h1.row.lt s e.symm).1; omega), h6⟩, h7, fun k hk => (hg.block k (h1.ax k hk).2.2.2 (fun e => (h1.ax k hk).2.1 e.symm)).trans (h8 k hk)⟩
theorem RS.fin {nb n p : Nat} {L : List (Nat × Nat × Nat)} {x : Nat × Nat × Nat} {v0 v1 : Value} (h : RS w2 w3 s (inSet (L ++ [x])) (L.length + 1) X (L ++ [x]) (L.drop p ++ [x]) L0 g0 off0 va vq W)
    (h1 : w3.heap[nb]? = some (.cells #[.int .i64 n] 3 (0, 0))) (h2 : w3.heap[s + 1]? = some (.cells #[.map (some s)] 268 (0, 0)))
    (h4 : w3.heap[s + 2]? = some (.cells #[v0] 269 (0, 0))) (h5 : w3.heap[s + 3]? = some (.cells #[v1] 269 (0, 0)))
    (hs : ∀ y ∈ L, small3 y) (hx : small3 x) (hl : nb < s) (hp : p ≤ L.length) (hpx : ∀ k, X k → k < w2.heap.size ∧ w3.heap[k]? = w2.heap[k]?) :
    AI w2 nb s n X (L ++ [x]) p L0 g0 off0 ((W.setCell ⟨s + 2, 0, none⟩ va).setCell ⟨s + 3, 0, none⟩ vq) := by
  obtain ⟨k1, k2, k3, k4, ⟨c, k5, k6⟩, k7, k8⟩ := h
  replace h1 := (k2 nb (by omega)).trans h1
  replace h2 := (k2 (s + 1) (by omega)).trans h2
  replace h4 := (k2 (s + 2) (by omega)).trans h4
  replace h5 := (k2 (s + 3) (by omega)).trans h5
  have g1 : W.grownBy (W.setCell ⟨s + 2, 0, none⟩ va) (some (s + 2)) := grown_cell W ⟨s + 2, 0, none⟩ va
  have g2 : (W.setCell ⟨s + 2, 0, none⟩ va).grownBy ((W.setCell ⟨s + 2, 0, none⟩ va).setCell ⟨s + 3, 0, none⟩ vq) (some (s + 3)) := grown_cell _ ⟨s + 3, 0, none⟩ vq
  refine ⟨bx_other (bx_other h1 (by omega) _ _) (by omega) _ _, bx_other (bx_other h2 (by omega) _ _) (by omega) _ _, ⟨c, (k5.kept g1 (by simp)).kept g2 (by simp), by simpa using k6⟩, ?_, ?_, (k4.setCell (by show s ≤ s + 2; omega) _).setCell (by show s ≤ s + 3; omega) _, hl, by simp [World.setCell]; omega, by simp; omega, fun k hk => ⟨(hpx k hk).1, ?_⟩⟩
  · refine ⟨va, vq, bx_other (by simpa using bx_set h4 0 va) (by omega) _ _, by simpa using bx_set (bx_other h5 (by omega : s + 3 ≠ s + 2) 0 va) 0 vq, ?_⟩
    rw [List.drop_append_of_le_length hp]
    exact (k1.other g1 (fun k e => by cases e; omega)).other g2 (fun k e => by cases e; omega)
  · intro y hy
    rcases List.mem_append.1 hy with h | h
    · exact hs y h
    · simp at h; subst h; exact hx
  · have hB := (k1.ax k hk).2.2.1
    rw [Below.heap_setCell _ _ _ _ (by show k ≠ s + 3; omega), Below.heap_setCell _ _ _ _ (by show k ≠ s + 2; omega), k8 k hk]
    exact (hpx k hk).2
end
open Classical in
theorem addL_no {n : Nat} {L : List (Nat × Nat × Nat)} {x : Nat × Nat × Nat} (h : ¬ x.2.2 ≤ n ∨ x ∈ L) : addL n L x = L := by
  unfold addL
  rw [if_neg]
  rintro ⟨h1, h2⟩
  rcases h with h | h
  · exact h h1
  · exact h2 h
open Classical in
theorem addL_yes {n : Nat} {L : List (Nat × Nat × Nat)} {x : Nat × Nat × Nat} (h : x.2.2 ≤ n) (h2 : x ∉ L) : addL n L x = L ++ [x] := by
  unfold addL; rw [if_pos ⟨h, h2⟩]

set_option maxHeartbeats 4000000 in
set_option maxRecDepth 100000 in
open Classical in
theorem addE (w2 : World) (nb s n : Nat) (X : Nat → Prop) (L : List (Nat × Nat × Nat)) (p : Nat) (L0 : List (Nat × Nat × Nat)) (gs os : Nat) (i d l : Nat) (W : World) (h : AI w2 nb s n X L p L0 gs os W) (hx : small3 (i, d, l)) (hn : n ≤ 400) (hL : L.length ≤ 100000) :
    Calls Try.prog 178 #[.agg #[.int .i64 i, .int .i64 d, .int .i64 l], .pointer (some ⟨nb, 0, none⟩), .pointer (some ⟨s + 1, 0, none⟩), .pointer (some ⟨s + 2, 0, none⟩), .pointer (some ⟨s + 3, 0, none⟩)] W
      (fun e w' => e = .returned (.tuple #[]) ∧ AI w2 nb s n X (addL n L (i, d, l)) p L0 gs os w') := by
  obtain ⟨hx1, hx2, hx3⟩ := hx
  simp only at hx1 hx2 hx3
  have hxs : small3 (i, d, l) := ⟨hx1, hx2, hx3⟩
  obtain ⟨w1, HW1⟩ := nameIt (W.alloc (.cells #[.int .i64 i, .int .i64 d, .int .i64 l] 271))
  have hb1 : Below W.heap.size W w1 := by rw [← HW1.out]; exact (Below.refl _ _).alloc (Nat.le_refl _) _
  have X1 : Hid (w1.heap[W.heap.size]? = some (.cells #[.int .i64 i, .int .i64 d, .int .i64 l] 271 (0, 0))) := by rw [← HW1.out]; exact bx_new _ _ _ rfl
  have HA := Lib.hid (h.keep hb1)
  have hle := h.le
  have hlo := h.lo
  have hpl := h.pl
  have hs1 : W.heap.size < w1.heap.size := (Array.getElem?_eq_some_iff.1 X1.out).1
  obtain ⟨x0, x1, x2⟩ := bx_cells3 X1.out
  have n0 := bx_cells1 HA.out.nbox
  have m0 := bx_cells1 HA.out.sbox
  have HNO : Hid (¬ l ≤ n ∨ (i, d, l) ∈ L → AI w2 nb s n X (addL n L (i, d, l)) p L0 gs os w1) := fun hc => by rw [addL_no (x := (i, d, l)) hc]; exact HA.out
  obtain ⟨va, vq, r1W, r2W, r3W⟩ := h.rows
  have HVA : Hid (∀ k, va.ownBlock = some k → s + 4 ≤ k ∧ k < W.heap.size) := r3W.all.lt
  have HVQ : Hid (∀ k, vq.ownBlock = some k → s + 4 ≤ k ∧ k < W.heap.size) := r3W.row.lt
  have R1 := Lib.hid (bx_keep r1W hb1)
  have R2 := Lib.hid (bx_keep r2W hb1)
  have R3 := Lib.hid (r3W.keep hb1)
  clear h r1W r2W r3W
  go_enter Try.func178, Try.ntmps178
  go_upto_region 1 with fail
  rw [HW1.out]
  by_cases hln : l ≤ n
  · have hln' : decide ((l : Int) ≤ (n : Int)) = true := by simp; omega
    obtain ⟨c, hset, hc⟩ := HA.out.set
    have hkey := itemKey hx1 hx2 hx3
    have hlk := hset.look itemK Try.underlying268 Try.underlying4 (zeroB w1) hkey
    have hin := inSet_at HA.out.small hxs
    simp only at hin
    rw [hin] at hlk
    by_cases hmem : (i, d, l) ∈ L
    · have hdm : decide ((i, d, l) ∈ L) = true := by simpa using hmem
      rw [hdm] at hlk
      have HF := Lib.hid (HNO.out (.inr hmem))
      clear hmem hin hset hdm
      go_wp2_with fail
      exact bodyPost_end (results_none Try.results178 _ _ _) rfl ⟨rfl, HF.out⟩
    · have hdm : decide ((i, d, l) ∈ L) = false := by simpa using hmem
      rw [hdm] at hlk
      have HADD : Hid (addL n L (i, d, l) = L ++ [(i, d, l)]) := addL_yes (x := (i, d, l)) hln hmem
      obtain ⟨w3, hup, hset3, hgr3⟩ := hset.add itemK Try.underlying268 Try.underlying4 (by unfold maxLen; omega) hkey (S' := inSet (L ++ [(i, d, l)])) inSet_add (fun l' h => inSet_other h)
      have hle1 := HA.out.le
      have hblk : ∀ k, k < w1.heap.size → k ≠ s → w3.heap[k]? = w1.heap[k]? := fun k hk hne => hgr3.block k hk (fun e => hne (by simpa using e))
      have N3 := Lib.hid ((hblk nb (by omega) (by omega)).trans HA.out.nbox)
      have S3 := Lib.hid ((hblk (s + 1) (by omega) (by omega)).trans HA.out.sbox)
      have A3 := Lib.hid ((hblk (s + 2) (by omega) (by omega)).trans R1.out)
      have Q3 := Lib.hid ((hblk (s + 3) (by omega) (by omega)).trans R2.out)
      have X3 := Lib.hid ((hblk W.heap.size hs1 (by omega)).trans X1.out)
      have HPX : Hid (∀ k, X k → w3.heap[k]? = w1.heap[k]?) := fun k hk => hblk k (R3.out.ax k hk).2.2.2 (by have := (R3.out.ax k hk).2.2.1; omega)
      have hle3 : s + 4 ≤ w3.heap.size := Nat.le_trans hle1 hgr3.size
      have HRS := Lib.hid (show RS w2 w3 s (inSet (L ++ [(i, d, l)])) (L.length + 1) X L (L.drop p) L0 gs os va vq w3 from ⟨R3.out.other hgr3 (fun k e => by cases e; omega), fun _ _ => rfl, Nat.le_refl _, HA.out.bel.grown hgr3 (by have := HA.out.bel.size; omega) (fun k e => by cases e; exact Nat.le_refl _), ⟨c + 1, hset3, by omega⟩, hle3, fun _ _ => rfl⟩)
      have HFIN : Hid (∀ va' vq' W', RS w2 w3 s (inSet (L ++ [(i, d, l)])) (L.length + 1) X (L ++ [(i, d, l)]) (L.drop p ++ [(i, d, l)]) L0 gs os va' vq' W' → AI w2 nb s n X (addL n L (i, d, l)) p L0 gs os ((W'.setCell ⟨s + 2, 0, none⟩ va').setCell ⟨s + 3, 0, none⟩ vq')) := by
        intro va' vq' W' h
        rw [HADD.out]
        exact h.fin N3.out S3.out A3.out Q3.out HA.out.small hxs hlo hpl (fun k hk => ⟨(HA.out.px k hk).1, (HPX.out k hk).trans (HA.out.px k hk).2⟩)
      have hw3 : W.heap.size < w3.heap.size := Nat.lt_of_lt_of_le hs1 hgr3.size
      obtain ⟨aa, ca, hva, ha1, ha2⟩ := HRS.out.rr.all.form
      obtain ⟨aq, cq, hvq, hq1, hq2⟩ := HRS.out.rr.row.form
      subst hva hvq
      unfold maxLen at ha2 hq2
      have hql : (L.drop p).length ≤ 100000 := by rw [List.length_drop]; omega
      obtain ⟨Q, HQ⟩ := nameIt (L.drop p)
      rw [HQ.out] at HRS HFIN HVQ Q3 hql hq1
      clear hset hset3 hgr3 hblk hmem hin hdm
      go_upto_region 3 with fail
      clear x0 x1 x2 n0 m0 hlk hup
      obtain ⟨x0, x1, x2⟩ := bx_cells3 X3.out
      have hs33 : s + 3 < w3.heap.size := by omega
      have hs32 : s + 2 < w3.heap.size := by omega
      have c0 := bx_cells1 A3.out
      have c1 := bx_cells1 Q3.out
      have f0 := bx_free1 A3.out
      have f1 := bx_free1 Q3.out
      have hS3 : ∀ W', Below w3.heap.size w3 W' → (fun w' => w'.cell? ⟨s + 2, 0, none⟩ = some (.slice aa L.length ca) ∧ w'.cell? ⟨s + 3, 0, none⟩ = some (.slice aq Q.length cq) ∧ w'.cell? ⟨W.heap.size, 0, none⟩ = some (.int .i64 i) ∧ w'.cell? ⟨W.heap.size, 0 + 1, none⟩ = some (.int .i64 d) ∧ w'.cell? ⟨W.heap.size, 0 + 2, none⟩ = some (.int .i64 l)) W' := fun W' hb => ⟨(hb.cell (p := ⟨s + 2, 0, none⟩) hs32).trans c0, (hb.cell (p := ⟨s + 3, 0, none⟩) hs33).trans c1, (hb.cell (p := ⟨W.heap.size, 0, none⟩) hw3).trans x0, (hb.cell (p := ⟨W.heap.size, 0 + 1, none⟩) hw3).trans x1, (hb.cell (p := ⟨W.heap.size, 0 + 2, none⟩) hw3).trans x2⟩
      have HS3 := Lib.hid hS3
      clear hS3
      refine wp_region_U (S := (fun w' => w'.cell? ⟨s + 2, 0, none⟩ = some (.slice aa L.length ca) ∧ w'.cell? ⟨s + 3, 0, none⟩ = some (.slice aq Q.length cq) ∧ w'.cell? ⟨W.heap.size, 0, none⟩ = some (.int .i64 i) ∧ w'.cell? ⟨W.heap.size, 0 + 1, none⟩ = some (.int .i64 d) ∧ w'.cell? ⟨W.heap.size, 0 + 2, none⟩ = some (.int .i64 l))) 8 (by kernel_rfl) (fun inv => ?_)
      refine wpU_take (i := 0) (v := .slice aa L.length ca) rfl inv (by kernel_rfl) (by kernel_rfl) (by decide) (by decide) (by kernel_rfl) (by kernel_rfl) (by kernel_rfl) (fun _ _ _ h => h) (Or.inl ⟨by rfl, fun w' hw' => ?_⟩) (HS3.out _ (Below.refl _ _).drew) (fun inv => ?_)
      · obtain ⟨h1, h2, h3, h4, h5⟩ := hw'
        go_simp
      try simp only [Act.put, List.setIfInBounds_toArray, List.set_cons_zero, List.set_cons_succ]
      refine wpU_take (i := 1) (v := .agg #[.int .i64 i, .int .i64 d, .int .i64 l]) rfl inv (by kernel_rfl) (by kernel_rfl) (by decide) (by decide) (by kernel_rfl) (by kernel_rfl) (by kernel_rfl) (fun _ _ _ h => h) (Or.inl ⟨by rfl, fun w' hw' => ?_⟩) (HS3.out _ (Below.refl _ _).drew) (fun inv => ?_)
      · obtain ⟨h1, h2, h3, h4, h5⟩ := hw'
        go_simp
      try simp only [Act.put, List.setIfInBounds_toArray, List.set_cons_zero, List.set_cons_succ]
      refine wpU_take (i := 4) (v := .slice aq Q.length cq) rfl inv (by kernel_rfl) (by kernel_rfl) (by decide) (by decide) (by kernel_rfl) (by kernel_rfl) (by kernel_rfl) (fun _ _ _ h => h) (Or.inl ⟨by rfl, fun w' hw' => ?_⟩) (HS3.out _ (Below.refl _ _).drew) (fun inv => ?_)
      · obtain ⟨h1, h2, h3, h4, h5⟩ := hw'
        go_simp
      try simp only [Act.put, List.setIfInBounds_toArray, List.set_cons_zero, List.set_cons_succ]
      refine wpU_take (i := 5) (v := .agg #[.int .i64 i, .int .i64 d, .int .i64 l]) rfl inv (by kernel_rfl) (by kernel_rfl) (by decide) (by decide) (by kernel_rfl) (by kernel_rfl) (by kernel_rfl) (fun _ _ _ h => h) (Or.inl ⟨by rfl, fun w' hw' => ?_⟩) (HS3.out _ (Below.refl _ _).drew) (fun inv => ?_)
      · obtain ⟨h1, h2, h3, h4, h5⟩ := hw'
        go_simp
      try simp only [Act.put, List.setIfInBounds_toArray, List.set_cons_zero, List.set_cons_succ]
      refine wpU_two (i := 2) (j := 6) (by kernel_rfl) rfl rfl (fun K hK => ?_) (fun K hK => ?_)
      · go_simp
        refine hK.out _ _ (fun _ => HS3.out _ (by first | exact Below.refl _ _ | exact (Below.refl _ _).alloc (Nat.le_refl _) _ | exact ((Below.refl _ _).alloc (Nat.le_refl _) _).drew | exact ((Below.refl _ _).alloc (Nat.le_refl _) _).alloc (by simp) _ | exact (((Below.refl _ _).alloc (Nat.le_refl _) _).alloc (by simp) _).drew | exact (Below.refl _ _).drew)) ?_
        clear hK K
        try simp only [Act.put, List.setIfInBounds_toArray, List.set_cons_zero, List.set_cons_succ]
        refine wpU_two (i := 3) (j := 6) (by kernel_rfl) rfl rfl (fun K hK => ?_) (fun K hK => ?_)
        · refine step_appQ elItem (by rfl) _ _ (by rfl) (HRS.out.keep (by first | exact Below.refl _ _ | exact (Below.refl _ _).alloc (Nat.le_refl _) _ | exact ((Below.refl _ _).alloc (Nat.le_refl _) _).drew | exact ((Below.refl _ _).alloc (Nat.le_refl _) _).alloc (by simp) _ | exact (((Below.refl _ _).alloc (Nat.le_refl _) _).alloc (by simp) _).drew | exact (Below.refl _ _).drew)).rr.all (by rfl) (by rfl) (by first | exact bx_new _ _ _ rfl | exact bx_keep (w := w3.drew.alloc (.cells #[.int .i64 i, .int .i64 d, .int .i64 l] 271)) (bx_new _ _ _ rfl) ((Below.refl _ _).alloc (Nat.le_refl _) _) | exact bx_new _ _ _ (by simp)) (by rfl) (by rfl) (show (L.length + 1) * 24 ≤ 140737488355328 by omega) (show L.length + 1 ≤ maxLen by unfold maxLen; omega) (Nat.le_trans hle3 (Below.size (B := w3.heap.size) (by first | exact Below.refl _ _ | exact (Below.refl _ _).alloc (Nat.le_refl _) _ | exact ((Below.refl _ _).alloc (Nat.le_refl _) _).drew | exact ((Below.refl _ _).alloc (Nat.le_refl _) _).alloc (by simp) _ | exact (((Below.refl _ _).alloc (Nat.le_refl _) _).alloc (by simp) _).drew | exact (Below.refl _ _).drew))) ?_
          intro ga oa cga w4 ho4 hg4 hat4 hlt4
          have HRS4 := Lib.hid ((HRS.out.keep (by first | exact Below.refl _ _ | exact (Below.refl _ _).alloc (Nat.le_refl _) _ | exact ((Below.refl _ _).alloc (Nat.le_refl _) _).drew | exact ((Below.refl _ _).alloc (Nat.le_refl _) _).alloc (by simp) _ | exact (((Below.refl _ _).alloc (Nat.le_refl _) _).alloc (by simp) _).drew | exact (Below.refl _ _).drew)).appA (x := (i, d, l)) ho4 hg4 hat4)
          have HKO := Lib.hid hg4
          have hx4 := (hg4.block W.heap.size (Nat.lt_of_lt_of_le hw3 (Below.size (B := w3.heap.size) (by first | exact Below.refl _ _ | exact (Below.refl _ _).alloc (Nat.le_refl _) _ | exact ((Below.refl _ _).alloc (Nat.le_refl _) _).drew | exact ((Below.refl _ _).alloc (Nat.le_refl _) _).alloc (by simp) _ | exact (((Below.refl _ _).alloc (Nat.le_refl _) _).alloc (by simp) _).drew | exact (Below.refl _ _).drew))) (fun e => by have := (HVA.out W.heap.size e.symm).2; omega)).trans ((Below.block (B := w3.heap.size) (by first | exact Below.refl _ _ | exact (Below.refl _ _).alloc (Nat.le_refl _) _ | exact ((Below.refl _ _).alloc (Nat.le_refl _) _).drew | exact ((Below.refl _ _).alloc (Nat.le_refl _) _).alloc (by simp) _ | exact (((Below.refl _ _).alloc (Nat.le_refl _) _).alloc (by simp) _).drew | exact (Below.refl _ _).drew) W.heap.size hw3).trans X3.out)
          have hw34 : w3.heap.size ≤ w4.heap.size := HRS4.out.size
          have hS4 : ∀ W', Below w4.heap.size w4 W' → (fun w' => w'.cell? ⟨s + 2, 0, none⟩ = some (.slice aa L.length ca) ∧ w'.cell? ⟨s + 3, 0, none⟩ = some (.slice aq Q.length cq) ∧ w'.cell? ⟨W.heap.size, 0, none⟩ = some (.int .i64 i) ∧ w'.cell? ⟨W.heap.size, 0 + 1, none⟩ = some (.int .i64 d) ∧ w'.cell? ⟨W.heap.size, 0 + 2, none⟩ = some (.int .i64 l)) W' := fun W' hb => by
            obtain ⟨q0, q1, q2⟩ := bx_cells3 (bx_keep hx4 hb)
            exact ⟨(hb.cell (p := ⟨s + 2, 0, none⟩) (Nat.lt_of_lt_of_le hs32 hw34)).trans ((cell_of_block (HRS4.out.low (s + 2) (by omega))).trans c0), (hb.cell (p := ⟨s + 3, 0, none⟩) (Nat.lt_of_lt_of_le hs33 hw34)).trans ((cell_of_block (HRS4.out.low (s + 3) (by omega))).trans c1), q0, q1, q2⟩
          have HS4 := Lib.hid hS4
          clear ho4 hg4 hat4 hx4 hS4
          refine hK.out _ _ (fun _ => HS4.out _ (Below.refl _ _)) ?_
          clear hK K
          try simp only [Act.put, List.setIfInBounds_toArray, List.set_cons_zero, List.set_cons_succ]
          refine wpU_one (i := 6) (by kernel_rfl) rfl (fun K hK => ?_)
          go_simp
          refine hK.out _ _ (fun _ => HS4.out _ (by first | exact Below.refl _ _ | exact (Below.refl _ _).alloc (Nat.le_refl _) _ | exact ((Below.refl _ _).alloc (Nat.le_refl _) _).drew | exact ((Below.refl _ _).alloc (Nat.le_refl _) _).alloc (by simp) _ | exact (((Below.refl _ _).alloc (Nat.le_refl _) _).alloc (by simp) _).drew | exact (Below.refl _ _).drew)) ?_
          clear hK K
          try simp only [Act.put, List.setIfInBounds_toArray, List.set_cons_zero, List.set_cons_succ]
          refine wpU_one (i := 7) (by kernel_rfl) rfl (fun K hK => ?_)
          refine step_appQ elItem (by rfl) _ _ (by rfl) (HRS4.out.keep (by first | exact Below.refl _ _ | exact (Below.refl _ _).alloc (Nat.le_refl _) _ | exact ((Below.refl _ _).alloc (Nat.le_refl _) _).drew | exact ((Below.refl _ _).alloc (Nat.le_refl _) _).alloc (by simp) _ | exact (((Below.refl _ _).alloc (Nat.le_refl _) _).alloc (by simp) _).drew | exact (Below.refl _ _).drew)).rr.row (by rfl) (by rfl) (by first | exact bx_new _ _ _ rfl | exact bx_new _ _ _ (by simp) | (refine (HKO.out.block _ (by simp <;> omega) (fun e => by have := (HVA.out _ e.symm).2; omega)).trans ?_; first | exact bx_new _ _ _ rfl | exact bx_keep (w := w3.drew.alloc (.cells #[.int .i64 i, .int .i64 d, .int .i64 l] 271)) (bx_new _ _ _ rfl) ((Below.refl _ _).alloc (Nat.le_refl _) _) | exact bx_new _ _ _ (by simp))) (by rfl) (by rfl) (show (Q.length + 1) * 24 ≤ 140737488355328 by omega) (show Q.length + 1 ≤ maxLen by unfold maxLen; omega) (Nat.le_trans hle3 (Nat.le_trans hw34 (Below.size (B := w4.heap.size) (by first | exact Below.refl _ _ | exact (Below.refl _ _).alloc (Nat.le_refl _) _ | exact ((Below.refl _ _).alloc (Nat.le_refl _) _).drew | exact ((Below.refl _ _).alloc (Nat.le_refl _) _).alloc (by simp) _ | exact (((Below.refl _ _).alloc (Nat.le_refl _) _).alloc (by simp) _).drew | exact (Below.refl _ _).drew)))) ?_
          intro gq oq cgq w5 ho5 hg5 hat5 hlt5
          have HRS5 := Lib.hid ((HRS4.out.keep (by first | exact Below.refl _ _ | exact (Below.refl _ _).alloc (Nat.le_refl _) _ | exact ((Below.refl _ _).alloc (Nat.le_refl _) _).drew | exact ((Below.refl _ _).alloc (Nat.le_refl _) _).alloc (by simp) _ | exact (((Below.refl _ _).alloc (Nat.le_refl _) _).alloc (by simp) _).drew | exact (Below.refl _ _).drew)).appQ (x := (i, d, l)) ho5 hg5 hat5)
          have HK5 := Lib.hid hg5
          have A5 := (HRS5.out.low (s + 2) (by omega)).trans A3.out
          have Q5 := (HRS5.out.low (s + 3) (by omega)).trans Q3.out
          have hx5 := (hg5.block W.heap.size (Nat.lt_of_lt_of_le (Nat.lt_of_lt_of_le hw3 hw34) (Below.size (B := w4.heap.size) (by first | exact Below.refl _ _ | exact (Below.refl _ _).alloc (Nat.le_refl _) _ | exact ((Below.refl _ _).alloc (Nat.le_refl _) _).drew | exact ((Below.refl _ _).alloc (Nat.le_refl _) _).alloc (by simp) _ | exact (((Below.refl _ _).alloc (Nat.le_refl _) _).alloc (by simp) _).drew | exact (Below.refl _ _).drew))) (fun e => by have := (HVQ.out W.heap.size e.symm).2; omega))
          obtain ⟨w6, HW6⟩ := nameIt (w5.setCell ⟨s + 2, 0, none⟩ (.slice (some ⟨ga, oa, none⟩) (L.length + 1) cga))
          have Q6 : w6.heap[s + 3]? = some (.cells #[.slice aq Q.length cq] 269 (0, 0)) := by rw [← HW6.out]; exact bx_other Q5 (by omega) _ _
          have j0 := bx_cells1 A5
          have j1 := bx_cells1 Q6
          have j2 := bx_free1 A5
          have j3 := bx_free1 Q6
          have HX5 : Hid ((fun w' => w'.cell? ⟨s + 2, 0, none⟩ = some (.slice aa L.length ca) ∧ w'.cell? ⟨s + 3, 0, none⟩ = some (.slice aq Q.length cq) ∧ w'.cell? ⟨W.heap.size, 0, none⟩ = some (.int .i64 i) ∧ w'.cell? ⟨W.heap.size, 0 + 1, none⟩ = some (.int .i64 d) ∧ w'.cell? ⟨W.heap.size, 0 + 2, none⟩ = some (.int .i64 l)) w5) := by
            have h6 := HS4.out _ (by first | exact Below.refl _ _ | exact (Below.refl _ _).alloc (Nat.le_refl _) _ | exact ((Below.refl _ _).alloc (Nat.le_refl _) _).drew | exact ((Below.refl _ _).alloc (Nat.le_refl _) _).alloc (by simp) _ | exact (((Below.refl _ _).alloc (Nat.le_refl _) _).alloc (by simp) _).drew | exact (Below.refl _ _).drew)
            have e5 : ∀ o, w5.cell? ⟨W.heap.size, o, none⟩ = _ := fun o => cell_of_block (o := o) hx5
            exact ⟨bx_cells1 A5, bx_cells1 Q5, (e5 0).trans (HS4.out _ (by first | exact Below.refl _ _ | exact (Below.refl _ _).alloc (Nat.le_refl _) _ | exact ((Below.refl _ _).alloc (Nat.le_refl _) _).drew | exact ((Below.refl _ _).alloc (Nat.le_refl _) _).alloc (by simp) _ | exact (((Below.refl _ _).alloc (Nat.le_refl _) _).alloc (by simp) _).drew | exact (Below.refl _ _).drew)).2.2.1, (e5 (0 + 1)).trans (HS4.out _ (by first | exact Below.refl _ _ | exact (Below.refl _ _).alloc (Nat.le_refl _) _ | exact ((Below.refl _ _).alloc (Nat.le_refl _) _).drew | exact ((Below.refl _ _).alloc (Nat.le_refl _) _).alloc (by simp) _ | exact (((Below.refl _ _).alloc (Nat.le_refl _) _).alloc (by simp) _).drew | exact (Below.refl _ _).drew)).2.2.2.1, (e5 (0 + 2)).trans (HS4.out _ (by first | exact Below.refl _ _ | exact (Below.refl _ _).alloc (Nat.le_refl _) _ | exact ((Below.refl _ _).alloc (Nat.le_refl _) _).drew | exact ((Below.refl _ _).alloc (Nat.le_refl _) _).alloc (by simp) _ | exact (((Below.refl _ _).alloc (Nat.le_refl _) _).alloc (by simp) _).drew | exact (Below.refl _ _).drew)).2.2.2.2⟩
          clear ho5 hg5 hat5 A5 Q5 Q6 hx5
          refine hK.out _ _ (fun _ => HX5.out) ?_
          clear hK K
          try simp only [Act.put, List.setIfInBounds_toArray, List.set_cons_zero, List.set_cons_succ]
          refine wpU_one (i := 8) (by kernel_rfl) rfl (fun K hK => ?_)
          go_simp
          rw [HW6.out]
          refine hK.out _ _ (fun h => absurd (show true = false from h) (by decide)) ?_
          clear hK K
          try simp only [Act.put, List.setIfInBounds_toArray, List.set_cons_zero, List.set_cons_succ]
          refine wpU_one (i := 9) (by kernel_rfl) rfl (fun K hK => ?_)
          go_simp
          refine hK.out _ _ (fun h => absurd (show true = false from h) (by decide)) ?_
          clear hK K
          try simp only [Act.put, List.setIfInBounds_toArray, List.set_cons_zero, List.set_cons_succ]
          refine wpU_done (by kernel_rfl) ?_ _
          rw [← HW6.out]
          have HE := Lib.hid (HFIN.out _ _ _ HRS5.out)
          go_wp2_with fail
          exact bodyPost_end (results_none Try.results178 _ _ _) rfl ⟨rfl, HE.out⟩
        · go_simp
          refine hK.out _ _ (fun _ => HS3.out _ (by first | exact Below.refl _ _ | exact (Below.refl _ _).alloc (Nat.le_refl _) _ | exact ((Below.refl _ _).alloc (Nat.le_refl _) _).drew | exact ((Below.refl _ _).alloc (Nat.le_refl _) _).alloc (by simp) _ | exact (((Below.refl _ _).alloc (Nat.le_refl _) _).alloc (by simp) _).drew | exact (Below.refl _ _).drew)) ?_
          clear hK K
          try simp only [Act.put, List.setIfInBounds_toArray, List.set_cons_zero, List.set_cons_succ]
          refine wpU_one (i := 3) (by kernel_rfl) rfl (fun K hK => ?_)
          refine step_appQ elItem (by rfl) _ _ (by rfl) (HRS.out.keep (by first | exact Below.refl _ _ | exact (Below.refl _ _).alloc (Nat.le_refl _) _ | exact ((Below.refl _ _).alloc (Nat.le_refl _) _).drew | exact ((Below.refl _ _).alloc (Nat.le_refl _) _).alloc (by simp) _ | exact (((Below.refl _ _).alloc (Nat.le_refl _) _).alloc (by simp) _).drew | exact (Below.refl _ _).drew)).rr.all (by rfl) (by rfl) (by first | exact bx_new _ _ _ rfl | exact bx_keep (w := w3.drew.alloc (.cells #[.int .i64 i, .int .i64 d, .int .i64 l] 271)) (bx_new _ _ _ rfl) ((Below.refl _ _).alloc (Nat.le_refl _) _) | exact bx_new _ _ _ (by simp)) (by rfl) (by rfl) (show (L.length + 1) * 24 ≤ 140737488355328 by omega) (show L.length + 1 ≤ maxLen by unfold maxLen; omega) (Nat.le_trans hle3 (Below.size (B := w3.heap.size) (by first | exact Below.refl _ _ | exact (Below.refl _ _).alloc (Nat.le_refl _) _ | exact ((Below.refl _ _).alloc (Nat.le_refl _) _).drew | exact ((Below.refl _ _).alloc (Nat.le_refl _) _).alloc (by simp) _ | exact (((Below.refl _ _).alloc (Nat.le_refl _) _).alloc (by simp) _).drew | exact (Below.refl _ _).drew))) ?_
          intro ga oa cga w4 ho4 hg4 hat4 hlt4
          have HRS4 := Lib.hid ((HRS.out.keep (by first | exact Below.refl _ _ | exact (Below.refl _ _).alloc (Nat.le_refl _) _ | exact ((Below.refl _ _).alloc (Nat.le_refl _) _).drew | exact ((Below.refl _ _).alloc (Nat.le_refl _) _).alloc (by simp) _ | exact (((Below.refl _ _).alloc (Nat.le_refl _) _).alloc (by simp) _).drew | exact (Below.refl _ _).drew)).appA (x := (i, d, l)) ho4 hg4 hat4)
          have HKO := Lib.hid hg4
          have hx4 := (hg4.block W.heap.size (Nat.lt_of_lt_of_le hw3 (Below.size (B := w3.heap.size) (by first | exact Below.refl _ _ | exact (Below.refl _ _).alloc (Nat.le_refl _) _ | exact ((Below.refl _ _).alloc (Nat.le_refl _) _).drew | exact ((Below.refl _ _).alloc (Nat.le_refl _) _).alloc (by simp) _ | exact (((Below.refl _ _).alloc (Nat.le_refl _) _).alloc (by simp) _).drew | exact (Below.refl _ _).drew))) (fun e => by have := (HVA.out W.heap.size e.symm).2; omega)).trans ((Below.block (B := w3.heap.size) (by first | exact Below.refl _ _ | exact (Below.refl _ _).alloc (Nat.le_refl _) _ | exact ((Below.refl _ _).alloc (Nat.le_refl _) _).drew | exact ((Below.refl _ _).alloc (Nat.le_refl _) _).alloc (by simp) _ | exact (((Below.refl _ _).alloc (Nat.le_refl _) _).alloc (by simp) _).drew | exact (Below.refl _ _).drew) W.heap.size hw3).trans X3.out)
          have hw34 : w3.heap.size ≤ w4.heap.size := HRS4.out.size
          have hS4 : ∀ W', Below w4.heap.size w4 W' → (fun w' => w'.cell? ⟨s + 2, 0, none⟩ = some (.slice aa L.length ca) ∧ w'.cell? ⟨s + 3, 0, none⟩ = some (.slice aq Q.length cq) ∧ w'.cell? ⟨W.heap.size, 0, none⟩ = some (.int .i64 i) ∧ w'.cell? ⟨W.heap.size, 0 + 1, none⟩ = some (.int .i64 d) ∧ w'.cell? ⟨W.heap.size, 0 + 2, none⟩ = some (.int .i64 l)) W' := fun W' hb => by
            obtain ⟨q0, q1, q2⟩ := bx_cells3 (bx_keep hx4 hb)
            exact ⟨(hb.cell (p := ⟨s + 2, 0, none⟩) (Nat.lt_of_lt_of_le hs32 hw34)).trans ((cell_of_block (HRS4.out.low (s + 2) (by omega))).trans c0), (hb.cell (p := ⟨s + 3, 0, none⟩) (Nat.lt_of_lt_of_le hs33 hw34)).trans ((cell_of_block (HRS4.out.low (s + 3) (by omega))).trans c1), q0, q1, q2⟩
          have HS4 := Lib.hid hS4
          clear ho4 hg4 hat4 hx4 hS4
          refine hK.out _ _ (fun _ => HS4.out _ (Below.refl _ _)) ?_
          clear hK K
          try simp only [Act.put, List.setIfInBounds_toArray, List.set_cons_zero, List.set_cons_succ]
          refine wpU_one (i := 7) (by kernel_rfl) rfl (fun K hK => ?_)
          refine step_appQ elItem (by rfl) _ _ (by rfl) (HRS4.out.keep (by first | exact Below.refl _ _ | exact (Below.refl _ _).alloc (Nat.le_refl _) _ | exact ((Below.refl _ _).alloc (Nat.le_refl _) _).drew | exact ((Below.refl _ _).alloc (Nat.le_refl _) _).alloc (by simp) _ | exact (((Below.refl _ _).alloc (Nat.le_refl _) _).alloc (by simp) _).drew | exact (Below.refl _ _).drew)).rr.row (by rfl) (by rfl) (by first | exact bx_new _ _ _ rfl | exact bx_new _ _ _ (by simp) | (refine (HKO.out.block _ (by simp <;> omega) (fun e => by have := (HVA.out _ e.symm).2; omega)).trans ?_; first | exact bx_new _ _ _ rfl | exact bx_keep (w := w3.drew.alloc (.cells #[.int .i64 i, .int .i64 d, .int .i64 l] 271)) (bx_new _ _ _ rfl) ((Below.refl _ _).alloc (Nat.le_refl _) _) | exact bx_new _ _ _ (by simp))) (by rfl) (by rfl) (show (Q.length + 1) * 24 ≤ 140737488355328 by omega) (show Q.length + 1 ≤ maxLen by unfold maxLen; omega) (Nat.le_trans hle3 (Nat.le_trans hw34 (Below.size (B := w4.heap.size) (by first | exact Below.refl _ _ | exact (Below.refl _ _).alloc (Nat.le_refl _) _ | exact ((Below.refl _ _).alloc (Nat.le_refl _) _).drew | exact ((Below.refl _ _).alloc (Nat.le_refl _) _).alloc (by simp) _ | exact (((Below.refl _ _).alloc (Nat.le_refl _) _).alloc (by simp) _).drew | exact (Below.refl _ _).drew)))) ?_
          intro gq oq cgq w5 ho5 hg5 hat5 hlt5
          have HRS5 := Lib.hid ((HRS4.out.keep (by first | exact Below.refl _ _ | exact (Below.refl _ _).alloc (Nat.le_refl _) _ | exact ((Below.refl _ _).alloc (Nat.le_refl _) _).drew | exact ((Below.refl _ _).alloc (Nat.le_refl _) _).alloc (by simp) _ | exact (((Below.refl _ _).alloc (Nat.le_refl _) _).alloc (by simp) _).drew | exact (Below.refl _ _).drew)).appQ (x := (i, d, l)) ho5 hg5 hat5)
          have HK5 := Lib.hid hg5
          have A5 := (HRS5.out.low (s + 2) (by omega)).trans A3.out
          have Q5 := (HRS5.out.low (s + 3) (by omega)).trans Q3.out
          have hx5 := (hg5.block W.heap.size (Nat.lt_of_lt_of_le (Nat.lt_of_lt_of_le hw3 hw34) (Below.size (B := w4.heap.size) (by first | exact Below.refl _ _ | exact (Below.refl _ _).alloc (Nat.le_refl _) _ | exact ((Below.refl _ _).alloc (Nat.le_refl _) _).drew | exact ((Below.refl _ _).alloc (Nat.le_refl _) _).alloc (by simp) _ | exact (((Below.refl _ _).alloc (Nat.le_refl _) _).alloc (by simp) _).drew | exact (Below.refl _ _).drew))) (fun e => by have := (HVQ.out W.heap.size e.symm).2; omega))
          obtain ⟨w6, HW6⟩ := nameIt (w5.setCell ⟨s + 2, 0, none⟩ (.slice (some ⟨ga, oa, none⟩) (L.length + 1) cga))
          have Q6 : w6.heap[s + 3]? = some (.cells #[.slice aq Q.length cq] 269 (0, 0)) := by rw [← HW6.out]; exact bx_other Q5 (by omega) _ _
          have j0 := bx_cells1 A5
          have j1 := bx_cells1 Q6
          have j2 := bx_free1 A5
          have j3 := bx_free1 Q6
          have HX5 : Hid ((fun w' => w'.cell? ⟨s + 2, 0, none⟩ = some (.slice aa L.length ca) ∧ w'.cell? ⟨s + 3, 0, none⟩ = some (.slice aq Q.length cq) ∧ w'.cell? ⟨W.heap.size, 0, none⟩ = some (.int .i64 i) ∧ w'.cell? ⟨W.heap.size, 0 + 1, none⟩ = some (.int .i64 d) ∧ w'.cell? ⟨W.heap.size, 0 + 2, none⟩ = some (.int .i64 l)) w5) := by
            have h6 := HS4.out _ (by first | exact Below.refl _ _ | exact (Below.refl _ _).alloc (Nat.le_refl _) _ | exact ((Below.refl _ _).alloc (Nat.le_refl _) _).drew | exact ((Below.refl _ _).alloc (Nat.le_refl _) _).alloc (by simp) _ | exact (((Below.refl _ _).alloc (Nat.le_refl _) _).alloc (by simp) _).drew | exact (Below.refl _ _).drew)
            have e5 : ∀ o, w5.cell? ⟨W.heap.size, o, none⟩ = _ := fun o => cell_of_block (o := o) hx5
            exact ⟨bx_cells1 A5, bx_cells1 Q5, (e5 0).trans (HS4.out _ (by first | exact Below.refl _ _ | exact (Below.refl _ _).alloc (Nat.le_refl _) _ | exact ((Below.refl _ _).alloc (Nat.le_refl _) _).drew | exact ((Below.refl _ _).alloc (Nat.le_refl _) _).alloc (by simp) _ | exact (((Below.refl _ _).alloc (Nat.le_refl _) _).alloc (by simp) _).drew | exact (Below.refl _ _).drew)).2.2.1, (e5 (0 + 1)).trans (HS4.out _ (by first | exact Below.refl _ _ | exact (Below.refl _ _).alloc (Nat.le_refl _) _ | exact ((Below.refl _ _).alloc (Nat.le_refl _) _).drew | exact ((Below.refl _ _).alloc (Nat.le_refl _) _).alloc (by simp) _ | exact (((Below.refl _ _).alloc (Nat.le_refl _) _).alloc (by simp) _).drew | exact (Below.refl _ _).drew)).2.2.2.1, (e5 (0 + 2)).trans (HS4.out _ (by first | exact Below.refl _ _ | exact (Below.refl _ _).alloc (Nat.le_refl _) _ | exact ((Below.refl _ _).alloc (Nat.le_refl _) _).drew | exact ((Below.refl _ _).alloc (Nat.le_refl _) _).alloc (by simp) _ | exact (((Below.refl _ _).alloc (Nat.le_refl _) _).alloc (by simp) _).drew | exact (Below.refl _ _).drew)).2.2.2.2⟩
          clear ho5 hg5 hat5 A5 Q5 Q6 hx5
          refine hK.out _ _ (fun _ => HX5.out) ?_
          clear hK K
          try simp only [Act.put, List.setIfInBounds_toArray, List.set_cons_zero, List.set_cons_succ]
          refine wpU_one (i := 8) (by kernel_rfl) rfl (fun K hK => ?_)
          go_simp
          rw [HW6.out]
          refine hK.out _ _ (fun h => absurd (show true = false from h) (by decide)) ?_
          clear hK K
          try simp only [Act.put, List.setIfInBounds_toArray, List.set_cons_zero, List.set_cons_succ]
          refine wpU_one (i := 9) (by kernel_rfl) rfl (fun K hK => ?_)
          go_simp
          refine hK.out _ _ (fun h => absurd (show true = false from h) (by decide)) ?_
          clear hK K
          try simp only [Act.put, List.setIfInBounds_toArray, List.set_cons_zero, List.set_cons_succ]
          refine wpU_done (by kernel_rfl) ?_ _
          rw [← HW6.out]
          have HE := Lib.hid (HFIN.out _ _ _ HRS5.out)
          go_wp2_with fail
          exact bodyPost_end (results_none Try.results178 _ _ _) rfl ⟨rfl, HE.out⟩
      · go_simp
        refine hK.out _ _ (fun _ => HS3.out _ (by first | exact Below.refl _ _ | exact (Below.refl _ _).alloc (Nat.le_refl _) _ | exact ((Below.refl _ _).alloc (Nat.le_refl _) _).drew | exact ((Below.refl _ _).alloc (Nat.le_refl _) _).alloc (by simp) _ | exact (((Below.refl _ _).alloc (Nat.le_refl _) _).alloc (by simp) _).drew | exact (Below.refl _ _).drew)) ?_
        clear hK K
        try simp only [Act.put, List.setIfInBounds_toArray, List.set_cons_zero, List.set_cons_succ]
        refine wpU_one (i := 2) (by kernel_rfl) rfl (fun K hK => ?_)
        go_simp
        refine hK.out _ _ (fun _ => HS3.out _ (by first | exact Below.refl _ _ | exact (Below.refl _ _).alloc (Nat.le_refl _) _ | exact ((Below.refl _ _).alloc (Nat.le_refl _) _).drew | exact ((Below.refl _ _).alloc (Nat.le_refl _) _).alloc (by simp) _ | exact (((Below.refl _ _).alloc (Nat.le_refl _) _).alloc (by simp) _).drew | exact (Below.refl _ _).drew)) ?_
        clear hK K
        try simp only [Act.put, List.setIfInBounds_toArray, List.set_cons_zero, List.set_cons_succ]
        refine wpU_one (i := 3) (by kernel_rfl) rfl (fun K hK => ?_)
        refine step_appQ elItem (by rfl) _ _ (by rfl) (HRS.out.keep (by first | exact Below.refl _ _ | exact (Below.refl _ _).alloc (Nat.le_refl _) _ | exact ((Below.refl _ _).alloc (Nat.le_refl _) _).drew | exact ((Below.refl _ _).alloc (Nat.le_refl _) _).alloc (by simp) _ | exact (((Below.refl _ _).alloc (Nat.le_refl _) _).alloc (by simp) _).drew | exact (Below.refl _ _).drew)).rr.all (by rfl) (by rfl) (by first | exact bx_new _ _ _ rfl | exact bx_keep (w := w3.drew.alloc (.cells #[.int .i64 i, .int .i64 d, .int .i64 l] 271)) (bx_new _ _ _ rfl) ((Below.refl _ _).alloc (Nat.le_refl _) _) | exact bx_new _ _ _ (by simp)) (by rfl) (by rfl) (show (L.length + 1) * 24 ≤ 140737488355328 by omega) (show L.length + 1 ≤ maxLen by unfold maxLen; omega) (Nat.le_trans hle3 (Below.size (B := w3.heap.size) (by first | exact Below.refl _ _ | exact (Below.refl _ _).alloc (Nat.le_refl _) _ | exact ((Below.refl _ _).alloc (Nat.le_refl _) _).drew | exact ((Below.refl _ _).alloc (Nat.le_refl _) _).alloc (by simp) _ | exact (((Below.refl _ _).alloc (Nat.le_refl _) _).alloc (by simp) _).drew | exact (Below.refl _ _).drew))) ?_
        intro ga oa cga w4 ho4 hg4 hat4 hlt4
        have HRS4 := Lib.hid ((HRS.out.keep (by first | exact Below.refl _ _ | exact (Below.refl _ _).alloc (Nat.le_refl _) _ | exact ((Below.refl _ _).alloc (Nat.le_refl _) _).drew | exact ((Below.refl _ _).alloc (Nat.le_refl _) _).alloc (by simp) _ | exact (((Below.refl _ _).alloc (Nat.le_refl _) _).alloc (by simp) _).drew | exact (Below.refl _ _).drew)).appA (x := (i, d, l)) ho4 hg4 hat4)
        have HKO := Lib.hid hg4
        have hx4 := (hg4.block W.heap.size (Nat.lt_of_lt_of_le hw3 (Below.size (B := w3.heap.size) (by first | exact Below.refl _ _ | exact (Below.refl _ _).alloc (Nat.le_refl _) _ | exact ((Below.refl _ _).alloc (Nat.le_refl _) _).drew | exact ((Below.refl _ _).alloc (Nat.le_refl _) _).alloc (by simp) _ | exact (((Below.refl _ _).alloc (Nat.le_refl _) _).alloc (by simp) _).drew | exact (Below.refl _ _).drew))) (fun e => by have := (HVA.out W.heap.size e.symm).2; omega)).trans ((Below.block (B := w3.heap.size) (by first | exact Below.refl _ _ | exact (Below.refl _ _).alloc (Nat.le_refl _) _ | exact ((Below.refl _ _).alloc (Nat.le_refl _) _).drew | exact ((Below.refl _ _).alloc (Nat.le_refl _) _).alloc (by simp) _ | exact (((Below.refl _ _).alloc (Nat.le_refl _) _).alloc (by simp) _).drew | exact (Below.refl _ _).drew) W.heap.size hw3).trans X3.out)
        have hw34 : w3.heap.size ≤ w4.heap.size := HRS4.out.size
        have hS4 : ∀ W', Below w4.heap.size w4 W' → (fun w' => w'.cell? ⟨s + 2, 0, none⟩ = some (.slice aa L.length ca) ∧ w'.cell? ⟨s + 3, 0, none⟩ = some (.slice aq Q.length cq) ∧ w'.cell? ⟨W.heap.size, 0, none⟩ = some (.int .i64 i) ∧ w'.cell? ⟨W.heap.size, 0 + 1, none⟩ = some (.int .i64 d) ∧ w'.cell? ⟨W.heap.size, 0 + 2, none⟩ = some (.int .i64 l)) W' := fun W' hb => by
          obtain ⟨q0, q1, q2⟩ := bx_cells3 (bx_keep hx4 hb)
          exact ⟨(hb.cell (p := ⟨s + 2, 0, none⟩) (Nat.lt_of_lt_of_le hs32 hw34)).trans ((cell_of_block (HRS4.out.low (s + 2) (by omega))).trans c0), (hb.cell (p := ⟨s + 3, 0, none⟩) (Nat.lt_of_lt_of_le hs33 hw34)).trans ((cell_of_block (HRS4.out.low (s + 3) (by omega))).trans c1), q0, q1, q2⟩
        have HS4 := Lib.hid hS4
        clear ho4 hg4 hat4 hx4 hS4
        refine hK.out _ _ (fun _ => HS4.out _ (Below.refl _ _)) ?_
        clear hK K
        try simp only [Act.put, List.setIfInBounds_toArray, List.set_cons_zero, List.set_cons_succ]
        refine wpU_one (i := 7) (by kernel_rfl) rfl (fun K hK => ?_)
        refine step_appQ elItem (by rfl) _ _ (by rfl) (HRS4.out.keep (by first | exact Below.refl _ _ | exact (Below.refl _ _).alloc (Nat.le_refl _) _ | exact ((Below.refl _ _).alloc (Nat.le_refl _) _).drew | exact ((Below.refl _ _).alloc (Nat.le_refl _) _).alloc (by simp) _ | exact (((Below.refl _ _).alloc (Nat.le_refl _) _).alloc (by simp) _).drew | exact (Below.refl _ _).drew)).rr.row (by rfl) (by rfl) (by first | exact bx_new _ _ _ rfl | exact bx_new _ _ _ (by simp) | (refine (HKO.out.block _ (by simp <;> omega) (fun e => by have := (HVA.out _ e.symm).2; omega)).trans ?_; first | exact bx_new _ _ _ rfl | exact bx_keep (w := w3.drew.alloc (.cells #[.int .i64 i, .int .i64 d, .int .i64 l] 271)) (bx_new _ _ _ rfl) ((Below.refl _ _).alloc (Nat.le_refl _) _) | exact bx_new _ _ _ (by simp))) (by rfl) (by rfl) (show (Q.length + 1) * 24 ≤ 140737488355328 by omega) (show Q.length + 1 ≤ maxLen by unfold maxLen; omega) (Nat.le_trans hle3 (Nat.le_trans hw34 (Below.size (B := w4.heap.size) (by first | exact Below.refl _ _ | exact (Below.refl _ _).alloc (Nat.le_refl _) _ | exact ((Below.refl _ _).alloc (Nat.le_refl _) _).drew | exact ((Below.refl _ _).alloc (Nat.le_refl _) _).alloc (by simp) _ | exact (((Below.refl _ _).alloc (Nat.le_refl _) _).alloc (by simp) _).drew | exact (Below.refl _ _).drew)))) ?_
        intro gq oq cgq w5 ho5 hg5 hat5 hlt5
        have HRS5 := Lib.hid ((HRS4.out.keep (by first | exact Below.refl _ _ | exact (Below.refl _ _).alloc (Nat.le_refl _) _ | exact ((Below.refl _ _).alloc (Nat.le_refl _) _).drew | exact ((Below.refl _ _).alloc (Nat.le_refl _) _).alloc (by simp) _ | exact (((Below.refl _ _).alloc (Nat.le_refl _) _).alloc (by simp) _).drew | exact (Below.refl _ _).drew)).appQ (x := (i, d, l)) ho5 hg5 hat5)
        have HK5 := Lib.hid hg5
        have A5 := (HRS5.out.low (s + 2) (by omega)).trans A3.out
        have Q5 := (HRS5.out.low (s + 3) (by omega)).trans Q3.out
        have hx5 := (hg5.block W.heap.size (Nat.lt_of_lt_of_le (Nat.lt_of_lt_of_le hw3 hw34) (Below.size (B := w4.heap.size) (by first | exact Below.refl _ _ | exact (Below.refl _ _).alloc (Nat.le_refl _) _ | exact ((Below.refl _ _).alloc (Nat.le_refl _) _).drew | exact ((Below.refl _ _).alloc (Nat.le_refl _) _).alloc (by simp) _ | exact (((Below.refl _ _).alloc (Nat.le_refl _) _).alloc (by simp) _).drew | exact (Below.refl _ _).drew))) (fun e => by have := (HVQ.out W.heap.size e.symm).2; omega))
        obtain ⟨w6, HW6⟩ := nameIt (w5.setCell ⟨s + 2, 0, none⟩ (.slice (some ⟨ga, oa, none⟩) (L.length + 1) cga))
        have Q6 : w6.heap[s + 3]? = some (.cells #[.slice aq Q.length cq] 269 (0, 0)) := by rw [← HW6.out]; exact bx_other Q5 (by omega) _ _
        have j0 := bx_cells1 A5
        have j1 := bx_cells1 Q6
        have j2 := bx_free1 A5
        have j3 := bx_free1 Q6
        have HX5 : Hid ((fun w' => w'.cell? ⟨s + 2, 0, none⟩ = some (.slice aa L.length ca) ∧ w'.cell? ⟨s + 3, 0, none⟩ = some (.slice aq Q.length cq) ∧ w'.cell? ⟨W.heap.size, 0, none⟩ = some (.int .i64 i) ∧ w'.cell? ⟨W.heap.size, 0 + 1, none⟩ = some (.int .i64 d) ∧ w'.cell? ⟨W.heap.size, 0 + 2, none⟩ = some (.int .i64 l)) w5) := by
          have h6 := HS4.out _ (by first | exact Below.refl _ _ | exact (Below.refl _ _).alloc (Nat.le_refl _) _ | exact ((Below.refl _ _).alloc (Nat.le_refl _) _).drew | exact ((Below.refl _ _).alloc (Nat.le_refl _) _).alloc (by simp) _ | exact (((Below.refl _ _).alloc (Nat.le_refl _) _).alloc (by simp) _).drew | exact (Below.refl _ _).drew)
          have e5 : ∀ o, w5.cell? ⟨W.heap.size, o, none⟩ = _ := fun o => cell_of_block (o := o) hx5
          exact ⟨bx_cells1 A5, bx_cells1 Q5, (e5 0).trans (HS4.out _ (by first | exact Below.refl _ _ | exact (Below.refl _ _).alloc (Nat.le_refl _) _ | exact ((Below.refl _ _).alloc (Nat.le_refl _) _).drew | exact ((Below.refl _ _).alloc (Nat.le_refl _) _).alloc (by simp) _ | exact (((Below.refl _ _).alloc (Nat.le_refl _) _).alloc (by simp) _).drew | exact (Below.refl _ _).drew)).2.2.1, (e5 (0 + 1)).trans (HS4.out _ (by first | exact Below.refl _ _ | exact (Below.refl _ _).alloc (Nat.le_refl _) _ | exact ((Below.refl _ _).alloc (Nat.le_refl _) _).drew | exact ((Below.refl _ _).alloc (Nat.le_refl _) _).alloc (by simp) _ | exact (((Below.refl _ _).alloc (Nat.le_refl _) _).alloc (by simp) _).drew | exact (Below.refl _ _).drew)).2.2.2.1, (e5 (0 + 2)).trans (HS4.out _ (by first | exact Below.refl _ _ | exact (Below.refl _ _).alloc (Nat.le_refl _) _ | exact ((Below.refl _ _).alloc (Nat.le_refl _) _).drew | exact ((Below.refl _ _).alloc (Nat.le_refl _) _).alloc (by simp) _ | exact (((Below.refl _ _).alloc (Nat.le_refl _) _).alloc (by simp) _).drew | exact (Below.refl _ _).drew)).2.2.2.2⟩
        clear ho5 hg5 hat5 A5 Q5 Q6 hx5
        refine hK.out _ _ (fun _ => HX5.out) ?_
        clear hK K
        try simp only [Act.put, List.setIfInBounds_toArray, List.set_cons_zero, List.set_cons_succ]
        refine wpU_one (i := 8) (by kernel_rfl) rfl (fun K hK => ?_)
        go_simp
        rw [HW6.out]
        refine hK.out _ _ (fun h => absurd (show true = false from h) (by decide)) ?_
        clear hK K
        try simp only [Act.put, List.setIfInBounds_toArray, List.set_cons_zero, List.set_cons_succ]
        refine wpU_one (i := 9) (by kernel_rfl) rfl (fun K hK => ?_)
        go_simp
        refine hK.out _ _ (fun h => absurd (show true = false from h) (by decide)) ?_
        clear hK K
        try simp only [Act.put, List.setIfInBounds_toArray, List.set_cons_zero, List.set_cons_succ]
        refine wpU_done (by kernel_rfl) ?_ _
        rw [← HW6.out]
        have HE := Lib.hid (HFIN.out _ _ _ HRS5.out)
        go_wp2_with fail
        exact bodyPost_end (results_none Try.results178 _ _ _) rfl ⟨rfl, HE.out⟩
  · have hln' : decide ((l : Int) ≤ (n : Int)) = false := by simp; omega
    have hlt2 : (n : Int) < (l : Int) := by omega
    have HF := Lib.hid (HNO.out (.inl hln))
    clear hln
    go_wp2_with fail
    exact bodyPost_end (results_none Try.results178 _ _ _) rfl ⟨rfl, HF.out⟩
end Ln
end Go.Proofs.Ytjehmleckcmilaa
