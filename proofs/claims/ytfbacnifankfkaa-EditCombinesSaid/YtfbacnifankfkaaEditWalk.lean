/- Contracts of package edit and of its second implementation: Check, Apply, Inverse; EditFault, Edited, SameEdit. -/
import Derived.Test.YtfbacnifankfkaaSlicesTwo
import Derived.StillTailTactics
import Derived.Deep.RegionHeld3
import Derived.RegionTactic
namespace Go.Proofs.Ytfbacnifankfkaa
open Go.RowKit

/-- the error of an edit of a word of n elements -/
def fault (n f t k : Int) : Int := if f < 0 ∨ t < f ∨ n < t then 1 else if 2000 < n - (t - f) + k then 2 else 0

/-- the value of an edit -/
def edV (f t : Int) (nv : Value) : Value := .agg #[.int .i64 f, .int .i64 t, nv]

set_option maxHeartbeats 400000 in
theorem check (n f t : Int) (a : Option Addr) (k cap : Nat) (w : World) (hn : 0 ≤ n) (hn2 : n ≤ 140737488355328) (hk : k ≤ 140737488355328) :
    Calls Try.prog 27 #[.int .i64 n, .agg #[.int .i64 f, .int .i64 t, .slice a k cap]] w fun e w' => e = .returned (.int .i64 (fault n f t k)) ∧ Below w.heap.size w w' := by
  by_cases h1 : f < 0
  · have H : Hid (fault n f t k = 1) := if_pos (by omega)
    go_enter Try.func27, Try.ntmps27
    go_wp2
    go_ret
    rw [H.out]
    exact ⟨rfl, (Below.refl _ _).alloc (Nat.le_refl _) _⟩
  · by_cases h2 : t < f
    · have H : Hid (fault n f t k = 1) := if_pos (by omega)
      go_enter Try.func27, Try.ntmps27
      go_wp2
      go_ret
      rw [H.out]
      exact ⟨rfl, (Below.refl _ _).alloc (Nat.le_refl _) _⟩
    · by_cases h3 : n < t
      · have H : Hid (fault n f t k = 1) := if_pos (by omega)
        go_enter Try.func27, Try.ntmps27
        go_wp2
        go_ret
        rw [H.out]
        exact ⟨rfl, (Below.refl _ _).alloc (Nat.le_refl _) _⟩
      · by_cases h4 : 2000 < n - (t - f) + k
        · have H : Hid (fault n f t k = 2) := by unfold fault; rw [if_neg (by omega), if_pos h4]; rfl
          go_enter Try.func27, Try.ntmps27
          go_wp2
          go_ret
          rw [H.out]
          exact ⟨rfl, (Below.refl _ _).alloc (Nat.le_refl _) _⟩
        · have H : Hid (fault n f t k = 0) := by unfold fault; rw [if_neg (by omega), if_neg h4]; rfl
          go_enter Try.func27, Try.ntmps27
          go_wp2
          go_ret
          rw [H.out]
          exact ⟨rfl, (Below.refl _ _).alloc (Nat.le_refl _) _⟩

set_option maxHeartbeats 400000 in
theorem editFault (n f t : Int) (a : Option Addr) (k cap : Nat) (w : World) (hn : 0 ≤ n) (hn2 : n ≤ 140737488355328) (hk : k ≤ 140737488355328) :
    Calls Try.prog 25 #[.int .i64 n, .agg #[.int .i64 f, .int .i64 t, .slice a k cap]] w fun e w' => e = .returned (.int .i64 (fault n f t k)) ∧ Below w.heap.size w w' := by
  by_cases h1 : f < 0
  · have H : Hid (fault n f t k = 1) := if_pos (by omega)
    go_enter Try.func25, Try.ntmps25
    go_wp2
    go_ret
    rw [H.out]
    exact ⟨rfl, (Below.refl _ _).alloc (Nat.le_refl _) _⟩
  · by_cases h2 : t < f
    · have H : Hid (fault n f t k = 1) := if_pos (by omega)
      go_enter Try.func25, Try.ntmps25
      go_wp2
      go_ret
      rw [H.out]
      exact ⟨rfl, (Below.refl _ _).alloc (Nat.le_refl _) _⟩
    · by_cases h3 : n < t
      · have H : Hid (fault n f t k = 1) := if_pos (by omega)
        go_enter Try.func25, Try.ntmps25
        go_wp2
        go_ret
        rw [H.out]
        exact ⟨rfl, (Below.refl _ _).alloc (Nat.le_refl _) _⟩
      · by_cases h4 : 2000 < n - (t - f) + k
        · have H : Hid (fault n f t k = 2) := by unfold fault; rw [if_neg (by omega), if_pos h4]; rfl
          have h5 : (2000 : Int) - n < (k : Int) - (t - f) := by omega
          go_enter Try.func25, Try.ntmps25
          go_wp2
          go_ret
          rw [H.out]
          exact ⟨rfl, (Below.refl _ _).alloc (Nat.le_refl _) _⟩
        · have H : Hid (fault n f t k = 0) := by unfold fault; rw [if_neg (by omega), if_neg h4]; rfl
          have h5 : ¬ (2000 : Int) - n < (k : Int) - (t - f) := by omega
          go_enter Try.func25, Try.ntmps25
          go_wp2
          go_ret
          rw [H.out]
          exact ⟨rfl, (Below.refl _ _).alloc (Nat.le_refl _) _⟩

/-- the word behind an edit -/
def edited (l : List Int) (f t : Nat) (n : List Int) : List Int := l.take f ++ n ++ l.drop t

theorem edited_flatten (l : List Int) (f t : Nat) (n : List Int) : edited l f t n = [l.take f, n, l.drop t].flatten := by simp [edited]

set_option maxHeartbeats 1000000 in
set_option maxRecDepth 100000 in
theorem apply_in (a : Option Addr) (cap : Nat) (l : List Int) (f t : Nat) (an : Option Addr) (cn : Nat) (n : List Int) (w : World) (hl : Sl w (.slice a l.length cap) (ints l)) (hn : Sl w (.slice an n.length cn) (ints n)) (hft : f ≤ t) (ht : t ≤ l.length)
    (hb : (f + n.length + (l.length - t)) * 8 ≤ 140737488355328) :
    Calls Try.prog 83 #[.slice a l.length cap, .agg #[.int .i64 f, .int .i64 t, .slice an n.length cn]] w (NewInts (edited l f t n) w) := by
  have hc := hl.len.2
  unfold maxLen at hc
  obtain ⟨hc1, hc2⟩ := hc
  obtain ⟨vs, HVS, HSL⟩ : ∃ vs, Hid (vs = Value.slice (if cap = t then a else a.map fun x => x.add t) (l.length - t) (cap - t)) ∧ Hid (Sl w vs (ints (l.drop t))) := by
    refine ⟨_, rfl, ?_⟩
    have e : ints (l.drop t) = ((ints l).drop t).take (l.length - t) := by rw [List.take_of_length_le (by simp [ints])]; simp [ints]
    rw [e]
    exact hl.part ht (Nat.le_refl _)
  have HST : Hid (Sl w (.slice a f cap) (ints (l.take f))) := by
    have e : ints (l.take f) = (ints l).take f := by simp [ints]
    rw [e]; exact hl.start (by omega)
  have HN := Lib.hid hn
  have h1 : (f : Int) ≤ (cap : Int) := by omega
  have h2 : (t : Int) ≤ (l.length : Int) := by omega
  have HF := Lib.hid (edited_flatten l f t n)
  have HLN : Hid (lens [l.take f, n, l.drop t] * 8 ≤ 140737488355328) := by
    show _ ≤ _
    simp [lens]; omega
  have hB := (Below.refl w.heap.size w).alloc (Nat.le_refl _) (.cells #[.int .i64 f, .int .i64 t, .slice an n.length cn] 48)
  clear hl hn
  by_cases hct : cap = t
  all_goals
    first | (rw [if_pos hct] at HVS; subst hct; rw [show l.length - cap = 0 by omega, Nat.sub_self] at HVS) | rw [if_neg hct] at HVS
    go_enter Try.func83, Try.ntmps83
    go_wp2
    refine wp_region_still_tail 10 (by kernel_rfl) (by kernel_rfl) ?_
    simp only [List.take_succ_cons, List.take_zero, List.drop_succ_cons, List.drop_zero]
    change wpStill _ _ (World.drew _) _ _ _
    repeat still_step
    refine wpStill_nil ?_
    change wpList _ _ _ _ _ (World.drew _)
    go_wp2_with fail
    refine (concat3 (w.alloc _) _ _ _ _ _ (l.take f) n (l.drop _) (by simp) (HST.out.keep hB) (HN.out.keep hB) (by have h := HSL.out; rw [HVS.out] at h; exact h.keep hB) HLN.out).mono ?_
    rintro e w1 ⟨a1, k1, rfl, ho, hb1⟩
    rw [← HF.out] at ho ⊢
    have HO := Lib.hid (ho.mono hB.size)
    have HB := Lib.hid (hB.trans (hb1.mono hB.size))
    clear ho hb1
    go_wp2
    go_ret
    exact newInts_of HO.out HB.out

def ApplyPost (l : List Int) (f t : Int) (n : List Int) (w : World) (e : Ending) (w' : World) : Prop :=
  ∃ v, e = .returned (.tuple #[v, .int .i64 (fault l.length f t n.length)]) ∧ Sl w' v (ints (if fault l.length f t n.length = 0 then edited l f.toNat t.toNat n else [])) ∧ Below w.heap.size w w'

theorem fault_zero {n f t k : Int} (h : fault n f t k = 0) : 0 ≤ f ∧ f ≤ t ∧ t ≤ n ∧ n - (t - f) + k ≤ 2000 := by
  unfold fault at h
  by_cases h1 : f < 0 ∨ t < f ∨ n < t
  · rw [if_pos h1] at h; cases h
  · rw [if_neg h1] at h
    by_cases h2 : 2000 < n - (t - f) + k
    · rw [if_pos h2] at h; cases h
    · omega

set_option maxHeartbeats 1000000 in
set_option maxRecDepth 100000 in
theorem applyE (a : Option Addr) (cap : Nat) (l : List Int) (f t : Int) (an : Option Addr) (cn : Nat) (n : List Int) (w : World) (hl : Sl w (.slice a l.length cap) (ints l)) (hn : Sl w (.slice an n.length cn) (ints n))
    (hbl : l.length * 8 ≤ 140737488351232) (hbn : n.length * 8 ≤ 140737488351232) :
    Calls Try.prog 24 #[.slice a l.length cap, .agg #[.int .i64 f, .int .i64 t, .slice an n.length cn]] w (ApplyPost l f t n w) := by
  have HL := Lib.hid hl
  have HN := Lib.hid hn
  have hc := hl.len.2
  unfold maxLen at hc
  obtain ⟨hc1, hc2⟩ := hc
  have HB0 := Lib.hid ((Below.refl w.heap.size w).alloc (Nat.le_refl _) (.cells #[.int .i64 f, .int .i64 t, .slice an n.length cn] 48))
  clear hl hn
  obtain ⟨F, HF⟩ : ∃ F, Hid (fault l.length f t n.length = F) := ⟨_, rfl⟩
  go_enter Try.func24, Try.ntmps24
  go_wp2_with fail
  refine (check l.length f t an n.length cn _ (by omega) (by omega) (by omega)).mono ?_
  rintro e w1 ⟨rfl, hb1⟩
  rw [HF.out]
  have HB1 := Lib.hid (HB0.out.trans (hb1.mono HB0.out.size))
  have hcell : ∀ j, j < 3 → w1.cell? ⟨w.heap.size, j, none⟩ = (w.alloc (.cells #[.int .i64 f, .int .i64 t, .slice an n.length cn] 48)).cell? ⟨w.heap.size, j, none⟩ := fun j _ => hb1.cell (p := ⟨w.heap.size, j, none⟩) (by simp)
  have c0 : w1.cell? ⟨w.heap.size, 0, none⟩ = some (.int .i64 f) := by rw [hcell 0 (by omega)]; simp [go_sem]
  have c1 : w1.cell? ⟨w.heap.size, 0 + 1, none⟩ = some (.int .i64 t) := by rw [hcell 1 (by omega)]; simp [go_sem]
  have c2 : w1.cell? ⟨w.heap.size, 0 + 2, none⟩ = some (.slice an n.length cn) := by rw [hcell 2 (by omega)]; simp [go_sem]
  clear hb1 hcell
  by_cases h0 : F = 0
  · subst h0
    obtain ⟨z1, z2, z3, z4⟩ := fault_zero HF.out
    obtain ⟨f', rfl⟩ := Int.eq_ofNat_of_zero_le z1
    obtain ⟨t', rfl⟩ := Int.eq_ofNat_of_zero_le (show 0 ≤ t by omega)
    go_wp2_with fail
    refine (apply_in a cap l f' t' an cn n w1 (HL.out.keep HB1.out) (HN.out.keep HB1.out) (by omega) (by omega) (by omega)).mono ?_
    rintro e w2 ⟨a2, k2, rfl, ho, hb2⟩
    have HP : Hid (ApplyPost l f' t' n w (.returned (.tuple #[.slice a2 (edited l f' t' n).length k2, .int .i64 0])) w2) := by
      refine ⟨_, by rw [HF.out], ?_, HB1.out.trans (hb2.mono HB1.out.size)⟩
      rw [HF.out, if_pos rfl, Int.toNat_natCast, Int.toNat_natCast]
      exact sl_of_own ho
    clear ho hb2
    go_wp2_with fail
    go_ret2
    exact HP.out
  · have hne : (F != 0) = true := by rw [bne_iff_ne]; exact h0
    have HP : Hid (ApplyPost l f t n w (.returned (.tuple #[.slice none 0 0, .int .i64 F])) w1) := by
      refine ⟨_, by rw [HF.out], ?_, HB1.out⟩
      rw [HF.out, if_neg h0]
      exact sl_of_own (World.ownsRow_nil _ 0 0 1)
    have H0 := Lib.hid h0
    clear h0 c0 c1 c2
    go_wp2_with fail
    go_ret2
    exact HP.out

/-- what edit.Inverse leaves -/
def InvPost (l : List Int) (f t : Int) (n : List Int) (w : World) (e : Ending) (w' : World) : Prop :=
  ∃ nv, e = .returned (.tuple #[if fault l.length f t n.length = 0 then .agg #[.int .i64 f, .int .i64 (f + n.length), nv] else .agg #[.int .i64 0, .int .i64 0, nv], .int .i64 (fault l.length f t n.length)]) ∧
    Sl w' nv (ints (if fault l.length f t n.length = 0 then (l.drop f.toNat).take (t.toNat - f.toNat) else [])) ∧ Below w.heap.size w w'

theorem box_cells {w w1 : World} {cs : Array Value} {T : TypeId} (hb : Below (w.alloc (.cells cs T)).heap.size (w.alloc (.cells cs T)) w1) (j : Nat) : w1.cell? ⟨w.heap.size, j, none⟩ = cs[j]? := by
  rw [hb.cell (p := ⟨w.heap.size, j, none⟩) (by simp)]
  have hh : (w.alloc (.cells cs T)).heap[w.heap.size]? = some (.cells cs T (0, 0)) := heap_alloc_new w _
  simp only [World.cell?, hh]
  simp

set_option maxHeartbeats 1000000 in
set_option maxRecDepth 100000 in
theorem inverseE (a : Option Addr) (cap : Nat) (l : List Int) (f t : Int) (an : Option Addr) (cn : Nat) (n : List Int) (w : World) (hl : Sl w (.slice a l.length cap) (ints l)) (hn : Sl w (.slice an n.length cn) (ints n))
    (hbl : l.length * 8 ≤ 140737488351232) (hbn : n.length * 8 ≤ 140737488351232) :
    Calls Try.prog 26 #[.slice a l.length cap, .agg #[.int .i64 f, .int .i64 t, .slice an n.length cn]] w (InvPost l f t n w) := by
  have HL := Lib.hid hl
  have HN := Lib.hid hn
  have hc := hl.len.2
  unfold maxLen at hc
  obtain ⟨hc1, hc2⟩ := hc
  clear hl hn
  obtain ⟨F, HF⟩ : ∃ F, Hid (fault l.length f t n.length = F) := ⟨_, rfl⟩
  go_enter Try.func26, Try.ntmps26
  go_wp2_with fail
  refine (check l.length f t an n.length cn _ (by omega) (by omega) (by omega)).mono ?_
  rintro e w1 ⟨rfl, hb1⟩
  rw [HF.out]
  obtain ⟨c0, c1, c2, d0, d1, d2, hsz, HB1⟩ : w1.cell? ⟨w.heap.size, 0, none⟩ = some (.int .i64 f) ∧ w1.cell? ⟨w.heap.size, 0 + 1, none⟩ = some (.int .i64 t) ∧ w1.cell? ⟨w.heap.size, 0 + 2, none⟩ = some (.slice an n.length cn) ∧
      w1.heap[w.heap.size + 1]? = some (.cells #[.int .i64 0, .int .i64 0, .slice none 0 0] 48 (0, 0)) ∧ True ∧ True ∧ w.heap.size + 1 < w1.heap.size ∧ Hid (Below w.heap.size w w1) := by
    have hB0 := ((Below.refl w.heap.size w).alloc (Nat.le_refl _) (.cells #[.int .i64 f, .int .i64 t, .slice an n.length cn] 48)).alloc (by simp) (.cells #[.int .i64 0, .int .i64 0, .slice none 0 0] 48)
    have hs := hb1.size
    simp at hs
    refine ⟨?_, ?_, ?_, ?_, trivial, trivial, by omega, hB0.trans (hb1.mono (by simp; omega))⟩
    · rw [hb1.cell (p := ⟨w.heap.size, 0, none⟩) (by simp; omega)]; simp [go_sem]
    · rw [hb1.cell (p := ⟨w.heap.size, 0 + 1, none⟩) (by simp; omega)]; simp [go_sem]
    · rw [hb1.cell (p := ⟨w.heap.size, 0 + 2, none⟩) (by simp; omega)]; simp [go_sem]
    · rw [hb1.block _ (by simp)]
      have := heap_alloc_new (w.alloc (.cells #[.int .i64 f, .int .i64 t, .slice an n.length cn] 48)) (.cells #[.int .i64 0, .int .i64 0, .slice none 0 0] 48)
      simpa using this
  have D0 := Lib.hid d0
  clear hb1 d0 d1 d2
  have e0 : w1.cell? ⟨w.heap.size + 1, 0, none⟩ = some (.int .i64 0) := by simp [World.cell?, D0.out]
  have e1 : w1.cell? ⟨w.heap.size + 1, 0 + 1, none⟩ = some (.int .i64 0) := by simp [World.cell?, D0.out]
  have e2 : w1.cell? ⟨w.heap.size + 1, 0 + 2, none⟩ = some (.slice none 0 0) := by simp [World.cell?, D0.out]
  have f0 : ∀ j, w1.frozen? ⟨w.heap.size + 1, j, none⟩ = false := fun j => by simp [World.frozen?, D0.out]
  have f1 := f0 0
  have f2 := f0 (0 + 1)
  have f3 := f0 (0 + 2)
  clear f0
  by_cases h0 : F = 0
  · subst h0
    obtain ⟨z1, z2, z3, z4⟩ := fault_zero HF.out
    obtain ⟨f', rfl⟩ := Int.eq_ofNat_of_zero_le z1
    obtain ⟨t', rfl⟩ := Int.eq_ofNat_of_zero_le (show 0 ≤ t by omega)
    obtain ⟨vs, HVS, HSL⟩ : ∃ vs, Hid (vs = Value.slice (if cap = f' then a else a.map fun x => x.add f') (t' - f') (cap - f')) ∧ Hid (Sl w1.drew vs (ints ((l.drop f').take (t' - f')))) := by
      refine ⟨_, rfl, ?_⟩
      have e : ints ((l.drop f').take (t' - f')) = ((ints l).drop f').take (t' - f') := by simp [ints]
      rw [e]
      exact (HL.out.keep HB1.out).part (by omega) (by omega)
    have hlen : ((l.drop f').take (t' - f')).length * 8 ≤ 140737488355328 := by simp; omega
    obtain ⟨X, HX⟩ : ∃ X, Hid ((l.drop f').take (t' - f') = X) := ⟨_, rfl⟩
    rw [HX.out] at hlen HSL
    have HCL := Lib.hid (clone_int vs _ _ HSL.out hlen)
    have i1 : (f' : Int) ≤ (t' : Int) := by omega
    have i2 : (t' : Int) ≤ (cap : Int) := by omega
    have hneF : ((0 : Int) != 0) = false := by decide
    have hwr : IntKind.i64.wrap ((f' : Int) + (n.length : Int)) = (f' : Int) + (n.length : Int) := IntWalk.i64_in _ (by omega)
    clear hlen HSL
    by_cases hct : cap = f'
    all_goals
      first | (rw [if_pos hct] at HVS; have hct' := hct.symm; subst hct'; rw [Nat.sub_self] at HVS) | rw [if_neg hct] at HVS
      rw [HVS.out] at HCL
      go_wp2_with fail
      go_region_held3 (fun w' => w'.cell? ⟨w.heap.size, 0, none⟩ = w1.cell? ⟨w.heap.size, 0, none⟩ ∧ w'.cell? ⟨w.heap.size, 0 + 1, none⟩ = w1.cell? ⟨w.heap.size, 0 + 1, none⟩ ∧ w'.cell? ⟨w.heap.size, 0 + 2, none⟩ = w1.cell? ⟨w.heap.size, 0 + 2, none⟩) (first | go_keep | exact ⟨q0, q1, q2⟩)
        (first | (go_at_call 84; refine HCL.out.mono ?_; rintro e w2 ⟨a2, k2, rfl, ho2, hb2⟩; have q0 := hb2.cell (p := ⟨w.heap.size, 0, none⟩) (by show w.heap.size < w1.heap.size; omega); have q1 := hb2.cell (p := ⟨w.heap.size, 0 + 1, none⟩) (by show w.heap.size < w1.heap.size; omega); have q2 := hb2.cell (p := ⟨w.heap.size, 0 + 2, none⟩) (by show w.heap.size < w1.heap.size; omega); have d2 := hb2.block (w.heap.size + 1) hsz; have HO2 := Lib.hid ho2; have HB2 := Lib.hid hb2; have D2 : Hid _ := d2.trans D0.out; have e0' : w2.cell? ⟨w.heap.size + 1, 0, none⟩ = some (.int .i64 0) := (by simp [World.cell?, D2.out]); have e1' : w2.cell? ⟨w.heap.size + 1, 0 + 1, none⟩ = some (.int .i64 0) := (by simp [World.cell?, D2.out]); have e2' : w2.cell? ⟨w.heap.size + 1, 0 + 2, none⟩ = some (.slice none 0 0) := (by simp [World.cell?, D2.out]); have f1' : w2.frozen? ⟨w.heap.size + 1, 0, none⟩ = false := (by simp [World.frozen?, D2.out]); have f2' : w2.frozen? ⟨w.heap.size + 1, 0 + 1, none⟩ = false := (by simp [World.frozen?, D2.out]); have f3' : w2.frozen? ⟨w.heap.size + 1, 0 + 2, none⟩ = false := (by simp [World.frozen?, D2.out]); clear ho2 hb2 d2))
      go_wp2
      refine bodyPost_ret (v := .tuple #[.agg #[.int .i64 f', .int .i64 (f' + n.length), .slice a2 X.length k2], .int .i64 0]) (by simp [results, Try.results26, go_sem, e0', e1', e2']) rfl ?_
      refine ⟨_, by rw [HF.out, if_pos rfl], ?_, ?_⟩
      · rw [HF.out, if_pos rfl, Int.toNat_natCast, Int.toNat_natCast, HX.out]
        have hg1 := (grown_cell w2 ⟨w.heap.size + 1, 0, none⟩ (.int .i64 f'))
        have hg2 := (grown_cell (w2.setCell ⟨w.heap.size + 1, 0, none⟩ (.int .i64 f')) ⟨w.heap.size + 1, 1, none⟩ (.int .i64 (f' + n.length)))
        have hg3 := (grown_cell ((w2.setCell ⟨w.heap.size + 1, 0, none⟩ (.int .i64 f')).setCell ⟨w.heap.size + 1, 1, none⟩ (.int .i64 (f' + n.length))) ⟨w.heap.size + 1, 2, none⟩ (.slice a2 X.length k2))
        refine sl_of_own (HO2.out.kept (grown_trans (grown_trans hg1 hg2) hg3) (.inr fun e => ?_))
        have h5 := (HO2.out.lt _ e).1
        have h6 : w1.heap.size ≤ w.heap.size + 1 := h5
        omega
      · have h7 : Below w.heap.size w w2 := HB1.out.drew.trans (HB2.out.mono (by show w.heap.size ≤ w1.heap.size; omega))
        exact ((h7.setCell (by simp) _).setCell (by simp) _).setCell (by simp) _
  · have hne : (F != 0) = true := by rw [bne_iff_ne]; exact h0
    have H0 := Lib.hid h0
    clear h0 c0 c1 c2
    go_wp2_with fail
    refine bodyPost_ret (v := .tuple #[.agg #[.int .i64 0, .int .i64 0, .slice none 0 0], .int .i64 F]) (by simp [results, Try.results26, go_sem, e0, e1, e2]) rfl ?_
    refine ⟨.slice none 0 0, by rw [HF.out, if_neg H0.out], ?_, ?_⟩
    · rw [HF.out, if_neg H0.out]
      exact sl_of_own (World.ownsRow_nil _ 0 0 1)
    · exact ((HB1.out.setCell (by simp) _).setCell (by simp) _).setCell (by simp) _

def sameEd (f1 t1 : Int) (l1 : List Int) (f2 t2 : Int) (l2 : List Int) : Bool := f1 == f2 && (t1 == t2 && l1 == l2)

set_option maxHeartbeats 1000000 in
set_option maxRecDepth 100000 in
theorem sameEdit (f1 t1 f2 t2 : Int) (v1 v2 : Value) (l1 l2 : List Int) (w : World) (h1 : Sl w v1 (ints l1)) (h2 : Sl w v2 (ints l2)) :
    Calls Try.prog 28 #[.agg #[.int .i64 f1, .int .i64 t1, v1], .agg #[.int .i64 f2, .int .i64 t2, v2]] w fun e w' => e = .returned (.bool (sameEd f1 t1 l1 f2 t2 l2)) ∧ Below w.heap.size w w' := by
  have hB := ((Below.refl w.heap.size w).alloc (Nat.le_refl _) (.cells #[.int .i64 f1, .int .i64 t1, v1] 48)).alloc (by simp) (.cells #[.int .i64 f2, .int .i64 t2, v2] 48)
  have HB := Lib.hid hB
  have H1 := Lib.hid (h1.keep hB)
  have H2 := Lib.hid (h2.keep hB)
  obtain ⟨a1, c1, rfl⟩ := h1.form
  obtain ⟨a2, c2, rfl⟩ := h2.form
  clear hB h1 h2
  rw [ints_len] at *
  by_cases hf : f1 = f2
  · subst hf
    by_cases ht : t1 = t2
    · subst ht
      have b1 : (f1 == f1) = true := by simp
      have b2 : (t1 == t1) = true := by simp
      go_enter Try.func28, Try.ntmps28
      go_wp2_with fail
      refine (equal _ _ l1 l2 _ H1.out H2.out).mono ?_
      rintro e w1 ⟨rfl, hb1⟩
      have HB1 := Lib.hid (HB.out.trans (hb1.mono HB.out.size))
      have HE : Hid (sameEd f1 t1 l1 f1 t1 l2 = (l1 == l2)) := by simp [sameEd, Hid]
      clear hb1
      go_wp2_with fail
      go_ret
      rw [HE.out]
      exact ⟨rfl, HB1.out⟩
    · have HE : Hid (sameEd f1 t1 l1 f1 t2 l2 = false) := by simp [sameEd, Hid, ht]
      have b1 : (f1 == f1) = true := by simp
      have b2 : (t1 == t2) = false := by simp [ht]
      have HT := Lib.hid ht
      clear ht
      go_enter Try.func28, Try.ntmps28
      go_wp2_with fail
      go_ret
      rw [HE.out]
      exact ⟨rfl, HB.out⟩
  · have HE : Hid (sameEd f1 t1 l1 f2 t2 l2 = false) := by simp [sameEd, Hid, hf]
    have b1 : (f1 == f2) = false := by simp [hf]
    have HT := Lib.hid hf
    clear hf
    go_enter Try.func28, Try.ntmps28
    go_wp2_with fail
    go_ret
    rw [HE.out]
    exact ⟨rfl, HB.out⟩

theorem edited_parts (l : List Int) (k t : Nat) (n : List Int) : ints (edited l k t n) = ints (l.take k) ++ ints n ++ ints ((l.drop t).take (l.length - t)) := by
  have : (l.drop t).take (l.length - t) = l.drop t := List.take_of_length_le (by simp)
  rw [this]; simp [edited, ints]

theorem take_more {l : List Int} {k : Nat} (h : k < l.length) : ints (l.take (k + 1)) = ints (l.take k) ++ [.int .i64 l[k]] := by
  rw [List.take_succ_eq_append_getElem h, ints_append]; rfl

set_option maxHeartbeats 1000000 in
set_option maxRecDepth 100000 in
theorem editedR (a : Option Addr) (cap : Nat) (l : List Int) (f t : Nat) (an : Option Addr) (cn : Nat) (n : List Int) (w : World) (hl : Sl w (.slice a l.length cap) (ints l)) (hn : Sl w (.slice an n.length cn) (ints n)) (hft : f ≤ t) (ht : t ≤ l.length)
    (hb : (f + n.length + (l.length - t)) * 8 ≤ 140737488355328) (hbl : l.length * 8 ≤ 140737488351232) :
    Calls Try.prog 29 #[.slice a l.length cap, .agg #[.int .i64 f, .int .i64 t, .slice an n.length cn]] w (NewInts (edited l f t n) w) := by
  have hB := (Below.refl w.heap.size w).alloc (Nat.le_refl _) (.cells #[.int .i64 f, .int .i64 t, .slice an n.length cn] 48)
  have HL := Lib.hid hl
  have HN := Lib.hid hn
  have hcells : ∀ wr, Below (w.alloc (.cells #[.int .i64 f, .int .i64 t, .slice an n.length cn] 48)).heap.size (w.alloc (.cells #[.int .i64 f, .int .i64 t, .slice an n.length cn] 48)) wr → wr.cell? ⟨w.heap.size, 0 + 1, none⟩ = some (.int .i64 t) ∧ wr.cell? ⟨w.heap.size, 0 + 2, none⟩ = some (.slice an n.length cn) :=
    fun wr h => ⟨by rw [box_cells h]; rfl, by rw [box_cells h]; rfl⟩
  have HC := Lib.hid hcells
  have HB0 := Lib.hid hB
  have hs0 : w.heap.size + 1 = (w.alloc (.cells #[.int .i64 f, .int .i64 t, .slice an n.length cn] 48)).heap.size := by simp
  have HS0 := Lib.hid hs0
  clear hl hn hB hcells hs0
  go_enter Try.func29, Try.ntmps29
  go_wp2
  generalize w.alloc (.cells #[.int .i64 f, .int .i64 t, .slice an n.length cn] 48) = w0 at *
  go_loopw [5, 10] (fun m i wr => ∃ k : Nat, k ≤ f ∧ i = .int .i64 k ∧ Hid (wr.ownsRow w0.heap.size 3 1 m k (ints (l.take k))) ∧ Hid (Below w0.heap.size w0 wr)) (fun _ i _ => f - (intOf i).toNat)
  case atStart => exact ⟨0, by omega, rfl, World.ownsRow_nil _ _ _ _, Below.refl _ _⟩
  case round =>
    obtain ⟨k, hk, rfl, HO, HB⟩ := hrel
    have hz := HB.out.size
    have HBW := Lib.hid (HB0.out.trans (HB.out.mono HB0.out.size))
    by_cases hlt : k < f
    · obtain ⟨b, off, rfl, hc⟩ := (HL.out.keep HBW.out).at (k := k) (by omega)
      have hcell := hc k (by rw [ints_len]; omega)
      rw [ints_get] at hcell
      have HT := Lib.hid (take_more (l := l) (k := k) (by omega))
      generalize (l[k]'(by omega)) = x at *
      have h3 : (k : Int) < (l.length : Int) := by omega
      clear hc
      go_wp2_with (at_builtin; refine wp_app1 elInt rfl _ _ rfl HO.out rfl rfl rfl rfl ?_ ?_ hz ?_)
      · omega
      · unfold maxLen; omega
      · intro v' w' hown hg
        have HO3 : Hid (w'.ownsRow w0.heap.size 3 1 v' (k + 1) (ints (l.take (k + 1)))) := by rw [HT.out]; exact hown
        have HB3 := Lib.hid (HB.out.grown hg hz (fun b hb => (HO.out.lt b hb).1))
        clear hown hg HO HB
        go_wp2
        exact ⟨⟨k + 1, by omega, by go_num, HO3, HB3⟩, by simp [intOf]; omega⟩
    · obtain rfl : k = f := by omega
      obtain ⟨c1, c2⟩ := HC.out wr HB.out
      have HSN := Lib.hid (HN.out.keep HBW.out)
      go_wp2_with (at_builtin; refine wp_appS elInt rfl _ _ rfl HO.out rfl HSN.out rfl (ints_one n) ?_ ?_ hz ?_)
      · rw [ints_len]; omega
      · rw [ints_len]; unfold maxLen; omega
      · intro v' w' hown hg
        rw [ints_len] at hown
        have HO3 := Lib.hid hown
        have hB3 := HB.out.grown hg hz (fun b hb => (HO.out.lt b hb).1)
        have HB3 := Lib.hid hB3
        obtain ⟨c1', c2'⟩ := HC.out w' hB3
        clear hown hg HO HB hB3 HSN c1 c2 HBW hz
        go_wp2
        go_loopw [5, 7] (fun m i wr => ∃ j : Nat, t ≤ j ∧ j ≤ l.length ∧ i = .int .i64 j ∧ Hid (wr.ownsRow w0.heap.size 3 1 m (k + n.length + (j - t)) (ints (l.take k) ++ ints n ++ ints ((l.drop t).take (j - t)))) ∧ Hid (Below w0.heap.size w0 wr)) (fun _ i _ => l.length - (intOf i).toNat)
        case atStart => exact ⟨t, by omega, ht, rfl, by simpa [ints] using HO3, HB3⟩
        case round =>
          clear HO3 HB3 c1' c2'
          obtain ⟨j, htj, hj, rfl, HO, HB⟩ := hrel
          have hz := HB.out.size
          have HBW := Lib.hid (HB0.out.trans (HB.out.mono HB0.out.size))
          by_cases hjl : j < l.length
          · obtain ⟨b, off, rfl, hc⟩ := (HL.out.keep HBW.out).at (k := j) (by omega)
            have hcell := hc j (by rw [ints_len]; omega)
            rw [ints_get] at hcell
            have HT : Hid (ints ((l.drop t).take (j + 1 - t)) = ints ((l.drop t).take (j - t)) ++ [.int .i64 (l[j]'hjl)]) := by
              show _ = _
              rw [show j + 1 - t = (j - t) + 1 by omega, take_more (by simp; omega)]
              have : (l.drop t)[j - t]'(by simp; omega) = l[j] := by simp [List.getElem_drop, show t + (j - t) = j by omega]
              rw [this]
            generalize (l[j]'hjl) = x at *
            clear hc
            go_wp2_with (at_builtin; refine wp_app1 elInt rfl _ _ rfl HO.out rfl rfl rfl rfl ?_ ?_ hz ?_)
            · omega
            · unfold maxLen; omega
            · intro v' w' hown hg
              have HO3 : Hid (w'.ownsRow w0.heap.size 3 1 v' (k + n.length + (j + 1 - t)) (ints (l.take k) ++ ints n ++ ints ((l.drop t).take (j + 1 - t)))) := by
                show World.ownsRow _ _ _ _ _ _ _
                rw [HT.out, show k + n.length + (j + 1 - t) = k + n.length + (j - t) + 1 by omega]
                simpa only [List.append_assoc] using hown
              have HB3 := Lib.hid (HB.out.grown hg hz (fun b hb => (HO.out.lt b hb).1))
              clear hown hg HO HB
              go_wp2
              exact ⟨⟨j + 1, by omega, by omega, by go_num, HO3, HB3⟩, by simp [intOf]; omega⟩
          · obtain rfl : j = l.length := by omega
            go_wp2
            go_ret
            refine newInts_of ?_ HBW.out
            have e := edited_parts l k t n
            have e2 : (edited l k t n).length = k + n.length + (l.length - t) := by simp [edited]; omega
            rw [e, e2]
            exact HO.out.mono HB0.out.size
end Go.Proofs.Ytfbacnifankfkaa
