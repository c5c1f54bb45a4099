/- Contracts of the library's generic functions over slices of ints: Clone, Grow of nil, Concat. -/
import Derived.Test.YtjehmleckcmilaaSlices
import Derived.Deep.Onto
namespace Go.Proofs.Ytjehmleckcmilaa
open Go.RowKit

theorem ints_one (l : List Int) : ∀ u ∈ ints l, u.oneCell' = true := by
  intro u hu; simp [ints] at hu; obtain ⟨x, _, rfl⟩ := hu; rfl

/-- what a function leaves that makes a new slice of ints -/
def NewInts (l : List Int) (w : World) (e : Ending) (w' : World) : Prop :=
  ∃ a cap, e = .returned (.slice a l.length cap) ∧ w'.ownsRow w.heap.size 3 1 (.slice a l.length cap) l.length (ints l) ∧ Below w.heap.size w w'

theorem newInts_of {l : List Int} {w w' : World} {v : Value} (h : w'.ownsRow w.heap.size 3 1 v l.length (ints l)) (hb : Below w.heap.size w w') : NewInts l w (.returned v) w' := by
  obtain ⟨a, cap, rfl, _, _⟩ := own_len h
  exact ⟨a, cap, rfl, h, hb⟩

set_option maxHeartbeats 400000 in
theorem clone_int (v : Value) (l : List Int) (w : World) (hv : Sl w v (ints l)) (hb : l.length * 8 ≤ 140737488355328) :
    Calls Try.prog 103 #[v] w (NewInts l w) := by
  have hnil := fun (w : World) (a : Option Addr) (n c : Nat) => Lib.run_eql_slice_nil (P := Try.prog) w 22 3 a n c 0 0 Try.underlying22
  obtain ⟨a, cap, rfl⟩ := hv.form
  have hm := hv.len.2.2
  cases a with
  | none =>
    have hl : l = [] := by
      rcases Nat.eq_zero_or_pos (ints l).length with h | h
      · simpa [ints] using h
      · obtain ⟨b, off, e, _⟩ := hv.at h; cases e
    subst hl
    go_enter Try.func103, Try.ntmps103
    go_wp2
    go_ret
    exact newInts_of (World.ownsRow_nil _ _ _ _) (Below.refl _ _)
  | some x =>
    have HV := Lib.hid (hv.keep ((Below.refl w.heap.size w).alloc (Nat.le_refl _) (.cells #[] 3)))
    have HO : Hid ((w.alloc (.cells #[] 3)).ownsRow w.heap.size 3 1 (.slice (some ⟨w.heap.size, 0, none⟩) 0 0) 0 []) := World.ownsRow_made w #[] 0 (Nat.le_refl _) (by simp) rfl
    clear hv
    go_enter Try.func103, Try.ntmps103
    go_wp2_with (at_builtin; refine wp_appS elInt rfl _ _ rfl HO.out rfl HV.out rfl (ints_one l) ?_ ?_ ?_ ?_)
    · rw [ints_len]; omega
    · rw [ints_len]; unfold maxLen; omega
    · simp
    · intro v' w' hown hg
      rw [ints_len] at hown
      have HO2 := Lib.hid hown
      have HB : Hid (Below w.heap.size w w') := ((Below.refl w.heap.size w).alloc (Nat.le_refl _) _).trans (below_grown hg (by simp) (fun k hk => by simp [Value.ownBlock] at hk; omega))
      clear hown hg
      go_wp2
      go_ret
      exact newInts_of (by simpa using HO2.out) HB.out

/-- what slices.Grow leaves of the nil slice: a row of the call's own with nothing in it -/
def Grown0 (w : World) (e : Ending) (w' : World) : Prop := ∃ v, e = .returned v ∧ w'.ownsRow w.heap.size 3 1 v 0 [] ∧ Below w.heap.size w w'

set_option maxHeartbeats 400000 in
set_option maxRecDepth 100000 in
theorem grow_nil (n : Nat) (w : World) (hb : n * 8 ≤ 140737488355328) :
    Calls Try.prog 232 #[.slice none 0 0, .int .i64 n] w (Grown0 w) := by
  rcases Nat.eq_zero_or_pos n with h0 | h0
  · subst h0
    go_enter Try.func232, Try.ntmps232
    go_wp2
    go_ret
    exact ⟨_, rfl, World.ownsRow_nil _ _ _ _, Below.refl _ _⟩
  · obtain ⟨i0, hi, hz0, hz1, hz2⟩ := info_parts (show (Try.prog.info? 3).map (fun i => (i.zero, i.size, i.bytes)) = some (some (.int .i64 0), 1, 8) by kernel_rfl)
    have hG63 := grownCap_le_maxLen w n 0 3 (by unfold maxLen; omega)
    have hGn := grownCap_ge w n 0 3
    have hrz : ∀ ty, (Builtin.append_ #[22, 3] ty #[.slice none 0 0, .int .i64 n]).run Try.prog w =
        .ok (.slice (some ⟨w.heap.size, 0, none⟩) n (grownCap w n 0 3)) (w.drew.alloc (.cells (#[] ++ Builtin.zeroCells (Value.int .i64 0).cells n ++ Builtin.zeroCells (Value.int .i64 0).cells (grownCap w n 0 3 - n)) 3)) := fun ty => by
      have h := Lib.run_append_grow_zeros w 22 3 ty 3 i0 (.int .i64 0) .i64 .i64 Try.underlying22 Try.underlying3 hi hz0 none 0 0 [] (run_firstCells_none w.drew i0.size 0 0 0) n h0 (by rw [hz1]; omega) (by omega) (by omega) (by rw [hz2]; omega)
        (by rw [Nat.zero_add]; exact growslice_fits (by omega) (by rw [hz2]; omega))
      simpa using h
    obtain ⟨G, hG⟩ : ∃ G, G = grownCap w n 0 3 := ⟨_, rfl⟩
    rw [← hG] at hrz hGn hG63
    clear hG
    unfold maxLen at hG63
    have hsz : (#[] ++ Builtin.zeroCells (Value.int .i64 0).cells n ++ Builtin.zeroCells (Value.int .i64 0).cells (G - n)).size = G := by
      simp [Builtin.zeroCells, Value.cells]; omega
    generalize (#[] ++ Builtin.zeroCells (Value.int .i64 0).cells n ++ Builtin.zeroCells (Value.int .i64 0).cells (G - n)) = cur at *
    have HO : Hid ((w.drew.alloc (.cells cur 3)).ownsRow w.heap.size 3 1 (.slice (some ⟨w.heap.size, 0, none⟩) 0 G) 0 []) := World.ownsRow_made w.drew cur G (Nat.le_refl _) (by unfold maxLen; omega) (by rw [Nat.mul_one]; exact hsz)
    have HB : Hid (Below w.heap.size w (w.drew.alloc (.cells cur 3))) := (Below.refl w.heap.size w).drew.alloc (Nat.le_refl _) _
    have HRZ := Lib.hid hrz
    clear hsz hrz
    go_enter Try.func232, Try.ntmps232
    go_wp2_with (at_builtin; refine Lib.wpList_append_run _ rfl _ _ _ _ rfl _ _ rfl rfl _ _ (HRZ.out _) ?_)
    go_ret
    exact ⟨_, rfl, HO.out, HB.out⟩

end Go.Proofs.Ytjehmleckcmilaa
namespace Go.Proofs.Ytjehmleckcmilaa
open Go.RowKit

theorem getD_get {α : Type} (l : List α) (i : Nat) (d : α) (h : i < l.length) : l.getD i d = l[i] := by simp [List.getD, h]

/-- the lengths of the first k lists -/
def lens (ls : List (List Int)) : Nat := (ls.map List.length).foldl (· + ·) 0
theorem lens_snoc (ls : List (List Int)) (l : List Int) : lens (ls ++ [l]) = lens ls + l.length := by simp [lens, List.foldl_append]
theorem lens_flatten (ls : List (List Int)) : lens ls = ls.flatten.length := by
  unfold lens
  have h : ∀ (ns : List Nat) (a : Nat), ns.foldl (· + ·) a = a + ns.sum := by
    intro ns
    induction ns with
    | nil => intro a; simp
    | cons n ns ih => intro a; rw [List.foldl_cons, ih]; simp [Nat.add_assoc]
  rw [h, List.length_flatten]; simp
theorem lens_take_le (ls : List (List Int)) (k : Nat) : lens (ls.take k) ≤ lens ls := by
  rw [lens_flatten, lens_flatten]
  conv => rhs; rw [← List.take_append_drop k ls]
  rw [List.flatten_append, List.length_append]; omega

set_option maxHeartbeats 1000000 in
set_option maxRecDepth 100000 in
/-- slices.Concat at []int: the slices vs read as the lists ls -/
theorem concat_int (a : Option Addr) (cap : Nat) (vs : List Value) (ls : List (List Int)) (w : World) (hv : Sl w (.slice a vs.length cap) vs) (hlen : vs.length = ls.length)
    (hs : ∀ i (h : i < vs.length), Sl w vs[i] (ints (ls.getD i []))) (hb : lens ls * 8 ≤ 140737488355328) :
    Calls Try.prog 176 #[.slice a vs.length cap] w (NewInts ls.flatten w) := by
  have HV := Lib.hid hv
  have HS := Lib.hid hs
  have HL := Lib.hid hlen
  obtain ⟨hc1, hc2⟩ := hv.len.2
  unfold maxLen at hc2
  clear hv hs hlen
  go_enter Try.func176, Try.ntmps176
  go_wp2
  go_loop [3, 11] (fun n t => ∃ k : Nat, k ≤ vs.length ∧ t = .int .i64 k ∧ n = .int .i64 (lens (ls.take k) : Nat)) (fun _ t => vs.length - (intOf t).toNat)
  case atStart => exact ⟨0, by omega, rfl, rfl⟩
  case round =>
    obtain ⟨k, hk, rfl, rfl⟩ := hrel
    have hle := lens_take_le ls k
    by_cases hlt : k < vs.length
    · obtain ⟨b, off, rfl, hc⟩ := HV.out.at hlt
      have hcell := hc k hlt
      have HSl := Lib.hid (HS.out k hlt)
      have HT : Hid (lens (ls.take (k + 1)) = lens (ls.take k) + (ls.getD k []).length) := by
        show _ = _
        rw [List.take_succ_eq_append_getElem (by rw [← HL.out]; exact hlt), lens_snoc, getD_get _ _ _ (by rw [← HL.out]; exact hlt)]
      have hle2 := lens_take_le ls (k + 1)
      obtain ⟨av, cv, HE⟩ : ∃ av cv, Hid (vs[k] = .slice av (ls.getD k []).length cv) := by
        obtain ⟨av, cv, h⟩ := HSl.out.form
        rw [ints_len] at h
        exact ⟨av, cv, h⟩
      rw [HE.out] at hcell
      generalize (ls.getD k []).length = m at *
      have hm : lens (ls.take k) + m ≤ lens ls := by rw [← HT.out]; exact hle2
      clear hc HSl HE hle2
      go_wp2
      exact ⟨⟨k + 1, by omega, by go_num, by rw [HT.out]; go_num⟩, by simp [intOf]; omega⟩
    · have ek : Hid (ls.take k = ls) := List.take_of_length_le (by have := HL.out; omega)
      rw [ek.out] at hle ⊢
      clear ek
      go_wp2_with fail
      refine (grow_nil (lens ls) w hb).mono ?_
      rintro e w1 ⟨v1, rfl, ho1, hb1⟩
      have HO1 := Lib.hid ho1
      have HB1 := Lib.hid hb1
      clear ho1 hb1
      go_wp2_with fail
      go_loopw [6, 27] (fun m t wr => ∃ k : Nat, k ≤ vs.length ∧ t = .int .i64 k ∧ Hid (wr.ownsRow w.heap.size 3 1 m (lens (ls.take k)) (ints (ls.take k).flatten)) ∧ Hid (Below w.heap.size w wr)) (fun _ t _ => vs.length - (intOf t).toNat)
      case atStart => exact ⟨0, by omega, rfl, HO1, HB1⟩
      case round =>
        clear HO1 HB1
        obtain ⟨k, hk, rfl, HO, HB⟩ := hrel
        by_cases hlt : k < vs.length
        · obtain ⟨b, off, rfl, hc⟩ := (HV.out.keep HB.out).at hlt
          have hcell := hc k hlt
          have HSl := Lib.hid ((HS.out k hlt).keep HB.out)
          have HT : Hid (lens (ls.take (k + 1)) = lens (ls.take k) + (ls.getD k []).length) := by
            show _ = _
            rw [List.take_succ_eq_append_getElem (by rw [← HL.out]; exact hlt), lens_snoc, getD_get _ _ _ (by rw [← HL.out]; exact hlt)]
          have HF : Hid ((ls.take (k + 1)).flatten = (ls.take k).flatten ++ (ls.getD k [])) := by
            show _ = _
            rw [List.take_succ_eq_append_getElem (by rw [← HL.out]; exact hlt), List.flatten_append, getD_get _ _ _ (by rw [← HL.out]; exact hlt)]; simp
          have hle2 := lens_take_le ls (k + 1)
          generalize (ls.getD k []) = x at *
          generalize vs[k] = vk at *
          have hm : lens (ls.take k) + x.length ≤ lens ls := by rw [← HT.out]; exact hle2
          have hz := HB.out.size
          clear hc hle2
          go_wp2_with (at_builtin; refine wp_appS elInt rfl _ _ rfl HO.out rfl HSl.out rfl (ints_one x) ?_ ?_ hz ?_)
          · rw [ints_len]; omega
          · rw [ints_len]; unfold maxLen; omega
          · intro v' w' hown hg
            rw [ints_len] at hown
            have HO3 : Hid (w'.ownsRow w.heap.size 3 1 v' (lens (ls.take (k + 1))) (ints (ls.take (k + 1)).flatten)) := by
              rw [HT.out, HF.out, ints_append]; exact hown
            have HB3 := Lib.hid (HB.out.grown hg hz (fun b hb => (HO.out.lt b hb).1))
            clear hown hg HO HB HSl
            go_wp2
            exact ⟨⟨k + 1, by omega, by go_num, HO3, HB3⟩, by simp [intOf]; omega⟩
        · have ek : Hid (ls.take k = ls) := List.take_of_length_le (by have := HL.out; omega)
          rw [ek.out] at HO
          clear ek
          go_wp2
          go_ret
          exact newInts_of (by rw [← lens_flatten]; exact HO.out) HB.out

/-- a literal slice, in the block that was laid last -/
theorem sl_lit {w : World} {v : Array Value} {e : TypeId} {g : Nat} (hg : g = w.heap.size) (h : v.size ≤ maxLen) : Sl (w.alloc (.cells v e)) (.slice (some ⟨g, 0, none⟩) v.size v.size) v.toList := by
  subst hg
  refine ⟨some ⟨w.heap.size, 0, none⟩, v.size, by simp, by simp, h, (fun h => by cases h), fun i hi => ⟨_, rfl, ?_⟩⟩
  have : (⟨w.heap.size, 0, none⟩ : Addr).add i = ⟨w.heap.size, i, none⟩ := by unfold Addr.add; by_cases e : i = 0 <;> simp [e]
  rw [this]
  have hh : (w.alloc (.cells v e)).heap[w.heap.size]? = some (.cells v e (0, 0)) := heap_alloc_new w _
  simp only [World.cell?, hh]
  simp at hi ⊢

/-- slices.Concat of three slices -/
theorem concat3 (w : World) (g : Nat) (e : TypeId) (v1 v2 v3 : Value) (l1 l2 l3 : List Int) (hg : g = w.heap.size) (h1 : Sl w v1 (ints l1)) (h2 : Sl w v2 (ints l2)) (h3 : Sl w v3 (ints l3)) (hb : lens [l1, l2, l3] * 8 ≤ 140737488355328) :
    Calls Try.prog 176 #[.slice (some ⟨g, 0, none⟩) 3 3] (w.alloc (.cells #[v1, v2, v3] e)).drew (NewInts [l1, l2, l3].flatten w) := by
  have hB : Below w.heap.size w (w.alloc (.cells #[v1, v2, v3] e)).drew := ((Below.refl _ _).alloc (Nat.le_refl _) _).drew
  have hs : Sl (w.alloc (.cells #[v1, v2, v3] e)).drew (.slice (some ⟨g, 0, none⟩) [v1, v2, v3].length 3) [v1, v2, v3] := sl_lit (v := #[v1, v2, v3]) hg (by simp [maxLen])
  refine (concat_int (some ⟨g, 0, none⟩) 3 [v1, v2, v3] [l1, l2, l3] _ hs rfl ?_ hb).mono ?_
  · intro i hi
    simp at hi
    match i, hi with
    | 0, _ => exact h1.keep hB
    | 1, _ => exact h2.keep hB
    | 2, _ => exact h3.keep hB
  · rintro e w' ⟨a, c, rfl, ho, hb⟩
    exact ⟨a, c, rfl, ho.mono hB.size, hB.trans (hb.mono hB.size)⟩

/-- slices.Concat of two slices -/
theorem concat2 (w : World) (g : Nat) (e : TypeId) (v1 v2 : Value) (l1 l2 : List Int) (hg : g = w.heap.size) (h1 : Sl w v1 (ints l1)) (h2 : Sl w v2 (ints l2)) (hb : lens [l1, l2] * 8 ≤ 140737488355328) :
    Calls Try.prog 176 #[.slice (some ⟨g, 0, none⟩) 2 2] (w.alloc (.cells #[v1, v2] e)) (NewInts [l1, l2].flatten w) := by
  have hB : Below w.heap.size w (w.alloc (.cells #[v1, v2] e)) := ((Below.refl _ _).alloc (Nat.le_refl _) _)
  refine (concat_int (some ⟨g, 0, none⟩) 2 [v1, v2] [l1, l2] _ (sl_lit (v := #[v1, v2]) hg (by simp [maxLen])) rfl ?_ hb).mono ?_
  · intro i hi
    simp at hi
    match i, hi with
    | 0, _ => exact h1.keep hB
    | 1, _ => exact h2.keep hB
  · rintro e w' ⟨a, c, rfl, ho, hb⟩
    exact ⟨a, c, rfl, ho.mono hB.size, hB.trans (hb.mono hB.size)⟩
end Go.Proofs.Ytjehmleckcmilaa
