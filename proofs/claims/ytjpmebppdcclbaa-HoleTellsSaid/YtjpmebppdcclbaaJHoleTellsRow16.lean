/- slices.Equal over equal rows of truth values; Index, Contains. slices.DeleteFunc of rules in a row of one's own. The function values of hole.Next: which rules are deleted. hole.follower.complete. hole.follower.scan. -/
import Derived.Test.YtjpmebppdcclbaaJHoleTellsRow15
import Derived.Test.YtjpmebppdcclbaaJHoleTellsRow7
import Derived.Test.YtjpmebppdcclbaaJHoleTellsRow8
import Derived.Test.YtjpmebppdcclbaaJHoleTellsRow11
import Derived.Deep.LoopGhost
import Derived.BigQuiet
import Derived.Laws.EntriesVeiled
import Derived.Test.YtjpmebppdcclbaaJHoleTellsRow9
namespace Go.Proofs.Ytjpmebppdcclbaa
open Go.RowKit
namespace Ho
open Rp Hl
open Ht hiding D
theorem bls_len (l : List Bool) : (bls l).length = l.length := by simp [bls]
theorem bls_get (l : List Bool) (i : Nat) (h : i < (bls l).length) : (bls l)[i] = .bool (l[i]'(by simpa [bls] using h)) := by simp [bls]
set_option maxHeartbeats 1000000 in
set_option maxRecDepth 100000 in
theorem equalB (l : List Bool) (v v' : Value) (w : World) (hl : Sl w v (bls l)) (hm : Sl w v' (bls l)) :
    Calls Try.prog 23 #[v, v'] w fun e w' => e = .returned (.bool true) ∧ Below w.heap.size w w' := by
  obtain ⟨a, cap, rfl⟩ := hl.form
  obtain ⟨a', cap', rfl⟩ := hm.form
  have HL := Lib.hid hl
  have HM := Lib.hid hm
  have h1 := hl.len.2
  have h2 := hm.len.2
  unfold maxLen at h1 h2
  obtain ⟨h11, h12⟩ := h1
  obtain ⟨h21, h22⟩ := h2
  rw [bls_len] at HL HM h11 h21
  rw [bls_len]
  obtain ⟨n, HN⟩ := nameIt l.length
  rw [HN.out] at HL HM h11 h21
  rw [HN.out]
  have hnb : ((n : Int) != (n : Int)) = false := by simp
  clear hl hm
  go_enter Try.func23, Try.ntmps23
  go_wp2_with fail
  go_loopg [13] n (fun gg v13 wr => ∃ i : Nat, i ≤ n ∧ n - i ≤ gg ∧ v13 = .int .i64 i ∧ Hid (Below w.heap.size w wr))
  case atStart => exact ⟨0, by omega, by omega, rfl, Below.refl _ _⟩
  case round =>
    obtain ⟨i, hi, hg, rfl, HB⟩ := hrel
    by_cases hlt : i < n
    · have hlt' : (i : Int) < (n : Int) := by omega
      have hi0 : (0 : Int) ≤ (i : Int) := by omega
      have hil : i < l.length := by rw [HN.out]; exact hlt
      obtain ⟨b, off, he, hc⟩ := (HL.out.keep HB.out).at hlt
      obtain ⟨b', off', he', hc'⟩ := (HM.out.keep HB.out).at hlt
      have e0 := hc i (by rw [bls_len]; exact hil)
      have e1 := hc' i (by rw [bls_len]; exact hil)
      rw [bls_get] at e0 e1
      obtain ⟨x, HX⟩ := nameIt (l[i]'hil)
      rw [HX.out] at e0 e1
      have hne : (x != x) = false := by simp
      subst he he'
      clear hc hc'
      go_wp2_with fail
      go_quiet (fail)
      go_wp2_with fail
      go_roundg (n - (i + 1))
      case measure => omega
      case rel => exact ⟨i + 1, by omega, by omega, by go_num, HB.out.trans ((below_drewN _ _).mono HB.out.size)⟩
    · have hlt' : ¬ (i : Int) < (n : Int) := by omega
      go_wp2_with fail
      go_ret
      exact ⟨rfl, HB.out⟩
set_option maxHeartbeats 1000000 in
set_option maxRecDepth 100000 in
theorem indexB (l : List Bool) (v : Value) (w : World) (hl : Sl w v (bls l)) :
    Calls Try.prog 95 #[v, .bool true] w fun e w' => e = .returned (.int .i64 (idxG (fun x => x) l)) ∧ Below w.heap.size w w' := by
  obtain ⟨a, cap, rfl⟩ := hl.form
  have HL := Lib.hid hl
  have h1 := hl.len.2
  unfold maxLen at h1
  obtain ⟨h11, h12⟩ := h1
  rw [bls_len] at HL h11
  rw [bls_len]
  obtain ⟨n, HN⟩ := nameIt l.length
  rw [HN.out] at HL h11
  rw [HN.out]
  clear hl
  go_enter Try.func95, Try.ntmps95
  go_wp2_with fail
  go_loopg [5, 8] n (fun gg v5 v8 wr => ∃ i : Nat, i ≤ n ∧ n - i ≤ gg ∧ v8 = .int .i64 i ∧ Hid (Below w.heap.size w wr) ∧ Hid (∀ j (h : j < l.length), j < i → l[j] = false))
  case atStart => exact ⟨0, by omega, by omega, rfl, Below.refl _ _, fun j _ hj => by omega⟩
  case round =>
    obtain ⟨i, hi, hg, rfl, HB, HNN⟩ := hrel
    by_cases hlt : i < n
    · have hlt' : (i : Int) < (n : Int) := by omega
      have hi0 : (0 : Int) ≤ (i : Int) := by omega
      have hil : i < l.length := by rw [HN.out]; exact hlt
      obtain ⟨b, off, he, hc⟩ := (HL.out.keep HB.out).at hlt
      have e0 := hc i (by rw [bls_len]; exact hil)
      rw [bls_get] at e0
      have HX := Lib.hid (rfl : l[i]'hil = l[i]'hil)
      obtain ⟨x, HX⟩ := nameIt (l[i]'hil)
      rw [HX.out] at e0
      subst he
      clear hc
      cases x with
      | true =>
        have HE : Hid (idxG (fun x => x) l = (i : Int)) := idxG_hit hil HX.out HNN.out
        go_wp2_with fail
        go_ret
        exact ⟨by rw [HE.out]; rfl, HB.out⟩
      | false =>
        have HN2 : Hid (∀ j (h : j < l.length), j < i + 1 → l[j] = false) := by
          intro j h hj
          by_cases e : j = i
          · subst e; exact HX.out
          · exact HNN.out j h (by omega)
        go_wp2_with fail
        go_roundg (n - (i + 1))
        case measure => omega
        case rel => exact ⟨i + 1, by omega, by omega, by go_num, HB, HN2⟩
    · have hlt' : ¬ (i : Int) < (n : Int) := by omega
      have HE : Hid (idxG (fun x => x) l = -1) := idxG_none fun j hj => HNN.out j hj (by rw [HN.out] at hj; omega)
      go_wp2_with fail
      go_ret
      exact ⟨by rw [HE.out]; rfl, HB.out⟩
set_option maxHeartbeats 1000000 in
theorem containsB (l : List Bool) (v : Value) (w : World) (hl : Sl w v (bls l)) :
    Calls Try.prog 64 #[v, .bool true] w fun e w' => e = .returned (.bool (l.any fun x => x)) ∧ Below w.heap.size w w' := by
  have HC := Lib.hid (indexB l v w hl)
  obtain ⟨a, cap, rfl⟩ := hl.form
  have hge := idxG_ge (fun x => x) l
  obtain ⟨z, HZ⟩ := nameIt (idxG (fun x => x) l)
  rw [HZ.out] at HC hge
  obtain ⟨b, HBN⟩ := nameIt (l.any fun x => x)
  rw [HBN.out] at hge
  rw [HBN.out]
  clear hl
  go_enter Try.func64, Try.ntmps64
  go_wp2_with fail
  refine HC.out.mono ?_
  rintro e w1 ⟨rfl, hb⟩
  have HB := Lib.hid hb
  clear hb
  go_wp2_with fail
  go_ret
  exact ⟨rfl, HB.out⟩
end Ho
end Go.Proofs.Ytjpmebppdcclbaa
namespace Go.Proofs.Ytjpmebppdcclbaa
open Go.RowKit
namespace Ho
open Rp Hl
open Ht hiding D
abbrev RV := Rule × Value
def flatR : List RV → List Value
  | [] => []
  | z :: l => .int .i64 z.1.left :: z.2 :: flatR l
theorem flatR_len : ∀ l : List RV, (flatR l).length = l.length * 2
  | [] => rfl
  | z :: l => by simp [flatR, flatR_len l]; omega
theorem flatR_get : ∀ {l : List RV} {i : Nat} (h : i < l.length), (flatR l)[i * 2]? = some (.int .i64 l[i].1.left) ∧ (flatR l)[i * 2 + 1]? = some l[i].2
  | x :: l, 0, _ => ⟨rfl, rfl⟩
  | x :: l, i + 1, h => by
    have := flatR_get (l := l) (i := i) (by simpa using h)
    have e : (i + 1) * 2 = i * 2 + 1 + 1 := by omega
    rw [e]
    simpa [flatR] using this
theorem rdR {S : Nat → Prop} {w : World} : ∀ {K : List Rule} {xs : List Value}, RdAll S w (K.map Rule.d) xs → ∃ zs : List RV, zs.map (·.1) = K ∧ xs = flatR zs ∧ ∀ z ∈ zs, Rd S w (.sl (z.1.right.map Sym.d)) [z.2]
  | [], xs, h => by
    simp [RdAll] at h
    exact ⟨[], rfl, h, fun z hz => by cases hz⟩
  | r :: K, xs, h => by
    obtain ⟨c1, c2, rfl, h1, h2⟩ := h
    obtain ⟨zs, e1, e2, e3⟩ := rdR h2
    obtain ⟨a1, a2, rfl, q1, q2⟩ := h1
    simp [Rd] at q1
    subst q1
    rw [RdAll.one_iff] at q2
    obtain ⟨a, cap, L, rfl, q⟩ := q2
    refine ⟨(r, .slice a (r.right.map Sym.d).length cap) :: zs, by simp [e1], by simp [flatR, e2], fun z hz => ?_⟩
    rcases List.mem_cons.1 hz with rfl | hz
    · exact ⟨a, cap, L, rfl, q⟩
    · exact e3 z hz
theorem rdR_mk {S : Nat → Prop} {w : World} : ∀ {zs : List RV}, (∀ z ∈ zs, Rd S w (.sl (z.1.right.map Sym.d)) [z.2]) → RdAll S w (zs.map fun z => z.1.d) (flatR zs)
  | [], _ => by simp [RdAll, flatR]
  | z :: zs, h => by
    refine ⟨[.int .i64 z.1.left, z.2], flatR zs, rfl, ?_, rdR_mk fun y hy => h y (by simp [hy])⟩
    exact ⟨[.int .i64 z.1.left], [z.2], rfl, by simp [Rd], RdAll.one (h z (by simp))⟩
def kp (zs : List RV) (p : Rule → Bool) (j : Nat) : List RV := (zs.take j).filter fun z => !p z.1
section
variable {zs : List RV} {p : Rule → Bool} {j : Nat}
theorem kp_le : (kp zs p j).length ≤ j := Nat.le_trans (List.length_filter_le _ _) (by simp; omega)
theorem kp_no (hj : j < zs.length) (h : p zs[j].1 = true) : kp zs p (j + 1) = kp zs p j := by
  unfold kp
  rw [List.take_succ_eq_append_getElem hj, List.filter_append]
  simp [h]
theorem kp_yes (hj : j < zs.length) (h : p zs[j].1 = false) : kp zs p (j + 1) = kp zs p j ++ [zs[j]] := by
  unfold kp
  rw [List.take_succ_eq_append_getElem hj, List.filter_append]
  simp [h]
theorem kp_first {ix : Nat} (h : ∀ j (h : j < zs.length), j < ix → p zs[j].1 = false) : kp zs p ix = zs.take ix := by
  unfold kp
  rw [List.filter_eq_self]
  intro z hz
  obtain ⟨i, hi, e⟩ := List.getElem_of_mem hz
  have h1 : i < ix ∧ i < zs.length := by
    rw [List.length_take] at hi
    omega
  rw [List.getElem_take] at e
  have := h i h1.2 h1.1
  rw [← e, this]; rfl
theorem kp_all (hj : zs.length ≤ j) : kp zs p j = zs.filter fun z => !p z.1 := by
  unfold kp
  rw [List.take_of_length_le hj]
end
structure DlI (g cap n : Nat) (zs : List RV) (p : Rule → Bool) (i j : Nat) (wr : World) : Prop where
  row : ∃ cr, wr.heap[g]? = some (.cells cr 69 (0, 0)) ∧ cr.size = cap * 2 ∧ (∀ k (h : k < (kp zs p j).length), cr[k * 2]? = some (.int .i64 (kp zs p j)[k].1.left) ∧ cr[k * 2 + 1]? = some (kp zs p j)[k].2) ∧ (∀ k (h : k < zs.length), j ≤ k → cr[k * 2]? = some (.int .i64 zs[k].1.left) ∧ cr[k * 2 + 1]? = some zs[k].2)
  li : (kp zs p j).length = i
  ln : zs.length = n
  nc : n ≤ cap
def GB (g : Nat) : Nat → Prop := fun k => k = g
theorem stp_set {g : Nat} {w wr : World} (h : Stp (GB g) (GB g) w wr) (i : Nat) (v : Value) : Stp (GB g) (GB g) w (wr.setCell ⟨g, i, none⟩ v) :=
  ⟨h.os, h.tape, h.output, by simpa [World.setCell] using h.size, fun k hk hn => (Below.heap_setCell wr ⟨g, i, none⟩ v k (fun e => hn e)).trans (h.same k hk hn), h.own⟩
section
variable {g cap n i j : Nat} {zs : List RV} {p : Rule → Bool} {wr w' : World}
theorem DlI.keep (h : DlI g cap n zs p i j wr) (hb : Below wr.heap.size wr w') : DlI g cap n zs p i j w' := by
  obtain ⟨⟨cr, h1, h2⟩, h3, h4, h5⟩ := h
  exact ⟨⟨cr, bx_keep h1 hb, h2⟩, h3, h4, h5⟩
theorem DlI.at (h : DlI g cap n zs p i j wr) (hj : j < n) : ∃ hz : j < zs.length, wr.cell? ⟨g, j * 2, none⟩ = some (.int .i64 zs[j].1.left) ∧ wr.cell? ⟨g, j * 2 + 1, none⟩ = some zs[j].2 := by
  obtain ⟨⟨cr, h1, h2, h3, h4⟩, h5, h6, h7⟩ := h
  obtain ⟨e1, e2⟩ := h4 j (by omega) (Nat.le_refl _)
  exact ⟨by omega, by simp [World.cell?, h1, e1], by simp [World.cell?, h1, e2]⟩
theorem DlI.free (h : DlI g cap n zs p i j wr) (k : Nat) : wr.frozen? ⟨g, k, none⟩ = false := by
  obtain ⟨⟨cr, h1, h2, h3, h4⟩, h5, h6, h7⟩ := h
  simp [World.frozen?, h1]
theorem DlI.old (h : DlI g cap n zs p i j wr) {k : Nat} (hk : k < n) : (∃ u, wr.cell? ⟨g, k * 2, none⟩ = some u) ∧ ∃ u, wr.cell? ⟨g, k * 2 + 1, none⟩ = some u := by
  obtain ⟨⟨cr, h1, h2, h3, h4⟩, h5, h6, h7⟩ := h
  have : k * 2 < cr.size ∧ k * 2 + 1 < cr.size := by omega
  exact ⟨⟨cr[k * 2]'this.1, by simp [World.cell?, h1, this.1]⟩, ⟨cr[k * 2 + 1]'this.2, by simp [World.cell?, h1, this.2]⟩⟩
theorem DlI.le (h : DlI g cap n zs p i j wr) : i ≤ j := by have := h.li; have := kp_le (zs := zs) (p := p) (j := j); omega
theorem DlI.no (h : DlI g cap n zs p i j wr) (hj : j < zs.length) (hp : p zs[j].1 = true) : DlI g cap n zs p i (j + 1) wr := by
  obtain ⟨⟨cr, h1, h2, h3, h4⟩, h5, h6, h7⟩ := h
  have e := kp_no hj hp
  refine ⟨⟨cr, h1, h2, ?_, fun k hk hjk => h4 k hk (by omega)⟩, by rw [e]; exact h5, h6, h7⟩
  rw [e]; exact h3
theorem DlI.yes (h : DlI g cap n zs p i j wr) (hj : j < zs.length) (hp : p zs[j].1 = false) : DlI g cap n zs p (i + 1) (j + 1) ((wr.setCell ⟨g, i * 2, none⟩ (.int .i64 zs[j].1.left)).setCell ⟨g, i * 2 + 1, none⟩ zs[j].2) := by
  have hij := h.le
  obtain ⟨⟨cr, h1, h2, h3, h4⟩, h5, h6, h7⟩ := h
  have e := kp_yes hj hp
  refine ⟨⟨(cr.setIfInBounds (i * 2) (.int .i64 zs[j].1.left)).setIfInBounds (i * 2 + 1) zs[j].2, by simp [World.setCell, Array.getElem?_modify, h1], by simpa using h2, fun k hk => ?_, fun k hk hjk => ?_⟩, by rw [e, List.length_append, h5]; rfl, h6, h7⟩
  · have hk2 : k < i + 1 := by
      have := hk
      rw [e, List.length_append, h5] at this
      exact this
    simp only [Array.getElem?_setIfInBounds, Array.size_setIfInBounds]
    by_cases ek : k = i
    · subst ek
      have h9 : (kp zs p (j + 1))[k]'hk = zs[j] := by
        simp only [e]
        rw [List.getElem_append_right (by omega)]
        simp [h5]
      rw [h9, if_neg (by omega), if_pos rfl, if_pos (by omega), if_pos rfl, if_pos (by omega)]
      exact ⟨rfl, rfl⟩
    · have hki : k < (kp zs p j).length := by omega
      have h9 : (kp zs p (j + 1))[k]'hk = (kp zs p j)[k] := by
        simp only [e]
        rw [List.getElem_append_left hki]
      rw [h9, if_neg (by omega), if_neg (by omega), if_neg (by omega), if_neg (by omega)]
      exact h3 k hki
  · simp only [Array.getElem?_setIfInBounds, Array.size_setIfInBounds]
    rw [if_neg (by omega), if_neg (by omega), if_neg (by omega), if_neg (by omega)]
    exact h4 k hk (by omega)
theorem zR_len (m : Nat) : (Builtin.zeroCells #[Value.int .i64 0, .slice none 0 0] m).toList.length = m * 2 := by simp [Builtin.zeroCells]
theorem zR_size (m : Nat) : (Builtin.zeroCells #[Value.int .i64 0, .slice none 0 0] m).size = m * 2 := by simp [Builtin.zeroCells]
theorem zR_ones (m : Nat) : ∀ v ∈ (Builtin.zeroCells #[Value.int .i64 0, .slice none 0 0] m).toList, v.oneCell' = true := by
  intro v hv
  simp [Builtin.zeroCells] at hv
  obtain ⟨i, _, rfl⟩ := hv
  rcases (show i % 2 = 0 ∨ i % 2 = 1 by omega) with e | e <;> rw [e] <;> rfl
theorem clear_R (h : DlI g cap n zs p i j wr) (hj : n ≤ j) (hi : i < n) :
    ∃ w2, (∀ ty c, (Builtin.clear_ #[22] ty #[.slice (some ⟨g, i * 2, none⟩) (n - i) c]).run Try.prog wr = .ok (.tuple #[]) w2) ∧ wr.grownBy w2 (some g) ∧
      ∀ B, B ≤ g → cap ≤ maxLen → w2.ownsRow B 69 2 (.slice (some ⟨g, 0, none⟩) i cap) i (flatR (zs.filter fun z => !p z.1)) := by
  obtain ⟨⟨cr, h1, h2, h3, h4⟩, h5, h6, h7⟩ := h
  rw [kp_all (by omega)] at h5
  simp only [kp_all (show zs.length ≤ j by omega)] at h3
  have hst := run_storeCells_at (P := Try.prog) g (i * 2) 69 (Builtin.zeroCells #[Value.int .i64 0, .slice none 0 0] (n - i)).toList 0 cr wr h1 (by rw [zR_len, h2]; omega) (zR_ones _)
  refine ⟨wr.setRow g (cr.toList.take (i * 2 + 0) ++ (Builtin.zeroCells #[Value.int .i64 0, .slice none 0 0] (n - i)).toList ++ cr.toList.drop (i * 2 + 0 + (Builtin.zeroCells #[Value.int .i64 0, .slice none 0 0] (n - i)).toList.length)).toArray, fun ty c => ?_, grown_setRow _ _ _, fun B hB hc => ?_⟩
  · obtain ⟨m, hm⟩ : ∃ m, n - i = m + 1 := ⟨n - i - 1, by omega⟩
    rw [hm] at hst ⊢
    simp [Builtin.clear_, run_underlying Try.underlying22, Try.zeroValue69, Value.cells, hst]
  · have hlen : (flatR (zs.filter fun z => !p z.1)).length = i * 2 := by rw [flatR_len, h5]
    refine ⟨hlen, .inr ⟨g, cap, _, rfl, hB, setRow_heap _ _ _ _ _ _ h1, by omega, hc, by simp [zR_size, h2]; omega, ?_⟩⟩
    apply List.ext_getElem?
    intro t
    by_cases ht : t < i * 2
    · rw [List.getElem?_take_of_lt ht]
      simp only [List.append_assoc]
      rw [List.getElem?_append_left (by simp [h2]; omega), List.getElem?_take_of_lt (by omega), Array.getElem?_toList]
      have hk : t / 2 < (zs.filter fun z => !p z.1).length := by omega
      obtain ⟨c0, c1⟩ := flatR_get hk
      obtain ⟨e0, e1⟩ := h3 (t / 2) hk
      rcases (show t % 2 = 0 ∨ t % 2 = 1 by omega) with e | e
      · rw [show t / 2 * 2 = t by omega] at c0 e0
        rw [c0, e0]
      · rw [show t / 2 * 2 + 1 = t by omega] at c1 e1
        rw [c1, e1]
    · rw [List.getElem?_eq_none (by simp; omega), List.getElem?_eq_none (by omega)]
theorem DlI.start {w : World} {B ix : Nat} (h : w.ownsRow B 69 2 (.slice (some ⟨g, 0, none⟩) n cap) n (flatR zs)) (hn : zs.length = n) (hix : ix < n) (hp : p (zs[ix]'(by omega)).1 = true) (hno : ∀ j (h : j < zs.length), j < ix → p zs[j].1 = false) : DlI g cap n zs p ix (ix + 1) w := by
  rcases h.2 with ⟨hv, _⟩ | ⟨g', cap', cur, hv, hg, hh, hnc, hcm, hcs, htk⟩
  · simp at hv
  · obtain ⟨rfl, rfl⟩ : g = g' ∧ cap = cap' := by simpa using hv
    have hc : ∀ k (h : k < zs.length), cur[k * 2]? = Option.some (.int .i64 zs[k].1.left) ∧ cur[k * 2 + 1]? = Option.some zs[k].2 := by
      intro k hk
      obtain ⟨c0, c1⟩ := flatR_get hk
      rw [← c0, ← c1, ← htk, List.getElem?_take_of_lt (by omega), List.getElem?_take_of_lt (by omega), Array.getElem?_toList, Array.getElem?_toList]
      exact ⟨rfl, rfl⟩
    have e : kp zs p (ix + 1) = zs.take ix := (kp_no (by omega) hp).trans (kp_first hno)
    refine ⟨⟨cur, hh, hcs, fun k hk => ?_, fun k hk _ => hc k hk⟩, by rw [e, List.length_take]; omega, hn, hnc⟩
    have hk2 : k < ix ∧ k < zs.length := by
      have := hk
      rw [e, List.length_take] at this
      omega
    have h9 : (kp zs p (ix + 1))[k]'hk = zs[k] := by
      simp only [e]
      rw [List.getElem_take]
    rw [h9]
    exact hc k hk2.2
end
theorem idxG_two {α : Type} (p : α → Bool) (l : List α) : (idxG p l = -1 ∧ ∀ x ∈ l, p x = false) ∨ ∃ i, ∃ h : i < l.length, idxG p l = (i : Int) ∧ p l[i] = true ∧ ∀ j (h : j < l.length), j < i → p l[j] = false := by
  cases h : l.any p with
  | false =>
    left
    refine ⟨by unfold idxG; rw [h]; rfl, fun x hx => ?_⟩
    rw [List.any_eq_false] at h
    simpa using h x hx
  | true =>
    right
    have hlt : l.findIdx p < l.length := by
      rw [List.findIdx_lt_length]
      rw [List.any_eq_true] at h
      exact h
    exact ⟨l.findIdx p, hlt, by unfold idxG; rw [h]; rfl, List.findIdx_getElem (w := hlt), fun j hj hji => by simpa using List.not_of_lt_findIdx hji⟩
def OV (v : Value) : Nat → Prop := fun k => v.ownBlock = some k
def DelPost (S : Nat → Prop) (K : List Rule) (p : Rule → Bool) (v : Value) (w : World) (e : Ending) (w' : World) : Prop :=
  ∃ a c, e = .returned (.slice a (K.filter fun r => !p r).length c) ∧ Rd S w' (.sl ((K.filter fun r => !p r).map Rule.d)) [.slice a (K.filter fun r => !p r).length c] ∧ Stp (OV v) (OV v) w w'
theorem filter_zs {K : List Rule} {zs : List RV} {p : Rule → Bool} (h : zs.map (·.1) = K) : (zs.filter fun z => !p z.1).map (·.1) = K.filter fun r => !p r := by
  subst h
  rw [List.filter_map]; rfl
set_option maxHeartbeats 8000000 in
set_option maxRecDepth 100000 in
theorem deleteE (fn : Nat) (lb : Array Value) (p : Rule → Bool) (K : List Rule) (v : Value) (S : Nat → Prop) (B : Nat) (w : World) (eg : ∀ args w, (callFunc fn args).run Try.prog w = .ok (.enter fn args) w) (G : World → Prop) (hG1 : ∀ W W', G W → Below W.heap.size W W' → G W') (hG2 : ∀ W g k u, v.ownBlock = some g → G W → G (W.setCell ⟨g, k, none⟩ u))
    (hf : ∀ (W : World) (x : Rule) (u : Value), x ∈ K → G W → Rd AnyB W (.sl (x.right.map Sym.d)) [u] → Calls Try.prog fn (#[.agg #[.int .i64 x.left, u]] ++ lb) W fun e w' => e = .returned (.bool (p x)) ∧ Below W.heap.size W w')
    (hG : G w) (hSV : ∀ k, v.ownBlock = some k → S k) (hrow : RowD S B 69 2 (K.map Rule.d) v w) (hK : K.length ≤ 1000) :
    Calls Try.prog 56 #[v, .func (.func fn) #[] lb] w (DelPost S K p v w) := by
  have hrd : Rd AnyB w (.sl (K.map Rule.d)) [v] := hrow.rd.any
  obtain ⟨⟨xs, hown, hall⟩, hBw⟩ := hrow
  rw [List.length_map] at hown
  obtain ⟨zs, hz1, rfl, hz3⟩ := rdR hall
  have hzl : zs.length = K.length := by rw [← hz1, List.length_map]
  obtain ⟨a, cap, hv, hc1, hc2⟩ := own_len hown
  have hix := indexFuncRule fn lb p a cap K w eg (fun W x u hx hb hr => (hf W x u hx (hG1 _ _ hG hb) hr)) (by rw [← hv]; exact hrd)
  unfold maxLen at hc2
  rcases idxG_two p K with ⟨hi1, hi2⟩ | ⟨ix, hixl, hi1, hi2, hi3⟩
  · -- nothing is deleted
    have hfl : (K.filter fun r => !p r) = K := by
      rw [List.filter_eq_self]
      intro r hr
      rw [hi2 r hr]; rfl
    have HFIN : Hid (∀ w', Below w.heap.size w w' → DelPost S K p v w (.returned v) w') := by
      intro w' hb
      refine ⟨a, cap, ?_, ?_, Stp.below hb⟩
      · rw [hfl, hv]
      · rw [hfl, ← hv]
        refine Rd.below ?_ hb
        exact rd_of_own (S := S) hown (hall.mono fun k hk _ => hk.1) (by simp) hSV
    obtain ⟨PST, HP⟩ := nameIt (DelPost S K p v w)
    rw [HP.out] at HFIN
    rw [HP.out]
    rw [hi1] at hix
    have HIX := Lib.hid hix
    subst hv
    obtain ⟨n, HN⟩ := nameIt K.length
    rw [HN.out] at HIX HFIN hc1
    rw [HN.out]
    clear hown hall hrd hf hG1 hG2 hix hG HP hfl hi2 hz1 hz3 hzl hBw hK
    go_enter Try.func56, Try.ntmps56
    go_wp2_with fail
    refine HIX.out.mono ?_
    rintro e w1 ⟨rfl, hb1⟩
    have HE := Lib.hid (HFIN.out w1 hb1)
    clear hb1
    go_wp2_with fail
    first | exact HE.out | (go_ret; exact HE.out)
  · have hown2 := hown
    rcases hown2.2 with ⟨hv', h0⟩ | ⟨g, cap', cur, hv', hg, hh, hnc, hcm, hcs, htk⟩
    · omega
    rw [hv] at hv'
    obtain ⟨rfl, rfl⟩ : a = some ⟨g, 0, none⟩ ∧ cap = cap' := by simpa using hv'
    obtain ⟨n, HN⟩ := nameIt K.length
    have hzn : zs.length = n := hzl.trans HN.out
    have hgz : ∀ j (h : j < zs.length), zs[j].1 = K[j]'(by omega) := by
      intro j h
      have : (zs.map (·.1))[j]'(by simpa using h) = K[j]'(by omega) := by simp only [hz1]
      rw [← this, List.getElem_map]
    have HST : Hid (DlI g cap n zs p ix (ix + 1) w) := by
      have h := hown
      rw [hv, HN.out] at h
      exact DlI.start h hzn (by omega) (by rw [hgz]; exact hi2) (fun j h hj => by rw [hgz]; exact hi3 j (by omega) hj)
    have hob : v.ownBlock = some g := by rw [hv]; rfl
    have hOV : OV v = GB g := by
      funext k
      unfold OV GB
      rw [hob]
      simp only [Option.some.injEq, eq_iff_iff]
      exact eq_comm
    have HFIN : Hid (∀ i w1 w2, (K.filter fun r => !p r).length = i → Stp (GB g) (GB g) w w1 → w1.grownBy w2 (some g) → w2.ownsRow B 69 2 (.slice (some ⟨g, 0, none⟩) i cap) i (flatR (zs.filter fun z => !p z.1)) → DelPost S K p v w (.returned (.slice (some ⟨g, 0, none⟩) i cap)) w2) := by
      intro i w1 w2 h1 h2 h3 h4
      have hS : Stp (GB g) (GB g) w w2 := h2.trans ⟨h3.os, h3.tape, h3.output, h3.size, fun k hk hn => h3.block k hk (fun e => hn (by cases e; rfl)), fun k hk => .inl hk⟩
      refine ⟨some ⟨g, 0, none⟩, cap, by rw [h1], ?_, by rw [hOV]; exact hS⟩
      have hr : RdAll (fun k => S k ∧ k ≠ g) w2 ((zs.filter fun z => !p z.1).map fun z => z.1.d) (flatR (zs.filter fun z => !p z.1)) := by
        refine rdR_mk fun z hz => ?_
        exact Rd.keep (fun k hk hlt => ⟨⟨hk.1, fun e => hk.2 (by rw [hob, e])⟩, hS.same k hlt (fun e => hk.2 (by rw [hob]; exact congrArg some e.symm))⟩) _ _ (hz3 z (List.mem_filter.1 hz).1)
      have e2 : (zs.filter fun z => !p z.1).map (fun z => z.1.d) = (K.filter fun r => !p r).map Rule.d := by
        rw [← filter_zs hz1, List.map_map]; rfl
      rw [e2] at hr
      rw [h1]
      exact rd_of_own (S := S) h4 (hr.mono fun k hk _ => hk.1) (by simp [h1]) (fun k e => hSV k (by rw [hob]; exact e))
    have HKF : Hid ((zs.filter fun z => !p z.1).length = (K.filter fun r => !p r).length) := by
      show _ = _
      rw [← filter_zs hz1, List.length_map]
    have HG1 := Lib.hid hG1
    have HG2 : Hid (∀ W k u, G W → G (W.setCell ⟨g, k, none⟩ u)) := fun W k u h => hG2 W g k u hob h
    have HF : Hid (∀ (W : World) j (h : j < zs.length) a c, zs[j].2 = .slice a zs[j].1.right.length c → G W → Stp (GB g) (GB g) w W → Calls Try.prog fn (#[.agg #[.int .i64 zs[j].1.left, .slice a zs[j].1.right.length c]] ++ lb) W fun e w' => e = .returned (.bool (p zs[j].1)) ∧ Below W.heap.size W w') := by
      intro W j h a c hv2 h1 h2
      refine hf W zs[j].1 _ (by rw [hgz]; exact List.getElem_mem _) h1 ?_
      rw [← hv2]
      exact Rd.keep (fun k hk hlt => ⟨trivial, h2.same k hlt (fun e => hk.2 (by rw [hob]; exact congrArg some e.symm))⟩) _ _ (hz3 zs[j] (List.getElem_mem _))
    have HSF : Hid (∀ j (h : j < zs.length), ∃ a c, zs[j].2 = .slice a zs[j].1.right.length c) := by
      intro j h
      obtain ⟨a, c, e, _⟩ := (hz3 zs[j] (List.getElem_mem _)).form
      rw [List.length_map] at e
      exact ⟨a, c, e⟩
    obtain ⟨PST, HP⟩ := nameIt (DelPost S K p v w)
    rw [HP.out] at HFIN
    rw [HP.out]
    rw [hi1] at hix
    have HIX := Lib.hid hix
    have HGW := Lib.hid hG
    subst hv
    rw [HN.out] at HIX hixl hK hc1
    rw [HN.out]
    have HZN := Lib.hid hzn
    have HBG := Lib.hid hg
    obtain ⟨i1, HI1⟩ := nameIt (ix + 1)
    rw [HI1.out] at HST
    have hw1 : IntKind.i64.wrap ((ix : Int) + 1) = (i1 : Int) := by rw [IntWalk.i64_in _ (by omega)]; have := HI1.out; omega
    have hi1n : i1 ≤ n := by have := HI1.out; omega
    have hne : ((ix : Int) == -1) = false := by rw [beq_eq_false_iff_ne]; omega
    clear hown hall hrd hf hG1 hG2 hix hG HP hi2 hi3 hz1 hz3 hzl hzn hgz hob hOV hv' hh hcs htk hown2 hg hBw hcm hi1
    go_enter Try.func56, Try.ntmps56
    go_wp2_with fail
    refine HIX.out.mono ?_
    rintro e w1 ⟨rfl, hb1⟩
    have HD1 := Lib.hid (HST.out.keep hb1)
    have HS1 : Hid (Stp (GB g) (GB g) w w1) := Stp.below hb1
    have HGW1 := Lib.hid (HG1.out _ _ HGW.out hb1)
    clear hb1 HST HGW HIX
    go_wp2_with fail
    go_loopg [5, 6, 7] n (fun gg v5 v6 v7 wr => ∃ i j : Nat, v5 = .int .i64 (i : Int) ∧ v6 = .int .i64 (j : Int) ∧ j ≤ n ∧ n - j ≤ gg ∧ i < j ∧ Hid (DlI g cap n zs p i j wr) ∧ Hid (Stp (GB g) (GB g) w wr) ∧ Hid (G wr))
    case atStart => exact ⟨ix, i1, rfl, rfl, hi1n, by omega, by have := HI1.out; omega, HD1, HS1, HGW1⟩
    case round =>
      clear HD1 HS1 HGW1 hw1 hne
      obtain ⟨i, j, rfl, rfl, hj, hgg, hij, HD, HS, HGR⟩ := hrel
      obtain ⟨wi, rfl⟩ : ∃ ww : World, ww = wr := ⟨_, rfl⟩
      by_cases hjn : j < n
      · have hjn' : (j : Int) < (n : Int) := by omega
        obtain ⟨hjz, c0, c1⟩ := HD.out.at hjn
        obtain ⟨av, cv, hsv⟩ := HSF.out j hjz
        have hfc := fun W => HF.out W j hjz av cv hsv
        have hdy := HD.out.yes hjz
        have hdn := HD.out.no hjz
        obtain ⟨z, HZ⟩ := nameIt (zs[j]'hjz)
        rw [HZ.out] at c0 c1 hsv hfc hdy hdn
        obtain ⟨⟨lf, RL⟩, zv⟩ := z
        dsimp only at c0 c1 hsv hfc hdy hdn
        subst hsv
        obtain ⟨rn, HRN⟩ := nameIt RL.length
        rw [HRN.out] at c1 hdy
        simp only [HRN.out] at hfc
        obtain ⟨b, HBN⟩ := nameIt (p ⟨lf, RL⟩)
        rw [HBN.out] at hdy hdn
        simp only [HBN.out] at hfc
        obtain ⟨w2, HW2⟩ := nameIt (wi.alloc (.cells #[.int .i64 lf, .slice av rn cv] 69))
        have hb2 : Below wi.heap.size wi w2 := by rw [← HW2.out]; exact (Below.refl _ _).alloc (Nat.le_refl _) _
        have X2 : Hid (w2.heap[wi.heap.size]? = some (.cells #[.int .i64 lf, .slice av rn cv] 69 (0, 0))) := by rw [← HW2.out]; exact bx_new _ _ _ rfl
        have HS2 : Hid (Stp (GB g) (GB g) w w2) := HS.out.trans (Stp.below hb2)
        have HG2W := Lib.hid (HG1.out _ _ HGR.out hb2)
        have HC := Lib.hid (hfc w2 HG2W.out HS2.out)
        have HB2 := Lib.hid hb2
        obtain ⟨q2, HQ2⟩ := nameIt wi.heap.size
        rw [HQ2.out] at X2
        clear hb2 hfc hdy hdn
        go_upto_region 6 with fail
        rw [HW2.out, HQ2.out]
        clear HW2 c0 c1
        obtain ⟨y0, y1⟩ := bx_cells2 X2.out
        go_wp2_with fail
        refine HC.out.mono ?_
        rintro e w3 ⟨rfl, hb3⟩
        have HB3 : Hid (Below wi.heap.size wi w3) := HB2.out.trans (hb3.mono HB2.out.size)
        have HD3 := Lib.hid (HD.out.keep HB3.out)
        have HS3 : Hid (Stp (GB g) (GB g) w w3) := HS.out.trans (Stp.below HB3.out)
        have HG3 := Lib.hid (HG1.out _ _ HGR.out HB3.out)
        have X3 := Lib.hid (bx_keep X2.out hb3)
        obtain ⟨y0, y1⟩ := bx_cells2 X3.out
        clear hb3
        obtain ⟨j1, HJ1⟩ := nameIt (j + 1)
        have hwj : IntKind.i64.wrap ((j : Int) + 1) = (j1 : Int) := by rw [IntWalk.i64_in _ (by omega)]; have := HJ1.out; omega
        have hdn := HD3.out.no hjz
        have hdy := HD3.out.yes hjz
        rw [HZ.out] at hdn hdy
        dsimp only at hdn hdy
        rw [HBN.out, HJ1.out] at hdn hdy
        rw [HRN.out] at hdy
        cases b with
        | true =>
          have HD4 := Lib.hid (hdn rfl)
          clear hdn hdy y0 y1
          go_wp2_with fail
          go_roundg (n - j1)
          case measure => have := HJ1.out; omega
          case rel => exact ⟨i, j1, rfl, rfl, by have := HJ1.out; omega, by omega, by have := HJ1.out; omega, HD4, HS3, HG3⟩
        | false =>
          obtain ⟨i1', HI2⟩ := nameIt (i + 1)
          have hwi : IntKind.i64.wrap ((i : Int) + 1) = (i1' : Int) := by rw [IntWalk.i64_in _ (by omega)]; have := HI2.out; omega
          rw [HI2.out] at hdy
          have HD4 := Lib.hid (hdy rfl)
          have HS4 := Lib.hid (stp_set (stp_set HS3.out (i * 2) (.int .i64 lf)) (i * 2 + 1) (.slice av rn cv))
          have HG4 := Lib.hid (HG2.out _ (i * 2 + 1) (.slice av rn cv) (HG2.out _ (i * 2) (.int .i64 lf) HG3.out))
          obtain ⟨⟨u0, o0⟩, ⟨u1, o1⟩⟩ := HD3.out.old (show i < n by omega)
          have f0 := HD3.out.free (i * 2)
          have f1 := HD3.out.free (i * 2 + 1)
          have hin : (i : Int) < (n : Int) := by omega
          clear hdn hdy
          go_wp2_with fail
          go_roundg (n - j1)
          case measure => have := HJ1.out; omega
          case rel => exact ⟨i1', j1, rfl, rfl, by have := HJ1.out; omega, by omega, by have := HJ1.out; have := HI2.out; omega, HD4, HS4, HG4⟩
      · have hjn' : ¬ (j : Int) < (n : Int) := by omega
        have hin : i < n := by omega
        obtain ⟨w2, hcl, hg2, ho2⟩ := clear_R HD.out (by omega) hin
        have HE := Lib.hid (HFIN.out i wi w2 (by rw [← HKF.out, ← kp_all (p := p) (j := j) (by rw [HZN.out]; omega)]; exact HD.out.li) HS.out hg2 (ho2 B HBG.out (by unfold maxLen; omega)))
        have hin' : (i : Int) ≤ (n : Int) := by omega
        have hic : i ≤ cap := by omega
        have hic' : (i : Int) ≤ (cap : Int) := by omega
        have hcne : ¬ cap = i := by omega
        clear hg2 ho2
        go_wp2_with fail
        first | exact HE.out | (go_ret; exact HE.out)
end Ho
end Go.Proofs.Ytjpmebppdcclbaa
namespace Go.Proofs.Ytjpmebppdcclbaa
open Go.RowKit
namespace Ho
open Rp Hl
open Ht hiding D
theorem eg58 : ∀ args w, (callFunc 58 args).run Try.prog w = .ok (.enter 58 args) w := fun _ _ => by kernel_rfl
theorem eg57 : ∀ args w, (callFunc 57 args).run Try.prog w = .ok (.enter 57 args) w := fun _ _ => by kernel_rfl
structure EN (B b : Nat) (ve : Value) (hw : Sym → Bool) (N : Nat) (W : World) : Prop where
  box : W.heap[b]? = some (.cells #[ve] 54 (0, 0))
  own : W.ownsRow B 4 1 ve N (bls (endsL hw N))
theorem EN.keep {B b N : Nat} {ve : Value} {hw : Sym → Bool} {W W' : World} (h : EN B b ve hw N W) (hb : Below W.heap.size W W') : EN B b ve hw N W' := ⟨bx_keep h.box hb, own_keep h.own hb⟩
theorem EN.set {B b N g k : Nat} {ve u : Value} {hw : Sym → Bool} {W : World} (h : EN B b ve hw N W) (h1 : g ≠ b) (h2 : ve.ownBlock ≠ some g) : EN B b ve hw N (W.setCell ⟨g, k, none⟩ u) :=
  ⟨bx_other h.box (fun e => h1 e.symm) _ _, h.own.kept (grown_cell W ⟨g, k, none⟩ u) (.inr (by simpa using h2))⟩
set_option maxHeartbeats 4000000 in
set_option maxRecDepth 100000 in
theorem next11E {B b N tm : Nat} {ve : Value} {hw : Sym → Bool} (W : World) (h : EN B b ve hw N W) (x : Sym) (hx : Hl.okS N tm x) (hN : N ≤ 10) :
    Calls Try.prog 58 #[.agg #[.bool x.term, .int .i64 x.n], .pointer (some ⟨b, 0, none⟩)] W fun e w' => e = .returned (.bool (!(hwS hw x))) ∧ Below W.heap.size W w' := by
  obtain ⟨w0, HW⟩ := nameIt (W.alloc (.cells #[.bool x.term, .int .i64 x.n] 44))
  have hw0 : Below W.heap.size W w0 := by rw [← HW.out]; exact (Below.refl _ _).alloc (Nat.le_refl _) _
  have X0 : Hid (w0.heap[W.heap.size]? = some (.cells #[.bool x.term, .int .i64 x.n] 44 (0, 0))) := by rw [← HW.out]; exact bx_new _ _ _ rfl
  have HE0 := Lib.hid (h.keep hw0)
  have HB0 := Lib.hid hw0
  obtain ⟨a, cap, rfl, hc1, hc2⟩ := own_len h.own
  unfold maxLen at hc2
  have hs := sl_of_own HE0.out.own
  have hbx : w0.cell? ⟨b, 0, none⟩ = some (.slice a N cap) := by simp [World.cell?, HE0.out.box]
  obtain ⟨xt, xn⟩ := x
  obtain ⟨q1, q2, q3⟩ := hx
  dsimp only at HW X0 q1 q2 q3 ⊢
  obtain ⟨y0, y1⟩ := bx_cells2 X0.out
  obtain ⟨PST, HP⟩ := nameIt (fun (e : Ending) (w' : World) => e = .returned (.bool (!(hwS hw ⟨xt, xn⟩))) ∧ Below W.heap.size W w')
  have HFIN : Hid (∀ r w', (!(hwS hw ⟨xt, xn⟩)) = r → Below w0.heap.size w0 w' → PST (.returned (.bool r)) w') := by
    intro r w' h1 h2
    rw [← HP.out, h1]
    exact ⟨rfl, HB0.out.trans (h2.mono HB0.out.size)⟩
  rw [HP.out]
  clear hw0 h HP
  cases xt with
  | true =>
    have HE := Lib.hid (HFIN.out false w0 rfl (Below.refl _ _))
    clear q2 q3 hs
    go_enter Try.func58, Try.ntmps58
    go_upto_region 1 with fail
    rw [HW.out]
    clear HW
    go_wp2_with fail
    first | exact HE.out | (go_ret; exact HE.out)
  | false =>
    have q4 := q3 rfl
    obtain ⟨k, rfl⟩ : ∃ k : Nat, xn = (k : Int) := ⟨xn.toNat, by omega⟩
    have hkN : k < N := by omega
    obtain ⟨g, off, hae, hcell⟩ := hs.at hkN
    have hc := hcell k (by simp [bls, endsL_len]; exact hkN)
    have hval : (bls (endsL hw N))[k]'(by simp [bls, endsL_len]; exact hkN) = .bool (hw ⟨false, (k : Int)⟩) := by simp [bls, endsL]
    rw [hval] at hc
    have HH : Hid ((!(hwS hw ⟨false, (k : Int)⟩)) = !(hw ⟨false, (k : Int)⟩)) := by show _ = _; simp [hwS]
    obtain ⟨r, HR⟩ := nameIt (hw ⟨false, (k : Int)⟩)
    rw [HR.out] at hc HH
    have HE := Lib.hid (HFIN.out (!r) w0 HH.out (Below.refl _ _))
    subst hae
    clear q2 q3 hval hcell
    go_enter Try.func58, Try.ntmps58
    go_upto_region 1 with fail
    rw [HW.out]
    clear HW
    go_wp2_with fail
    first | exact HE.out | (go_ret; exact HE.out)
set_option maxHeartbeats 4000000 in
set_option maxRecDepth 100000 in
theorem next1E {B b N tm : Nat} {ve : Value} {hw : Sym → Bool} (W : World) (h : EN B b ve hw N W) (r : Rule) (hr : ∀ s ∈ r.right, Hl.okS N tm s) (hN : N ≤ 10) (u : Value) (hu : Rd AnyB W (.sl (r.right.map Sym.d)) [u]) :
    Calls Try.prog 57 #[.agg #[.int .i64 r.left, u], .pointer (some ⟨b, 0, none⟩)] W fun e w' => e = .returned (.bool (!(r.right.all (hwS hw)))) ∧ Below W.heap.size W w' := by
  obtain ⟨a, cap, rfl, hc1, hc2⟩ := hu.form
  rw [List.length_map] at hu hc1 ⊢
  obtain ⟨w0, HW⟩ := nameIt (W.alloc (.cells #[.int .i64 r.left, .slice a r.right.length cap] 69))
  have hw0 : Below W.heap.size W w0 := by rw [← HW.out]; exact (Below.refl _ _).alloc (Nat.le_refl _) _
  have X0 : Hid (w0.heap[W.heap.size]? = some (.cells #[.int .i64 r.left, .slice a r.right.length cap] 69 (0, 0))) := by rw [← HW.out]; exact bx_new _ _ _ rfl
  have HE0 := Lib.hid (h.keep hw0)
  have HB0 := Lib.hid hw0
  have hcf := containsFuncSym 58 #[.pointer (some ⟨b, 0, none⟩)] (fun s => !(hwS hw s)) a cap r.right w0 eg58 (fun W2 x hx hb => next11E W2 (HE0.out.keep hb) x (hr x hx) hN) (hu.below hw0)
  have e : (r.right.any fun s => !(hwS hw s)) = !(r.right.all (hwS hw)) := by
    rw [List.not_all_eq_any_not]
  rw [e] at hcf
  have HCF := Lib.hid hcf
  obtain ⟨y0, y1⟩ := bx_cells2 X0.out
  obtain ⟨bb, HBB⟩ := nameIt (!(r.right.all (hwS hw)))
  obtain ⟨rn, HRN⟩ := nameIt r.right.length
  obtain ⟨lf, HLF⟩ := nameIt r.left
  rw [HBB.out, HRN.out] at HCF
  rw [HRN.out] at y1
  rw [HLF.out] at y0
  rw [HRN.out, HLF.out] at HW
  rw [HBB.out, HRN.out, HLF.out]
  clear hw0 h hcf e hu hr
  go_enter Try.func57, Try.ntmps57
  go_upto_region 1 with fail
  rw [HW.out]
  clear HW
  go_wp2_with fail
  refine HCF.out.mono ?_
  rintro e w1 ⟨rfl, hb⟩
  have HB := Lib.hid (HB0.out.trans (hb.mono HB0.out.size))
  clear hb
  go_wp2_with fail
  go_ret
  exact ⟨rfl, HB.out⟩
end Ho
end Go.Proofs.Ytjpmebppdcclbaa
namespace Go.Proofs.Ytjpmebppdcclbaa
open Go.RowKit
namespace Ho
open Rp Hl
open Ht hiding D
theorem _root_.Go.Proofs.Ytjpmebppdcclbaa.Ht.FM.lens {B fb : Nat} {gt gn gs : Int} {ra : Option Addr} {rc : Nat} {K : List Rule} {O : Nat → Prop} {n : Nat} {L : Nat → List Itm} {w : World} (h : FM B fb gt gn gs ra rc K O n L w) {j : Nat} (hj : j < n) : ∃ sb cap a m, w.cell? ⟨fb, 0 + 4, none⟩ = some (.slice (some ⟨sb, 0, none⟩) n cap) ∧ w.cell? ⟨sb, j, none⟩ = some (.slice a (L j).length m) ∧ IRow (fun _ => True) w a (L j) ∧ Rd AnyB w (.sl ((L j).map Itm.d')) [.slice a (L j).length m] := by
  obtain ⟨sb, cap, val, h1, h2⟩ := h
  obtain ⟨a, m, e, e1, e2, hir⟩ := FM.irow h1 hj
  have hc := h1.st.cell hj
  rw [e] at hc
  have hro := h1.st.row j hj
  have hrd := rd_of_own (S := AnyB) hro (rdI (L j)) (by simp) (fun _ _ => trivial)
  rw [e] at hrd
  exact ⟨sb, cap, a, m, by simp [World.cell?, h1.box], hc, hir.mono (fun _ _ => trivial), hrd⟩
theorem _root_.Go.Proofs.Ytjpmebppdcclbaa.Ho.IRow.stp {O O' : Nat → Prop} {w w' : World} {a : Option Addr} {c : List Itm} (h : IRow (fun q => ¬ O q) w a c) (hs : Stp O O' w w') : IRow (fun q => ¬ O' q) w' a c := by
  intro i hi
  obtain ⟨g, h1, h2, h3, h4, h5, h6⟩ := h i hi
  have e := hs.same g h3 h2
  refine ⟨g, h1, fun e2 => (hs.own g e2).elim h2 (fun h7 => by omega), Nat.lt_of_lt_of_le h3 hs.size, ?_, ?_, ?_⟩ <;> (rw [World.cell?_of_block (w := w) (by exact e)]; assumption)
def ComPost (B fb : Nat) (gt gn gs : Int) (ra : Option Addr) (rc : Nat) (K : List Rule) (O : Nat → Prop) (n : Nat) (L : Nat → List Itm) (k : Nat) (Q : Itm → Prop) (W : World) (e : Ending) (w' : World) : Prop := e = .returned (.tuple #[]) ∧ ∃ O' c, FM B fb gt gn gs ra rc K O' n (upL L k c) w' ∧ Stp O O' W w' ∧ CoI k L Q c ∧ ∀ x ∈ c, Clo K k (upL L k c) x
set_option maxHeartbeats 16000000 in
set_option maxRecDepth 100000 in
theorem completeF {B fb : Nat} {gt gn gs : Int} {ra : Option Addr} {rc : Nat} {K : List Rule} {O : Nat → Prop} {n : Nat} {L : Nat → List Itm} (W : World) (h : FM B fb gt gn gs ra rc K O n L W) (k : Nat) (hk : n = k + 1) (hn : n ≤ 100) (hkl : K.length ≤ 100) (hr4 : ∀ r ∈ K, r.right.length ≤ 4) (Q : Itm → Prop) (hQ : QOk K k L Q) (hnd : (L k).Nodup) (hLL : ∀ j, j < k → (L j).length ≤ 50000) (hLr : ∀ j, j < k → ∀ y ∈ L j, y.r < K.length) :
    Calls Try.prog 61 #[.pointer (some ⟨fb, 0, none⟩)] W (ComPost B fb gt gn gs ra rc K O n L k Q W) := by
  obtain ⟨PST, HP⟩ := nameIt (ComPost B fb gt gn gs ra rc K O n L k Q W)
  have HFIN : Hid (∀ O' c w', FM B fb gt gn gs ra rc K O' n (upL L k c) w' → Stp O O' W w' → CoI k L Q c → (∀ x ∈ c, Clo K k (upL L k c) x) → PST (.returned (.tuple #[])) w') := by
    intro O' c w' h1 h2 h3 h4
    rw [← HP.out]
    exact ⟨rfl, O', c, h1, h2, h3, h4⟩
  rw [HP.out]
  have HLN : Hid (∀ c, CoI k L Q c → c.length ≤ 50000) := by
    intro c hc
    have h1 := hc.len hr4 hQ
    have h2 : K.length * 5 * (k + 1) ≤ 100 * 5 * 100 := Nat.mul_le_mul (Nat.mul_le_mul_right _ hkl) (by omega)
    omega
  have HKK := Lib.hid hk
  have hkn : k < n := by omega
  have hkn' : (k : Int) < (n : Int) := by omega
  have HC0 : Hid (CoI k L Q (L k)) := CoI.start hQ hnd
  have HQ := Lib.hid hQ
  have HKL := Lib.hid hkl
  have HLJ := Lib.hid hLL
  have HLR := Lib.hid hLr
  have HR4 := Lib.hid hr4
  have HF0 : Hid (FM B fb gt gn gs ra rc K O n (upL L k (L k)) W) := by rw [upL_self]; exact h
  have hw1 : IntKind.i64.wrap ((n : Int) - 1) = (k : Int) := by rw [IntWalk.i64_in _ (by omega)]; omega
  obtain ⟨sb, cap, c4⟩ := h.sets
  clear hk hQ hnd hr4 HP hkl h hLL hLr
  go_enter Try.func61, Try.ntmps61
  go_wp2_with fail
  go_loopg [3, 4, 5, 6, 7, 9, 10, 11] 50001 (fun gg v3 v4 v5 v6 v7 v9 v10 v11 wr => ∃ (nn : Int) (O' : Nat → Prop) (c : List Itm), v3 = .int .i64 nn ∧ -1 ≤ nn ∧ nn ≤ (c.length : Int) ∧ (50000 - nn).toNat ≤ gg ∧ Hid (FM B fb gt gn gs ra rc K O' n (upL L k c) wr) ∧ Hid (Stp O O' W wr) ∧ Hid (CoI k L Q c) ∧ Hid (nn = (c.length : Int) → ∀ x ∈ c, Clo K k (upL L k c) x))
  case atStart => exact ⟨-1, O, L k, rfl, by omega, by omega, by omega, HF0, Stp.below (Below.refl _ _), HC0, fun e => by omega⟩
  case round =>
    clear c4
    obtain ⟨nn, O', c, rfl, hn1, hn2, hgg, HF, HSP, HC, HCL⟩ := hrel
    obtain ⟨sb1, cap1, a1, m1, c4, c5, -, -⟩ := HF.out.lens hkn
    rw [upL_at] at c5
    have hcl := HLN.out c HC.out
    obtain ⟨cl, HCLN⟩ := nameIt c.length
    rw [HCLN.out] at c5 hcl hn2 HCL
    by_cases he : nn = (cl : Int)
    · have hne : (nn != (cl : Int)) = false := by simp [he]
      have HE := Lib.hid (HFIN.out O' c wr HF.out HSP.out HC.out (HCL.out he))
      clear he
      go_wp2_with fail
      first | exact HE.out | exact bodyPost_end (results_none Try.results61 _ _ _) rfl HE.out
    · have hne : (nn != (cl : Int)) = true := by simp [he]
      have HTH0 : Hid (Thr K k L c c 0) := Thr.start
      have HNE := Lib.hid he
      clear he
      go_wp2_with fail
      go_loopg [4, 5, 6, 7, 9, 10, 11] 50001 (fun gg v4 v5 v6 v7 v9 v10 v11 wr => ∃ (i : Nat) (O2 : Nat → Prop) (c2 : List Itm), v4 = .int .i64 (i : Int) ∧ i ≤ c2.length ∧ 50000 - i ≤ gg ∧ Hid (FM B fb gt gn gs ra rc K O2 n (upL L k c2) wr) ∧ Hid (Stp O O2 W wr) ∧ Hid (CoI k L Q c2) ∧ Hid (Thr K k L c c2 i))
      case atStart => exact ⟨0, O', c, rfl, by omega, by omega, HF, HSP, HC, HTH0⟩
      case round =>
        clear c4 c5 HF HSP HC HCL HTH0
        obtain ⟨i, O2, c2, rfl, hi, hgg2, HF, HSP, HC, HTH⟩ := hrel
        obtain ⟨sb2, cap2, a2, m2, c4, c5, hir, -⟩ := HF.out.lens hkn
        rw [upL_at] at c5 hir
        have hcl2 := HLN.out c2 HC.out
        obtain ⟨l2, HL2⟩ := nameIt c2.length
        rw [HL2.out] at c5 hcl2 hi
        by_cases hil : i < l2
        · have hil' : (i : Int) < (l2 : Int) := by omega
          have hiL : i < c2.length := by rw [HL2.out]; exact hil
          obtain ⟨g2, hae, hOg, hgl, q0, q1, q2⟩ := hir i hiL
          have hxm : c2[i] ∈ c2 := List.getElem_mem hiL
          have hok := HQ.out.ok _ (HC.out.q _ hxm)
          have HTS : Hid (∀ c', c2 <+: c' → (c' = c2 → Clo K k (upL L k c2) c2[i]) → Thr K k L c c' (i + 1)) := fun c' h1 h2 => Thr.step hiL HTH.out h1 h2
          obtain ⟨x, HX⟩ := nameIt (c2[i]'hiL)
          rw [HX.out] at q0 q1 q2 hxm hok HTS
          obtain ⟨hxf, r, hxr, hxd⟩ := hok
          have hxK : x.r < K.length := by
            rcases Nat.lt_or_ge x.r K.length with h | h
            · exact h
            · rw [List.getElem?_eq_none h] at hxr; cases hxr
          have HXM := Lib.hid hxm
          have HXR := Lib.hid hxr
          have HXF := Lib.hid hxf
          have HXK := Lib.hid hxK
          obtain ⟨w1, HW1⟩ := nameIt (wr.alloc (.cells #[.int .i64 (x.r : Int), .int .i64 (x.d : Int), .int .i64 (x.f : Int)] 104))
          have hb1 : Below wr.heap.size wr w1 := by rw [← HW1.out]; exact (Below.refl _ _).alloc (Nat.le_refl _) _
          have X1 : Hid (w1.heap[wr.heap.size]? = some (.cells #[.int .i64 (x.r : Int), .int .i64 (x.d : Int), .int .i64 (x.f : Int)] 104 (0, 0))) := by rw [← HW1.out]; exact bx_new _ _ _ rfl
          have HNB : Hid (¬ O2 wr.heap.size) := FM.new HF.out (Nat.le_refl _)
          have HF1 := Lib.hid (HF.out.keep hb1)
          have HNX := Lib.hid (nextE w1 HF1.out x hxK)
          have HB1 := Lib.hid hb1
          obtain ⟨ns, HNS⟩ := nameIt (nxtV K x)
          have HNV : Hid ((nxt K x).isSome = true → nxt K x = some ns) := by
            intro h
            rw [← HNS.out]
            unfold nxtV
            obtain ⟨s, hs⟩ := Option.isSome_iff_exists.1 h
            rw [hs]; rfl
          have HNN : Hid ((nxt K x).isSome = false → nxt K x = none) := by
            intro h
            cases e : nxt K x with
            | none => rfl
            | some s => rw [e] at h; cases h
          obtain ⟨okb, HOKB⟩ := nameIt (nxt K x).isSome
          rw [HNS.out, HOKB.out] at HNX
          rw [HOKB.out] at HNV HNN
          obtain ⟨st, HSTN⟩ := nameIt ns.term
          obtain ⟨sn, HSNN⟩ := nameIt ns.n
          rw [HSTN.out, HSNN.out] at HNX
          obtain ⟨xr, HXRN⟩ := nameIt x.r
          obtain ⟨xd, HXDN⟩ := nameIt x.d
          obtain ⟨xf, HXFN⟩ := nameIt x.f
          rw [HXRN.out] at q0 HW1 X1 HNX
          rw [HXDN.out] at q1 HW1 X1 HNX
          rw [HXFN.out] at q2 HW1 X1 HNX
          obtain ⟨bx, HBXN⟩ := nameIt wr.heap.size
          rw [HBXN.out] at X1 HNB
          subst hae
          clear hb1 hir hxm hxr hxd hxK hxf
          go_upto_region 8 with fail
          rw [HW1.out, HBXN.out]
          clear HW1 q0 q1 q2 c4 c5
          obtain ⟨y0, y1, y2⟩ := bx_cells3 X1.out
          go_wp2_with fail
          refine HNX.out.mono ?_
          rintro e w2 ⟨rfl, hb2⟩
          have HB2 : Hid (Below wr.heap.size wr w2) := HB1.out.trans (hb2.mono HB1.out.size)
          obtain ⟨w3, HW3⟩ := nameIt (w2.alloc (.cells #[.bool st, .int .i64 sn] 44))
          have hb3 : Below w2.heap.size w2 w3 := by rw [← HW3.out]; exact (Below.refl _ _).alloc (Nat.le_refl _) _
          have X3 : Hid (w3.heap[w2.heap.size]? = some (.cells #[.bool st, .int .i64 sn] 44 (0, 0))) := by rw [← HW3.out]; exact bx_new _ _ _ rfl
          have HB3 : Hid (Below wr.heap.size wr w3) := HB2.out.trans (hb3.mono HB2.out.size)
          have HF3 := Lib.hid (HF.out.keep HB3.out)
          have HSP3 : Hid (Stp O O2 W w3) := HSP.out.trans (Stp.below HB3.out)
          have HX3 : Hid (w3.heap[bx]? = some (.cells #[.int .i64 (xr : Int), .int .i64 (xd : Int), .int .i64 (xf : Int)] 104 (0, 0)) ∧ ¬ O2 bx) := ⟨bx_keep (bx_keep X1.out hb2) hb3, HNB.out⟩
          obtain ⟨bs, HBSN⟩ := nameIt w2.heap.size
          rw [HBSN.out] at X3
          clear hb2 hb3 y0 y1 y2
          go_upto_region 9 with fail
          rw [HW3.out, HBSN.out]
          clear HW3
          cases okb with
          | true =>
            have hns := HNV.out rfl
            have hpr := predictE w3 HF3.out k HKK.out hn ns HKL.out (by rw [upL_at]; have := HLN.out c2 HC.out; omega)
            rw [upL_at, upL_up, HSTN.out, HSNN.out] at hpr
            have HPR := Lib.hid hpr
            have HC' := Lib.hid (HC.out.pred HQ.out HXM.out hns)
            have HT' := Lib.hid (HTS.out (prF K ns k c2) pre_addF (fun e => clo_pred hns e))
            have hc2 := HLN.out _ HC'.out
            obtain ⟨s0, s1⟩ := bx_cells2 X3.out
            have hpl : c2.length ≤ (prF K ns k c2).length := pre_addF.length_le
            clear hpr hns
            go_wp2_with fail
            refine HPR.out.mono ?_
            rintro e w4 ⟨rfl, O4, hf4, hs4⟩
            have HF4 := Lib.hid hf4
            have HSP4 : Hid (Stp O O4 W w4) := HSP3.out.trans hs4
            clear hf4 hs4 s0 s1
            go_wp2_with fail
            go_roundg (50000 - (i + 1))
            case measure => omega
            case rel => exact ⟨i + 1, O4, _, by go_num, by omega, by omega, HF4, HSP4, HC', HT'⟩
          | false =>
            have hns := HNN.out rfl
            have hfk := HXF.out
            have hfn : x.f < n := by have := HKK.out; omega
            obtain ⟨sb3, cap3, a3, m3, c4, c5, -, hrd3⟩ := HF3.out.lens hfn
            have hyl : (upL L k c2 x.f).length ≤ 50000 := by
              unfold upL
              split
              · exact HLN.out c2 HC.out
              · exact HLJ.out _ (by omega)
            have HCM := Lib.hid (fun (r : Rule) (hr : K[x.r]? = some r) => HC.out.comp HQ.out HXM.out hr hns)
            have HCX := Lib.hid (fun (r : Rule) (hr : K[x.r]? = some r) => clo_comp (L := L) (k := k) (c := c2) hr hns)
            obtain ⟨ys, HYS⟩ := nameIt (upL L k c2 x.f)
            rw [HYS.out] at c5 hrd3 hyl
            simp only [HYS.out] at HCM HCX
            rw [HXFN.out] at c5 hfn
            have hfn' : (xf : Int) < (n : Int) := by omega
            have HCL : Hid (∀ W', Below w3.heap.size w3 W' → Calls Try.prog 93 #[.slice a3 ys.length m3] W' fun e w' => ∃ a' m', e = .returned (.slice a' ys.length m') ∧ IRow (fun k => W'.heap.size ≤ k) w' a' ys ∧ Below W'.heap.size W' w') := fun W' hb => cloneI ys a3 m3 W' (hrd3.below hb) (by omega)
            obtain ⟨yl, HYL⟩ := nameIt ys.length
            rw [HYL.out] at c5 hyl
            simp only [HYL.out] at HCL
            have HS : Hid (∀ W', Below w3.heap.size w3 W' → W'.cell? ⟨fb, 0 + 4, none⟩ = some (.slice (some ⟨sb3, 0, none⟩) n cap3) ∧ W'.cell? ⟨sb3, xf, none⟩ = some (.slice a3 yl m3) ∧ W'.cell? ⟨bx, 0 + 2, none⟩ = some (.int .i64 (xf : Int))) := fun W' hb => ⟨(hb.cell (lt_of_cell c4)).trans c4, (hb.cell (lt_of_cell c5)).trans c5, (bx_cells3 (bx_keep HX3.out.1 hb)).2.2⟩
            clear hrd3 c4 c5 hns hfk
            go_upto_region 11 with fail
            go_cut [76, 77, 78] (fun v76 v77 v78 wx => ∃ a' m', v76 = .slice a' yl m' ∧ v77 = .int .i64 (yl : Int) ∧ v78 = .int .i64 0 ∧ Hid (IRow (fun k => w3.heap.size ≤ k) wx a' ys) ∧ Hid (Below w3.heap.size w3 wx))
            case first =>
              obtain ⟨c4, c5, c6⟩ := HS.out w3 (Below.refl _ _)
              go_region_held3 (fun w' => w'.cell? ⟨fb, 0 + 4, none⟩ = some (.slice (some ⟨sb3, 0, none⟩) n cap3) ∧ w'.cell? ⟨sb3, xf, none⟩ = some (.slice a3 yl m3) ∧ w'.cell? ⟨bx, 0 + 2, none⟩ = some (.int .i64 (xf : Int)))
                (first | exact HS.out _ (Below.refl _ _).drew | exact HS.out _ HB5.out | fail)
                (first
                  | (go_at_call 93; (with_reducible refine (HCL.out _ (Below.refl _ _).drew).mono ?_); rintro e w5 ⟨a5, m5, rfl, hir5, hb5⟩; have HB5 : Hid (Below w3.heap.size w3 w5) := (Below.refl _ _).drew.trans hb5; have HIR5 : Hid (IRow (fun k => w3.heap.size ≤ k) w5 a5 ys) := hir5; clear hir5 hb5)
                  | fail)
              all_goals
                go_wp2_with fail
                go_meet
                exact ⟨a5, m5, rfl, rfl, rfl, HIR5, HB5⟩
            case rest =>
            obtain ⟨a5, m5, rfl, rfl, rfl, HIR5, HB5⟩ := hcut
            obtain ⟨ws, rfl⟩ : ∃ ww : World, ww = wc := ⟨_, rfl⟩
            have HF5 := Lib.hid (HF3.out.keep HB5.out)
            have HSP5 : Hid (Stp O O2 W ws) := HSP3.out.trans (Stp.below HB5.out)
            have HX5 : Hid (ws.heap[bx]? = some (.cells #[.int .i64 (xr : Int), .int .i64 (xd : Int), .int .i64 (xf : Int)] 104 (0, 0)) ∧ ¬ O2 bx) := ⟨bx_keep HX3.out.1 HB5.out, HX3.out.2⟩
            have HI5 : Hid (IRow (fun q => ¬ O2 q) ws a5 ys) := HIR5.out.mono (fun q hq => FM.new HF3.out hq)
            obtain ⟨lf, HLF⟩ := nameIt r.left
            have HYR : Hid (∀ y ∈ ys, y.r < K.length) := by
              intro y hy
              rw [← HYS.out] at hy
              unfold upL at hy
              split at hy
              · obtain ⟨_, r', h1, _⟩ := HQ.out.ok y (HC.out.q y hy)
                rcases Nat.lt_or_ge y.r K.length with h | h
                · exact h
                · rw [List.getElem?_eq_none h] at h1; cases h1
              · have := HXF.out
                exact HLR.out x.f (by omega) y hy
            clear HIR5 HS HCL hfn hfn'
            go_upto_region 12 with fail
            go_loopg [9, 10, 11, 78] yl (fun gg v9 v10 v11 v78 wr2 => ∃ (j : Nat) (O5 : Nat → Prop), j ≤ yl ∧ yl - j ≤ gg ∧ v78 = .int .i64 (j : Int) ∧ Hid (FM B fb gt gn gs ra rc K O5 n (upL L k (addF (coP K lf) c2 (ys.take j))) wr2) ∧ Hid (Stp O O5 W wr2) ∧ Hid (wr2.heap[bx]? = some (.cells #[.int .i64 (xr : Int), .int .i64 (xd : Int), .int .i64 (xf : Int)] 104 (0, 0)) ∧ ¬ O5 bx) ∧ Hid (IRow (fun q => ¬ O5 q) wr2 a5 ys))
            case atStart => exact ⟨0, O2, by omega, by omega, rfl, by rw [List.take_zero]; exact HF5, HSP5, HX5, HI5⟩
            case round =>
              clear HF5 HSP5 HX5 HI5
              obtain ⟨j, O5, hj, hgg3, rfl, HFY, HSY, HXY, HIY⟩ := hrel
              by_cases hjl : j < yl
              · have hjl' : (j : Int) < (yl : Int) := by omega
                obtain ⟨wy, rfl⟩ : ∃ ww : World, ww = wr := ⟨_, rfl⟩
                have hjL : j < ys.length := by rw [HYL.out]; exact hjl
                obtain ⟨g5, hae5, hOg5, hgl5, q0, q1, q2⟩ := HIY.out j hjL
                have hyr := HYR.out _ (List.getElem_mem hjL)
                have hsucc := addF_succ (P := coP K lf) (c := c2) (ys := ys) (j := j) hjL
                have hcl5 : (addF (coP K lf) c2 (ys.take j)).length ≤ 100000 := by
                  refine Nat.le_trans addF_len ?_
                  have := HLN.out c2 HC.out
                  rw [List.length_take]; omega
                obtain ⟨y, HYN⟩ := nameIt (ys[j]'hjL)
                rw [HYN.out] at q0 q1 q2 hyr hsucc
                obtain ⟨cj, HCJ⟩ := nameIt (addF (coP K lf) c2 (ys.take j))
                rw [HCJ.out] at hsucc hcl5 HFY
                obtain ⟨w6, HW6⟩ := nameIt (wy.alloc (.cells #[.int .i64 (y.r : Int), .int .i64 (y.d : Int), .int .i64 (y.f : Int)] 104))
                have hb6 : Below wy.heap.size wy w6 := by rw [← HW6.out]; exact (Below.refl _ _).alloc (Nat.le_refl _) _
                have X6 : Hid (w6.heap[wy.heap.size]? = some (.cells #[.int .i64 (y.r : Int), .int .i64 (y.d : Int), .int .i64 (y.f : Int)] 104 (0, 0))) := by rw [← HW6.out]; exact bx_new _ _ _ rfl
                have HNB6 : Hid (¬ O5 wy.heap.size) := FM.new HFY.out (Nat.le_refl _)
                have HF6 := Lib.hid (HFY.out.keep hb6)
                have HNX6 := Lib.hid (nextE w6 HF6.out y hyr)
                have HB6 := Lib.hid hb6
                have HSU := Lib.hid hsucc
                have HCL5 := Lib.hid hcl5
                obtain ⟨ns2, HNS2⟩ := nameIt (nxtV K y)
                have HNV2 : Hid ((nxt K y).isSome = true → nxt K y = some ns2) := by
                  intro h
                  rw [← HNS2.out]
                  unfold nxtV
                  obtain ⟨s, hs⟩ := Option.isSome_iff_exists.1 h
                  rw [hs]; rfl
                have HNN2 : Hid ((nxt K y).isSome = false → nxt K y = none) := by
                  intro h
                  cases e : nxt K y with
                  | none => rfl
                  | some s => rw [e] at h; cases h
                obtain ⟨okb2, HOKB2⟩ := nameIt (nxt K y).isSome
                rw [HNS2.out, HOKB2.out] at HNX6
                rw [HOKB2.out] at HNV2 HNN2
                obtain ⟨⟨st2, sn2⟩, HNS3⟩ := nameIt ns2
                rw [HNS3.out] at HNX6 HNV2
                dsimp only at HNX6
                obtain ⟨yr, HYRN⟩ := nameIt y.r
                obtain ⟨yd, HYDN⟩ := nameIt y.d
                obtain ⟨yf, HYFN⟩ := nameIt y.f
                rw [HYRN.out] at q0 HW6 X6 HNX6
                rw [HYDN.out] at q1 HW6 X6 HNX6
                rw [HYFN.out] at q2 HW6 X6 HNX6
                obtain ⟨by6, HBY6⟩ := nameIt wy.heap.size
                rw [HBY6.out] at X6 HNB6
                subst hae5
                clear hb6 hyr hsucc hcl5 hOg5 hgl5
                go_upto_region 14 with fail
                rw [HW6.out, HBY6.out]
                clear HW6 q0 q1 q2
                obtain ⟨y0, y1, y2⟩ := bx_cells3 X6.out
                go_wp2_with fail
                refine HNX6.out.mono ?_
                rintro e w7 ⟨rfl, hb7⟩
                obtain ⟨w8, HW8⟩ := nameIt (w7.alloc (.cells #[.bool st2, .int .i64 sn2] 44))
                have hb8 : Below w7.heap.size w7 w8 := by rw [← HW8.out]; exact (Below.refl _ _).alloc (Nat.le_refl _) _
                have X8 : Hid (w8.heap[w7.heap.size]? = some (.cells #[.bool st2, .int .i64 sn2] 44 (0, 0))) := by rw [← HW8.out]; exact bx_new _ _ _ rfl
                have HB8 : Hid (Below wy.heap.size wy w8) := (HB6.out.trans (hb7.mono HB6.out.size)).trans (hb8.mono (HB6.out.trans (hb7.mono HB6.out.size)).size)
                have X68 := Lib.hid (bx_keep (bx_keep X6.out hb7) hb8)
                have HF8 := Lib.hid (HFY.out.keep HB8.out)
                obtain ⟨bs8, HBS8⟩ := nameIt w7.heap.size
                rw [HBS8.out] at X8
                clear hb7 hb8 y0 y1 y2
                go_upto_region 15 with fail
                rw [HW8.out, HBS8.out]
                clear HW8
                have hxk := HXK.out
                obtain ⟨bk8, ro8, v8, hae8, -, -, s0, -, -⟩ := HF8.out.rd.rule_at hxk
                have hxr8 := HXR.out
                rw [List.getElem?_eq_getElem hxk] at hxr8
                have hkl8 : K[x.r].left = lf := by rw [Option.some.inj hxr8]; exact HLF.out
                rw [hkl8, HXRN.out] at s0
                have hru := HF8.out.rules
                obtain ⟨kn, HKN⟩ := nameIt K.length
                have hxkn : xr < kn := by rw [← HXRN.out, ← HKN.out]; exact hxk
                have hxkn' : (xr : Int) < (kn : Int) := by omega
                rw [HKN.out] at hru
                obtain ⟨z0, z1⟩ := bx_cells2 X8.out
                obtain ⟨x0, -, -⟩ := bx_cells3 (bx_keep HXY.out.1 HB8.out)
                have he := symEq st2 false sn2 lf
                obtain ⟨bq, HBQ⟩ := nameIt (st2 == false && sn2 == lf)
                rw [HBQ.out] at he
                have HCO : Hid (coP K lf y = if okb2 && bq then some ⟨yr, yd + 1, yf⟩ else none) := by
                  show _ = _
                  unfold coP
                  rw [HYRN.out, HYDN.out, HYFN.out]
                  have e1 : decide (nxt K y = some ⟨false, lf⟩) = (okb2 && bq) := by
                    cases okb2 with
                    | false => rw [HNN2.out rfl]; simp
                    | true =>
                      rw [HNV2.out rfl, ← HBQ.out, Bool.eq_iff_iff]
                      simp
                  rw [← e1]
                  simp
                have i0 := aft_cell s0
                have i1 := aft_cell hru
                have i2 := aft_cell z0
                have i3 := aft_cell z1
                have i4 := aft_cell x0
                have HGN : Hid (∀ W2, Below w8.heap.size w8 W2 → Calls Try.prog 60 #[.int .i64 lf] W2 fun e w' => e = .returned (.agg #[.bool false, .int .i64 lf]) ∧ Below W2.heap.size W2 w') := fun W2 _ => gramN lf W2
                subst hae8
                clear s0 hru z0 z1 x0 hkl8 hxr8 hxk
                cases okb2 with
                | false =>
                  refine wp_region_after (by kernel_rfl) (by kernel_rfl) ?_
                  repeat (go_big_quiet_step (with_reducible exact Calls.after (HGN.out _ (Aft.bel _))))
                  refine wpQuiet_nil ?_
                  rintro w9 ⟨⟨_, hb9⟩, rfl⟩
                  have HB9 : Hid (Below wy.heap.size wy w9) := HB8.out.trans (hb9.mono HB8.out.size)
                  have HF9 := Lib.hid (HF8.out.keep hb9)
                  have X69 := Lib.hid (bx_keep X68.out hb9)
                  have HSP9 : Hid (Stp O O5 W w9) := HSY.out.trans (Stp.below HB9.out)
                  have HX9 : Hid (w9.heap[bx]? = some (.cells #[.int .i64 (xr : Int), .int .i64 (xd : Int), .int .i64 (xf : Int)] 104 (0, 0)) ∧ ¬ O5 bx) := ⟨bx_keep HXY.out.1 HB9.out, HXY.out.2⟩
                  have HI9 := Lib.hid (HIY.out.below HB9.out)
                  clear hb9 i0 i1 i2 i3 i4 he
                  have hC : addF (coP K lf) c2 (ys.take (j + 1)) = cj := by rw [HSU.out, HCO.out]; rfl
                  have HF10 : Hid (FM B fb gt gn gs (some ⟨bk8, ro8, none⟩) rc K O5 n (upL L k (addF (coP K lf) c2 (ys.take (j + 1)))) w9) := by rw [hC]; exact HF9.out
                  clear hC
                  go_wp2_with fail
                  go_roundg (yl - (j + 1))
                  case measure => omega
                  case rel => exact ⟨j + 1, O5, by omega, by omega, by go_num, HF10, HSP9, HX9, HI9⟩
                | true =>
                cases bq with
                | false =>
                  refine wp_region_after (by kernel_rfl) (by kernel_rfl) ?_
                  repeat (go_big_quiet_step (with_reducible exact Calls.after (HGN.out _ (Aft.bel _))))
                  refine wpQuiet_nil ?_
                  rintro w9 ⟨⟨_, hb9⟩, rfl⟩
                  have HB9 : Hid (Below wy.heap.size wy w9) := HB8.out.trans (hb9.mono HB8.out.size)
                  have HF9 := Lib.hid (HF8.out.keep hb9)
                  have X69 := Lib.hid (bx_keep X68.out hb9)
                  have HSP9 : Hid (Stp O O5 W w9) := HSY.out.trans (Stp.below HB9.out)
                  have HX9 : Hid (w9.heap[bx]? = some (.cells #[.int .i64 (xr : Int), .int .i64 (xd : Int), .int .i64 (xf : Int)] 104 (0, 0)) ∧ ¬ O5 bx) := ⟨bx_keep HXY.out.1 HB9.out, HXY.out.2⟩
                  have HI9 := Lib.hid (HIY.out.below HB9.out)
                  clear hb9 i0 i1 i2 i3 i4 he
                  have hC : addF (coP K lf) c2 (ys.take (j + 1)) = cj := by rw [HSU.out, HCO.out]; rfl
                  have HF10 : Hid (FM B fb gt gn gs (some ⟨bk8, ro8, none⟩) rc K O5 n (upL L k (addF (coP K lf) c2 (ys.take (j + 1)))) w9) := by rw [hC]; exact HF9.out
                  clear hC
                  go_wp2_with fail
                  go_roundg (yl - (j + 1))
                  case measure => omega
                  case rel => exact ⟨j + 1, O5, by omega, by omega, by go_num, HF10, HSP9, HX9, HI9⟩
                | true =>
                  refine wp_region_after (by kernel_rfl) (by kernel_rfl) ?_
                  repeat (go_big_quiet_step (with_reducible exact Calls.after (HGN.out _ (Aft.bel _))))
                  refine wpQuiet_nil ?_
                  rintro w9 ⟨⟨_, hb9⟩, rfl⟩
                  have HB9 : Hid (Below wy.heap.size wy w9) := HB8.out.trans (hb9.mono HB8.out.size)
                  have HF9 := Lib.hid (HF8.out.keep hb9)
                  have X69 := Lib.hid (bx_keep X68.out hb9)
                  have HSP9 : Hid (Stp O O5 W w9) := HSY.out.trans (Stp.below HB9.out)
                  have HX9 : Hid (w9.heap[bx]? = some (.cells #[.int .i64 (xr : Int), .int .i64 (xd : Int), .int .i64 (xf : Int)] 104 (0, 0)) ∧ ¬ O5 bx) := ⟨bx_keep HXY.out.1 HB9.out, HXY.out.2⟩
                  have HI9 := Lib.hid (HIY.out.below HB9.out)
                  clear hb9 i0 i1 i2 i3 i4 he
                  have hyd : yd < 4 := by
                    obtain ⟨r9, h1, h2⟩ := nxt_some.1 (HNV2.out rfl)
                    have h3 := HR4.out r9 (List.mem_of_getElem? h1)
                    have h4 := d_lt h2
                    rw [HYDN.out] at h4
                    omega
                  obtain ⟨yd1, HYD1⟩ := nameIt (yd + 1)
                  have hwd : IntKind.i64.wrap ((yd : Int) + 1) = (yd1 : Int) := by have := HYD1.out; rw [IntWalk.i64_in _ (by omega)]; omega
                  have hC : addF (coP K lf) c2 (ys.take (j + 1)) = addI cj ⟨yr, yd1, yf⟩ := by rw [HSU.out, HCO.out, HYD1.out]; rfl
                  have hadd := addE w9 HF9.out k HKK.out hn ⟨yr, yd1, yf⟩ (by rw [upL_at]; have := HCL5.out; omega)
                  rw [upL_at, upL_up, ← hC] at hadd
                  have HAD := Lib.hid hadd
                  obtain ⟨y0, y1, y2⟩ := bx_cells3 X69.out
                  clear hadd hC hyd
                  go_wp2_with fail
                  refine HAD.out.mono ?_
                  rintro e wz ⟨rfl, O6, hf6, hs6⟩
                  have HF10 := Lib.hid hf6
                  have HSP10 : Hid (Stp O O6 W wz) := HSP9.out.trans hs6
                  have HX10 := Lib.hid (hs6.box HX9.out.1 HX9.out.2)
                  have HI10 : Hid (IRow (fun q => ¬ O6 q) wz (some ⟨g5, 0, none⟩) ys) := HI9.out.stp hs6
                  clear hf6 hs6 y0 y1 y2
                  go_wp2_with fail
                  go_roundg (yl - (j + 1))
                  case measure => omega
                  case rel => exact ⟨j + 1, O6, by omega, by omega, by go_num, HF10, HSP10, HX10, HI10⟩
              · have hjl' : ¬ (j : Int) < (yl : Int) := by omega
                have htk : ys.take j = ys := List.take_of_length_le (by rw [HYL.out]; omega)
                rw [htk, ← HLF.out] at HFY
                have HC' := Lib.hid (HCM.out r HXR.out)
                have HT' := Lib.hid (HTS.out _ pre_addF (HCX.out r HXR.out))
                have hc2 := HLN.out _ HC'.out
                have hpl : c2.length ≤ (addF (coP K r.left) c2 ys).length := pre_addF.length_le
                clear htk
                go_wp2_with fail
                go_roundg (50000 - (i + 1))
                case measure => omega
                case rel => exact ⟨i + 1, O5, _, by go_num, by omega, by omega, HFY, HSY, HC', HT'⟩
        · have hil' : ¬ (i : Int) < (l2 : Int) := by omega
          have HPR := Lib.hid HTH.out.1.length_le
          have HCL2 : Hid ((cl : Int) = (c2.length : Int) → ∀ x ∈ c2, Clo K k (upL L k c2) x) := fun e => HTH.out.done (by rw [HL2.out]; omega) (by rw [HCLN.out]; omega)
          go_wp2_with fail
          go_roundg (50000 - (cl : Int)).toNat
          case measure => have := HNE.out; omega
          case rel => exact ⟨(cl : Int), O2, c2, rfl, by omega, by have := HPR.out; rw [HCLN.out] at this; omega, by omega, HF, HSP, HC, HCL2⟩
end Ho
end Go.Proofs.Ytjpmebppdcclbaa
namespace Go.Proofs.Ytjpmebppdcclbaa
open Go.RowKit
namespace Ho
open Rp Hl
open Ht hiding D
theorem more_FM {B fb : Nat} {gt gn gs : Int} {ra : Option Addr} {rc : Nat} {K : List Rule} {sb cap n : Nat} {val : Nat → Value} {L : Nat → List Itm} {w w' : World} (h : FMi B fb gt gn gs ra rc K sb cap n val L w) {sb' cap' : Nat} (ho : w'.ownsRow B 102 1 (.slice (some ⟨sb', 0, none⟩) (n + 1) cap') (n + 1) ((List.range n).map val ++ [.slice none 0 0])) (hg : w.grownBy w' (some sb)) (hat : sb' = sb ∨ w.heap.size ≤ sb') (hL : L n = []) :
    w'.heap[fb]? = some (.cells #[.int .i64 gt, .int .i64 gn, .int .i64 gs, .slice ra K.length rc, .slice (some ⟨sb, 0, none⟩) n cap] 99 (0, 0)) ∧ ∃ O', FM B fb gt gn gs ra rc K O' (n + 1) L (w'.setCell ⟨fb, 4, none⟩ (.slice (some ⟨sb', 0, none⟩) (n + 1) cap')) ∧ Stp (OwS fb sb n val) O' w (w'.setCell ⟨fb, 4, none⟩ (.slice (some ⟨sb', 0, none⟩) (n + 1) cap')) ∧ ∀ j, j < n → ∀ g, (val j).ownBlock = some g → ¬ O' g ∧ g < w.heap.size ∧ (w'.setCell ⟨fb, 4, none⟩ (.slice (some ⟨sb', 0, none⟩) (n + 1) cap')).heap[g]? = w.heap[g]? := by
  obtain ⟨h1, h2, h3, h3b, h4⟩ := h
  have hfb := bx_lt h2
  have hne : fb ≠ sb := fun e => h3 (.inl e)
  have hb1 : w'.heap[fb]? = some (.cells #[.int .i64 gt, .int .i64 gn, .int .i64 gs, .slice ra K.length rc, .slice (some ⟨sb, 0, none⟩) n cap] 99 (0, 0)) := (hg.block fb hfb (fun e => hne (Option.some.inj e))).trans h2
  have hm := h1.more ho hg hat hL
  have hown : ∀ k, OwA sb' (n + 1) (fun k => if k = n then .slice none 0 0 else val k) k → k ≠ fb := by
    rintro k (rfl | ⟨i, hi, e⟩) e2
    · rcases hat with h | h
      · exact hne (e2 ▸ h)
      · omega
    · by_cases e1 : i = n
      · simp only [e1, if_true] at e; cases e
      · simp only [e1, if_false] at e
        exact h3 (.inr ⟨i, by omega, e2 ▸ e⟩)
  refine ⟨hb1, OwS fb sb' (n + 1) (fun k => if k = n then .slice none 0 0 else val k), ⟨sb', cap', _, ⟨?_, ?_, fun e => hown fb e rfl, h3b, ?_⟩, fun _ => Iff.rfl⟩, ⟨hg.os, hg.tape, hg.output, by rw [World.size_setCell]; exact hg.size, fun k hk hn => ?_, ?_⟩, fun j hj g e => ?_⟩
  · have hset : ∀ g, OwA sb' (n + 1) (fun k => if k = n then .slice none 0 0 else val k) g → (w'.setCell ⟨fb, 4, none⟩ (.slice (some ⟨sb', 0, none⟩) (n + 1) cap')).heap[g]? = w'.heap[g]? := fun g hg => Below.heap_setCell _ _ _ _ (hown g hg)
    exact ⟨own_blkI hm.out fun g e => hset g (.inl (by cases e; rfl)), fun k hk => own_blkI (hm.row k hk) fun g e => hset g (.inr ⟨k, hk, e⟩), hm.dis, hm.dso⟩
  · rw [bx_set hb1]; rfl
  · refine Rd.keep (fun k hk hlt => ⟨hk, ?_⟩) _ _ h4
    have hk' : k < B := hk
    rw [Below.heap_setCell _ _ _ _ (by simp only; omega)]
    exact hg.block k hlt (fun e => by cases e; have := (h1.out.lt sb rfl).1; omega)
  · rw [Below.heap_setCell _ _ _ _ (fun e => hn (.inl e))]
    exact hg.block k hk (fun e => hn (.inr (.inl (Option.some.inj e))))
  · rintro k (rfl | rfl | ⟨i, hi, e⟩)
    · exact .inl (.inl rfl)
    · rcases hat with h | h
      · exact .inl (.inr (.inl h))
      · exact .inr h
    · have e1 : i = n := by omega
      simp only [e1, if_true] at e; cases e
  · have hlt := (h1.row j hj).lt g e
    have hgf : g ≠ fb := fun e2 => h3 (.inr ⟨j, hj, e2 ▸ e⟩)
    refine ⟨?_, hlt.2, ?_⟩
    · rintro (e2 | e2 | ⟨i, hi, e2⟩)
      · exact hgf e2
      · rcases hat with h | h
        · exact h1.dso j hj (by rw [e, e2, h])
        · omega
      · have e1 : i = n := by omega
        simp only [e1, if_true] at e2; cases e2
    · rw [Below.heap_setCell _ _ _ _ hgf]
      exact hg.block g hlt.2 (fun e2 => h1.dso j hj (by rw [e, e2]))
def ScanPost (B fb : Nat) (gt gn gs : Int) (ra : Option Addr) (rc : Nat) (K : List Rule) (O : Nat → Prop) (n : Nat) (L : Nat → List Itm) (s0 : List Itm) (Q : Itm → Prop) (W : World) (e : Ending) (w' : World) : Prop := e = .returned (.tuple #[]) ∧ ∃ O' c, FM B fb gt gn gs ra rc K O' (n + 1) (upL L n c) w' ∧ Stp O O' W w' ∧ CoI n (upL L n s0) Q c ∧ ∀ x ∈ c, Clo K n (upL L n c) x
theorem _root_.Go.Proofs.Ytjpmebppdcclbaa.Ht.FM.open' {B fb : Nat} {gt gn gs : Int} {ra : Option Addr} {rc : Nat} {K : List Rule} {O : Nat → Prop} {n : Nat} {L : Nat → List Itm} {w : World} (h : FM B fb gt gn gs ra rc K O n L w) : ∃ sb cap val, FMi B fb gt gn gs ra rc K sb cap n val L w ∧ O = OwS fb sb n val := by
  obtain ⟨sb, cap, val, h1, h2⟩ := h
  exact ⟨sb, cap, val, h1, funext fun k => propext (h2 k)⟩
set_option maxHeartbeats 16000000 in
set_option maxRecDepth 100000 in
theorem scanF {B fb : Nat} {gt gn gs : Int} {ra : Option Addr} {rc : Nat} {K : List Rule} {O : Nat → Prop} {n : Nat} {L : Nat → List Itm} (W : World) (h : FM B fb gt gn gs ra rc K O n L W) (k : Nat) (hk : n = k + 1) (hn : n ≤ 50) (hL : L n = []) (cell : Sym) (hkl : K.length ≤ 100) (hr4 : ∀ r ∈ K, r.right.length ≤ 4) (hLL : ∀ j, j ≤ k → (L j).length ≤ 50000) (hLr : ∀ j, j ≤ k → ∀ y ∈ L j, y.r < K.length) (Q : Itm → Prop) (hQ : QOk K n (upL L n (addF (scP K cell) [] (L k))) Q) :
    Calls Try.prog 62 #[.pointer (some ⟨fb, 0, none⟩), .agg #[.bool cell.term, .int .i64 cell.n]] W (ScanPost B fb gt gn gs ra rc K O n L (addF (scP K cell) [] (L k)) Q W) := by
  obtain ⟨w0, HW⟩ := nameIt (W.alloc (.cells #[.bool cell.term, .int .i64 cell.n] 44))
  have hw0 : Below W.heap.size W w0 := by rw [← HW.out]; exact (Below.refl _ _).alloc (Nat.le_refl _) _
  have HC0 : Hid (w0.heap[W.heap.size]? = some (.cells #[.bool cell.term, .int .i64 cell.n] 44 (0, 0))) := by rw [← HW.out]; exact bx_new _ _ _ rfl
  have HNO : Hid (¬ O W.heap.size) := FM.new h (Nat.le_refl _)
  have HF0 := Lib.hid (h.keep hw0)
  obtain ⟨sb, cap, val, hI, hO⟩ := FM.open' HF0.out
  have hkn : k < n := by omega
  obtain ⟨av, cv, hval, hv1, hv2, hir⟩ := own_irow rfl (hI.st.row k hkn)
  have c4 : w0.cell? ⟨fb, 0 + 4, none⟩ = some (.slice (some ⟨sb, 0, none⟩) n cap) := by simp [World.cell?, hI.box]
  have c5 := hI.st.cell hkn
  rw [hval] at c5
  obtain ⟨PST, HP⟩ := nameIt (ScanPost B fb gt gn gs ra rc K O n L (addF (scP K cell) [] (L k)) Q W)
  have HFIN : Hid (∀ O' c w', FM B fb gt gn gs ra rc K O' (n + 1) (upL L n c) w' → Stp O O' W w' → CoI n (upL L n (addF (scP K cell) [] (L k))) Q c → (∀ x ∈ c, Clo K n (upL L n c) x) → PST (.returned (.tuple #[])) w') := by
    intro O' c w' h1 h2 h3 h4
    rw [← HP.out]
    exact ⟨rfl, O', c, h1, h2, h3, h4⟩
  rw [HP.out]
  have HS0 : Hid (Stp O O W w0) := Stp.below hw0
  have HI := Lib.hid hI
  have HIR := Lib.hid hir
  have HOO := Lib.hid hO
  have HKK := Lib.hid hk
  have HQ := Lib.hid hQ
  have HLJ := Lib.hid hLL
  have HLR := Lib.hid hLr
  have HR4 := Lib.hid hr4
  have HLN := Lib.hid hL
  have HVAL := Lib.hid hval
  have hll := hLL k (Nat.le_refl _)
  have hkn' : (k : Int) < (n : Int) := by omega
  have hw1 : IntKind.i64.wrap ((n : Int) - 1) = (k : Int) := by rw [IntWalk.i64_in _ (by omega)]; omega
  obtain ⟨ol, HOL⟩ := nameIt (L k).length
  rw [HOL.out] at c5 hv1 hll
  obtain ⟨ct, HCT⟩ := nameIt cell.term
  obtain ⟨cn, HCN⟩ := nameIt cell.n
  rw [HCT.out, HCN.out] at HW HC0
  rw [HCT.out, HCN.out]
  have i0 := aft_cell c4
  have i1 := aft_cell c5
  clear h hw0 hk hL hr4 hLL hLr hQ hI hO hval hir c4 c5 HP
  go_enter Try.func62, Try.ntmps62
  go_upto_region 1 with fail
  rw [HW.out]
  clear HW
  refine wp_region_after (by kernel_rfl) (by kernel_rfl) ?_
  repeat (go_big_quiet_step (fail))
  refine wpQuiet_nil ?_
  rintro w1 ⟨⟨_, hb1⟩, rfl⟩
  clear i0 i1
  have hI1 : FMi B fb gt gn gs ra rc K sb cap n val L w1 := ⟨HI.out.st.keep hb1, bx_keep HI.out.box hb1, HI.out.nf, HI.out.fbl, HI.out.rd.below hb1⟩
  have HI1 := Lib.hid hI1
  have HOW := Lib.hid hI1.st.out
  have HSP1 : Hid (Stp O O W w1) := HS0.out.trans (Stp.below hb1)
  have HC1 : Hid (w1.heap[W.heap.size]? = some (.cells #[.bool ct, .int .i64 cn] 44 (0, 0))) := bx_keep HC0.out hb1
  have HIR1 := Lib.hid (HIR.out.below hb1)
  have c4 : w1.cell? ⟨fb, 0 + 4, none⟩ = some (.slice (some ⟨sb, 0, none⟩) n cap) := by simp [World.cell?, hI1.box]
  have HB1W := Lib.hid (hI1.st.out.lt sb rfl)
  clear hb1 hI1
  go_wp2_with (at_builtin; refine wp_app1at elSet rfl _ _ rfl HOW.out rfl rfl rfl rfl rfl (by omega) (by unfold maxLen; omega) (by have := HB1W.out; omega) ?_)
  intro v' w2 ho hg hat
  obtain ⟨sb', cap', rfl, hsb', -, -, -, -⟩ := own_at ho hat
  obtain ⟨hbx, O2, hf2, hs2, hfr⟩ := more_FM HI1.out ho hg (hsb'.imp (fun e => by simp [Value.ownBlock] at e; exact e.symm) id) HLN.out
  rw [← HOO.out] at hs2
  have HF2 := Lib.hid hf2
  have HSP2 : Hid (Stp O O2 W (w2.setCell ⟨fb, 4, none⟩ (.slice (some ⟨sb', 0, none⟩) (n + 1) cap'))) := HSP1.out.trans hs2
  have HX2 := Lib.hid (hs2.box HC1.out HNO.out)
  have HIR2 : Hid (IRow (fun q => ¬ O2 q) (w2.setCell ⟨fb, 4, none⟩ (.slice (some ⟨sb', 0, none⟩) (n + 1) cap')) av (L k)) := by
    intro i hi
    obtain ⟨g, h1, h2, h3, h4, h5, h6⟩ := HIR1.out i hi
    obtain ⟨a1, a2, a3⟩ := hfr k hkn g h2.2
    refine ⟨g, h1, a1, by have := hs2.size; omega, ?_, ?_, ?_⟩ <;> (rw [World.cell?_of_block (w := w1) (by exact a3)]; assumption)
  have z4 : w2.cell? ⟨fb, 0 + 4, none⟩ = some (.slice (some ⟨sb, 0, none⟩) n cap) := by simp [World.cell?, hbx]
  have f4 : w2.frozen? ⟨fb, 0 + 4, none⟩ = false := by simp [World.frozen?, hbx]
  obtain ⟨w3, HW3⟩ := nameIt (w2.setCell ⟨fb, 4, none⟩ (.slice (some ⟨sb', 0, none⟩) (n + 1) cap'))
  rw [HW3.out] at HF2 HSP2 HX2 HIR2
  have hLe : L = upL L n (addF (scP K cell) [] ((L k).take 0)) := by
    rw [List.take_zero]
    show L = upL L n []
    rw [← HLN.out, upL_self]
  rw [hLe] at HF2
  clear ho hg hat hbx hf2 hs2 hfr hLe c4
  go_upto_region 3 with fail
  rw [HW3.out]
  clear HW3 z4 f4
  go_wp2_with fail
  go_loopg [6, 7, 8, 32] ol (fun gg v6 v7 v8 v32 wr => ∃ (j : Nat) (O5 : Nat → Prop), j ≤ ol ∧ ol - j ≤ gg ∧ v32 = .int .i64 (j : Int) ∧ Hid (FM B fb gt gn gs ra rc K O5 (n + 1) (upL L n (addF (scP K cell) [] ((L k).take j))) wr) ∧ Hid (Stp O O5 W wr) ∧ Hid (wr.heap[W.heap.size]? = some (.cells #[.bool ct, .int .i64 cn] 44 (0, 0)) ∧ ¬ O5 W.heap.size) ∧ Hid (IRow (fun q => ¬ O5 q) wr av (L k)))
  case atStart => exact ⟨0, O2, by omega, by omega, rfl, HF2, HSP2, HX2, HIR2⟩
  case round =>
    clear HF2 HSP2 HX2 HIR2
    obtain ⟨j, O5, hj, hgg, rfl, HFY, HSY, HXY, HIY⟩ := hrel
    obtain ⟨wy, rfl⟩ : ∃ ww : World, ww = wr := ⟨_, rfl⟩
    by_cases hjl : j < ol
    · have hjl' : (j : Int) < (ol : Int) := by omega
      have hjL : j < (L k).length := by rw [HOL.out]; exact hjl
      obtain ⟨g5, hae5, hOg5, hgl5, q0, q1, q2⟩ := HIY.out j hjL
      have hyr := HLR.out k (Nat.le_refl _) _ (List.getElem_mem hjL)
      have hsucc := addF_succ (P := scP K cell) (c := []) (ys := L k) (j := j) hjL
      have hcl5 : (addF (scP K cell) [] ((L k).take j)).length ≤ 100000 := by
        refine Nat.le_trans addF_len ?_
        rw [List.length_take, List.length_nil]; omega
      obtain ⟨y, HYN⟩ := nameIt ((L k)[j]'hjL)
      rw [HYN.out] at q0 q1 q2 hyr hsucc
      obtain ⟨cj, HCJ⟩ := nameIt (addF (scP K cell) [] ((L k).take j))
      rw [HCJ.out] at hsucc hcl5 HFY
      obtain ⟨w6, HW6⟩ := nameIt (wy.alloc (.cells #[.int .i64 (y.r : Int), .int .i64 (y.d : Int), .int .i64 (y.f : Int)] 104))
      have hb6 : Below wy.heap.size wy w6 := by rw [← HW6.out]; exact (Below.refl _ _).alloc (Nat.le_refl _) _
      have X6 : Hid (w6.heap[wy.heap.size]? = some (.cells #[.int .i64 (y.r : Int), .int .i64 (y.d : Int), .int .i64 (y.f : Int)] 104 (0, 0))) := by rw [← HW6.out]; exact bx_new _ _ _ rfl
      have HNB6 : Hid (¬ O5 wy.heap.size) := FM.new HFY.out (Nat.le_refl _)
      have HF6 := Lib.hid (HFY.out.keep hb6)
      have HNX6 := Lib.hid (nextE w6 HF6.out y hyr)
      have HB6 := Lib.hid hb6
      have HSU := Lib.hid hsucc
      have HCL5 := Lib.hid hcl5
      obtain ⟨ns2, HNS2⟩ := nameIt (nxtV K y)
      have HNV2 : Hid ((nxt K y).isSome = true → nxt K y = some ns2) := by
        intro h
        rw [← HNS2.out]
        unfold nxtV
        obtain ⟨s, hs⟩ := Option.isSome_iff_exists.1 h
        rw [hs]; rfl
      have HNN2 : Hid ((nxt K y).isSome = false → nxt K y = none) := by
        intro h
        cases e : nxt K y with
        | none => rfl
        | some s => rw [e] at h; cases h
      obtain ⟨okb2, HOKB2⟩ := nameIt (nxt K y).isSome
      rw [HNS2.out, HOKB2.out] at HNX6
      rw [HOKB2.out] at HNV2 HNN2
      obtain ⟨⟨st2, sn2⟩, HNS3⟩ := nameIt ns2
      rw [HNS3.out] at HNX6 HNV2
      dsimp only at HNX6
      obtain ⟨yr, HYRN⟩ := nameIt y.r
      obtain ⟨yd, HYDN⟩ := nameIt y.d
      obtain ⟨yf, HYFN⟩ := nameIt y.f
      rw [HYRN.out] at q0 HW6 X6 HNX6
      rw [HYDN.out] at q1 HW6 X6 HNX6
      rw [HYFN.out] at q2 HW6 X6 HNX6
      obtain ⟨by6, HBY6⟩ := nameIt wy.heap.size
      rw [HBY6.out] at X6 HNB6
      subst hae5
      clear hb6 hyr hsucc hcl5 hOg5 hgl5
      go_upto_region 6 with fail
      rw [HW6.out, HBY6.out]
      clear HW6 q0 q1 q2
      obtain ⟨y0, y1, y2⟩ := bx_cells3 X6.out
      go_wp2_with fail
      refine HNX6.out.mono ?_
      rintro e w7 ⟨rfl, hb7⟩
      obtain ⟨w8, HW8⟩ := nameIt (w7.alloc (.cells #[.bool st2, .int .i64 sn2] 44))
      have hb8 : Below w7.heap.size w7 w8 := by rw [← HW8.out]; exact (Below.refl _ _).alloc (Nat.le_refl _) _
      have X8 : Hid (w8.heap[w7.heap.size]? = some (.cells #[.bool st2, .int .i64 sn2] 44 (0, 0))) := by rw [← HW8.out]; exact bx_new _ _ _ rfl
      have HB8 : Hid (Below wy.heap.size wy w8) := (HB6.out.trans (hb7.mono HB6.out.size)).trans (hb8.mono (HB6.out.trans (hb7.mono HB6.out.size)).size)
      have X68 := Lib.hid (bx_keep (bx_keep X6.out hb7) hb8)
      have HF8 := Lib.hid (HFY.out.keep HB8.out)
      obtain ⟨bs8, HBS8⟩ := nameIt w7.heap.size
      rw [HBS8.out] at X8
      clear hb7 hb8 y0 y1 y2
      go_upto_region 7 with fail
      rw [HW8.out, HBS8.out]
      clear HW8
      have hfit : Hid (okb2 = true → scP K cell y = if fitB ⟨st2, sn2⟩ cell then some ⟨yr, yd + 1, yf⟩ else none) := by
        intro h
        unfold scP
        rw [HNV2.out h, HYRN.out, HYDN.out, HYFN.out]
        rfl
      have hfno : Hid (okb2 = false → scP K cell y = none) := by
        intro h
        unfold scP
        rw [HNN2.out h]
        rfl
      have HSP8 : Hid (Stp O O5 W w8) := HSY.out.trans (Stp.below HB8.out)
      have HX8 : Hid (w8.heap[W.heap.size]? = some (.cells #[.bool ct, .int .i64 cn] 44 (0, 0)) ∧ ¬ O5 W.heap.size) := ⟨bx_keep HXY.out.1 HB8.out, HXY.out.2⟩
      have HI8 := Lib.hid (HIY.out.below HB8.out)
      cases okb2 with
      | false =>
        have hC : addF (scP K cell) [] ((L k).take (j + 1)) = cj := by rw [HSU.out, hfno.out rfl]; rfl
        have HF10 : Hid (FM B fb gt gn gs ra rc K O5 (n + 1) (upL L n (addF (scP K cell) [] ((L k).take (j + 1)))) w8) := by rw [hC]; exact HF8.out
        clear hC
        go_wp2_with fail
        go_roundg (ol - (j + 1))
        case measure => omega
        case rel => exact ⟨j + 1, O5, by omega, by omega, by go_num, HF10, HSP8, HX8, HI8⟩
      | true =>
        have his := isE ⟨st2, sn2⟩ cell w8
        rw [isB_fit] at his
        have hsc := hfit.out rfl
        obtain ⟨bq, HBQ⟩ := nameIt (fitB ⟨st2, sn2⟩ cell)
        rw [HBQ.out] at his hsc
        dsimp only at his
        rw [HCT.out, HCN.out] at his
        have HIS := Lib.hid his
        have HSC := Lib.hid hsc
        obtain ⟨z0, z1⟩ := bx_cells2 X8.out
        obtain ⟨x0, x1⟩ := bx_cells2 HX8.out.1
        clear his hsc
        go_wp2_with fail
        refine HIS.out.mono ?_
        rintro e w9 ⟨rfl, hb9⟩
        have HF9 := Lib.hid (HF8.out.keep hb9)
        have HSP9 : Hid (Stp O O5 W w9) := HSP8.out.trans (Stp.below hb9)
        have HX9 : Hid (w9.heap[W.heap.size]? = some (.cells #[.bool ct, .int .i64 cn] 44 (0, 0)) ∧ ¬ O5 W.heap.size) := ⟨bx_keep HX8.out.1 hb9, HX8.out.2⟩
        have HI9 := Lib.hid (HI8.out.below hb9)
        have X69 := Lib.hid (bx_keep X68.out hb9)
        clear hb9 z0 z1 x0 x1
        cases bq with
        | false =>
          have hC : addF (scP K cell) [] ((L k).take (j + 1)) = cj := by rw [HSU.out, HSC.out]; rfl
          have HF10 : Hid (FM B fb gt gn gs ra rc K O5 (n + 1) (upL L n (addF (scP K cell) [] ((L k).take (j + 1)))) w9) := by rw [hC]; exact HF9.out
          clear hC
          go_wp2_with fail
          go_roundg (ol - (j + 1))
          case measure => omega
          case rel => exact ⟨j + 1, O5, by omega, by omega, by go_num, HF10, HSP9, HX9, HI9⟩
        | true =>
          have hyd : yd < 4 := by
            obtain ⟨r9, h1, h2⟩ := nxt_some.1 (HNV2.out (by first | rfl | trivial))
            have h3 := HR4.out r9 (List.mem_of_getElem? h1)
            have h4 := d_lt h2
            rw [HYDN.out] at h4
            omega
          obtain ⟨yd1, HYD1⟩ := nameIt (yd + 1)
          have hwd : IntKind.i64.wrap ((yd : Int) + 1) = (yd1 : Int) := by have := HYD1.out; rw [IntWalk.i64_in _ (by omega)]; omega
          have hC : addF (scP K cell) [] ((L k).take (j + 1)) = addI cj ⟨yr, yd1, yf⟩ := by rw [HSU.out, HSC.out, HYD1.out]; rfl
          have hadd := addE w9 HF9.out n rfl (by omega) ⟨yr, yd1, yf⟩ (by rw [upL_at]; have := HCL5.out; omega)
          rw [upL_at, upL_up, ← hC] at hadd
          have HAD := Lib.hid hadd
          obtain ⟨y0, y1, y2⟩ := bx_cells3 X69.out
          clear hadd hC hyd
          go_wp2_with fail
          refine HAD.out.mono ?_
          rintro e wz ⟨rfl, O6, hf6, hs6⟩
          have HF10 := Lib.hid hf6
          have HSP10 : Hid (Stp O O6 W wz) := HSP9.out.trans hs6
          have HX10 := Lib.hid (hs6.box HX9.out.1 HX9.out.2)
          have HI10 : Hid (IRow (fun q => ¬ O6 q) wz (some ⟨g5, 0, none⟩) (L k)) := HI9.out.stp hs6
          clear hf6 hs6 y0 y1 y2
          go_wp2_with fail
          go_roundg (ol - (j + 1))
          case measure => omega
          case rel => exact ⟨j + 1, O6, by omega, by omega, by go_num, HF10, HSP10, HX10, HI10⟩
    · have hjl' : ¬ (j : Int) < (ol : Int) := by omega
      have htk : (L k).take j = L k := List.take_of_length_le (by rw [HOL.out]; omega)
      rw [htk] at HFY
      have hcm := completeF wy HFY.out n rfl (by omega) hkl HR4.out Q HQ.out (by rw [upL_at]; exact nodup_addF List.nodup_nil) (fun j hj => by unfold upL; rw [if_neg (by omega)]; exact HLJ.out j (by have := HKK.out; omega)) (fun j hj y hy => by unfold upL at hy; rw [if_neg (by omega)] at hy; exact HLR.out j (by have := HKK.out; omega) y hy)
      have HCM := Lib.hid hcm
      clear hcm htk
      go_wp2_with fail
      refine HCM.out.mono ?_
      rintro e w9 ⟨rfl, O9, c, h1, h2, h3, h4⟩
      rw [upL_up] at h1
      simp only [upL_up] at h4
      have HE := Lib.hid (HFIN.out O9 c w9 h1 (HSY.out.trans h2) h3 h4)
      clear h1 h2 h3 h4
      go_wp2_with fail
      first | exact HE.out | exact bodyPost_end (results_none Try.results62 _ _ _) rfl HE.out
end Ho
end Go.Proofs.Ytjpmebppdcclbaa
