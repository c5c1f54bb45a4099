/- slices.DeleteFunc of rules in a row of one's own. The function values of hole.Next: which rules are deleted. The function values of feed.New: which rules are deleted. How long a beginning of a word begins a word, in plain Lean. feed.New. feed.Feed.Put. The contract of repair.distances. Operations of repair: how they read; their steps; small contracts. gram.Word; the costs' test of repair.Best. -/
import Derived.Test.YtjpmebppdcclbaaJRepairPrefixRow7
import Derived.Test.YtjpmebppdcclbaaJRepairPrefixRow13
import Derived.Deep.LoopGhost
import Derived.BigQuiet
import Derived.Laws.EntriesVeiled
import Derived.Test.YtjpmebppdcclbaaJRepairPrefixRow10
import Derived.Test.YtjpmebppdcclbaaJRepairPrefixRow11
import Derived.Test.YtjpmebppdcclbaaJRepairPrefixRow6
import Derived.Test.YtjpmebppdcclbaaJRepairPrefixRow2
import Derived.Deep.Cut
import Derived.Deep.RegionHeld3
import Derived.Deep.DeepCutAuto
import Derived.Laws.Cover1
import Derived.Test.YtjpmebppdcclbaaJRepairPrefixRow1
import Derived.Test.YtjpmebppdcclbaaJRepairPrefixRow3
import Derived.Laws.StructEq
import Derived.Deep.QuietTactic
namespace Go.Proofs.Ytjpmebppdcclbaa
open Go.RowKit
namespace Ho
open Rp Hl
open Ht hiding D
abbrev RV := Rule × Value
def flatR : List RV → List Value
  | [] => []
  | z :: l => .int .i64 z.1.left :: z.2 :: flatR l
theorem flatR_len : ∀ l : List RV, (flatR l).length = l.length * 2
  | [] => rfl
  | z :: l => by simp [flatR, flatR_len l]; omega
theorem flatR_get : ∀ {l : List RV} {i : Nat} (h : i < l.length), (flatR l)[i * 2]? = some (.int .i64 l[i].1.left) ∧ (flatR l)[i * 2 + 1]? = some l[i].2
  | x :: l, 0, _ => ⟨rfl, rfl⟩
  | x :: l, i + 1, h => by
    have := flatR_get (l := l) (i := i) (by simpa using h)
    have e : (i + 1) * 2 = i * 2 + 1 + 1 := by omega
    rw [e]
    simpa [flatR] using this
theorem rdR {S : Nat → Prop} {w : World} : ∀ {K : List Rule} {xs : List Value}, RdAll S w (K.map Rule.d) xs → ∃ zs : List RV, zs.map (·.1) = K ∧ xs = flatR zs ∧ ∀ z ∈ zs, Rd S w (.sl (z.1.right.map Sym.d)) [z.2]
  | [], xs, h => by
    simp [RdAll] at h
    exact ⟨[], rfl, h, fun z hz => by cases hz⟩
  | r :: K, xs, h => by
    obtain ⟨c1, c2, rfl, h1, h2⟩ := h
    obtain ⟨zs, e1, e2, e3⟩ := rdR h2
    obtain ⟨a1, a2, rfl, q1, q2⟩ := h1
    simp [Rd] at q1
    subst q1
    rw [RdAll.one_iff] at q2
    obtain ⟨a, cap, L, rfl, q⟩ := q2
    refine ⟨(r, .slice a (r.right.map Sym.d).length cap) :: zs, by simp [e1], by simp [flatR, e2], fun z hz => ?_⟩
    rcases List.mem_cons.1 hz with rfl | hz
    · exact ⟨a, cap, L, rfl, q⟩
    · exact e3 z hz
theorem rdR_mk {S : Nat → Prop} {w : World} : ∀ {zs : List RV}, (∀ z ∈ zs, Rd S w (.sl (z.1.right.map Sym.d)) [z.2]) → RdAll S w (zs.map fun z => z.1.d) (flatR zs)
  | [], _ => by simp [RdAll, flatR]
  | z :: zs, h => by
    refine ⟨[.int .i64 z.1.left, z.2], flatR zs, rfl, ?_, rdR_mk fun y hy => h y (by simp [hy])⟩
    exact ⟨[.int .i64 z.1.left], [z.2], rfl, by simp [Rd], RdAll.one (h z (by simp))⟩
def kp (zs : List RV) (p : Rule → Bool) (j : Nat) : List RV := (zs.take j).filter fun z => !p z.1
section
variable {zs : List RV} {p : Rule → Bool} {j : Nat}
theorem kp_le : (kp zs p j).length ≤ j := Nat.le_trans (List.length_filter_le _ _) (by simp; omega)
theorem kp_no (hj : j < zs.length) (h : p zs[j].1 = true) : kp zs p (j + 1) = kp zs p j := by
  unfold kp
  rw [List.take_succ_eq_append_getElem hj, List.filter_append]
  simp [h]
theorem kp_yes (hj : j < zs.length) (h : p zs[j].1 = false) : kp zs p (j + 1) = kp zs p j ++ [zs[j]] := by
  unfold kp
  rw [List.take_succ_eq_append_getElem hj, List.filter_append]
  simp [h]
theorem kp_first {ix : Nat} (h : ∀ j (h : j < zs.length), j < ix → p zs[j].1 = false) : kp zs p ix = zs.take ix := by
  unfold kp
  rw [List.filter_eq_self]
  intro z hz
  obtain ⟨i, hi, e⟩ := List.getElem_of_mem hz
  have h1 : i < ix ∧ i < zs.length := by
    rw [List.length_take] at hi
    omega
  rw [List.getElem_take] at e
  have := h i h1.2 h1.1
  rw [← e, this]; rfl
theorem kp_all (hj : zs.length ≤ j) : kp zs p j = zs.filter fun z => !p z.1 := by
  unfold kp
  rw [List.take_of_length_le hj]
end
structure DlI (g cap n : Nat) (zs : List RV) (p : Rule → Bool) (i j : Nat) (wr : World) : Prop where
  row : ∃ cr, wr.heap[g]? = some (.cells cr 69 (0, 0)) ∧ cr.size = cap * 2 ∧ (∀ k (h : k < (kp zs p j).length), cr[k * 2]? = some (.int .i64 (kp zs p j)[k].1.left) ∧ cr[k * 2 + 1]? = some (kp zs p j)[k].2) ∧ (∀ k (h : k < zs.length), j ≤ k → cr[k * 2]? = some (.int .i64 zs[k].1.left) ∧ cr[k * 2 + 1]? = some zs[k].2)
  li : (kp zs p j).length = i
  ln : zs.length = n
  nc : n ≤ cap
def GB (g : Nat) : Nat → Prop := fun k => k = g
theorem stp_set {g : Nat} {w wr : World} (h : Stp (GB g) (GB g) w wr) (i : Nat) (v : Value) : Stp (GB g) (GB g) w (wr.setCell ⟨g, i, none⟩ v) :=
  ⟨h.os, h.tape, h.output, by simpa [World.setCell] using h.size, fun k hk hn => (Below.heap_setCell wr ⟨g, i, none⟩ v k (fun e => hn e)).trans (h.same k hk hn), h.own⟩
section
variable {g cap n i j : Nat} {zs : List RV} {p : Rule → Bool} {wr w' : World}
theorem DlI.keep (h : DlI g cap n zs p i j wr) (hb : Below wr.heap.size wr w') : DlI g cap n zs p i j w' := by
  obtain ⟨⟨cr, h1, h2⟩, h3, h4, h5⟩ := h
  exact ⟨⟨cr, bx_keep h1 hb, h2⟩, h3, h4, h5⟩
theorem DlI.at (h : DlI g cap n zs p i j wr) (hj : j < n) : ∃ hz : j < zs.length, wr.cell? ⟨g, j * 2, none⟩ = some (.int .i64 zs[j].1.left) ∧ wr.cell? ⟨g, j * 2 + 1, none⟩ = some zs[j].2 := by
  obtain ⟨⟨cr, h1, h2, h3, h4⟩, h5, h6, h7⟩ := h
  obtain ⟨e1, e2⟩ := h4 j (by omega) (Nat.le_refl _)
  exact ⟨by omega, by simp [World.cell?, h1, e1], by simp [World.cell?, h1, e2]⟩
theorem DlI.free (h : DlI g cap n zs p i j wr) (k : Nat) : wr.frozen? ⟨g, k, none⟩ = false := by
  obtain ⟨⟨cr, h1, h2, h3, h4⟩, h5, h6, h7⟩ := h
  simp [World.frozen?, h1]
theorem DlI.old (h : DlI g cap n zs p i j wr) {k : Nat} (hk : k < n) : (∃ u, wr.cell? ⟨g, k * 2, none⟩ = some u) ∧ ∃ u, wr.cell? ⟨g, k * 2 + 1, none⟩ = some u := by
  obtain ⟨⟨cr, h1, h2, h3, h4⟩, h5, h6, h7⟩ := h
  have : k * 2 < cr.size ∧ k * 2 + 1 < cr.size := by omega
  exact ⟨⟨cr[k * 2]'this.1, by simp [World.cell?, h1, this.1]⟩, ⟨cr[k * 2 + 1]'this.2, by simp [World.cell?, h1, this.2]⟩⟩
theorem DlI.le (h : DlI g cap n zs p i j wr) : i ≤ j := by have := h.li; have := kp_le (zs := zs) (p := p) (j := j); omega
theorem DlI.no (h : DlI g cap n zs p i j wr) (hj : j < zs.length) (hp : p zs[j].1 = true) : DlI g cap n zs p i (j + 1) wr := by
  obtain ⟨⟨cr, h1, h2, h3, h4⟩, h5, h6, h7⟩ := h
  have e := kp_no hj hp
  refine ⟨⟨cr, h1, h2, ?_, fun k hk hjk => h4 k hk (by omega)⟩, by rw [e]; exact h5, h6, h7⟩
  rw [e]; exact h3
theorem DlI.yes (h : DlI g cap n zs p i j wr) (hj : j < zs.length) (hp : p zs[j].1 = false) : DlI g cap n zs p (i + 1) (j + 1) ((wr.setCell ⟨g, i * 2, none⟩ (.int .i64 zs[j].1.left)).setCell ⟨g, i * 2 + 1, none⟩ zs[j].2) := by
  have hij := h.le
  obtain ⟨⟨cr, h1, h2, h3, h4⟩, h5, h6, h7⟩ := h
  have e := kp_yes hj hp
  refine ⟨⟨(cr.setIfInBounds (i * 2) (.int .i64 zs[j].1.left)).setIfInBounds (i * 2 + 1) zs[j].2, by simp [World.setCell, Array.getElem?_modify, h1], by simpa using h2, fun k hk => ?_, fun k hk hjk => ?_⟩, by rw [e, List.length_append, h5]; rfl, h6, h7⟩
  · have hk2 : k < i + 1 := by
      have := hk
      rw [e, List.length_append, h5] at this
      exact this
    simp only [Array.getElem?_setIfInBounds, Array.size_setIfInBounds]
    by_cases ek : k = i
    · subst ek
      have h9 : (kp zs p (j + 1))[k]'hk = zs[j] := by
        simp only [e]
        rw [List.getElem_append_right (by omega)]
        simp [h5]
      rw [h9, if_neg (by omega), if_pos rfl, if_pos (by omega), if_pos rfl, if_pos (by omega)]
      exact ⟨rfl, rfl⟩
    · have hki : k < (kp zs p j).length := by omega
      have h9 : (kp zs p (j + 1))[k]'hk = (kp zs p j)[k] := by
        simp only [e]
        rw [List.getElem_append_left hki]
      rw [h9, if_neg (by omega), if_neg (by omega), if_neg (by omega), if_neg (by omega)]
      exact h3 k hki
  · simp only [Array.getElem?_setIfInBounds, Array.size_setIfInBounds]
    rw [if_neg (by omega), if_neg (by omega), if_neg (by omega), if_neg (by omega)]
    exact h4 k hk (by omega)
theorem zR_len (m : Nat) : (Builtin.zeroCells #[Value.int .i64 0, .slice none 0 0] m).toList.length = m * 2 := by simp [Builtin.zeroCells]
theorem zR_size (m : Nat) : (Builtin.zeroCells #[Value.int .i64 0, .slice none 0 0] m).size = m * 2 := by simp [Builtin.zeroCells]
theorem zR_ones (m : Nat) : ∀ v ∈ (Builtin.zeroCells #[Value.int .i64 0, .slice none 0 0] m).toList, v.oneCell' = true := by
  intro v hv
  simp [Builtin.zeroCells] at hv
  obtain ⟨i, _, rfl⟩ := hv
  rcases (show i % 2 = 0 ∨ i % 2 = 1 by omega) with e | e <;> rw [e] <;> rfl
theorem clear_R (h : DlI g cap n zs p i j wr) (hj : n ≤ j) (hi : i < n) :
    ∃ w2, (∀ ty c, (Builtin.clear_ #[22] ty #[.slice (some ⟨g, i * 2, none⟩) (n - i) c]).run Try.prog wr = .ok (.tuple #[]) w2) ∧ wr.grownBy w2 (some g) ∧
      ∀ B, B ≤ g → cap ≤ maxLen → w2.ownsRow B 69 2 (.slice (some ⟨g, 0, none⟩) i cap) i (flatR (zs.filter fun z => !p z.1)) := by
  obtain ⟨⟨cr, h1, h2, h3, h4⟩, h5, h6, h7⟩ := h
  rw [kp_all (by omega)] at h5
  simp only [kp_all (show zs.length ≤ j by omega)] at h3
  have hst := run_storeCells_at (P := Try.prog) g (i * 2) 69 (Builtin.zeroCells #[Value.int .i64 0, .slice none 0 0] (n - i)).toList 0 cr wr h1 (by rw [zR_len, h2]; omega) (zR_ones _)
  refine ⟨wr.setRow g (cr.toList.take (i * 2 + 0) ++ (Builtin.zeroCells #[Value.int .i64 0, .slice none 0 0] (n - i)).toList ++ cr.toList.drop (i * 2 + 0 + (Builtin.zeroCells #[Value.int .i64 0, .slice none 0 0] (n - i)).toList.length)).toArray, fun ty c => ?_, grown_setRow _ _ _, fun B hB hc => ?_⟩
  · obtain ⟨m, hm⟩ : ∃ m, n - i = m + 1 := ⟨n - i - 1, by omega⟩
    rw [hm] at hst ⊢
    simp [Builtin.clear_, run_underlying Try.underlying22, Try.zeroValue69, Value.cells, hst]
  · have hlen : (flatR (zs.filter fun z => !p z.1)).length = i * 2 := by rw [flatR_len, h5]
    refine ⟨hlen, .inr ⟨g, cap, _, rfl, hB, setRow_heap _ _ _ _ _ _ h1, by omega, hc, by simp [zR_size, h2]; omega, ?_⟩⟩
    apply List.ext_getElem?
    intro t
    by_cases ht : t < i * 2
    · rw [List.getElem?_take_of_lt ht]
      simp only [List.append_assoc]
      rw [List.getElem?_append_left (by simp [h2]; omega), List.getElem?_take_of_lt (by omega), Array.getElem?_toList]
      have hk : t / 2 < (zs.filter fun z => !p z.1).length := by omega
      obtain ⟨c0, c1⟩ := flatR_get hk
      obtain ⟨e0, e1⟩ := h3 (t / 2) hk
      rcases (show t % 2 = 0 ∨ t % 2 = 1 by omega) with e | e
      · rw [show t / 2 * 2 = t by omega] at c0 e0
        rw [c0, e0]
      · rw [show t / 2 * 2 + 1 = t by omega] at c1 e1
        rw [c1, e1]
    · rw [List.getElem?_eq_none (by simp; omega), List.getElem?_eq_none (by omega)]
theorem DlI.start {w : World} {B ix : Nat} (h : w.ownsRow B 69 2 (.slice (some ⟨g, 0, none⟩) n cap) n (flatR zs)) (hn : zs.length = n) (hix : ix < n) (hp : p (zs[ix]'(by omega)).1 = true) (hno : ∀ j (h : j < zs.length), j < ix → p zs[j].1 = false) : DlI g cap n zs p ix (ix + 1) w := by
  rcases h.2 with ⟨hv, _⟩ | ⟨g', cap', cur, hv, hg, hh, hnc, hcm, hcs, htk⟩
  · simp at hv
  · obtain ⟨rfl, rfl⟩ : g = g' ∧ cap = cap' := by simpa using hv
    have hc : ∀ k (h : k < zs.length), cur[k * 2]? = Option.some (.int .i64 zs[k].1.left) ∧ cur[k * 2 + 1]? = Option.some zs[k].2 := by
      intro k hk
      obtain ⟨c0, c1⟩ := flatR_get hk
      rw [← c0, ← c1, ← htk, List.getElem?_take_of_lt (by omega), List.getElem?_take_of_lt (by omega), Array.getElem?_toList, Array.getElem?_toList]
      exact ⟨rfl, rfl⟩
    have e : kp zs p (ix + 1) = zs.take ix := (kp_no (by omega) hp).trans (kp_first hno)
    refine ⟨⟨cur, hh, hcs, fun k hk => ?_, fun k hk _ => hc k hk⟩, by rw [e, List.length_take]; omega, hn, hnc⟩
    have hk2 : k < ix ∧ k < zs.length := by
      have := hk
      rw [e, List.length_take] at this
      omega
    have h9 : (kp zs p (ix + 1))[k]'hk = zs[k] := by
      simp only [e]
      rw [List.getElem_take]
    rw [h9]
    exact hc k hk2.2
end
theorem idxG_two {α : Type} (p : α → Bool) (l : List α) : (idxG p l = -1 ∧ ∀ x ∈ l, p x = false) ∨ ∃ i, ∃ h : i < l.length, idxG p l = (i : Int) ∧ p l[i] = true ∧ ∀ j (h : j < l.length), j < i → p l[j] = false := by
  cases h : l.any p with
  | false =>
    left
    refine ⟨by unfold idxG; rw [h]; rfl, fun x hx => ?_⟩
    rw [List.any_eq_false] at h
    simpa using h x hx
  | true =>
    right
    have hlt : l.findIdx p < l.length := by
      rw [List.findIdx_lt_length]
      rw [List.any_eq_true] at h
      exact h
    exact ⟨l.findIdx p, hlt, by unfold idxG; rw [h]; rfl, List.findIdx_getElem (w := hlt), fun j hj hji => by simpa using List.not_of_lt_findIdx hji⟩
def OV (v : Value) : Nat → Prop := fun k => v.ownBlock = some k
def DelPost (S : Nat → Prop) (K : List Rule) (p : Rule → Bool) (v : Value) (w : World) (e : Ending) (w' : World) : Prop :=
  ∃ a c, e = .returned (.slice a (K.filter fun r => !p r).length c) ∧ Rd S w' (.sl ((K.filter fun r => !p r).map Rule.d)) [.slice a (K.filter fun r => !p r).length c] ∧ Stp (OV v) (OV v) w w'
theorem filter_zs {K : List Rule} {zs : List RV} {p : Rule → Bool} (h : zs.map (·.1) = K) : (zs.filter fun z => !p z.1).map (·.1) = K.filter fun r => !p r := by
  subst h
  rw [List.filter_map]; rfl
set_option maxHeartbeats 8000000 in
set_option maxRecDepth 100000 in
theorem deleteE (fn : Nat) (lb : Array Value) (p : Rule → Bool) (K : List Rule) (v : Value) (S : Nat → Prop) (B : Nat) (w : World) (eg : ∀ args w, (callFunc fn args).run Try.prog w = .ok (.enter fn args) w) (G : World → Prop) (hG1 : ∀ W W', G W → Below W.heap.size W W' → G W') (hG2 : ∀ W g k u, v.ownBlock = some g → G W → G (W.setCell ⟨g, k, none⟩ u))
    (hf : ∀ (W : World) (x : Rule) (u : Value), x ∈ K → G W → Rd AnyB W (.sl (x.right.map Sym.d)) [u] → Calls Try.prog fn (#[.agg #[.int .i64 x.left, u]] ++ lb) W fun e w' => e = .returned (.bool (p x)) ∧ Below W.heap.size W w')
    (hG : G w) (hSV : ∀ k, v.ownBlock = some k → S k) (hrow : RowD S B 69 2 (K.map Rule.d) v w) (hK : K.length ≤ 1000) :
    Calls Try.prog 56 #[v, .func (.func fn) #[] lb] w (DelPost S K p v w) := by
  have hrd : Rd AnyB w (.sl (K.map Rule.d)) [v] := hrow.rd.any
  obtain ⟨⟨xs, hown, hall⟩, hBw⟩ := hrow
  rw [List.length_map] at hown
  obtain ⟨zs, hz1, rfl, hz3⟩ := rdR hall
  have hzl : zs.length = K.length := by rw [← hz1, List.length_map]
  obtain ⟨a, cap, hv, hc1, hc2⟩ := own_len hown
  have hix := indexFuncRule fn lb p a cap K w eg (fun W x u hx hb hr => (hf W x u hx (hG1 _ _ hG hb) hr)) (by rw [← hv]; exact hrd)
  unfold maxLen at hc2
  rcases idxG_two p K with ⟨hi1, hi2⟩ | ⟨ix, hixl, hi1, hi2, hi3⟩
  · -- nothing is deleted
    have hfl : (K.filter fun r => !p r) = K := by
      rw [List.filter_eq_self]
      intro r hr
      rw [hi2 r hr]; rfl
    have HFIN : Hid (∀ w', Below w.heap.size w w' → DelPost S K p v w (.returned v) w') := by
      intro w' hb
      refine ⟨a, cap, ?_, ?_, Stp.below hb⟩
      · rw [hfl, hv]
      · rw [hfl, ← hv]
        refine Rd.below ?_ hb
        exact rd_of_own (S := S) hown (hall.mono fun k hk _ => hk.1) (by simp) hSV
    obtain ⟨PST, HP⟩ := nameIt (DelPost S K p v w)
    rw [HP.out] at HFIN
    rw [HP.out]
    rw [hi1] at hix
    have HIX := Lib.hid hix
    subst hv
    obtain ⟨n, HN⟩ := nameIt K.length
    rw [HN.out] at HIX HFIN hc1
    rw [HN.out]
    clear hown hall hrd hf hG1 hG2 hix hG HP hfl hi2 hz1 hz3 hzl hBw hK
    go_enter Try.func56, Try.ntmps56
    go_wp2_with fail
    refine HIX.out.mono ?_
    rintro e w1 ⟨rfl, hb1⟩
    have HE := Lib.hid (HFIN.out w1 hb1)
    clear hb1
    go_wp2_with fail
    first | exact HE.out | (go_ret; exact HE.out)
  · have hown2 := hown
    rcases hown2.2 with ⟨hv', h0⟩ | ⟨g, cap', cur, hv', hg, hh, hnc, hcm, hcs, htk⟩
    · omega
    rw [hv] at hv'
    obtain ⟨rfl, rfl⟩ : a = some ⟨g, 0, none⟩ ∧ cap = cap' := by simpa using hv'
    obtain ⟨n, HN⟩ := nameIt K.length
    have hzn : zs.length = n := hzl.trans HN.out
    have hgz : ∀ j (h : j < zs.length), zs[j].1 = K[j]'(by omega) := by
      intro j h
      have : (zs.map (·.1))[j]'(by simpa using h) = K[j]'(by omega) := by simp only [hz1]
      rw [← this, List.getElem_map]
    have HST : Hid (DlI g cap n zs p ix (ix + 1) w) := by
      have h := hown
      rw [hv, HN.out] at h
      exact DlI.start h hzn (by omega) (by rw [hgz]; exact hi2) (fun j h hj => by rw [hgz]; exact hi3 j (by omega) hj)
    have hob : v.ownBlock = some g := by rw [hv]; rfl
    have hOV : OV v = GB g := by
      funext k
      unfold OV GB
      rw [hob]
      simp only [Option.some.injEq, eq_iff_iff]
      exact eq_comm
    have HFIN : Hid (∀ i w1 w2, (K.filter fun r => !p r).length = i → Stp (GB g) (GB g) w w1 → w1.grownBy w2 (some g) → w2.ownsRow B 69 2 (.slice (some ⟨g, 0, none⟩) i cap) i (flatR (zs.filter fun z => !p z.1)) → DelPost S K p v w (.returned (.slice (some ⟨g, 0, none⟩) i cap)) w2) := by
      intro i w1 w2 h1 h2 h3 h4
      have hS : Stp (GB g) (GB g) w w2 := h2.trans ⟨h3.os, h3.tape, h3.output, h3.size, fun k hk hn => h3.block k hk (fun e => hn (by cases e; rfl)), fun k hk => .inl hk⟩
      refine ⟨some ⟨g, 0, none⟩, cap, by rw [h1], ?_, by rw [hOV]; exact hS⟩
      have hr : RdAll (fun k => S k ∧ k ≠ g) w2 ((zs.filter fun z => !p z.1).map fun z => z.1.d) (flatR (zs.filter fun z => !p z.1)) := by
        refine rdR_mk fun z hz => ?_
        exact Rd.keep (fun k hk hlt => ⟨⟨hk.1, fun e => hk.2 (by rw [hob, e])⟩, hS.same k hlt (fun e => hk.2 (by rw [hob]; exact congrArg some e.symm))⟩) _ _ (hz3 z (List.mem_filter.1 hz).1)
      have e2 : (zs.filter fun z => !p z.1).map (fun z => z.1.d) = (K.filter fun r => !p r).map Rule.d := by
        rw [← filter_zs hz1, List.map_map]; rfl
      rw [e2] at hr
      rw [h1]
      exact rd_of_own (S := S) h4 (hr.mono fun k hk _ => hk.1) (by simp [h1]) (fun k e => hSV k (by rw [hob]; exact e))
    have HKF : Hid ((zs.filter fun z => !p z.1).length = (K.filter fun r => !p r).length) := by
      show _ = _
      rw [← filter_zs hz1, List.length_map]
    have HG1 := Lib.hid hG1
    have HG2 : Hid (∀ W k u, G W → G (W.setCell ⟨g, k, none⟩ u)) := fun W k u h => hG2 W g k u hob h
    have HF : Hid (∀ (W : World) j (h : j < zs.length) a c, zs[j].2 = .slice a zs[j].1.right.length c → G W → Stp (GB g) (GB g) w W → Calls Try.prog fn (#[.agg #[.int .i64 zs[j].1.left, .slice a zs[j].1.right.length c]] ++ lb) W fun e w' => e = .returned (.bool (p zs[j].1)) ∧ Below W.heap.size W w') := by
      intro W j h a c hv2 h1 h2
      refine hf W zs[j].1 _ (by rw [hgz]; exact List.getElem_mem _) h1 ?_
      rw [← hv2]
      exact Rd.keep (fun k hk hlt => ⟨trivial, h2.same k hlt (fun e => hk.2 (by rw [hob]; exact congrArg some e.symm))⟩) _ _ (hz3 zs[j] (List.getElem_mem _))
    have HSF : Hid (∀ j (h : j < zs.length), ∃ a c, zs[j].2 = .slice a zs[j].1.right.length c) := by
      intro j h
      obtain ⟨a, c, e, _⟩ := (hz3 zs[j] (List.getElem_mem _)).form
      rw [List.length_map] at e
      exact ⟨a, c, e⟩
    obtain ⟨PST, HP⟩ := nameIt (DelPost S K p v w)
    rw [HP.out] at HFIN
    rw [HP.out]
    rw [hi1] at hix
    have HIX := Lib.hid hix
    have HGW := Lib.hid hG
    subst hv
    rw [HN.out] at HIX hixl hK hc1
    rw [HN.out]
    have HZN := Lib.hid hzn
    have HBG := Lib.hid hg
    obtain ⟨i1, HI1⟩ := nameIt (ix + 1)
    rw [HI1.out] at HST
    have hw1 : IntKind.i64.wrap ((ix : Int) + 1) = (i1 : Int) := by rw [IntWalk.i64_in _ (by omega)]; have := HI1.out; omega
    have hi1n : i1 ≤ n := by have := HI1.out; omega
    have hne : ((ix : Int) == -1) = false := by rw [beq_eq_false_iff_ne]; omega
    clear hown hall hrd hf hG1 hG2 hix hG HP hi2 hi3 hz1 hz3 hzl hzn hgz hob hOV hv' hh hcs htk hown2 hg hBw hcm hi1
    go_enter Try.func56, Try.ntmps56
    go_wp2_with fail
    refine HIX.out.mono ?_
    rintro e w1 ⟨rfl, hb1⟩
    have HD1 := Lib.hid (HST.out.keep hb1)
    have HS1 : Hid (Stp (GB g) (GB g) w w1) := Stp.below hb1
    have HGW1 := Lib.hid (HG1.out _ _ HGW.out hb1)
    clear hb1 HST HGW HIX
    go_wp2_with fail
    go_loopg [5, 6, 7] n (fun gg v5 v6 v7 wr => ∃ i j : Nat, v5 = .int .i64 (i : Int) ∧ v6 = .int .i64 (j : Int) ∧ j ≤ n ∧ n - j ≤ gg ∧ i < j ∧ Hid (DlI g cap n zs p i j wr) ∧ Hid (Stp (GB g) (GB g) w wr) ∧ Hid (G wr))
    case atStart => exact ⟨ix, i1, rfl, rfl, hi1n, by omega, by have := HI1.out; omega, HD1, HS1, HGW1⟩
    case round =>
      clear HD1 HS1 HGW1 hw1 hne
      obtain ⟨i, j, rfl, rfl, hj, hgg, hij, HD, HS, HGR⟩ := hrel
      obtain ⟨wi, rfl⟩ : ∃ ww : World, ww = wr := ⟨_, rfl⟩
      by_cases hjn : j < n
      · have hjn' : (j : Int) < (n : Int) := by omega
        obtain ⟨hjz, c0, c1⟩ := HD.out.at hjn
        obtain ⟨av, cv, hsv⟩ := HSF.out j hjz
        have hfc := fun W => HF.out W j hjz av cv hsv
        have hdy := HD.out.yes hjz
        have hdn := HD.out.no hjz
        obtain ⟨z, HZ⟩ := nameIt (zs[j]'hjz)
        rw [HZ.out] at c0 c1 hsv hfc hdy hdn
        obtain ⟨⟨lf, RL⟩, zv⟩ := z
        dsimp only at c0 c1 hsv hfc hdy hdn
        subst hsv
        obtain ⟨rn, HRN⟩ := nameIt RL.length
        rw [HRN.out] at c1 hdy
        simp only [HRN.out] at hfc
        obtain ⟨b, HBN⟩ := nameIt (p ⟨lf, RL⟩)
        rw [HBN.out] at hdy hdn
        simp only [HBN.out] at hfc
        obtain ⟨w2, HW2⟩ := nameIt (wi.alloc (.cells #[.int .i64 lf, .slice av rn cv] 69))
        have hb2 : Below wi.heap.size wi w2 := by rw [← HW2.out]; exact (Below.refl _ _).alloc (Nat.le_refl _) _
        have X2 : Hid (w2.heap[wi.heap.size]? = some (.cells #[.int .i64 lf, .slice av rn cv] 69 (0, 0))) := by rw [← HW2.out]; exact bx_new _ _ _ rfl
        have HS2 : Hid (Stp (GB g) (GB g) w w2) := HS.out.trans (Stp.below hb2)
        have HG2W := Lib.hid (HG1.out _ _ HGR.out hb2)
        have HC := Lib.hid (hfc w2 HG2W.out HS2.out)
        have HB2 := Lib.hid hb2
        obtain ⟨q2, HQ2⟩ := nameIt wi.heap.size
        rw [HQ2.out] at X2
        clear hb2 hfc hdy hdn
        go_upto_region 6 with fail
        rw [HW2.out, HQ2.out]
        clear HW2 c0 c1
        obtain ⟨y0, y1⟩ := bx_cells2 X2.out
        go_wp2_with fail
        refine HC.out.mono ?_
        rintro e w3 ⟨rfl, hb3⟩
        have HB3 : Hid (Below wi.heap.size wi w3) := HB2.out.trans (hb3.mono HB2.out.size)
        have HD3 := Lib.hid (HD.out.keep HB3.out)
        have HS3 : Hid (Stp (GB g) (GB g) w w3) := HS.out.trans (Stp.below HB3.out)
        have HG3 := Lib.hid (HG1.out _ _ HGR.out HB3.out)
        have X3 := Lib.hid (bx_keep X2.out hb3)
        obtain ⟨y0, y1⟩ := bx_cells2 X3.out
        clear hb3
        obtain ⟨j1, HJ1⟩ := nameIt (j + 1)
        have hwj : IntKind.i64.wrap ((j : Int) + 1) = (j1 : Int) := by rw [IntWalk.i64_in _ (by omega)]; have := HJ1.out; omega
        have hdn := HD3.out.no hjz
        have hdy := HD3.out.yes hjz
        rw [HZ.out] at hdn hdy
        dsimp only at hdn hdy
        rw [HBN.out, HJ1.out] at hdn hdy
        rw [HRN.out] at hdy
        cases b with
        | true =>
          have HD4 := Lib.hid (hdn rfl)
          clear hdn hdy y0 y1
          go_wp2_with fail
          go_roundg (n - j1)
          case measure => have := HJ1.out; omega
          case rel => exact ⟨i, j1, rfl, rfl, by have := HJ1.out; omega, by omega, by have := HJ1.out; omega, HD4, HS3, HG3⟩
        | false =>
          obtain ⟨i1', HI2⟩ := nameIt (i + 1)
          have hwi : IntKind.i64.wrap ((i : Int) + 1) = (i1' : Int) := by rw [IntWalk.i64_in _ (by omega)]; have := HI2.out; omega
          rw [HI2.out] at hdy
          have HD4 := Lib.hid (hdy rfl)
          have HS4 := Lib.hid (stp_set (stp_set HS3.out (i * 2) (.int .i64 lf)) (i * 2 + 1) (.slice av rn cv))
          have HG4 := Lib.hid (HG2.out _ (i * 2 + 1) (.slice av rn cv) (HG2.out _ (i * 2) (.int .i64 lf) HG3.out))
          obtain ⟨⟨u0, o0⟩, ⟨u1, o1⟩⟩ := HD3.out.old (show i < n by omega)
          have f0 := HD3.out.free (i * 2)
          have f1 := HD3.out.free (i * 2 + 1)
          have hin : (i : Int) < (n : Int) := by omega
          clear hdn hdy
          go_wp2_with fail
          go_roundg (n - j1)
          case measure => have := HJ1.out; omega
          case rel => exact ⟨i1', j1, rfl, rfl, by have := HJ1.out; omega, by omega, by have := HJ1.out; have := HI2.out; omega, HD4, HS4, HG4⟩
      · have hjn' : ¬ (j : Int) < (n : Int) := by omega
        have hin : i < n := by omega
        obtain ⟨w2, hcl, hg2, ho2⟩ := clear_R HD.out (by omega) hin
        have HE := Lib.hid (HFIN.out i wi w2 (by rw [← HKF.out, ← kp_all (p := p) (j := j) (by rw [HZN.out]; omega)]; exact HD.out.li) HS.out hg2 (ho2 B HBG.out (by unfold maxLen; omega)))
        have hin' : (i : Int) ≤ (n : Int) := by omega
        have hic : i ≤ cap := by omega
        have hic' : (i : Int) ≤ (cap : Int) := by omega
        have hcne : ¬ cap = i := by omega
        clear hg2 ho2
        go_wp2_with fail
        first | exact HE.out | (go_ret; exact HE.out)
end Ho
end Go.Proofs.Ytjpmebppdcclbaa
namespace Go.Proofs.Ytjpmebppdcclbaa
open Go.RowKit
namespace Ho
open Rp Hl
open Ht hiding D
structure EN (B b : Nat) (ve : Value) (hw : Sym → Bool) (N : Nat) (W : World) : Prop where
  box : W.heap[b]? = some (.cells #[ve] 54 (0, 0))
  own : W.ownsRow B 4 1 ve N (bls (endsL hw N))
theorem EN.keep {B b N : Nat} {ve : Value} {hw : Sym → Bool} {W W' : World} (h : EN B b ve hw N W) (hb : Below W.heap.size W W') : EN B b ve hw N W' := ⟨bx_keep h.box hb, own_keep h.own hb⟩
theorem EN.set {B b N g k : Nat} {ve u : Value} {hw : Sym → Bool} {W : World} (h : EN B b ve hw N W) (h1 : g ≠ b) (h2 : ve.ownBlock ≠ some g) : EN B b ve hw N (W.setCell ⟨g, k, none⟩ u) :=
  ⟨bx_other h.box (fun e => h1 e.symm) _ _, h.own.kept (grown_cell W ⟨g, k, none⟩ u) (.inr (by simpa using h2))⟩
end Ho
end Go.Proofs.Ytjpmebppdcclbaa
namespace Go.Proofs.Ytjpmebppdcclbaa
open Go.RowKit
namespace Ho
open Rp Hl
open Ht hiding D
theorem eg81 : ∀ args w, (callFunc 81 args).run Try.prog w = .ok (.enter 81 args) w := fun _ _ => by kernel_rfl
theorem eg80 : ∀ args w, (callFunc 80 args).run Try.prog w = .ok (.enter 80 args) w := fun _ _ => by kernel_rfl
set_option maxHeartbeats 4000000 in
set_option maxRecDepth 100000 in
theorem new11E {B b N tm : Nat} {ve : Value} {hw : Sym → Bool} (W : World) (h : EN B b ve hw N W) (x : Sym) (hx : Hl.okS N tm x) (hN : N ≤ 10) :
    Calls Try.prog 81 #[.agg #[.bool x.term, .int .i64 x.n], .pointer (some ⟨b, 0, none⟩)] W fun e w' => e = .returned (.bool (!(hwS hw x))) ∧ Below W.heap.size W w' := by
  obtain ⟨w0, HW⟩ := nameIt (W.alloc (.cells #[.bool x.term, .int .i64 x.n] 44))
  have hw0 : Below W.heap.size W w0 := by rw [← HW.out]; exact (Below.refl _ _).alloc (Nat.le_refl _) _
  have X0 : Hid (w0.heap[W.heap.size]? = some (.cells #[.bool x.term, .int .i64 x.n] 44 (0, 0))) := by rw [← HW.out]; exact bx_new _ _ _ rfl
  have HE0 := Lib.hid (h.keep hw0)
  have HB0 := Lib.hid hw0
  obtain ⟨a, cap, rfl, hc1, hc2⟩ := own_len h.own
  unfold maxLen at hc2
  have hs := sl_of_own HE0.out.own
  have hbx : w0.cell? ⟨b, 0, none⟩ = some (.slice a N cap) := by simp [World.cell?, HE0.out.box]
  obtain ⟨xt, xn⟩ := x
  obtain ⟨q1, q2, q3⟩ := hx
  dsimp only at HW X0 q1 q2 q3 ⊢
  obtain ⟨y0, y1⟩ := bx_cells2 X0.out
  obtain ⟨PST, HP⟩ := nameIt (fun (e : Ending) (w' : World) => e = .returned (.bool (!(hwS hw ⟨xt, xn⟩))) ∧ Below W.heap.size W w')
  have HFIN : Hid (∀ r w', (!(hwS hw ⟨xt, xn⟩)) = r → Below w0.heap.size w0 w' → PST (.returned (.bool r)) w') := by
    intro r w' h1 h2
    rw [← HP.out, h1]
    exact ⟨rfl, HB0.out.trans (h2.mono HB0.out.size)⟩
  rw [HP.out]
  clear hw0 h HP
  cases xt with
  | true =>
    have HE := Lib.hid (HFIN.out false w0 rfl (Below.refl _ _))
    clear q2 q3 hs
    go_enter Try.func81, Try.ntmps81
    go_upto_region 1 with fail
    rw [HW.out]
    clear HW
    go_wp2_with fail
    first | exact HE.out | (go_ret; exact HE.out)
  | false =>
    have q4 := q3 rfl
    obtain ⟨k, rfl⟩ : ∃ k : Nat, xn = (k : Int) := ⟨xn.toNat, by omega⟩
    have hkN : k < N := by omega
    obtain ⟨g, off, hae, hcell⟩ := hs.at hkN
    have hc := hcell k (by simp [bls, endsL_len]; exact hkN)
    have hval : (bls (endsL hw N))[k]'(by simp [bls, endsL_len]; exact hkN) = .bool (hw ⟨false, (k : Int)⟩) := by simp [bls, endsL]
    rw [hval] at hc
    have HH : Hid ((!(hwS hw ⟨false, (k : Int)⟩)) = !(hw ⟨false, (k : Int)⟩)) := by show _ = _; simp [hwS]
    obtain ⟨r, HR⟩ := nameIt (hw ⟨false, (k : Int)⟩)
    rw [HR.out] at hc HH
    have HE := Lib.hid (HFIN.out (!r) w0 HH.out (Below.refl _ _))
    subst hae
    clear q2 q3 hval hcell
    go_enter Try.func81, Try.ntmps81
    go_upto_region 1 with fail
    rw [HW.out]
    clear HW
    go_wp2_with fail
    first | exact HE.out | (go_ret; exact HE.out)
set_option maxHeartbeats 4000000 in
set_option maxRecDepth 100000 in
theorem new1E {B b N tm : Nat} {ve : Value} {hw : Sym → Bool} (W : World) (h : EN B b ve hw N W) (r : Rule) (hr : ∀ s ∈ r.right, Hl.okS N tm s) (hN : N ≤ 10) (u : Value) (hu : Rd AnyB W (.sl (r.right.map Sym.d)) [u]) :
    Calls Try.prog 80 #[.agg #[.int .i64 r.left, u], .pointer (some ⟨b, 0, none⟩)] W fun e w' => e = .returned (.bool (!(r.right.all (hwS hw)))) ∧ Below W.heap.size W w' := by
  obtain ⟨a, cap, rfl, hc1, hc2⟩ := hu.form
  rw [List.length_map] at hu hc1 ⊢
  obtain ⟨w0, HW⟩ := nameIt (W.alloc (.cells #[.int .i64 r.left, .slice a r.right.length cap] 69))
  have hw0 : Below W.heap.size W w0 := by rw [← HW.out]; exact (Below.refl _ _).alloc (Nat.le_refl _) _
  have X0 : Hid (w0.heap[W.heap.size]? = some (.cells #[.int .i64 r.left, .slice a r.right.length cap] 69 (0, 0))) := by rw [← HW.out]; exact bx_new _ _ _ rfl
  have HE0 := Lib.hid (h.keep hw0)
  have HB0 := Lib.hid hw0
  have hcf := containsFuncSym 81 #[.pointer (some ⟨b, 0, none⟩)] (fun s => !(hwS hw s)) a cap r.right w0 eg81 (fun W2 x hx hb => new11E W2 (HE0.out.keep hb) x (hr x hx) hN) (hu.below hw0)
  have e : (r.right.any fun s => !(hwS hw s)) = !(r.right.all (hwS hw)) := by
    rw [List.not_all_eq_any_not]
  rw [e] at hcf
  have HCF := Lib.hid hcf
  obtain ⟨y0, y1⟩ := bx_cells2 X0.out
  obtain ⟨bb, HBB⟩ := nameIt (!(r.right.all (hwS hw)))
  obtain ⟨rn, HRN⟩ := nameIt r.right.length
  obtain ⟨lf, HLF⟩ := nameIt r.left
  rw [HBB.out, HRN.out] at HCF
  rw [HRN.out] at y1
  rw [HLF.out] at y0
  rw [HRN.out, HLF.out] at HW
  rw [HBB.out, HRN.out, HLF.out]
  clear hw0 h hcf e hu hr
  go_enter Try.func80, Try.ntmps80
  go_upto_region 1 with fail
  rw [HW.out]
  clear HW
  go_wp2_with fail
  refine HCF.out.mono ?_
  rintro e w1 ⟨rfl, hb⟩
  have HB := Lib.hid (HB0.out.trans (hb.mono HB0.out.size))
  clear hb
  go_wp2_with fail
  go_ret
  exact ⟨rfl, HB.out⟩
end Ho
end Go.Proofs.Ytjpmebppdcclbaa
namespace Go.Proofs.Ytjpmebppdcclbaa
namespace Ea
open Rp Hl
open Ht
section
variable {K : List Rule} {lf lf' : Sym → Nat → Prop} {S : Int} {j : Nat} {L : Nat → List Itm}
theorem ni_cells (hlf : ∀ s i, i < j → (lf s i ↔ lf' s i)) (h : NI K lf S j L) : NI K lf' S j L := by
  refine ⟨⟨h.gs.start, h.gs.clo, fun k hk x hx s hs hl => h.gs.scan k hk x hx s hs ((hlf s k hk).2 hl)⟩, fun i hi x hx => ?_, h.nd, h.em⟩
  obtain ⟨r, h1, h2, h3, h4⟩ := h.sd i hi x hx
  have hf := R0.le (fun s i j hp => Dx.le hp) h4
  have hc : ∀ s k, k < i → (lf s k ↔ lf' s k) := fun s k hk => hlf s k (by omega)
  exact ⟨r, h1, h2, pd_cells hc h3 hf, r0_cells hc (Nat.le_refl _) h4⟩
theorem ni_it (h : NI K lf S j L) (t : Int) : It K lf S j t ↔ ∃ x ∈ L j, nxt K x = some ⟨true, t⟩ := by
  have hc : ∀ s i, i < j → (lf s i ↔ (lf s i ∧ i < j)) := fun s i hi => ⟨fun h => ⟨h, hi⟩, fun h => h.1⟩
  have h' := ni_cells (lf' := fun s i => lf s i ∧ i < j) hc h
  rw [← gs_it (fun _ _ h => h.2) h'.gs (h'.sd j (Nat.le_refl _)) t]
  exact ⟨it_cells hc, it_cells fun s i hi => (hc s i hi).symm⟩
end
def tC (w : List Int) : List Sym := w.map fun t => ⟨true, t⟩
theorem tC_len (w : List Int) : (tC w).length = w.length := by simp [tC]
theorem tC_get {w : List Int} {i : Nat} (h : i < w.length) : (tC w)[i]'(by rw [tC_len]; exact h) = ⟨true, w[i]⟩ := by simp [tC]
def okP (K : List Rule) (N : Nat) (hw : Sym → Bool) (S : Int) (w : List Int) (j : Nat) : Prop := It (KW K hw) (lfB hw N (tC w)) S j (w.getD j 0)
def PF (K : List Rule) (N : Nat) (hw : Sym → Bool) (S : Int) (w : List Int) (r : Nat) : Prop := r ≤ w.length ∧ (∀ i, i < r → okP K N hw S w i) ∧ (r < w.length → ¬ okP K N hw S w r)
theorem pf_one {K : List Rule} {N : Nat} {hw : Sym → Bool} {S : Int} {w : List Int} {r r' : Nat} (h : PF K N hw S w r) (h' : PF K N hw S w r') : r = r' := by
  obtain ⟨a1, a2, a3⟩ := h
  obtain ⟨b1, b2, b3⟩ := h'
  rcases Nat.lt_trichotomy r r' with h | h | h
  · exact absurd (b2 r h) (a3 (by omega))
  · exact h
  · exact absurd (a2 r' h) (b3 (by omega))
theorem pf_ex (K : List Rule) (N : Nat) (hw : Sym → Bool) (S : Int) (w : List Int) : ∃ r, PF K N hw S w r := by
  have key : ∀ m, m ≤ w.length → (∀ i, i < m → okP K N hw S w i) ∨ ∃ r, r < m ∧ (∀ i, i < r → okP K N hw S w i) ∧ ¬ okP K N hw S w r := by
    intro m
    induction m with
    | zero => intro _; exact .inl (fun i hi => by omega)
    | succ m ih =>
      intro hm
      rcases ih (by omega) with h | ⟨r, h1, h2, h3⟩
      · by_cases hp : okP K N hw S w m
        · left
          intro i hi
          rcases Nat.lt_or_ge i m with h4 | h4
          · exact h i h4
          · obtain rfl : i = m := by omega
            exact hp
        · exact .inr ⟨m, by omega, h, hp⟩
      · exact .inr ⟨r, by omega, h2, h3⟩
  rcases key w.length (Nat.le_refl _) with h | ⟨r, h1, h2, h3⟩
  · exact ⟨w.length, Nat.le_refl _, h, fun h => by omega⟩
  · exact ⟨r, by omega, h2, fun _ => h3⟩
theorem okP_begins {K : List Rule} {N tm : Nat} {hw : Sym → Bool} {S : Int} {w : List Int} {j : Nat} (hK : KG N K (Hl.okS N tm)) (hH : HW K hw) (hw0 : ∀ t ∈ w, 0 ≤ t ∧ t < (tm : Int)) (hS : 0 ≤ S) (hj : j < w.length) :
    (hw ⟨false, S⟩ = true ∧ Dx (KO K N hw) (lfB hw N (tC (w.take (j + 1)))) ⟨false, S + N⟩ 0 (j + 1)) ↔ okP K N hw S w j := by
  have ht := hw0 _ (List.getElem_mem hj)
  have e : tC (w.take (j + 1)) = tC (w.take j) ++ [⟨true, w[j]⟩] := by
    unfold tC
    rw [List.take_succ_eq_append_getElem hj, List.map_append]; rfl
  have hl : (tC (w.take j)).length = j := by rw [tC_len, List.length_take]; omega
  have hcl : ∀ c ∈ tC (w.take j), cellOk N tm c := by
    intro c hc
    unfold tC at hc
    obtain ⟨t, ht, rfl⟩ := List.mem_map.1 hc
    exact ⟨fun _ => (hw0 t (List.mem_of_mem_take ht)).2, fun e => by cases e⟩
  have h1 := next_it (S := S) (t := w[j]) hK hH hcl hS ht.1
  rw [hl] at h1
  rw [e, h1]
  unfold okP
  rw [show w.getD j 0 = w[j] by rw [List.getD_eq_getElem?_getD, List.getElem?_eq_getElem hj]; rfl]
  have hc : ∀ s i, i < j → (lfB hw N (tC (w.take j)) s i ↔ lfB hw N (tC w) s i) := by
    intro s i hi
    unfold lfB
    have e2 : (tC (w.take j)).getD i ⟨true, 0⟩ = (tC w).getD i ⟨true, 0⟩ := by
      unfold tC
      rw [List.getD_eq_getElem?_getD, List.getD_eq_getElem?_getD, List.getElem?_map, List.getElem?_map, List.getElem?_take_of_lt hi]
    rw [e2, hl, tC_len]
    constructor
    · rintro ⟨_, h⟩; exact ⟨by omega, h⟩
    · rintro ⟨_, h⟩; exact ⟨hi, h⟩
  exact ⟨it_cells hc, it_cells fun s i hi => (hc s i hi).symm⟩
theorem cell_w {K : List Rule} {N : Nat} {hw : Sym → Bool} {w : List Int} {j : Nat} (hj : j < w.length) {x : Itm} {s : Sym} (hn : nxt (KW K hw) x = some s) : lfB hw N (tC w) s j ↔ fitB s ⟨true, w[j]⟩ = true := by
  have h := kw_cell (N := N) (l := tC w) (k := j) (by rw [tC_len]; exact hj) hn
  rw [tC_get hj] at h
  exact h
end Ea
end Go.Proofs.Ytjpmebppdcclbaa
namespace Go.Proofs.Ytjpmebppdcclbaa
open Go.RowKit
namespace Ea
open Rp Hl Al
open Ht hiding D
open Ho (bls endsL EN EndsPost deleteE endsE)
theorem del_kw (K : List Rule) (hw : Sym → Bool) : (K.filter fun r => !(!(r.right.all (hwS hw)))) = KW K hw := by
  unfold KW
  congr 1
  funext r
  simp
theorem kw_sub {K : List Rule} {hw : Sym → Bool} : ∀ r ∈ KW K hw, r ∈ K := fun r hr => (mem_KW.1 hr).1
def FS (B fd fb : Nat) (tm N : Nat) (st : Int) (vg : Value) (ra : Option Addr) (rc : Nat) (K : List Rule) (lf : Sym → Nat → Prop) (m : Nat) (wd : List Int) (W : World) : Prop :=
  ∃ (O : Nat → Prop) (L : Nat → List Itm) (vw : Value), FC B fb (tm : Int) (N : Int) st ra rc K O (m + 1) L W ∧ NI K lf st m L ∧ W.heap[fd]? = some (.cells #[.int .i64 (tm : Int), .int .i64 (N : Int), .int .i64 st, vg, .pointer (some ⟨fb, 0, none⟩), vw] 131 (0, 0)) ∧ W.ownsRow B 3 1 vw m (ints wd) ∧ ¬ O fd ∧ B ≤ fd ∧ ∀ k, vw.ownBlock = some k → ¬ O k
def NewPost (tm N : Nat) (st : Int) (K : List Rule) (lf : Sym → Nat → Prop) (W : World) (e : Ending) (w' : World) : Prop :=
  ∃ B fd fb vg ra rc, e = .returned (.tuple #[.pointer (some ⟨fd, 0, none⟩), .int .i64 0]) ∧ FS B fd fb tm N st vg ra rc K lf 0 [] w' ∧ W.heap.size ≤ B ∧ Below W.heap.size W w'
set_option maxHeartbeats 16000000 in
set_option maxRecDepth 100000 in
theorem feedNewE (g : Gram) (ga : Option Addr) (gc : Nat) (W : World) (hgr : Rd AnyB W (.sl (g.rules.map Rule.d)) [.slice ga g.rules.length gc]) {N tm st : Nat} (hN1 : N ≤ 10) (hgn : g.nons = (N : Int)) (htm : g.terms = (tm : Int)) (htm8 : tm ≤ 8) (hst : g.start = (st : Int)) (hK : KG N g.rules (Hl.okS N tm)) (hr4 : ∀ r ∈ g.rules, r.right.length ≤ 4) (hkl : g.rules.length ≤ 32)
    (sv : Sym → Option Val) (hw : Sym → Bool) (hhw : ∀ y, hw y = (sv y).isSome) (hlen : ∀ W', Below W.heap.size W W' → LenC g (.slice ga g.rules.length gc) sv N W') (lf : Sym → Nat → Prop) :
    Calls Try.prog 44 #[.agg #[.int .i64 g.terms, .int .i64 g.nons, .int .i64 g.start, .slice ga g.rules.length gc]] W (NewPost tm N (st : Int) (KW g.rules hw) lf W) := by
  obtain ⟨w0, HW0⟩ := nameIt (W.alloc (.cells #[.int .i64 g.terms, .int .i64 g.nons, .int .i64 g.start, .slice ga g.rules.length gc] 24))
  have hb0 : Below W.heap.size W w0 := by rw [← HW0.out]; exact (Below.refl _ _).alloc (Nat.le_refl _) _
  have X0 : Hid (w0.heap[W.heap.size]? = some (.cells #[.int .i64 g.terms, .int .i64 g.nons, .int .i64 g.start, .slice ga g.rules.length gc] 24 (0, 0))) := by rw [← HW0.out]; exact bx_new _ _ _ rfl
  have HB0 := Lib.hid hb0
  have hgr0 := hgr.below hb0
  have HEN : Hid (∀ W', Below w0.heap.size w0 W' → Calls Try.prog 43 #[.agg #[.int .i64 g.terms, .int .i64 g.nons, .int .i64 g.start, .slice ga g.rules.length gc]] W' (EndsPost hw N W')) :=
    fun W' hb => endsE g N hN1 sv hw hhw (.slice ga g.rules.length gc) W' (fun W2 h2 => hlen W2 (hb0.trans ((hb.trans (h2.mono hb.size)).mono hb0.size)))
  have HCP : Hid (∀ W', Below w0.heap.size w0 W' → Calls Try.prog 55 #[.agg #[.int .i64 g.terms, .int .i64 g.nons, .int .i64 g.start, .slice ga g.rules.length gc]] W' (CopyG g W')) :=
    fun W' hb => copyG g hr4 (by omega) ga gc W' (hgr0.below hb)
  have hKW4 : ∀ r ∈ KW g.rules hw, r.right.length ≤ 4 := fun r hr => hr4 r (kw_sub r hr)
  have hKWl : (KW g.rules hw).length ≤ 32 := Nat.le_trans (List.length_filter_le _ _) hkl
  have HDEL : Hid (∀ (B b : Nat) (ve v : Value) (w : World) (B2 : Nat) (S2 : Nat → Prop), EN B b ve hw N w → (∀ k, v.ownBlock = some k → k ≠ b ∧ ve.ownBlock ≠ some k) → (∀ k, v.ownBlock = some k → S2 k) → RowD S2 B2 69 2 (g.rules.map Rule.d) v w →
      Calls Try.prog 56 #[v, .func (.func 80) #[] #[.pointer (some ⟨b, 0, none⟩)]] w fun e w' => ∃ a c, e = .returned (.slice a (KW g.rules hw).length c) ∧ Rd S2 w' (.sl ((KW g.rules hw).map Rule.d)) [.slice a (KW g.rules hw).length c] ∧ Stp (Ho.OV v) (Ho.OV v) w w') := by
    intro B b ve v w B2 S2 h1 h2 h4 h3
    have := deleteE 80 #[.pointer (some ⟨b, 0, none⟩)] (fun r => !(r.right.all (hwS hw))) g.rules v S2 B2 w Ho.eg80 (EN B b ve hw N) (fun W W' h hb => h.keep hb) (fun W g' k u hg h => h.set (h2 g' hg).1 (h2 g' hg).2) (fun W x u hx h hr => Ho.new1E W h x (hK x hx).2.2 hN1 u hr) h1 h4 h3 (by omega)
    unfold Ho.DelPost at this
    rw [del_kw] at this
    exact this
  obtain ⟨PST, HP⟩ := nameIt (NewPost tm N (st : Int) (KW g.rules hw) lf W)
  have HFIN : Hid (∀ B fd fb vg ra rc w', FS B fd fb tm N (st : Int) vg ra rc (KW g.rules hw) lf 0 [] w' → W.heap.size ≤ B → Below w0.heap.size w0 w' → PST (.returned (.tuple #[.pointer (some ⟨fd, 0, none⟩), .int .i64 0])) w') := by
    intro B fd fb vg ra rc w' h1 h2 h3
    rw [← HP.out]
    exact ⟨B, fd, fb, vg, ra, rc, rfl, h1, h2, hb0.trans (h3.mono hb0.size)⟩
  rw [HP.out]
  obtain ⟨K2, HK2⟩ := nameIt (KW g.rules hw)
  rw [HK2.out] at hKW4 hKWl
  simp only [HK2.out] at HDEL HFIN
  have HKL : Hid (K2.length ≤ 100) := by show _ ≤ _; omega
  have HST : Hid (∀ (B : Nat) (ra : Option Addr) (rc : Nat) (W' : World), B ≤ W'.heap.size → Rd (fun k => k < B) W' (.sl (K2.map Rule.d)) [.slice ra K2.length rc] → Calls Try.prog 82 #[.agg #[.int .i64 (tm : Int), .int .i64 (N : Int), .int .i64 (st : Int), .slice ra K2.length rc]] W' (StartPost B (tm : Int) (N : Int) (st : Int) ra rc K2 lf W')) :=
    fun B ra rc W' hB hr => startE B (tm : Int) (N : Int) (st : Int) ra rc K2 lf W' hB hr HKL.out hKW4
  obtain ⟨k2, HK2L⟩ := nameIt K2.length
  simp only [HK2L.out] at HDEL HST
  obtain ⟨kn, HKN⟩ := nameIt g.rules.length
  rw [htm, hgn, hst, HKN.out] at HW0 X0 HEN
  have HCP2 : Hid (∀ W', Below w0.heap.size w0 W' → Calls Try.prog 55 #[.agg #[.int .i64 (tm : Int), .int .i64 (N : Int), .int .i64 (st : Int), .slice ga kn gc]] W' fun e w' => ∃ a c, e = .returned (.agg #[.int .i64 (tm : Int), .int .i64 (N : Int), .int .i64 (st : Int), .slice a kn c]) ∧ RowD (fun k => W'.heap.size ≤ k) W'.heap.size 69 2 (g.rules.map Rule.d) (.slice a kn c) w' ∧ Below W'.heap.size W' w') := by
    intro W' hb
    have := HCP.out W' hb
    unfold CopyG at this
    rw [htm, hgn, hst, HKN.out] at this
    exact this
  rw [htm, hgn, hst, HKN.out]
  have HG0 : Hid (∀ w', Below w0.heap.size w0 w' → w'.cell? ⟨W.heap.size, 0, none⟩ = some (.int .i64 (tm : Int)) ∧ w'.cell? ⟨W.heap.size, 0 + 1, none⟩ = some (.int .i64 (N : Int)) ∧ w'.cell? ⟨W.heap.size, 0 + 2, none⟩ = some (.int .i64 (st : Int)) ∧ w'.cell? ⟨W.heap.size, 0 + 3, none⟩ = some (.slice ga kn gc)) := by
    intro w' hb'
    exact bx_cells4 (bx_keep X0.out hb')
  obtain ⟨x0, x1, x2, x3⟩ := HG0.out w0 (Below.refl _ _)
  have HWS := Lib.hid hb0.size
  clear hb0 hgr hgr0 hlen hK hr4 hkl hKW4 HCP htm hst hgn HP hhw
  go_enter Try.func44, Try.ntmps44
  go_upto_region 1 with fail
  rw [HW0.out]
  clear HW0
  go_wp2_with fail
  refine (HEN.out w0 (Below.refl _ _)).mono ?_
  clear x0 x1 x2 x3
  rintro e w2 ⟨ve, rfl, hoe, hb2⟩
  have HB2 : Hid (Below w0.heap.size w0 w2) := hb2
  obtain ⟨w3, HW3⟩ := nameIt (w2.alloc (.cells #[ve] 54))
  have hb3 : Below w2.heap.size w2 w3 := by rw [← HW3.out]; exact (Below.refl _ _).alloc (Nat.le_refl _) _
  have HEN3 : Hid (EN w0.heap.size w2.heap.size ve hw N w3) := ⟨by rw [← HW3.out]; exact bx_new _ _ _ rfl, own_keep hoe hb3⟩
  have HB3 : Hid (Below w0.heap.size w0 w3) := HB2.out.trans (hb3.mono HB2.out.size)
  have HVE : Hid (∀ k, ve.ownBlock = some k → k < w2.heap.size) := fun k e => (hoe.lt k e).2
  have HLT3 : Hid (w2.heap.size < w3.heap.size) := (Array.getElem?_eq_some_iff.1 HEN3.out.box).1
  obtain ⟨ae, ce, rfl, -, -⟩ := own_len hoe
  obtain ⟨eb, HEB⟩ := nameIt w2.heap.size
  rw [HEB.out] at HEN3 HVE HLT3
  clear hb2 hb3 hoe HEN
  go_upto_region 2 with fail
  rw [HW3.out, HEB.out]
  clear HW3
  obtain ⟨x0, x1, x2, x3⟩ := HG0.out w3 HB3.out
  go_wp2_with fail
  refine (HCP2.out w3 HB3.out).mono ?_
  clear x0 x1 x2 x3
  rintro e w4 ⟨ra, rc, rfl, hrow, hb4⟩
  have HB4 : Hid (Below w0.heap.size w0 w4) := HB3.out.trans (hb4.mono HB3.out.size)
  obtain ⟨w6, HW6⟩ := nameIt (w4.alloc (.cells #[.int .i64 (tm : Int), .int .i64 (N : Int), .int .i64 (st : Int), .slice ra kn rc] 24))
  have hb46 : Below w4.heap.size w4 w6 := by rw [← HW6.out]; exact (Below.refl _ _).alloc (Nat.le_refl _) _
  have X6 : Hid (w6.heap[w4.heap.size]? = some (.cells #[.int .i64 (tm : Int), .int .i64 (N : Int), .int .i64 (st : Int), .slice ra kn rc] 24 (0, 0))) := by rw [← HW6.out]; exact bx_new _ _ _ rfl
  have HB6 : Hid (Below w0.heap.size w0 w6) := HB4.out.trans (hb46.mono HB4.out.size)
  have hrow2 : RowD (fun k => k < w4.heap.size) w3.heap.size 69 2 (g.rules.map Rule.d) (.slice ra kn rc) w4 := by
    obtain ⟨⟨xs, h1, h2⟩, h3⟩ := hrow
    exact ⟨⟨xs, h1, h2.mono (fun k hk hlt => ⟨hlt, hk.2⟩)⟩, h3⟩
  have HROW6 := Lib.hid (hrow2.keep hb46)
  have HEN6 := Lib.hid ((HEN3.out.keep hb4).keep hb46)
  have HRB : Hid (∀ k, (Value.slice ra kn rc).ownBlock = some k → w3.heap.size ≤ k ∧ k < w4.heap.size) := by
    intro k e
    obtain ⟨⟨xs, h1, -⟩, -⟩ := hrow
    exact h1.lt k e
  have HS34 := Lib.hid hb4.size
  have HS6 : Hid (w4.heap.size < w6.heap.size) := (Array.getElem?_eq_some_iff.1 X6.out).1
  obtain ⟨B, HBN⟩ := nameIt w4.heap.size
  rw [HBN.out] at X6 HRB HS34 HS6 HROW6
  clear hb4 hb46 hrow hrow2
  go_upto_region 5 with fail
  first | rw [HW6.out, HBN.out] | (rw [HBN.out]; rw [HW6.out])
  clear HW6
  obtain ⟨c0, c1, c2, c3⟩ := bx_cells4 X6.out
  have HDL := Lib.hid (HDEL.out w0.heap.size eb (.slice ae N ce) (.slice ra kn rc) w6 w3.heap.size (fun k => k < B) HEN6.out (fun k hk => by
    have h1 := HRB.out k hk
    have h2 := HLT3.out
    exact ⟨by omega, fun e => by have := HVE.out k e; omega⟩) (fun k hk => (HRB.out k hk).2) HROW6.out)
  clear HDEL
  go_wp2_with fail
  refine HDL.out.mono ?_
  clear c0 c1 c2 c3
  rintro e w7 ⟨ra2, rc2, rfl, hrd7, hst7⟩
  have hnB : ¬ Ho.OV (.slice ra kn rc) B := fun e => by have := HRB.out B e; omega
  obtain ⟨x7, -⟩ := hst7.box X6.out hnB
  have HB7 : Hid (Below w0.heap.size w0 w7) := HB6.out.trans (hst7.bel (B := w0.heap.size) HB6.out.size (fun k e => by have := HRB.out k e; have := HB3.out.size; omega))
  obtain ⟨w8, HW8⟩ := nameIt (w7.setCell ⟨B, 0 + 3, none⟩ (.slice ra2 k2 rc2))
  obtain ⟨c0, c1, c2, c3⟩ := bx_cells4 x7
  obtain ⟨f0, f1, f2, f3⟩ := bx_free4 x7
  have X8 : Hid (w8.heap[B]? = some (.cells #[.int .i64 (tm : Int), .int .i64 (N : Int), .int .i64 (st : Int), .slice ra2 k2 rc2] 24 (0, 0))) := by
    rw [← HW8.out, bx_set x7]; rfl
  have hrd8 : Rd (fun k => k < B) w8 (.sl (K2.map Rule.d)) [.slice ra2 k2 rc2] := by
    rw [← HW8.out]
    exact Rd.keep (fun k hk hlt => ⟨hk, Below.heap_setCell _ ⟨B, 0 + 3, none⟩ _ k (fun e => by have h1 : k = B := e; omega)⟩) _ _ hrd7
  have HRD8 := Lib.hid hrd8
  have HB8 : Hid (Below w0.heap.size w0 w8) := by
    rw [← HW8.out]
    exact HB7.out.setCell (p := ⟨B, 0 + 3, none⟩) (by show _ ≤ B; have := HB3.out.size; have := HS34.out; omega) _
  have HBS8 : Hid (B < w8.heap.size ∧ w0.heap.size ≤ B) := ⟨bx_lt X8.out, by have := HB3.out.size; have := HS34.out; omega⟩
  clear hrd7 hst7 hnB x7 hrd8 HRB HROW6 HEN6 HDL HEN3 HVE
  go_upto_region 6 with fail
  rw [HW8.out]
  clear HW8 c0 c1 c2 c3 f0 f1 f2 f3
  have HSX : Hid (∀ w', Below w8.heap.size w8 w' → (fun w' : World => w'.cell? ⟨W.heap.size, 0, none⟩ = some (.int .i64 (tm : Int)) ∧ w'.cell? ⟨W.heap.size, 0 + 1, none⟩ = some (.int .i64 (N : Int)) ∧ w'.cell? ⟨W.heap.size, 0 + 2, none⟩ = some (.int .i64 (st : Int)) ∧ w'.cell? ⟨W.heap.size, 0 + 3, none⟩ = some (.slice ga kn gc) ∧ w'.cell? ⟨B, 0, none⟩ = some (.int .i64 (tm : Int)) ∧ w'.cell? ⟨B, 0 + 1, none⟩ = some (.int .i64 (N : Int)) ∧ w'.cell? ⟨B, 0 + 2, none⟩ = some (.int .i64 (st : Int)) ∧ w'.cell? ⟨B, 0 + 3, none⟩ = some (.slice ra2 k2 rc2)) w') := fun w' hb => by
    obtain ⟨y0, y1, y2, y3⟩ := HG0.out w' (HB8.out.trans (hb.mono HB8.out.size))
    obtain ⟨z0, z1, z2, z3⟩ := bx_cells4 (bx_keep X8.out hb)
    exact ⟨y0, y1, y2, y3, z0, z1, z2, z3⟩
  refine wp_region_M (S := (fun w' : World => w'.cell? ⟨W.heap.size, 0, none⟩ = some (.int .i64 (tm : Int)) ∧ w'.cell? ⟨W.heap.size, 0 + 1, none⟩ = some (.int .i64 (N : Int)) ∧ w'.cell? ⟨W.heap.size, 0 + 2, none⟩ = some (.int .i64 (st : Int)) ∧ w'.cell? ⟨W.heap.size, 0 + 3, none⟩ = some (.slice ga kn gc) ∧ w'.cell? ⟨B, 0, none⟩ = some (.int .i64 (tm : Int)) ∧ w'.cell? ⟨B, 0 + 1, none⟩ = some (.int .i64 (N : Int)) ∧ w'.cell? ⟨B, 0 + 2, none⟩ = some (.int .i64 (st : Int)) ∧ w'.cell? ⟨B, 0 + 3, none⟩ = some (.slice ra2 k2 rc2))) 6 (by kernel_rfl) ?_
  refine wpU_takeM (i := 0) (v := .agg #[.int .i64 (tm : Int), .int .i64 (N : Int), .int .i64 (st : Int), .slice ga kn gc]) rfl rfl (by kernel_rfl) (by kernel_rfl) (by kernel_rfl) (by kernel_rfl) (by kernel_rfl) (fun _ _ _ h => h) (Or.inl ⟨by rfl, fun w' hw' => ?_⟩) (HSX.out _ (Below.refl _ _).drew) ?_
  · obtain ⟨h0, h1, h2, h3, h4, h5, h6, h7⟩ := hw'
    go_simp
  try simp only [Act.put, List.setIfInBounds_toArray, List.set_cons_zero, List.set_cons_succ]
  refine wpU_takeM (i := 2) (v := .agg #[.int .i64 (tm : Int), .int .i64 (N : Int), .int .i64 (st : Int), .slice ra2 k2 rc2]) rfl rfl (by kernel_rfl) (by kernel_rfl) (by kernel_rfl) (by kernel_rfl) (by kernel_rfl) (fun _ _ _ h => h) (Or.inl ⟨by rfl, fun w' hw' => ?_⟩) (HSX.out _ (Below.refl _ _).drew) ?_
  · obtain ⟨h0, h1, h2, h3, h4, h5, h6, h7⟩ := hw'
    go_simp
  try simp only [Act.put, List.setIfInBounds_toArray, List.set_cons_zero, List.set_cons_succ]
  refine wpU_one (i := 1) (by kernel_rfl) rfl (fun K hK => ?_)
  go_simp
  refine (HCP2.out _ (HB8.out.trans ((Below.refl _ _).drew.mono HB8.out.size))).mono ?_
  rintro e w9 ⟨ra9, rc9, rfl, -, hb9⟩
  have HB9 : Hid (Below w8.heap.size w8 w9) := (Below.refl _ _).drew.trans hb9
  clear hb9
  refine hK.out _ _ (fun _ => HSX.out _ HB9.out) ?_
  clear hK K
  try simp only [Act.put, List.setIfInBounds_toArray, List.set_cons_zero, List.set_cons_succ]
  refine wpU_one (i := 3) (by kernel_rfl) rfl (fun K hK => ?_)
  go_simp
  refine (HST.out B ra2 rc2 w9 (by have := HBS8.out.1; have := HB9.out.size; omega) (HRD8.out.below HB9.out)).mono ?_
  rintro e w10 ⟨fb, O, L, rfl, hfc, hni, hb10, hO⟩
  have HFC := Lib.hid hfc
  have HNI := Lib.hid hni
  have HOO := Lib.hid hO
  have HB10 : Hid (Below w8.heap.size w8 w10) := HB9.out.trans (hb10.mono HB9.out.size)
  clear hfc hni hb10 hO
  refine hK.out _ _ (fun _ => HSX.out _ HB10.out) ?_
  clear hK K
  try simp only [Act.put, List.setIfInBounds_toArray, List.set_cons_zero, List.set_cons_succ]
  refine wpU_one (i := 4) (by kernel_rfl) rfl (fun K hK => ?_)
  go_simp
  refine hK.out _ _ (fun _ => HSX.out _ HB10.out) ?_
  clear hK K
  try simp only [Act.put, List.setIfInBounds_toArray, List.set_cons_zero, List.set_cons_succ]
  refine wpU_one (i := 5) (by kernel_rfl) rfl (fun K hK => ?_)
  go_simp
  have X11 : Hid ((w10.alloc (.cells #[.int .i64 (tm : Int), .int .i64 (N : Int), .int .i64 (st : Int), .slice ra9 kn rc9, .pointer (some ⟨fb, 0, none⟩), .slice none 0 0] 131)).heap[w10.heap.size]? = some (.cells #[.int .i64 (tm : Int), .int .i64 (N : Int), .int .i64 (st : Int), .slice ra9 kn rc9, .pointer (some ⟨fb, 0, none⟩), .slice none 0 0] 131 (0, 0))) := bx_new _ _ _ rfl
  have hb11 : Below w10.heap.size w10 (w10.alloc (.cells #[.int .i64 (tm : Int), .int .i64 (N : Int), .int .i64 (st : Int), .slice ra9 kn rc9, .pointer (some ⟨fb, 0, none⟩), .slice none 0 0] 131)) := (Below.refl _ _).alloc (Nat.le_refl _) _
  obtain ⟨w11, HW11⟩ := nameIt (w10.alloc (.cells #[.int .i64 (tm : Int), .int .i64 (N : Int), .int .i64 (st : Int), .slice ra9 kn rc9, .pointer (some ⟨fb, 0, none⟩), .slice none 0 0] 131))
  rw [HW11.out] at X11 hb11
  rw [HW11.out]
  have HB11 : Hid (Below w8.heap.size w8 w11) := HB10.out.trans (hb11.mono HB10.out.size)
  have HFC11 := Lib.hid (HFC.out.keep hb11)
  have HNO : Hid (¬ O w10.heap.size) := HFC.out.new (Nat.le_refl _)
  have HBF : Hid (B ≤ w10.heap.size) := by show _ ≤ _; have := HB10.out.size; have := HBS8.out.1; omega
  obtain ⟨fd, HFD⟩ := nameIt w10.heap.size
  rw [HFD.out] at X11 HNO HBF
  rw [HFD.out]
  clear hb11 HW11
  refine hK.out _ _ (fun _ => HSX.out _ HB11.out) ?_
  clear hK K
  try simp only [Act.put, List.setIfInBounds_toArray, List.set_cons_zero, List.set_cons_succ]
  have HE := Lib.hid (HFIN.out B fd fb (.slice ra9 kn rc9) ra2 rc2 w11 ⟨O, L, .slice none 0 0, HFC11.out, HNI.out, X11.out, World.ownsRow_nil _ _ _ _, HNO.out, HBF.out, fun k e => by cases e⟩ (by have := HBS8.out.2; have := HWS.out; omega) (HB8.out.trans (HB11.out.mono HB8.out.size)))
  refine wpU_one (i := 6) (by kernel_rfl) rfl (fun K hK => ?_)
  go_simp
  refine hK.out _ _ (fun h => absurd (show true = false from h) (by decide)) ?_
  clear hK K
  try simp only [Act.put, List.setIfInBounds_toArray, List.set_cons_zero, List.set_cons_succ]
  refine wpU_one (i := 7) (by kernel_rfl) rfl (fun K hK => ?_)
  go_simp
  refine hK.out _ _ (fun h => absurd (show true = false from h) (by decide)) ?_
  clear hK K
  try simp only [Act.put, List.setIfInBounds_toArray, List.set_cons_zero, List.set_cons_succ]
  refine wpU_done (by kernel_rfl) ?_ _
  go_wp2_with fail
  first | exact HE.out | exact bodyPost_ret (results_tmp2 Try.results44 _ _ _) rfl HE.out
end Ea
end Go.Proofs.Ytjpmebppdcclbaa
namespace Go.Proofs.Ytjpmebppdcclbaa
open Go.RowKit
namespace Ea
open Rp Hl Al
open Ht hiding D
section
variable {B fb : Nat} {gt gn gs : Int} {ra : Option Addr} {rc : Nat} {K : List Rule} {n : Nat} {L : Nat → List Itm} {w w' : World} {O O' : Nat → Prop}
theorem FC.kept {row : Option Nat} (h : FC B fb gt gn gs ra rc K O n L w) (hg : w.grownBy w' row) (hr : ∀ g, row = some g → B ≤ g ∧ ∃ cs T, w.heap[g]? = some (.cells cs T (0, 0)) ∧ T ≠ 156 ∧ T ≠ 154 ∧ T ≠ 166 ∧ T ≠ 153) : FC B fb gt gn gs ra rc K O n L w' := by
  obtain ⟨vs, vm, val, ms, bm, cl, h1, h2, h3, h4⟩ := h
  have hne : ∀ {e : TypeId} {s : Nat} {v : Value} {m : Nat} {xs : List Value}, w.ownsRow B e s v m xs → (e = 156 ∨ e = 154 ∨ e = 166) → v.ownBlock = none ∨ v.ownBlock ≠ row := by
    intro e s v m xs ho he
    cases hv : v.ownBlock with
    | none => exact .inl rfl
    | some g =>
      refine .inr (fun e2 => ?_)
      obtain ⟨_, cs, T, q1, q2, q3, q4, q5⟩ := hr g e2.symm
      obtain ⟨cur, q6⟩ := own_typed ho hv
      rw [q1] at q6
      cases q6
      rcases he with he | he | he
      · exact q2 he
      · exact q3 he
      · exact q4 he
  refine ⟨vs, vm, val, ms, bm, cl, ⟨h1.out.kept hg (hne h1.out (.inr (.inl rfl))), fun k hk => (h1.row k hk).kept hg (hne (h1.row k hk) (.inl rfl)), h1.dis, h1.mo.kept hg (hne h1.mo (.inr (.inr rfl))), fun k hk => ⟨(h1.ml k hk).1, ?_⟩, h1.bml, (hg.block fb (bx_lt h1.box) (fun e => ?_)).trans h1.box, h1.fbl, ?_⟩, h2, h3, h4⟩
  · obtain ⟨c, q1, q2⟩ := (h1.ml k hk).2
    refine ⟨c, q1, SetM.kept q2 hg (fun e => ?_)⟩
    obtain ⟨_, cs, T, q3, _⟩ := hr bm e.symm
    exact map_ne q2 q3 rfl
  · obtain ⟨_, cs, T, q1, _, _, _, q5⟩ := hr fb e.symm
    rw [h1.box] at q1
    cases q1
    exact q5 rfl
  · refine Rd.keep (fun k hk hlt => ⟨hk, hg.block k hlt (fun e => ?_)⟩) _ _ h1.rd
    have h5 : k < B := hk
    have := (hr k e.symm).1
    omega
end
def FPost (B fd fb : Nat) (tm N : Nat) (st : Int) (vg : Value) (ra : Option Addr) (rc : Nat) (K : List Rule) (lf : Sym → Nat → Prop) (m : Nat) (wd : List Int) (t : Int) (W : World) (e : Ending) (w' : World) : Prop :=
  Below B W w' ∧ ((It K lf st m t ∧ e = .returned (.int .i64 0) ∧ FS B fd fb tm N st vg ra rc K lf (m + 1) (wd ++ [t]) w') ∨ (¬ It K lf st m t ∧ e = .returned (.int .i64 10)))
set_option maxHeartbeats 16000000 in
set_option maxRecDepth 100000 in
theorem feedPutE {B fd fb tm N : Nat} {st : Int} {vg : Value} {ra : Option Addr} {rc : Nat} {K : List Rule} {lf : Sym → Nat → Prop} {m : Nat} {wd : List Int} (W : World) (h : FS B fd fb tm N st vg ra rc K lf m wd W) (hm : m < 12) (tn : Nat) (ht : tn < tm) (htm8 : tm ≤ 8) (hkl : K.length ≤ 100) (hr4 : ∀ r ∈ K, r.right.length ≤ 4) (hKS : ∀ r ∈ K, ∀ s ∈ r.right, Hl.okS N tm s)
    (hlf : ∀ (x : Itm) s, nxt K x = some s → (lf s m ↔ fitB s ⟨true, (tn : Int)⟩ = true)) :
    Calls Try.prog 45 #[.pointer (some ⟨fd, 0, none⟩), .int .i64 (tn : Int)] W (FPost B fd fb tm N st vg ra rc K lf m wd (tn : Int) W) := by
  obtain ⟨O, L, vw, hfc, hni, hbx, hown, hnO, hBfd, hvO⟩ := h
  obtain ⟨PST, HP⟩ := nameIt (FPost B fd fb tm N st vg ra rc K lf m wd (tn : Int) W)
  have HNO : Hid (¬ It K lf st m (tn : Int) → ∀ w', Below B W w' → PST (.returned (.int .i64 10)) w') := by
    intro h1 w' h2
    rw [← HP.out]
    exact ⟨h2, .inr ⟨h1, rfl⟩⟩
  have HYES : Hid (It K lf st m (tn : Int) → ∀ w', Below B W w' → FS B fd fb tm N st vg ra rc K lf (m + 1) (wd ++ [(tn : Int)]) w' → PST (.returned (.int .i64 0)) w') := by
    intro h1 w' h2 h3
    rw [← HP.out]
    exact ⟨h2, .inl ⟨h1, rfl, h3⟩⟩
  rw [HP.out]
  have HNX := Lib.hid (nextsE W hfc m rfl (by omega) htm8 hr4 hKS (fun x hx => sd_ok (hni.sd m (Nat.le_refl _) x hx)))
  have hit := ni_it hni (tn : Int)
  have HIT : Hid (bT K (L m) (L m).length tn = true ↔ It K lf st m (tn : Int)) := by
    show _ ↔ _
    rw [hit, bT_all (Nat.le_refl _)]
  have HFC := Lib.hid hfc
  have HNI := Lib.hid hni
  have HBX := Lib.hid hbx
  have HOWN := Lib.hid hown
  have HNOF := Lib.hid hnO
  have HVO := Lib.hid hvO
  have HBW : Hid (B ≤ W.heap.size) := by show _ ≤ _; have := bx_lt hbx; omega
  have HEM := Lib.hid (hni.em (m + 1) (by omega))
  have HLEN := Lib.hid (hni.len hr4 hkl (by omega))
  have HOKI : Hid (∀ j, j ≤ m → ∀ y ∈ L j, okI K j y) := fun j hj y hy => sd_ok (hni.sd j hj y hy)
  have HSQ := Lib.hid (step_qok hni (fun x _ s hs => hlf x s hs))
  have HSTP := Lib.hid (fun c => ni_step (c := c) hni (fun x _ s hs => hlf x s hs))
  have HPUT : Hid (∀ W', Below W.heap.size W W' → Calls Try.prog 84 #[.pointer (some ⟨fb, 0, none⟩), .int .i64 (tn : Int)] W' (PutPost B fb (tm : Int) (N : Int) st ra rc K O (m + 1) L (addF (scP K ⟨true, (tn : Int)⟩) [] (L m)) (fun x => Sd K lf st (m + 1) x ∧ x.f ≤ m + 1) W')) :=
    fun W' hb => putE W' (HFC.out.keep hb) m rfl (by omega) HEM.out (tn : Int) (by omega) hkl hr4 HLEN.out HOKI.out _ HSQ.out
  obtain ⟨aw, cw, rfl, hw1, hw2⟩ := own_len hown
  unfold maxLen at hw2
  obtain ⟨bt, HBT⟩ := nameIt (bT K (L m) (L m).length tn)
  rw [HBT.out] at HIT
  have htn : ((tn : Int)) < (tm : Int) := by omega
  have htn0 : ¬ ((tn : Int)) < 0 := by omega
  have htn1 : decide (((tm : Int)) ≤ (tn : Int)) = false := decide_eq_false (by omega)
  have hm12 : ((m : Int) == 12) = false := by rw [beq_eq_false_iff_ne]; omega
  have hc : ∀ w' : World, w'.heap[fd]? = some (.cells #[.int .i64 (tm : Int), .int .i64 (N : Int), .int .i64 st, vg, .pointer (some ⟨fb, 0, none⟩), .slice aw m cw] 131 (0, 0)) → w'.cell? ⟨fd, 0, none⟩ = some (.int .i64 (tm : Int)) ∧ w'.cell? ⟨fd, 0 + 4, none⟩ = some (.pointer (some ⟨fb, 0, none⟩)) ∧ w'.cell? ⟨fd, 0 + 5, none⟩ = some (.slice aw m cw) ∧ w'.frozen? ⟨fd, 0 + 5, none⟩ = false := fun w' hb =>
    ⟨by simp [World.cell?, hb], by simp [World.cell?, hb], by simp [World.cell?, hb], by simp [World.frozen?, hb]⟩
  have HC := Lib.hid hc
  obtain ⟨x0, x4, x5, -⟩ := hc W hbx
  clear hc hfc hni hbx hown hnO hvO hit HP hlf hkl hr4 hKS
  go_enter Try.func45, Try.ntmps45
  go_wp2_with fail
  refine HNX.out.mono ?_
  rintro e w1 ⟨p, rfl, hp, hv, hb1⟩
  have hcell := hv.cell ht
  rw [HBT.out] at hcell
  have HB1 := Lib.hid hb1
  have hbx1 := bx_keep HBX.out hb1
  obtain ⟨-, y4, -, -⟩ := HC.out w1 hbx1
  have HBX1 := Lib.hid hbx1
  clear hv hb1 hp hbx1 x0 x4 x5
  cases bt with
  | false =>
    have HE := Lib.hid (HNO.out (fun h => by have := HIT.out.2 h; cases this) w1 (HB1.out.mono HBW.out))
    go_wp2_with fail
    first | exact HE.out | (go_ret; exact HE.out)
  | true =>
    have HI := Lib.hid (HIT.out.1 rfl)
    go_wp2_with fail
    refine (HPUT.out w1 HB1.out).mono ?_
    rintro e w2 ⟨rfl, O2, c2, hf2, hs2, hc2, hcl2⟩
    have HF2 := Lib.hid hf2
    have HN2 := Lib.hid (HSTP.out c2 hc2 hcl2)
    have hbox2 := hs2.box HBX1.out HNOF.out
    have HBX2 := Lib.hid hbox2.1
    have HNO2 := Lib.hid hbox2.2
    have hlt1 := HFC.out.lt
    have HB2 : Hid (Below B W w2) := (HB1.out.mono HBW.out).trans (hs2.bel (by have := HBW.out; have := HB1.out.size; omega) (fun k hk => (hlt1 k hk).1))
    have hvlt := HOWN.out.lt
    have HOW2 : Hid (w2.ownsRow B 3 1 (.slice aw m cw) m (ints wd)) := by
      refine own_blkI (own_keep HOWN.out HB1.out) fun g hg => ?_
      exact hs2.same g (by have := (hvlt g hg).2; have := HB1.out.size; omega) (HVO.out g hg)
    have HVO2 : Hid (∀ k, (Value.slice aw m cw).ownBlock = some k → ¬ O2 k ∧ k < w2.heap.size) := fun k e => ⟨fun h => by
      rcases hs2.own k h with h1 | h1
      · exact HVO.out k e h1
      · have := (hvlt k e).2; have := HB1.out.size; omega, by have := (hvlt k e).2; have := HB1.out.size; have := hs2.size; omega⟩
    have HS2 : Hid (B ≤ w2.heap.size) := by show _ ≤ _; have := HB2.out.size; have := HBW.out; omega
    obtain ⟨-, -, z5, f5⟩ := HC.out w2 HBX2.out
    have HBFD : Hid (B ≤ fd) := hBfd
    clear hf2 hs2 hc2 hcl2 hbox2 hlt1 hvlt y4 hcell hBfd
    go_wp2_with (at_builtin; refine wp_app1 elInt rfl _ _ rfl HOW2.out rfl rfl rfl rfl (by omega) (by unfold maxLen; omega) HS2.out ?_)
    intro v3 w3 ho3 hg3
    obtain ⟨a3, c3, rfl, -, -⟩ := own_len ho3
    have hrt : ∀ g, (Value.slice aw m cw).ownBlock = some g → B ≤ g ∧ ∃ cs T, w2.heap[g]? = some (.cells cs T (0, 0)) ∧ T ≠ 156 ∧ T ≠ 154 ∧ T ≠ 166 ∧ T ≠ 153 := by
      intro g hg
      obtain ⟨cur, hh⟩ := own_typed HOW2.out hg
      exact ⟨(HOW2.out.lt g hg).1, cur, _, hh, by decide, by decide, by decide, by decide⟩
    have hf3 := HF2.out.kept hg3 hrt
    have hnfd : (Value.slice aw m cw).ownBlock ≠ some fd := own_ne_box HOW2.out HBX2.out (by decide)
    have hbx3 := (hg3.block fd (bx_lt HBX2.out) (fun e => hnfd e.symm)).trans HBX2.out
    have hB3 : Below B W w3 := HB2.out.grown hg3 HS2.out (fun k e => (HOW2.out.lt k e).1)
    have hn3 : (Value.slice a3 (m + 1) c3).ownBlock ≠ some fd := own_ne_box ho3 hbx3 (by decide)
    have ho3' : w3.ownsRow B 3 1 (.slice a3 (m + 1) c3) (m + 1) (ints (wd ++ [(tn : Int)])) := by
      rw [ints_append]; exact ho3
    have hv3 : ∀ k, (Value.slice a3 (m + 1) c3).ownBlock = some k → ¬ O2 k := by
      intro k hk hO
      have hlt := hf3.lt k hO
      have hlt2 := (HF2.out.lt k hO).2
      by_cases e : (Value.slice aw m cw).ownBlock = some k
      · exact (HVO2.out k e).1 hO
      · obtain ⟨cur, hh⟩ := own_typed ho3 hk
        have hsame := hg3.block k hlt2 (fun e2 => e e2.symm)
        rw [hh] at hsame
        obtain ⟨vs, vm, val, ms, bm, cl, q1, q2, q3, q4⟩ := HF2.out
        rcases (q4 k).1 hO with h1 | h1 | h1 | h1 | ⟨i, hi, h1⟩
        · rw [h1, q1.box] at hsame; cases hsame
        · obtain ⟨cur', hh'⟩ := own_typed q1.out h1
          rw [hh'] at hsame; cases hsame
        · obtain ⟨cur', hh'⟩ := own_typed q1.mo h1
          rw [hh'] at hsame; cases hsame
        · obtain ⟨c, _, q5⟩ := (q1.ml (m + 1) rfl).2
          obtain ⟨es, ck, q6⟩ := set_map q5
          rw [h1, q6] at hsame; cases hsame
        · obtain ⟨cur', hh'⟩ := own_typed (q1.row i (by omega)) h1
          rw [hh'] at hsame; cases hsame
    obtain ⟨w4, HW4⟩ := nameIt (w3.setCell ⟨fd, 0 + 5, none⟩ (.slice a3 (m + 1) c3))
    have hg4 : w3.grownBy w4 (some fd) := by rw [← HW4.out]; exact grown_cell _ _ _
    have HFS : Hid (FS B fd fb tm N st vg ra rc K lf (m + 1) (wd ++ [(tn : Int)]) w4) := by
      refine ⟨O2, _, .slice a3 (m + 1) c3, hf3.kept hg4 (fun g e => ?_), HN2.out, ?_, ho3'.kept hg4 (.inr hn3), HNO2.out, HBFD.out, hv3⟩
      · cases e
        exact ⟨HBFD.out, _, _, hbx3, by decide, by decide, by decide, by decide⟩
      · rw [← HW4.out, bx_set hbx3]; rfl
    have HB4 : Hid (Below B W w4) := by rw [← HW4.out]; exact hB3.setCell (p := ⟨fd, 0 + 5, none⟩) HBFD.out _
    have q5 : w3.cell? ⟨fd, 0 + 5, none⟩ = some (.slice aw m cw) := by simp [World.cell?, hbx3]
    have f3 : w3.frozen? ⟨fd, 0 + 5, none⟩ = false := by simp [World.frozen?, hbx3]
    have HE := Lib.hid (HYES.out HI.out w4 HB4.out HFS.out)
    clear hrt hf3 hnfd hbx3 hB3 hn3 ho3' hv3 hg4 ho3 hg3 z5 f5
    go_upto_region 9 with fail
    rw [HW4.out]
    clear HW4 q5 f3
    go_wp2_with fail
    first | exact HE.out | (go_ret; exact HE.out)
end Ea
end Go.Proofs.Ytjpmebppdcclbaa
namespace Go.Proofs.Ytjpmebppdcclbaa
open Go.RowKit
structure DRel (w : World) (c0 c1 c2 : Int) (bt n m : Nat) (D : Nat → Nat → Int) (k : Nat) (wr : World) : Prop where
  tab : ∃ rb, Tab (w.heap.size + 1) bt n m rb k D wr
  bel : Below w.heap.size w wr
  box : wr.heap[w.heap.size]? = some (.cells #[.int .i64 c0, .int .i64 c1, .int .i64 c2] 26 (0, 0))
structure ERel (w : World) (c0 c1 c2 : Int) (bt n m : Nat) (D : Nat → Nat → Int) (i q : Nat) (wr : World) : Prop where
  tab : ∃ rb val, Tab (w.heap.size + 1) bt n m rb i val wr ∧ (∀ a j, i < a → a ≤ n → j ≤ m → val a j = D a j) ∧ ∀ j, q ≤ j → j ≤ m → val i j = D i j
  bel : Below w.heap.size w wr
  box : wr.heap[w.heap.size]? = some (.cells #[.int .i64 c0, .int .i64 c1, .int .i64 c2] 26 (0, 0))
theorem ERel.next {w : World} {c0 c1 c2 : Int} {bt n m : Nat} {D : Nat → Nat → Int} {i j : Nat} {wr : World} {rb : Nat → Nat} {val : Nat → Nat → Int} (ht : Tab (w.heap.size + 1) bt n m rb i val wr) (h1 : ∀ a j, i < a → a ≤ n → j ≤ m → val a j = D a j) (h2 : ∀ l, j + 1 ≤ l → l ≤ m → val i l = D i l)
    (hb : Below w.heap.size w wr) (hx : wr.heap[w.heap.size]? = some (.cells #[.int .i64 c0, .int .i64 c1, .int .i64 c2] 26 (0, 0))) (hi : i ≤ n) (hj : j ≤ m) {x : Int} (he : x = D i j) : ERel w c0 c1 c2 bt n m D i j (wr.setCell ⟨rb i, j, none⟩ (.int .i64 x)) := by
  have hne := ht.ne i (Nat.le_refl _) hi
  refine ⟨⟨rb, _, ht.set (Nat.le_refl _) hi hj x, fun a l ha hn hl => ?_, fun l hl hm => ?_⟩, hb.setCell (by simp; omega) _, bx_other hx (by omega) _ _⟩
  · simp only [show ¬ (a = i ∧ l = j) from fun h => by omega, if_false]; exact h1 a l ha hn hl
  · by_cases e : l = j
    · subst e; simp [he]
    · simp only [e, and_false, if_false]; exact h2 l (by omega) hm
end Go.Proofs.Ytjpmebppdcclbaa
namespace Go.Proofs.Ytjpmebppdcclbaa
open Go.RowKit
namespace Al
def Op.d (o : Op) : D := .agg [.int o.kind, .int o.at', .int o.term]
theorem Rd.op {S : Nat → Prop} {w : World} {o : Op} {cs : List Value} (h : Rd S w o.d cs) : cs = [.int .i64 o.kind, .int .i64 o.at', .int .i64 o.term] := by
  obtain ⟨c1, c2, rfl, h1, c3, c4, rfl, h2, h3⟩ := h
  rw [RdAll.one_iff] at h3
  simp [Rd] at h1 h2 h3
  subst h1 h2 h3
  rfl
section
variable {c0 c1 c2 : Int} {l r : List Int} {i j : Nat}
end
end Al
end Go.Proofs.Ytjpmebppdcclbaa
namespace Go.Proofs.Ytjpmebppdcclbaa
open Go.RowKit
namespace Rp
open Al
def badW (gt t : Int) : Bool := decide (t < 0) || decide (gt ≤ t)
def wordErr (gt : Int) (w : List Int) (most : Nat) : Int := if most < w.length then 2 else if w.any (badW gt) then 1 else 0
theorem wordT (t gt : Int) (gb : Nat) (W : World) (x0 : W.cell? ⟨gb, 0, none⟩ = some (.int .i64 gt)) :
    Calls Try.prog 38 #[.int .i64 t, .pointer (some ⟨gb, 0, none⟩)] W fun e w' => e = .returned (.bool (badW gt t)) ∧ Below W.heap.size W w' := by
  by_cases h : t < 0
  · have hd : decide (t < 0) = true := by simpa using h
    have hb : badW gt t = true := by unfold badW; rw [hd]; rfl
    rw [hb]
    clear hb
    go_enter Try.func38, Try.ntmps38
    go_wp2_with fail
    go_ret
    exact ⟨rfl, by first | exact Below.refl _ _ | exact (Below.refl _ _).drew | exact below_drewN _ _⟩
  · have hd : decide (t < 0) = false := by simpa using h
    obtain ⟨b, HB⟩ := nameIt (decide (gt ≤ t))
    have hb : badW gt t = b := by unfold badW; rw [hd, HB.out]; rfl
    rw [hb]
    have hdd := HB.out
    clear hb HB h
    go_enter Try.func38, Try.ntmps38
    go_wp2_with fail
    go_ret
    exact ⟨by first | rfl | (rw [← hdd]; rfl), by first | exact Below.refl _ _ | exact (Below.refl _ _).drew | exact below_drewN _ _⟩
set_option maxHeartbeats 1000000 in
theorem wordE (g : Gram) (vr : Value) (wd : List Int) (n most : Nat) (hn : wd.length = n) (hmm : most ≤ 1000000) (wa : Option Addr) (wc : Nat) (w : World) (hw : Sl w (.slice wa n wc) (ints wd)) :
    Calls Try.prog 11 #[.agg #[.int .i64 g.terms, .int .i64 g.nons, .int .i64 g.start, vr], .slice wa n wc, .int .i64 (most : Int)] w fun e w' => e = .returned (.int .i64 (wordErr g.terms wd most)) ∧ Below w.heap.size w w' := by
  obtain ⟨w0, HW0⟩ := nameIt (w.alloc (.cells #[.int .i64 g.terms, .int .i64 g.nons, .int .i64 g.start, vr] 24))
  have hb0 : Below w.heap.size w w0 := by rw [← HW0.out]; exact (Below.refl _ _).alloc (Nat.le_refl _) _
  have X0 : Hid (w0.heap[w.heap.size]? = some (.cells #[.int .i64 g.terms, .int .i64 g.nons, .int .i64 g.start, vr] 24 (0, 0))) := by rw [← HW0.out]; exact bx_new _ _ _ rfl
  have HB0 := Lib.hid hb0
  have HCF : Hid (∀ W, Below w0.heap.size w0 W → Calls Try.prog 27 #[.slice wa n wc, .func (.func 38) #[] #[.pointer (some ⟨w.heap.size, 0, none⟩)]] W fun e w' => e = .returned (.bool (wd.any (badW g.terms))) ∧ Below W.heap.size W w') := fun W hb => by
    have h := containsFunc 38 #[.pointer (some ⟨w.heap.size, 0, none⟩)] (badW g.terms) wa wc wd W (fun _ _ => by kernel_rfl) (fun W' c hc hb' => by
      obtain ⟨x0, _, _, _⟩ := bx_cells4 (bx_keep X0.out (hb.trans (hb'.mono hb.size)))
      exact wordT c g.terms w.heap.size W' x0) (by rw [hn]; exact (hw.keep hb0).keep hb)
    rw [hn] at h
    exact h
  have hwb := hw.len.2
  unfold maxLen at hwb
  obtain ⟨hwc1, hwc2⟩ := hwb
  obtain ⟨z, HZ⟩ := nameIt (wordErr g.terms wd most)
  obtain ⟨B, HBB⟩ := nameIt (wd.any (badW g.terms))
  have HZE : Hid ((if most < n then 2 else if B then 1 else 0) = z) := by
    show _ = _
    rw [← HZ.out, ← HBB.out]; unfold wordErr; rw [hn]
  rw [HZ.out]
  rw [HBB.out] at HCF
  obtain ⟨gt, HGT⟩ := nameIt g.terms
  obtain ⟨gn, HGN⟩ := nameIt g.nons
  obtain ⟨gs, HGS⟩ := nameIt g.start
  rw [HGT.out, HGN.out, HGS.out] at HW0
  rw [HGT.out, HGN.out, HGS.out]
  clear hb0 X0 hn hw HZ
  by_cases h : most < n
  · have hml : (most : Int) < (n : Int) := by omega
    have HZE2 : Hid (z = 2) := by show _ = _; rw [← HZE.out, if_pos h]
    go_enter Try.func11, Try.ntmps11
    go_upto_region 1 with fail
    rw [HW0.out]
    go_wp2_with fail
    go_ret
    exact ⟨by rw [HZE2.out]; rfl, HB0.out⟩
  · have hml : ¬ ((most : Int) < (n : Int)) := by omega
    go_enter Try.func11, Try.ntmps11
    go_upto_region 1 with fail
    rw [HW0.out]
    go_wp2_with fail
    with_reducible refine (HCF.out w0 (Below.refl _ _)).mono ?_
    rintro e w1 ⟨rfl, hb1⟩
    have HB1 := Lib.hid (HB0.out.trans (hb1.mono HB0.out.size))
    clear hb1
    cases B with
    | true =>
      have HZE2 : Hid (z = 1) := by show _ = _; rw [← HZE.out, if_neg h]; rfl
      go_wp2_with fail
      go_ret
      exact ⟨by rw [HZE2.out]; rfl, HB1.out⟩
    | false =>
      have HZE2 : Hid (z = 0) := by show _ = _; rw [← HZE.out, if_neg h]; rfl
      go_wp2_with fail
      go_ret
      exact ⟨by rw [HZE2.out]; rfl, HB1.out⟩
end Rp
end Go.Proofs.Ytjpmebppdcclbaa
