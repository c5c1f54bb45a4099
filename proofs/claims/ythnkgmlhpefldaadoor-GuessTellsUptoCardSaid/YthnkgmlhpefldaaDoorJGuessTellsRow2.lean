/- A table of numbers in memory, that is being filled. Tables in memory whose rows were appended; the contracts of census.table. A still head by the quiet steps. core.Reach. A table in memory: rows of one-cell values, made from the first to the last. Plain and memory: what core.Ends keeps. core.Ends. slices.Index, Contains, IndexFunc and ContainsFunc of whole numbers. The contracts of gram.Has, gram.Order, gram.Compare and of slices' functions of symbols and rules. -/
import Derived.Test.YthnkgmlhpefldaaDoorJGuessTellsRow1
import Derived.Deep.OwnRows
import Derived.Deep.LoopGhost
import Derived.Deep.DeepCutAuto
import Derived.BigQuiet
import Derived.StillTailTactics
import Derived.Deep.Cut
import Derived.Shelf.Abstract
import Derived.Deep.RegionHeld3
namespace Go.Proofs.YthnkgmlhpefldaaDoor
open Go.RowKit

theorem made_at (z : Value) (n j : Nat) (h : j < n) : (madeCells #[z] n)[j]? = some z := by
  simp [madeCells, h, Nat.mod_one]

/-- rows lo .. n of the table in block bt are there: row k in block rb k, of m + 1 numbers -/
structure Tab (B bt n m : Nat) (rb : Nat → Nat) (lo : Nat) (val : Nat → Nat → Int) (wr : World) : Prop where
  tb : ∃ cs, wr.heap[bt]? = some (.cells cs 29 (0, 0)) ∧ cs.size = n + 1 ∧ ∀ k, lo ≤ k → k ≤ n → cs[k]? = some (.slice (some ⟨rb k, 0, none⟩) (m + 1) (m + 1))
  row : ∀ k, lo ≤ k → k ≤ n → ∃ cs, wr.heap[rb k]? = some (.cells cs 3 (0, 0)) ∧ cs.size = m + 1 ∧ ∀ j, j ≤ m → cs[j]? = some (.int .i64 (val k j))
  inj : ∀ k k', lo ≤ k → k ≤ n → lo ≤ k' → k' ≤ n → rb k = rb k' → k = k'
  ne : ∀ k, lo ≤ k → k ≤ n → rb k ≠ bt ∧ B ≤ rb k
  bB : B ≤ bt
section
variable {B bt n m : Nat} {rb : Nat → Nat} {lo : Nat} {val : Nat → Nat → Int} {wr w' : World}
theorem Tab.keep (h : Tab B bt n m rb lo val wr) (hb : Below wr.heap.size wr w') : Tab B bt n m rb lo val w' := by
  obtain ⟨⟨cs, h1, h2, h3⟩, h4, h5, h6, h7⟩ := h
  refine ⟨⟨cs, bx_keep h1 hb, h2, h3⟩, fun k hk hn => ?_, h5, h6, h7⟩
  obtain ⟨rs, r1, r2⟩ := h4 k hk hn
  exact ⟨rs, bx_keep r1 hb, r2⟩
theorem Tab.grown {row : Option Nat} (h : Tab B bt n m rb lo val wr) (hg : wr.grownBy w' row) (hr : ∀ k, row = some k → k ≠ bt ∧ ∀ i, lo ≤ i → i ≤ n → rb i ≠ k) : Tab B bt n m rb lo val w' := by
  obtain ⟨⟨cs, h1, h2, h3⟩, h4, h5, h6, h7⟩ := h
  refine ⟨⟨cs, ?_, h2, h3⟩, fun k hk hn => ?_, h5, h6, h7⟩
  · rw [hg.block bt (Array.getElem?_eq_some_iff.1 h1).1 (fun e => (hr bt e.symm).1 rfl)]; exact h1
  · obtain ⟨rs, r1, r2⟩ := h4 k hk hn
    refine ⟨rs, ?_, r2⟩
    rw [hg.block (rb k) (Array.getElem?_eq_some_iff.1 r1).1 (fun e => (hr _ e.symm).2 k hk hn rfl)]; exact r1
theorem Tab.hdr (h : Tab B bt n m rb lo val wr) {k : Nat} (hk : lo ≤ k) (hn : k ≤ n) : wr.cell? ⟨bt, k, none⟩ = some (.slice (some ⟨rb k, 0, none⟩) (m + 1) (m + 1)) := by
  obtain ⟨cs, h1, h2, h3⟩ := h.tb
  simp [World.cell?, h1, h3 k hk hn]
theorem Tab.cell (h : Tab B bt n m rb lo val wr) {k j : Nat} (hk : lo ≤ k) (hn : k ≤ n) (hj : j ≤ m) : wr.cell? ⟨rb k, j, none⟩ = some (.int .i64 (val k j)) := by
  obtain ⟨cs, h1, h2, h3⟩ := h.row k hk hn
  simp [World.cell?, h1, h3 j hj]
theorem Tab.free (h : Tab B bt n m rb lo val wr) {k : Nat} (hk : lo ≤ k) (hn : k ≤ n) (j : Nat) : wr.frozen? ⟨rb k, j, none⟩ = false := by
  obtain ⟨cs, h1, h2, h3⟩ := h.row k hk hn
  simp [World.frozen?, h1]
theorem Tab.lt (h : Tab B bt n m rb lo val wr) : bt < wr.heap.size := by
  obtain ⟨cs, h1, _⟩ := h.tb
  exact (Array.getElem?_eq_some_iff.1 h1).1
theorem Tab.rlt (h : Tab B bt n m rb lo val wr) {k : Nat} (hk : lo ≤ k) (hn : k ≤ n) : rb k < wr.heap.size := by
  obtain ⟨cs, h1, _⟩ := h.row k hk hn
  exact (Array.getElem?_eq_some_iff.1 h1).1
/-- a number stored -/
theorem Tab.set (h : Tab B bt n m rb lo val wr) {i j : Nat} (hi : lo ≤ i) (hin : i ≤ n) (hj : j ≤ m) (x : Int) : Tab B bt n m rb lo (fun k l => if k = i ∧ l = j then x else val k l) (wr.setCell ⟨rb i, j, none⟩ (.int .i64 x)) := by
  obtain ⟨⟨cs, h1, h2, h3⟩, h4, h5, h6, h7⟩ := h
  refine ⟨⟨cs, bx_other h1 (fun e => (h6 i hi hin).1 e.symm) _ _, h2, h3⟩, fun k hk hn => ?_, h5, h6, h7⟩
  obtain ⟨rs, r1, r2, r3⟩ := h4 k hk hn
  by_cases e : k = i
  · subst e
    refine ⟨rs.setIfInBounds j (.int .i64 x), bx_set r1 _ _, by simpa using r2, fun l hl => ?_⟩
    rw [Array.getElem?_setIfInBounds]
    by_cases e2 : j = l
    · subst e2
      rw [if_pos rfl, if_pos (by omega)]; simp
    · rw [if_neg e2, r3 l hl]
      simp [show ¬ l = j from fun h => e2 h.symm]
  · refine ⟨rs, bx_other r1 (fun e2 => e (h5 k i hk hn hi hin e2)) _ _, r2, fun l hl => ?_⟩
    rw [r3 l hl]; simp [e]
/-- a new row: laid, and its header stored -/
theorem Tab.add {i : Nat} (h : Tab B bt n m rb (i + 1) val wr) (hi : i ≤ n) (hB : B ≤ wr.heap.size) :
    Tab B bt n m (fun k => if k = i then wr.heap.size else rb k) i (fun k l => if k = i then 0 else val k l) ((wr.alloc (.cells (madeCells #[.int .i64 0] (m + 1)) 3)).setCell ⟨bt, i, none⟩ (.slice (some ⟨wr.heap.size, 0, none⟩) (m + 1) (m + 1))) := by
  have hbt := h.lt
  have hrl := fun k hk hn => h.rlt (k := k) hk hn
  obtain ⟨⟨cs, h1, h2, h3⟩, h4, h5, h6, h7⟩ := h
  have hba : Below wr.heap.size wr (wr.alloc (.cells (madeCells #[.int .i64 0] (m + 1)) 3)) := (Below.refl _ _).alloc (Nat.le_refl _) _
  refine ⟨⟨cs.setIfInBounds i (.slice (some ⟨wr.heap.size, 0, none⟩) (m + 1) (m + 1)), bx_set (bx_keep h1 hba) _ _, by simpa using h2, fun k hk hn => ?_⟩, fun k hk hn => ?_, fun k k' hk hn hk' hn' e => ?_, fun k hk hn => ?_, h7⟩
  · rw [Array.getElem?_setIfInBounds]
    by_cases e : i = k
    · subst e
      rw [if_pos rfl, if_pos (by omega)]; simp
    · rw [if_neg e, h3 k (by omega) hn]
      simp [show ¬ k = i from fun h => e h.symm]
  · by_cases e : k = i
    · subst e
      refine ⟨madeCells #[.int .i64 0] (m + 1), ?_, size_madeCells _ _, fun j hj => ?_⟩
      · simp only [if_true]
        exact bx_other (bx_new _ _ _ rfl) (by omega) _ _
      · rw [made_at _ _ _ (by omega)]; simp
    · obtain ⟨rs, r1, r2, r3⟩ := h4 k (by omega) hn
      refine ⟨rs, ?_, r2, fun j hj => by rw [r3 j hj]; simp [e]⟩
      simp only [e, if_false]
      exact bx_other (bx_keep r1 hba) (h6 k (by omega) hn).1 _ _
  · by_cases e1 : k = i <;> by_cases e2 : k' = i <;> simp only [e1, e2, if_true, if_false] at e ⊢
    · have := hrl k' (by omega) hn'; omega
    · have := hrl k (by omega) hn; omega
    · exact h5 k k' (by omega) hn (by omega) hn' e
  · by_cases e : k = i
    · subst e; simp only [if_true]; omega
    · simp only [e, if_false]; exact h6 k (by omega) hn
theorem Tab.eq {val' : Nat → Nat → Int} (h : Tab B bt n m rb lo val wr) (he : ∀ k j, lo ≤ k → k ≤ n → j ≤ m → val k j = val' k j) : Tab B bt n m rb lo val' wr := by
  obtain ⟨h1, h4, h5, h6, h7⟩ := h
  refine ⟨h1, fun k hk hn => ?_, h5, h6, h7⟩
  obtain ⟨rs, r1, r2, r3⟩ := h4 k hk hn
  exact ⟨rs, r1, r2, fun j hj => by rw [r3 j hj, he k j hk hn hj]⟩
end
end Go.Proofs.YthnkgmlhpefldaaDoor
namespace Go.Proofs.YthnkgmlhpefldaaDoor
open Go.RowKit
namespace Cs

/-- a table of N rows of M one-cell values; all of it in blocks from lo on, below hi -/
structure Tb (te : TypeId) (lo hi bt N M : Nat) (rb : Nat → Nat) (val : Nat → Nat → Value) (W : World) : Prop where
  hdr : ∃ cs T, W.heap[bt]? = some (.cells cs T (0, 0)) ∧ ∀ a, a < N → cs[a]? = some (.slice (some ⟨rb a, 0, none⟩) M M)
  row : ∀ a, a < N → ∃ cs, W.heap[rb a]? = some (.cells cs te (0, 0)) ∧ cs.size = M ∧ ∀ k, k < M → cs[k]? = some (val a k)
  inj : ∀ a b, a < N → b < N → rb a = rb b → a = b
  ne : ∀ a, a < N → rb a ≠ bt ∧ lo ≤ rb a ∧ rb a < hi
  pl : lo ≤ bt ∧ bt < hi
section
variable {te : TypeId} {lo hi bt N M : Nat} {rb : Nat → Nat} {val : Nat → Nat → Value} {W W' : World}
theorem Tb.other (h : Tb te lo hi bt N M rb val W) (hs : ∀ k, lo ≤ k → k < hi → W'.heap[k]? = W.heap[k]?) : Tb te lo hi bt N M rb val W' := by
  obtain ⟨⟨cs, T, h1, h2⟩, h3, h4, h5, h6⟩ := h
  refine ⟨⟨cs, T, by rw [hs bt h6.1 h6.2]; exact h1, h2⟩, fun a ha => ?_, h4, h5, h6⟩
  obtain ⟨rs, r1, r2⟩ := h3 a ha
  exact ⟨rs, by rw [hs _ (h5 a ha).2.1 (h5 a ha).2.2]; exact r1, r2⟩
theorem Tb.keep (h : Tb te lo hi bt N M rb val W) (hh : hi ≤ W.heap.size) (hb : Below W.heap.size W W') : Tb te lo hi bt N M rb val W' := h.other fun k _ h2 => hb.block k (by omega)
theorem Tb.head (h : Tb te lo hi bt N M rb val W) {a : Nat} (ha : a < N) : W.cell? ⟨bt, a, none⟩ = some (.slice (some ⟨rb a, 0, none⟩) M M) := by
  obtain ⟨cs, T, h1, h2⟩ := h.hdr
  simp [World.cell?, h1, h2 a ha]
theorem Tb.cell (h : Tb te lo hi bt N M rb val W) {a k : Nat} (ha : a < N) (hk : k < M) : W.cell? ⟨rb a, k, none⟩ = some (val a k) := by
  obtain ⟨cs, h1, h2, h3⟩ := h.row a ha
  simp [World.cell?, h1, h3 k hk]
theorem Tb.free (h : Tb te lo hi bt N M rb val W) {a : Nat} (ha : a < N) (k : Nat) : W.frozen? ⟨rb a, k, none⟩ = false := by
  obtain ⟨cs, h1, h2, h3⟩ := h.row a ha
  simp [World.frozen?, h1]
theorem Tb.set (h : Tb te lo hi bt N M rb val W) {a k : Nat} (ha : a < N) (hk : k < M) (x : Value) : Tb te lo hi bt N M rb (fun b l => if b = a ∧ l = k then x else val b l) (W.setCell ⟨rb a, k, none⟩ x) := by
  obtain ⟨⟨cs, T, h1, h2⟩, h3, h4, h5, h6⟩ := h
  refine ⟨⟨cs, T, bx_other h1 (fun e => (h5 a ha).1 e.symm) _ _, h2⟩, fun b hb => ?_, h4, h5, h6⟩
  obtain ⟨rs, r1, r2, r3⟩ := h3 b hb
  by_cases e : b = a
  · subst e
    refine ⟨rs.setIfInBounds k x, bx_set r1 _ _, by simpa using r2, fun l hl => ?_⟩
    rw [Array.getElem?_setIfInBounds]
    by_cases e2 : k = l
    · subst e2
      rw [if_pos rfl, if_pos (by omega)]; simp
    · rw [if_neg e2, r3 l hl]
      simp [show ¬ l = k from fun h => e2 h.symm]
  · refine ⟨rs, bx_other r1 (fun e2 => e (h4 b a hb ha e2)) _ _, r2, fun l hl => ?_⟩
    rw [r3 l hl]; simp [e]
theorem Tb.eq {val' : Nat → Nat → Value} (h : Tb te lo hi bt N M rb val W) (he : ∀ a k, a < N → k < M → val a k = val' a k) : Tb te lo hi bt N M rb val' W := by
  obtain ⟨h1, h3, h4, h5, h6⟩ := h
  refine ⟨h1, fun a ha => ?_, h4, h5, h6⟩
  obtain ⟨rs, r1, r2, r3⟩ := h3 a ha
  exact ⟨rs, r1, r2, fun k hk => by rw [r3 k hk, he a k ha hk]⟩
end
/-- while it is made: the rows so far, their headers in a row of the call's own -/
structure TbI (te tr : TypeId) (B M : Nat) (x : Value) (L : List Nat) (v : Value) (W : World) : Prop where
  own : W.ownsRow B tr 1 v L.length (L.map fun b => .slice (some ⟨b, 0, none⟩) M M)
  rows : ∀ b ∈ L, B ≤ b ∧ b < W.heap.size ∧ v.ownBlock ≠ some b ∧ ∃ cs, W.heap[b]? = some (.cells cs te (0, 0)) ∧ cs.size = M ∧ ∀ k, k < M → cs[k]? = some x
  nd : L.Nodup
  le : B ≤ W.heap.size
section
variable {te tr : TypeId} {B M : Nat} {x : Value} {L : List Nat} {v : Value} {W W' : World}
theorem TbI.nil (te tr : TypeId) (B M : Nat) (x : Value) (W : World) (h : B ≤ W.heap.size) : TbI te tr B M x [] (.slice none 0 0) W := ⟨World.ownsRow_nil _ _ _ _, (fun b hb => by cases hb), List.nodup_nil, h⟩
theorem TbI.keep (h : TbI te tr B M x L v W) (hb : Below W.heap.size W W') : TbI te tr B M x L v W' := by
  obtain ⟨h1, h2, h3, h4⟩ := h
  refine ⟨own_keep h1 hb, fun b hb' => ?_, h3, Nat.le_trans h4 hb.size⟩
  obtain ⟨k1, k2, k3, cs, k4, k5⟩ := h2 b hb'
  exact ⟨k1, Nat.lt_of_lt_of_le k2 hb.size, k3, cs, bx_keep k4 hb, k5⟩
/-- a row is added: it was laid in block g, filled -/
theorem TbI.add {g : Nat} {v' : Value} {cs : Array Value} (h : TbI te tr B M x L v W) (hg : W.heap[g]? = some (.cells cs te (0, 0))) (hc : cs.size = M) (hx : ∀ k, k < M → cs[k]? = some x) (hgB : B ≤ g) (hgv : v.ownBlock ≠ some g) (hgL : g ∉ L)
    (ho : W'.ownsRow B tr 1 v' (L.length + 1) ((L.map fun b => .slice (some ⟨b, 0, none⟩) M M) ++ [.slice (some ⟨g, 0, none⟩) M M])) (hgr : W.grownBy W' v.ownBlock) (hat : v'.ownBlock = v.ownBlock ∨ ∃ k, v'.ownBlock = some k ∧ W.heap.size ≤ k) : TbI te tr B M x (L ++ [g]) v' W' := by
  obtain ⟨h1, h2, h3, h4⟩ := h
  have hv' : ∀ b, b < W.heap.size → v.ownBlock ≠ some b → v'.ownBlock ≠ some b := by
    intro b hb hv
    rcases hat with e | ⟨j, e, hj⟩
    · rw [e]; exact hv
    · rw [e]; intro e; cases e; omega
  have hgl := (Array.getElem?_eq_some_iff.1 hg).1
  refine ⟨by rw [List.length_append, List.map_append]; exact ho, fun b hb => ?_, ?_, Nat.le_trans h4 hgr.size⟩
  · rcases List.mem_append.1 hb with hb | hb
    · obtain ⟨k1, k2, k3, cs', k4, k5⟩ := h2 b hb
      exact ⟨k1, Nat.lt_of_lt_of_le k2 hgr.size, hv' b k2 k3, cs', (hgr.block b k2 (fun e => k3 e.symm)).trans k4, k5⟩
    · rw [List.mem_singleton] at hb
      subst hb
      exact ⟨hgB, Nat.lt_of_lt_of_le hgl hgr.size, hv' b hgl hgv, cs, (hgr.block b hgl (fun e => hgv e.symm)).trans hg, hc, hx⟩
  · rw [List.nodup_append]
    exact ⟨h3, by simp, fun a ha b hb => by rw [List.mem_singleton] at hb; subst hb; exact fun e => hgL (e ▸ ha)⟩
theorem TbI.fin (h : TbI te tr B M x L v W) (h0 : 0 < L.length) : ∃ bt cap, v = .slice (some ⟨bt, 0, none⟩) L.length cap ∧ ∃ rb, Tb te B W.heap.size bt L.length M rb (fun _ _ => x) W := by
  obtain ⟨h1, h2, h3, h4⟩ := h
  obtain ⟨g, cap, rfl, hg1, hg2⟩ := h1.form h0
  refine ⟨g, cap, rfl, fun a => L.getD a 0, ?_⟩
  have hget : ∀ a, a < L.length → L.getD a 0 ∈ L ∧ L[a]? = some (L.getD a 0) := fun a ha => by
    rw [List.getD_eq_getElem?_getD, List.getElem?_eq_getElem ha]
    exact ⟨List.getElem_mem ha, rfl⟩
  refine ⟨?_, fun a ha => ?_, fun a b ha hb e => ?_, fun a ha => ?_, hg1, hg2⟩
  · rcases h1.2 with ⟨h', _⟩ | ⟨g', cap', cur, h', _, hh, _, _, _, htake⟩
    · cases h'
    · cases h'
      refine ⟨cur, tr, hh, fun a ha => ?_⟩
      have e : (L.map fun b => Value.slice (some ⟨b, 0, none⟩) M M)[a]? = some (.slice (some ⟨L.getD a 0, 0, none⟩) M M) := by
        rw [List.getElem?_map, (hget a ha).2]; rfl
      rw [← htake, List.getElem?_take, if_pos (by omega)] at e
      simpa using e
  · obtain ⟨_, _, _, cs, k4, k5, k6⟩ := h2 _ (hget a ha).1
    exact ⟨cs, k4, k5, k6⟩
  · exact (List.getElem?_inj ha h3).1 (by rw [(hget a ha).2, (hget b hb).2, e])
  · obtain ⟨k1, k2, k3, _⟩ := h2 _ (hget a ha).1
    exact ⟨fun e => k3 (by rw [e]; rfl), k1, k2⟩
end
end Cs
end Go.Proofs.YthnkgmlhpefldaaDoor
namespace Go.Proofs.YthnkgmlhpefldaaDoor
open Go.RowKit

end Go.Proofs.YthnkgmlhpefldaaDoor
namespace Go.Proofs.YthnkgmlhpefldaaDoor
open Go.RowKit
namespace Lg

theorem pow_bit (p j : Nat) : (2 ^ p).testBit j = true ↔ j = p := by
  rw [Nat.testBit_two_pow]
  simp; exact eq_comm
def okSy (N : Nat) (s : Sym) : Prop := s.term = false → 0 ≤ s.n ∧ s.n.toNat < N
def ReachPost (E : Nat → Nat → Nat) (wd : List Int) (l : List Sym) (i : Nat) (W : World) (e : Ending) (w' : World) : Prop :=
  ∃ x : Nat, e = .returned (.int .u32 x) ∧ (∀ j, x.testBit j = true ↔ RB E wd l i j) ∧ Below W.heap.size W w'
set_option maxHeartbeats 8000000 in
set_option maxRecDepth 100000 in
theorem reachE {rules : List Rule} {E : Nat → Nat → Nat} {wd : List Int} {N n lo hi bt : Nat} {rb : Nat → Nat} (hn : wd.length = n) (hn12 : n ≤ 12) (hN : N ≤ 10) (hs : SoundE rules wd E) (l : List Sym) (hl : ∀ s ∈ l, okSy N s) (i : Nat) (hi' : i ≤ n)
    (wa : Option Addr) (wc : Nat) (la : Option Addr) (lc : Nat) (W : World) (hw : Sl W (.slice wa n wc) (ints wd)) (htb   : Cs.Tb 76 lo hi bt N (n + 1) rb (fun a k => .int .u32 (E a k : Int)) W) (hhi : hi ≤ W.heap.size) (hrd : Rd AnyB W (.sl (l.map Sym.d)) [.slice la l.length lc]) (hT : TabG W) :
    Calls Tryd.prog 41 #[.slice wa n wc, .slice (some ⟨bt, 0, none⟩) N N, .slice la l.length lc, .int .i64 (i : Int)] W (ReachPost E wd l i W) := by
  obtain ⟨PST, HP⟩ := nameIt (ReachPost E wd l i W)
  have HFIN : Hid (∀ (x : Nat) w', (∀ j, x.testBit j = true ↔ RB E wd l i j) → Below W.heap.size W w' → PST (.returned (.int .u32 (x : Int))) w') := by
    intro x w' h1 h2
    rw [← HP.out]
    exact ⟨x, rfl, h1, h2⟩
  rw [HP.out]
  have HS := Lib.hid hs
  have HW := Lib.hid hw
  have HTB : Hid (∀ w', Below W.heap.size W w' → Cs.Tb 76 lo hi bt N (n + 1) rb (fun a k => .int .u32 (E a k : Int)) w') := fun w' h => htb.keep hhi h
  have HRD := Lib.hid hrd
  have HOK := Lib.hid hl
  have HTG : Hid (∀ w', Below W.heap.size W w' → TabG w') := fun w' h => hT.keep h
  have HNL := Lib.hid hn
  have hlb := hrd.bounds.2
  unfold maxLen at hlb
  obtain ⟨hlc1, hlc2⟩ := hlb
  have hwb := hw.len.2
  unfold maxLen at hwb
  obtain ⟨hwc1, hwc2⟩ := hwb
  have HR0 : Hid (∀ j, (2 ^ i).testBit j = true ↔ RB E wd (l.take 0) i j) := fun j => pow_bit i j
  have HRB : Hid (∀ q x, (∀ j, x.testBit j = true ↔ RB E wd (l.take q) i j) → x < 8192 ∧ ∀ p, x.testBit p = true → p ≤ n) := by
    intro q x hx
    have h1 : ∀ p, x.testBit p = true → p ≤ n := fun p hp => by have := (RB_sound hs (by omega) ((hx p).1 hp)).2.1; omega
    exact ⟨bits_lt (m := 12) fun j hj => by have := h1 j hj; omega, h1⟩
  have HHB : Hid (∀ (s : Sym) (a X nx : Nat), UpTo a X (fun p j => hit E wd s p j) nx → nx < 8192) := by
    intro s a X nx hu
    refine bits_lt (m := 12) fun j hj => ?_
    obtain ⟨p, _, _, h3⟩ := (hu.2 j).1 hj
    have := (hit_sound hs h3).2.1
    omega
  have HEB : Hid (∀ A k, E A k < 8192) := fun A k => hs.lt (by omega) A k
  have HSH : Hid (∀ p : Nat, p ≤ 13 → ((2 : Int) ^ p % 4294967296) = ((2 ^ p : Nat) : Int)) := by
    intro p hp
    have h1 : 2 ^ p ≤ 2 ^ 13 := Nat.pow_le_pow_right (by decide) hp
    have h2 : (2 : Int) ^ p = ((2 ^ p : Nat) : Int) := by push_cast; rfl
    rw [h2]
    exact Int.emod_eq_of_lt (Int.natCast_nonneg _) (by omega)
  obtain ⟨ln, HLN⟩ := nameIt l.length
  rw [HLN.out] at HRD hlc1
  rw [HLN.out]
  clear hs hw htb hrd hl hT HP
  go_enter Tryd.func41, Tryd.ntmps41
  go_upto_region 2 with fail
  rw [HSH.out i (by omega)]
  obtain ⟨x0, HX0⟩ := nameIt (2 ^ i)
  rw [HX0.out] at HR0
  rw [HX0.out]
  go_wp2_with fail
  go_loopg [9, 12, 13, 14, 19] ln (fun gg v9 v12 v13 v14 v19 wr => ∃ (q x : Nat), q ≤ ln ∧ ln - q ≤ gg ∧ v9 = .int .u32 (x : Int) ∧ v19 = .int .i64 (q : Int) ∧ Hid (∀ j, x.testBit j = true ↔ RB E wd (l.take q) i j) ∧ Hid (Below W.heap.size W wr))
  case atStart => exact ⟨0, x0, by omega, by omega, rfl, rfl, HR0, Below.refl _ _⟩
  case round =>
    clear HR0
    obtain ⟨q, x, hq, hgq, rfl, rfl, HX, HB⟩ := hrel
    obtain ⟨w2, rfl⟩ : ∃ ww : World, ww = wr := ⟨_, rfl⟩
    by_cases hlt : q < ln
    · have hlt' : (q : Int) < (ln : Int) := by omega
      have hq0 : (0 : Int) ≤ (q : Int) := by omega
      have hqx : q < l.length := by rw [HLN.out]; exact hlt
      obtain ⟨sb, so, hae, -, hsb, s0, s1⟩ := (show Rd AnyB W (.sl (l.map Sym.d)) [.slice la l.length lc] by rw [HLN.out]; exact HRD.out).sym_at hqx
      have u0 := (HB.out.cell (lt_of_cell s0)).trans s0
      have u1 := (HB.out.cell (lt_of_cell s1)).trans s1
      have HSNOC : Hid (∀ j, RB E wd (l.take (q + 1)) i j ↔ ∃ p, RB E wd (l.take q) i p ∧ hit E wd l[q] p j) := by
        intro j
        rw [List.take_succ_eq_append_getElem hqx]
        exact RB_snoc
      have HOS := Lib.hid (HOK.out _ (List.getElem_mem hqx))
      obtain ⟨⟨st, sn⟩, HSY⟩ := nameIt (l[q]'hqx)
      rw [HSY.out] at u0 u1 HSNOC HOS
      simp only at u0 u1
      obtain ⟨hx8, hxn⟩ := HRB.out q x HX.out
      have HXN := Lib.hid hxn
      obtain ⟨w3, HW3⟩ := nameIt (w2.alloc (.cells #[.bool st, .int .i64 sn] 44))
      have hb3 : Below w2.heap.size w2 w3 := by rw [← HW3.out]; exact (Below.refl _ _).alloc (Nat.le_refl _) _
      have HB3 : Hid (Below W.heap.size W w3) := HB.out.trans (hb3.mono HB.out.size)
      have S3 : Hid (w3.heap[w2.heap.size]? = some (.cells #[.bool st, .int .i64 sn] 44 (0, 0))) := by rw [← HW3.out]; exact bx_new _ _ _ rfl
      have HU0 : Hid (UpTo x x (fun p j => hit E wd ⟨st, sn⟩ p j) 0) := upTo_start
      obtain ⟨gb, HGB⟩ := nameIt w2.heap.size
      rw [HGB.out] at S3
      subst hae
      clear s0 s1 hb3 hxn
      go_upto_region 5 with fail
      rw [HW3.out, HGB.out]
      clear u0 u1 HW3 HGB
      go_wp2_with fail
      go_loopg [12, 13, 14] x (fun gg v12 v13 v14 wr => ∃ (X nx : Nat), X ≤ gg ∧ X < 8192 ∧ v12 = .int .u32 (nx : Int) ∧ v13 = .int .u32 (X : Int) ∧ Hid (UpTo x X (fun p j => hit E wd ⟨st, sn⟩ p j) nx) ∧ Hid (Below W.heap.size W wr) ∧ Hid (wr.heap[gb]? = some (.cells #[.bool st, .int .i64 sn] 44 (0, 0))))
      case atStart => exact ⟨x, 0, Nat.le_refl _, hx8, rfl, rfl, HU0, HB3, S3⟩
      case round =>
        clear HU0 HB3 S3
        obtain ⟨X, nx, hgX, hX8, rfl, rfl, HU, HB3, S3⟩ := hrel
        obtain ⟨w4, rfl⟩ : ∃ ww : World, ww = wr := ⟨_, rfl⟩
        obtain ⟨z0, z1⟩ := bx_cells2 S3.out
        have hnx := HHB.out _ _ _ _ HU.out
        by_cases hX0 : X = 0
        · subst hX0
          have HXE : Hid (∀ j, nx.testBit j = true ↔ RB E wd (l.take (q + 1)) i j) := by
            intro j
            rw [upTo_end HU.out j, HSNOC.out j]
            constructor
            · rintro ⟨p, a1, a2⟩; exact ⟨p, (HX.out p).1 a1, a2⟩
            · rintro ⟨p, a1, a2⟩; exact ⟨p, (HX.out p).2 a1, a2⟩
          clear hnx z0 z1
          go_wp2_with fail
          go_roundg (ln - (q + 1))
          case measure => omega
          case rel => exact ⟨q + 1, nx, by omega, by omega, rfl, by go_num, HXE, HB3⟩
        · have hne : ((X : Int) != 0) = true := by simpa using hX0
          have HTZ := Lib.hid (tzE X (by omega) hX0 w4 (HTG.out w4 HB3.out))
          obtain ⟨hp1, hp2, hp3, hp4⟩ := low_bit hX0 (show X < 4294967296 by omega)
          have HNEXT : Hid (∀ y, (∀ j, y.testBit j = true ↔ hit E wd ⟨st, sn⟩ (Lib.ctz 32 X) j) → UpTo x (X &&& (X - 1)) (fun p j => hit E wd ⟨st, sn⟩ p j) (nx ||| y)) := fun y hy => upTo_next hX0 (by omega) HU.out hy
          have hpn : Lib.ctz 32 X ≤ n := HXN.out _ (HU.out.1 _ hp2)
          have hand : bits BinOp.and IntKind.u32 (X : Int) ((X : Int) - 1) = ((X &&& (X - 1) : Nat) : Int) := by
            have e1 : (X : Int) - 1 = ((X - 1 : Nat) : Int) := by omega
            rw [e1]; exact u32_and_nat X (X - 1) (by omega) (by omega)
          obtain ⟨p, HPN⟩ := nameIt (Lib.ctz 32 X)
          rw [HPN.out] at HTZ HNEXT hpn
          obtain ⟨X2, HX2⟩ := nameIt (X &&& (X - 1))
          rw [HX2.out] at HNEXT hand hp4
          have hX28 : X2 < 8192 := by omega
          clear hp1 hp2 hp3 HU
          go_wp2_with fail
          with_reducible refine HTZ.out.mono ?_
          rintro e w5 ⟨rfl, rfl⟩
          have hhit : ∀ j, hit E wd ⟨st, sn⟩ p j ↔ if st then wd[p]? = some sn ∧ j = p + 1 else (E sn.toNat p).testBit j = true := fun _ => Iff.rfl
          have HHIT := Lib.hid hhit
          clear hhit HHB
          cases st with
          | false =>
            obtain ⟨hq1, hq2⟩ := HOS.out rfl
            simp only at hq1 hq2
            obtain ⟨B, rfl⟩ : ∃ B : Nat, sn = (B : Int) := ⟨sn.toNat, by omega⟩
            rw [Int.toNat_natCast] at hq2
            have hB0 : (0 : Int) ≤ (B : Int) := by omega
            have hB1 : (B : Int) < (N : Int) := by omega
            have c0 := (HTB.out w5 HB3.out).head hq2
            have c1 := (HTB.out w5 HB3.out).cell hq2 (show p < n + 1 by omega)
            obtain ⟨M, HM⟩ := nameIt (n + 1)
            rw [HM.out] at c0
            have hpM : (p : Int) < (M : Int) := by have := HM.out; omega
            have hp0 : (0 : Int) ≤ (p : Int) := by omega
            have HUN := Lib.hid (HNEXT.out (E B p) (fun j => by rw [HHIT.out j]; rfl))
            have hor : bits BinOp.or IntKind.u32 (nx : Int) (E B p : Int) = ((nx ||| E B p : Nat) : Int) := u32_or_nat nx (E B p) (by omega) (by have := HEB.out B p; omega)
            obtain ⟨y, HY⟩ := nameIt (E B p)
            rw [HY.out] at c1 HUN hor
            obtain ⟨n2, HN2⟩ := nameIt (nx ||| y)
            rw [HN2.out] at HUN hor
            clear HNEXT HHIT HTZ
            go_wp2_with fail
            go_roundg X2
            case measure => omega
            case rel => exact ⟨X2, n2, by omega, hX28, by first | rfl | go_num, by first | rfl | exact congrArg _ hand, HUN, HB3, S3⟩
          | true =>
            have HNO : Hid (¬ (wd[p]? = some sn) → UpTo x X2 (fun p j => hit E wd ⟨true, sn⟩ p j) nx) := by
              intro hne
              have := HNEXT.out 0 (fun j => by
                rw [HHIT.out j, if_pos rfl, Nat.zero_testBit]
                exact ⟨fun h => absurd h (by decide), fun h => absurd h.1 hne⟩)
              simpa using this
            have HYES : Hid (wd[p]? = some sn → UpTo x X2 (fun p j => hit E wd ⟨true, sn⟩ p j) (nx ||| 2 ^ (p + 1))) := fun he => HNEXT.out _ (fun j => by
              rw [HHIT.out j, if_pos rfl]
              constructor
              · intro h; exact ⟨he, (pow_bit _ _).1 h⟩
              · intro h; exact (pow_bit _ _).2 h.2)
            have hp0 : (0 : Int) ≤ (p : Int) := by omega
            clear HNEXT HHIT HTZ
            by_cases hpn2 : p < n
            · have hpn3 : (p : Int) < (n : Int) := by omega
              have hpl : p < wd.length := by rw [HNL.out]; exact hpn2
              obtain ⟨wb, wo, hwe, hwcell⟩ := (HW.out.keep HB3.out).at hpn2
              have d0 := hwcell p (by rw [ints_len]; exact hpl)
              rw [ints_get] at d0
              have hgx : wd[p]? = some wd[p] := List.getElem?_eq_getElem hpl
              rw [hgx] at HNO HYES
              obtain ⟨wx, HWX⟩ := nameIt (wd[p]'hpl)
              rw [HWX.out] at d0 HNO HYES
              subst hwe
              clear hwcell hgx
              by_cases he : wx = sn
              · have HUN := Lib.hid (HYES.out (by rw [he]))
                have hbe : (wx == sn) = true := by simpa using he
                have hpw : IntKind.i64.wrap ((p : Int) + 1) = ((p + 1 : Nat) : Int) := by rw [IntWalk.i64_in _ (by omega)]; omega
                have hpw2 : (IntKind.i64.wrap ((p : Int) + 1)).toNat = p + 1 := by rw [hpw]; omega
                have hsh := HSH.out (p + 1) (by omega)
                have hor : bits BinOp.or IntKind.u32 (nx : Int) ((2 ^ (p + 1) : Nat) : Int) = ((nx ||| 2 ^ (p + 1) : Nat) : Int) := u32_or_nat nx _ (by omega) (by have : 2 ^ (p + 1) ≤ 2 ^ 13 := Nat.pow_le_pow_right (by decide) (by omega); omega)
                obtain ⟨n2, HN2⟩ := nameIt (nx ||| 2 ^ (p + 1))
                rw [HN2.out] at HUN hor
                go_wp2_with fail
                go_quiet (fail)
                have HB6 := Lib.hid (HB3.out.trans ((below_drewN w5 nq).mono HB3.out.size))
                have S6 := Lib.hid (bx_keep S3.out (below_drewN w5 nq))
                have HPW := Lib.hid hpw
                have HPW2 := Lib.hid hpw2
                have HSHH := Lib.hid hsh
                have HOR := Lib.hid hor
                clear hpw hpw2 hsh hor
                go_upto_region 8 with fail
                rw [HSHH.out, HOR.out]
                go_wp2_with fail
                go_roundg X2
                case measure => omega
                case rel => exact ⟨X2, n2, by omega, hX28, by first | rfl | go_num, by first | rfl | exact congrArg _ hand | go_num, HUN, HB6, S6⟩
              · have HUN := Lib.hid (HNO.out (by intro h; exact he (Option.some.inj h)))
                have hbe : (wx == sn) = false := by simpa using he
                go_wp2_with fail
                go_quiet (fail)
                have HB6 := Lib.hid (HB3.out.trans ((below_drewN w5 nq).mono HB3.out.size))
                have S6 := Lib.hid (bx_keep S3.out (below_drewN w5 nq))
                go_wp2_with fail
                go_roundg X2
                case measure => omega
                case rel => exact ⟨X2, nx, by omega, hX28, by first | rfl | go_num, by first | rfl | exact congrArg _ hand | go_num, HUN, HB6, S6⟩
            · have hpn3 : ¬ (p : Int) < (n : Int) := by omega
              have HUN := Lib.hid (HNO.out (by rw [List.getElem?_eq_none (by rw [HNL.out]; omega)]; intro h; cases h))
              go_wp2_with fail
              go_quiet (fail)
              have HB6 := Lib.hid (HB3.out.trans ((below_drewN w5 nq).mono HB3.out.size))
              have S6 := Lib.hid (bx_keep S3.out (below_drewN w5 nq))
              go_wp2_with fail
              go_roundg X2
              case measure => omega
              case rel => exact ⟨X2, nx, by omega, hX28, by first | rfl | go_num, by first | rfl | exact congrArg _ hand | go_num, HUN, HB6, S6⟩
    · have hlt' : ¬ (q : Int) < (ln : Int) := by omega
      have HXE : Hid (∀ j, x.testBit j = true ↔ RB E wd l i j) := by
        have := HX.out
        rwa [List.take_of_length_le (by rw [HLN.out]; omega)] at this
      have HE := Lib.hid (HFIN.out x w2 HXE.out HB.out)
      go_wp2_with fail
      exact HE.out
end Lg
end Go.Proofs.YthnkgmlhpefldaaDoor
namespace Go.Proofs.YthnkgmlhpefldaaDoor
open Go.RowKit

/-- the table in block bt is to have n rows; rows 0 .. hi - 1 are there: row k in block rb k, of m cells -/
structure Grd (tr te : TypeId) (B bt n m hi : Nat) (rb : Nat → Nat) (val : Nat → Nat → Value) (wr : World) : Prop where
  tb : ∃ cs, wr.heap[bt]? = some (.cells cs tr (0, 0)) ∧ cs.size = n ∧ ∀ k, k < hi → k < n → cs[k]? = some (.slice (some ⟨rb k, 0, none⟩) m m)
  row : ∀ k, k < hi → k < n → ∃ cs, wr.heap[rb k]? = some (.cells cs te (0, 0)) ∧ cs.size = m ∧ ∀ j, j < m → cs[j]? = some (val k j)
  inj : ∀ k k', k < hi → k' < hi → k < n → k' < n → rb k = rb k' → k = k'
  ne : ∀ k, k < hi → k < n → rb k ≠ bt ∧ B ≤ rb k
  bB : B ≤ bt
section
variable {tr te : TypeId} {B bt n m hi : Nat} {rb : Nat → Nat} {val : Nat → Nat → Value} {wr w' : World}
theorem Grd.lt (h : Grd tr te B bt n m hi rb val wr) : bt < wr.heap.size := by
  obtain ⟨cs, h1, _⟩ := h.tb
  exact (Array.getElem?_eq_some_iff.1 h1).1
theorem Grd.rlt (h : Grd tr te B bt n m hi rb val wr) {k : Nat} (hk : k < hi) (hn : k < n) : rb k < wr.heap.size := by
  obtain ⟨cs, h1, _⟩ := h.row k hk hn
  exact (Array.getElem?_eq_some_iff.1 h1).1
theorem Grd.grown {row : Option Nat} (h : Grd tr te B bt n m hi rb val wr) (hg : wr.grownBy w' row) (hr : ∀ k, row = some k → k ≠ bt ∧ ∀ i, i < hi → i < n → rb i ≠ k) : Grd tr te B bt n m hi rb val w' := by
  obtain ⟨⟨cs, h1, h2, h3⟩, h4, h5, h6, h7⟩ := h
  refine ⟨⟨cs, ?_, h2, h3⟩, fun k hk hn => ?_, h5, h6, h7⟩
  · rw [hg.block bt (Array.getElem?_eq_some_iff.1 h1).1 (fun e => (hr bt e.symm).1 rfl)]; exact h1
  · obtain ⟨rs, r1, r2⟩ := h4 k hk hn
    refine ⟨rs, ?_, r2⟩
    rw [hg.block (rb k) (Array.getElem?_eq_some_iff.1 r1).1 (fun e => (hr _ e.symm).2 k hk hn rfl)]; exact r1
theorem Grd.keep (h : Grd tr te B bt n m hi rb val wr) (hb : Below wr.heap.size wr w') : Grd tr te B bt n m hi rb val w' := h.grown (grown_below hb none) (fun k e => by cases e)
theorem Grd.hdr (h : Grd tr te B bt n m hi rb val wr) {k : Nat} (hk : k < hi) (hn : k < n) : wr.cell? ⟨bt, k, none⟩ = some (.slice (some ⟨rb k, 0, none⟩) m m) := by
  obtain ⟨cs, h1, h2, h3⟩ := h.tb
  simp [World.cell?, h1, h3 k hk hn]
theorem Grd.cell (h : Grd tr te B bt n m hi rb val wr) {k j : Nat} (hk : k < hi) (hn : k < n) (hj : j < m) : wr.cell? ⟨rb k, j, none⟩ = some (val k j) := by
  obtain ⟨cs, h1, h2, h3⟩ := h.row k hk hn
  simp [World.cell?, h1, h3 j hj]
theorem Grd.free (h : Grd tr te B bt n m hi rb val wr) {k : Nat} (hk : k < hi) (hn : k < n) (j : Nat) : wr.frozen? ⟨rb k, j, none⟩ = false := by
  obtain ⟨cs, h1, h2, h3⟩ := h.row k hk hn
  simp [World.frozen?, h1]
theorem Grd.hcell (h : Grd tr te B bt n m hi rb val wr) {k : Nat} (hn : k < n) : (∃ v, wr.cell? ⟨bt, k, none⟩ = some v) ∧ wr.frozen? ⟨bt, k, none⟩ = false := by
  obtain ⟨cs, h1, h2, h3⟩ := h.tb
  exact ⟨⟨cs[k]'(by omega), by simp [World.cell?, h1]⟩, by simp [World.frozen?, h1]⟩
/-- a value stored -/
theorem Grd.set (h : Grd tr te B bt n m hi rb val wr) {i j : Nat} (hi' : i < hi) (hin : i < n) (hj : j < m) (x : Value) : Grd tr te B bt n m hi rb (fun k l => if k = i ∧ l = j then x else val k l) (wr.setCell ⟨rb i, j, none⟩ x) := by
  obtain ⟨⟨cs, h1, h2, h3⟩, h4, h5, h6, h7⟩ := h
  refine ⟨⟨cs, bx_other h1 (fun e => (h6 i hi' hin).1 e.symm) _ _, h2, h3⟩, fun k hk hn => ?_, h5, h6, h7⟩
  obtain ⟨rs, r1, r2, r3⟩ := h4 k hk hn
  by_cases e : k = i
  · subst e
    refine ⟨rs.setIfInBounds j x, bx_set r1 _ _, by simpa using r2, fun l hl => ?_⟩
    rw [Array.getElem?_setIfInBounds]
    by_cases e2 : j = l
    · subst e2
      rw [if_pos rfl, if_pos (by omega)]; simp
    · rw [if_neg e2, r3 l hl]
      simp [show ¬ l = j from fun h => e2 h.symm]
  · refine ⟨rs, bx_other r1 (fun e2 => e (h5 k i hk hi' hn hin e2)) _ _, r2, fun l hl => ?_⟩
    rw [r3 l hl]; simp [e]
/-- a new row: laid, and its header stored -/
theorem Grd.add {z : Value} (h : Grd tr te B bt n m hi rb (fun _ _ => z) wr) (hi' : hi < n) (hB : B ≤ wr.heap.size) :
    Grd tr te B bt n m (hi + 1) (fun k => if k = hi then wr.heap.size else rb k) (fun _ _ => z) ((wr.alloc (.cells (madeCells #[z] m) te)).setCell ⟨bt, hi, none⟩ (.slice (some ⟨wr.heap.size, 0, none⟩) m m)) := by
  have hbt := h.lt
  have hrl := fun k hk hn => h.rlt (k := k) hk hn
  obtain ⟨⟨cs, h1, h2, h3⟩, h4, h5, h6, h7⟩ := h
  have hba : Below wr.heap.size wr (wr.alloc (.cells (madeCells #[z] m) te)) := (Below.refl _ _).alloc (Nat.le_refl _) _
  refine ⟨⟨cs.setIfInBounds hi (.slice (some ⟨wr.heap.size, 0, none⟩) m m), bx_set (bx_keep h1 hba) _ _, by simpa using h2, fun k hk hn => ?_⟩, fun k hk hn => ?_, fun k k' hk hk' hn hn' e => ?_, fun k hk hn => ?_, h7⟩
  · rw [Array.getElem?_setIfInBounds]
    by_cases e : hi = k
    · subst e
      rw [if_pos rfl, if_pos (by omega)]; simp
    · rw [if_neg e, h3 k (by omega) hn]
      simp [show ¬ k = hi from fun h => e h.symm]
  · by_cases e : k = hi
    · subst e
      refine ⟨madeCells #[z] m, ?_, size_madeCells _ _, fun j hj => made_at _ _ _ hj⟩
      simp only [if_true]
      exact bx_other (bx_new _ _ _ rfl) (by omega) _ _
    · obtain ⟨rs, r1, r2, r3⟩ := h4 k (by omega) hn
      refine ⟨rs, ?_, r2, r3⟩
      simp only [e, if_false]
      exact bx_other (bx_keep r1 hba) (h6 k (by omega) hn).1 _ _
  · by_cases e1 : k = hi <;> by_cases e2 : k' = hi <;> simp only [e1, e2, if_true, if_false] at e ⊢
    · have := hrl k' (by omega) hn'; omega
    · have := hrl k (by omega) hn; omega
    · exact h5 k k' (by omega) (by omega) hn hn' e
  · by_cases e : k = hi
    · subst e; simp only [if_true]; omega
    · simp only [e, if_false]; exact h6 k (by omega) hn
theorem Grd.eq {val' : Nat → Nat → Value} (h : Grd tr te B bt n m hi rb val wr) (he : ∀ k j, k < hi → k < n → j < m → val k j = val' k j) : Grd tr te B bt n m hi rb val' wr := by
  obtain ⟨h1, h4, h5, h6, h7⟩ := h
  refine ⟨h1, fun k hk hn => ?_, h5, h6, h7⟩
  obtain ⟨rs, r1, r2, r3⟩ := h4 k hk hn
  exact ⟨rs, r1, r2, fun j hj => by rw [r3 j hj, he k j hk hn hj]⟩
end
theorem Grd.start (tr te : TypeId) {B n m : Nat} {rb : Nat → Nat} {val : Nat → Nat → Value} {z : Value} (w : World) {bt : Nat} (hb : bt = w.heap.size) (hB : B ≤ w.heap.size) : Grd tr te B bt n m 0 rb val (w.alloc (.cells (madeCells #[z] n) tr)) := by
  subst hb
  exact ⟨⟨_, bx_new _ _ _ rfl, size_madeCells _ _, fun k hk => by omega⟩, fun k hk => by omega, fun k k' hk => by omega, fun k hk => by omega, hB⟩
end Go.Proofs.YthnkgmlhpefldaaDoor
namespace Go.Proofs.YthnkgmlhpefldaaDoor
open Go.RowKit
namespace Lg

def sumR (f : Nat → Nat) : Nat → Nat
  | 0 => 0
  | k + 1 => sumR f k + f k
theorem sumR_le {f g : Nat → Nat} : ∀ {n : Nat}, (∀ i, i < n → g i ≤ f i) → sumR g n ≤ sumR f n
  | 0, _ => Nat.le_refl _
  | n + 1, h => by
    have h1 := sumR_le (n := n) (f := f) (g := g) fun i hi => h i (by omega)
    have h2 := h n (by omega)
    show sumR g n + g n ≤ sumR f n + f n
    omega
theorem sumR_lt {f g : Nat → Nat} {k : Nat} (hk : g k < f k) : ∀ {n : Nat}, k < n → (∀ i, i < n → g i ≤ f i) → sumR g n < sumR f n
  | 0, h, _ => by omega
  | n + 1, h, hle => by
    show sumR g n + g n < sumR f n + f n
    by_cases e : k = n
    · subst e
      have h1 := sumR_le (n := k) (f := f) (g := g) fun i hi => hle i (by omega)
      omega
    · have h1 := sumR_lt (n := n) hk (by omega) fun i hi => hle i (by omega)
      have h2 := hle n (by omega)
      omega
def muE (E : Nat → Nat → Nat) (N M : Nat) : Nat := sumR (fun a => sumR (fun k => 8192 - E a k) M) N
theorem muE_or {E : Nat → Nat → Nat} {A i x N M : Nat} (hA : A < N) (hi : i < M) (h1 : E A i < E A i ||| x) (h2 : E A i ||| x < 8192) : muE (orE E A i x) N M < muE E N M := by
  have hle : ∀ a k, 8192 - orE E A i x a k ≤ 8192 - E a k := by
    intro a k
    unfold orE
    split
    · rename_i e; obtain ⟨rfl, rfl⟩ := e; omega
    · exact Nat.le_refl _
  refine sumR_lt (k := A) ?_ hA fun a _ => sumR_le fun k _ => hle a k
  refine sumR_lt (k := i) ?_ hi fun k _ => hle A k
  show 8192 - orE E A i x A i < 8192 - E A i
  unfold orE
  rw [if_pos ⟨rfl, rfl⟩]
  omega
/-- bits that are not there yet -/
theorem andNot_zero {x y : Nat} (hx : x < 4294967296) (hy : y < 4294967296) (h : x &&& (4294967295 - y) = 0) (j : Nat) (hj : x.testBit j = true) : y.testBit j = true := by
  have h1 : (x &&& (4294967295 - y)).testBit j = false := by rw [h]; exact Nat.zero_testBit j
  rw [Nat.testBit_and, hj, Bool.true_and] at h1
  have h2 : 4294967295 - y = 2 ^ 32 - (y + 1) := by omega
  rw [h2, Nat.testBit_two_pow_sub_succ (by omega)] at h1
  have h3 : j < 32 := by
    refine Nat.lt_of_not_le fun h3 => ?_
    have : x < 2 ^ j := Nat.lt_of_lt_of_le (show x < 2 ^ 32 from hx) (Nat.pow_le_pow_right (by decide) h3)
    rw [Nat.testBit_lt_two_pow this] at hj
    cases hj
  simpa [h3] using h1
theorem or_lt {x y : Nat} (hx : x < 4294967296) (hy : y < 4294967296) (h : x &&& (4294967295 - y) ≠ 0) : y < y ||| x := by
  refine Nat.lt_of_le_of_ne Nat.left_le_or fun e => h ?_
  refine Nat.eq_of_testBit_eq fun j => ?_
  rw [Nat.zero_testBit, Nat.testBit_and]
  cases hj : x.testBit j with
  | false => rfl
  | true =>
    have h1 : y.testBit j = true := by rw [e, Nat.testBit_or, hj, Bool.or_true]
    have h2 : 4294967295 - y = 2 ^ 32 - (y + 1) := by omega
    rw [h2, Nat.testBit_two_pow_sub_succ (by omega), h1]
    simp
/-- a rule is met at a place -/
def ClAt (wd : List Int) (E : Nat → Nat → Nat) (r : Rule) (i : Nat) : Prop := ∀ j, RB E wd r.right i j → (E r.left.toNat i).testBit j = true
def ClTo (rules : List Rule) (wd : List Int) (E : Nat → Nat → Nat) (q : Nat) : Prop := ∀ r ∈ rules.take q, ∀ i, i ≤ wd.length → ClAt wd E r i
theorem clTo_next {rules : List Rule} {wd : List Int} {E : Nat → Nat → Nat} {q : Nat} (hq : q < rules.length) (h : ClTo rules wd E q) (h2 : ∀ i, i ≤ wd.length → ClAt wd E rules[q] i) : ClTo rules wd E (q + 1) := by
  intro r hr
  rw [List.take_succ_eq_append_getElem hq, List.mem_append] at hr
  rcases hr with hr | hr
  · exact h r hr
  · simp at hr; subst hr; exact h2
theorem clTo_end {rules : List Rule} {wd : List Int} {E : Nat → Nat → Nat} {q : Nat} (hq : rules.length ≤ q) (h : ClTo rules wd E q) : ClosedE rules wd E := by
  intro r hr i hi
  exact h r (by rw [List.take_of_length_le hq]; exact hr) i hi
structure EI (rules : List Rule) (wd : List Int) (w : World) (H bt N M : Nat) (rb : Nat → Nat) (E : Nat → Nat → Nat) (G : Array Value) (wr : World) : Prop where
  tab : Cs.Tb 76 (w.heap.size + 1) H bt N M rb (fun a k => .int .u32 (E a k : Int)) wr
  bel : Below w.heap.size w wr
  hs : H ≤ wr.heap.size
  box : wr.heap[w.heap.size]? = some (.cells G 25 (0, 0))
  snd : SoundE rules wd E
section
variable {rules : List Rule} {wd : List Int} {w : World} {H bt N M : Nat} {rb : Nat → Nat} {E : Nat → Nat → Nat} {G : Array Value} {wr w' : World}
theorem EI.keep (h : EI rules wd w H bt N M rb E G wr) (hb : Below wr.heap.size wr w') : EI rules wd w H bt N M rb E G w' :=
  ⟨h.tab.keep h.hs hb, h.bel.trans (hb.mono h.bel.size), Nat.le_trans h.hs hb.size, bx_keep h.box hb, h.snd⟩
theorem EI.set (h : EI rules wd w H bt N M rb E G wr) {A i x : Nat} (hA : A < N) (hi : i < M) (hs : SoundE rules wd (orE E A i x)) : EI rules wd w H bt N M rb (orE E A i x) G (wr.setCell ⟨rb A, i, none⟩ (.int .u32 ((E A i ||| x : Nat) : Int))) := by
  have hne := (h.tab.ne A hA).2
  refine ⟨(h.tab.set hA hi _).eq (fun a k _ _ => ?_), h.bel.setCell (by show w.heap.size ≤ rb A; omega) _, ?_, bx_other h.box (by show w.heap.size ≠ rb A; omega) _ _, hs⟩
  · unfold orE
    split <;> rfl
  · simpa using h.hs
end
/-- the table while it is made -/
structure GI (w : World) (bt N M : Nat) (G : Array Value) (rb : Nat → Nat) (hi : Nat) (wr : World) : Prop where
  tab : Grd 77 76 (w.heap.size + 1) bt N M hi rb (fun _ _ => .int .u32 0) wr
  bel : Below w.heap.size w wr
  box : wr.heap[w.heap.size]? = some (.cells G 25 (0, 0))
theorem GI.fin {rules : List Rule} {wd : List Int} {w : World} {bt N M : Nat} {G : Array Value} {rb : Nat → Nat} {wr : World} (h : GI w bt N M G rb N wr) : EI rules wd w wr.heap.size bt N M rb (fun _ _ => 0) G wr := by
  have hbt := h.tab.lt
  have hrl := fun k hk => h.tab.rlt (k := k) hk hk
  obtain ⟨⟨⟨cs, h1, h2, h3⟩, h4, h5, h6, h7⟩, h8, h9⟩ := h
  refine ⟨⟨⟨cs, _, h1, fun a ha => h3 a ha ha⟩, fun a ha => h4 a ha ha, fun a b ha hb => h5 a b ha hb ha hb, fun a ha => ⟨(h6 a ha ha).1, (h6 a ha ha).2, hrl a ha⟩, h7, hbt⟩, h8, Nat.le_refl _, h9, fun A i j hj => ?_⟩
  rw [Nat.zero_testBit] at hj; cases hj
def EndsPost (rules : List Rule) (wd : List Int) (N : Nat) (W : World) (e : Ending) (w' : World) : Prop :=
  ∃ (bt H : Nat) (rb : Nat → Nat) (E : Nat → Nat → Nat), e = .returned (.slice (some ⟨bt, 0, none⟩) N N) ∧ Cs.Tb 76 (W.heap.size + 1) H bt N (wd.length + 1) rb (fun a k => .int .u32 (E a k : Int)) w' ∧ H ≤ w'.heap.size ∧ SoundE rules wd E ∧ ClosedE rules wd E ∧ Below W.heap.size W w'
end Lg
end Go.Proofs.YthnkgmlhpefldaaDoor
namespace Go.Proofs.YthnkgmlhpefldaaDoor
open Go.RowKit
namespace Lg

def okRu (N : Nat) (r : Rule) : Prop := 0 ≤ r.left ∧ r.left.toNat < N ∧ ∀ s ∈ r.right, okSy N s
theorem okRu_of {g : Gram} (h : checkG g = 0) : ∃ N : Nat, g.nons = (N : Int) ∧ 1 ≤ N ∧ N ≤ 10 ∧ ∀ r ∈ g.rules, okRu N r := by
  obtain ⟨⟨_, _, h3, h4, _, _⟩, _, h8⟩ := checkG_zero h
  refine ⟨g.nons.toNat, by omega, by omega, by omega, fun r hr => ?_⟩
  obtain ⟨a1, a2, _, a4⟩ := h8 r hr
  refine ⟨a1, by omega, fun s hs e => ?_⟩
  have := a4 s hs
  unfold hasS at this
  rw [e] at this
  simp at this
  exact ⟨this.1, by omega⟩
set_option maxHeartbeats 8000000 in
set_option maxRecDepth 100000 in
theorem endsE (g : Gram) (N : Nat) (hgn : g.nons = (N : Int)) (hN1 : 1 ≤ N) (hN10 : N ≤ 10) (hok : ∀ r ∈ g.rules, okRu N r) (ar : Option Addr) (cr : Nat) (wd : List Int) (n : Nat) (hn : wd.length = n) (hn12 : n ≤ 12) (wa : Option Addr) (wc : Nat) (w : World) (hr : Rd AnyB w (.sl (g.rules.map Rule.d)) [.slice ar g.rules.length cr]) (hw : Sl w (.slice wa n wc) (ints wd)) (hT : TabG w) :
    Calls Tryd.prog 38 #[.agg #[.int .i64 g.terms, .int .i64 g.nons, .int .i64 g.start, .slice ar g.rules.length cr], .slice wa n wc] w (EndsPost g.rules wd N w) := by
  have hbs := hr.bounds.2
  unfold maxLen at hbs
  obtain ⟨hc1, hc2⟩ := hbs
  have HR := Lib.hid hr
  obtain ⟨PST, HP⟩ := nameIt (EndsPost g.rules wd N w)
  have HFIN : Hid (∀ H bt rb E G w', EI g.rules wd w H bt N (n + 1) rb E G w' → ClosedE g.rules wd E → PST (.returned (.slice (some ⟨bt, 0, none⟩) N N)) w') := by
    intro H bt rb E G w' h1 h2
    rw [← HP.out]
    exact ⟨bt, H, rb, E, rfl, by rw [hn]; exact h1.tab, h1.hs, h1.snd, h2, h1.bel⟩
  rw [HP.out]
  clear HP
  obtain ⟨gt, HGT⟩ := nameIt g.terms
  obtain ⟨gs, HGS⟩ := nameIt g.start
  have HOK := Lib.hid hok
  obtain ⟨K, HK⟩ := nameIt g.rules
  rw [HK.out] at HR hc1 HOK HFIN
  rw [hgn, HGT.out, HGS.out, HK.out]
  obtain ⟨kl, HKL⟩ := nameIt K.length
  rw [HKL.out] at HR hc1
  rw [HKL.out]
  have HW : Hid (∀ w', Below w.heap.size w w' → Sl w' (.slice wa n wc) (ints wd)) := fun w' h => hw.keep h
  have HTG : Hid (∀ w', Below w.heap.size w w' → TabG w') := fun w' h => hT.keep h
  have hwb := hw.len.2
  unfold maxLen at hwb
  obtain ⟨hwc1, hwc2⟩ := hwb
  obtain ⟨M, HM⟩ := nameIt (n + 1)
  have hM1 : 1 ≤ M := by have := HM.out; omega
  have hM2 : M ≤ 13 := by have := HM.out; omega
  have hMn : ((n : Int) + 1) = (M : Int) := by have := HM.out; omega
  have hwr : IntKind.i64.wrap ((n : Int) + 1) = (M : Int) := by rw [IntWalk.i64_in _ (by omega), hMn]
  have HNL := Lib.hid hn
  rw [HM.out] at HFIN
  have hmk1 : ∀ W : World, (Instr.makeSlice 78 (.int .i64 (N : Int)) (.int .i64 (N : Int))).run Tryd.prog W = .ok (.slice (some ⟨W.heap.size, 0, none⟩) N N) (W.alloc (.cells (madeCells #[.slice none 0 0] N) 77)) := fun W => by
    have := run_make_row' (P := Tryd.prog) 78 77 (.slice none 0 0) 24 Tryd.underlying78 (by kernel_rfl) rfl .i64 .i64 N (by omega) (by omega) W
    simpa using this
  have hmk2 : ∀ W : World, (Instr.makeSlice 77 (.int .i64 (M : Int)) (.int .i64 (M : Int))).run Tryd.prog W = .ok (.slice (some ⟨W.heap.size, 0, none⟩) M M) (W.alloc (.cells (madeCells #[.int .u32 0] M) 76)) := fun W => by
    have := run_make_row' (P := Tryd.prog) 77 76 (.int .u32 0) 4 Tryd.underlying77 (by kernel_rfl) rfl .i64 .i64 M (by omega) (by omega) W
    simpa using this
  obtain ⟨G, HG⟩ : ∃ G : Array Value, Hid (G = #[.int .i64 gt, .int .i64 N, .int .i64 gs, .slice ar kl cr]) := ⟨_, rfl⟩
  obtain ⟨w0, HW0⟩ := nameIt (w.alloc (.cells #[.int .i64 gt, .int .i64 N, .int .i64 gs, .slice ar kl cr] 25))
  have HB0 : Hid (Below w.heap.size w w0) := by rw [← HW0.out]; exact (Below.refl _ _).alloc (Nat.le_refl _) _
  have X1 : Hid (w0.heap[w.heap.size]? = some (.cells #[.int .i64 gt, .int .i64 N, .int .i64 gs, .slice ar kl cr] 25 (0, 0))) := by rw [← HW0.out]; exact bx_new _ _ _ rfl
  have hs0 : w0.heap.size = w.heap.size + 1 := by rw [← HW0.out]; simp
  obtain ⟨bt, HBT⟩ := nameIt w0.heap.size
  have HI0 : Hid (∃ rb, GI w bt N M G rb 0 (w0.alloc (.cells (madeCells #[.slice none 0 0] N) 77))) := by
    refine ⟨fun _ => 0, Grd.start _ _ _ HBT.out.symm (by omega), HB0.out.alloc (by omega) _, ?_⟩
    rw [HG.out]
    exact bx_keep X1.out ((Below.refl _ _).alloc (Nat.le_refl _) _)
  obtain ⟨x0, x1, x2, x3⟩ := bx_cells4 X1.out
  have hl0 : w.heap.size < w0.heap.size := by omega
  clear hr hok hgn hw hT hs0 hn hMn
  go_enter Tryd.func38, Tryd.ntmps38
  go_upto_region 1 with fail
  rw [HW0.out]
  go_wp2_with fail
  rw [HBT.out]
  clear x0 x1 x2 x3 hmk1
  go_loopg [6, 17] N (fun gg v6 v17 wr => ∃ k : Nat, k ≤ N ∧ N - k ≤ gg ∧ v17 = .int .i64 k ∧ Hid (∃ rb, GI w bt N M G rb k wr))
  case atStart => exact ⟨0, by omega, by omega, rfl, HI0⟩
  case round =>
    clear HI0
    obtain ⟨k, hk, hg, rfl, HI⟩ := hrel
    by_cases hkN : k < N
    · have hkN' : (k : Int) < (N : Int) := by omega
      obtain ⟨rb, hd⟩ := HI.out
      have hbt := hd.tab.lt
      have hbB := hd.tab.bB
      have hsz := hd.bel.size
      obtain ⟨⟨vc, hc8⟩, hf8⟩ := hd.tab.hcell hkN
      have HT1 : Hid (∃ rb, GI w bt N M G rb (k + 1) ((wr.alloc (.cells (madeCells #[.int .u32 0] M) 76)).setCell ⟨bt, k, none⟩ (.slice (some ⟨wr.heap.size, 0, none⟩) M M))) := by
        refine ⟨_, hd.tab.add hkN (by omega), (hd.bel.alloc (by omega) _).setCell (by show w.heap.size ≤ bt; omega) _, ?_⟩
        exact bx_other (bx_keep hd.box ((Below.refl _ _).alloc (Nat.le_refl _) _)) (by show w.heap.size ≠ bt; omega) _ _
      have hne8 : ¬ bt = wr.heap.size := by omega
      have hne9 : ¬ wr.heap.size = bt := by omega
      obtain ⟨w1, HW1⟩ := nameIt ((wr.alloc (.cells (madeCells #[.int .u32 0] M) 76)).setCell ⟨bt, k, none⟩ (.slice (some ⟨wr.heap.size, 0, none⟩) M M))
      have hcomm : (wr.setCell ⟨bt, k, none⟩ (.slice (some ⟨wr.heap.size, 0, none⟩) M M)).alloc (.cells (madeCells #[.int .u32 0] M) 76) = w1 := by
        rw [← HW1.out]
        simp [go_sem, hbt]
      have HCM := Lib.hid hcomm
      rw [HW1.out] at HT1
      clear hcomm hd
      go_upto_region 6 with fail
      rw [HCM.out]
      clear hc8 hf8 hne8 hne9
      go_wp2_with fail
      go_roundg (N - (k + 1))
      case measure => omega
      case rel => exact ⟨k + 1, by omega, by omega, by go_num, HT1⟩
    · have hkN' : ¬ (k : Int) < (N : Int) := by omega
      obtain ⟨rb, hd⟩ := HI.out
      have hkk : k = N := by omega
      rw [hkk] at hd
      have HD0 : Hid (EI K wd w wr.heap.size bt N M rb (fun _ _ => 0) G wr) := hd.fin
      obtain ⟨H, HH⟩ := nameIt wr.heap.size
      rw [HH.out] at HD0
      obtain ⟨E0, HE0⟩ : ∃ E0 : Nat → Nat → Nat, Hid (E0 = fun _ _ => 0) := ⟨_, rfl⟩
      rw [← HE0.out] at HD0
      have HBTH : Hid (bt < H ∧ w.heap.size < H ∧ ∀ a, a < N → rb a < H) := ⟨HD0.out.tab.pl.2, by have := HD0.out.tab.pl; omega, fun a ha => (HD0.out.tab.ne a ha).2.2⟩
      clear hd hkk HI
      go_wp2_with fail
      go_loopg [7, 9, 10, 11] (muE E0 N M + 1) (fun gg v7 v9 v10 v11 wr => ∃ (ag : Bool) (E : Nat → Nat → Nat), v7 = .bool ag ∧ (ag = true → muE E N M + 1 ≤ gg) ∧ Hid (EI K wd w H bt N M rb E G wr) ∧ Hid (ag = false → ClosedE K wd E))
      case atStart => exact ⟨true, E0, rfl, (fun _ => Nat.le_refl _), HD0, (fun e => by cases e)⟩
      case round =>
        clear HD0
        obtain ⟨ag, E, rfl, hgg, HE, HAG⟩ := hrel
        obtain ⟨w3, rfl⟩ : ∃ ww : World, ww = wr := ⟨_, rfl⟩
        cases ag with
        | false =>
          have HX := Lib.hid (HFIN.out H bt rb E G w3 HE.out (HAG.out rfl))
          clear hgg HAG
          go_wp2_with fail
          exact HX.out
        | true =>
          have hgg' := hgg rfl
          obtain ⟨mu, HMU⟩ := nameIt (muE E N M)
          rw [HMU.out] at hgg'
          have hbx := HE.out.box
          rw [HG.out] at hbx
          obtain ⟨x0, x1, x2, x3⟩ := bx_cells4 hbx
          have HC0 : Hid (ClTo K wd E 0) := fun r hr => by simp at hr
          clear hgg HAG hbx
          go_wp2_with fail
          clear x0 x1 x2 x3
          go_loopg [7, 9, 10, 11, 32] kl (fun gg v7 v9 v10 v11 v32 wr => ∃ (q : Nat) (Y : Nat → Nat → Nat) (b : Bool), q ≤ kl ∧ kl - q ≤ gg ∧ v7 = .bool b ∧ v32 = .int .i64 q ∧ Hid (EI K wd w H bt N M rb Y G wr) ∧ Hid (b = false → Y = E ∧ ClTo K wd E q) ∧ Hid (b = true → muE Y N M < mu))
          case atStart => exact ⟨0, E, false, by omega, by omega, rfl, rfl, HE, (fun _ => ⟨rfl, HC0.out⟩), (fun e => by cases e)⟩
          case round =>
            clear HE HC0
            obtain ⟨q, Y, b, hq, hg2, rfl, rfl, HE, HC, HMB⟩ := hrel
            obtain ⟨w4, rfl⟩ : ∃ ww : World, ww = wr := ⟨_, rfl⟩
            by_cases hlt : q < kl
            · have hlt' : (q : Int) < (kl : Int) := by omega
              have hq0 : (0 : Int) ≤ (q : Int) := by omega
              have hqx : q < K.length := by rw [HKL.out]; exact hlt
              obtain ⟨rbk, ro, rv, hae, -, hrb, r0, r1, hrr⟩ := (show Rd AnyB w (.sl (K.map Rule.d)) [.slice ar K.length cr] by rw [HKL.out]; exact HR.out).rule_at hqx
              obtain ⟨sa, sc, rfl, hsc1, hsc2⟩ := hrr.form
              rw [List.length_map] at r1 hrr hsc1
              have t0 := (HE.out.bel.cell (lt_of_cell r0)).trans r0
              have t1 := (HE.out.bel.cell (lt_of_cell r1)).trans r1
              have HRR := Lib.hid hrr
              have HOR := Lib.hid (HOK.out _ (List.getElem_mem hqx))
              have HMEM := Lib.hid (List.getElem_mem hqx)
              have HNX : Hid (ClTo K wd E q → (∀ i, i ≤ n → ClAt wd E K[q] i) → ClTo K wd E (q + 1)) := fun h1 h2 => clTo_next hqx h1 (by rw [HNL.out]; exact h2)
              obtain ⟨r, HRN⟩ := nameIt (K[q]'hqx)
              rw [HRN.out] at t0 t1 HRR HOR hsc1 HMEM HNX
              obtain ⟨hr1, hr2, hr3⟩ := HOR.out
              obtain ⟨A, hA⟩ : ∃ A : Nat, r.left = (A : Int) := ⟨r.left.toNat, by omega⟩
              have hAN : A < N := by rw [hA] at hr2; simpa using hr2
              have HAL := Lib.hid hA
              rw [hA] at t0
              have HOS := Lib.hid hr3
              have hA0 : (0 : Int) ≤ (A : Int) := by omega
              have hA1 : (A : Int) < (N : Int) := by omega
              obtain ⟨rt, HRT⟩ := nameIt r.right
              rw [HRT.out] at t1 HRR HOS hsc1
              have HRRL : Hid (∀ W, Below w.heap.size w W → Rd AnyB W (.sl (rt.map Sym.d)) [.slice sa rt.length sc]) := fun W h => HRR.out.below h
              obtain ⟨rn, HRNL⟩ := nameIt rt.length
              rw [HRNL.out] at t1 hsc1 HRRL
              obtain ⟨w5, HW5⟩ := nameIt (w4.alloc (.cells #[.int .i64 (A : Int), .slice sa rn sc] 32))
              have hb5 : Below w4.heap.size w4 w5 := by rw [← HW5.out]; exact (Below.refl _ _).alloc (Nat.le_refl _) _
              have HE5 := Lib.hid (HE.out.keep hb5)
              have Y5 : Hid (w5.heap[w4.heap.size]? = some (.cells #[.int .i64 (A : Int), .slice sa rn sc] 32 (0, 0))) := by rw [← HW5.out]; exact bx_new _ _ _ rfl
              have hgbH : H ≤ w4.heap.size := HE.out.hs
              obtain ⟨gb, HGB⟩ := nameIt w4.heap.size
              rw [HGB.out] at Y5 hgbH
              have HHEAD : Hid (∀ wr Z, EI K wd w H bt N M rb Z G wr → wr.cell? ⟨bt, A, none⟩ = some (.slice (some ⟨rb A, 0, none⟩) M M)) := fun wr Z h => h.tab.head hAN
              have hrbA : rb A < H := HBTH.out.2.2 A hAN
              have HCI0 : Hid (∀ l, l < 0 → ClAt wd E r l) := fun l hl => absurd hl (Nat.not_lt_zero l)
              obtain ⟨ra, HRA⟩ := nameIt (rb A)
              rw [HRA.out] at HHEAD hrbA
              subst hae
              clear hrr r0 r1 hb5 hr3 hr1 hr2 hA
              go_upto_region 13 with fail
              rw [HW5.out, HGB.out]
              clear t0 t1 HW5
              go_wp2_with fail
              go_loopg [7, 10, 11, 39] M (fun gg v7 v10 v11 v39 wr => ∃ (i : Nat) (Z : Nat → Nat → Nat) (c : Bool), i ≤ M ∧ M - i ≤ gg ∧ v7 = .bool c ∧ v39 = .int .i64 i ∧ Hid (EI K wd w H bt N M rb Z G wr) ∧ Hid (c = false → b = false ∧ Z = Y ∧ ∀ l, l < i → ClAt wd E r l) ∧ Hid (c = true → muE Z N M < mu) ∧ Hid (wr.heap[gb]? = some (.cells #[.int .i64 (A : Int), .slice sa rn sc] 32 (0, 0))))
              case atStart => exact ⟨0, Y, b, by omega, by omega, rfl, rfl, HE5, (fun e => ⟨e, rfl, HCI0.out⟩), HMB.out, Y5⟩
              case round =>
                clear HE5 Y5 HCI0
                obtain ⟨i, Z, c, hi, hg3, rfl, rfl, HZ, HCZ, HMZ, Y5⟩ := hrel
                obtain ⟨w6, rfl⟩ : ∃ ww : World, ww = wr := ⟨_, rfl⟩
                by_cases hiM : i < M
                · have hiM' : (i : Int) < (M : Int) := by omega
                  have hi0 : (0 : Int) ≤ (i : Int) := by omega
                  have hin : i ≤ n := by have := HM.out; omega
                  have HRE : Hid (Calls Tryd.prog 41 #[.slice wa n wc, .slice (some ⟨bt, 0, none⟩) N N, .slice sa rn sc, .int .i64 (i : Int)] w6 (ReachPost Z wd rt i w6)) := by
                    have h := reachE (N := N) (rb := rb) (lo := w.heap.size + 1) (hi := H) (bt := bt) HNL.out hn12 hN10 HZ.out.snd rt HOS.out i hin wa wc sa sc w6 (HW.out w6 HZ.out.bel) (by rw [HM.out]; exact HZ.out.tab) HZ.out.hs (by rw [HRNL.out]; exact HRRL.out w6 HZ.out.bel) (HTG.out w6 HZ.out.bel)
                    rw [HRNL.out] at h
                    exact h
                  obtain ⟨y0, y1⟩ := bx_cells2 Y5.out
                  go_wp2_with fail
                  with_reducible refine HRE.out.mono ?_
                  rintro e w7 ⟨x, rfl, hx, hb7⟩
                  have HZ7 := Lib.hid (HZ.out.keep hb7)
                  have Y7 := Lib.hid (bx_keep Y5.out hb7)
                  have hx8 : x < 8192 := bits_lt (m := 12) fun j hj => by have := (RB_sound HZ.out.snd (by rw [HNL.out]; exact hin) ((hx j).1 hj)).2.1; rw [HNL.out] at this; omega
                  have hz8 : Z A i < 8192 := HZ.out.snd.lt (by rw [HNL.out]; exact hn12) A i
                  have HXX := Lib.hid hx
                  have HSO : Hid (SoundE K wd (orE Z A i x)) := orE_sound HZ.out.snd fun j hj => by
                    obtain ⟨a1, a2, a3⟩ := RB_sound HZ.out.snd (by rw [HNL.out]; exact hin) ((hx j).1 hj)
                    exact ⟨a1, a2, lang_rule HMEM.out HAL.out (by rw [HRT.out]; exact a3)⟩
                  have c0 := HHEAD.out w7 Z HZ7.out
                  have c1 : w7.cell? ⟨ra, i, none⟩ = some (.int .u32 (Z A i : Int)) := by rw [← HRA.out]; exact HZ7.out.tab.cell hAN hiM
                  have f1 : w7.frozen? ⟨ra, i, none⟩ = false := by rw [← HRA.out]; exact HZ7.out.tab.free hAN i
                  have HST : Hid (EI K wd w H bt N M rb (orE Z A i x) G (w7.setCell ⟨ra, i, none⟩ (.int .u32 ((Z A i ||| x : Nat) : Int)))) := by
                    rw [← HRA.out]; exact HZ7.out.set hAN hiM HSO.out
                  have hz12 : Z A i < 4294967296 := by omega
                  have hx12 : x < 4294967296 := by omega
                  have hor : bits BinOp.or IntKind.u32 (Z A i : Int) (x : Int) = ((Z A i ||| x : Nat) : Int) := u32_or_nat _ _ hz12 hx12
                  have han : bits BinOp.andNot IntKind.u32 (x : Int) (Z A i : Int) = ((x &&& (4294967295 - Z A i) : Nat) : Int) := u32_andNot_nat _ _ hx12 hz12
                  have HMUZ : Hid (muE Z N M ≤ mu) := by
                    show muE Z N M ≤ mu
                    cases c with
                    | true => exact Nat.le_of_lt (HMZ.out rfl)
                    | false =>
                      obtain ⟨e1, e2, _⟩ := HCZ.out rfl
                      rw [e2, (HC.out e1).1, HMU.out]; exact Nat.le_refl _
                  have HLT : Hid (x &&& (4294967295 - Z A i) ≠ 0 → muE (orE Z A i x) N M < mu) := fun h => Nat.lt_of_lt_of_le (muE_or hAN hiM (or_lt hx12 hz12 h) (Nat.or_lt_two_pow (n := 13) hz8 hx8)) HMUZ.out
                  have HCL : Hid (x &&& (4294967295 - Z A i) = 0 → c = false → b = false ∧ Z = Y ∧ ∀ l, l < i + 1 → ClAt wd E r l) := by
                    intro h e
                    obtain ⟨h1, h2, h3⟩ := HCZ.out e
                    refine ⟨h1, h2, fun l hl => ?_⟩
                    by_cases el : l = i
                    · subst el
                      intro j hj
                      have hZE : Z = E := h2.trans (HC.out h1).1
                      rw [← hZE, HRT.out] at hj
                      have := andNot_zero hx12 hz12 h j ((HXX.out j).2 hj)
                      rw [← hZE, HAL.out]
                      simpa using this
                    · exact h3 l (by omega)
                  obtain ⟨zz, HZZ⟩ := nameIt (Z A i)
                  rw [HZZ.out] at c1 HST hor han HLT HCL
                  obtain ⟨z2, HZ2⟩ := nameIt (zz ||| x)
                  rw [HZ2.out] at HST hor
                  obtain ⟨z3, HZ3⟩ := nameIt (x &&& (4294967295 - zz))
                  rw [HZ3.out] at han HLT HCL
                  obtain ⟨y0', y1'⟩ := bx_cells2 Y7.out
                  have hgr : ¬ ra = gb := by omega
                  have hrg : ¬ gb = ra := by omega
                  have Y8 : Hid ((w7.setCell ⟨ra, i, none⟩ (.int .u32 (z2 : Int))).heap[gb]? = some (.cells #[.int .i64 (A : Int), .slice sa rn sc] 32 (0, 0))) := bx_other Y7.out (show gb ≠ ra from hrg) _ _
                  clear hx y0 y1 hb7 HRE hx8 hz8
                  by_cases h0 : z3 = 0
                  · have HCN := Lib.hid (HCL.out h0)
                    subst h0
                    go_wp2_with fail
                    go_roundg (M - (i + 1))
                    case measure => omega
                    case rel => exact ⟨i + 1, Z, c, by omega, by omega, rfl, by go_num, HZ7, HCN, HMZ, Y7⟩
                  · have h0' : ((z3 : Int) != 0) = true := by simpa using h0
                    have HLN : Hid (muE (orE Z A i x) N M < mu) := HLT.out h0
                    go_wp2_with fail
                    go_roundg (M - (i + 1))
                    case measure => omega
                    case rel => exact ⟨i + 1, orE Z A i x, true, by omega, by omega, rfl, by go_num, HST, (fun e => by cases e), (fun _ => HLN.out), Y8⟩
                · have hiM' : ¬ (i : Int) < (M : Int) := by omega
                  have HCN : Hid (c = false → Z = E ∧ ClTo K wd E (q + 1)) := by
                    intro e
                    obtain ⟨h1, h2, h3⟩ := HCZ.out e
                    obtain ⟨h4, h5⟩ := HC.out h1
                    exact ⟨h2.trans h4, HNX.out h5 fun l hl => h3 l (by have := HM.out; omega)⟩
                  go_wp2_with fail
                  go_roundg (kl - (q + 1))
                  case measure => omega
                  case rel => exact ⟨q + 1, Z, c, by omega, by omega, rfl, by go_num, HZ, HCN, HMZ⟩
            · have hlt' : ¬ (q : Int) < (kl : Int) := by omega
              have HCE : Hid (b = false → ClosedE K wd Y) := by
                intro e
                obtain ⟨h1, h2⟩ := HC.out e
                rw [h1]
                exact clTo_end (by rw [HKL.out]; omega) h2
              have HMM : Hid (b = true → muE Y N M + 1 ≤ mu) := HMB.out
              go_wp2_with fail
              go_roundg mu
              case measure => omega
              case rel => exact ⟨b, Y, rfl, HMM.out, HE, HCE⟩
end Lg
end Go.Proofs.YthnkgmlhpefldaaDoor
namespace Go.Proofs.YthnkgmlhpefldaaDoor
open Go.RowKit

/-- a condition of numbers, as a function value -/
def PredAt (g : Nat) (lb : Array Value) (l : List Int) (p : Int → Bool) (w : World) : Prop :=
  ∀ (W : World) (x : Int), x ∈ l → Below w.heap.size w W → Calls Tryd.prog g (#[.int .i64 x] ++ lb) W fun e w' => e = .returned (.bool (p x)) ∧ Below W.heap.size W w'
def idxBy (p : Int → Bool) (l : List Int) : Int := if l.any p then (l.findIdx p : Int) else -1
theorem idxBy_hit {p : Int → Bool} {l : List Int} {i : Nat} (hi : i < l.length) (h : p l[i] = true) (hn : ∀ j (h : j < l.length), j < i → p l[j] = false) : idxBy p l = i := by
  have h1 : l.any p = true := List.any_eq_true.2 ⟨l[i], List.getElem_mem hi, h⟩
  rw [idxBy, if_pos h1]
  have : l.findIdx p = i := by
    rw [List.findIdx_eq hi]
    exact ⟨h, fun j hj => by simp [hn j (by omega) hj]⟩
  rw [this]
theorem idxBy_none {p : Int → Bool} {l : List Int} (hn : ∀ j (h : j < l.length), p l[j] = false) : idxBy p l = -1 := by
  have h1 : l.any p = false := by
    rw [List.any_eq_false]
    intro x hx
    obtain ⟨j, hj, rfl⟩ := List.getElem_of_mem hx
    simp [hn j hj]
  rw [idxBy, if_neg (by simp [h1])]
theorem idxBy_ge (p : Int → Bool) (l : List Int) : decide (0 ≤ idxBy p l) = l.any p := by
  unfold idxBy
  cases h : l.any p <;> simp [h]

set_option maxHeartbeats 1000000 in
theorem indexFunc (g : Nat) (lb : Array Value) (p : Int → Bool) (a : Option Addr) (cap : Nat) (l : List Int) (w : World) (eg : ∀ args w, (callFunc g args).run Tryd.prog w = .ok (.enter g args) w)
    (hf : PredAt g lb l p w) (hl : Sl w (.slice a l.length cap) (ints l)) :
    Calls Tryd.prog 36 #[.slice a l.length cap, .func (.func g) #[] lb] w fun e w' => e = .returned (.int .i64 (idxBy p l)) ∧ Below w.heap.size w w' := by
  have HL := Lib.hid hl
  have HF := Lib.hid hf
  have hc := hl.len.2
  unfold maxLen at hc
  obtain ⟨hc1, hc2⟩ := hc
  clear hl hf
  go_enter Tryd.func36, Tryd.ntmps36
  go_wp2
  go_loopg [8] l.length (fun gg v8 wr => ∃ i : Nat, i ≤ l.length ∧ l.length - i ≤ gg ∧ v8 = .int .i64 i ∧ Hid (Below w.heap.size w wr) ∧ Hid (∀ j (h : j < l.length), j < i → p l[j] = false))
  case atStart => exact ⟨0, by omega, by omega, rfl, Below.refl _ _, fun j _ hj => by omega⟩
  case round =>
    obtain ⟨i, hi, hg, rfl, HB, HN⟩ := hrel
    by_cases hlt : i < l.length
    · have hlt' : (i : Int) < (l.length : Int) := by omega
      obtain ⟨ba, oa, hae, hca⟩ := (HL.out.keep HB.out).at hlt
      have c1 := hca i (by rw [ints_len]; exact hlt)
      rw [ints_get] at c1
      obtain ⟨x, HX⟩ := nameIt (l[i]'hlt)
      rw [HX.out] at c1
      subst hae
      clear hca
      go_wp2_with fail
      refine (HF.out _ x (by rw [← HX.out]; exact List.getElem_mem hlt) HB.out).mono ?_
      rintro e w6 ⟨rfl, hb6⟩
      have HB6 := Lib.hid (HB.out.trans (hb6.mono HB.out.size))
      clear hb6 c1
      cases hp : p x with
      | true =>
        have HE : Hid (idxBy p l = i) := idxBy_hit hlt (by rw [HX.out]; exact hp) HN.out
        clear hp
        go_wp2
        go_ret
        exact ⟨by rw [HE.out]; rfl, HB6.out⟩
      | false =>
        have HN2 : Hid (∀ j (h : j < l.length), j < i + 1 → p l[j] = false) := by
          intro j h hj
          by_cases e : j = i
          · subst e; rw [HX.out]; exact hp
          · exact HN.out j h (by omega)
        clear hp
        go_wp2
        go_roundg (l.length - (i + 1))
        case measure => omega
        case rel => exact ⟨i + 1, by omega, by omega, by go_num, HB6, HN2⟩
    · have hlt' : ¬ (i : Int) < (l.length : Int) := by omega
      have HE : Hid (idxBy p l = -1) := idxBy_none fun j hj => HN.out j hj (by omega)
      go_wp2
      go_ret
      exact ⟨by rw [HE.out]; rfl, HB.out⟩

set_option maxHeartbeats 1000000 in
theorem containsFunc (g : Nat) (lb : Array Value) (p : Int → Bool) (a : Option Addr) (cap : Nat) (l : List Int) (w : World) (eg : ∀ args w, (callFunc g args).run Tryd.prog w = .ok (.enter g args) w)
    (hf : PredAt g lb l p w) (hl : Sl w (.slice a l.length cap) (ints l)) :
    Calls Tryd.prog 28 #[.slice a l.length cap, .func (.func g) #[] lb] w fun e w' => e = .returned (.bool (l.any p)) ∧ Below w.heap.size w w' := by
  have HL := Lib.hid hl
  have HF := Lib.hid hf
  have HG := Lib.hid eg
  clear hl hf eg
  go_enter Tryd.func28, Tryd.ntmps28
  go_wp2_with fail
  refine (indexFunc g lb p a cap l w HG.out HF.out HL.out).mono ?_
  rintro e w1 ⟨rfl, hb⟩
  have HB := Lib.hid hb
  clear hb
  go_wp2
  go_ret
  exact ⟨by rw [idxBy_ge]; rfl, HB.out⟩

end Go.Proofs.YthnkgmlhpefldaaDoor
namespace Go.Proofs.YthnkgmlhpefldaaDoor
open Go.RowKit

def idxG {α : Type} (p : α → Bool) (l : List α) : Int := if l.any p then (l.findIdx p : Int) else -1
theorem idxG_hit {α : Type} {p : α → Bool} {l : List α} {i : Nat} (hi : i < l.length) (h : p l[i] = true) (hn : ∀ j (h : j < l.length), j < i → p l[j] = false) : idxG p l = i := by
  have h1 : l.any p = true := List.any_eq_true.2 ⟨l[i], List.getElem_mem hi, h⟩
  rw [idxG, if_pos h1]
  have : l.findIdx p = i := by
    rw [List.findIdx_eq hi]
    exact ⟨h, fun j hj => by simp [hn j (by omega) hj]⟩
  rw [this]
theorem idxG_none {α : Type} {p : α → Bool} {l : List α} (hn : ∀ j (h : j < l.length), p l[j] = false) : idxG p l = -1 := by
  have h1 : l.any p = false := by
    rw [List.any_eq_false]
    intro x hx
    obtain ⟨j, hj, rfl⟩ := List.getElem_of_mem hx
    simp [hn j hj]
  rw [idxG, if_neg (by simp [h1])]
theorem idxG_ge {α : Type} (p : α → Bool) (l : List α) : decide (0 ≤ idxG p l) = l.any p := by
  unfold idxG
  cases h : l.any p <;> simp [h]

def PredSym (g : Nat) (lb : Array Value) (l : List Sym) (p : Sym → Bool) (w : World) : Prop :=
  ∀ (W : World) (x : Sym), x ∈ l → Below w.heap.size w W → Calls Tryd.prog g (#[.agg #[.bool x.term, .int .i64 x.n]] ++ lb) W fun e w' => e = .returned (.bool (p x)) ∧ Below W.heap.size W w'
def PredRule (g : Nat) (lb : Array Value) (l : List Rule) (p : Rule → Bool) (w : World) : Prop :=
  ∀ (W : World) (x : Rule) (v : Value), x ∈ l → Below w.heap.size w W → Rd AnyB W (.sl (x.right.map Sym.d)) [v] → Calls Tryd.prog g (#[.agg #[.int .i64 x.left, v]] ++ lb) W fun e w' => e = .returned (.bool (p x)) ∧ Below W.heap.size W w'

set_option maxHeartbeats 1000000 in
theorem indexFuncSym (g : Nat) (lb : Array Value) (p : Sym → Bool) (a : Option Addr) (cap : Nat) (l : List Sym) (w : World) (eg : ∀ args w, (callFunc g args).run Tryd.prog w = .ok (.enter g args) w)
    (hf : PredSym g lb l p w) (hl : Rd AnyB w (.sl (l.map Sym.d)) [.slice a l.length cap]) :
    Calls Tryd.prog 50 #[.slice a l.length cap, .func (.func g) #[] lb] w fun e w' => e = .returned (.int .i64 (idxG p l)) ∧ Below w.heap.size w w' := by
  have HL := Lib.hid hl
  have HF := Lib.hid hf
  have hc := hl.bounds.2
  unfold maxLen at hc
  obtain ⟨hc1, hc2⟩ := hc
  clear hl hf
  go_enter Tryd.func50, Tryd.ntmps50
  go_wp2
  go_loopg [8] l.length (fun gg v8 wr => ∃ i : Nat, i ≤ l.length ∧ l.length - i ≤ gg ∧ v8 = .int .i64 i ∧ Hid (Below w.heap.size w wr) ∧ Hid (∀ j (h : j < l.length), j < i → p l[j] = false))
  case atStart => exact ⟨0, by omega, by omega, rfl, Below.refl _ _, fun j _ hj => by omega⟩
  case round =>
    obtain ⟨i, hi, hg, rfl, HB, HN⟩ := hrel
    by_cases hlt : i < l.length
    · have hlt' : (i : Int) < (l.length : Int) := by omega
      obtain ⟨b, off, hae, -, -, c0, c1⟩ := (HL.out.below HB.out).sym_at hlt
      obtain ⟨x, HX⟩ := nameIt (l[i]'hlt)
      rw [HX.out] at c0 c1
      have hcall := HF.out wr x (by rw [← HX.out]; exact List.getElem_mem hlt) HB.out
      obtain ⟨q0, HQ0⟩ := nameIt x.term
      obtain ⟨q1, HQ1⟩ := nameIt x.n
      rw [HQ0.out] at c0 hcall
      rw [HQ1.out] at c1 hcall
      have HC := Lib.hid hcall
      clear hcall
      subst hae
      go_wp2_with fail
      refine HC.out.mono ?_
      rintro e w6 ⟨rfl, hb6⟩
      have HB6 := Lib.hid (HB.out.trans (hb6.mono HB.out.size))
      clear hb6 c0 c1
      cases hp : p x with
      | true =>
        have HE : Hid (idxG p l = i) := idxG_hit hlt (by rw [HX.out]; exact hp) HN.out
        clear hp
        go_wp2
        go_ret
        exact ⟨by rw [HE.out]; rfl, HB6.out⟩
      | false =>
        have HN2 : Hid (∀ j (h : j < l.length), j < i + 1 → p l[j] = false) := by
          intro j h hj
          by_cases e : j = i
          · subst e; rw [HX.out]; exact hp
          · exact HN.out j h (by omega)
        clear hp
        go_wp2
        go_roundg (l.length - (i + 1))
        case measure => omega
        case rel => exact ⟨i + 1, by omega, by omega, by go_num, HB6, HN2⟩
    · have hlt' : ¬ (i : Int) < (l.length : Int) := by omega
      have HE : Hid (idxG p l = -1) := idxG_none fun j hj => HN.out j hj (by omega)
      go_wp2
      go_ret
      exact ⟨by rw [HE.out]; rfl, HB.out⟩

set_option maxHeartbeats 1000000 in
theorem containsFuncSym (g : Nat) (lb : Array Value) (p : Sym → Bool) (a : Option Addr) (cap : Nat) (l : List Sym) (w : World) (eg : ∀ args w, (callFunc g args).run Tryd.prog w = .ok (.enter g args) w)
    (hf : PredSym g lb l p w) (hl : Rd AnyB w (.sl (l.map Sym.d)) [.slice a l.length cap]) :
    Calls Tryd.prog 42 #[.slice a l.length cap, .func (.func g) #[] lb] w fun e w' => e = .returned (.bool (l.any p)) ∧ Below w.heap.size w w' := by
  have HL := Lib.hid hl
  have HF := Lib.hid hf
  have HG := Lib.hid eg
  clear hl hf eg
  go_enter Tryd.func42, Tryd.ntmps42
  go_wp2_with fail
  refine (indexFuncSym g lb p a cap l w HG.out HF.out HL.out).mono ?_
  rintro e w1 ⟨rfl, hb⟩
  have HB := Lib.hid hb
  clear hb
  go_wp2
  go_ret
  exact ⟨by rw [idxG_ge]; rfl, HB.out⟩

set_option maxHeartbeats 1000000 in
theorem indexFuncRule (g : Nat) (lb : Array Value) (p : Rule → Bool) (a : Option Addr) (cap : Nat) (l : List Rule) (w : World) (eg : ∀ args w, (callFunc g args).run Tryd.prog w = .ok (.enter g args) w)
    (hf : PredRule g lb l p w) (hl : Rd AnyB w (.sl (l.map Rule.d)) [.slice a l.length cap]) :
    Calls Tryd.prog 51 #[.slice a l.length cap, .func (.func g) #[] lb] w fun e w' => e = .returned (.int .i64 (idxG p l)) ∧ Below w.heap.size w w' := by
  have HL := Lib.hid hl
  have HF := Lib.hid hf
  have hc := hl.bounds.2
  unfold maxLen at hc
  obtain ⟨hc1, hc2⟩ := hc
  clear hl hf
  go_enter Tryd.func51, Tryd.ntmps51
  go_wp2
  go_loopg [8] l.length (fun gg v8 wr => ∃ i : Nat, i ≤ l.length ∧ l.length - i ≤ gg ∧ v8 = .int .i64 i ∧ Hid (Below w.heap.size w wr) ∧ Hid (∀ j (h : j < l.length), j < i → p l[j] = false))
  case atStart => exact ⟨0, by omega, by omega, rfl, Below.refl _ _, fun j _ hj => by omega⟩
  case round =>
    obtain ⟨i, hi, hg, rfl, HB, HN⟩ := hrel
    by_cases hlt : i < l.length
    · have hlt' : (i : Int) < (l.length : Int) := by omega
      obtain ⟨b, off, vr, hae, -, -, c0, c1, hkr⟩ := (HL.out.below HB.out).rule_at hlt
      obtain ⟨ar, cr, rfl, -, -⟩ := hkr.form
      rw [List.length_map] at c1 hkr
      obtain ⟨x, HX⟩ := nameIt (l[i]'hlt)
      rw [HX.out] at c0 c1 hkr
      have hcall := HF.out wr x _ (by rw [← HX.out]; exact List.getElem_mem hlt) HB.out hkr
      obtain ⟨q0, HQ0⟩ := nameIt x.left
      obtain ⟨q1, HQ1⟩ := nameIt x.right.length
      rw [HQ0.out] at c0 hcall
      rw [HQ1.out] at c1 hcall
      have HC := Lib.hid hcall
      clear hcall hkr
      subst hae
      go_wp2_with fail
      refine HC.out.mono ?_
      rintro e w6 ⟨rfl, hb6⟩
      have HB6 := Lib.hid (HB.out.trans (hb6.mono HB.out.size))
      clear hb6 c0 c1
      cases hp : p x with
      | true =>
        have HE : Hid (idxG p l = i) := idxG_hit hlt (by rw [HX.out]; exact hp) HN.out
        clear hp
        go_wp2
        go_ret
        exact ⟨by rw [HE.out]; rfl, HB6.out⟩
      | false =>
        have HN2 : Hid (∀ j (h : j < l.length), j < i + 1 → p l[j] = false) := by
          intro j h hj
          by_cases e : j = i
          · subst e; rw [HX.out]; exact hp
          · exact HN.out j h (by omega)
        clear hp
        go_wp2
        go_roundg (l.length - (i + 1))
        case measure => omega
        case rel => exact ⟨i + 1, by omega, by omega, by go_num, HB6, HN2⟩
    · have hlt' : ¬ (i : Int) < (l.length : Int) := by omega
      have HE : Hid (idxG p l = -1) := idxG_none fun j hj => HN.out j hj (by omega)
      go_wp2
      go_ret
      exact ⟨by rw [HE.out]; rfl, HB.out⟩

set_option maxHeartbeats 1000000 in
theorem containsFuncRule (g : Nat) (lb : Array Value) (p : Rule → Bool) (a : Option Addr) (cap : Nat) (l : List Rule) (w : World) (eg : ∀ args w, (callFunc g args).run Tryd.prog w = .ok (.enter g args) w)
    (hf : PredRule g lb l p w) (hl : Rd AnyB w (.sl (l.map Rule.d)) [.slice a l.length cap]) :
    Calls Tryd.prog 45 #[.slice a l.length cap, .func (.func g) #[] lb] w fun e w' => e = .returned (.bool (l.any p)) ∧ Below w.heap.size w w' := by
  have HL := Lib.hid hl
  have HF := Lib.hid hf
  have HG := Lib.hid eg
  clear hl hf eg
  go_enter Tryd.func45, Tryd.ntmps45
  go_wp2_with fail
  refine (indexFuncRule g lb p a cap l w HG.out HF.out HL.out).mono ?_
  rintro e w1 ⟨rfl, hb⟩
  have HB := Lib.hid hb
  clear hb
  go_wp2
  go_ret
  exact ⟨by rw [idxG_ge]; rfl, HB.out⟩

set_option maxHeartbeats 1000000 in
theorem orderS (x y : Sym) (w : World) : Calls Tryd.prog 55 #[.agg #[.bool x.term, .int .i64 x.n], .agg #[.bool y.term, .int .i64 y.n]] w fun e w' => e = .returned (.int .i64 (ordS x y)) ∧ Below w.heap.size w w' := by
  obtain ⟨x0, x1⟩ := x
  obtain ⟨y0, y1⟩ := y
  dsimp only
  cases x0 <;> cases y0
  · have HC := Lib.hid (fun W => compareInt x1 y1 W)
    have HO : Hid (ordS ⟨false, x1⟩ ⟨false, y1⟩ = cmp3 x1 y1) := by show _ = _; simp [ordS]
    go_enter Tryd.func55, Tryd.ntmps55
    go_wp2_with fail
    refine (HC.out _).mono ?_
    rintro e w' ⟨rfl, rfl⟩
    go_wp2_with fail
    go_ret
    exact ⟨by rw [HO.out]; rfl, ((Below.refl _ _).alloc (Nat.le_refl _) _).alloc (by simp) _⟩
  · have HO : Hid (ordS ⟨false, x1⟩ ⟨true, y1⟩ = 1) := by show _ = _; simp [ordS]
    go_enter Tryd.func55, Tryd.ntmps55
    go_wp2_with fail
    go_ret
    exact ⟨by rw [HO.out]; rfl, ((Below.refl _ _).alloc (Nat.le_refl _) _).alloc (by simp) _⟩
  · have HO : Hid (ordS ⟨true, x1⟩ ⟨false, y1⟩ = -1) := by show _ = _; simp [ordS]
    go_enter Tryd.func55, Tryd.ntmps55
    go_wp2_with fail
    go_ret
    exact ⟨by rw [HO.out]; rfl, ((Below.refl _ _).alloc (Nat.le_refl _) _).alloc (by simp) _⟩
  · have HC := Lib.hid (fun W => compareInt x1 y1 W)
    have HO : Hid (ordS ⟨true, x1⟩ ⟨true, y1⟩ = cmp3 x1 y1) := by show _ = _; simp [ordS]
    go_enter Tryd.func55, Tryd.ntmps55
    go_wp2_with fail
    refine (HC.out _).mono ?_
    rintro e w' ⟨rfl, rfl⟩
    go_wp2_with fail
    go_ret
    exact ⟨by rw [HO.out]; rfl, ((Below.refl _ _).alloc (Nat.le_refl _) _).alloc (by simp) _⟩

theorem cmpS_at {l m : List Sym} {i : Nat} (h : i < l.length) (h2 : i < m.length) : cmpS (l.drop i) (m.drop i) = if ordS l[i] m[i] = 0 then cmpS (l.drop (i + 1)) (m.drop (i + 1)) else ordS l[i] m[i] := by
  rw [List.drop_eq_getElem_cons h, List.drop_eq_getElem_cons h2, cmpS]
theorem cmpS_long {l m : List Sym} {i : Nat} (h : i < l.length) (h2 : m.length ≤ i) : cmpS (l.drop i) (m.drop i) = 1 := by
  rw [List.drop_eq_getElem_cons h, List.drop_of_length_le h2, cmpS]
theorem cmpS_short {l m : List Sym} {i : Nat} (h : l.length ≤ i) (h2 : i < m.length) : cmpS (l.drop i) (m.drop i) = -1 := by
  rw [List.drop_eq_getElem_cons h2, List.drop_of_length_le h, cmpS]
theorem cmpS_end {l m : List Sym} {i : Nat} (h : l.length ≤ i) (h2 : m.length ≤ i) : cmpS (l.drop i) (m.drop i) = 0 := by
  rw [List.drop_of_length_le h2, List.drop_of_length_le h, cmpS]

set_option maxHeartbeats 1000000 in
theorem compareSyms (a a' : Option Addr) (cap cap' : Nat) (l m : List Sym) (w : World) (hl : Rd AnyB w (.sl (l.map Sym.d)) [.slice a l.length cap]) (hm : Rd AnyB w (.sl (m.map Sym.d)) [.slice a' m.length cap']) :
    Calls Tryd.prog 54 #[.slice a l.length cap, .slice a' m.length cap', .func (.func 55) #[] #[]] w fun e w' => e = .returned (.int .i64 (cmpS l m)) ∧ Below w.heap.size w w' := by
  have HL := Lib.hid hl
  have HM := Lib.hid hm
  have hc := hl.bounds.2
  have hc' := hm.bounds.2
  unfold maxLen at hc hc'
  obtain ⟨hc1, hc2⟩ := hc
  obtain ⟨hc3, hc4⟩ := hc'
  clear hl hm
  go_enter Tryd.func54, Tryd.ntmps54
  go_wp2_with fail
  go_loopg [13] l.length (fun gg v13 wr => ∃ i : Nat, i ≤ l.length ∧ l.length - i ≤ gg ∧ v13 = .int .i64 i ∧ Hid (Below w.heap.size w wr) ∧ Hid (cmpS (l.drop i) (m.drop i) = cmpS l m))
  case atStart => exact ⟨0, by omega, by omega, rfl, Below.refl _ _, rfl⟩
  case round =>
    obtain ⟨i, hi, hg, rfl, HB, HE⟩ := hrel
    by_cases hlt : i < l.length
    · have hlt' : (i : Int) < (l.length : Int) := by omega
      obtain ⟨b, off, hae, -, -, c0, c1⟩ := (HL.out.below HB.out).sym_at hlt
      by_cases hlt2 : i < m.length
      · have hlt2' : (i : Int) < (m.length : Int) := by omega
        obtain ⟨b', off', hae', -, -, d0, d1⟩ := (HM.out.below HB.out).sym_at hlt2
        have h1 := HE.out
        rw [cmpS_at hlt hlt2] at h1
        obtain ⟨x, HX⟩ := nameIt (l[i]'hlt)
        obtain ⟨y, HY⟩ := nameIt (m[i]'hlt2)
        rw [HX.out] at c0 c1 h1
        rw [HY.out] at d0 d1 h1
        have hcall := fun W => orderS x y W
        obtain ⟨c, HC⟩ := nameIt (ordS x y)
        obtain ⟨q0, HQ0⟩ := nameIt x.term
        obtain ⟨q1, HQ1⟩ := nameIt x.n
        obtain ⟨p0, HP0⟩ := nameIt y.term
        obtain ⟨p1, HP1⟩ := nameIt y.n
        rw [HC.out] at h1 hcall
        rw [HQ0.out] at c0 hcall
        rw [HQ1.out] at c1 hcall
        rw [HP0.out] at d0 hcall
        rw [HP1.out] at d1 hcall
        have H1 := Lib.hid h1
        have HCA := Lib.hid hcall
        have hne := lt_of_cell d0
        subst hae hae'
        clear h1 hcall
        have hbb := ((Below.refl wr.heap.size wr).alloc (Nat.le_refl _) (.cells #[.bool q0, .int .i64 q1] 44)).alloc (by simp) (.cells #[.bool p0, .int .i64 p1] 44)
        have HBB := Lib.hid (HB.out.trans (hbb.mono HB.out.size))
        clear hbb
        go_wp2_with fail
        refine (HCA.out _).mono ?_
        rintro e w6 ⟨rfl, hb6⟩
        have HB6 := Lib.hid (HBB.out.trans (hb6.mono HBB.out.size))
        clear hb6 c0 c1 d0 d1
        by_cases h0 : c = 0
        · subst h0
          have h2 := H1.out
          rw [if_pos rfl] at h2
          have HE2 := Lib.hid h2
          clear h2
          go_wp2_with fail
          go_roundg (l.length - (i + 1))
          case measure => omega
          case rel => exact ⟨i + 1, by omega, by omega, by go_num, HB6, HE2⟩
        · have h2 := H1.out
          rw [if_neg h0] at h2
          have HE2 := Lib.hid h2
          have hcb : (c != 0) = true := by simpa using h0
          clear h2 h0
          go_wp2_with fail
          go_ret
          exact ⟨by rw [← HE2.out]; rfl, HB6.out⟩
      · have hlt2' : (m.length : Int) ≤ (i : Int) := by omega
        have HE2 : Hid (cmpS l m = 1) := by show _ = _; rw [← HE.out]; exact cmpS_long hlt (by omega)
        subst hae
        go_wp2_with fail
        go_ret
        exact ⟨by rw [HE2.out]; rfl, HB.out.alloc HB.out.size _⟩
    · have hlt' : ¬ (i : Int) < (l.length : Int) := by omega
      by_cases hlt2 : l.length < m.length
      · have HE2 : Hid (cmpS l m = -1) := by show _ = _; rw [← HE.out]; exact cmpS_short (by omega) (by omega)
        have hlt3 : (l.length : Int) < (m.length : Int) := by omega
        go_wp2_with fail
        go_ret
        exact ⟨by rw [HE2.out]; rfl, HB.out⟩
      · have HE2 : Hid (cmpS l m = 0) := by show _ = _; rw [← HE.out]; exact cmpS_end (by omega) (by omega)
        have hlt3 : ¬ (l.length : Int) < (m.length : Int) := by omega
        go_wp2_with fail
        go_ret
        exact ⟨by rw [HE2.out]; rfl, HB.out⟩
end Go.Proofs.YthnkgmlhpefldaaDoor
