/- Tables in memory whose rows were appended; the contracts of census.table. The contracts of tree.kids and tree.walk. The contracts of gram.CopyTree and tree.Clone. The contracts of Below and tree.At. The contract of tree.At. Trees with one subtree put in another's place: the words. Which trees are valid, in plain Lean: two ways to say it. Smaller trees, in plain Lean: two ways to list them, and that they agree. The contract of tree.Size. -/
import Derived.Test.YtbnpemgmdnghgaaJCensusTellsRow2
import Derived.Deep.LoopGhost
import Derived.Deep.DeepCutAuto
import Derived.Test.YtbnpemgmdnghgaaJCensusTellsRow1
import Derived.Deep.Cut
import Derived.Shelf.Abstract
import Derived.Deep.RegionHeld3
import Derived.StillTailTactics
namespace Go.Proofs.Ytbnpemgmdnghgaa
open Go.RowKit
namespace Cs

/-- a table of N rows of M one-cell values; all of it in blocks from lo on, below hi -/
structure Tb (te : TypeId) (lo hi bt N M : Nat) (rb : Nat → Nat) (val : Nat → Nat → Value) (W : World) : Prop where
  hdr : ∃ cs T, W.heap[bt]? = some (.cells cs T (0, 0)) ∧ ∀ a, a < N → cs[a]? = some (.slice (some ⟨rb a, 0, none⟩) M M)
  row : ∀ a, a < N → ∃ cs, W.heap[rb a]? = some (.cells cs te (0, 0)) ∧ cs.size = M ∧ ∀ k, k < M → cs[k]? = some (val a k)
  inj : ∀ a b, a < N → b < N → rb a = rb b → a = b
  ne : ∀ a, a < N → rb a ≠ bt ∧ lo ≤ rb a ∧ rb a < hi
  pl : lo ≤ bt ∧ bt < hi
section
variable {te : TypeId} {lo hi bt N M : Nat} {rb : Nat → Nat} {val : Nat → Nat → Value} {W W' : World}
theorem Tb.other (h : Tb te lo hi bt N M rb val W) (hs : ∀ k, lo ≤ k → k < hi → W'.heap[k]? = W.heap[k]?) : Tb te lo hi bt N M rb val W' := by
  obtain ⟨⟨cs, T, h1, h2⟩, h3, h4, h5, h6⟩ := h
  refine ⟨⟨cs, T, by rw [hs bt h6.1 h6.2]; exact h1, h2⟩, fun a ha => ?_, h4, h5, h6⟩
  obtain ⟨rs, r1, r2⟩ := h3 a ha
  exact ⟨rs, by rw [hs _ (h5 a ha).2.1 (h5 a ha).2.2]; exact r1, r2⟩
theorem Tb.keep (h : Tb te lo hi bt N M rb val W) (hh : hi ≤ W.heap.size) (hb : Below W.heap.size W W') : Tb te lo hi bt N M rb val W' := h.other fun k _ h2 => hb.block k (by omega)
theorem Tb.head (h : Tb te lo hi bt N M rb val W) {a : Nat} (ha : a < N) : W.cell? ⟨bt, a, none⟩ = some (.slice (some ⟨rb a, 0, none⟩) M M) := by
  obtain ⟨cs, T, h1, h2⟩ := h.hdr
  simp [World.cell?, h1, h2 a ha]
theorem Tb.cell (h : Tb te lo hi bt N M rb val W) {a k : Nat} (ha : a < N) (hk : k < M) : W.cell? ⟨rb a, k, none⟩ = some (val a k) := by
  obtain ⟨cs, h1, h2, h3⟩ := h.row a ha
  simp [World.cell?, h1, h3 k hk]
theorem Tb.free (h : Tb te lo hi bt N M rb val W) {a : Nat} (ha : a < N) (k : Nat) : W.frozen? ⟨rb a, k, none⟩ = false := by
  obtain ⟨cs, h1, h2, h3⟩ := h.row a ha
  simp [World.frozen?, h1]
theorem Tb.set (h : Tb te lo hi bt N M rb val W) {a k : Nat} (ha : a < N) (hk : k < M) (x : Value) : Tb te lo hi bt N M rb (fun b l => if b = a ∧ l = k then x else val b l) (W.setCell ⟨rb a, k, none⟩ x) := by
  obtain ⟨⟨cs, T, h1, h2⟩, h3, h4, h5, h6⟩ := h
  refine ⟨⟨cs, T, bx_other h1 (fun e => (h5 a ha).1 e.symm) _ _, h2⟩, fun b hb => ?_, h4, h5, h6⟩
  obtain ⟨rs, r1, r2, r3⟩ := h3 b hb
  by_cases e : b = a
  · subst e
    refine ⟨rs.setIfInBounds k x, bx_set r1 _ _, by simpa using r2, fun l hl => ?_⟩
    rw [Array.getElem?_setIfInBounds]
    by_cases e2 : k = l
    · subst e2
      rw [if_pos rfl, if_pos (by omega)]; simp
    · rw [if_neg e2, r3 l hl]
      simp [show ¬ l = k from fun h => e2 h.symm]
  · refine ⟨rs, bx_other r1 (fun e2 => e (h4 b a hb ha e2)) _ _, r2, fun l hl => ?_⟩
    rw [r3 l hl]; simp [e]
theorem Tb.eq {val' : Nat → Nat → Value} (h : Tb te lo hi bt N M rb val W) (he : ∀ a k, a < N → k < M → val a k = val' a k) : Tb te lo hi bt N M rb val' W := by
  obtain ⟨h1, h3, h4, h5, h6⟩ := h
  refine ⟨h1, fun a ha => ?_, h4, h5, h6⟩
  obtain ⟨rs, r1, r2, r3⟩ := h3 a ha
  exact ⟨rs, r1, r2, fun k hk => by rw [r3 k hk, he a k ha hk]⟩
theorem Tb.wide {lo' hi' : Nat} (h : Tb te lo hi bt N M rb val W) (h1 : lo' ≤ lo) (h2 : hi ≤ hi') : Tb te lo' hi' bt N M rb val W :=
  ⟨h.hdr, h.row, h.inj, fun a ha => ⟨(h.ne a ha).1, Nat.le_trans h1 (h.ne a ha).2.1, Nat.lt_of_lt_of_le (h.ne a ha).2.2 h2⟩, Nat.le_trans h1 h.pl.1, Nat.lt_of_lt_of_le h.pl.2 h2⟩
end
/-- while it is made: the rows so far, their headers in a row of the call's own -/
structure TbI (te tr : TypeId) (B M : Nat) (x : Value) (L : List Nat) (v : Value) (W : World) : Prop where
  own : W.ownsRow B tr 1 v L.length (L.map fun b => .slice (some ⟨b, 0, none⟩) M M)
  rows : ∀ b ∈ L, B ≤ b ∧ b < W.heap.size ∧ v.ownBlock ≠ some b ∧ ∃ cs, W.heap[b]? = some (.cells cs te (0, 0)) ∧ cs.size = M ∧ ∀ k, k < M → cs[k]? = some x
  nd : L.Nodup
  le : B ≤ W.heap.size
section
variable {te tr : TypeId} {B M : Nat} {x : Value} {L : List Nat} {v : Value} {W W' : World}
theorem TbI.nil (te tr : TypeId) (B M : Nat) (x : Value) (W : World) (h : B ≤ W.heap.size) : TbI te tr B M x [] (.slice none 0 0) W := ⟨World.ownsRow_nil _ _ _ _, (fun b hb => by cases hb), List.nodup_nil, h⟩
theorem TbI.keep (h : TbI te tr B M x L v W) (hb : Below W.heap.size W W') : TbI te tr B M x L v W' := by
  obtain ⟨h1, h2, h3, h4⟩ := h
  refine ⟨own_keep h1 hb, fun b hb' => ?_, h3, Nat.le_trans h4 hb.size⟩
  obtain ⟨k1, k2, k3, cs, k4, k5⟩ := h2 b hb'
  exact ⟨k1, Nat.lt_of_lt_of_le k2 hb.size, k3, cs, bx_keep k4 hb, k5⟩
/-- a row is added: it was laid in block g, filled -/
theorem TbI.add {g : Nat} {v' : Value} {cs : Array Value} (h : TbI te tr B M x L v W) (hg : W.heap[g]? = some (.cells cs te (0, 0))) (hc : cs.size = M) (hx : ∀ k, k < M → cs[k]? = some x) (hgB : B ≤ g) (hgv : v.ownBlock ≠ some g) (hgL : g ∉ L)
    (ho : W'.ownsRow B tr 1 v' (L.length + 1) ((L.map fun b => .slice (some ⟨b, 0, none⟩) M M) ++ [.slice (some ⟨g, 0, none⟩) M M])) (hgr : W.grownBy W' v.ownBlock) (hat : v'.ownBlock = v.ownBlock ∨ ∃ k, v'.ownBlock = some k ∧ W.heap.size ≤ k) : TbI te tr B M x (L ++ [g]) v' W' := by
  obtain ⟨h1, h2, h3, h4⟩ := h
  have hv' : ∀ b, b < W.heap.size → v.ownBlock ≠ some b → v'.ownBlock ≠ some b := by
    intro b hb hv
    rcases hat with e | ⟨j, e, hj⟩
    · rw [e]; exact hv
    · rw [e]; intro e; cases e; omega
  have hgl := (Array.getElem?_eq_some_iff.1 hg).1
  refine ⟨by rw [List.length_append, List.map_append]; exact ho, fun b hb => ?_, ?_, Nat.le_trans h4 hgr.size⟩
  · rcases List.mem_append.1 hb with hb | hb
    · obtain ⟨k1, k2, k3, cs', k4, k5⟩ := h2 b hb
      exact ⟨k1, Nat.lt_of_lt_of_le k2 hgr.size, hv' b k2 k3, cs', (hgr.block b k2 (fun e => k3 e.symm)).trans k4, k5⟩
    · rw [List.mem_singleton] at hb
      subst hb
      exact ⟨hgB, Nat.lt_of_lt_of_le hgl hgr.size, hv' b hgl hgv, cs, (hgr.block b hgl (fun e => hgv e.symm)).trans hg, hc, hx⟩
  · rw [List.nodup_append]
    exact ⟨h3, by simp, fun a ha b hb => by rw [List.mem_singleton] at hb; subst hb; exact fun e => hgL (e ▸ ha)⟩
theorem TbI.fin (h : TbI te tr B M x L v W) (h0 : 0 < L.length) : ∃ bt cap, v = .slice (some ⟨bt, 0, none⟩) L.length cap ∧ ∃ rb, Tb te B W.heap.size bt L.length M rb (fun _ _ => x) W := by
  obtain ⟨h1, h2, h3, h4⟩ := h
  obtain ⟨g, cap, rfl, hg1, hg2⟩ := h1.form h0
  refine ⟨g, cap, rfl, fun a => L.getD a 0, ?_⟩
  have hget : ∀ a, a < L.length → L.getD a 0 ∈ L ∧ L[a]? = some (L.getD a 0) := fun a ha => by
    rw [List.getD_eq_getElem?_getD, List.getElem?_eq_getElem ha]
    exact ⟨List.getElem_mem ha, rfl⟩
  refine ⟨?_, fun a ha => ?_, fun a b ha hb e => ?_, fun a ha => ?_, hg1, hg2⟩
  · rcases h1.2 with ⟨h', _⟩ | ⟨g', cap', cur, h', _, hh, _, _, _, htake⟩
    · cases h'
    · cases h'
      refine ⟨cur, tr, hh, fun a ha => ?_⟩
      have e : (L.map fun b => Value.slice (some ⟨b, 0, none⟩) M M)[a]? = some (.slice (some ⟨L.getD a 0, 0, none⟩) M M) := by
        rw [List.getElem?_map, (hget a ha).2]; rfl
      rw [← htake, List.getElem?_take, if_pos (by omega)] at e
      simpa using e
  · obtain ⟨_, _, _, cs, k4, k5, k6⟩ := h2 _ (hget a ha).1
    exact ⟨cs, k4, k5, k6⟩
  · exact (List.getElem?_inj ha h3).1 (by rw [(hget a ha).2, (hget b hb).2, e])
  · obtain ⟨k1, k2, k3, _⟩ := h2 _ (hget a ha).1
    exact ⟨fun e => k3 (by rw [e]; rfl), k1, k2⟩
end
def TablePost (te : TypeId) (N M : Nat) (x : Value) (w : World) (e : Ending) (w' : World) : Prop :=
  ∃ bt cap rb, e = .returned (.slice (some ⟨bt, 0, none⟩) N cap) ∧ Tb te w.heap.size w'.heap.size bt N M rb (fun _ _ => x) w' ∧ Below w.heap.size w w'

theorem elB : ElemT Try.prog 73 51 1 24 := ElemT.mk' (z := .slice none 0 0) (by kernel_rfl) (by kernel_rfl) rfl (by decide)
set_option maxHeartbeats 4000000 in
set_option maxRecDepth 100000 in
theorem tableB (g : Gram) (vr : Value) (N n : Nat) (hN : g.nons = (N : Int)) (h1 : 1 ≤ N) (h2 : N ≤ 1000) (h3 : n ≤ 1000) (xx : Bool) (w : World) :
    Calls Try.prog 52 #[.agg #[.int .i64 g.terms, .int .i64 g.nons, .int .i64 g.start, vr], .int .i64 (n : Int), .bool xx] w (TablePost 4 N (n + 1) (.bool xx) w) := by
  obtain ⟨w0, HW0⟩ := nameIt (w.alloc (.cells #[.int .i64 g.terms, .int .i64 g.nons, .int .i64 g.start, vr] 24))
  have hb0 : Below w.heap.size w w0 := by rw [← HW0.out]; exact (Below.refl _ _).alloc (Nat.le_refl _) _
  have HB0 := Lib.hid hb0
  have X0 : Hid (w0.heap[w.heap.size]? = some (.cells #[.int .i64 g.terms, .int .i64 g.nons, .int .i64 g.start, vr] 24 (0, 0))) := by rw [← HW0.out]; exact bx_new _ _ _ rfl
  obtain ⟨gt, HGT⟩ := nameIt g.terms
  obtain ⟨gs, HGS⟩ := nameIt g.start
  rw [HGT.out, HGS.out, hN] at HW0 X0
  rw [HGT.out, HGS.out, hN]
  obtain ⟨m, HM⟩ := nameIt (n + 1)
  have hm1 : 1 ≤ m := by have := HM.out; omega
  have hm2 : m ≤ 1001 := by have := HM.out; omega
  have HMZ : Hid (((n : Int) + 1) = (m : Int)) := by show _ = _; rw [← HM.out]; omega
  have hwr : IntKind.i64.wrap ((n : Int) + 1) = (m : Int) := by rw [IntWalk.i64_in _ (by omega), HMZ.out]
  have hmk : ∀ W : World, (Instr.makeSlice 51 (.int .i64 (m : Int)) (.int .i64 (m : Int))).run Try.prog W = .ok (.slice (some ⟨W.heap.size, 0, none⟩) m m) (W.alloc (.cells (madeCells #[.bool false] m) 4)) := fun W => by
    have := run_make_row' (P := Try.prog) 51 4 (.bool false) 1 Try.underlying51 (by kernel_rfl) rfl .i64 .i64 m (by omega) (by omega) W
    simpa using this
  have HMK := Lib.hid hmk
  obtain ⟨PST, HP⟩ := nameIt (TablePost 4 N m (.bool xx) w)
  have HFI : Hid (∀ (L : List Nat) v W, L.length = N → TbI 4 51 w0.heap.size m (.bool xx) L v W → Below w0.heap.size w0 W → PST (.returned v) W) := by
    intro L v W hL h hb
    obtain ⟨bt, cap, rfl, rb, ht⟩ := h.fin (by omega)
    rw [← HP.out]
    rw [hL] at ht ⊢
    exact ⟨bt, cap, rb, rfl, ht.wide HB0.out.size (Nat.le_refl _), HB0.out.trans (hb.mono HB0.out.size)⟩
  rw [HM.out, HP.out]
  have HI0 := Lib.hid (TbI.nil 4 51 w0.heap.size m (.bool xx) w0 (Nat.le_refl _))
  obtain ⟨x0, x1, x2, x3⟩ := bx_cells4 X0.out
  clear hb0 hN hmk
  go_enter Try.func52, Try.ntmps52
  go_upto_region 1 with fail
  rw [HW0.out]
  go_wp2_with fail
  clear x0 x1 x2 x3
  go_loopg [7, 12] N (fun gg v7 v12 wr => ∃ (i : Nat) (L : List Nat), i ≤ N ∧ N - i ≤ gg ∧ Hid (L.length = i) ∧ v12 = .int .i64 i ∧ Hid (TbI 4 51 w0.heap.size m (.bool xx) L v7 wr) ∧ Hid (Below w0.heap.size w0 wr))
  case atStart => exact ⟨0, [], by omega, by omega, rfl, rfl, HI0, Below.refl _ _⟩
  case round =>
    clear HI0
    obtain ⟨i, L, hi, hg, HLL, rfl, HI, HB⟩ := hrel
    obtain ⟨w1, rfl⟩ : ∃ ww : World, ww = wr := ⟨_, rfl⟩
    obtain ⟨oa, oc, rfl, hoc, hoc2⟩ := own_len HI.out.own
    have HOWN := Lib.hid HI.out.own
    have HLT : Hid (∀ k, (Value.slice oa L.length oc).ownBlock = some k → k < w1.heap.size) := fun k e => (HI.out.own.lt k e).2
    rw [HLL.out] at HOWN HLT
    rw [HLL.out]
    by_cases hlt : i < N
    · have hlt' : (i : Int) < (N : Int) := by omega
      obtain ⟨w2, HW2⟩ := nameIt (w1.alloc (.cells (madeCells #[.bool false] m) 4))
      have HB12 : Hid (Below w1.heap.size w1 w2) := by rw [← HW2.out]; exact (Below.refl _ _).alloc (Nat.le_refl _) _
      have HX0 : Hid (∃ cs : Array Value, w2.heap[w1.heap.size]? = some (.cells cs 4 (0, 0)) ∧ cs.size = m ∧ ∀ k, k < m → k < 0 → cs[k]? = some (.bool xx)) :=
        ⟨_, by rw [← HW2.out]; exact bx_new _ _ _ rfl, size_madeCells _ _, fun k _ h => absurd h (Nat.not_lt_zero _)⟩
      have hmk := HMK.out
      obtain ⟨gb, HGB⟩ := nameIt w1.heap.size
      rw [HGB.out] at HX0
      go_upto_region 5 with fail
      rw [HW2.out, HGB.out]
      clear hmk
      go_wp2_with fail
      go_loopg [19] m (fun gg v19 wr => ∃ k : Nat, k ≤ m ∧ m - k ≤ gg ∧ v19 = .int .i64 k ∧ Hid (Below w1.heap.size w1 wr) ∧ Hid (∃ cs : Array Value, wr.heap[gb]? = some (.cells cs 4 (0, 0)) ∧ cs.size = m ∧ ∀ l, l < m → l < k → cs[l]? = some (.bool xx)))
      case atStart => exact ⟨0, by omega, by omega, rfl, HB12, HX0⟩
      case round =>
        clear HX0
        obtain ⟨k, hk, hg2, rfl, HBk, HXk⟩ := hrel
        obtain ⟨w3, rfl⟩ : ∃ ww : World, ww = wr := ⟨_, rfl⟩
        obtain ⟨cs, hcs, hsz, hval⟩ := HXk.out
        by_cases hkm : k < m
        · have hkm' : (k : Int) < (m : Int) := by omega
          have hk0 : (0 : Int) ≤ (k : Int) := by omega
          have hc : w3.cell? ⟨gb, k, none⟩ = some (cs[k]'(by omega)) := by simp [World.cell?, hcs]
          have hf : w3.frozen? ⟨gb, k, none⟩ = false := by simp [World.frozen?, hcs]
          obtain ⟨cv, HCV⟩ := nameIt (cs[k]'(by omega))
          rw [HCV.out] at hc
          have HX9 : Hid (∃ cs' : Array Value, (w3.setCell ⟨gb, k, none⟩ (.bool xx)).heap[gb]? = some (.cells cs' 4 (0, 0)) ∧ cs'.size = m ∧ ∀ l, l < m → l < k + 1 → cs'[l]? = some (.bool xx)) := by
            refine ⟨cs.setIfInBounds k (.bool xx), bx_set hcs _ _, by simpa using hsz, fun l hl hlk => ?_⟩
            rw [Array.getElem?_setIfInBounds]
            by_cases e : k = l
            · rw [if_pos e, if_pos (by omega)]
            · rw [if_neg e]; exact hval l hl (by omega)
          have HB9 : Hid (Below w1.heap.size w1 (w3.setCell ⟨gb, k, none⟩ (.bool xx))) := HBk.out.setCell (p := ⟨gb, k, none⟩) (by rw [← HGB.out]; exact Nat.le_refl _) _
          clear hcs hval
          go_wp2_with fail
          go_roundg (m - (k + 1))
          case measure => omega
          case rel => exact ⟨k + 1, by omega, by omega, by go_num, HB9, HX9⟩
        · have hkm' : ¬ (k : Int) < (m : Int) := by omega
          have hkk : k = m := by omega
          have HI3 := Lib.hid (HI.out.keep HBk.out)
          have HO3 := Lib.hid (own_keep HOWN.out HBk.out)
          have hgB : w0.heap.size ≤ gb := by rw [← HGB.out]; exact HB.out.size
          have HGV : Hid ((Value.slice oa i oc).ownBlock ≠ some gb) := fun e => by have := HLT.out gb e; rw [HGB.out] at this; omega
          have HGL : Hid (gb ∉ L) := fun h => by have := (HI.out.rows gb h).2.1; rw [HGB.out] at this; omega
          have HCS : Hid (∃ cs : Array Value, w3.heap[gb]? = some (.cells cs 4 (0, 0)) ∧ cs.size = m ∧ ∀ l, l < m → cs[l]? = some (.bool xx)) := ⟨cs, hcs, hsz, fun l hl => hval l hl (by omega)⟩
          have HB03 : Hid (Below w0.heap.size w0 w3) := HB.out.trans (HBk.out.mono HB.out.size)
          have hiN : i < 1000 := by omega
          clear hcs hsz hval hkk
          go_wp2_with (at_builtin; refine wp_app1at elB rfl _ _ rfl HO3.out rfl rfl rfl rfl rfl (by omega) (by unfold maxLen; omega) HI3.out.le ?_)
          intro v9 w9 ho9 hg9 hat9
          have HI9 : Hid (TbI 4 51 w0.heap.size m (.bool xx) (L ++ [gb]) v9 w9) := by
            obtain ⟨cs', q1, q2, q3⟩ := HCS.out
            have hh := HI3.out
            rw [HLL.out] at hh
            exact hh.add q1 q2 q3 hgB HGV.out HGL.out (by rw [HLL.out]; exact ho9) hg9 hat9
          have HB9 : Hid (Below w0.heap.size w0 w9) := HB03.out.grown hg9 HB03.out.size (fun k e => (HO3.out.lt k e).1)
          clear ho9 hg9 hat9
          go_wp2_with fail
          go_roundg (N - (i + 1))
          case measure => omega
          case rel => exact ⟨i + 1, L ++ [gb], by omega, by omega, by show _ = _; rw [List.length_append, HLL.out]; rfl, by go_num, HI9, HB9⟩
    · have hlt' : ¬ (i : Int) < (N : Int) := by omega
      have hiN : i = N := by omega
      have hfin := HFI.out L _ w1 (HLL.out.trans hiN) HI.out HB.out
      rw [HLL.out] at hfin
      have HF := Lib.hid hfin
      clear hiN hfin
      go_wp2_with fail
      first | exact HF.out | (go_ret; exact HF.out)

theorem elI : ElemT Try.prog 29 33 1 24 := ElemT.mk' (z := .slice none 0 0) (by kernel_rfl) (by kernel_rfl) rfl (by decide)
set_option maxHeartbeats 4000000 in
set_option maxRecDepth 100000 in
theorem tableI (g : Gram) (vr : Value) (N n : Nat) (hN : g.nons = (N : Int)) (h1 : 1 ≤ N) (h2 : N ≤ 1000) (h3 : n ≤ 1000) (xx : Int) (w : World) :
    Calls Try.prog 53 #[.agg #[.int .i64 g.terms, .int .i64 g.nons, .int .i64 g.start, vr], .int .i64 (n : Int), .int .i64 xx] w (TablePost 3 N (n + 1) (.int .i64 xx) w) := by
  obtain ⟨w0, HW0⟩ := nameIt (w.alloc (.cells #[.int .i64 g.terms, .int .i64 g.nons, .int .i64 g.start, vr] 24))
  have hb0 : Below w.heap.size w w0 := by rw [← HW0.out]; exact (Below.refl _ _).alloc (Nat.le_refl _) _
  have HB0 := Lib.hid hb0
  have X0 : Hid (w0.heap[w.heap.size]? = some (.cells #[.int .i64 g.terms, .int .i64 g.nons, .int .i64 g.start, vr] 24 (0, 0))) := by rw [← HW0.out]; exact bx_new _ _ _ rfl
  obtain ⟨gt, HGT⟩ := nameIt g.terms
  obtain ⟨gs, HGS⟩ := nameIt g.start
  rw [HGT.out, HGS.out, hN] at HW0 X0
  rw [HGT.out, HGS.out, hN]
  obtain ⟨m, HM⟩ := nameIt (n + 1)
  have hm1 : 1 ≤ m := by have := HM.out; omega
  have hm2 : m ≤ 1001 := by have := HM.out; omega
  have HMZ : Hid (((n : Int) + 1) = (m : Int)) := by show _ = _; rw [← HM.out]; omega
  have hwr : IntKind.i64.wrap ((n : Int) + 1) = (m : Int) := by rw [IntWalk.i64_in _ (by omega), HMZ.out]
  have hmk : ∀ W : World, (Instr.makeSlice 33 (.int .i64 (m : Int)) (.int .i64 (m : Int))).run Try.prog W = .ok (.slice (some ⟨W.heap.size, 0, none⟩) m m) (W.alloc (.cells (madeCells #[.int .i64 0] m) 3)) := fun W => by
    have := run_make_row' (P := Try.prog) 33 3 (.int .i64 0) 8 Try.underlying33 (by kernel_rfl) rfl .i64 .i64 m (by omega) (by omega) W
    simpa using this
  have HMK := Lib.hid hmk
  obtain ⟨PST, HP⟩ := nameIt (TablePost 3 N m (.int .i64 xx) w)
  have HFI : Hid (∀ (L : List Nat) v W, L.length = N → TbI 3 33 w0.heap.size m (.int .i64 xx) L v W → Below w0.heap.size w0 W → PST (.returned v) W) := by
    intro L v W hL h hb
    obtain ⟨bt, cap, rfl, rb, ht⟩ := h.fin (by omega)
    rw [← HP.out]
    rw [hL] at ht ⊢
    exact ⟨bt, cap, rb, rfl, ht.wide HB0.out.size (Nat.le_refl _), HB0.out.trans (hb.mono HB0.out.size)⟩
  rw [HM.out, HP.out]
  have HI0 := Lib.hid (TbI.nil 3 33 w0.heap.size m (.int .i64 xx) w0 (Nat.le_refl _))
  obtain ⟨x0, x1, x2, x3⟩ := bx_cells4 X0.out
  clear hb0 hN hmk
  go_enter Try.func53, Try.ntmps53
  go_upto_region 1 with fail
  rw [HW0.out]
  go_wp2_with fail
  clear x0 x1 x2 x3
  go_loopg [7, 12] N (fun gg v7 v12 wr => ∃ (i : Nat) (L : List Nat), i ≤ N ∧ N - i ≤ gg ∧ Hid (L.length = i) ∧ v12 = .int .i64 i ∧ Hid (TbI 3 33 w0.heap.size m (.int .i64 xx) L v7 wr) ∧ Hid (Below w0.heap.size w0 wr))
  case atStart => exact ⟨0, [], by omega, by omega, rfl, rfl, HI0, Below.refl _ _⟩
  case round =>
    clear HI0
    obtain ⟨i, L, hi, hg, HLL, rfl, HI, HB⟩ := hrel
    obtain ⟨w1, rfl⟩ : ∃ ww : World, ww = wr := ⟨_, rfl⟩
    obtain ⟨oa, oc, rfl, hoc, hoc2⟩ := own_len HI.out.own
    have HOWN := Lib.hid HI.out.own
    have HLT : Hid (∀ k, (Value.slice oa L.length oc).ownBlock = some k → k < w1.heap.size) := fun k e => (HI.out.own.lt k e).2
    rw [HLL.out] at HOWN HLT
    rw [HLL.out]
    by_cases hlt : i < N
    · have hlt' : (i : Int) < (N : Int) := by omega
      obtain ⟨w2, HW2⟩ := nameIt (w1.alloc (.cells (madeCells #[.int .i64 0] m) 3))
      have HB12 : Hid (Below w1.heap.size w1 w2) := by rw [← HW2.out]; exact (Below.refl _ _).alloc (Nat.le_refl _) _
      have HX0 : Hid (∃ cs : Array Value, w2.heap[w1.heap.size]? = some (.cells cs 3 (0, 0)) ∧ cs.size = m ∧ ∀ k, k < m → k < 0 → cs[k]? = some (.int .i64 xx)) :=
        ⟨_, by rw [← HW2.out]; exact bx_new _ _ _ rfl, size_madeCells _ _, fun k _ h => absurd h (Nat.not_lt_zero _)⟩
      have hmk := HMK.out
      obtain ⟨gb, HGB⟩ := nameIt w1.heap.size
      rw [HGB.out] at HX0
      go_upto_region 5 with fail
      rw [HW2.out, HGB.out]
      clear hmk
      go_wp2_with fail
      go_loopg [19] m (fun gg v19 wr => ∃ k : Nat, k ≤ m ∧ m - k ≤ gg ∧ v19 = .int .i64 k ∧ Hid (Below w1.heap.size w1 wr) ∧ Hid (∃ cs : Array Value, wr.heap[gb]? = some (.cells cs 3 (0, 0)) ∧ cs.size = m ∧ ∀ l, l < m → l < k → cs[l]? = some (.int .i64 xx)))
      case atStart => exact ⟨0, by omega, by omega, rfl, HB12, HX0⟩
      case round =>
        clear HX0
        obtain ⟨k, hk, hg2, rfl, HBk, HXk⟩ := hrel
        obtain ⟨w3, rfl⟩ : ∃ ww : World, ww = wr := ⟨_, rfl⟩
        obtain ⟨cs, hcs, hsz, hval⟩ := HXk.out
        by_cases hkm : k < m
        · have hkm' : (k : Int) < (m : Int) := by omega
          have hk0 : (0 : Int) ≤ (k : Int) := by omega
          have hc : w3.cell? ⟨gb, k, none⟩ = some (cs[k]'(by omega)) := by simp [World.cell?, hcs]
          have hf : w3.frozen? ⟨gb, k, none⟩ = false := by simp [World.frozen?, hcs]
          obtain ⟨cv, HCV⟩ := nameIt (cs[k]'(by omega))
          rw [HCV.out] at hc
          have HX9 : Hid (∃ cs' : Array Value, (w3.setCell ⟨gb, k, none⟩ (.int .i64 xx)).heap[gb]? = some (.cells cs' 3 (0, 0)) ∧ cs'.size = m ∧ ∀ l, l < m → l < k + 1 → cs'[l]? = some (.int .i64 xx)) := by
            refine ⟨cs.setIfInBounds k (.int .i64 xx), bx_set hcs _ _, by simpa using hsz, fun l hl hlk => ?_⟩
            rw [Array.getElem?_setIfInBounds]
            by_cases e : k = l
            · rw [if_pos e, if_pos (by omega)]
            · rw [if_neg e]; exact hval l hl (by omega)
          have HB9 : Hid (Below w1.heap.size w1 (w3.setCell ⟨gb, k, none⟩ (.int .i64 xx))) := HBk.out.setCell (p := ⟨gb, k, none⟩) (by rw [← HGB.out]; exact Nat.le_refl _) _
          clear hcs hval
          go_wp2_with fail
          go_roundg (m - (k + 1))
          case measure => omega
          case rel => exact ⟨k + 1, by omega, by omega, by go_num, HB9, HX9⟩
        · have hkm' : ¬ (k : Int) < (m : Int) := by omega
          have hkk : k = m := by omega
          have HI3 := Lib.hid (HI.out.keep HBk.out)
          have HO3 := Lib.hid (own_keep HOWN.out HBk.out)
          have hgB : w0.heap.size ≤ gb := by rw [← HGB.out]; exact HB.out.size
          have HGV : Hid ((Value.slice oa i oc).ownBlock ≠ some gb) := fun e => by have := HLT.out gb e; rw [HGB.out] at this; omega
          have HGL : Hid (gb ∉ L) := fun h => by have := (HI.out.rows gb h).2.1; rw [HGB.out] at this; omega
          have HCS : Hid (∃ cs : Array Value, w3.heap[gb]? = some (.cells cs 3 (0, 0)) ∧ cs.size = m ∧ ∀ l, l < m → cs[l]? = some (.int .i64 xx)) := ⟨cs, hcs, hsz, fun l hl => hval l hl (by omega)⟩
          have HB03 : Hid (Below w0.heap.size w0 w3) := HB.out.trans (HBk.out.mono HB.out.size)
          have hiN : i < 1000 := by omega
          clear hcs hsz hval hkk
          go_wp2_with (at_builtin; refine wp_app1at elI rfl _ _ rfl HO3.out rfl rfl rfl rfl rfl (by omega) (by unfold maxLen; omega) HI3.out.le ?_)
          intro v9 w9 ho9 hg9 hat9
          have HI9 : Hid (TbI 3 33 w0.heap.size m (.int .i64 xx) (L ++ [gb]) v9 w9) := by
            obtain ⟨cs', q1, q2, q3⟩ := HCS.out
            have hh := HI3.out
            rw [HLL.out] at hh
            exact hh.add q1 q2 q3 hgB HGV.out HGL.out (by rw [HLL.out]; exact ho9) hg9 hat9
          have HB9 : Hid (Below w0.heap.size w0 w9) := HB03.out.grown hg9 HB03.out.size (fun k e => (HO3.out.lt k e).1)
          clear ho9 hg9 hat9
          go_wp2_with fail
          go_roundg (N - (i + 1))
          case measure => omega
          case rel => exact ⟨i + 1, L ++ [gb], by omega, by omega, by show _ = _; rw [List.length_append, HLL.out]; rfl, by go_num, HI9, HB9⟩
    · have hlt' : ¬ (i : Int) < (N : Int) := by omega
      have hiN : i = N := by omega
      have hfin := HFI.out L _ w1 (HLL.out.trans hiN) HI.out HB.out
      rw [HLL.out] at hfin
      have HF := Lib.hid hfin
      clear hiN hfin
      go_wp2_with fail
      first | exact HF.out | (go_ret; exact HF.out)
end Cs
end Go.Proofs.Ytbnpemgmdnghgaa
namespace Go.Proofs.Ytbnpemgmdnghgaa
open Go.RowKit

def KidsPost (w0 : World) (t : Tree) (w : World) (e : Ending) (w' : World) : Prop :=
  ∃ a cap, e = .returned (.slice a (kidsOf t).length cap) ∧ Rd AnyB w0 (.sl ((kidsOf t).map Tree.d)) [.slice a (kidsOf t).length cap] ∧ Below w.heap.size w w'
theorem rd_nil (S : Nat → Prop) (w : World) : Rd S w (.sl []) [.slice none 0 0] := ⟨none, 0, [], rfl, by simp, by simp [maxLen], fun _ => rfl, fun i hi => by simp at hi, rfl⟩

set_option maxHeartbeats 400000 in
theorem kidsE (w0 : World) (t : Tree) (v : Value) (w : World) (hv : Rd AnyB w0 (.sl (t.kids.map Tree.d)) [v]) :
    Calls Try.prog 69 #[.agg #[.int .i64 t.rule, .int .i64 t.term, v]] w (KidsPost w0 t w) := by
  obtain ⟨a, cap, rfl, hc1, hc2⟩ := hv.form
  have HV := Lib.hid hv
  clear hv hc1 hc2
  cases t with
  | node r tm ks =>
  simp only [Tree.rule, Tree.term, Tree.kids, List.length_map] at HV ⊢
  by_cases hr : r = -1
  · subst hr
    go_enter Try.func69, Try.ntmps69
    go_wp2
    go_ret
    exact ⟨none, 0, rfl, rd_nil _ _, (Below.refl _ _).alloc (Nat.le_refl _) _⟩
  · have hr' : (r == -1) = false := by simpa using hr
    have HR := Lib.hid hr
    clear hr
    go_enter Try.func69, Try.ntmps69
    go_wp2
    go_ret
    refine ⟨a, cap, ?_, ?_, (Below.refl _ _).alloc (Nat.le_refl _) _⟩
    · simp [kidsOf, Tree.rule, Tree.kids, HR.out]
    · have e : kidsOf (.node r tm ks) = ks := by simp [kidsOf, Tree.rule, Tree.kids, HR.out]
      rw [e]; exact HV.out

/-- a function of nodes, as a function value: I: what it holds of the nodes seen so far, in which blocks -/
structure NodeFn (g : Nat) (lb : Array Value) (w0 : World) (p : Tree → Bool) (N : Nat) (I : List Tree → (Nat → Prop) → World → Prop) : Prop where
  below : ∀ {s S W}, I s S W → Below w0.heap.size w0 W
  own : ∀ {s S W}, I s S W → ∀ k, S k → w0.heap.size ≤ k ∧ k < W.heap.size
  keep : ∀ {s S W W'}, I s S W → Below W.heap.size W W' → I s S W'
  call : ∀ s S W (t : Tree) (v : Value), I s S W → Rd AnyB w0 (.sl (t.kids.map Tree.d)) [v] → s.length < N →
    Calls Try.prog g (#[.agg #[.int .i64 t.rule, .int .i64 t.term, v]] ++ lb) W fun e W' => ∃ S', e = .returned (.bool (p t)) ∧ I (s ++ [t]) S' W' ∧ Keeps S W W' ∧ ∀ k, S' k → S k ∨ W.heap.size ≤ k

def WalkPost (p : Tree → Bool) (I : List Tree → (Nat → Prop) → World → Prop) (t : Tree) (s : List Tree) (S : Nat → Prop) (W : World) (e : Ending) (W' : World) : Prop :=
  ∃ S', e = .returned (.bool ((nodes t).all p)) ∧ I (s ++ upTo p (nodes t)) S' W' ∧ Keeps S W W' ∧ ∀ k, S' k → S k ∨ W.heap.size ≤ k

structure WalkRel (p : Tree → Bool) (I : List Tree → (Nat → Prop) → World → Prop) (t : Tree) (s : List Tree) (S : Nat → Prop) (W : World) (i : Nat) (S' : Nat → Prop) (W' : World) : Prop where
  inv : I (s ++ t :: nodesL ((kidsOf t).take i)) S' W'
  kps : Keeps S W W'
  sub : ∀ k, S' k → S k ∨ W.heap.size ≤ k
  all : (t :: nodesL ((kidsOf t).take i)).all p = true

set_option maxHeartbeats 2000000 in
set_option maxRecDepth 100000 in
theorem walkE (g : Nat) (lb : Array Value) (w0 : World) (p : Tree → Bool) (N : Nat) (I : List Tree → (Nat → Prop) → World → Prop) (eg : ∀ args w, (callFunc g args).run Try.prog w = .ok (.enter g args) w) (hF : NodeFn g lb w0 p N I) :
    ∀ (m : Nat) (t : Tree) (v : Value) (s : List Tree) (S : Nat → Prop) (W : World), (nodes t).length ≤ m → I s S W → Rd AnyB w0 (.sl (t.kids.map Tree.d)) [v] → s.length + (nodes t).length ≤ N →
      Calls Try.prog 41 #[.agg #[.int .i64 t.rule, .int .i64 t.term, v], .func (.func g) #[] lb] W (WalkPost p I t s S W) := by
  intro m
  induction m with
  | zero => intro t v s S W hm; have := nodes_pos t; omega
  | succ m ih =>
  intro t v s S W hm hI hv hN
  obtain ⟨a, cap, rfl, hc1, hc2⟩ := hv.form
  have HV := Lib.hid hv
  have HI := Lib.hid hI
  have HF := Lib.hid hF
  have IH := Lib.hid ih
  have HM := Lib.hid hm
  have HN := Lib.hid hN
  have hn0 := nodes_pos t
  have hsl : s.length < N := by omega
  clear hv hI hF ih hc1 hc2 hm hN hn0
  obtain ⟨r, HRr⟩ := nameIt t.rule
  obtain ⟨tm, HRt⟩ := nameIt t.term
  obtain ⟨nk, HRn⟩ := nameIt (t.kids.map Tree.d).length
  have hk := fun W => kidsE w0 t _ W HV.out
  have hcall := fun W h => HF.out.call s S W t _ h HV.out hsl
  rw [HRr.out, HRt.out, HRn.out] at hk hcall
  rw [HRr.out, HRt.out, HRn.out]
  have HK := Lib.hid hk
  have HC := Lib.hid hcall
  clear hk hcall
  go_enter Try.func41, Try.ntmps41
  go_wp2_with fail
  refine (HC.out _ (HF.out.keep HI.out ((Below.refl _ _).alloc (Nat.le_refl _) _))).mono ?_
  rintro e W1 ⟨S1, rfl, hI1, hk1, hs1⟩
  have hx := hk1.cells (bx_new W _ W.heap.size rfl) (fun h => by have := (HF.out.own HI.out _ h).2; omega)
  have HI1 := Lib.hid hI1
  have HK1 : Hid (Keeps S W W1) := (Below.keeps (S := S) ((Below.refl W.heap.size W).alloc (Nat.le_refl _) (.cells #[.int .i64 r, .int .i64 tm, .slice a nk cap] 42))).trans hk1 (fun k h => .inl h)
  have HS1 : Hid (∀ k, S1 k → S k ∨ W.heap.size ≤ k) := fun k h => (hs1 k h).elim .inl (fun h => .inr (by simp at h; omega))
  obtain ⟨x0, x1, x2⟩ := bx_cells3 hx
  clear hI1 hk1 hs1 hx
  cases hp : p t with
  | false =>
    have HP := Lib.hid hp
    clear hp
    go_wp2
    go_ret
    refine ⟨S1, ?_, ?_, HK1.out, HS1.out⟩
    · rw [nodes_eq, List.all_cons, HP.out]; rfl
    · rw [nodes_eq, upTo, HP.out, if_neg (by decide)]; exact HI1.out
  | true =>
    have HP := Lib.hid hp
    clear hp
    go_wp2_with fail
    refine (HK.out W1).mono ?_
    rintro e W2 ⟨ak, ck, rfl, hrk, hb2⟩
    have HRK := Lib.hid hrk
    have HR : Hid (WalkRel p I t s S W 0 S1 W2) := ⟨by simpa [nodesL] using HF.out.keep HI1.out hb2, HK1.out.trans (Below.keeps (S := S1) hb2) HS1.out, HS1.out, by simpa [nodesL] using HP.out⟩
    obtain ⟨K, HKN⟩ := nameIt (kidsOf t)
    have hkl := hrk.bounds
    rw [HKN.out] at hkl
    rw [HKN.out] at HRK
    rw [HKN.out]
    unfold maxLen at hkl
    obtain ⟨-, hkl1, hkl2⟩ := hkl
    clear hrk hb2 x0 x1 x2 HI1 HK1 HS1 HK HC HI HRn
    go_wp2_with fail
    go_loopg [14] K.length (fun gg v14 wr => ∃ (i : Nat) (S' : Nat → Prop), i ≤ K.length ∧ K.length - i ≤ gg ∧ v14 = .int .i64 i ∧ Hid (WalkRel p I t s S W i S' wr))
    case atStart => exact ⟨0, S1, by omega, by omega, rfl, HR⟩
    case round =>
      clear HR
      obtain ⟨i, S', hi, hg, rfl, HR⟩ := hrel
      by_cases hlt : i < K.length
      · have hlt' : (i : Int) < (K.length : Int) := by omega
        obtain ⟨b, off, v, hae, -, hbl, c0, c1, c2, hkid⟩ := HRK.out.kid hlt
        obtain ⟨av, cv, rfl, -, -⟩ := hkid.form
        obtain ⟨nv, HNV⟩ := nameIt (K[i].kids.map Tree.d).length
        rw [HNV.out] at c2 hkid
        have hbel := HF.out.below HR.out.inv
        have e0 := (hbel.cell (p := ⟨b, off + i * 3, none⟩) hbl).trans c0
        have e1 := (hbel.cell (p := ⟨b, off + i * 3 + 1, none⟩) hbl).trans c1
        have e2 := (hbel.cell (p := ⟨b, off + i * 3 + 2, none⟩) hbl).trans c2
        have hme : (nodes K[i]).length ≤ m := by
          have h1 := HM.out
          rw [nodes_eq, HKN.out] at h1
          have h2 := nodesL_kid hlt
          simp at h1; omega
        have hne : (s ++ t :: nodesL (K.take i)).length + (nodes K[i]).length ≤ N := by
          have h1 := HN.out
          rw [nodes_eq, HKN.out] at h1
          have h2 := nodesL_kid hlt
          simp at h1 ⊢; omega
        have hinv := HR.out.inv
        rw [HKN.out] at hinv
        have hih := IH.out K[i] _ _ S' _ hme (HF.out.keep hinv ((Below.refl _ _).alloc (Nat.le_refl _) (.cells #[.int .i64 K[i].rule, .int .i64 K[i].term, .slice av nv cv] 42))) hkid hne
        obtain ⟨q0, HQ0⟩ := nameIt K[i].rule
        obtain ⟨q1, HQ1⟩ := nameIt K[i].term
        rw [HQ0.out] at e0 hih
        rw [HQ1.out] at e1 hih
        have HIH := Lib.hid hih
        subst hae
        clear hbel c0 c1 c2 hme hne hinv hih hkid
        go_wp2_with fail
        refine HIH.out.mono ?_
        rintro e W3 ⟨S3, rfl, hI3, hk3, hs3⟩
        have HI3 := Lib.hid hI3
        have hbb := (Below.refl wr.heap.size wr).alloc (Nat.le_refl _) (.cells #[.int .i64 q0,   .int .i64 q1, .slice av nv cv] 42)
        have HK3 : Hid (Keeps S W W3) := (HR.out.kps.trans (Below.keeps (S := S') hbb) HR.out.sub).trans hk3 HR.out.sub
        have HS3 : Hid (∀ k, S3 k → S k ∨ W.heap.size ≤ k) := fun k h => (hs3 k h).elim (HR.out.sub k) (fun h => .inr (by have := HR.out.kps.size; simp at h; omega))
        clear hI3 hk3 hs3 hbb HIH e0 e1 e2
        cases hp : (nodes K[i]).all p with
        | false =>
          have HP' := Lib.hid hp
          clear hp
          go_wp2
          go_ret
          have h1 := HR.out.all
          rw [HKN.out] at h1
          have h2 : nodes t = (t :: nodesL (K.take i)) ++ (nodes K[i] ++ nodesL (K.drop (i + 1))) := by rw [nodes_eq, HKN.out, nodesL_split hlt]; rfl
          refine ⟨S3, ?_, ?_, HK3.out, HS3.out⟩
          · rw [h2, List.all_append, List.all_append, HP'.out]; simp
          · rw [h2, upTo_append h1, upTo_stop HP'.out]
            have := HI3.out
            simpa using this
        | true =>
          have HR' : Hid (WalkRel p I t s S W (i + 1) S3 W3) := by
            refine ⟨?_, HK3.out, HS3.out, ?_⟩
            · rw [HKN.out, nodesL_take hlt]
              have := HI3.out
              rw [upTo_all hp] at this
              simpa using this
            · have h1 := HR.out.all
              rw [HKN.out] at h1
              rw [HKN.out, nodesL_take hlt]
              rw [← List.cons_append, List.all_append, h1, hp]; rfl
          clear hp
          go_wp2
          go_roundg (K.length - (i + 1))
          case measure => omega
          case rel => exact ⟨i + 1, S3, by omega, by omega, by go_num, HR'⟩
      · have hlt' : ¬ (i : Int) < (K.length : Int) := by omega
        go_wp2
        go_ret
        have h1 := HR.out.all
        have h3 := HR.out.inv
        rw [HKN.out, List.take_of_length_le (by omega)] at h1 h3
        have h2 : nodes t = t :: nodesL K := by rw [nodes_eq, HKN.out]
        refine ⟨S', ?_, ?_, HR.out.kps, HR.out.sub⟩
        · rw [h2, h1]; rfl
        · rw [h2, upTo_all h1]; exact h3
end Go.Proofs.Ytbnpemgmdnghgaa
namespace Go.Proofs.Ytbnpemgmdnghgaa
open Go.RowKit

mutual
def Tree.size : Tree → Nat
  | .node _ _ ks => sizeL ks + 1
def sizeL : List Tree → Nat
  | [] => 0
  | k :: ks => Tree.size k + sizeL ks
end
theorem Tree.size_eq (t : Tree) : t.size = sizeL t.kids + 1 := by cases t; simp [Tree.size, Tree.kids]
theorem Tree.size_pos (t : Tree) : 0 < t.size := by rw [Tree.size_eq]; omega
theorem sizeL_get : ∀ {ks : List Tree} {i : Nat} (h : i < ks.length), ks[i].size ≤ sizeL ks
  | [], i, h => by simp at h
  | k :: ks, 0, h => by simp [sizeL]
  | k :: ks, i + 1, h => by have := sizeL_get (ks := ks) (i := i) (by simpa using h); simp [sizeL]; omega
theorem sizeL_len : ∀ (ks : List Tree), ks.length ≤ sizeL ks
  | [] => by simp
  | k :: ks => by have := sizeL_len ks; have := k.size_pos; simp [sizeL]; omega

def FreshB (w : World) : Nat → Prop := fun k => w.heap.size ≤ k
def TreePost (t : Tree) (w : World) (e : Ending) (w' : World) : Prop :=
  ∃ v, e = .returned (.agg #[.int .i64 t.rule, .int .i64 t.term, v]) ∧ Rd (FreshB w) w' (.sl (t.kids.map Tree.d)) [v] ∧ Below w.heap.size w w'
theorem elTree : ElemT Try.prog 40 42 3 40 := ElemT.mk' (z := .agg #[.int .i64 0, .int .i64 0, .slice none 0 0]) Try.underlying40 (by kernel_rfl) rfl (by decide)

/-- a row of trees that is being made, its header in the box b at the cell 2 -/
structure RowRel (T : Nat → Prop) (B b : Nat) (r tm : Int) (ts : List Tree) (vr : Value) (wr : World) : Prop where
  out : wr.heap[b]? = some (.cells #[.int .i64 r, .int .i64 tm, vr] 42 (0, 0))
  own : ∃ xs, wr.ownsRow B 42 3 vr ts.length xs ∧ RdAll (fun k => T k ∧ vr.ownBlock ≠ some k) wr (ts.map Tree.d) xs
  lt : b < B
  nt : ¬ T b
  le : B ≤ wr.heap.size
theorem RowRel.len {T : Nat → Prop} {B b : Nat} {r tm : Int} {ts : List Tree} {vr : Value} {wr : World} (h : RowRel T B b r tm ts vr wr) : ∃ a cap, vr = .slice a ts.length cap ∧ ts.length ≤ cap ∧ cap ≤ maxLen := by
  obtain ⟨xs, h1, _⟩ := h.own; exact own_len h1
theorem RowRel.keep {T : Nat → Prop} {B b : Nat} {r tm : Int} {ts : List Tree} {vr : Value} {wr w' : World} (h : RowRel T B b r tm ts vr wr) (hb : Below wr.heap.size wr w') : RowRel T B b r tm ts vr w' := by
  obtain ⟨xs, h1, h2⟩ := h.own
  exact ⟨bx_keep h.out hb, ⟨xs, own_keep h1 hb, h2.below hb⟩, h.lt, h.nt, Nat.le_trans h.le hb.size⟩
/-- behind the append of a tree, and the store of the new header -/
theorem RowRel.step {T : Nat → Prop} {B b g cap n : Nat} {r tm : Int} {ts : List Tree} {t : Tree} {vr v : Value} {w2 w3 : World} {xs : List Value} (h : RowRel T B b r tm ts vr w2) (hn : ts.length = n) (ho : w2.ownsRow B 42 3 vr n xs) (hd : RdAll (fun k => T k ∧ vr.ownBlock ≠ some k) w2 (ts.map Tree.d) xs)
    (hr : Rd (fun k => T k ∧ vr.ownBlock ≠ some k) w2 (.sl (t.kids.map Tree.d)) [v])
    (ho3 : w3.ownsRow B 42 3 (.slice (some ⟨g, 0, none⟩) (n + 1) cap) (n + 1) (xs ++ [.int .i64 t.rule, .int .i64 t.term, v])) (hg : w2.grownBy w3 vr.ownBlock) (hat : vr.ownBlock = some g ∨ w2.heap.size ≤ g) :
    w3.heap[b]? = some (.cells #[.int .i64 r, .int .i64 tm, vr] 42 (0, 0)) ∧ RowRel T B b r tm (ts ++ [t]) (.slice (some ⟨g, 0, none⟩) (n + 1) cap) (w3.setCell ⟨b, 2, none⟩ (.slice (some ⟨g, 0, none⟩) (n + 1) cap)) := by
  have hlt := (Array.getElem?_eq_some_iff.1 h.out).1
  have hb3 : w3.heap[b]? = some (.cells #[.int .i64 r, .int .i64 tm, vr] 42 (0, 0)) := by
    rw [hg.block b hlt (fun e => by have := (ho.lt b e.symm).1; have := h.lt; omega)]; exact h.out
  have hne : b ≠ g := by
    have h1 := (ho3.lt g rfl).1
    have := h.lt; omega
  refine ⟨hb3, ?_, ⟨xs ++ [.int .i64 t.rule, .int .i64 t.term, v], ?_, ?_⟩, h.lt, h.nt, by simp [World.setCell]; exact Nat.le_trans h.le hg.size⟩
  · rw [bx_set hb3]; rfl
  · rw [List.length_append, hn]
    exact ho3.kept (grown_cell w3 ⟨b, 2, none⟩ _) (.inr (by simpa [Value.ownBlock] using fun e => hne e.symm))
  · have h1 := own_step (S := T) (v' := .slice (some ⟨g, 0, none⟩) (n + 1) cap) hd (RdAll.one (rd_tree hr)) hg (by
      rcases hat with e | e
      · exact .inl e.symm
      · exact .inr ⟨g, rfl, e⟩)
    rw [List.map_append]
    refine RdAll.keep (fun k hk _ => ⟨hk, Below.heap_setCell _ _ _ _ ?_⟩) _ _ h1
    intro e
    simp at e
    subst e
    exact h.nt hk.1

structure CopyRel (t : Tree) (w : World) (i : Nat) (vr : Value) (wr : World) : Prop where
  row : RowRel (fun k => w.heap.size + 1 + 1 + 1 ≤ k) (w.heap.size + 1 + 1 + 1) (w.heap.size + 1 + 1) t.rule t.term (t.kids.take i) vr wr
  res : wr.heap[w.heap.size + 1]? = some (.cells #[.int .i64 0, .int .i64 0, .slice none 0 0] 42 (0, 0))
  bel : Below w.heap.size w wr

/-- a result box, stored into: it is new memory alone -/
theorem below_box3 {B b : Nat} {w w' : World} (h : Below B w w') (hb : B ≤ b) (x y z : Value) : Below B w (((w'.setCell ⟨b, 0, none⟩ x).setCell ⟨b, 1, none⟩ y).setCell ⟨b, 2, none⟩ z) :=
  ((h.setCell (p := ⟨b, 0, none⟩) hb x).setCell (p := ⟨b, 1, none⟩) hb y).setCell (p := ⟨b, 2, none⟩) hb z
theorem grown_box3 (b : Nat) (w : World) (x y z : Value) : w.grownBy (((w.setCell ⟨b, 0, none⟩ x).setCell ⟨b, 1, none⟩ y).setCell ⟨b, 2, none⟩ z) (some b) := grown_trans (grown_trans (grown_cell _ _ _) (grown_cell _ _ _)) (grown_cell _ _ _)
theorem Rd.box3 {S : Nat → Prop} {w : World} {d : D} {cs : List Value} (h : Rd S w d cs) {b : Nat} (hb : ¬ S b) (x y z : Value) : Rd S (((w.setCell ⟨b, 0, none⟩ x).setCell ⟨b, 1, none⟩ y).setCell ⟨b, 2, none⟩ z) d cs :=
  Rd.keep (fun k hk hlt => ⟨hk, (grown_box3 b w x y z).block k hlt (fun e => by cases e; exact hb hk)⟩) d cs h

end Go.Proofs.Ytbnpemgmdnghgaa
namespace Go.Proofs.Ytbnpemgmdnghgaa
open Go.RowKit

def kidAt (t : Tree) (i : Int) : Option Tree := if t.rule = -1 ∨ i < 0 then none else t.kids[i.toNat]?
def belowT : Tree → List Int → Option Tree
  | t, [] => some t
  | t, i :: p => (kidAt t i).bind fun k => belowT k p
theorem belowT_drop {t : Tree} {p : List Int} {i : Nat} (h : i < p.length) : belowT t (p.drop i) = (kidAt t p[i]).bind fun k => belowT k (p.drop (i + 1)) := by
  rw [List.drop_eq_getElem_cons h, belowT]
theorem kidAt_leaf {t : Tree} {i : Int} (h : t.rule = -1) : kidAt t i = none := by simp [kidAt, h]
theorem kidAt_neg {t : Tree} {i : Int} (h : i < 0) : kidAt t i = none := by simp [kidAt, h]
theorem kidAt_out {t : Tree} {i : Nat} (h : t.kids.length ≤ i) : kidAt t (i : Int) = none := by
  unfold kidAt
  by_cases e : t.rule = -1 <;> simp [e, h]
theorem kidAt_in {t : Tree} {i : Nat} (hr : t.rule ≠ -1) (h : i < t.kids.length) : kidAt t (i : Int) = some t.kids[i] := by
  simp [kidAt, hr, h]

def noTree : Tree := .node 0 0 []
theorem bx_set3 {w : World} {b : Nat} {x0 x1 x2 : Value} {T : TypeId} (h : w.heap[b]? = some (.cells #[x0, x1, x2] T (0, 0))) (y0 y1 y2 : Value) : (((w.setCell ⟨b, 0, none⟩ y0).setCell ⟨b, 1, none⟩ y1).setCell ⟨b, 2, none⟩ y2).heap[b]? = some (.cells #[y0, y1, y2] T (0, 0)) := by
  rw [bx_set (bx_set (bx_set h 0 y0) 1 y1) 2 y2]; rfl
theorem bx_other3 {w : World} {b c : Nat} {o : Obj} (h : w.heap[b]? = some o) (hne : b ≠ c) (y0 y1 y2 : Value) : (((w.setCell ⟨c, 0, none⟩ y0).setCell ⟨c, 1, none⟩ y1).setCell ⟨c, 2, none⟩ y2).heap[b]? = some o :=
  bx_other (bx_other (bx_other h hne _ _) hne _ _) hne _ _

/-- the state of the loops: the tree that is come to lies in the parameter's box -/
structure DescRel (t : Tree) (p : List Int) (w : World) (i : Nat) (cur : Tree) (v : Value) (wr : World) : Prop where
  box : wr.heap[w.heap.size]? = some (.cells #[.int .i64 cur.rule, .int .i64 cur.term, v] 42 (0, 0))
  kid : Rd AnyB w (.sl (cur.kids.map Tree.d)) [v]
  res : wr.heap[w.heap.size + 1]? = some (.cells #[.int .i64 0, .int .i64 0, .slice none 0 0] 42 (0, 0))
  eq : belowT cur (p.drop i) = belowT t p
  bel : Below w.heap.size w wr
theorem DescRel.step {t cur k : Tree} {p : List Int} {w wr : World} {i : Nat} {v u : Value} (h : DescRel t p w i cur v wr) (hi : i < p.length) (hk : kidAt cur p[i] = some k) (hu : Rd AnyB w (.sl (k.kids.map Tree.d)) [u]) :
    DescRel t p w (i + 1) k u (((wr.setCell ⟨w.heap.size, 0, none⟩ (.int .i64 k.rule)).setCell ⟨w.heap.size, 1, none⟩ (.int .i64 k.term)).setCell ⟨w.heap.size, 2, none⟩ u) :=
  ⟨bx_set3 h.box _ _ _, hu, bx_other3 h.res (by omega) _ _ _, by rw [← h.eq, belowT_drop hi, hk]; rfl, below_box3 h.bel (Nat.le_refl _) _ _ _⟩

def DescPost (x : Option Tree) (c : Option Tree → Value) (w : World) (e : Ending) (w' : World) : Prop :=
  ∃ v, e = .returned (.tuple #[.agg #[.int .i64 (x.getD noTree).rule, .int .i64 (x.getD noTree).term, v], c x]) ∧ Rd AnyB w' (.sl ((x.getD noTree).kids.map Tree.d)) [v] ∧ Below w.heap.size w w'
def foundB (x : Option Tree) : Value := .bool x.isSome
def foundE (x : Option Tree) : Value := .int .i64 (if x.isSome then 0 else 5)

theorem desc0 {t : Tree} {p : List Int} {a : Option Addr} {n cap : Nat} {w : World} (hv : Rd AnyB w (.sl (t.kids.map Tree.d)) [.slice a n cap]) :
    DescRel t p w 0 t (.slice a n cap) ((w.alloc (.cells #[.int .i64 t.rule, .int .i64 t.term, .slice a n cap] 42)).alloc (.cells #[.int .i64 0, .int .i64 0, .slice none 0 0] 42)) :=
  ⟨bx_keep (bx_new _ _ _ rfl) ((Below.refl _ _).alloc (Nat.le_refl _) _), hv, bx_new _ _ _ (by simp), rfl, ((Below.refl _ _).alloc (Nat.le_refl _) _).alloc (by simp) _⟩

end Go.Proofs.Ytbnpemgmdnghgaa
namespace Go.Proofs.Ytbnpemgmdnghgaa
open Go.RowKit

theorem kidAt_of (t : Tree) (i : Int) : kidAt t i = if i < 0 then none else (kidsOf t)[i.toNat]? := by
  unfold kidAt kidsOf
  by_cases h : t.rule = -1 <;> by_cases h2 : i < 0 <;> simp [h, h2]
theorem DescRel.keep {t : Tree} {p : List Int} {w : World} {i : Nat} {cur : Tree} {v : Value} {wr w' : World} (h : DescRel t p w i cur v wr) (hb : Below wr.heap.size wr w') : DescRel t p w i cur v w' :=
  ⟨bx_keep h.box hb, h.kid, bx_keep h.res hb, h.eq, h.bel.trans (hb.mono h.bel.size)⟩
mutual
theorem size_mono : ∀ (t : Tree), ∀ k ∈ t.kids, k.size < t.size
  | .node r tm ks => by
    intro k hk
    have := sizeL_mem ks k hk
    simp [Tree.size]; omega
theorem sizeL_mem : ∀ (ks : List Tree), ∀ k ∈ ks, k.size ≤ sizeL ks
  | [], k, h => by simp at h
  | x :: ks, k, h => by
    rcases List.mem_cons.1 h with rfl | h
    · simp [sizeL]
    · have := sizeL_mem ks k h; simp [sizeL]; omega
end
theorem belowT_size : ∀ (p : List Int) (t x : Tree), belowT t p = some x → x.size ≤ t.size
  | [], t, x, h => by simp [belowT] at h; subst h; exact Nat.le_refl _
  | i :: p, t, x, h => by
    rw [belowT] at h
    cases hk : kidAt t i with
    | none => rw [hk] at h; simp at h
    | some k =>
      rw [hk] at h
      have h1 := belowT_size p k x h
      have h2 : k ∈ t.kids := by
        unfold kidAt at hk
        split at hk
        · cases hk
        · exact List.mem_of_getElem? hk
      have := size_mono t k h2
      omega

/-- what was found lies in new memory -/
def FndPost (x : Option Tree) (w : World) (e : Ending) (w' : World) : Prop :=
  ∃ v, e = .returned (.tuple #[.agg #[.int .i64 (x.getD noTree).rule, .int .i64 (x.getD noTree).term, v], foundE x]) ∧ Rd (FreshB w) w' (.sl ((x.getD noTree).kids.map Tree.d)) [v] ∧ Below w.heap.size w w'

theorem FndPost.desc {x : Option Tree} {w : World} {e : Ending} {w' : World} (h : FndPost x w e w') : DescPost x foundE w e w' := by
  obtain ⟨v, rfl, h1, h2⟩ := h
  exact ⟨v, rfl, h1.any, h2⟩
end Go.Proofs.Ytbnpemgmdnghgaa
namespace Go.Proofs.Ytbnpemgmdnghgaa
open Go.RowKit

def putT : Tree → List Int → Tree → Tree
  | _, [], s => s
  | t, i :: p, s => .node t.rule t.term (t.kids.mapIdx fun j k => if (j : Int) = i then putT k p s else k)
def putK (t : Tree) (i : Int) (p : List Int) (s : Tree) : List Tree := t.kids.mapIdx fun j k => if (j : Int) = i then putT k p s else k
theorem putT_cons (t : Tree) (i : Int) (p : List Int) (s : Tree) : putT t (i :: p) s = .node t.rule t.term (putK t i p s) := rfl
theorem putK_len (t : Tree) (i : Int) (p : List Int) (s : Tree) : (putK t i p s).length = t.kids.length := by simp [putK]
theorem putK_take {t : Tree} {i : Int} {p : List Int} {s : Tree} {j : Nat} (h : j < t.kids.length) : (putK t i p s).take (j + 1) = (putK t i p s).take j ++ [if (j : Int) = i then putT t.kids[j] p s else t.kids[j]] := by
  rw [List.take_succ_eq_append_getElem (by rw [putK_len]; exact h)]
  simp [putK]

def WithPost (S0 : Nat → Prop) (t : Tree) (w : World) (e : Ending) (w' : World) : Prop :=
  ∃ v, e = .returned (.agg #[.int .i64 t.rule, .int .i64 t.term, v]) ∧ Rd (fun k => S0 k ∨ w.heap.size ≤ k) w' (.sl (t.kids.map Tree.d)) [v] ∧ Below w.heap.size w w'

structure WithRel (S0 : Nat → Prop) (t s : Tree) (vs : Value) (K : List Tree) (w : World) (i : Nat) (vr : Value) (wr : World) : Prop where
  row : RowRel (fun k => S0 k ∨ w.heap.size + 1 + 1 + 1 + 1 ≤ k) (w.heap.size + 1 + 1 + 1 + 1) (w.heap.size + 1 + 1 + 1) t.rule t.term (K.take i) vr wr
  res : wr.heap[w.heap.size + 1 + 1]? = some (.cells #[.int .i64 0, .int .i64 0, .slice none 0 0] 42 (0, 0))
  sub : wr.heap[w.heap.size + 1]? = some (.cells #[.int .i64 s.rule, .int .i64 s.term, vs] 42 (0, 0))
  bel : Below w.heap.size w wr

theorem WithRel.next {S0 : Nat → Prop} {t s pt : Tree} {vs u vr : Value} {K : List Tree} {w wr w3 w4 : World} {i g cap4 : Nat} {xs : List Value} (h : WithRel S0 t s vs K w i vr wr) (hb : Below wr.heap.size wr w3) (htl : (K.take i).length = i)
    (ho : wr.ownsRow (w.heap.size + 1 + 1 + 1 + 1) 42 3 vr i xs) (hd : RdAll (fun k => (S0 k ∨ w.heap.size + 1 + 1 + 1 + 1 ≤ k) ∧ vr.ownBlock ≠ some k) wr ((K.take i).map Tree.d) xs) (hk : K.take (i + 1) = K.take i ++ [pt])
    (hr : Rd (fun k => (S0 k ∨ w.heap.size + 1 + 1 + 1 + 1 ≤ k) ∧ vr.ownBlock ≠ some k) w3 (.sl (pt.kids.map Tree.d)) [u])
    (ho4 : w4.ownsRow (w.heap.size + 1 + 1 + 1 + 1) 42 3 (.slice (some ⟨g, 0, none⟩) (i + 1) cap4) (i + 1) (xs ++ [.int .i64 pt.rule, .int .i64 pt.term, u])) (hg : w3.grownBy w4 vr.ownBlock) (hat : vr.ownBlock = some g ∨ w3.heap.size ≤ g) :
    w4.heap[w.heap.size + 1 + 1 + 1]? = some (.cells #[.int .i64 t.rule, .int .i64 t.term, vr] 42 (0, 0)) ∧ WithRel S0 t s vs K w (i + 1) (.slice (some ⟨g, 0, none⟩) (i + 1) cap4) (w4.setCell ⟨w.heap.size + 1 + 1 + 1, 2, none⟩ (.slice (some ⟨g, 0, none⟩) (i + 1) cap4)) := by
  have hst := RowRel.step (h.row.keep hb) htl (own_keep ho hb) (hd.below hb) hr ho4 hg hat
  have hle := h.row.le
  have hsz := hb.size
  have hother : ∀ k, k < w.heap.size + 1 + 1 + 1 + 1 → k < wr.heap.size → w4.heap[k]? = w3.heap[k]? := fun k hk hlt => hg.block k (by omega) (fun e => by have := (ho.lt k e.symm).1; omega)
  refine ⟨hst.1, ⟨by rw [hk]; exact hst.2, ?_, ?_, ?_⟩⟩
  · refine bx_other ?_ (by omega) _ _
    rw [hother _ (by omega) (by omega)]; exact bx_keep h.res hb
  · refine bx_other ?_ (by omega) _ _
    rw [hother _ (by omega) (by omega)]; exact bx_keep h.sub hb
  · exact ((h.bel.trans (hb.mono h.bel.size)).grown hg (by have := h.bel.size; omega) (fun k e => by have := (ho.lt k e).1; omega)).setCell (by simp; omega) _

/-- the rest of a path -/
theorem sl_tail {w : World} {a : Option Addr} {cap : Nat} {x : Int} {p : List Int} (h : Sl w (.slice a (x :: p).length cap) (ints (x :: p))) : Sl w (.slice (if cap = 1 then a else a.map fun y => y.add 1) p.length (cap - 1)) (ints p) := by
  have h1 := h.part (i := 1) (j := (x :: p).length) (by simp) (Nat.le_refl _)
  have e : ((ints (x :: p)).drop 1).take ((x :: p).length - 1) = ints p := by simp [ints, List.take_of_length_le]
  rw [e] at h1
  simpa using h1
end Go.Proofs.Ytbnpemgmdnghgaa
namespace Go.Proofs.Ytbnpemgmdnghgaa

def rootS (g : Gram) (t : Tree) : Sym := if t.rule < 0 then ⟨true, t.term⟩ else match g.rules[t.rule.toNat]? with | some r => ⟨false, r.left⟩ | none => ⟨true, t.term⟩
def kidOk (g : Gram) (k : Tree) (s : Sym) : Bool := decide (-1 ≤ k.rule) && (decide (k.rule < g.rules.length) && decide (rootS g k = s))
def kidsOk (g : Gram) (ks : List Tree) (l : List Sym) : Bool := decide (ks.length = l.length) && (List.zip ks l).all fun x => kidOk g x.1 x.2
def nodeOk (g : Gram) (t : Tree) : Bool :=
  if t.rule = -1 then decide (0 ≤ t.term) && (decide (t.term < g.terms) && decide (t.kids.length = 0))
  else if t.rule < 0 then false else match g.rules[t.rule.toNat]? with
    | none => false
    | some r => decide (t.term = 0) && kidsOk g t.kids r.right
def validT (g : Gram) (t : Tree) : Bool := (nodes t).all (nodeOk g)
def checkT (g : Gram) (t : Tree) : Int := if checkG g ≠ 0 then checkG g else if 5000 < (nodes t).length then 2 else if validT g t then 0 else 3

def label (g : Gram) (t : Tree) : Option Sym :=
  if t.rule = -1 ∧ t.kids.length = 0 ∧ 0 ≤ t.term ∧ t.term < g.terms then some ⟨true, t.term⟩
  else if t.rule < 0 ∨ t.term ≠ 0 then none else (g.rules[t.rule.toNat]?).map fun r => ⟨false, r.left⟩
def refNode (g : Gram) (t : Tree) : Bool :=
  (label g t).isSome && (decide (t.rule = -1) || ((t.kids.all fun k => (label g k).isSome) && match g.rules[t.rule.toNat]? with | some r => decide (t.kids.map (label g) = r.right.map some) | none => false))

theorem label_root {g : Gram} {t : Tree} {s : Sym} (h : label g t = some s) : rootS g t = s ∧ -1 ≤ t.rule ∧ t.rule < g.rules.length := by
  unfold label at h
  by_cases h1 : t.rule = -1 ∧ t.kids.length = 0 ∧ 0 ≤ t.term ∧ t.term < g.terms
  · rw [if_pos h1] at h
    simp at h
    subst h
    refine ⟨by simp [rootS, h1.1], by omega, by omega⟩
  · rw [if_neg h1] at h
    by_cases h2 : t.rule < 0 ∨ t.term ≠ 0
    · rw [if_pos h2] at h; simp at h
    · rw [if_neg h2] at h
      cases h3 : g.rules[t.rule.toNat]? with
      | none => rw [h3] at h; simp at h
      | some r =>
        rw [h3] at h
        simp at h
        subst h
        obtain ⟨h4, _⟩ := List.getElem?_eq_some_iff.1 h3
        refine ⟨?_, by omega, by omega⟩
        simp only [rootS, if_neg (show ¬ t.rule < 0 by omega), h3]
theorem nodeOk_label {g : Gram} {t : Tree} (h : nodeOk g t = true) : label g t = some (rootS g t) := by
  unfold nodeOk at h
  unfold label rootS
  by_cases h1 : t.rule = -1
  · rw [if_pos h1] at h
    simp at h
    rw [if_pos ⟨h1, by simp [h.2.2], h.1, h.2.1⟩, if_pos (by omega)]
  · rw [if_neg h1] at h
    by_cases h2 : t.rule < 0
    · rw [if_pos h2] at h; simp at h
    · rw [if_neg h2] at h
      cases h3 : g.rules[t.rule.toNat]? with
      | none => rw [h3] at h; simp at h
      | some r =>
        rw [h3] at h
        simp at h
        rw [if_neg (fun h4 => h1 h4.1), if_neg (by omega), if_neg h2]
        rfl

mutual
theorem kid_node : ∀ (t x k : Tree), x ∈ nodes t → x.rule ≠ -1 → k ∈ x.kids → k ∈ nodes t
  | .node r tm ks, x, k, hx, hr, hk => by
    rw [nodes] at hx ⊢
    rcases List.mem_cons.1 hx with rfl | hx
    · simp only [Tree.rule, Tree.kids] at hr hk
      rw [if_neg hr]
      exact List.mem_cons_of_mem _ (kid_mem ks k hk)
    · by_cases h : r = -1
      · rw [if_pos h] at hx; simp at hx
      · rw [if_neg h] at hx ⊢
        exact List.mem_cons_of_mem _ (kid_nodeL ks x k hx hr hk)
theorem kid_nodeL : ∀ (ks : List Tree) (x k : Tree), x ∈ nodesL ks → x.rule ≠ -1 → k ∈ x.kids → k ∈ nodesL ks
  | [], x, k, hx, _, _ => by simp [nodesL] at hx
  | y :: ks, x, k, hx, hr, hk => by
    rw [nodesL] at hx ⊢
    rcases List.mem_append.1 hx with h | h
    · exact List.mem_append_left _ (kid_node y x k h hr hk)
    · exact List.mem_append_right _ (kid_nodeL ks x k h hr hk)
theorem kid_mem : ∀ (ks : List Tree) (k : Tree), k ∈ ks → k ∈ nodesL ks
  | [], k, h => by simp at h
  | y :: ks, k, h => by
    rw [nodesL]
    rcases List.mem_cons.1 h with rfl | h
    · refine List.mem_append_left _ ?_
      rw [nodes_eq]; exact List.mem_cons_self
    · exact List.mem_append_right _ (kid_mem ks k h)
end

theorem kidsOk_map {g : Gram} : ∀ {ks : List Tree} {l : List Sym}, (∀ k ∈ ks, label g k = some (rootS g k)) → (kidsOk g ks l = true ↔ (∀ k ∈ ks, -1 ≤ k.rule ∧ k.rule < g.rules.length) ∧ ks.map (label g) = l.map some)
  | [], [], _ => by simp [kidsOk]
  | [], _ :: _, _ => by simp [kidsOk]
  | _ :: _, [], _ => by simp [kidsOk]
  | k :: ks, s :: l, h => by
    have ih := kidsOk_map (g := g) (ks := ks) (l := l) (fun x hx => h x (List.mem_cons_of_mem _ hx))
    have hk := h k List.mem_cons_self
    unfold kidsOk at ih ⊢
    simp only [List.length_cons, List.zip_cons_cons, List.all_cons, List.map_cons, Bool.and_eq_true, decide_eq_true_eq] at ih ⊢
    simp only [kidOk, Bool.and_eq_true, decide_eq_true_eq]
    rw [hk]
    constructor
    · rintro ⟨h1, ⟨h2, h3, h4⟩, h5⟩
      obtain ⟨h6, h7⟩ := ih.1 ⟨by omega, h5⟩
      refine ⟨fun x hx => ?_, by rw [h4, h7]⟩
      rcases List.mem_cons.1 hx with rfl | hx
      · exact ⟨h2, h3⟩
      · exact h6 x hx
    · rintro ⟨h1, h2⟩
      simp at h2
      obtain ⟨h3, h4⟩ := ih.2 ⟨fun x hx => h1 x (List.mem_cons_of_mem _ hx), h2.2⟩
      have h5 := h1 k List.mem_cons_self
      exact ⟨by omega, ⟨h5.1, h5.2, h2.1⟩, h4⟩

/-- the two ways agree -/
theorem valid_ref (g : Gram) (t : Tree) : validT g t = (nodes t).all (refNode g) := by
  rw [Bool.eq_iff_iff]
  unfold validT
  rw [List.all_eq_true, List.all_eq_true]
  constructor
  · intro h x hx
    have hl := nodeOk_label (h x hx)
    have hn := h x hx
    unfold refNode
    rw [hl]
    by_cases hr : x.rule = -1
    · simp [hr]
    · have hkl : ∀ k ∈ x.kids, label g k = some (rootS g k) := fun k hk => nodeOk_label (h k (kid_node t x k hx hr hk))
      unfold nodeOk at hn
      rw [if_neg hr] at hn
      by_cases h2 : x.rule < 0
      · rw [if_pos h2] at hn; simp at hn
      · rw [if_neg h2] at hn
        cases h3 : g.rules[x.rule.toNat]? with
        | none => rw [h3] at hn; simp at hn
        | some r =>
          rw [h3] at hn
          simp only [Bool.and_eq_true] at hn
          have h4 := ((kidsOk_map hkl).1 hn.2).2
          have h5 : (x.kids.all fun k => (label g k).isSome) = true := List.all_eq_true.2 fun k hk => by rw [hkl k hk]; rfl
          simp [hr, h4, h5]
  · intro h x hx
    have hn := h x hx
    unfold refNode at hn
    rw [Bool.and_eq_true] at hn
    obtain ⟨s, hs⟩ := Option.isSome_iff_exists.1 hn.1
    unfold nodeOk
    by_cases hr : x.rule = -1
    · rw [if_pos hr]
      unfold label at hs
      by_cases h1 : x.rule = -1 ∧ x.kids.length = 0 ∧ 0 ≤ x.term ∧ x.term < g.terms
      · simp only [h1.2.1, h1.2.2.1, h1.2.2.2]; rfl
      · rw [if_neg h1, if_pos (by omega)] at hs; simp at hs
    · rw [if_neg hr]
      unfold label at hs
      rw [if_neg (fun h1 => hr h1.1)] at hs
      by_cases h2 : x.rule < 0 ∨ x.term ≠ 0
      · rw [if_pos h2] at hs; simp at hs
      · rw [if_neg (by omega)]
        have hm := hn.2
        rw [Bool.or_eq_true] at hm
        rcases hm with hm | hm
        · simp at hm; exact absurd hm hr
        · cases h3 : g.rules[x.rule.toNat]? with
          | none => rw [h3] at hm; simp at hm
          | some r =>
            rw [h3] at hm
            simp only [Bool.and_eq_true, decide_eq_true_eq] at hm ⊢
            have hkl : ∀ k ∈ x.kids, label g k = some (rootS g k) := fun k hk => by
              obtain ⟨y, hy⟩ := Option.isSome_iff_exists.1 (List.all_eq_true.1 hm.1 k hk)
              rw [hy, (label_root hy).1]
            exact ⟨by omega, (kidsOk_map hkl).2 ⟨fun k hk => (label_root (hkl k hk)).2, hm.2⟩⟩
end Go.Proofs.Ytbnpemgmdnghgaa
namespace Go.Proofs.Ytbnpemgmdnghgaa
open Go.RowKit

mutual
/-- all subtrees in preorder -/
def parts : Tree → List Tree
  | .node r t ks => .node r t ks :: partsL ks
def partsL : List Tree → List Tree
  | [] => []
  | k :: ks => parts k ++ partsL ks
end
mutual
/-- their paths -/
def aps : Tree → List (List Int)
  | .node _ _ ks => [] :: apsL 0 ks
def apsL : Nat → List Tree → List (List Int)
  | _, [] => []
  | n, k :: ks => (aps k).map (fun p => (n : Int) :: p) ++ apsL (n + 1) ks
end
mutual
/-- the subtree with the number n replaced -/
def chg : Tree → Int → Tree → Tree × Int
  | .node r t ks, n, b => if n = 0 then (b, -1) else (.node r t (chgL ks (n - 1) b).1, (chgL ks (n - 1) b).2)
def chgL : List Tree → Int → Tree → List Tree × Int
  | [], n, _ => ([], n)
  | k :: ks, n, b => if 0 ≤ n then ((chg k n b).1 :: (chgL ks (chg k n b).2 b).1, (chgL ks (chg k n b).2 b).2) else (k :: (chgL ks n b).1, (chgL ks n b).2)
end
mutual
/-- leaves have no kids, and all rules are there -/
def good (g : Gram) : Tree → Prop
  | .node r _ ks => (r = -1 → ks = []) ∧ -1 ≤ r ∧ r < g.rules.length ∧ goodL g ks
def goodL (g : Gram) : List Tree → Prop
  | [] => True
  | k :: ks => good g k ∧ goodL g ks
end

theorem parts_eq (t : Tree) : parts t = t :: partsL t.kids := by cases t; simp [parts, Tree.kids]
theorem aps_eq (t : Tree) : aps t = [] :: apsL 0 t.kids := by cases t; simp [aps, Tree.kids]
theorem chg_eq (t : Tree) (n : Int) (b : Tree) (h : n ≠ 0) : chg t n b = (.node t.rule t.term (chgL t.kids (n - 1) b).1, (chgL t.kids (n - 1) b).2) := by
  cases t; simp [chg, Tree.kids, Tree.rule, Tree.term, h]
theorem chg_zero (t b : Tree) : chg t 0 b = (b, -1) := by cases t; simp [chg]
theorem good_eq {g : Gram} {t : Tree} : good g t ↔ (t.rule = -1 → t.kids = []) ∧ -1 ≤ t.rule ∧ t.rule < g.rules.length ∧ goodL g t.kids := by cases t; simp [good, Tree.kids, Tree.rule]
theorem goodL_iff {g : Gram} : ∀ {ks : List Tree}, goodL g ks ↔ ∀ k ∈ ks, good g k
  | [] => by simp [goodL]
  | k :: ks => by simp [goodL, goodL_iff (ks := ks)]
theorem partsL_append : ∀ (a b : List Tree), partsL (a ++ b) = partsL a ++ partsL b
  | [], b => by simp [partsL]
  | x :: a, b => by simp [partsL, partsL_append a b]
theorem partsL_take {ks : List Tree} {i : Nat} (h : i < ks.length) : partsL (ks.take (i + 1)) = partsL (ks.take i) ++ parts ks[i] := by
  rw [List.take_succ_eq_append_getElem h, partsL_append]; simp [partsL]
theorem apsL_append : ∀ (a b : List Tree) (n : Nat), apsL n (a ++ b) = apsL n a ++ apsL (n + a.length) b
  | [], b, n => by simp [apsL]
  | x :: a, b, n => by
    rw [List.cons_append, apsL, apsL, apsL_append a b, List.append_assoc, List.length_cons]
    congr 3; omega
theorem apsL_take {ks : List Tree} {i : Nat} (h : i < ks.length) : apsL 0 (ks.take (i + 1)) = apsL 0 (ks.take i) ++ (aps ks[i]).map (fun p => (i : Int) :: p) := by
  rw [List.take_succ_eq_append_getElem h, apsL_append]
  simp [apsL, Nat.min_eq_left (Nat.le_of_lt h)]
theorem chgL_append : ∀ (a c : List Tree) (n : Int) (b : Tree), chgL (a ++ c) n b = ((chgL a n b).1 ++ (chgL c (chgL a n b).2 b).1, (chgL c (chgL a n b).2 b).2)
  | [], c, n, b => by simp [chgL]
  | k :: a, c, n, b => by
    rw [List.cons_append, chgL, chgL]
    by_cases h : 0 ≤ n
    · rw [if_pos h, if_pos h, chgL_append a c]; simp
    · rw [if_neg h, if_neg h, chgL_append a c]; simp
theorem chgL_len : ∀ (ks : List Tree) (n : Int) (b : Tree), (chgL ks n b).1.length = ks.length
  | [], n, b => by simp [chgL]
  | k :: ks, n, b => by
    rw [chgL]
    by_cases h : 0 ≤ n
    · rw [if_pos h]; simp [chgL_len ks]
    · rw [if_neg h]; simp [chgL_len ks]
theorem chgL_take {ks : List Tree} {i : Nat} (h : i < ks.length) (n : Int) (b : Tree) : chgL (ks.take (i + 1)) n b =
    if 0 ≤ (chgL (ks.take i) n b).2 then ((chgL (ks.take i) n b).1 ++ [(chg ks[i] (chgL (ks.take i) n b).2 b).1], (chg ks[i] (chgL (ks.take i) n b).2 b).2) else ((chgL (ks.take i) n b).1 ++ [ks[i]], (chgL (ks.take i) n b).2) := by
  rw [List.take_succ_eq_append_getElem h, chgL_append]
  split <;> rename_i h1 <;> simp [chgL, h1]

mutual
theorem parts_len : ∀ t : Tree, (parts t).length = t.size
  | .node r tm ks => by simp [parts, Tree.size, partsL_len ks]
theorem partsL_len : ∀ ks : List Tree, (partsL ks).length = sizeL ks
  | [] => by simp [partsL, sizeL]
  | k :: ks => by simp [partsL, sizeL, parts_len k, partsL_len ks]
end
mutual
theorem aps_len : ∀ t : Tree, (aps t).length = t.size
  | .node r tm ks => by simp [aps, Tree.size, apsL_len ks]
theorem apsL_len : ∀ (ks : List Tree) (n : Nat), (apsL n ks).length = sizeL ks
  | [], n => by simp [apsL, sizeL]
  | k :: ks, n => by simp [apsL, sizeL, aps_len k, apsL_len ks]
end
mutual
theorem ap_le : ∀ (t : Tree), ∀ p ∈ aps t, p.length < t.size
  | .node r tm ks => by
    rw [aps, Tree.size]
    intro p hp
    rcases List.mem_cons.1 hp with rfl | hp
    · simp
    · have := apL_le ks 0 p hp; omega
theorem apL_le : ∀ (ks : List Tree) (n : Nat), ∀ p ∈ apsL n ks, p.length ≤ sizeL ks
  | [], n => by simp [apsL]
  | k :: ks, n => by
    rw [apsL, sizeL]
    intro p hp
    rw [List.mem_append] at hp
    rcases hp with hp | hp
    · rw [List.mem_map] at hp
      obtain ⟨q, hq, rfl⟩ := hp
      have := ap_le k q hq
      simp; omega
    · have := apL_le ks (n + 1) p hp; omega
end
mutual
theorem part_size : ∀ (t : Tree), ∀ y ∈ parts t, y.size ≤ t.size
  | .node r tm ks => by
    rw [parts]
    intro y hy
    rcases List.mem_cons.1 hy with rfl | hy
    · exact Nat.le_refl _
    · have := partL_size ks y hy; rw [Tree.size]; omega
theorem partL_size : ∀ (ks : List Tree), ∀ y ∈ partsL ks, y.size ≤ sizeL ks
  | [] => by simp [partsL]
  | k :: ks => by
    rw [partsL, sizeL]
    intro y hy
    rcases List.mem_append.1 hy with hy | hy
    · have := part_size k y hy; omega
    · have := partL_size ks y hy; omega
end
mutual
theorem good_part {g : Gram} : ∀ (t : Tree), good g t → ∀ y ∈ parts t, good g y
  | .node r tm ks, h => by
    rw [parts]
    intro y hy
    rcases List.mem_cons.1 hy with rfl | hy
    · exact h
    · rw [good] at h; exact goodL_part ks h.2.2.2 y hy
theorem goodL_part {g : Gram} : ∀ (ks : List Tree), goodL g ks → ∀ y ∈ partsL ks, good g y
  | [], _ => by simp [partsL]
  | k :: ks, h => by
    rw [partsL]
    rw [goodL] at h
    intro y hy
    rcases List.mem_append.1 hy with hy | hy
    · exact good_part k h.1 y hy
    · exact goodL_part ks h.2 y hy
end
mutual
theorem nodes_parts {g : Gram} : ∀ (t : Tree), good g t → nodes t = parts t
  | .node r tm ks, h => by
    rw [good] at h
    rw [nodes, parts]
    by_cases hr : r = -1
    · rw [if_pos hr, h.1 hr, partsL]
    · rw [if_neg hr, nodesL_parts ks h.2.2.2]
theorem nodesL_parts {g : Gram} : ∀ (ks : List Tree), goodL g ks → nodesL ks = partsL ks
  | [], _ => by simp [nodesL, partsL]
  | k :: ks, h => by
    rw [goodL] at h
    rw [nodesL, partsL, nodes_parts k h.1, nodesL_parts ks h.2]
end
theorem nodes_sizeG {g : Gram} {t : Tree} (h : good g t) : (nodes t).length = t.size := by rw [nodes_parts t h, parts_len]
mutual
theorem good_of {g : Gram} : ∀ (t : Tree), (nodes t).all (nodeOk g) = true → good g t
  | .node r tm ks, h => by
    rw [nodes, List.all_cons, Bool.and_eq_true] at h
    obtain ⟨h1, h2⟩ := h
    rw [good]
    by_cases hr : r = -1
    · have hk : ks = [] := by
        simp [nodeOk, Tree.rule, Tree.kids, hr] at h1
        exact h1.2.2
      subst hk
      exact ⟨fun _ => rfl, by omega, by omega, trivial⟩
    · rw [if_neg hr] at h2
      refine ⟨fun e => absurd e hr, ?_, ?_, goodL_of ks h2⟩
      · by_cases h0 : r < 0
        · simp [nodeOk, Tree.rule, hr, h0] at h1
        · omega
      · by_cases h0 : r < 0
        · omega
        · by_cases h3 : r.toNat < g.rules.length
          · omega
          · have e : g.rules[r.toNat]? = none := List.getElem?_eq_none (by omega)
            simp [nodeOk, Tree.rule, hr, h0, e] at h1
theorem goodL_of {g : Gram} : ∀ (ks : List Tree), (nodesL ks).all (nodeOk g) = true → goodL g ks
  | [], _ => trivial
  | k :: ks, h => by
    rw [nodesL, List.all_append, Bool.and_eq_true] at h
    exact ⟨good_of k h.1, goodL_of ks h.2⟩
end

/-- what lies at the paths are the parts -/
theorem aps_parts {g : Gram} : ∀ (m : Nat) (t : Tree), t.size ≤ m → good g t → (aps t).map (belowT t) = (parts t).map some
  | 0, t, hm, _ => by have := t.size_pos; omega
  | m + 1, t, hm, h => by
    rw [aps_eq, parts_eq, List.map_cons, List.map_cons, belowT]
    congr 1
    obtain ⟨h1, -, -, h4⟩ := good_eq.1 h
    rw [Tree.size_eq] at hm
    by_cases hr : t.rule = -1
    · rw [h1 hr]; simp [apsL, partsL]
    · have key : ∀ (ks : List Tree) (n : Nat), t.kids.drop n = ks → sizeL ks ≤ m → goodL g ks → (apsL n ks).map (belowT t) = (partsL ks).map some := by
        intro ks
        induction ks with
        | nil => intro n _ _ _; simp [apsL, partsL]
        | cons k ks ih =>
          intro n hd hs hg
          rw [goodL] at hg
          rw [sizeL] at hs
          rw [apsL, partsL, List.map_append, List.map_append, ih (n + 1) (by rw [← List.drop_drop, hd]; rfl) (by omega) hg.2]
          congr 1
          rw [← aps_parts m k (by omega) hg.1, List.map_map]
          refine List.map_congr_left fun p _ => ?_
          have hk : t.kids[n]? = some k := by rw [← List.head?_drop, hd]; rfl
          have hn0 : ¬ (n : Int) < 0 := by omega
          simp [belowT, kidAt, hr, hk, hn0, Function.comp]
      exact key t.kids 0 rfl (by omega) h4
theorem ap_below {g : Gram} {t : Tree} (h : good g t) (n : Nat) (hn : n < (aps t).length) : belowT t (aps t)[n] = some ((parts t)[n]'(by rw [parts_len, ← aps_len]; exact hn)) := by
  have e := aps_parts _ t (Nat.le_refl _) h
  have hp : n < (parts t).length := by rw [parts_len, ← aps_len]; exact hn
  have h1 : ((aps t).map (belowT t))[n]? = ((parts t).map some)[n]? := by rw [e]
  rw [List.getElem?_map, List.getElem?_map, List.getElem?_eq_getElem hn, List.getElem?_eq_getElem hp] at h1
  simpa using h1

theorem chgL_done : ∀ (ks : List Tree) (b : Tree), chgL ks (-1) b = (ks, -1)
  | [], b => by simp [chgL]
  | k :: ks, b => by rw [chgL, if_neg (by omega), chgL_done ks b]
mutual
theorem chg_past : ∀ (t : Tree) (n : Nat) (b : Tree), t.size ≤ n → chg t n b = (t, (n : Int) - t.size)
  | .node r tm ks, n, b, h => by
    rw [Tree.size] at h
    have h1 := chgL_past ks (n - 1) b (by omega)
    rw [show ((n - 1 : Nat) : Int) = (n : Int) - 1 by omega] at h1
    rw [chg, if_neg (by omega), h1, Tree.size]
    simp; omega
theorem chgL_past : ∀ (ks : List Tree) (n : Nat) (b : Tree), sizeL ks ≤ n → chgL ks n b = (ks, (n : Int) - sizeL ks)
  | [], n, b, h => by simp [chgL, sizeL]
  | k :: ks, n, b, h => by
    rw [sizeL] at h
    have h1 := chg_past k n b (by omega)
    have h2 := chgL_past ks (n - k.size) b (by omega)
    rw [show ((n - k.size : Nat) : Int) = (n : Int) - k.size by omega] at h2
    rw [chgL, if_pos (by omega), h1, h2, sizeL]
    simp; omega
end
theorem mapIdx_if {ks : List Tree} (j : Nat) (f : Tree → Tree) : (ks.mapIdx fun m k => if (m : Int) = (j : Int) then f k else k) = ks.modify j f := by
  refine List.ext_getElem (by simp) fun i h1 h2 => ?_
  simp only [List.getElem_mapIdx, List.getElem_modify]
  by_cases e : j = i
  · rw [if_pos (by omega), if_pos e]
  · rw [if_neg (by omega), if_neg e]
theorem putT_modify (t : Tree) (j : Nat) (p : List Int) (b : Tree) : putT t ((j : Int) :: p) b = .node t.rule t.term (t.kids.modify j fun k => putT k p b) := by
  rw [putT, mapIdx_if j fun k => putT k p b]
mutual
/-- the n-th path replaced is the n-th part changed -/
theorem chg_put : ∀ (t : Tree) (n : Nat) (b : Tree) (h : n < (aps t).length), chg t n b = (putT t (aps t)[n] b, -1)
  | .node r tm ks, n, b, h => by
    cases n with
    | zero => simp [chg, aps, putT]
    | succ n =>
      have hn : n < (apsL 0 ks).length := by simpa [aps] using h
      obtain ⟨j, p, e1, e2, e3⟩ := chgL_put ks 0 n b hn
      rw [chg, if_neg (by omega)]
      rw [show ((n + 1 : Nat) : Int) - 1 = (n : Int) by omega, e3]
      have e4 : (aps (.node r tm ks))[n + 1] = (apsL 0 ks)[n] := by simp [aps]
      rw [e4, e1, Nat.zero_add, putT_modify]
      rfl
theorem chgL_put : ∀ (ks : List Tree) (m n : Nat) (b : Tree) (h : n < (apsL m ks).length), ∃ j p, (apsL m ks)[n] = ((m + j : Nat) : Int) :: p ∧ j < ks.length ∧ chgL ks n b = (ks.modify j (fun k => putT k p b), -1)
  | [], m, n, b, h => by simp [apsL] at h
  | k :: ks, m, n, b, h => by
    by_cases hn : n < (aps k).length
    · refine ⟨0, (aps k)[n], ?_, by simp, ?_⟩
      · simp only [apsL]
        rw [List.getElem_append_left (by simpa using hn)]; simp
      · rw [chgL, if_pos (by omega), chg_put k n b hn, chgL_done]
        simp
    · have hl := h
      simp only [apsL, List.length_append, List.length_map] at hl
      have hs : k.size ≤ n := by rw [← aps_len]; omega
      obtain ⟨j, p, e1, e2, e3⟩ := chgL_put ks (m + 1) (n - k.size) b (by rw [aps_len] at hl; omega)
      refine ⟨j + 1, p, ?_, by simpa using e2, ?_⟩
      · simp only [apsL]
        rw [List.getElem_append_right (by simp; omega)]
        simp only [List.length_map, aps_len]
        rw [e1, show m + 1 + j = m + (j + 1) by omega]
      · rw [chgL, if_pos (by omega), chg_past k n b hs]
        simp only
        rw [show (n : Int) - k.size = ((n - k.size : Nat) : Int) by omega, e3]
        simp
end

theorem sizeL_modify : ∀ (ks : List Tree) (j : Nat) (f : Tree → Tree) (h : j < ks.length), sizeL (ks.modify j f) + ks[j].size = sizeL ks + (f ks[j]).size
  | [], j, f, h => by simp at h
  | k :: ks, 0, f, h => by simp [sizeL]; omega
  | k :: ks, j + 1, f, h => by
    have := sizeL_modify ks j f (by simpa using h)
    simp [sizeL]; omega
theorem kid_some {t : Tree} {i : Int} {k : Tree} (h : kidAt t i = some k) : t.rule ≠ -1 ∧ ∃ j : Nat, i = (j : Int) ∧ ∃ h : j < t.kids.length, t.kids[j] = k := by
  unfold kidAt at h
  split at h
  · cases h
  · rename_i hn
    simp only [not_or] at hn
    obtain ⟨h1, h2⟩ := List.getElem?_eq_some_iff.1 h
    exact ⟨hn.1, i.toNat, by omega, h1, h2⟩
theorem putT_size_eq : ∀ (p : List Int) (t x b : Tree), belowT t p = some x → (putT t p b).size + x.size = t.size + b.size
  | [], t, x, b, h => by simp [belowT] at h; subst h; rw [putT]; omega
  | i :: p, t, x, b, h => by
    rw [belowT] at h
    cases hk : kidAt t i with
    | none => rw [hk] at h; cases h
    | some k =>
      rw [hk] at h
      obtain ⟨_, j, rfl, hj, hjk⟩ := kid_some hk
      have h1 := putT_size_eq p k x b h
      have h2 := sizeL_modify t.kids j (fun k => putT k p b) hj
      rw [putT_modify, Tree.size, Tree.size_eq t]
      simp only [hjk] at h2
      omega
theorem putT_good {g : Gram} : ∀ (p : List Int) (t x b : Tree), belowT t p = some x → good g t → good g b → good g (putT t p b)
  | [], t, x, b, h, _, hb => by rw [putT]; exact hb
  | i :: p, t, x, b, h, ht, hb => by
    rw [belowT] at h
    cases hk : kidAt t i with
    | none => rw [hk] at h; cases h
    | some k =>
      rw [hk] at h
      obtain ⟨hr, j, rfl, hj, hjk⟩ := kid_some hk
      obtain ⟨h1, h2, h3, h4⟩ := good_eq.1 ht
      have hgk : good g k := goodL_iff.1 h4 k (by rw [← hjk]; exact List.getElem_mem hj)
      have h5 := putT_good p k x b h hgk hb
      rw [putT_modify, good]
      refine ⟨fun e => absurd e hr, h2, h3, goodL_iff.2 fun y hy => ?_⟩
      obtain ⟨m, hm, rfl⟩ := List.getElem_of_mem hy
      rw [List.getElem_modify]
      split
      · rename_i e; subst e; rw [hjk]; exact h5
      · exact goodL_iff.1 h4 _ (List.getElem_mem _)

def leftOf (g : Gram) (t : Tree) : Option Int := (g.rules[t.rule.toNat]?).map (·.left)
/-- the trees for a part x with a put: by what lies below it -/
def smallC1 (g : Gram) (t : Tree) (p : List Int) (x y : Tree) : List Tree := if 0 ≤ y.rule ∧ rootS g y = rootS g x then [putT t p y] else []
def smallC (g : Gram) (t : Tree) (p : List Int) : List Tree :=
  if ((belowT t p).getD noTree).rule < 0 then [] else ((aps ((belowT t p).getD noTree)).drop 1).flatMap fun q => smallC1 g t p ((belowT t p).getD noTree) ((belowT ((belowT t p).getD noTree) q).getD noTree)
def smallerC (g : Gram) (t : Tree) : List Tree := (aps t).flatMap (smallC g t)
def smallR1 (g : Gram) (t : Tree) (n : Nat) (x y : Tree) : List Tree := if 0 ≤ y.rule ∧ leftOf g y = leftOf g x then [(chg t n y).1] else []
def smallR (g : Gram) (t : Tree) (n : Nat) (x : Tree) : List Tree := if x.rule < 0 then [] else ((parts x).drop 1).flatMap (smallR1 g t n x)
def smallerR (g : Gram) (t : Tree) : List Tree := (parts t).zipIdx.flatMap fun z => smallR g t z.2 z.1

theorem root_left {g : Gram} {x y : Tree} (hx : 0 ≤ x.rule) (hxl : x.rule < g.rules.length) (hy : 0 ≤ y.rule) (hyl : y.rule < g.rules.length) : (rootS g y = rootS g x) ↔ (leftOf g y = leftOf g x) := by
  have e1 : g.rules[x.rule.toNat]? = some (g.rules[x.rule.toNat]'(by omega)) := List.getElem?_eq_getElem _
  have e2 : g.rules[y.rule.toNat]? = some (g.rules[y.rule.toNat]'(by omega)) := List.getElem?_eq_getElem _
  simp only [rootS, leftOf, e1, e2, if_neg (show ¬ x.rule < 0 by omega), if_neg (show ¬ y.rule < 0 by omega)]
  simp
theorem flatMap_ext {α β γ : Type} {f : α → List γ} {h : β → List γ} {l : List α} {m : List β} (hl : l.length = m.length) (he : ∀ i (h1 : i < l.length) (h2 : i < m.length), f l[i] = h m[i]) : l.flatMap f = m.flatMap h := by
  rw [List.flatMap_def, List.flatMap_def]
  congr 1
  refine List.ext_getElem (by simpa using hl) fun i h1 h2 => ?_
  rw [List.getElem_map, List.getElem_map]
  exact he i (by simpa using h1) (by simpa using h2)
theorem flatMap_le {α β : Type} {f : α → List β} {c : Nat} : ∀ {l : List α}, (∀ a ∈ l, (f a).length ≤ c) → (l.flatMap f).length ≤ l.length * c
  | [], _ => by simp
  | a :: l, h => by
    have h1 := flatMap_le (f := f) (c := c) (l := l) fun x hx => h x (List.mem_cons_of_mem _ hx)
    have h2 := h a List.mem_cons_self
    simp only [List.flatMap_cons, List.length_append, List.length_cons, Nat.add_mul]; omega
theorem flatMap_take {α β : Type} (f : α → List β) {l : List α} {i : Nat} (h : i < l.length) : (l.take (i + 1)).flatMap f = (l.take i).flatMap f ++ f l[i] := by
  rw [List.take_succ_eq_append_getElem h, List.flatMap_append]; simp

theorem small_agree {g : Gram} {t : Tree} (h : good g t) : smallerC g t = smallerR g t := by
  unfold smallerC smallerR
  refine flatMap_ext (by simp [aps_len, parts_len]) fun n h1 h2 => ?_
  have hp : n < (parts t).length := by rw [parts_len, ← aps_len]; exact h1
  have hb := ap_below h n h1
  rw [List.getElem_zipIdx]
  simp only [Nat.zero_add]
  obtain ⟨x, hx⟩ : ∃ x, x = (parts t)[n] := ⟨_, rfl⟩
  rw [← hx] at hb ⊢
  have hxm : x ∈ parts t := by rw [hx]; exact List.getElem_mem hp
  have hgx := good_part t h x hxm
  unfold smallC smallR
  rw [hb, Option.getD_some]
  by_cases hr : x.rule < 0
  · rw [if_pos hr, if_pos hr]
  · rw [if_neg hr, if_neg hr]
    refine flatMap_ext (by simp [aps_len, parts_len]) fun m h3 h4 => ?_
    have h5 : 1 + m < (aps x).length := by simp at h3; omega
    have hb2 := ap_below hgx (1 + m) h5
    rw [List.getElem_drop, List.getElem_drop, hb2, Option.getD_some]
    obtain ⟨y, hy⟩ : ∃ y, y = (parts x)[1 + m]'(by rw [parts_len, ← aps_len]; exact h5) := ⟨_, rfl⟩
    rw [← hy]
    have hgy := good_part x hgx y (by rw [hy]; exact List.getElem_mem _)
    unfold smallC1 smallR1
    rw [chg_put t n y h1]
    by_cases hy0 : 0 ≤ y.rule
    · have e := root_left (g := g) (x := x) (y := y) (by omega) (good_eq.1 hgx).2.2.1 hy0 (good_eq.1 hgy).2.2.1
      simp only [e]
    · simp [hy0]
theorem smallC_mem {g : Gram} {t : Tree} (h : good g t) {n : Nat} (hn : n < (aps t).length) {v : Tree} (hv : v ∈ smallC g t (aps t)[n]) : good g v ∧ v.size < t.size := by
  have hb := ap_below h n hn
  unfold smallC at hv
  rw [hb, Option.getD_some] at hv
  have hxm := List.getElem_mem (l := parts t) (n := n) (by rw [parts_len, ← aps_len]; exact hn)
  obtain ⟨x, hx⟩ : ∃ x, x = (parts t)[n]'(by rw [parts_len, ← aps_len]; exact hn) := ⟨_, rfl⟩
  rw [← hx] at hb hv hxm
  have hgx := good_part t h x hxm
  split at hv
  · simp at hv
  · rw [List.mem_flatMap] at hv
    obtain ⟨q, hq, hv⟩ := hv
    obtain ⟨m, hm, rfl⟩ := List.getElem_of_mem hq
    have h5 : 1 + m < (aps x).length := by simp at hm; omega
    rw [List.getElem_drop, ap_below hgx (1 + m) h5, Option.getD_some] at hv
    obtain ⟨y, hy⟩ : ∃ y, y = (parts x)[1 + m]'(by rw [parts_len, ← aps_len]; exact h5) := ⟨_, rfl⟩
    rw [← hy] at hv
    have hym : y ∈ partsL x.kids := by
      have : (parts x)[1 + m]'(by rw [parts_len, ← aps_len]; exact h5) ∈ partsL x.kids := by
        have e : partsL x.kids = (parts x).drop 1 := by rw [parts_eq]; rfl
        rw [e, ← List.getElem_drop (h := by simp [parts_len]; rw [aps_len] at h5; omega)]
        exact List.getElem_mem _
      rw [hy]; exact this
    have hgy := good_part x hgx y (by rw [parts_eq]; exact List.mem_cons_of_mem _ hym)
    have hys := partL_size x.kids y hym
    unfold smallC1 at hv
    split at hv
    · rw [List.mem_singleton] at hv
      subst hv
      refine ⟨putT_good _ t x y hb h hgy, ?_⟩
      have := putT_size_eq _ t x y hb
      rw [Tree.size_eq x] at this
      omega
    · simp at hv
theorem small_mem {g : Gram} {t v : Tree} (h : good g t) (hv : v ∈ smallerC g t) : good g v ∧ v.size < t.size := by
  unfold smallerC at hv
  rw [List.mem_flatMap] at hv
  obtain ⟨p, hp, hv⟩ := hv
  obtain ⟨n, hn, rfl⟩ := List.getElem_of_mem hp
  exact smallC_mem h hn hv

def least (g : Gram) (F : Tree → Bool) : Nat → Tree → Tree
  | 0, t => t
  | m + 1, t => match (smallerR g t).find? F with
    | some v => least g F m v
    | none => t
theorem least_hit {g : Gram} {F : Tree → Bool} {m i : Nat} {t : Tree} (hi : i < (smallerR g t).length) (hF : F (smallerR g t)[i] = true) (hn : ∀ j (h : j < i), F ((smallerR g t)[j]'(by omega)) = false) : least g F (m + 1) t = least g F m (smallerR g t)[i] := by
  have e : (smallerR g t).find? F = some (smallerR g t)[i] := by
    rw [List.find?_eq_some_iff_getElem]
    exact ⟨hF, i, hi, rfl, fun j hj => by rw [hn j hj]; rfl⟩
  rw [least, e]
theorem least_end {g : Gram} {F : Tree → Bool} {m : Nat} {t : Tree} (hn : ∀ j (h : j < (smallerR g t).length), F (smallerR g t)[j] = false) : least g F (m + 1) t = t := by
  have e : (smallerR g t).find? F = none := by
    rw [List.find?_eq_none]
    intro x hx
    obtain ⟨j, hj, rfl⟩ := List.getElem_of_mem hx
    rw [hn j hj]; decide
  rw [least, e]
end Go.Proofs.Ytbnpemgmdnghgaa
namespace Go.Proofs.Ytbnpemgmdnghgaa
open Go.RowKit

theorem treeBox {w0 : World} {t : Tree} {v : Value} (hv : Rd AnyB w0 (.sl (t.kids.map Tree.d)) [v]) : ∃ a n cap, v = .slice a n cap := by
  obtain ⟨a, cap, rfl, _⟩ := hv.form; exact ⟨a, _, cap, rfl⟩

def SizeI (w0 : World) (nb : Nat) (s : List Tree) (S : Nat → Prop) (W : World) : Prop :=
  Below w0.heap.size w0 W ∧ w0.heap.size ≤ nb ∧ W.heap[nb]? = some (.cells #[.int .i64 s.length] 3 (0, 0)) ∧ ∀ k, S k ↔ k = nb

set_option maxHeartbeats 400000 in
theorem sizeF (w0 : World) (nb N : Nat) (hN : N ≤ 4611686018427387904) : NodeFn 44 #[.pointer (some ⟨nb, 0, none⟩)] w0 (fun _ => true) N (SizeI w0 nb) where
  below := fun h => h.1
  own := fun {s S W} h k hk => by
    obtain ⟨h1, h2, h3, h4⟩ := h
    rw [h4] at hk
    subst hk
    exact ⟨h2, (Array.getElem?_eq_some_iff.1 h3).1⟩
  keep := fun {s S W W'} h hb => ⟨h.1.trans (hb.mono h.1.size), h.2.1, bx_keep h.2.2.1 hb, h.2.2.2⟩
  call := by
    intro s S W t v h hv hs
    obtain ⟨a, n, cap, rfl⟩ := treeBox hv
    obtain ⟨h1, h2, h3, h4⟩ := h
    have H1 := Lib.hid h1
    have H3 := Lib.hid h3
    have H4 := Lib.hid h4
    have c0 := bx_cells1 h3
    have f0 := bx_free1 h3
    have hlt := (Array.getElem?_eq_some_iff.1 h3).1
    obtain ⟨m, HM⟩ := nameIt s.length
    rw [HM.out] at c0 hs
    clear h1 h3 h4 hv
    go_enter Try.func44, Try.ntmps44
    go_wp2
    go_ret
    obtain ⟨W', HW⟩ := nameIt (W.setCell ⟨nb, 0, none⟩ (.int .i64 (m + 1)))
    rw [HW.out]
    have hb := (Below.refl W'.heap.size W').alloc (Nat.le_refl _) (.cells #[.int .i64 t.rule, .int .i64 t.term, .slice a n cap] 42)
    have h3 := bx_set H3.out 0 (.int .i64 (m + 1))
    have h1 := H1.out.setCell (p := ⟨nb, 0, none⟩) h2 (.int .i64 (m + 1))
    rw [HW.out] at h3 h1
    refine ⟨S, rfl, ⟨h1.trans (hb.mono h1.size), h2, ?_, H4.out⟩, ?_, fun k h => .inl h⟩
    · rw [bx_keep h3 hb]; simp [HM.out]
    · have hk : Keeps S W W' := by
        rw [← HW.out]
        exact ⟨rfl, rfl, rfl, by simp [World.setCell], fun k hk hn => Below.heap_setCell _ _ _ _ (fun e => hn ((H4.out k).2 e))⟩
      exact hk.trans (Below.keeps (S := S) hb) (fun k h => .inl h)

set_option maxHeartbeats 400000 in
theorem sizeE (t : Tree) (v : Value) (w : World) (hv : Rd AnyB w (.sl (t.kids.map Tree.d)) [v]) (hN : (nodes t).length ≤ 4611686018427387904) :
    Calls Try.prog 22 #[.agg #[.int .i64 t.rule, .int .i64 t.term, v]] w fun e w' => e = .returned (.int .i64 (nodes t).length) ∧ Below w.heap.size w w' := by
  obtain ⟨a, n, cap, rfl⟩ := treeBox hv
  have HV := Lib.hid hv
  have hI : SizeI w (w.heap.size + 1) [] (fun k => k = w.heap.size + 1) ((w.alloc (.cells #[.int .i64 t.rule, .int .i64 t.term, .slice a n cap] 42)).alloc (.cells #[.int .i64 0] 3)) :=
    ⟨((Below.refl _ _).alloc (Nat.le_refl _) _).alloc (by simp) _, by omega, bx_new _ _ _ (by simp), fun _ => Iff.rfl⟩
  have hw := walkE 44 #[.pointer (some ⟨w.heap.size + 1, 0, none⟩)] w (fun _ => true) (nodes t).length _ (fun _ _ => by kernel_rfl) (sizeF w (w.heap.size + 1) (nodes t).length hN) (nodes t).length t _ [] _ _ (Nat.le_refl _) hI hv (by simp)
  have HW := Lib.hid hw
  clear hw hI hv hN
  go_enter Try.func22, Try.ntmps22
  go_wp2_with fail
  refine HW.out.mono ?_
  rintro e w1 ⟨S', rfl, ⟨h1, h2, h3, h4⟩, h5, h6⟩
  rw [upTo_all (by simp)] at h3
  simp only [List.nil_append] at h3
  have c0 := bx_cells1 h3
  have HB := Lib.hid h1
  clear h1 h2 h3 h4 h5 h6
  go_wp2
  go_ret
  exact ⟨rfl, HB.out⟩
end Go.Proofs.Ytbnpemgmdnghgaa
