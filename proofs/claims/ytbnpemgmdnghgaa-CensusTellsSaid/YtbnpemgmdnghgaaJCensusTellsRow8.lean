/- parlref5.lister.fits. A row of one-cell values in memory, written in place. The contract of grid, of whole numbers. What parlref5.heights.row keeps. A region that draws its order: a head that only loads what was there and calls what makes new memory only, then a tail in one forced order. -/
import Derived.Test.YtbnpemgmdnghgaaJCensusTellsRow2
import Derived.Test.YtbnpemgmdnghgaaJCensusTellsRow5
import Derived.Test.YtbnpemgmdnghgaaJCensusTellsRow7
import Derived.Deep.DeepCutAuto
import Derived.StillTailTactics
import Derived.BigQuiet
import Derived.Test.YtbnpemgmdnghgaaJCensusTellsRow1
import Derived.Deep.OwnRows
import Derived.Deep.LoopGhost
import Derived.Test.YtbnpemgmdnghgaaJCensusTellsRow6
import Derived.Test.YtbnpemgmdnghgaaJCensusTellsRow3
import Derived.Test.YtbnpemgmdnghgaaJCensusTellsRow4
import Derived.StillTail
namespace Go.Proofs.Ytbnpemgmdnghgaa
open Go.RowKit
namespace Cs

theorem stB_has (H : Nat → Nat → Bool) (s : Sym) (j : Nat) : Ln.stB H s j = hasK H s j := by
  unfold Ln.stB hasK
  cases s.term <;> simp [BEq.beq]
theorem canK_snoc {S : Nat → Nat → Bool} {s : Sym} : ∀ {l : List Sym} {k : Nat}, canK S (l ++ [s]) k = true ↔ ∃ i j, i + j = k ∧ canK S l i = true ∧ hasK S s j = true
  | [], k => by
    rw [List.nil_append, canK_cons]
    constructor
    · rintro ⟨i, hi, h1, h2⟩
      have : k - i = 0 := by simpa [canK] using h2
      exact ⟨0, i, by omega, rfl, h1⟩
    · rintro ⟨i, j, hij, h1, h2⟩
      have : i = 0 := by simpa [canK] using h1
      subst this
      exact ⟨j, by omega, h2, by simp [canK]; omega⟩
  | x :: l, k => by
    rw [List.cons_append, canK_cons]
    constructor
    · rintro ⟨i, hi, h1, h2⟩
      obtain ⟨a, b, hab, h3, h4⟩ := canK_snoc.1 h2
      exact ⟨i + a, b, by omega, canK_cons.2 ⟨i, by omega, h1, by rw [Nat.add_sub_cancel_left]; exact h3⟩, h4⟩
    · rintro ⟨i, j, hij, h1, h2⟩
      obtain ⟨a, ha, h3, h4⟩ := canK_cons.1 h1
      exact ⟨a, by omega, h3, canK_snoc.2 ⟨i - a, j, by omega, h4, h2⟩⟩
theorem atR_canK (H : Nat → Nat → Bool) (n : Nat) (l : List Sym) : ∀ q, q ≤ l.length → ∀ m, m ≤ n → Ln.atR H n (l.take q) m = canK H (l.take q) m := by
  intro q
  induction q with
  | zero => intro _ m _; simp [Ln.atR, canK, BEq.beq]
  | succ q ih =>
    intro hq m hm
    rw [List.take_succ_eq_append_getElem (by omega), Ln.atR_snoc, Bool.eq_iff_iff, Ln.nxt_iff, canK_snoc]
    constructor
    · rintro ⟨_, i, j, hij, h1, h2⟩
      exact ⟨i, j, hij, by rw [← ih (by omega) i (by omega)]; exact h1, by rw [← stB_has]; exact h2⟩
    · rintro ⟨i, j, hij, h1, h2⟩
      exact ⟨hm, i, j, hij, by rw [ih (by omega) i (by omega)]; exact h1, by rw [stB_has]; exact h2⟩
/-- the lister in memory -/
structure LE (g : Gram) (ra : Option Addr) (rcap N n : Nat) (lb most bt : Nat) (rb : Nat → Nat) (H : Nat → Nat → Bool) (w1 : World) : Prop where
  box : w1.heap[lb]? = some (.cells #[.int .i64 g.terms, .int .i64 g.nons, .int .i64 g.start, .slice ra g.rules.length rcap, .slice (some ⟨bt, 0, none⟩) N N, .int .i64 (most : Int)] 93 (0, 0))
  tab : Grd 51 4 0 bt N (n + 1) N rb (fun i j => .bool (H i j)) w1
  rules : Rd AnyB w1 (.sl (g.rules.map Rule.d)) [.slice ra g.rules.length rcap]
theorem bx_cells6c {w : World} {b : Nat} {x0 x1 x2 x3 x4 x5 : Value} {T : TypeId} (h : w.heap[b]? = some (.cells #[x0, x1, x2, x3, x4, x5] T (0, 0))) :
    w.cell? ⟨b, 0, none⟩ = some x0 ∧ w.cell? ⟨b, 0 + 1, none⟩ = some x1 ∧ w.cell? ⟨b, 0 + 2, none⟩ = some x2 ∧ w.cell? ⟨b, 0 + 3, none⟩ = some x3 ∧ w.cell? ⟨b, 0 + 4, none⟩ = some x4 ∧ w.cell? ⟨b, 0 + 5, none⟩ = some x5 := by
  refine ⟨?_, ?_, ?_, ?_, ?_, ?_⟩ <;> simp [World.cell?, h]
/-- what the rounds over the places keep -/
structure FI (W : World) (sx : Nat) (SB : Array Value) (ga : Nat) (A : Nat → Bool) (gn : Nat) (M : Nat → Bool) (m : Nat) (wr : World) : Prop where
  bel : Below W.heap.size W wr
  sbox : wr.heap[sx]? = some (.cells SB 65 (0, 0))
  arow : Ln.Brow ga m A wr
  nrow : Ln.Brow gn m M wr
  ne : W.heap.size ≤ gn ∧ gn ≠ sx ∧ gn ≠ ga
section
variable {W : World} {sx : Nat} {SB : Array Value} {ga : Nat} {A : Nat → Bool} {gn : Nat} {M M' : Nat → Bool} {m : Nat} {wr w' : World}
theorem FI.eq (h : FI W sx SB ga A gn M m wr) (he : ∀ k, k < m → M k = M' k) : FI W sx SB ga A gn M' m wr := ⟨h.bel, h.sbox, h.arow, h.nrow.eq he, h.ne⟩
theorem FI.keep (h : FI W sx SB ga A gn M m wr) (hb : Below wr.heap.size wr w') : FI W sx SB ga A gn M m w' := ⟨h.bel.trans (hb.mono h.bel.size), bx_keep h.sbox hb, h.arow.keep hb, h.nrow.keep hb, h.ne⟩
theorem Brow.setV (h : Ln.Brow gn m M wr) {j : Nat} {x : Bool} (hj : j < m) (he : ∀ k, k < m → M' k = if k = j then x else M k) : Ln.Brow gn m M' (wr.setCell ⟨gn, j, none⟩ (.bool x)) := by
  obtain ⟨cs, h1, h2, h3⟩ := h
  refine ⟨cs.setIfInBounds j (.bool x), bx_set h1 _ _, by simpa using h2, fun k hk => ?_⟩
  rw [Array.getElem?_setIfInBounds, he k hk]
  by_cases e : j = k
  · subst e; rw [if_pos rfl, if_pos (by omega)]; simp
  · rw [if_neg e, h3 k hk, if_neg (fun h => e h.symm)]
theorem FI.set (h : FI W sx SB ga A gn M m wr) {j : Nat} {x : Bool} (hj : j < m) (he : ∀ k, k < m → M' k = if k = j then x else M k) : FI W sx SB ga A gn M' m (wr.setCell ⟨gn, j, none⟩ (.bool x)) := by
  obtain ⟨h1, h2, h3, h4, e1, e2, e3⟩ := h
  exact ⟨h1.setCell (p := ⟨gn, j, none⟩) e1 _, bx_other h2 (fun e => e2 e.symm) _ _, h3.other (fun e => e3 e.symm) _ _, Brow.setV h4 hj he, e1, e2, e3⟩
end

set_option maxHeartbeats 16000000 in
set_option maxRecDepth 100000 in
theorem fitsE {g : Gram} {ra : Option Addr} {rcap N nn : Nat} {lb most bt : Nat} {rb : Nat → Nat} {H : Nat → Nat → Bool} {w1 : World} (h : LE g ra rcap N nn lb most bt rb H w1) (hnn : nn ≤ 400) (R : List Sym) (hR : ∀ s ∈ R, okS N s) (n : Nat) (hn : n ≤ nn) (av : Option Addr) (cv : Nat) (hrd : Rd AnyB w1 (.sl (R.map Sym.d)) [.slice av R.length cv])
    (W : World) (hW : Below w1.heap.size w1 W) :
    Calls Try.prog 71 #[.pointer (some ⟨lb, 0, none⟩), .slice av R.length cv, .int .i64 (n : Int)] W fun e w' => e = .returned (.bool (canK H R n)) ∧ Below W.heap.size W w' := by
  have hn400 : n ≤ 400 := by omega
  obtain ⟨PST, HP⟩ := nameIt (fun (e : Ending) (w' : World) => e = .returned (.bool (canK H R n)) ∧ Below W.heap.size W w')
  rw [HP.out]
  have HFIN : Hid (∀ (b : Bool) w', b = canK H R n → Below W.heap.size W w' → PST (.returned (.bool b)) w') := by
    rintro b w' rfl h; rw [← HP.out]; exact ⟨rfl, h⟩
  have hmk2 : ∀ W : World, (Instr.makeSlice 51 (.int .i64 ((n : Int) + 1)) (.int .i64 ((n : Int) + 1))).run Try.prog W = .ok (.slice (some ⟨W.heap.size, 0, none⟩) (n + 1) (n + 1)) (W.alloc (.cells (madeCells #[.bool false] (n + 1)) 4)) := fun W => by
    have := run_make_row' (P := Try.prog) 51 4 (.bool false) 1 Try.underlying51 (by kernel_rfl) rfl .i64 .i64 (n + 1) (by omega) (by omega) W
    simpa using this
  have hbs := hrd.bounds.2
  unfold maxLen at hbs
  obtain ⟨hcv1, hcv2⟩ := hbs
  have HKR := Lib.hid hrd
  have HOKS := Lib.hid hR
  have hlb := (Array.getElem?_eq_some_iff.1 h.box).1
  have HLB : Hid (∀ W', Below w1.heap.size w1 W' → W'.cell? ⟨lb, 0 + 4, none⟩ = some (.slice (some ⟨bt, 0, none⟩) N N)) := fun W' hb => (bx_cells6c ((hb.block lb hlb).trans h.box)).2.2.2.2.1
  have HTB : Hid (∀ W' a k, Below w1.heap.size w1 W' → a < N → k ≤ nn → W'.cell? ⟨bt, a, none⟩ = some (.slice (some ⟨rb a, 0, none⟩) (nn + 1) (nn + 1)) ∧ W'.cell? ⟨rb a, k, none⟩ = some (.bool (H a k))) := by
    intro W' a k hb ha hk
    have t0 := h.tab.hdr ha ha
    have t1 := h.tab.cell ha ha (show k < nn + 1 by omega)
    exact ⟨(hb.cell (lt_of_cell t0)).trans t0, (hb.cell (lt_of_cell t1)).trans t1⟩
  have HATR : Hid (∀ m, m ≤ n → Ln.atR H n (R.take R.length) m = canK H R m) := by
    intro m hm
    rw [atR_canK H n R R.length (Nat.le_refl _) m hm, List.take_length]
  have HWW := Lib.hid hW
  obtain ⟨ga0, HGA⟩ := nameIt W.heap.size
  have hbr0 := Ln.brow_new W (n + 1) HGA.out.symm
  obtain ⟨w5, HW5⟩ := nameIt (W.alloc (.cells (madeCells #[.bool false] (n + 1)) 4))
  rw [HW5.out] at hbr0
  have hb5 : Below W.heap.size W w5 := by rw [← HW5.out]; exact (Below.refl _ _).alloc (Nat.le_refl _) _
  have e0 := hbr0.cell (k := 0) (by omega)
  have f0 := hbr0.free 0
  have hn1 : (0 : Int) < (n : Int) + 1 := by omega
  have HBR : Hid (Ln.Brow ga0 (n + 1) (Ln.atR H n (R.take 0)) (w5.setCell ⟨ga0, 0, none⟩ (.bool true))) := hbr0.set (by omega) (fun k _ => by by_cases e : k = 0 <;> simp [Ln.atR, e])
  have HB6 : Hid (Below W.heap.size W (w5.setCell ⟨ga0, 0, none⟩ (.bool true))) := hb5.setCell (p := ⟨ga0, 0, none⟩) (by show W.heap.size ≤ ga0; rw [HGA.out]; exact Nat.le_refl _) _
  obtain ⟨w6, HW6⟩ := nameIt (w5.setCell ⟨ga0, 0, none⟩ (.bool true))
  rw [HW6.out] at HBR HB6
  have HGAL : Hid (W.heap.size ≤ ga0) := by show _ ≤ _ ; rw [← HGA.out]; exact Nat.le_refl _
  clear hb5 hbr0 hrd hR h hW hlb HP
  go_enter Try.func71, Try.ntmps71
  go_upto_region 2 with fail
  rw [HW5.out, HGA.out]
  go_upto_region 3 with fail
  rw [HW6.out]
  go_wp2_with fail
  clear e0 f0 HW5 HW6 HGA
  go_loopg [7, 21] R.length (fun gg v7 v21 wr => ∃ (q ga : Nat), q ≤ R.length ∧ R.length - q ≤ gg ∧ v21 = .int .i64 q ∧ v7 = .slice (some ⟨ga, 0, none⟩) (n + 1) (n + 1) ∧ Hid (W.heap.size ≤ ga) ∧ Hid (Ln.Brow ga (n + 1) (Ln.atR H n (R.take q)) wr) ∧ Hid (Below W.heap.size W wr))
  case atStart => exact ⟨0, ga0, by omega, by omega, rfl, rfl, HGAL, HBR, HB6⟩
  case round =>
    clear HBR HB6 HGAL
    obtain ⟨wq, rfl⟩ : ∃ wq : World, wq = wr := ⟨_, rfl⟩
    obtain ⟨q, ga, hq, hgq, rfl, rfl, HGL, HBR, HBQ⟩ := hrel
    have HBW := Lib.hid (HWW.out.trans (HBQ.out.mono HWW.out.size))
    by_cases hqR : q < R.length
    · have hqR' : (q : Int) < (R.length : Int) := by omega
      obtain ⟨b', off', hae', -, hbl', d0, d1⟩ := HKR.out.sym_at hqR
      have e0 := (HBW.out.cell (p := ⟨b', off' + q * 2, none⟩) (lt_of_cell d0)).trans d0
      have e1 := (HBW.out.cell (p := ⟨b', off' + q * 2 + 1, none⟩) (lt_of_cell d1)).trans d1
      have HTK : Hid (R.take (q + 1) = R.take q ++ [R[q]'hqR]) := List.take_succ_eq_append_getElem hqR
      have hsb := HOKS.out R[q] (List.getElem_mem hqR)
      obtain ⟨s, HSn⟩ := nameIt (R[q]'hqR)
      rw [HSn.out] at e0 e1 HTK hsb
      unfold okS at hsb
      obtain ⟨A, HA⟩ := nameIt (Ln.atR H n (R.take q))
      have HNX : Hid (Ln.atR H n (R.take (q + 1)) = Ln.nxt H n s A) := by show _ = _; rw [HTK.out, Ln.atR_snoc, HA.out]
      rw [HA.out] at HBR
      obtain ⟨stb, HST⟩ := nameIt s.term
      obtain ⟨sn, HSN⟩ := nameIt s.n
      rw [HST.out] at e0 hsb
      rw [HSN.out] at e1 hsb
      have HSB : Hid (∀ l, Ln.stB H s l = if stb then l == 1 else H sn.toNat l) := fun l => by unfold Ln.stB; rw [HST.out, HSN.out]
      obtain ⟨w7, HW7⟩ := nameIt (wq.alloc (.cells #[.bool stb, .int .i64 sn] 65))
      have hb7 : Below wq.heap.size wq w7 := by rw [← HW7.out]; exact (Below.refl _ _).alloc (Nat.le_refl _) _
      have X7 : w7.heap[wq.heap.size]? = some (.cells #[.bool stb, .int .i64 sn] 65 (0, 0)) := by rw [← HW7.out]; exact bx_new _ _ _ rfl
      have hs7 : w7.heap.size = wq.heap.size + 1 := by rw [← HW7.out]; simp
      obtain ⟨gx, HGX⟩ := nameIt w7.heap.size
      obtain ⟨w8, HW8⟩ := nameIt (w7.alloc (.cells (madeCells #[.bool false] (n + 1)) 4))
      have hb8 : Below w7.heap.size w7 w8 := by rw [← HW8.out]; exact (Below.refl _ _).alloc (Nat.le_refl _) _
      have hbr8 := Ln.brow_new w7 (n + 1) HGX.out.symm
      rw [HW8.out] at hbr8
      have hgxl : W.heap.size ≤ gx := by have h4 := HGX.out; have h5 := HBQ.out.size; omega
      have HRI0 : Hid (FI W wq.heap.size #[.bool stb, .int .i64 sn] ga A gx (Ln.midN H n s A 0 0) (n + 1) w8) := by
        have h2 := HBR.out.lt
        have h4 := HGX.out
        exact ⟨(HBQ.out.trans (hb7.mono HBQ.out.size)).trans (hb8.mono (by have h5 := HBQ.out.size; omega)), bx_keep X7 hb8, (HBR.out.keep hb7).keep hb8, hbr8.eq (fun k _ => (Ln.midN_start H n s A k).symm), hgxl, by omega, by omega⟩
      have HGXL := Lib.hid hgxl
      obtain ⟨sx, HSX⟩ := nameIt wq.heap.size
      rw [HSX.out] at HRI0
      have hbl8 : b' < wq.heap.size := Nat.lt_of_lt_of_le hbl' HBW.out.size
      subst hae'
      clear d0 d1 hb7 hb8 X7 hs7 hbr8 hgxl
      go_upto_region 6 with fail
      rw [HW7.out, HSX.out]
      go_upto_region 7 with fail
      rw [HW8.out, HGX.out]
      go_wp2_with fail
      clear e0 e1
      go_loopg [11, 12, 13, 30] (n + 1) (fun gg v11 v12 v13 v30 wr => ∃ i : Nat, i ≤ n + 1 ∧ n + 1 - i ≤ gg ∧ v30 = .int .i64 i ∧ Hid (FI W sx #[.bool stb, .int .i64 sn] ga A gx (Ln.midN H n s A i 0) (n + 1) wr))
      case atStart => exact ⟨0, by omega, by omega, rfl, HRI0⟩
      case round =>
        clear HRI0
        obtain ⟨i, hi, hgi, rfl, HRI⟩ := hrel
        by_cases hin : i < n + 1
        · have hin' : (i : Int) < (n : Int) + 1 := by omega
          have hi0 : (0 : Int) ≤ (i : Int) := by omega
          have a0 := HRI.out.arow.cell hin
          obtain ⟨ab, HAB⟩ := nameIt (A i)
          rw [HAB.out] at a0
          have HRJ := HRI
          go_wp2_with fail
          clear a0
          go_loopg [13] (n + 1) (fun gg v13 wr => ∃ l : Nat, i + l ≤ n + 1 ∧ n + 1 - l ≤ gg ∧ v13 = .int .i64 l ∧ Hid (FI W sx #[.bool stb, .int .i64 sn] ga A gx (Ln.midN H n s A i l) (n + 1) wr))
          case atStart => exact ⟨0, by omega, by omega, rfl, HRJ⟩
          case round =>
            clear HRJ HRI
            obtain ⟨l, hl, hgl, rfl, HRI⟩ := hrel
            obtain ⟨wl, rfl⟩ : ∃ ww : World, ww = wr := ⟨_, rfl⟩
            have hil : IntKind.i64.wrap ((i : Int) + (l : Int)) = (i : Int) + (l : Int) := IntWalk.i64_in _ (by omega)
            cases ab with
            | false =>
              have HRN : Hid (FI W sx #[.bool stb, .int .i64 sn] ga A gx (Ln.midN H n s A (i + 1) 0) (n + 1) wl) := HRI.out.eq (fun k _ => Ln.midN_row (.inl HAB.out) k)
              go_wp2_with fail
              go_roundg (n + 1 - (i + 1))
              case measure => omega
              case rel => exact ⟨i + 1, by omega, by omega, by go_num, HRN⟩
            | true =>
              by_cases hle : i + l ≤ n
              · have hle' : (i : Int) + (l : Int) ≤ (n : Int) := by omega
                have hle2 : decide ((i : Int) + (l : Int) ≤ (n : Int)) = true := by simpa using hle'
                obtain ⟨z0, z1⟩ := bx_cells2 HRI.out.sbox
                obtain ⟨sv, HSV⟩ := nameIt (Ln.stB H s l)
                have hsv : (if stb then l == 1 else H sn.toNat l) = sv := by rw [← HSV.out, HSB.out l]
                have hil0 : (0 : Int) ≤ (i : Int) + (l : Int) := by omega
                have hil1 : (i : Int) + (l : Int) < (n : Int) + 1 := by omega
                have u0 := HRI.out.nrow.cell (show i + l < n + 1 by omega)
                have u1 := HRI.out.nrow.free (i + l)
                have hto : ((i : Int) + (l : Int)).toNat = i + l := by omega
                obtain ⟨mv, HMV⟩ := nameIt (Ln.midN H n s A i l (i + l))
                rw [HMV.out] at u0
                have HRN : Hid (FI W sx #[.bool stb, .int .i64 sn] ga A gx (Ln.midN H n s A i (l + 1)) (n + 1) (wl.setCell ⟨gx, i + l, none⟩ (.bool (mv || sv))).drew) :=
                  FI.keep (HRI.out.set (by omega) (fun k _ => by
                    rw [Ln.midN_step HAB.out hle, HSV.out]
                    by_cases e : k = i + l
                    · subst e; rw [HMV.out]; cases sv <;> simp
                    · simp [e])) (Below.refl _ _).drew
                go_upto_region 13 with fail
                cases mv with
                | true =>
                  clear hsv hsb
                  refine wp_region_still_tail 37 (by kernel_rfl) (by kernel_rfl) ?_
                  simp only [List.take_succ_cons, List.take_zero, List.drop_succ_cons, List.drop_zero]
                  change wpStill _ _ (World.drew _) _ _ _
                  refine still_quiet _ _ ?_
                  repeat (go_big_quiet_step (fail))
                  refine wpQuiet_nil ?_
                  change wpList _ _ _ _ _ (World.drew _)
                  go_wp2_with fail
                  go_roundg (n + 1 - (l + 1))
                  case measure => omega
                  case rel => exact ⟨l + 1, by omega, by omega, by go_num, by simpa using HRN⟩
                | false =>
                  cases stb with
                  | true =>
                    have hl1 : ((l : Int) == 1) = sv := by
                      rw [← hsv, if_pos rfl, Bool.eq_iff_iff, beq_iff_eq, beq_iff_eq]
                      omega
                    cases sv with
                    | true =>
                      refine wp_region_still_tail 37 (by kernel_rfl) (by kernel_rfl) ?_
                      simp only [List.take_succ_cons, List.take_zero, List.drop_succ_cons, List.drop_zero]
                      change wpStill _ _ (World.drew _) _ _ _
                      refine still_quiet _ _ ?_
                      repeat (go_big_quiet_step (fail))
                      refine wpQuiet_nil ?_
                      change wpList _ _ _ _ _ (World.drew _)
                      go_wp2_with fail
                      go_roundg (n + 1 - (l + 1))
                      case measure => omega
                      case rel => exact ⟨l + 1, by omega, by omega, by go_num, by simpa using HRN⟩
                    | false =>
                      refine wp_region_still_tail 37 (by kernel_rfl) (by kernel_rfl) ?_
                      simp only [List.take_succ_cons, List.take_zero, List.drop_succ_cons, List.drop_zero]
                      change wpStill _ _ (World.drew _) _ _ _
                      refine still_quiet _ _ ?_
                      repeat (go_big_quiet_step (fail))
                      refine wpQuiet_nil ?_
                      change wpList _ _ _ _ _ (World.drew _)
                      go_wp2_with fail
                      go_roundg (n + 1 - (l + 1))
                      case measure => omega
                      case rel => exact ⟨l + 1, by omega, by omega, by go_num, by simpa using HRN⟩
                  | false =>
                    obtain ⟨sm, hsm⟩ : ∃ k : Nat, sn = (k : Int) := ⟨sn.toNat, by have := (hsb rfl).1; omega⟩
                    subst hsm
                    have hsN : sm < N := by simpa using (hsb rfl).2
                    have hsN' : (sm : Int) < (N : Int) := by omega
                    have hs0 : (0 : Int) ≤ (sm : Int) := by omega
                    have hl0' : (0 : Int) ≤ (l : Int) := by omega
                    have hl1' : (l : Int) < (nn : Int) + 1 := by omega
                    have hbl := HWW.out.trans (HRI.out.bel.mono HWW.out.size)
                    have t2 := HLB.out wl hbl
                    obtain ⟨t0, t1⟩ := HTB.out wl sm l hbl hsN (by omega)
                    have hsv2 : H sm l = sv := by rw [← hsv]; simp
                    rw [hsv2] at t1
                    obtain ⟨rs, HRS⟩ := nameIt (rb sm)
                    rw [HRS.out] at t0 t1
                    clear hsb hsv hsv2 hbl
                    cases sv with
                    | true =>
                      refine wp_region_still_tail 37 (by kernel_rfl) (by kernel_rfl) ?_
                      simp only [List.take_succ_cons, List.take_zero, List.drop_succ_cons, List.drop_zero]
                      change wpStill _ _ (World.drew _) _ _ _
                      refine still_quiet _ _ ?_
                      repeat (go_big_quiet_step (fail))
                      refine wpQuiet_nil ?_
                      change wpList _ _ _ _ _ (World.drew _)
                      go_wp2_with fail
                      go_roundg (n + 1 - (l + 1))
                      case measure => omega
                      case rel => exact ⟨l + 1, by omega, by omega, by go_num, by simpa using HRN⟩
                    | false =>
                      refine wp_region_still_tail 37 (by kernel_rfl) (by kernel_rfl) ?_
                      simp only [List.take_succ_cons, List.take_zero, List.drop_succ_cons, List.drop_zero]
                      change wpStill _ _ (World.drew _) _ _ _
                      refine still_quiet _ _ ?_
                      repeat (go_big_quiet_step (fail))
                      refine wpQuiet_nil ?_
                      change wpList _ _ _ _ _ (World.drew _)
                      go_wp2_with fail
                      go_roundg (n + 1 - (l + 1))
                      case measure => omega
                      case rel => exact ⟨l + 1, by omega, by omega, by go_num, by simpa using HRN⟩
              · have hle2 : decide ((i : Int) + (l : Int) ≤ (n : Int)) = false := by simp; omega
                have HRN : Hid (FI W sx #[.bool stb, .int .i64 sn] ga A gx (Ln.midN H n s A (i + 1) 0) (n + 1) wl) := HRI.out.eq (fun k _ => Ln.midN_row (.inr (by omega)) k)
                go_wp2_with fail
                go_roundg (n + 1 - (i + 1))
                case measure => omega
                case rel => exact ⟨i + 1, by omega, by omega, by go_num, HRN⟩
        · have hin' : ¬ (i : Int) < (n : Int) + 1 := by omega
          have HBN : Hid (Ln.Brow gx (n + 1) (Ln.atR H n (R.take (q + 1))) wr) := HRI.out.nrow.eq (fun k _ => by rw [HNX.out, Ln.midN_end (by omega)])
          have HBL := Lib.hid HRI.out.bel
          go_wp2_with fail
          go_roundg (R.length - (q + 1))
          case measure => omega
          case rel => exact ⟨q + 1, gx, by omega, by omega, by go_num, rfl, HGXL, HBN, HBL⟩
    · have hqR' : ¬ (q : Int) < (R.length : Int) := by omega
      obtain rfl : q = R.length := by omega
      have u0 := HBR.out.cell (k := n) (by omega)
      rw [HATR.out n (Nat.le_refl _)] at u0
      have HE := Lib.hid (HFIN.out _ wq rfl HBQ.out)
      obtain ⟨cb, HCB⟩ := nameIt (canK H R n)
      rw [HCB.out] at u0 HE
      have hn0 : (0 : Int) ≤ (n : Int) := by omega
      have hn2 : (n : Int) < (n : Int) + 1 := by omega
      go_wp2_with fail
      first | exact HE.out | (go_ret; exact HE.out)
end Cs
end Go.Proofs.Ytbnpemgmdnghgaa
namespace Go.Proofs.Ytbnpemgmdnghgaa
open Go.RowKit

theorem made_atV (z : Value) (n j : Nat) (h : j < n) : (madeCells #[z] n)[j]? = some z := by
  simp [madeCells, h, Nat.mod_one]
/-- the row in block g has m cells, A k at place k -/
def Vrow (e : TypeId) (g m : Nat) (A : Nat → Value) (wr : World) : Prop := ∃ cs, wr.heap[g]? = some (.cells cs e (0, 0)) ∧ cs.size = m ∧ ∀ k, k < m → cs[k]? = some (A k)
section
variable {e : TypeId} {g m : Nat} {A A' : Nat → Value} {wr w' : World}
theorem Vrow.lt (h : Vrow e g m A wr) : g < wr.heap.size := by obtain ⟨cs, h1, _⟩ := h; exact (Array.getElem?_eq_some_iff.1 h1).1
theorem Vrow.keep (h : Vrow e g m A wr) (hb : Below wr.heap.size wr w') : Vrow e g m A w' := by obtain ⟨cs, h1, h2⟩ := h; exact ⟨cs, bx_keep h1 hb, h2⟩
theorem Vrow.grown {row : Option Nat} (h : Vrow e g m A wr) (hg : wr.grownBy w' row) (hr : row ≠ some g) : Vrow e g m A w' := by obtain ⟨cs, h1, h2⟩ := h; exact ⟨cs, (hg.block g (Array.getElem?_eq_some_iff.1 h1).1 (fun e => hr e.symm)).trans h1, h2⟩
theorem Vrow.cell (h : Vrow e g m A wr) {k : Nat} (hk : k < m) : wr.cell? ⟨g, k, none⟩ = some (A k) := by obtain ⟨cs, h1, h2, h3⟩ := h; simp [World.cell?, h1, h3 k hk]
theorem Vrow.free (h : Vrow e g m A wr) (k : Nat) : wr.frozen? ⟨g, k, none⟩ = false := by obtain ⟨cs, h1, h2, h3⟩ := h; simp [World.frozen?, h1]
theorem Vrow.eq (h : Vrow e g m A wr) (he : ∀ k, k < m → A k = A' k) : Vrow e g m A' wr := by obtain ⟨cs, h1, h2, h3⟩ := h; exact ⟨cs, h1, h2, fun k hk => by rw [h3 k hk, he k hk]⟩
theorem Vrow.set (h : Vrow e g m A wr) {j : Nat} {x : Value} (hj : j < m) (he : ∀ k, k < m → A' k = if k = j then x else A k) : Vrow e g m A' (wr.setCell ⟨g, j, none⟩ x) := by
  obtain ⟨cs, h1, h2, h3⟩ := h
  refine ⟨cs.setIfInBounds j x, bx_set h1 _ _, by simpa using h2, fun k hk => ?_⟩
  rw [Array.getElem?_setIfInBounds, he k hk]
  by_cases e : j = k
  · subst e; rw [if_pos rfl, if_pos (by omega)]; simp
  · rw [if_neg e, h3 k hk, if_neg (fun h => e h.symm)]
theorem Vrow.other (h : Vrow e g m A wr) {b : Nat} (hne : g ≠ b) (j : Nat) (v : Value) : Vrow e g m A (wr.setCell ⟨b, j, none⟩ v) := by obtain ⟨cs, h1, h2⟩ := h; exact ⟨cs, bx_other h1 hne _ _, h2⟩
theorem vrow_new (w : World) (e : TypeId) (z : Value) (m : Nat) {g : Nat} (hg : g = w.heap.size) : Vrow e g m (fun _ => z) (w.alloc (.cells (madeCells #[z] m) e)) := by
  subst hg
  exact ⟨_, bx_new _ _ _ rfl, size_madeCells _ _, fun k hk => made_atV _ _ _ hk⟩
end
end Go.Proofs.Ytbnpemgmdnghgaa
namespace Go.Proofs.Ytbnpemgmdnghgaa
open Go.RowKit
namespace Df

def GridIPost (N m : Nat) (w : World) (e : Ending) (w' : World) : Prop :=
  ∃ bt rb, e = .returned (.slice (some ⟨bt, 0, none⟩) N N) ∧ Grd 33 3 w.heap.size bt N m N rb (fun _ _ => .int .i64 0) w' ∧ Below w.heap.size w w'
set_option maxHeartbeats 1000000 in
set_option maxRecDepth 100000 in
theorem gridI (N m : Nat) (w : World) (hN : 1 ≤ N ∧ N ≤ 1000) (hm : 1 ≤ m ∧ m ≤ 1000) : Calls Try.prog 31 #[.int .i64 N, .int .i64 m] w (GridIPost N m w) := by
  obtain ⟨hN1, hN2⟩ := hN
  obtain ⟨hm1, hm2⟩ := hm
  have hmk1 : ∀ W : World, (Instr.makeSlice 29 (.int .i64 (N : Int)) (.int .i64 (N : Int))).run Try.prog W = .ok (.slice (some ⟨W.heap.size, 0, none⟩) N N) (W.alloc (.cells (madeCells #[.slice none 0 0] N) 33)) := fun W => by
    have := run_make_row' (P := Try.prog) 29 33 (.slice none 0 0) 24 Try.underlying29 (by kernel_rfl) rfl .i64 .i64 N (by omega) (by omega) W
    simpa using this
  have hmk2 : ∀ W : World, (Instr.makeSlice 33 (.int .i64 (m : Int)) (.int .i64 (m : Int))).run Try.prog W = .ok (.slice (some ⟨W.heap.size, 0, none⟩) m m) (W.alloc (.cells (madeCells #[.int .i64 0] m) 3)) := fun W => by
    have := run_make_row' (P := Try.prog) 33 3 (.int .i64 0) 8 Try.underlying33 (by kernel_rfl) rfl .i64 .i64 m (by omega) (by omega) W
    simpa using this
  obtain ⟨bt, HBT⟩ := nameIt w.heap.size
  have HI0 : Hid (∃ rb, Grd 33 3 w.heap.size bt N m 0 rb (fun _ _ => .int .i64 0) (w.alloc (.cells (madeCells #[.slice none 0 0] N) 33)) ∧ Below w.heap.size w (w.alloc (.cells (madeCells #[.slice none 0 0] N) 33))) :=
    ⟨fun _ => 0, Grd.start _ _ _ HBT.out.symm (Nat.le_refl _), (Below.refl _ _).alloc (Nat.le_refl _) _⟩
  go_enter Try.func31, Try.ntmps31
  go_wp2_with fail
  rw [HBT.out]
  clear hmk1
  go_loopg [11] N (fun gg v11 wr => ∃ k : Nat, k ≤ N ∧ N - k ≤ gg ∧ v11 = .int .i64 k ∧ Hid (∃ rb, Grd 33 3 w.heap.size bt N m k rb (fun _ _ => .int .i64 0) wr ∧ Below w.heap.size w wr))
  case atStart => exact ⟨0, by omega, by omega, rfl, HI0⟩
  case round =>
    clear HI0
    obtain ⟨k, hk, hg, rfl, HI⟩ := hrel
    by_cases hkN : k < N
    · have hkN' : (k : Int) < (N : Int) := by omega
      obtain ⟨rb, hd, hbel⟩ := HI.out
      have hbt := hd.lt
      have hbB := hd.bB
      have hsz := hbel.size
      obtain ⟨⟨vc, hc8⟩, hf8⟩ := hd.hcell hkN
      have HT1 : Hid (∃ rb, Grd 33 3 w.heap.size bt N m (k + 1) rb (fun _ _ => .int .i64 0) ((wr.alloc (.cells (madeCells #[.int .i64 0] m) 3)).setCell ⟨bt, k, none⟩ (.slice (some ⟨wr.heap.size, 0, none⟩) m m)) ∧ Below w.heap.size w ((wr.alloc (.cells (madeCells #[.int .i64 0] m) 3)).setCell ⟨bt, k, none⟩ (.slice (some ⟨wr.heap.size, 0, none⟩) m m))) :=
        ⟨_, hd.add hkN (by omega), (hbel.alloc (by omega) _).setCell (by show w.heap.size ≤ bt; omega) _⟩
      have hne8 : ¬ bt = wr.heap.size := by omega
      have hne9 : ¬ wr.heap.size = bt := by omega
      obtain ⟨w2, HW2⟩ := nameIt ((wr.alloc (.cells (madeCells #[.int .i64 0] m) 3)).setCell ⟨bt, k, none⟩ (.slice (some ⟨wr.heap.size, 0, none⟩) m m))
      have hcomm : (wr.setCell ⟨bt, k, none⟩ (.slice (some ⟨wr.heap.size, 0, none⟩) m m)).alloc (.cells (madeCells #[.int .i64 0] m) 3) = w2 := by
        rw [← HW2.out]
        simp [go_sem, hbt]
      have HCM := Lib.hid hcomm
      rw [HW2.out] at HT1
      clear hcomm hd hbel
      go_upto_region 6 with fail
      rw [HCM.out]
      clear hc8 hf8 hne8 hne9
      go_wp2_with fail
      go_roundg (N - (k + 1))
      case measure => omega
      case rel => exact ⟨k + 1, by omega, by omega, by go_num, HT1⟩
    · have hkN' : ¬ (k : Int) < (N : Int) := by omega
      have hkk : k = N := by omega
      have HE := HI.out
      rw [hkk] at HE
      have HE1 := Lib.hid HE
      clear HE hkk
      go_wp2_with fail
      go_ret
      obtain ⟨rb, h1, h2⟩ := HE1.out
      exact ⟨bt, rb, rfl, h1, h2⟩
end Df
end Go.Proofs.Ytbnpemgmdnghgaa
namespace Go.Proofs.Ytbnpemgmdnghgaa
open Go.RowKit
namespace Cs

def cap9 (x : Nat) : Int := min (x : Int) 1000000000
/-- how many first lengths have been reckoned in at place z, the rounds being at X, Y -/
def cp (X Y z : Nat) : Nat := min (z + 1) X + (if X ≤ z ∧ z < X + Y then 1 else 0)
theorem cp_zero (z : Nat) : cp 0 0 z = 0 := by unfold cp; rw [if_neg (by omega)]; omega
theorem cp_here {X Y z : Nat} (h : z = X + Y) : cp X Y z = X ∧ cp X (Y + 1) z = X + 1 := by
  unfold cp
  rw [if_neg (by omega), if_pos (by omega)]
  omega
theorem cp_other {X Y z : Nat} (h : z ≠ X + Y) : cp X (Y + 1) z = cp X Y z := by
  unfold cp
  by_cases e : X ≤ z ∧ z < X + Y
  · rw [if_pos e, if_pos (by omega)]
  · rw [if_neg e, if_neg (by omega)]
theorem cp_line {n X Y z : Nat} (hz : z ≤ n) (hY : n < X + Y) : cp X Y z = cp (X + 1) 0 z := by
  unfold cp
  by_cases e : X ≤ z
  · rw [if_pos (by omega), if_neg (by omega)]; omega
  · rw [if_neg (by omega), if_neg (by omega)]; omega
theorem cp_end {n z : Nat} (hz : z ≤ n) : cp (n + 1) 0 z = z + 1 := by unfold cp; rw [if_neg (by omega)]; omega
/-- the sum so far -/
def ps (o : Sym → Nat → Nat) (l : List Sym) (s : Sym) (X Y z : Nat) : Nat := sumN (fun x => cN o l x * o s (z - x)) (cp X Y z)
theorem ps_zero {o : Sym → Nat → Nat} {l : List Sym} {s : Sym} {z : Nat} : ps o l s 0 0 z = 0 := by unfold ps; rw [cp_zero]; rfl
theorem ps_here {o : Sym → Nat → Nat} {l : List Sym} {s : Sym} {X Y : Nat} : ps o l s X (Y + 1) (X + Y) = ps o l s X Y (X + Y) + cN o l X * o s Y := by
  unfold ps
  rw [(cp_here rfl).1, (cp_here rfl).2]
  show sumN _ X + cN o l X * o s (X + Y - X) = _
  rw [Nat.add_sub_cancel_left]
theorem ps_other {o : Sym → Nat → Nat} {l : List Sym} {s : Sym} {X Y z : Nat} (h : z ≠ X + Y) : ps o l s X (Y + 1) z = ps o l s X Y z := by unfold ps; rw [cp_other h]
theorem ps_line {o : Sym → Nat → Nat} {l : List Sym} {s : Sym} {n X Y z : Nat} (hz : z ≤ n) (hY : n < X + Y) : ps o l s X Y z = ps o l s (X + 1) 0 z := by unfold ps; rw [cp_line hz hY]
theorem ps_end {o : Sym → Nat → Nat} {l : List Sym} {s : Sym} {n z : Nat} (hz : z ≤ n) : ps o l s (n + 1) 0 z = cN o (l ++ [s]) z := by unfold ps; rw [cp_end hz, cN_snoc]
theorem ps_mono {o o' : Sym → Nat → Nat} (h : ∀ s i, o' s i ≤ o s i) (l : List Sym) (s : Sym) (X Y z : Nat) : ps o' l s X Y z ≤ ps o l s X Y z := by
  unfold ps
  exact sumN_le _ fun i _ => Nat.mul_le_mul (cN_mono h l i) (h s _)
theorem cap9_step (a x y : Nat) : (if 1000000000 < cap9 x * cap9 y then 1000000000 else cap9 x * cap9 y) = cap9 (x * y) ∧ (if 1000000000 < cap9 a + cap9 (x * y) then 1000000000 else cap9 a + cap9 (x * y)) = cap9 (a + x * y) ∧ 0 ≤ cap9 x * cap9 y ∧ cap9 x * cap9 y ≤ 1000000000000000000 := by
  have h := cap_step (cap := 1000000000) (by decide) (by decide) 0 x y
  unfold listStep at h
  have hx : 0 ≤ cap9 x ∧ cap9 x ≤ 1000000000 := by unfold cap9; omega
  have hy : 0 ≤ cap9 y ∧ cap9 y ≤ 1000000000 := by unfold cap9; omega
  have h0 : 0 ≤ cap9 x * cap9 y := Int.mul_nonneg hx.1 hy.1
  have h1 : cap9 x * cap9 y ≤ 1000000000 * 1000000000 := Int.mul_le_mul hx.2 hy.2 hy.1 (by decide)
  change min (IntKind.i64.wrap (min ((0 : Nat) : Int) 1000000000 + IntKind.i64.wrap (cap9 x * cap9 y))) 1000000000 = min ((0 + x * y : Nat) : Int) 1000000000 at h
  obtain ⟨P, hP⟩ : ∃ P, P = cap9 x * cap9 y := ⟨_, rfl⟩
  rw [← hP] at h h0 h1 ⊢
  rw [IntWalk.i64_in P (by omega), IntWalk.i64_in _ (by omega), Nat.zero_add] at h
  have h2 : cap9 (x * y) = min P 1000000000 := by
    show min ((x * y : Nat) : Int) 1000000000 = _
    omega
  refine ⟨?_, ?_, h0, by omega⟩
  · rw [h2]; split <;> omega
  · unfold cap9
    split <;> omega
theorem just_iff {o o' : Sym → Nat → Nat} (h : ∀ s i, o' s i ≤ o s i) {l : List Sym} {s : Sym} {X Y : Nat} (a a' : Nat) (ha : a' ≤ a) :
    (decide (a' < a) || (decide (cN o' l X < cN o l X) && decide (0 < o s Y)) || (decide (0 < cN o l X) && decide (o' s Y < o s Y))) = decide (a' + cN o' l X * o' s Y < a + cN o l X * o s Y) := by
  have h1 := mul_lt_iff (cN_mono h l X) (h s Y)
  have h2 := Nat.mul_le_mul (cN_mono h l X) (h s Y)
  rw [Bool.eq_iff_iff]
  simp only [Bool.or_eq_true, Bool.and_eq_true, decide_eq_true_iff]
  constructor
  · rintro ((e | ⟨e1, e2⟩) | ⟨e1, e2⟩)
    · omega
    · have := h1.2 (.inl ⟨e1, e2⟩); omega
    · have := h1.2 (.inr ⟨e1, e2⟩); omega
  · intro e
    by_cases c : a' < a
    · exact .inl (.inl c)
    · rcases h1.1 (by omega) with e1 | e1
      · exact .inl (.inr e1)
      · exact .inr e1
theorem all_iff {a x y : Nat} : (decide (0 < a) || (decide (0 < x) && decide (0 < y))) = decide (0 < a + x * y) := by
  rw [Bool.eq_iff_iff]
  simp only [Bool.or_eq_true, Bool.and_eq_true, decide_eq_true_iff]
  constructor
  · rintro (e | ⟨e1, e2⟩)
    · omega
    · have := Nat.mul_pos e1 e2; omega
  · intro e
    by_cases c : 0 < a
    · exact .inl c
    · have : 0 < x * y := by omega
      exact .inr ⟨Nat.pos_of_mul_pos_right this, Nat.pos_of_mul_pos_left this⟩
/-- three rows: numbers, whether there are any, and any just so high -/
structure R3 (B p1 p2 p3 m : Nat) (V1 : Nat → Int) (V2 V3 : Nat → Bool) (W : World) : Prop where
  r1 : Vrow 3 p1 m (fun k => .int .i64 (V1 k)) W
  r2 : Ln.Brow p2 m V2 W
  r3 : Ln.Brow p3 m V3 W
  lo : B ≤ p1 ∧ B ≤ p2 ∧ B ≤ p3
  ne : p1 ≠ p2 ∧ p1 ≠ p3 ∧ p2 ≠ p3
section
variable {B p1 p2 p3 m : Nat} {V1 V1' : Nat → Int} {V2 V3 V2' V3' : Nat → Bool} {W W' : World}
theorem R3.keep (h : R3 B p1 p2 p3 m V1 V2 V3 W) (hb : Below W.heap.size W W') : R3 B p1 p2 p3 m V1 V2 V3 W' := ⟨h.r1.keep hb, h.r2.keep hb, h.r3.keep hb, h.lo, h.ne⟩
theorem R3.other (h : R3 B p1 p2 p3 m V1 V2 V3 W) {q : Nat} (h1 : p1 ≠ q) (h2 : p2 ≠ q) (h3 : p3 ≠ q) (j : Nat) (v : Value) : R3 B p1 p2 p3 m V1 V2 V3 (W.setCell ⟨q, j, none⟩ v) := ⟨h.r1.other h1 j v, h.r2.other h2 j v, h.r3.other h3 j v, h.lo, h.ne⟩
theorem R3.eq (h : R3 B p1 p2 p3 m V1 V2 V3 W) (h1 : ∀ k, k < m → V1 k = V1' k) (h2 : ∀ k, k < m → V2 k = V2' k) (h3 : ∀ k, k < m → V3 k = V3' k) : R3 B p1 p2 p3 m V1' V2' V3' W := ⟨h.r1.eq fun k hk => by rw [h1 k hk], h.r2.eq h2, h.r3.eq h3, h.lo, h.ne⟩
theorem R3.set1 (h : R3 B p1 p2 p3 m V1 V2 V3 W) {j : Nat} {x : Int} (hj : j < m) (he : ∀ k, k < m → V1' k = if k = j then x else V1 k) : R3 B p1 p2 p3 m V1' V2 V3 (W.setCell ⟨p1, j, none⟩ (.int .i64 x)) :=
  ⟨h.r1.set hj (fun k hk => by rw [he k hk]; split <;> rfl), h.r2.other (fun e => h.ne.1 e.symm) _ _, h.r3.other (fun e => h.ne.2.1 e.symm) _ _, h.lo, h.ne⟩
theorem R3.set2 (h : R3 B p1 p2 p3 m V1 V2 V3 W) {j : Nat} {x : Bool} (hj : j < m) (he : ∀ k, k < m → V2' k = if k = j then x else V2 k) : R3 B p1 p2 p3 m V1 V2' V3 (W.setCell ⟨p2, j, none⟩ (.bool x)) :=
  ⟨h.r1.other h.ne.1 _ _, Brow.setV h.r2 hj he, h.r3.other (fun e => h.ne.2.2 e.symm) _ _, h.lo, h.ne⟩
theorem R3.set3 (h : R3 B p1 p2 p3 m V1 V2 V3 W) {j : Nat} {x : Bool} (hj : j < m) (he : ∀ k, k < m → V3' k = if k = j then x else V3 k) : R3 B p1 p2 p3 m V1 V2 V3' (W.setCell ⟨p3, j, none⟩ (.bool x)) :=
  ⟨h.r1.other h.ne.2.1 _ _, h.r2.other h.ne.2.2 _ _, Brow.setV h.r3 hj he, h.lo, h.ne⟩
end
set_option maxHeartbeats 400000 in
theorem cappedE (x : Int) (w : World) : Calls Try.prog 34 #[.int .i64 x] w fun e w' => e = .returned (.int .i64 (if 1000000000 < x then 1000000000 else x)) ∧ w = w' := by
  by_cases h : 1000000000 < x
  · rw [if_pos h]
    go_enter Try.func34, Try.ntmps34
    go_wp2
    go_ret
    exact ⟨rfl, rfl⟩
  · rw [if_neg h]
    go_enter Try.func34, Try.ntmps34
    go_wp2
    go_ret
    exact ⟨rfl, rfl⟩
end Cs
end Go.Proofs.Ytbnpemgmdnghgaa
namespace Go.Proofs.Ytbnpemgmdnghgaa
open Go.RowKit

section
variable {P : Program} {ops : Array Oper} {md : Region.Mode} {C : World → Prop}
/-- whatever order the head takes; L behind it -/
def wpHd (P : Program) (md : Region.Mode) (ops : Array Oper) (C : World → Prop) (n : Nat) (L : Array Bool → Act → Prop) : Nat → Array Bool → Act → Prop
  | 0, ld, a => L ld a
  | f + 1, ld, a => Region.ready md ops ld ≠ [] ∧ ∀ i ∈ Region.ready md ops ld, i < n ∧ qOp P ops C i (wpHd P md ops C n L f (ld.setIfInBounds i true)) a
theorem wpAny_of_hd {n g : Nat} {L : Array Bool → Act → Prop} {Q : Exit → Act → World → Prop} (hL : ∀ ld a w, C w → L ld a → wpAny P md ops Q g ld a w) :
    ∀ (f : Nat) (ld : Array Bool) (a : Act) (w : World), C w → wpHd P md ops C n L f ld a → wpAny P md ops Q (f + g) ld a w
  | 0, ld, a, w, hw, h => by rw [Nat.zero_add]; exact hL ld a w hw h
  | f + 1, ld, a, w, hw, h => by
    rw [Nat.add_right_comm]
    exact ⟨fun e => absurd e h.1, fun i hi => wpOp_of_qOp hw (fun a' w' hw' h' => wpAny_of_hd hL f _ a' w' hw' h') (h.2 i hi).2⟩
theorem wpHd_first {n i : Nat} {oi : Oper} {v : Value} {L : Array Bool → Act → Prop} (hi : ops[i]? = some oi) (hsel : ∀ (j : Nat) (o : Oper) cs b, ops[j]? = some o → o.op ≠ .select cs b)
    (hs : Region.sinkB md ops n = true) (hc : Region.chainB md ops n = true) (hn : n < ops.size) (hin : i < n) (hend : ∀ ld a, L ld a → ∀ j ∈ Region.ready md ops ld, n ≤ j) :
    ∀ (f : Nat) (ld : Array Bool) (a : Act), HeadInv md ops n ld →
      (∀ j oj, ops[j]? = some oj → j ≠ i → ld.getD j true = false → (∀ e ∈ oj.after, Region.binds md e = true → e.on ≠ i) → oi.apart ops oj = true) →
      i ∈ Region.ready md ops ld → YieldsIn P ops C oi v a → wpHd P md ops C n L f (ld.setIfInBounds i true) (a.put oi.dst v) → wpHd P md ops C n L (f + 1) ld a := by
  intro f
  induction f with
  | zero =>
    intro ld a inv _ hr hy H
    refine ⟨fun e => (by rw [e] at hr; cases hr), fun j hj => ?_⟩
    have hjn : j < n := Nat.lt_of_not_le fun h => tail_waits hs hc hn inv _ i rfl hin (mem_ready.1 hr).1 j h hj
    by_cases e : j = i
    · subst e; exact ⟨hjn, hy.qOp hi H⟩
    · have := hend _ _ H j (ready_mono hj e)
      omega
  | succ f ih =>
    intro ld a inv hfree hr hy H
    refine ⟨fun e => (by rw [e] at hr; cases hr), fun j hj => ?_⟩
    have hjn : j < n := Nat.lt_of_not_le fun h => tail_waits hs hc hn inv _ i rfl hin (mem_ready.1 hr).1 j h hj
    refine ⟨hjn, ?_⟩
    by_cases e : j = i
    · subst e; exact hy.qOp hi H
    obtain ⟨hju, oj, hoj, hall⟩ := mem_ready.1 hj
    have hno : ∀ e ∈ oj.after, Region.binds md e = true → e.on ≠ i := fun x hx hb he => by
      have h1 := hall x hx hb
      rw [he, getD_both (mem_ready.1 hr).1] at h1
      cases h1
    have h2 := qOp_put hoj (hfree j oj hoj e hju hno) (fun cs b => hsel i oi cs b hi) (fun cs b => hsel j oj cs b hoj) hy (H.2 j (ready_mono hj e)).2
    refine qOp_mono (fun a' h3 => ih _ a' (inv.set hj hjn) ?_ (ready_mono hr (Ne.symm e)) h3.1 ?_) h2
    · intro k ok hk hki hu hn'
      by_cases hjk : j = k
      · subst hjk; exact hfree j ok hk hki hju hn'
      · exact hfree k ok hk hki (by rwa [getD_set_ne true hjk] at hu) hn'
    · rw [Array.setIfInBounds_comm _ _ e]
      exact h3.2
theorem wpHd_lex {n g : Nat} {R : Act → Prop} (hsel : Region.noSelect ops = true) (hs : Region.sinkB md ops n = true) (hc : Region.chainB md ops n = true) (hn : n < ops.size) :
    ∀ (l : List Oper) (k : Nat) (ld : Array Bool) (a : Act), (∀ j, j < l.length → l[j]? = ops[k + j]?) → k + l.length = n → HeadInv md ops n ld →
    Region.lexHead md ops g l.length k ld = true → wpQuiet P ops C R l a → wpHd P md ops C n (fun ld' a' => Region.seqB md ops g n ld' = true ∧ R a') l.length ld a
  | [], k, ld, a, _, hk, _, hB, h => by
    obtain rfl : k = n := by simpa using hk
    exact ⟨by simpa [Region.lexHead] using hB, h⟩
  | o :: l, k, ld, a, hl, hk, inv, hB, h => by
    have h0 : ops[k]? = some o := by simpa using (hl 0 (by simp)).symm
    simp only [List.length_cons, Region.lexHead, Bool.and_eq_true] at hB
    have hkn : k < n := by rw [List.length_cons] at hk; omega
    have hr : k ∈ Region.ready md ops ld := by simpa using hB.1.1
    obtain ⟨v, hy, hK⟩ := yieldsIn_of_qOp h0 (show qOp P ops C k (wpQuiet P ops C R l) a by unfold qOp; simp only [h0]; exact h)
    refine wpHd_first h0 (Region.noSelect_spec hsel) hs hc hn hkn (fun _ _ hL => seqB_ready hL.1) l.length ld a inv (Region.free_spec h0 hB.1.2) hr hy ?_
    exact wpHd_lex hsel hs hc hn l (k + 1) _ _ (fun j hj => by have := hl (j + 1) (by simp; omega); simpa [Nat.add_assoc, Nat.add_comm 1 j] using this) (by rw [List.length_cons] at hk; omega) (inv.set hr hkn) hB.2 hK
theorem wp_region_after_tail {id : Nat} {Q : Exit → Act → World → Prop} {a : Act} {w0 : World} {l : List Oper} (n : Nat) (hm : P.follows .mixedOrders = true) (hB : Region.lexTailB .any l.toArray n = true)
    (h : wpQuiet P l.toArray (fun w' => ∃ x : Aft w0, w' = x.w) (fun a' => ∀ w', (∃ x : Aft w0, w' = x.w) → wpList P l.toArray Q (l.drop n) a' w') (l.take n) a) : (Code.region id l.toArray true).wp P Q a w0 := by
  simp only [Region.lexTailB, Bool.and_eq_true, decide_eq_true_eq] at hB
  obtain ⟨⟨⟨⟨hsel, hn⟩, hs⟩, hc⟩, hlex⟩ := hB
  have hn' : n < l.length := by simpa using hn
  have htl : (l.take n).length = n := by simp; omega
  have hdl : (l.drop n).length = l.toArray.size - n := by simp
  have H := wpHd_lex (C := fun w' => ∃ x : Aft w0, w' = x.w) (md := .any) (g := l.toArray.size - n) hsel hs hc hn (l.take n) 0 (Array.replicate l.toArray.size false) a (fun j hj => by
    have hj' : j < n := by rw [htl] at hj; exact hj
    simp [hj']) (by simpa using htl) ⟨by simp, fun j oj _ hl => (by rw [getD_replicate_false] at hl; cases hl), fun t _ ht => getD_in (by simpa using ht) (getD_replicate_false _ _)⟩ (by rw [htl]; exact hlex) h
  refine wp_region_any hm ?_
  have h3 := wpAny_of_hd (Q := Q) (g := l.toArray.size - n) (fun ld a' w' hw hL => by
    have h4 := wpAny_of_seq (md := .any) (Q' := Q) (l.drop n) n ld a' w' (fun j => by simp [List.getElem?_drop]) (by rw [hdl]; exact hL.1) (hL.2 w' hw)
    rwa [hdl] at h4) _ _ _ w0.drew ⟨⟨_, (Below.refl _ w0).drew⟩, rfl⟩ H
  rw [htl, show n + (l.toArray.size - n) = l.toArray.size by omega] at h3
  exact h3
end
end Go.Proofs.Ytbnpemgmdnghgaa
