/- parlref5.lister.fits. parlref5.lister.trees. parlref5.lister.trees. parlref5.lister.rows. -/
import Derived.Test.YtbnpemgmdnghgaaJRankTellsRow1
import Derived.Test.YtbnpemgmdnghgaaJRankTellsRow4
import Derived.Test.YtbnpemgmdnghgaaJRankTellsRow11
import Derived.Deep.DeepCutAuto
import Derived.StillTailTactics
import Derived.BigQuiet
import Derived.Test.YtbnpemgmdnghgaaJRankTellsRow9
import Derived.Test.YtbnpemgmdnghgaaJRankTellsRow2
import Derived.Test.YtbnpemgmdnghgaaJRankTellsRow5
namespace Go.Proofs.Ytbnpemgmdnghgaa
open Go.RowKit
namespace Cs

theorem stB_has (H : Nat → Nat → Bool) (s : Sym) (j : Nat) : Ln.stB H s j = hasK H s j := by
  unfold Ln.stB hasK
  cases s.term <;> simp [BEq.beq]
theorem canK_snoc {S : Nat → Nat → Bool} {s : Sym} : ∀ {l : List Sym} {k : Nat}, canK S (l ++ [s]) k = true ↔ ∃ i j, i + j = k ∧ canK S l i = true ∧ hasK S s j = true
  | [], k => by
    rw [List.nil_append, canK_cons]
    constructor
    · rintro ⟨i, hi, h1, h2⟩
      have : k - i = 0 := by simpa [canK] using h2
      exact ⟨0, i, by omega, rfl, h1⟩
    · rintro ⟨i, j, hij, h1, h2⟩
      have : i = 0 := by simpa [canK] using h1
      subst this
      exact ⟨j, by omega, h2, by simp [canK]; omega⟩
  | x :: l, k => by
    rw [List.cons_append, canK_cons]
    constructor
    · rintro ⟨i, hi, h1, h2⟩
      obtain ⟨a, b, hab, h3, h4⟩ := canK_snoc.1 h2
      exact ⟨i + a, b, by omega, canK_cons.2 ⟨i, by omega, h1, by rw [Nat.add_sub_cancel_left]; exact h3⟩, h4⟩
    · rintro ⟨i, j, hij, h1, h2⟩
      obtain ⟨a, ha, h3, h4⟩ := canK_cons.1 h1
      exact ⟨a, by omega, h3, canK_snoc.2 ⟨i - a, j, by omega, h4, h2⟩⟩
theorem atR_canK (H : Nat → Nat → Bool) (n : Nat) (l : List Sym) : ∀ q, q ≤ l.length → ∀ m, m ≤ n → Ln.atR H n (l.take q) m = canK H (l.take q) m := by
  intro q
  induction q with
  | zero => intro _ m _; simp [Ln.atR, canK, BEq.beq]
  | succ q ih =>
    intro hq m hm
    rw [List.take_succ_eq_append_getElem (by omega), Ln.atR_snoc, Bool.eq_iff_iff, Ln.nxt_iff, canK_snoc]
    constructor
    · rintro ⟨_, i, j, hij, h1, h2⟩
      exact ⟨i, j, hij, by rw [← ih (by omega) i (by omega)]; exact h1, by rw [← stB_has]; exact h2⟩
    · rintro ⟨i, j, hij, h1, h2⟩
      exact ⟨hm, i, j, hij, by rw [ih (by omega) i (by omega)]; exact h1, by rw [stB_has]; exact h2⟩
/-- the lister in memory -/
structure LE (g : Gram) (ra : Option Addr) (rcap N n : Nat) (lb most bt : Nat) (rb : Nat → Nat) (H : Nat → Nat → Bool) (w1 : World) : Prop where
  box : w1.heap[lb]? = some (.cells #[.int .i64 g.terms, .int .i64 g.nons, .int .i64 g.start, .slice ra g.rules.length rcap, .slice (some ⟨bt, 0, none⟩) N N, .int .i64 (most : Int)] 93 (0, 0))
  tab : Grd 51 4 0 bt N (n + 1) N rb (fun i j => .bool (H i j)) w1
  rules : Rd AnyB w1 (.sl (g.rules.map Rule.d)) [.slice ra g.rules.length rcap]
theorem bx_cells6c {w : World} {b : Nat} {x0 x1 x2 x3 x4 x5 : Value} {T : TypeId} (h : w.heap[b]? = some (.cells #[x0, x1, x2, x3, x4, x5] T (0, 0))) :
    w.cell? ⟨b, 0, none⟩ = some x0 ∧ w.cell? ⟨b, 0 + 1, none⟩ = some x1 ∧ w.cell? ⟨b, 0 + 2, none⟩ = some x2 ∧ w.cell? ⟨b, 0 + 3, none⟩ = some x3 ∧ w.cell? ⟨b, 0 + 4, none⟩ = some x4 ∧ w.cell? ⟨b, 0 + 5, none⟩ = some x5 := by
  refine ⟨?_, ?_, ?_, ?_, ?_, ?_⟩ <;> simp [World.cell?, h]
/-- what the rounds over the places keep -/
structure FI (W : World) (sx : Nat) (SB : Array Value) (ga : Nat) (A : Nat → Bool) (gn : Nat) (M : Nat → Bool) (m : Nat) (wr : World) : Prop where
  bel : Below W.heap.size W wr
  sbox : wr.heap[sx]? = some (.cells SB 65 (0, 0))
  arow : Ln.Brow ga m A wr
  nrow : Ln.Brow gn m M wr
  ne : W.heap.size ≤ gn ∧ gn ≠ sx ∧ gn ≠ ga
section
variable {W : World} {sx : Nat} {SB : Array Value} {ga : Nat} {A : Nat → Bool} {gn : Nat} {M M' : Nat → Bool} {m : Nat} {wr w' : World}
theorem FI.eq (h : FI W sx SB ga A gn M m wr) (he : ∀ k, k < m → M k = M' k) : FI W sx SB ga A gn M' m wr := ⟨h.bel, h.sbox, h.arow, h.nrow.eq he, h.ne⟩
theorem FI.keep (h : FI W sx SB ga A gn M m wr) (hb : Below wr.heap.size wr w') : FI W sx SB ga A gn M m w' := ⟨h.bel.trans (hb.mono h.bel.size), bx_keep h.sbox hb, h.arow.keep hb, h.nrow.keep hb, h.ne⟩
theorem Brow.setV (h : Ln.Brow gn m M wr) {j : Nat} {x : Bool} (hj : j < m) (he : ∀ k, k < m → M' k = if k = j then x else M k) : Ln.Brow gn m M' (wr.setCell ⟨gn, j, none⟩ (.bool x)) := by
  obtain ⟨cs, h1, h2, h3⟩ := h
  refine ⟨cs.setIfInBounds j (.bool x), bx_set h1 _ _, by simpa using h2, fun k hk => ?_⟩
  rw [Array.getElem?_setIfInBounds, he k hk]
  by_cases e : j = k
  · subst e; rw [if_pos rfl, if_pos (by omega)]; simp
  · rw [if_neg e, h3 k hk, if_neg (fun h => e h.symm)]
theorem FI.set (h : FI W sx SB ga A gn M m wr) {j : Nat} {x : Bool} (hj : j < m) (he : ∀ k, k < m → M' k = if k = j then x else M k) : FI W sx SB ga A gn M' m (wr.setCell ⟨gn, j, none⟩ (.bool x)) := by
  obtain ⟨h1, h2, h3, h4, e1, e2, e3⟩ := h
  exact ⟨h1.setCell (p := ⟨gn, j, none⟩) e1 _, bx_other h2 (fun e => e2 e.symm) _ _, h3.other (fun e => e3 e.symm) _ _, Brow.setV h4 hj he, e1, e2, e3⟩
end

set_option maxHeartbeats 16000000 in
set_option maxRecDepth 100000 in
theorem fitsE {g : Gram} {ra : Option Addr} {rcap N nn : Nat} {lb most bt : Nat} {rb : Nat → Nat} {H : Nat → Nat → Bool} {w1 : World} (h : LE g ra rcap N nn lb most bt rb H w1) (hnn : nn ≤ 400) (R : List Sym) (hR : ∀ s ∈ R, okS N s) (n : Nat) (hn : n ≤ nn) (av : Option Addr) (cv : Nat) (hrd : Rd AnyB w1 (.sl (R.map Sym.d)) [.slice av R.length cv])
    (W : World) (hW : Below w1.heap.size w1 W) :
    Calls Try.prog 71 #[.pointer (some ⟨lb, 0, none⟩), .slice av R.length cv, .int .i64 (n : Int)] W fun e w' => e = .returned (.bool (canK H R n)) ∧ Below W.heap.size W w' := by
  have hn400 : n ≤ 400 := by omega
  obtain ⟨PST, HP⟩ := nameIt (fun (e : Ending) (w' : World) => e = .returned (.bool (canK H R n)) ∧ Below W.heap.size W w')
  rw [HP.out]
  have HFIN : Hid (∀ (b : Bool) w', b = canK H R n → Below W.heap.size W w' → PST (.returned (.bool b)) w') := by
    rintro b w' rfl h; rw [← HP.out]; exact ⟨rfl, h⟩
  have hmk2 : ∀ W : World, (Instr.makeSlice 51 (.int .i64 ((n : Int) + 1)) (.int .i64 ((n : Int) + 1))).run Try.prog W = .ok (.slice (some ⟨W.heap.size, 0, none⟩) (n + 1) (n + 1)) (W.alloc (.cells (madeCells #[.bool false] (n + 1)) 4)) := fun W => by
    have := run_make_row' (P := Try.prog) 51 4 (.bool false) 1 Try.underlying51 (by kernel_rfl) rfl .i64 .i64 (n + 1) (by omega) (by omega) W
    simpa using this
  have hbs := hrd.bounds.2
  unfold maxLen at hbs
  obtain ⟨hcv1, hcv2⟩ := hbs
  have HKR := Lib.hid hrd
  have HOKS := Lib.hid hR
  have hlb := (Array.getElem?_eq_some_iff.1 h.box).1
  have HLB : Hid (∀ W', Below w1.heap.size w1 W' → W'.cell? ⟨lb, 0 + 4, none⟩ = some (.slice (some ⟨bt, 0, none⟩) N N)) := fun W' hb => (bx_cells6c ((hb.block lb hlb).trans h.box)).2.2.2.2.1
  have HTB : Hid (∀ W' a k, Below w1.heap.size w1 W' → a < N → k ≤ nn → W'.cell? ⟨bt, a, none⟩ = some (.slice (some ⟨rb a, 0, none⟩) (nn + 1) (nn + 1)) ∧ W'.cell? ⟨rb a, k, none⟩ = some (.bool (H a k))) := by
    intro W' a k hb ha hk
    have t0 := h.tab.hdr ha ha
    have t1 := h.tab.cell ha ha (show k < nn + 1 by omega)
    exact ⟨(hb.cell (lt_of_cell t0)).trans t0, (hb.cell (lt_of_cell t1)).trans t1⟩
  have HATR : Hid (∀ m, m ≤ n → Ln.atR H n (R.take R.length) m = canK H R m) := by
    intro m hm
    rw [atR_canK H n R R.length (Nat.le_refl _) m hm, List.take_length]
  have HWW := Lib.hid hW
  obtain ⟨ga0, HGA⟩ := nameIt W.heap.size
  have hbr0 := Ln.brow_new W (n + 1) HGA.out.symm
  obtain ⟨w5, HW5⟩ := nameIt (W.alloc (.cells (madeCells #[.bool false] (n + 1)) 4))
  rw [HW5.out] at hbr0
  have hb5 : Below W.heap.size W w5 := by rw [← HW5.out]; exact (Below.refl _ _).alloc (Nat.le_refl _) _
  have e0 := hbr0.cell (k := 0) (by omega)
  have f0 := hbr0.free 0
  have hn1 : (0 : Int) < (n : Int) + 1 := by omega
  have HBR : Hid (Ln.Brow ga0 (n + 1) (Ln.atR H n (R.take 0)) (w5.setCell ⟨ga0, 0, none⟩ (.bool true))) := hbr0.set (by omega) (fun k _ => by by_cases e : k = 0 <;> simp [Ln.atR, e])
  have HB6 : Hid (Below W.heap.size W (w5.setCell ⟨ga0, 0, none⟩ (.bool true))) := hb5.setCell (p := ⟨ga0, 0, none⟩) (by show W.heap.size ≤ ga0; rw [HGA.out]; exact Nat.le_refl _) _
  obtain ⟨w6, HW6⟩ := nameIt (w5.setCell ⟨ga0, 0, none⟩ (.bool true))
  rw [HW6.out] at HBR HB6
  have HGAL : Hid (W.heap.size ≤ ga0) := by show _ ≤ _ ; rw [← HGA.out]; exact Nat.le_refl _
  clear hb5 hbr0 hrd hR h hW hlb HP
  go_enter Try.func71, Try.ntmps71
  go_upto_region 2 with fail
  rw [HW5.out, HGA.out]
  go_upto_region 3 with fail
  rw [HW6.out]
  go_wp2_with fail
  clear e0 f0 HW5 HW6 HGA
  go_loopg [7, 21] R.length (fun gg v7 v21 wr => ∃ (q ga : Nat), q ≤ R.length ∧ R.length - q ≤ gg ∧ v21 = .int .i64 q ∧ v7 = .slice (some ⟨ga, 0, none⟩) (n + 1) (n + 1) ∧ Hid (W.heap.size ≤ ga) ∧ Hid (Ln.Brow ga (n + 1) (Ln.atR H n (R.take q)) wr) ∧ Hid (Below W.heap.size W wr))
  case atStart => exact ⟨0, ga0, by omega, by omega, rfl, rfl, HGAL, HBR, HB6⟩
  case round =>
    clear HBR HB6 HGAL
    obtain ⟨wq, rfl⟩ : ∃ wq : World, wq = wr := ⟨_, rfl⟩
    obtain ⟨q, ga, hq, hgq, rfl, rfl, HGL, HBR, HBQ⟩ := hrel
    have HBW := Lib.hid (HWW.out.trans (HBQ.out.mono HWW.out.size))
    by_cases hqR : q < R.length
    · have hqR' : (q : Int) < (R.length : Int) := by omega
      obtain ⟨b', off', hae', -, hbl', d0, d1⟩ := HKR.out.sym_at hqR
      have e0 := (HBW.out.cell (p := ⟨b', off' + q * 2, none⟩) (lt_of_cell d0)).trans d0
      have e1 := (HBW.out.cell (p := ⟨b', off' + q * 2 + 1, none⟩) (lt_of_cell d1)).trans d1
      have HTK : Hid (R.take (q + 1) = R.take q ++ [R[q]'hqR]) := List.take_succ_eq_append_getElem hqR
      have hsb := HOKS.out R[q] (List.getElem_mem hqR)
      obtain ⟨s, HSn⟩ := nameIt (R[q]'hqR)
      rw [HSn.out] at e0 e1 HTK hsb
      unfold okS at hsb
      obtain ⟨A, HA⟩ := nameIt (Ln.atR H n (R.take q))
      have HNX : Hid (Ln.atR H n (R.take (q + 1)) = Ln.nxt H n s A) := by show _ = _; rw [HTK.out, Ln.atR_snoc, HA.out]
      rw [HA.out] at HBR
      obtain ⟨stb, HST⟩ := nameIt s.term
      obtain ⟨sn, HSN⟩ := nameIt s.n
      rw [HST.out] at e0 hsb
      rw [HSN.out] at e1 hsb
      have HSB : Hid (∀ l, Ln.stB H s l = if stb then l == 1 else H sn.toNat l) := fun l => by unfold Ln.stB; rw [HST.out, HSN.out]
      obtain ⟨w7, HW7⟩ := nameIt (wq.alloc (.cells #[.bool stb, .int .i64 sn] 65))
      have hb7 : Below wq.heap.size wq w7 := by rw [← HW7.out]; exact (Below.refl _ _).alloc (Nat.le_refl _) _
      have X7 : w7.heap[wq.heap.size]? = some (.cells #[.bool stb, .int .i64 sn] 65 (0, 0)) := by rw [← HW7.out]; exact bx_new _ _ _ rfl
      have hs7 : w7.heap.size = wq.heap.size + 1 := by rw [← HW7.out]; simp
      obtain ⟨gx, HGX⟩ := nameIt w7.heap.size
      obtain ⟨w8, HW8⟩ := nameIt (w7.alloc (.cells (madeCells #[.bool false] (n + 1)) 4))
      have hb8 : Below w7.heap.size w7 w8 := by rw [← HW8.out]; exact (Below.refl _ _).alloc (Nat.le_refl _) _
      have hbr8 := Ln.brow_new w7 (n + 1) HGX.out.symm
      rw [HW8.out] at hbr8
      have hgxl : W.heap.size ≤ gx := by have h4 := HGX.out; have h5 := HBQ.out.size; omega
      have HRI0 : Hid (FI W wq.heap.size #[.bool stb, .int .i64 sn] ga A gx (Ln.midN H n s A 0 0) (n + 1) w8) := by
        have h2 := HBR.out.lt
        have h4 := HGX.out
        exact ⟨(HBQ.out.trans (hb7.mono HBQ.out.size)).trans (hb8.mono (by have h5 := HBQ.out.size; omega)), bx_keep X7 hb8, (HBR.out.keep hb7).keep hb8, hbr8.eq (fun k _ => (Ln.midN_start H n s A k).symm), hgxl, by omega, by omega⟩
      have HGXL := Lib.hid hgxl
      obtain ⟨sx, HSX⟩ := nameIt wq.heap.size
      rw [HSX.out] at HRI0
      have hbl8 : b' < wq.heap.size := Nat.lt_of_lt_of_le hbl' HBW.out.size
      subst hae'
      clear d0 d1 hb7 hb8 X7 hs7 hbr8 hgxl
      go_upto_region 6 with fail
      rw [HW7.out, HSX.out]
      go_upto_region 7 with fail
      rw [HW8.out, HGX.out]
      go_wp2_with fail
      clear e0 e1
      go_loopg [11, 12, 13, 30] (n + 1) (fun gg v11 v12 v13 v30 wr => ∃ i : Nat, i ≤ n + 1 ∧ n + 1 - i ≤ gg ∧ v30 = .int .i64 i ∧ Hid (FI W sx #[.bool stb, .int .i64 sn] ga A gx (Ln.midN H n s A i 0) (n + 1) wr))
      case atStart => exact ⟨0, by omega, by omega, rfl, HRI0⟩
      case round =>
        clear HRI0
        obtain ⟨i, hi, hgi, rfl, HRI⟩ := hrel
        by_cases hin : i < n + 1
        · have hin' : (i : Int) < (n : Int) + 1 := by omega
          have hi0 : (0 : Int) ≤ (i : Int) := by omega
          have a0 := HRI.out.arow.cell hin
          obtain ⟨ab, HAB⟩ := nameIt (A i)
          rw [HAB.out] at a0
          have HRJ := HRI
          go_wp2_with fail
          clear a0
          go_loopg [13] (n + 1) (fun gg v13 wr => ∃ l : Nat, i + l ≤ n + 1 ∧ n + 1 - l ≤ gg ∧ v13 = .int .i64 l ∧ Hid (FI W sx #[.bool stb, .int .i64 sn] ga A gx (Ln.midN H n s A i l) (n + 1) wr))
          case atStart => exact ⟨0, by omega, by omega, rfl, HRJ⟩
          case round =>
            clear HRJ HRI
            obtain ⟨l, hl, hgl, rfl, HRI⟩ := hrel
            obtain ⟨wl, rfl⟩ : ∃ ww : World, ww = wr := ⟨_, rfl⟩
            have hil : IntKind.i64.wrap ((i : Int) + (l : Int)) = (i : Int) + (l : Int) := IntWalk.i64_in _ (by omega)
            cases ab with
            | false =>
              have HRN : Hid (FI W sx #[.bool stb, .int .i64 sn] ga A gx (Ln.midN H n s A (i + 1) 0) (n + 1) wl) := HRI.out.eq (fun k _ => Ln.midN_row (.inl HAB.out) k)
              go_wp2_with fail
              go_roundg (n + 1 - (i + 1))
              case measure => omega
              case rel => exact ⟨i + 1, by omega, by omega, by go_num, HRN⟩
            | true =>
              by_cases hle : i + l ≤ n
              · have hle' : (i : Int) + (l : Int) ≤ (n : Int) := by omega
                have hle2 : decide ((i : Int) + (l : Int) ≤ (n : Int)) = true := by simpa using hle'
                obtain ⟨z0, z1⟩ := bx_cells2 HRI.out.sbox
                obtain ⟨sv, HSV⟩ := nameIt (Ln.stB H s l)
                have hsv : (if stb then l == 1 else H sn.toNat l) = sv := by rw [← HSV.out, HSB.out l]
                have hil0 : (0 : Int) ≤ (i : Int) + (l : Int) := by omega
                have hil1 : (i : Int) + (l : Int) < (n : Int) + 1 := by omega
                have u0 := HRI.out.nrow.cell (show i + l < n + 1 by omega)
                have u1 := HRI.out.nrow.free (i + l)
                have hto : ((i : Int) + (l : Int)).toNat = i + l := by omega
                obtain ⟨mv, HMV⟩ := nameIt (Ln.midN H n s A i l (i + l))
                rw [HMV.out] at u0
                have HRN : Hid (FI W sx #[.bool stb, .int .i64 sn] ga A gx (Ln.midN H n s A i (l + 1)) (n + 1) (wl.setCell ⟨gx, i + l, none⟩ (.bool (mv || sv))).drew) :=
                  FI.keep (HRI.out.set (by omega) (fun k _ => by
                    rw [Ln.midN_step HAB.out hle, HSV.out]
                    by_cases e : k = i + l
                    · subst e; rw [HMV.out]; cases sv <;> simp
                    · simp [e])) (Below.refl _ _).drew
                go_upto_region 13 with fail
                cases mv with
                | true =>
                  clear hsv hsb
                  refine wp_region_still_tail 37 (by kernel_rfl) (by kernel_rfl) ?_
                  simp only [List.take_succ_cons, List.take_zero, List.drop_succ_cons, List.drop_zero]
                  change wpStill _ _ (World.drew _) _ _ _
                  refine still_quiet _ _ ?_
                  repeat (go_big_quiet_step (fail))
                  refine wpQuiet_nil ?_
                  change wpList _ _ _ _ _ (World.drew _)
                  go_wp2_with fail
                  go_roundg (n + 1 - (l + 1))
                  case measure => omega
                  case rel => exact ⟨l + 1, by omega, by omega, by go_num, by simpa using HRN⟩
                | false =>
                  cases stb with
                  | true =>
                    have hl1 : ((l : Int) == 1) = sv := by
                      rw [← hsv, if_pos rfl, Bool.eq_iff_iff, beq_iff_eq, beq_iff_eq]
                      omega
                    cases sv with
                    | true =>
                      refine wp_region_still_tail 37 (by kernel_rfl) (by kernel_rfl) ?_
                      simp only [List.take_succ_cons, List.take_zero, List.drop_succ_cons, List.drop_zero]
                      change wpStill _ _ (World.drew _) _ _ _
                      refine still_quiet _ _ ?_
                      repeat (go_big_quiet_step (fail))
                      refine wpQuiet_nil ?_
                      change wpList _ _ _ _ _ (World.drew _)
                      go_wp2_with fail
                      go_roundg (n + 1 - (l + 1))
                      case measure => omega
                      case rel => exact ⟨l + 1, by omega, by omega, by go_num, by simpa using HRN⟩
                    | false =>
                      refine wp_region_still_tail 37 (by kernel_rfl) (by kernel_rfl) ?_
                      simp only [List.take_succ_cons, List.take_zero, List.drop_succ_cons, List.drop_zero]
                      change wpStill _ _ (World.drew _) _ _ _
                      refine still_quiet _ _ ?_
                      repeat (go_big_quiet_step (fail))
                      refine wpQuiet_nil ?_
                      change wpList _ _ _ _ _ (World.drew _)
                      go_wp2_with fail
                      go_roundg (n + 1 - (l + 1))
                      case measure => omega
                      case rel => exact ⟨l + 1, by omega, by omega, by go_num, by simpa using HRN⟩
                  | false =>
                    obtain ⟨sm, hsm⟩ : ∃ k : Nat, sn = (k : Int) := ⟨sn.toNat, by have := (hsb rfl).1; omega⟩
                    subst hsm
                    have hsN : sm < N := by simpa using (hsb rfl).2
                    have hsN' : (sm : Int) < (N : Int) := by omega
                    have hs0 : (0 : Int) ≤ (sm : Int) := by omega
                    have hl0' : (0 : Int) ≤ (l : Int) := by omega
                    have hl1' : (l : Int) < (nn : Int) + 1 := by omega
                    have hbl := HWW.out.trans (HRI.out.bel.mono HWW.out.size)
                    have t2 := HLB.out wl hbl
                    obtain ⟨t0, t1⟩ := HTB.out wl sm l hbl hsN (by omega)
                    have hsv2 : H sm l = sv := by rw [← hsv]; simp
                    rw [hsv2] at t1
                    obtain ⟨rs, HRS⟩ := nameIt (rb sm)
                    rw [HRS.out] at t0 t1
                    clear hsb hsv hsv2 hbl
                    cases sv with
                    | true =>
                      refine wp_region_still_tail 37 (by kernel_rfl) (by kernel_rfl) ?_
                      simp only [List.take_succ_cons, List.take_zero, List.drop_succ_cons, List.drop_zero]
                      change wpStill _ _ (World.drew _) _ _ _
                      refine still_quiet _ _ ?_
                      repeat (go_big_quiet_step (fail))
                      refine wpQuiet_nil ?_
                      change wpList _ _ _ _ _ (World.drew _)
                      go_wp2_with fail
                      go_roundg (n + 1 - (l + 1))
                      case measure => omega
                      case rel => exact ⟨l + 1, by omega, by omega, by go_num, by simpa using HRN⟩
                    | false =>
                      refine wp_region_still_tail 37 (by kernel_rfl) (by kernel_rfl) ?_
                      simp only [List.take_succ_cons, List.take_zero, List.drop_succ_cons, List.drop_zero]
                      change wpStill _ _ (World.drew _) _ _ _
                      refine still_quiet _ _ ?_
                      repeat (go_big_quiet_step (fail))
                      refine wpQuiet_nil ?_
                      change wpList _ _ _ _ _ (World.drew _)
                      go_wp2_with fail
                      go_roundg (n + 1 - (l + 1))
                      case measure => omega
                      case rel => exact ⟨l + 1, by omega, by omega, by go_num, by simpa using HRN⟩
              · have hle2 : decide ((i : Int) + (l : Int) ≤ (n : Int)) = false := by simp; omega
                have HRN : Hid (FI W sx #[.bool stb, .int .i64 sn] ga A gx (Ln.midN H n s A (i + 1) 0) (n + 1) wl) := HRI.out.eq (fun k _ => Ln.midN_row (.inr (by omega)) k)
                go_wp2_with fail
                go_roundg (n + 1 - (i + 1))
                case measure => omega
                case rel => exact ⟨i + 1, by omega, by omega, by go_num, HRN⟩
        · have hin' : ¬ (i : Int) < (n : Int) + 1 := by omega
          have HBN : Hid (Ln.Brow gx (n + 1) (Ln.atR H n (R.take (q + 1))) wr) := HRI.out.nrow.eq (fun k _ => by rw [HNX.out, Ln.midN_end (by omega)])
          have HBL := Lib.hid HRI.out.bel
          go_wp2_with fail
          go_roundg (R.length - (q + 1))
          case measure => omega
          case rel => exact ⟨q + 1, gx, by omega, by omega, by go_num, rfl, HGXL, HBN, HBL⟩
    · have hqR' : ¬ (q : Int) < (R.length : Int) := by omega
      obtain rfl : q = R.length := by omega
      have u0 := HBR.out.cell (k := n) (by omega)
      rw [HATR.out n (Nat.le_refl _)] at u0
      have HE := Lib.hid (HFIN.out _ wq rfl HBQ.out)
      obtain ⟨cb, HCB⟩ := nameIt (canK H R n)
      rw [HCB.out] at u0 HE
      have hn0 : (0 : Int) ≤ (n : Int) := by omega
      have hn2 : (n : Int) < (n : Int) + 1 := by omega
      go_wp2_with fail
      first | exact HE.out | (go_ret; exact HE.out)
end Cs
end Go.Proofs.Ytbnpemgmdnghgaa
namespace Go.Proofs.Ytbnpemgmdnghgaa
open Go.RowKit
namespace Cs

/-- a row that is being made in an inner loop; vo: the row when the loop began, in w3 -/
structure InG (e : TypeId) (size B : Nat) (w3 : World) (vo : Value) (ds : List D) (v : Value) (wr : World) : Prop where
  row : RowD (fun k => B ≤ k) B e size ds v wr
  gr : w3.grownBy wr vo.ownBlock
  at' : v.ownBlock = vo.ownBlock ∨ ∃ k, v.ownBlock = some k ∧ w3.heap.size ≤ k
section
variable {e : TypeId} {size B : Nat} {w1 w3 : World} {vo : Value} {ds : List D} {v v' : Value} {wr w' W0 W1 : World}
theorem InG.start (h : RowD (fun k => B ≤ k) B e size ds vo w3) : InG e size B w3 vo ds vo w3 := ⟨h, ⟨rfl, rfl, rfl, Nat.le_refl _, fun _ _ _ => rfl⟩, .inl rfl⟩
theorem InG.keep (h : InG e size B w3 vo ds v wr) (hb : Below wr.heap.size wr w') : InG e size B w3 vo ds v w' := ⟨h.row.keep hb, grown_trans h.gr (grown_below hb _), h.at'⟩
theorem InG.rd (h : InG e size B w3 vo ds v wr) {T : Nat → Prop} {d : D} {cs : List Value} (hd : Rd (fun k => T k ∧ vo.ownBlock ≠ some k) w3 d cs) : Rd (fun k => T k ∧ k < wr.heap.size ∧ v.ownBlock ≠ some k) wr d cs := by
  refine Rd.keep (fun k hk hlt => ⟨⟨hk.1, Nat.lt_of_lt_of_le hlt h.gr.size, fun e => ?_⟩, h.gr.block k hlt (fun e => hk.2 e.symm)⟩) _ _ hd
  rcases h.at' with h2 | ⟨j, h2, hj⟩
  · rw [h2] at e; exact hk.2 e
  · rw [h2] at e; cases e; omega
theorem InG.below (h : InG e size B w3 vo ds v wr) (hb : Below B w1 w3) (hB : B ≤ w3.heap.size) (hvo : ∀ k, vo.ownBlock = some k → B ≤ k) : Below B w1 wr := hb.grown h.gr hB hvo
theorem InG.step {xs news : List Value} {n : Nat} {T : Nat → Prop} {d : D} (h : InG e size B w3 vo ds v W0) (ho : W0.ownsRow B e size v n xs) (hd : RdAll (fun k => B ≤ k ∧ v.ownBlock ≠ some k) W0 ds xs) (hn : n = ds.length)
    (hr : Rd T W0 d news) (hT : ∀ k, T k → k < W0.heap.size → B ≤ k ∧ v.ownBlock ≠ some k)
    (ho' : W1.ownsRow B e size v' (n + 1) (xs ++ news)) (hg : W0.grownBy W1 v.ownBlock) (hat : v'.ownBlock = v.ownBlock ∨ ∃ k, v'.ownBlock = some k ∧ W0.heap.size ≤ k) : InG e size B w3 vo (ds ++ [d]) v' W1 := by
  refine ⟨RowD.step (es := [d]) ho hd hn (RdAll.one hr) hT h.row.le ho' hg hat, ?_, ?_⟩
  · refine ⟨hg.os.trans h.gr.os, hg.tape.trans h.gr.tape, hg.output.trans h.gr.output, Nat.le_trans h.gr.size hg.size, fun k hk hne => ?_⟩
    rw [hg.block k (Nat.lt_of_lt_of_le hk h.gr.size) ?_, h.gr.block k hk hne]
    intro e
    rcases h.at' with h2 | ⟨j, h2, hj⟩
    · exact hne (by rw [e, h2])
    · rw [h2] at e; cases e; omega
  · have := h.gr.size
    rcases hat with h2 | ⟨j, h2, hj⟩
    · rw [h2]; exact h.at'
    · exact .inr ⟨j, h2, by omega⟩
end
theorem rd_nilD (S : Nat → Prop) (w : World) : Rd S w (.sl []) [.slice none 0 0] := rd_of_own (World.ownsRow_nil w 0 42 3) (by simp [RdAll]) rfl (fun k e => by simp [Value.ownBlock] at e)
def rowsD (R : List (List Tree)) : List D := R.map fun ks => .sl (ks.map Tree.d)
def LsPost (spec : Option (List Tree)) (W : World) (e : Ending) (W' : World) : Prop :=
  ∃ (a : Option Addr) (n c : Nat), e = .returned (.tuple #[.slice a n c, .bool spec.isSome]) ∧ Below W.heap.size W W' ∧ ∀ L, spec = some L → Rd (fun b => W.heap.size ≤ b) W' (.sl (L.map Tree.d)) [.slice a n c]
def LrPost (spec : Option (List (List Tree))) (W : World) (e : Ending) (W' : World) : Prop :=
  ∃ (a : Option Addr) (n c : Nat), e = .returned (.tuple #[.slice a n c, .bool spec.isSome]) ∧ Below W.heap.size W W' ∧ ∀ L, spec = some L → Rd (fun b => W.heap.size ≤ b) W' (.sl (rowsD L)) [.slice a n c]
def TsP (g : Gram) (N n lb most : Nat) (H : Nat → Nat → Bool) (w1 : World) (d : Nat) : Prop :=
  ∀ (s : Sym), okS N s → ∀ k, k ≤ n → ∀ W, Below w1.heap.size w1 W → Calls Try.prog 46 #[.pointer (some ⟨lb, 0, none⟩), .agg #[.bool s.term, .int .i64 s.n], .int .i64 (k : Int), .int .i64 (d : Int)] W (LsPost (lsT H most g.rules d s k) W)
def RwP (g : Gram) (N n lb most : Nat) (H : Nat → Nat → Bool) (w1 : World) (d : Nat) : Prop :=
  ∀ (l : List Sym), (∀ s ∈ l, okS N s) → l.length ≤ 1000 → ∀ k, k ≤ n → ∀ (a : Option Addr) (cap : Nat), Rd AnyB w1 (.sl (l.map Sym.d)) [.slice a l.length cap] → ∀ W, Below w1.heap.size w1 W →
    Calls Try.prog 72 #[.pointer (some ⟨lb, 0, none⟩), .slice a l.length cap, .int .i64 (k : Int), .int .i64 (d : Int)] W (LrPost (lsL H most (lsT H most g.rules d) l k) W)
theorem rows_cells (R : List (List Tree)) : ∀ d ∈ rowsD R, d.cells = 1 := by
  intro d hd
  unfold rowsD at hd
  simp at hd
  obtain ⟨t, _, rfl⟩ := hd
  rfl
theorem rowsD_len (R : List (List Tree)) : (rowsD R).length = R.length := by simp [rowsD]
/-- a list of trees in a row of lists -/
theorem Rd.row_at {S : Nat → Prop} {w : World} {R : List (List Tree)} {a : Option Addr} {n cap i : Nat} (h : Rd S w (.sl (rowsD R)) [.slice a n cap]) (hi : i < R.length) :
    ∃ b off v, a = some ⟨b, off, none⟩ ∧ S b ∧ b < w.heap.size ∧ w.cell? ⟨b, off + i, none⟩ = some v ∧ Rd S w (.sl (R[i].map Tree.d)) [v] := by
  obtain ⟨b, off, cs, ha, hS, hlt, hr, hl, hc⟩ := h.at (rows_cells R) (by decide) (i := i) (by rw [rowsD_len]; exact hi)
  have e : (rowsD R)[i]'(by rw [rowsD_len]; exact hi) = .sl (R[i].map Tree.d) := by simp [rowsD]
  rw [e] at hr
  obtain ⟨a', cap', L, hcs, _⟩ := id hr
  subst hcs
  have h0 := hc 0 (by simp)
  rw [Nat.mul_one, Nat.add_zero] at h0
  exact ⟨b, off, _, ha, hS, hlt, h0, hr⟩
end Cs
end Go.Proofs.Ytbnpemgmdnghgaa
namespace Go.Proofs.Ytbnpemgmdnghgaa
open Go.RowKit
namespace Cs

/-- what the rounds over the rules keep -/
structure LTI (H : Nat → Nat → Bool) (most : Nat) (o : Sym → Nat → Option (List Tree)) (A : Int) (k : Nat) (rules : List Rule) (spec : Option (List Tree)) (w0 : World) (j : Nat) (out : List Tree) (v : Value) (W : World) : Prop where
  rest : lsR H most o A k (rules.drop j) j out = spec
  len : out.length ≤ most
  row : RowD (fun b => w0.heap.size ≤ b) w0.heap.size 42 3 (out.map Tree.d) v W
  bel : Below w0.heap.size w0 W
def lsNext (H : Nat → Nat → Bool) (most : Nat) (o : Sym → Nat → Option (List Tree)) (A : Int) (k : Nat) (rs : List Rule) (j : Nat) (out : List Tree) : Option (List (List Tree)) → Option (List Tree)
  | none => none
  | some b => if most < (out ++ b.map fun ks => Tree.node (j : Int) 0 ks).length then none else lsR H most o A k rs (j + 1) (out ++ b.map fun ks => Tree.node (j : Int) 0 ks)
theorem lsR_at {H : Nat → Nat → Bool} {most : Nat} {o : Sym → Nat → Option (List Tree)} {A : Int} {k : Nat} {rules : List Rule} {j : Nat} {out : List Tree} (hj : j < rules.length) :
    lsR H most o A k (rules.drop j) j out = if (decide (rules[j].left = A) && canK H rules[j].right k) = true then lsNext H most o A k (rules.drop (j + 1)) j out (lsL H most o rules[j].right k) else lsR H most o A k (rules.drop (j + 1)) (j + 1) out := by
  rw [List.drop_eq_getElem_cons hj, lsR]
  cases lsL H most o rules[j].right k <;> rfl
theorem take_node {b : List (List Tree)} {q : Nat} (hq : q < b.length) (out : List Tree) (j : Int) : (out ++ (b.take (q + 1)).map fun ks => Tree.node j 0 ks).map Tree.d = (out ++ (b.take q).map fun ks => Tree.node j 0 ks).map Tree.d ++ [(Tree.node j 0 b[q]).d] := by
  rw [List.take_succ_eq_append_getElem hq]; simp only [List.map_append, List.map_cons, List.map_nil, List.append_assoc]
set_option maxHeartbeats 16000000 in
set_option maxRecDepth 100000 in
theorem treesL {g : Gram} {ra : Option Addr} {rcap N n : Nat} {lb most bt : Nat} {rb : Nat → Nat} {H : Nat → Nat → Bool} {w1 : World} (h : LE g ra rcap N n lb most bt rb H w1) (hn : n ≤ 400) (hm1 : 1 ≤ most) (hm2 : most ≤ 1000) (hok : ∀ r ∈ g.rules, ∀ s ∈ r.right, okS N s) (h4 : ∀ r ∈ g.rules, r.right.length ≤ 1000) (hsn : True)
    (d : Nat) (hd : d ≤ 1000) (hL : ∀ d0, d = d0 + 1 → RwP g N n lb most H w1 d0) : TsP g N n lb most H w1 d := by
  intro s hs k hk W hW
  obtain ⟨st, sn⟩ := s
  obtain ⟨PST, HP⟩ := nameIt (LsPost (lsT H most g.rules d ⟨st, sn⟩ k) W)
  rw [HP.out]
  obtain ⟨w0, HW0⟩ := nameIt (W.alloc (.cells #[.bool st, .int .i64 sn] 65))
  have hb0 : Below W.heap.size W w0 := by rw [← HW0.out]; exact (Below.refl _ _).alloc (Nat.le_refl _) _
  have HB0 := Lib.hid hb0
  have Y0 : Hid (w0.heap[W.heap.size]? = some (.cells #[.bool st, .int .i64 sn] 65 (0, 0))) := by rw [← HW0.out]; exact bx_new _ _ _ rfl
  have HB10 := Lib.hid (hW.trans (hb0.mono hW.size))
  have hsz0 : w0.heap.size = W.heap.size + 1 := by rw [← HW0.out]; simp
  have HSZ0 := Lib.hid hsz0
  obtain ⟨sb, HSB⟩ := nameIt W.heap.size
  rw [HSB.out] at Y0
  obtain ⟨y0, y1⟩ := bx_cells2 Y0.out
  cases st with
  | true =>
    have hsp : lsT H most g.rules d ⟨true, sn⟩ k = some (if k = 1 then [.node (-1) sn []] else []) := by cases d <;> simp [lsT]
    rw [hsp] at HP
    by_cases hk1 : k = 1
    · subst hk1
      rw [if_pos rfl] at HP
      obtain ⟨w2, HW2⟩ := nameIt (w0.alloc (.cells #[.int .i64 (-1), .int .i64 sn, .slice none 0 0] 42))
      have HE : Hid (PST (.returned (.tuple #[.slice (some ⟨w0.heap.size, 0, none⟩) 1 1, .bool true])) w2) := by
        show PST _ _
        rw [← HP.out]
        refine ⟨_, _, _, rfl, ?_, ?_⟩
        · rw [← HW2.out]; exact (hb0.alloc hb0.size _)
        · intro L hL'
          cases hL'
          have hx : w2.heap[w0.heap.size]? = some (.cells #[.int .i64 (-1), .int .i64 sn, .slice none 0 0] 42 (0, 0)) := by rw [← HW2.out]; exact bx_new _ _ _ rfl
          have hown : w2.ownsRow w0.heap.size 42 3 (.slice (some ⟨w0.heap.size, 0, none⟩) 1 1) 1 [.int .i64 (-1), .int .i64 sn, .slice none 0 0] := by
            refine ⟨by simp, .inr ⟨w0.heap.size, 1, #[.int .i64 (-1), .int .i64 sn, .slice none 0 0], rfl, Nat.le_refl _, hx, ?_⟩⟩
            simp [maxLen]
          exact rd_of_own hown (RdAll.one (rd_tree (t := .node (-1) sn []) (rd_nilD _ _))) rfl (fun b e => by simp [Value.ownBlock] at e; subst e; exact hb0.size)
      clear hb0 hL hs h4 hok h HP hsp hsz0
      go_enter Try.func46, Try.ntmps46
      go_upto_region 1 with fail
      rw [HW0.out, HSB.out]
      go_upto_region 3 with fail
      go_wp2_with fail
      simp only [HW2.out]
      first | exact HE.out | (refine bodyPost_ret (results_tmp2 Try.results46 _ _ _) rfl ?_; exact HE.out)
    · rw [if_neg hk1] at HP
      have hk1' : ((k : Int) == 1) = false := by simp; omega
      have HE : Hid (PST (.returned (.tuple #[.slice none 0 0, .bool true])) w0) := by
        show PST _ _
        rw [← HP.out]
        refine ⟨none, 0, 0, rfl, hb0, ?_⟩
        intro L hL'
        cases hL'
        exact rd_nilD _ _
      clear hb0 hL hs h4 hok h HP hsp hsz0
      go_enter Try.func46, Try.ntmps46
      go_upto_region 1 with fail
      rw [HW0.out, HSB.out]
      go_wp2_with fail
      first | exact HE.out | (refine bodyPost_ret (results_tmp2 Try.results46 _ _ _) rfl ?_; exact HE.out)
  | false =>
    have HNO : Hid (∀ w', lsT H most g.rules d ⟨false, sn⟩ k = none → Below w0.heap.size w0 w' → PST (.returned (.tuple #[.slice none 0 0, .bool false])) w') := by
      intro w' h1 h2
      rw [← HP.out, h1]
      exact ⟨none, 0, 0, rfl, hb0.trans (h2.mono hb0.size), fun L h => by cases h⟩
    cases d with
    | zero =>
      have HE := Lib.hid (HNO.out w0 (by unfold lsT; rfl) (Below.refl _ _))
      clear hb0 hL hs h4 hok h HP hsz0 HNO
      go_enter Try.func46, Try.ntmps46
      go_upto_region 1 with fail
      rw [HW0.out, HSB.out]
      go_wp2_with fail
      first | exact HE.out | (refine bodyPost_ret (results_tmp2 Try.results46 _ _ _) rfl ?_; exact HE.out)
    | succ d =>
      replace hL := hL d rfl
      have hsp : lsT H most g.rules (d + 1) ⟨false, sn⟩ k = lsR H most (lsT H most g.rules d) sn k g.rules 0 [] := by rw [lsT]; rfl
      rw [hsp] at HP HNO
      obtain ⟨o, HO⟩ := nameIt (lsT H most g.rules d)
      obtain ⟨spec, HSP⟩ := nameIt (lsR H most (lsT H most g.rules d) sn k g.rules 0 [])
      rw [HSP.out] at HP HNO
      rw [HO.out] at HSP
      have HI0 : Hid (LTI H most o sn k g.rules spec w0 0 [] (.slice none 0 0) w0) := ⟨HSP.out, by simp, RowD.nil _ _ _ _ _ (Nat.le_refl _), Below.refl _ _⟩
      have HYES : Hid (∀ out v W', LTI H most o sn k g.rules spec w0 g.rules.length out v W' → ∃ a c, v = .slice a out.length c ∧ PST (.returned (.tuple #[v, .bool true])) W') := by
        intro out v W' hi
        have h1 := hi.rest
        rw [List.drop_length, lsR] at h1
        have h2 := hi.row.rd
        obtain ⟨a, c, hv, -⟩ := hi.row.form
        rw [List.length_map] at hv
        refine ⟨a, c, hv, ?_⟩
        rw [← HP.out, ← h1, hv]
        refine ⟨a, _, c, rfl, hb0.trans (hi.bel.mono hb0.size), fun L hL' => ?_⟩
        cases hL'
        rw [← hv]
        exact h2.mono fun b hb _ => by have := hb0.size; have : w0.heap.size ≤ b := hb.elim id id; omega
      have HFT : Hid (∀ j (hj : j < g.rules.length) av cv, Rd AnyB w1 (.sl (g.rules[j].right.map Sym.d)) [.slice av g.rules[j].right.length cv] → ∀ W', Below w1.heap.size w1 W' → Calls Try.prog 71 #[.pointer (some ⟨lb, 0, none⟩), .slice av g.rules[j].right.length cv, .int .i64 (k : Int)] W' fun e w' => e = .returned (.bool (canK H g.rules[j].right k)) ∧ Below W'.heap.size W' w') :=
        fun j hj av cv hrd W' hb => fitsE h hn _ (hok _ (List.getElem_mem hj)) k hk av cv hrd W' hb
      have HRW : Hid (∀ j (hj : j < g.rules.length) av cv, Rd AnyB w1 (.sl (g.rules[j].right.map Sym.d)) [.slice av g.rules[j].right.length cv] → ∀ W', Below w1.heap.size w1 W' → Calls Try.prog 72 #[.pointer (some ⟨lb, 0, none⟩), .slice av g.rules[j].right.length cv, .int .i64 (k : Int), .int .i64 (d : Int)] W' (LrPost (lsL H most o g.rules[j].right k) W')) := by
        intro j hj av cv hrd W' hb
        rw [← HO.out]
        exact hL _ (hok _ (List.getElem_mem hj)) (h4 _ (List.getElem_mem hj)) k hk av cv hrd W' hb
      have HLL : Hid (∀ j (hj : j < g.rules.length) b, lsL H most o g.rules[j].right k = some b → b.length ≤ most) := fun j hj b hb => lsL_len hm1 _ _ _ hb
      have HAT : Hid (∀ j (hj : j < g.rules.length) out, lsR H most o sn k (g.rules.drop j) j out = if (decide (g.rules[j].left = sn) && canK H g.rules[j].right k) = true then
      lsNext H most o sn k (g.rules.drop (j + 1)) j out (lsL H most o g.rules[j].right k)
    else lsR H most o sn k (g.rules.drop (j + 1)) (j + 1) out) := fun j hj out => lsR_at hj
      have hlb := (Array.getElem?_eq_some_iff.1 h.box).1
      have HLB : Hid (∀ W', Below w0.heap.size w0 W' → W'.cell? ⟨lb, 0 + 3, none⟩ = some (.slice ra g.rules.length rcap) ∧ W'.cell? ⟨lb, 0 + 5, none⟩ = some (.int .i64 (most : Int))) := by
        intro W' hb
        have hb1 := HB10.out.trans (hb.mono HB10.out.size)
        obtain ⟨_, _, _, x3, _, x5⟩ := bx_cells6c ((hb1.block lb hlb).trans h.box)
        exact ⟨x3, x5⟩
      have HYB : Hid (∀ W', Below w0.heap.size w0 W' → W'.cell? ⟨sb, 0, none⟩ = some (.bool false) ∧ W'.cell? ⟨sb, 0 + 1, none⟩ = some (.int .i64 sn)) := fun W' hb => bx_cells2 (bx_keep Y0.out hb)
      have HRD := Lib.hid h.rules
      have hrc : rcap ≤ maxLen ∧ g.rules.length ≤ rcap := by obtain ⟨a', cap', L, e, h1, h2, _⟩ := h.rules; simp at e h1; omega
      unfold maxLen at hrc
      obtain ⟨rl, HRL⟩ := nameIt g.rules.length
      have HRLE := HRL.out
      rw [HRL.out] at HYES hrc
      simp only [HRLE] at HLB HRD HFT HRW HLL HAT
      have hdw : IntKind.i64.wrap (((d + 1 : Nat) : Int) - 1) = (d : Int) := by rw [IntWalk.i64_in _ (by omega)]; omega
      have hdw' : IntKind.i64.wrap ((d : Int) + 1 - 1) = (d : Int) := by rw [IntWalk.i64_in _ (by omega)]; omega
      have hdn : (((d + 1 : Nat) : Int) == 0) = false := by simp; omega
      have hdn' : ((d : Int) + 1 == 0) = false := by simp; omega
      obtain ⟨x3, x5⟩ := HLB.out w0 (Below.refl _ _)
      clear hb0 hL hs h4 hok h HP hsp hsz0 hlb HSP
      go_enter Try.func46, Try.ntmps46
      go_upto_region 1 with fail
      rw [HW0.out, HSB.out]
      go_wp2_with fail
      clear y0 y1 x3 x5
      go_loopg [10, 11, 13, 14, 16, 33] rl (fun gg v10 v11 v13 v14 v16 v33 wr => ∃ (j : Nat) (out : List Tree) (vo : Value), j ≤ rl ∧ rl - j ≤ gg ∧ vo = v10 ∧ v33 = .int .i64 (j : Int) ∧ Hid (LTI H most o sn k g.rules spec w0 j out vo wr))
      case atStart => exact ⟨0, [], _, by omega, by omega, rfl, rfl, HI0⟩
      case round =>
        clear HI0
        obtain ⟨j, out, vo, hj, hgg, rfl, rfl, HI⟩ := hrel
        obtain ⟨w5, rfl⟩ : ∃ ww : World, ww = wr := ⟨_, rfl⟩
        obtain ⟨ao, co, hvo, hco1, hco2, hown⟩ := HI.out.row.form
        have holen := HI.out.len
        rw [List.length_map] at hvo hco1
        unfold maxLen at hco2
        subst hvo
        have HOWN := Lib.hid hown
        obtain ⟨no, HNO2⟩ := nameIt out.length
        rw [HNO2.out] at HI HOWN hco1 holen
        rw [HNO2.out]
        clear hown
        by_cases hjr : j < rl
        · have hjr' : (j : Int) < (rl : Int) := by omega
          have hj0 : (0 : Int) ≤ (j : Int) := by omega
          have hjx : j < g.rules.length := by rw [HRLE]; omega
          have HB5 := Lib.hid (HB10.out.trans (HI.out.bel.mono HB10.out.size))
          obtain ⟨rbk, ro, rv, rfl, -, hrb, s0, s1, hrr⟩ := HRD.out.rule_at hjx
          obtain ⟨ak, kc, rfl, hkc1, hkc2⟩ := hrr.form
          rw [List.length_map] at s1 hrr hkc1
          unfold maxLen at hkc2
          have t0 := (HB5.out.cell (lt_of_cell s0)).trans s0
          have t1 := (HB5.out.cell (lt_of_cell s1)).trans s1
          have hft := fun W' hb => HFT.out j hjr ak kc hrr W' hb
          have hrw := fun W' hb => HRW.out j hjr ak kc hrr W' hb
          have hll := HLL.out j hjr
          have hat := HAT.out j hjr out
          obtain ⟨kn, HKN⟩ := nameIt (g.rules[j]'hjx).right.length
          obtain ⟨kl, HKL⟩ := nameIt (g.rules[j]'hjx).left
          obtain ⟨cb, HCB⟩ := nameIt (canK H (g.rules[j]'hjx).right k)
          obtain ⟨bs, HBS⟩ := nameIt (lsL H most o (g.rules[j]'hjx).right k)
          rw [HKN.out] at t1 hkc1
          rw [HKL.out] at t0 hat
          simp only [HKN.out, HCB.out] at hft
          simp only [HKN.out, HBS.out] at hrw
          rw [HBS.out] at hll
          rw [HCB.out, HBS.out, HI.out.rest] at hat
          have HFTJ := Lib.hid hft
          have HRWJ := Lib.hid hrw
          have HLLJ := Lib.hid hll
          have HATJ := Lib.hid hat
          obtain ⟨w6, HW6⟩ := nameIt (w5.alloc (.cells #[.int .i64 kl, .slice ak kn kc] 48))
          have HB56 : Hid (Below w5.heap.size w5 w6) := by rw [← HW6.out]; exact (Below.refl _ _).alloc (Nat.le_refl _) _
          have HB06 := Lib.hid (HI.out.bel.trans (HB56.out.mono HI.out.bel.size))
          have HB16 := Lib.hid (HB10.out.trans (HB06.out.mono HB10.out.size))
          have Z6 : Hid (w6.heap[w5.heap.size]? = some (.cells #[.int .i64 kl, .slice ak kn kc] 48 (0, 0))) := by rw [← HW6.out]; exact bx_new _ _ _ rfl
          have HRW6 := Lib.hid (HI.out.row.keep HB56.out)
          obtain ⟨rbx, HRBX2⟩ := nameIt w5.heap.size
          rw [HRBX2.out] at Z6
          clear hrr s0 s1 hft hrw hll hat
          go_upto_region 11 with fail
          rw [HW6.out, HRBX2.out]
          clear t0 t1
          obtain ⟨y0, y1⟩ := HYB.out w6 HB06.out
          obtain ⟨z0, z1⟩ := bx_cells2 Z6.out
          by_cases hkl : kl = sn
          · subst hkl
            go_wp2_with fail
            refine (HFTJ.out w6 HB16.out).mono ?_
            rintro e w7 ⟨rfl, hb7⟩
            have HB67 := Lib.hid hb7
            have HB07 := Lib.hid (HB06.out.trans (hb7.mono HB06.out.size))
            have HB17 := Lib.hid (HB16.out.trans (hb7.mono HB16.out.size))
            have HRW7 := Lib.hid (HRW6.out.keep hb7)
            have Z7 := Lib.hid (bx_keep Z6.out hb7)
            clear hb7 y0 y1 z0 z1
            cases cb with
            | false =>
              have HI2 : Hid (LTI H most o kl k g.rules spec w0 (j + 1) out (.slice ao no co) w7) := ⟨by have := HATJ.out; simp at this; exact this.symm, by rw [HNO2.out]; exact holen, HRW7.out, HB07.out⟩
              go_wp2_with fail
              go_roundg (rl - (j + 1))
              case measure => omega
              case rel => exact ⟨j + 1, out, _, by omega, by omega, rfl, by go_num, HI2⟩
            | true =>
              have HAT2 : Hid (spec = lsNext H most o kl k (g.rules.drop (j + 1)) j out bs) := by show _ = _; have := HATJ.out; simpa using this
              obtain ⟨z0, z1⟩ := bx_cells2 Z7.out
              clear HATJ
              go_wp2_with fail
              refine (HRWJ.out w7 HB17.out).mono ?_
              rintro e w8 ⟨ab, nb, cbb, rfl, hb8, hrd8⟩
              have HB08 := Lib.hid (HB07.out.trans (hb8.mono HB07.out.size))
              have HRW8 := Lib.hid (HRW7.out.keep hb8)
              cases bs with
              | none =>
                have HE := Lib.hid (HNO.out w8 HAT2.out HB08.out)
                clear hb8 hrd8 z0 z1
                go_wp2_with fail
                first | exact HE.out | (refine bodyPost_ret (results_tmp2 Try.results46 _ _ _) rfl ?_; exact HE.out)
              | some b =>
                have hr8 := hrd8 b rfl
                have hbl := HLLJ.out b rfl
                have hbb := hr8.bounds
                rw [rowsD_len] at hbb
                obtain ⟨rfl, hcb1, hcb2⟩ := hbb
                unfold maxLen at hcb2
                have h78 := hb8.size
                have HVO : Hid (∀ b', (Value.slice ao no co).ownBlock = some b' → w0.heap.size ≤ b' ∧ b' < w7.heap.size) := fun b' e => ⟨(HOWN.out b' e).1, Nat.lt_of_lt_of_le (HOWN.out b' e).2 (Nat.le_trans HB56.out.size HB67.out.size)⟩
                have HR8 : Hid (Rd (fun q => w0.heap.size ≤ q ∧ (Value.slice ao no co).ownBlock ≠ some q) w8 (.sl (rowsD b)) [.slice ab b.length cbb]) := hr8.mono fun q hq _ => ⟨by have h9 : w7.heap.size ≤ q := hq; have := HB07.out.size; omega, fun e => by have := (HVO.out q e).2; have h9 : w7.heap.size ≤ q := hq; omega⟩
                have HG0 : Hid (InG 42 3 w0.heap.size w8 (.slice ao no co) ((out ++ (b.take 0).map fun ks => Tree.node (j : Int) 0 ks).map Tree.d) (.slice ao no co) w8) := by
                  rw [List.take_zero, List.map_nil, List.append_nil]; exact InG.start HRW8.out
                obtain ⟨bl, HBL⟩ := nameIt b.length
                rw [HBL.out] at HR8 hcb1 hbl
                rw [HBL.out]
                clear hr8 hrd8 hb8 z0 z1
                go_wp2_with fail
                go_loopg [10, 16, 65] bl (fun gg v10 v16 v65 wr => ∃ (q : Nat) (vq : Value), q ≤ bl ∧ bl - q ≤ gg ∧ vq = v10 ∧ v65 = .int .i64 (q : Int) ∧ Hid (InG 42 3 w0.heap.size w8 (.slice ao no co) ((out ++ (b.take q).map fun ks => Tree.node (j : Int) 0 ks).map Tree.d) vq wr))
                case atStart => exact ⟨0, _, by omega, by omega, rfl, rfl, HG0⟩
                case round =>
                  clear HG0
                  obtain ⟨q, vq, hq, hgq, rfl, rfl, HG⟩ := hrel
                  obtain ⟨w9, rfl⟩ : ∃ ww : World, ww = wr := ⟨_, rfl⟩
                  obtain ⟨aq, cq, hvq, hcq1, hcq2, hownq⟩ := HG.out.row.form
                  rw [List.length_map, List.length_append, List.length_map, List.length_take, HNO2.out, HBL.out] at hvq hcq1
                  unfold maxLen at hcq2
                  subst hvq
                  have HB09 : Hid (Below w0.heap.size w0 w9) := HG.out.below HB08.out HB08.out.size (fun b' e => (HVO.out b' e).1)
                  obtain ⟨nq, HNQ⟩ := nameIt (no + min q bl)
                  rw [HNQ.out] at HG hcq1
                  rw [HNQ.out]
                  have HNQ2 : Hid (nq = no + q) := by show _ = _; have := HNQ.out; omega
                  have hnqb : nq ≤ 3000 := by have := HNQ2.out; omega
                  by_cases hqb : q < bl
                  · have hqb' : (q : Int) < (bl : Int) := by omega
                    have hq0 : (0 : Int) ≤ (q : Int) := by omega
                    have hqx : q < b.length := by rw [HBL.out]; exact hqb
                    have hr9 := HG.out.rd HR8.out
                    obtain ⟨bb, off, vk, rfl, -, -, c0, hrk⟩ := Rd.row_at hr9 hqx
                    obtain ⟨ak2, ck2, rfl, -, -⟩ := hrk.form
                    rw [List.length_map] at c0 hrk
                    have HTK := Lib.hid (take_node hqx out (j : Int))
                    have HRK := Lib.hid hrk
                    obtain ⟨bq, HBQ⟩ := nameIt (b[q]'hqx)
                    rw [HBQ.out] at c0 HRK HTK
                    obtain ⟨lq, HLQ⟩ := nameIt bq.length
                    rw [HLQ.out] at c0 HRK
                    obtain ⟨xs, ho, hd'⟩ := HG.out.row.own
                    rw [List.length_map, List.length_append, List.length_map, List.length_take, HNO2.out, HBL.out, HNQ.out] at ho
                    have HOQ := Lib.hid ho
                    have HDQ := Lib.hid hd'
                    have hle9 := HG.out.row.le
                    clear hr9 hrk ho hd' hownq
                    go_upto_region 18 with fail
                    go_wp2_with (at_builtin; refine wp_app1at elTree rfl _ _ rfl HOQ.out rfl rfl (by simp) rfl rfl (by omega) (by unfold maxLen; omega) (by omega) ?_)
                    intro v' w10 ho10 hg10 hat10
                    have HG2 : Hid (InG 42 3 w0.heap.size w8 (.slice ao no co) ((out ++ (b.take (q + 1)).map fun ks => Tree.node (j : Int) 0 ks).map Tree.d) v' w10) := by
                      show InG _ _ _ _ _ _ _ _
                      rw [HTK.out]
                      exact HG.out.step HOQ.out HDQ.out (by rw [List.length_map, List.length_append, List.length_map, List.length_take, HNO2.out, HBL.out]; exact HNQ.out.symm) (rd_tree (t := Tree.node (j : Int) 0 bq) HRK.out) (fun q' hq' _ => ⟨hq'.1, hq'.2.2⟩) ho10 hg10 hat10
                    obtain ⟨a10, c10, rfl, -, -⟩ := own_len ho10
                    clear ho10 hg10 hat10 c0
                    go_wp2_with fail
                    go_roundg (bl - (q + 1))
                    case measure => omega
                    case rel => exact ⟨q + 1, _, by omega, by omega, rfl, by go_num, HG2⟩
                  · obtain rfl : q = bl := by omega
                    have htk : b.take q = b := List.take_of_length_le (by rw [HBL.out]; exact Nat.le_refl _)
                    have hg := HG.out
                    rw [htk] at hg
                    have HGG := Lib.hid hg
                    have HAT3 : spec = (if most < (out ++ b.map fun ks => Tree.node (j : Int) 0 ks).length then none else lsR H most o kl k (g.rules.drop (j + 1)) (j + 1) (out ++ b.map fun ks => Tree.node (j : Int) 0 ks)) := HAT2.out
                    have hln : (out ++ b.map fun ks => Tree.node (j : Int) 0 ks).length = nq := by rw [List.length_append, List.length_map, HNO2.out, HBL.out]; have := HNQ2.out; omega
                    rw [hln] at HAT3
                    have HLN := Lib.hid hln
                    have HAT4 := Lib.hid HAT3
                    obtain ⟨x3, x5⟩ := HLB.out w9 HB09.out
                    clear hg HAT3 hln hownq htk HG
                    by_cases hmn : most < nq
                    · have hmn' : decide ((most : Int) < (nq : Int)) = true := by simp; omega
                      have HE := Lib.hid (HNO.out w9 (by have := HAT4.out; rw [if_pos hmn] at this; exact this) HB09.out)
                      go_wp2_with fail
                      first | exact HE.out | (refine bodyPost_ret (results_tmp2 Try.results46 _ _ _) rfl ?_; exact HE.out)
                    · have hmn' : decide ((most : Int) < (nq : Int)) = false := by simp; omega
                      have HI2 : Hid (LTI H most o kl k g.rules spec w0 (j + 1) (out ++ b.map fun ks => Tree.node (j : Int) 0 ks) (.slice aq nq cq) w9) :=
                        ⟨by have := HAT4.out; rw [if_neg hmn] at this; exact this.symm, by rw [HLN.out]; omega, HGG.out.row, HB09.out⟩
                      go_wp2_with fail
                      go_roundg (rl - (j + 1))
                      case measure => omega
                      case rel => exact ⟨j + 1, _, _, by omega, by omega, rfl, by go_num, HI2⟩
          · have hkl' : (kl != sn) = true := by simpa using hkl
            have HI2 : Hid (LTI H most o sn k g.rules spec w0 (j + 1) out (.slice ao no co) w6) := ⟨by have := HATJ.out; simp only [hkl, decide_false, Bool.false_and, Bool.false_eq_true, if_false] at this; exact this.symm, by rw [HNO2.out]; exact holen, HRW6.out, HB06.out⟩
            go_wp2_with fail
            go_roundg (rl - (j + 1))
            case measure => omega
            case rel => exact ⟨j + 1, out, _, by omega, by omega, rfl, by go_num, HI2⟩
        · obtain rfl : j = rl := by omega
          obtain ⟨_, _, -, hpst⟩ := HYES.out out _ w5 HI.out
          have HE := Lib.hid hpst
          clear hpst
          go_wp2_with fail
          first | exact HE.out | (refine bodyPost_ret (results_tmp2 Try.results46 _ _ _) rfl ?_; exact HE.out)
end Cs
end Go.Proofs.Ytbnpemgmdnghgaa
namespace Go.Proofs.Ytbnpemgmdnghgaa
open Go.RowKit
namespace Cs

theorem elRows : ElemT Try.prog 122 40 1 24 := ElemT.mk' (z := .slice none 0 0) (by kernel_rfl) (by kernel_rfl) rfl (by decide)
/-- what the rounds over the lengths keep -/
structure LRI (H : Nat → Nat → Bool) (most : Nat) (o : Sym → Nat → Option (List Tree)) (s : Sym) (l : List Sym) (k : Nat) (w0 : World) (j : Nat) (out : List (List Tree)) (v : Value) (W : World) : Prop where
  acc : lsF H most o s l k j = some out
  row : RowD (fun b => w0.heap.size ≤ b) w0.heap.size 40 1 (rowsD out) v W
  bel : Below w0.heap.size w0 W
theorem canK_one {H : Nat → Nat → Bool} {s : Sym} {j : Nat} : canK H [s] j = hasK H s j := by
  rw [Bool.eq_iff_iff, canK_cons]
  constructor
  · rintro ⟨i, hi, h1, h2⟩
    have : j - i = 0 := by simpa [canK] using h2
    obtain rfl : i = j := by omega
    exact h1
  · intro h
    exact ⟨j, Nat.le_refl _, h, by simp [canK]⟩
theorem prodL_take {a : List Tree} {b : List (List Tree)} {p : Nat} (hp : p < a.length) : prodL (a.take (p + 1)) b = prodL (a.take p) b ++ b.map (a[p] :: ·) := by
  unfold prodL
  rw [List.take_succ_eq_append_getElem hp, List.flatMap_append]
  simp
theorem rowsD_app (a b : List (List Tree)) : rowsD (a ++ b) = rowsD a ++ rowsD b := by unfold rowsD; rw [List.map_append]
theorem rows_next {R : List (List Tree)} {b : List (List Tree)} {x : Tree} {q : Nat} (hq : q < b.length) : rowsD (R ++ (b.take (q + 1)).map (x :: ·)) = rowsD (R ++ (b.take q).map (x :: ·)) ++ [.sl ((x :: b[q]).map Tree.d)] := by
  rw [List.take_succ_eq_append_getElem hq, List.map_append, ← List.append_assoc, rowsD_app]
  rfl
section
variable {e : TypeId} {size B : Nat} {w3 : World} {vo : Value} {ds : List D} {v : Value} {wr : World}
theorem InG.block (h : InG e size B w3 vo ds v wr) {b : Nat} {o : Obj} (hb : w3.heap[b]? = some o) (hne : vo.ownBlock ≠ some b) : wr.heap[b]? = some o := by
  rw [h.gr.block b (Array.getElem?_eq_some_iff.1 hb).1 (fun e => hne e.symm)]; exact hb
end
theorem rd_past {B : Nat} {w w3 : World} {v v' : Value} {d : D} {cs : List Value} (h : Rd (fun k => B ≤ k ∧ v.ownBlock ≠ some k) w d cs) (hg : w.grownBy w3 v.ownBlock) (hat : v'.ownBlock = v.ownBlock ∨ ∃ k, v'.ownBlock = some k ∧ w.heap.size ≤ k) : Rd (fun k => B ≤ k ∧ v'.ownBlock ≠ some k) w3 d cs := by
  refine Rd.keep (fun k hk hlt => ⟨⟨hk.1, fun e => ?_⟩, hg.block k hlt (fun e => hk.2 e.symm)⟩) _ _ h
  rcases hat with h2 | ⟨j, h2, hj⟩
  · rw [h2] at e; exact hk.2 e
  · rw [h2] at e; cases e; omega
/-- a literal of one tree, and a list behind it -/
theorem rd_cons {B : Nat} {w w14 : World} {vq v14 : Value} {x : Tree} {y : List Tree} {xv : Value} {L : List Value} {g1 n : Nat} (hg1 : g1 = w.heap.size) (hB : B ≤ w.heap.size) (hvq : ∀ b, vq.ownBlock = some b → b < w.heap.size)
    (hx : Rd (fun k => B ≤ k ∧ vq.ownBlock ≠ some k) w (.sl (x.kids.map Tree.d)) [xv]) {o : Obj}
    (hy : RdAll (fun k => (B ≤ k ∧ vq.ownBlock ≠ some k) ∧ (Value.slice (some ⟨g1, 0, none⟩) 1 1).ownBlock ≠ some k) (w.alloc o) (y.map Tree.d) L)
    (ho : w14.ownsRow 0 42 3 v14 n ([.int .i64 x.rule, .int .i64 x.term, xv] ++ L)) (hn : (List.map Tree.d (x :: y)).length = n) (hg : (w.alloc o).grownBy w14 (Value.slice (some ⟨g1, 0, none⟩) 1 1).ownBlock) (hat : v14.ownBlock = (Value.slice (some ⟨g1, 0, none⟩) 1 1).ownBlock ∨ ∃ k, v14.ownBlock = some k ∧ (w.alloc o).heap.size ≤ k) :
    Rd (fun k => B ≤ k ∧ vq.ownBlock ≠ some k) w14 (.sl ((x :: y).map Tree.d)) [v14] := by
  have hx1 : Rd (fun k => (B ≤ k ∧ vq.ownBlock ≠ some k) ∧ (Value.slice (some ⟨g1, 0, none⟩) 1 1).ownBlock ≠ some k) w (.sl (x.kids.map Tree.d)) [xv] := hx.mono fun k hk hlt => ⟨hk, fun e => by simp [Value.ownBlock] at e; omega⟩
  have h1 := own_step (ds := [x.d]) (es := y.map Tree.d) (RdAll.one (rd_tree (hx1.below ((Below.refl _ _).alloc (Nat.le_refl _) o)))) hy hg hat
  refine rd_of_own ho (RdAll.mono h1 fun k hk _ => hk.1) hn (fun b e => ?_)
  rcases hat with h2 | ⟨j, h2, hj⟩
  · rw [h2] at e
    simp [Value.ownBlock] at e
    subst e
    exact ⟨by omega, fun e => by have := hvq _ e; omega⟩
  · rw [h2] at e
    cases e
    simp at hj
    exact ⟨by omega, fun e => by have := hvq _ e; omega⟩
theorem below_lit {w : World} {o : Obj} {w11 : World} {g1 : Nat} (hg1 : g1 = w.heap.size) {v : Value} (hv : v.ownBlock = some g1) (hg : (w.alloc o).grownBy w11 v.ownBlock) : Below w.heap.size w w11 := by
  refine ((Below.refl _ _).alloc (Nat.le_refl _) o).grown hg (by simp) (fun b e => ?_)
  rw [hv] at e; cases e; omega

set_option maxHeartbeats 16000000 in
set_option maxRecDepth 100000 in
theorem rowsL {g : Gram} {ra : Option Addr} {rcap N n : Nat} {lb most bt : Nat} {rb : Nat → Nat} {H : Nat → Nat → Bool} {w1 : World} (h : LE g ra rcap N n lb most bt rb H w1) (hn : n ≤ 400) (hm1 : 1 ≤ most) (hm2 : most ≤ 1000) (d : Nat) (hT : TsP g N n lb most H w1 d) : RwP g N n lb most H w1 d := by
  intro l
  induction l with
  | nil =>
    intro hl hlen k hk a cap hrd W hW
    obtain ⟨PST, HP⟩ := nameIt (LrPost (lsL H most (lsT H most g.rules d) [] k) W)
    rw [HP.out]
    obtain ⟨w2, HW2⟩ := nameIt (W.alloc (.cells #[.slice none 0 0] 40))
    obtain ⟨kb, HKB⟩ : ∃ kb : Bool, Hid (((k : Int) == 0) = kb) := ⟨_, rfl⟩
    have hkb := HKB.out
    have HE : Hid (PST (.returned (.tuple #[.slice (some ⟨W.heap.size, 0, none⟩) 1 1, .bool kb])) w2) := by
      show PST _ _
      rw [← HP.out]
      refine ⟨some ⟨W.heap.size, 0, none⟩, 1, 1, ?_, by rw [← HW2.out]; exact (Below.refl _ _).alloc (Nat.le_refl _) _, ?_⟩
      · unfold lsL
        by_cases hk0 : k = 0
        · subst hk0; rw [if_pos rfl]; simp at hkb; subst hkb; rfl
        · rw [if_neg hk0]
          have : kb = false := by rw [← hkb]; simp; omega
          subst this; rfl
      · intro L hL'
        unfold lsL at hL'
        by_cases hk0 : k = 0
        · rw [if_pos hk0] at hL'
          cases hL'
          have hx : w2.heap[W.heap.size]? = some (.cells #[.slice none 0 0] 40 (0, 0)) := by rw [← HW2.out]; exact bx_new _ _ _ rfl
          have hown : w2.ownsRow 0 40 1 (.slice (some ⟨W.heap.size, 0, none⟩) 1 1) 1 [.slice none 0 0] := own_of_block hx rfl (by simp [maxLen])
          exact rd_of_own hown (RdAll.one (rd_nilD _ _)) rfl (fun b e => by simp [Value.ownBlock] at e; subst e; exact Nat.le_refl _)
        · rw [if_neg hk0] at hL'; cases hL'
    clear hl hlen hrd hW HP h hT
    obtain ⟨z, hz⟩ : ∃ z : Nat, z = ([] : List Sym).length := ⟨_, rfl⟩
    rw [← hz]
    have hz0 : z = 0 := hz
    clear hz
    subst hz0
    go_enter Try.func72, Try.ntmps72
    go_upto_region 2 with fail
    go_wp2_with fail
    rw [HW2.out]
    first | exact HE.out | (refine bodyPost_ret (results_tmp2 Try.results72 _ _ _) rfl ?_; exact HE.out)
  | cons s l ih =>
    intro hl hlen k hk a cap hrd w0 hW
    obtain ⟨PST, HP⟩ := nameIt (LrPost (lsL H most (lsT H most g.rules d) (s :: l) k) w0)
    rw [HP.out]
    obtain ⟨o, HO⟩ := nameIt (lsT H most g.rules d)
    rw [HO.out] at HP
    have HNO : Hid (∀ w', lsL H most o (s :: l) k = none → Below w0.heap.size w0 w' → PST (.returned (.tuple #[.slice none 0 0, .bool false])) w') := by
      intro w' h1 h2
      rw [← HP.out, h1]
      exact ⟨none, 0, 0, rfl, h2, fun L h => by cases h⟩
    have HI0 : Hid (LRI H most o s l k w0 0 [] (.slice none 0 0) w0) := ⟨lsF_zero, RowD.nil _ _ _ _ _ (Nat.le_refl _), Below.refl _ _⟩
    have HYES : Hid (∀ out v W', LRI H most o s l k w0 (k + 1) out v W' → PST (.returned (.tuple #[v, .bool true])) W') := by
      intro out v W' hi
      have h2 := hi.row.rd
      obtain ⟨a, c, hv, -⟩ := hi.row.form
      rw [← HP.out, lsL_F, hi.acc, hv]
      refine ⟨a, _, c, rfl, hi.bel, fun L hL' => ?_⟩
      cases hL'
      rw [← hv]
      exact h2.mono fun b hb _ => hb.elim id id
    obtain ⟨sb, so, rfl, -, hsb, u0, u1⟩ := hrd.sym_at (i := 0) (by simp)
    simp only [List.getElem_cons_zero, Nat.zero_mul, Nat.add_zero] at u0 u1
    have hbn := hrd.bounds
    have hmx : maxLen = 9223372036854775807 := rfl
    have hrest : Rd AnyB w1 (.sl (l.map Sym.d)) [.slice (some ⟨sb, if cap = 1 then so else so + 2, none⟩) l.length (cap - 1)] := by
      have := rd_rest (k := 2) 1 hrd (syms_cells _) (by simp)
      rw [← List.map_drop, Nat.one_mul] at this
      simpa using this
    have hfirst : Rd AnyB w1 (.sl ([s].map Sym.d)) [.slice (some ⟨sb, so, none⟩) 1 cap] := by
      have := Rd.start (i := 1) hrd (by simp)
      rw [← List.map_take] at this
      simpa using this
    have HF1 : Hid (∀ j, j ≤ k → ∀ W', Below w0.heap.size w0 W' → Calls Try.prog 71 #[.pointer (some ⟨lb, 0, none⟩), .slice (some ⟨sb, so, none⟩) 1 cap, .int .i64 (j : Int)] W' fun e w' => e = .returned (.bool (hasK H s j)) ∧ Below W'.heap.size W' w') := by
      intro j hj W' hb
      have := fitsE h hn [s] (fun x hx => hl x (by simp at hx; simp [hx])) j (by omega) (some ⟨sb, so, none⟩) cap hfirst W' (hW.trans (hb.mono hW.size))
      rw [canK_one] at this
      exact this
    have HF2 : Hid (∀ j, j ≤ k → ∀ W', Below w0.heap.size w0 W' → Calls Try.prog 71 #[.pointer (some ⟨lb, 0, none⟩), .slice (some ⟨sb, if cap = 1 then so else so + 2, none⟩) l.length (cap - 1), .int .i64 ((k - j : Nat) : Int)] W' fun e w' => e = .returned (.bool (canK H l (k - j))) ∧ Below W'.heap.size W' w') :=
      fun j hj W' hb => fitsE h hn l (fun x hx => hl x (List.mem_cons_of_mem _ hx)) (k - j) (by omega) _ _ hrest W' (hW.trans (hb.mono hW.size))
    have HTS : Hid (∀ j, j ≤ k → ∀ W', Below w0.heap.size w0 W' → Calls Try.prog 46 #[.pointer (some ⟨lb, 0, none⟩), .agg #[.bool s.term, .int .i64 s.n], .int .i64 (j : Int), .int .i64 (d : Int)] W' (LsPost (o s j) W')) := by
      intro j hj W' hb
      rw [← HO.out]
      exact hT s (hl s List.mem_cons_self) j (by omega) W' (hW.trans (hb.mono hW.size))
    have HRS : Hid (∀ j, j ≤ k → ∀ W', Below w0.heap.size w0 W' → Calls Try.prog 72 #[.pointer (some ⟨lb, 0, none⟩), .slice (some ⟨sb, if cap = 1 then so else so + 2, none⟩) l.length (cap - 1), .int .i64 ((k - j : Nat) : Int), .int .i64 (d : Int)] W' (LrPost (lsL H most o l (k - j)) W')) := by
      intro j hj W' hb
      rw [← HO.out]
      exact ih (fun x hx => hl x (List.mem_cons_of_mem _ hx)) (by simp at hlen; omega) (k - j) (by omega) _ _ hrest W' (hW.trans (hb.mono hW.size))
    have HLA : Hid (∀ j L, o s j = some L → L.length ≤ 1000) := by
      intro j L hL'
      rw [← HO.out] at hL'
      have := lsT_len hm1 _ _ _ _ hL'
      omega
    have HLB2 : Hid (∀ j L, lsL H most o l (k - j) = some L → L.length ≤ 1000) := by
      intro j L hL'
      have := lsL_len hm1 _ _ _ hL'
      omega
    have HLBK : Hid (∀ j L y, lsL H most o l (k - j) = some L → y ∈ L → y.length ≤ 1000) := by
      intro j L y hL' hy
      have : ∀ (l : List Sym) (k : Nat) R, lsL H most o l k = some R → ∀ y ∈ R, y.length = l.length := by
        intro l
        induction l with
        | nil =>
          intro k R hR y hy
          unfold lsL at hR
          by_cases hk : k = 0
          · rw [if_pos hk] at hR; cases hR; simp at hy; subst hy; rfl
          · rw [if_neg hk] at hR; cases hR
        | cons s l ihl =>
          intro k R hR y hy
          rw [lsL_F] at hR
          have key : ∀ m R, lsF H most o s l k m = some R → ∀ y ∈ R, y.length = l.length + 1 := by
            intro m
            induction m with
            | zero => intro R hR y hy; rw [lsF_zero] at hR; cases hR; cases hy
            | succ m ihm =>
              intro R hR y hy
              rw [lsF_next] at hR
              cases h0 : lsF H most o s l k m with
              | none => rw [h0] at hR; cases hR
              | some out =>
                rw [h0] at hR
                simp only [Option.bind_some] at hR
                by_cases c : (hasK H s m && canK H l (k - m)) = true
                · rw [if_pos c] at hR
                  obtain ⟨x, z, hx, hz, rfl, _⟩ := lsStep_some hR
                  rcases List.mem_append.1 hy with hy | hy
                  · exact ihm out h0 y hy
                  · unfold prodL at hy
                    obtain ⟨t, ht, hy⟩ := List.mem_flatMap.1 hy
                    obtain ⟨u, hu, rfl⟩ := List.mem_map.1 hy
                    rw [List.length_cons, ihl _ _ hz u hu]
                · rw [if_neg c] at hR
                  cases hR
                  exact ihm _ h0 y hy
          exact key _ _ hR y hy
      have h5 := this l (k - j) L hL' y hy
      simp at hlen
      omega
    have HNX : Hid (∀ j, lsF H most o s l k (j + 1) = (lsF H most o s l k j).bind fun out => if (hasK H s j && canK H l (k - j)) = true then lsStep most out (o s j) (lsL H most o l (k - j)) else some out) := fun j => lsF_next
    have HFN : Hid (∀ j, j ≤ k → lsF H most o s l k (j + 1) = none → lsL H most o (s :: l) k = none) := by
      intro j hj hf
      rw [lsL_F]
      exact lsF_none hf (by omega)
    have hlb := (Array.getElem?_eq_some_iff.1 h.box).1
    have HLB : Hid (∀ W', Below w0.heap.size w0 W' → W'.cell? ⟨lb, 0 + 5, none⟩ = some (.int .i64 (most : Int))) := fun W' hb =>
      (bx_cells6c (((hW.trans (hb.mono hW.size)).block lb hlb).trans h.box)).2.2.2.2.2
    have HSC : Hid (∀ W', Below w0.heap.size w0 W' → W'.cell? ⟨sb, so, none⟩ = some (.bool s.term) ∧ W'.cell? ⟨sb, so + 1, none⟩ = some (.int .i64 s.n)) := fun W' hb => by
      have hb1 := hW.trans (hb.mono hW.size)
      exact ⟨(hb1.cell (lt_of_cell u0)).trans u0, (hb1.cell (lt_of_cell u1)).trans u1⟩
    obtain ⟨m, HM⟩ := nameIt (s :: l).length
    have hml : m = l.length + 1 := by rw [← HM.out]; rfl
    have hmcap : m ≤ cap ∧ cap ≤ 9223372036854775807 := by rw [← HM.out]; omega
    have hmm : (0 : Int) < (m : Int) := by omega
    have hm1' : (1 : Int) ≤ (m : Int) := by omega
    have hcap1 : (1 : Int) ≤ (cap : Int) := by omega
    have hmc1 : (m : Int) ≤ (cap : Int) := by omega
    have hmne : ¬ m = 0 := by omega
    have hm0b : ((m : Int) == 0) = false := by simp; omega
    have HML : Hid (l.length = m - 1) := by show _ = _; omega
    rw [HML.out] at HF2 HRS
    obtain ⟨st, HST⟩ := nameIt s.term
    obtain ⟨sn, HSN⟩ := nameIt s.n
    rw [HST.out, HSN.out] at HTS HSC
    obtain ⟨soff, HSO⟩ := nameIt (if cap = 1 then so else so + 2)
    obtain ⟨n2, HN2⟩ := nameIt (m - 1)
    obtain ⟨c2, HC2⟩ := nameIt (cap - 1)
    rw [HSO.out, HN2.out, HC2.out] at HF2 HRS
    rw [HM.out]
    have hslt : ∀ W, (Instr.slice 46 (.slice (some ⟨sb, so, none⟩) m cap) (some (.int .i64 1)) none none).run Try.prog W = .ok (.slice (some ⟨sb, soff, none⟩) n2 c2) W := fun W => by
      have hs := run_slice_l (P := Try.prog) W 46 (some ⟨sb, so, none⟩) m cap (by kernel_rfl) .i64 1 (by omega) (by omega)
      rw [hs, ← HSO.out, ← HN2.out, ← HC2.out]
      by_cases hct : cap = 1
      · subst hct; simp [go_sem]
      · simp [go_sem, hct]
    clear hl hrd hW HP h hT ih hrest hfirst hbn u0 u1 hml hlb hlen
    go_enter Try.func72, Try.ntmps72
    go_wp2_with fail
    go_loopg [10, 11, 12, 13, 14, 18] (k + 1) (fun gg v10 v11 v12 v13 v14 v18 wr => ∃ (j : Nat) (out : List (List Tree)) (vo : Value), j ≤ k + 1 ∧ k + 1 - j ≤ gg ∧ vo = v10 ∧ v11 = .int .i64 (j : Int) ∧ Hid (LRI H most o s l k w0 j out vo wr))
    case atStart => exact ⟨0, [], _, by omega, by omega, rfl, rfl, HI0⟩
    case round =>
      clear HI0
      obtain ⟨j, out, vo, hj, hgg, rfl, rfl, HI⟩ := hrel
      obtain ⟨w5, rfl⟩ : ∃ ww : World, ww = wr := ⟨_, rfl⟩
      obtain ⟨ao, co, hvo, hco1, hco2, hown⟩ := HI.out.row.form
      rw [rowsD_len] at hvo hco1
      unfold maxLen at hco2
      subst hvo
      have HOWN := Lib.hid hown
      have holen := lsF_len _ _ HI.out.acc
      obtain ⟨no, HNO2⟩ := nameIt out.length
      rw [HNO2.out] at HI HOWN hco1 holen
      rw [HNO2.out]
      clear hown
      by_cases hjk : j ≤ k
      · have hjk' : (j : Int) ≤ (k : Int) := by omega
        obtain ⟨kj, HKJ⟩ := nameIt (k - j)
        have hkjw : IntKind.i64.wrap ((k : Int) - (j : Int)) = (kj : Int) := by rw [IntWalk.i64_in _ (by omega)]; have := HKJ.out; omega
        have hf1 := HF1.out j hjk
        have hf2 := HF2.out j hjk
        have hts := HTS.out j hjk
        have hrs := HRS.out j hjk
        have hnx := HNX.out j
        have hla := HLA.out j
        have hlb2 := HLB2.out j
        have hlbk := HLBK.out j
        rw [HI.out.acc, Option.bind_some] at hnx
        rw [HKJ.out] at hf2 hrs hnx
        rw [HKJ.out] at hlb2 hlbk
        obtain ⟨c1, HC1⟩ := nameIt (hasK H s j)
        obtain ⟨c3, HC3⟩ := nameIt (canK H l kj)
        obtain ⟨oa, HOA⟩ := nameIt (o s j)
        obtain ⟨ob, HOB⟩ := nameIt (lsL H most o l kj)
        rw [HC1.out] at hf1 hnx
        rw [HC3.out] at hf2 hnx
        rw [HOA.out] at hts hnx hla
        rw [HOB.out] at hrs hnx hlb2 hlbk
        have HF1J := Lib.hid hf1
        have HF2J := Lib.hid hf2
        have HTSJ := Lib.hid hts
        have HRSJ := Lib.hid hrs
        have HNXJ := Lib.hid hnx
        have HLAJ := Lib.hid hla
        have HLBJ := Lib.hid hlb2
        have HLKJ := Lib.hid hlbk
        clear hf1 hf2 hts hrs hnx hla hlb2 hlbk
        have HB5 := Lib.hid HI.out.bel
        have HRW5 := Lib.hid HI.out.row
        go_upto_region 7 with fail
        go_wp2_with fail
        refine (HF1J.out w5 HB5.out).mono ?_
        rintro e w6 ⟨rfl, hb6⟩
        have HB6 := Lib.hid (HB5.out.trans (hb6.mono HB5.out.size))
        have HRW6 := Lib.hid (HRW5.out.keep hb6)
        have HS56 := Lib.hid hb6.size
        clear hb6
        cases c1 with
        | false =>
          have HI2 : Hid (LRI H most o s l k w0 (j + 1) out (.slice ao no co) w6) := ⟨by have := HNXJ.out; simpa using this, HRW6.out, HB6.out⟩
          go_wp2_with fail
          go_roundg (k + 1 - (j + 1))
          case measure => omega
          case rel => exact ⟨j + 1, out, _, by omega, by omega, rfl, by go_num, HI2⟩
        | true =>
          go_wp2_with fail
          refine (HF2J.out w6 HB6.out).mono ?_
          rintro e w7 ⟨rfl, hb7⟩
          have HB7 := Lib.hid (HB6.out.trans (hb7.mono HB6.out.size))
          have HRW7 := Lib.hid (HRW6.out.keep hb7)
          have HS67 := Lib.hid hb7.size
          clear hb7
          cases c3 with
          | false =>
            have HI2 : Hid (LRI H most o s l k w0 (j + 1) out (.slice ao no co) w7) := ⟨by have := HNXJ.out; simpa using this, HRW7.out, HB7.out⟩
            go_wp2_with fail
            go_roundg (k + 1 - (j + 1))
            case measure => omega
            case rel => exact ⟨j + 1, out, _, by omega, by omega, rfl, by go_num, HI2⟩
          | true =>
            have HNY : Hid (lsF H most o s l k (j + 1) = lsStep most out oa ob) := by show _ = _; have := HNXJ.out; simpa using this
            obtain ⟨u0, u1⟩ := HSC.out w7 HB7.out
            clear HNXJ
            go_wp2_with fail
            refine (HTSJ.out w7 HB7.out).mono ?_
            rintro e w8 ⟨aa, na, ca, rfl, hb8, hrd8⟩
            have HB8 := Lib.hid (HB7.out.trans (hb8.mono HB7.out.size))
            have HRW8 := Lib.hid (HRW7.out.keep hb8)
            have HS78 := Lib.hid hb8.size
            clear u0 u1
            cases oa with
            | none =>
              have HE := Lib.hid (HNO.out w8 (HFN.out j hjk HNY.out) HB8.out)
              clear hb8 hrd8
              go_wp2_with fail
              first | exact HE.out | (refine bodyPost_ret (results_tmp2 Try.results72 _ _ _) rfl ?_; exact HE.out)
            | some la =>
              have hra8 := hrd8 la rfl
              have hlal := HLAJ.out la rfl
              have hbba := hra8.bounds
              rw [List.length_map] at hbba
              obtain ⟨rfl, hca1, hca2⟩ := hbba
              unfold maxLen at hca2
              go_wp2_with fail
              refine (HRSJ.out w8 HB8.out).mono ?_
              rintro e w9 ⟨ab, nb, cbb, rfl, hb9, hrd9⟩
              have HB9 := Lib.hid (HB8.out.trans (hb9.mono HB8.out.size))
              have HRW9 := Lib.hid (HRW8.out.keep hb9)
              cases ob with
              | none =>
                have HE := Lib.hid (HNO.out w9 (HFN.out j hjk HNY.out) HB9.out)
                clear hb8 hrd8 hb9 hrd9 hra8
                go_wp2_with fail
                first | exact HE.out | (refine bodyPost_ret (results_tmp2 Try.results72 _ _ _) rfl ?_; exact HE.out)
              | some b =>
                have hrb9 := hrd9 b rfl
                have hlbl := HLBJ.out b rfl
                have hkbl := HLKJ.out b
                have hbbb := hrb9.bounds
                rw [rowsD_len] at hbbb
                obtain ⟨rfl, hcb1, hcb2⟩ := hbbb
                unfold maxLen at hcb2
                have HVO : Hid (∀ b', (Value.slice ao no co).ownBlock = some b' → w0.heap.size ≤ b' ∧ b' < w7.heap.size) := fun b' e => ⟨(HOWN.out b' e).1, by have h1 := (HOWN.out b' e).2; have h2 := HS56.out; have h3 := HS67.out; omega⟩
                have h78 := hb8.size
                have HRA : Hid (Rd (fun q => w0.heap.size ≤ q ∧ (Value.slice ao no co).ownBlock ≠ some q) w9 (.sl (la.map Tree.d)) [.slice aa la.length ca]) := (hra8.below hb9).mono fun q hq _ => ⟨by have h9 : w7.heap.size ≤ q := hq; have := HB7.out.size; omega, fun e => by have := (HVO.out q e).2; have h9 : w7.heap.size ≤ q := hq; omega⟩
                have HRB : Hid (Rd (fun q => w0.heap.size ≤ q ∧ (Value.slice ao no co).ownBlock ≠ some q) w9 (.sl (rowsD b)) [.slice ab b.length cbb]) := hrb9.mono fun q hq _ => ⟨by have h9 : w8.heap.size ≤ q := hq; have := HB8.out.size; omega, fun e => by have := (HVO.out q e).2; have h9 : w8.heap.size ≤ q := hq; omega⟩
                have HKBL : Hid (∀ y ∈ b, y.length ≤ 1000) := fun y hy => hkbl y rfl hy
                have HLN : Hid (∀ p, p ≤ la.length → (out ++ prodL (la.take p) b).length = no + p * b.length) := by
                  intro p hp
                  rw [List.length_append, prodL_len, List.length_take, HNO2.out, Nat.min_eq_left hp]
                have HG0 : Hid (InG 40 1 w0.heap.size w9 (.slice ao no co) (rowsD (out ++ prodL (la.take 0) b)) (.slice ao no co) w9) := by
                  rw [List.take_zero, show prodL [] b = [] from rfl, List.append_nil]; exact InG.start HRW9.out
                obtain ⟨al, HAL⟩ := nameIt la.length
                obtain ⟨bl, HBL⟩ := nameIt b.length
                rw [HAL.out] at HRA hca1 hlal
                rw [HBL.out] at HRB hcb1 hlbl
                simp only [HAL.out, HBL.out] at HLN
                rw [HAL.out, HBL.out]
                clear hra8 hrb9 hrd8 hrd9 hb8 hb9 hkbl
                go_wp2_with fail
                go_loopg [10, 18, 73] al (fun gg v10 v18 v73 wr => ∃ (p : Nat) (vq : Value), p ≤ al ∧ al - p ≤ gg ∧ vq = v10 ∧ v73 = .int .i64 (p : Int) ∧ Hid (InG 40 1 w0.heap.size w9 (.slice ao no co) (rowsD (out ++ prodL (la.take p) b)) vq wr))
                case atStart => exact ⟨0, _, by omega, by omega, rfl, rfl, HG0⟩
                case round =>
                  clear HG0
                  obtain ⟨p, vq, hp, hgp, rfl, rfl, HG⟩ := hrel
                  obtain ⟨w10, rfl⟩ : ∃ ww : World, ww = wr := ⟨_, rfl⟩
                  obtain ⟨aq, cq, hvq, hcq1, hcq2, hownq⟩ := HG.out.row.form
                  rw [rowsD_len, HLN.out p hp] at hvq hcq1
                  unfold maxLen at hcq2
                  subst hvq
                  have HB10 : Hid (Below w0.heap.size w0 w10) := HG.out.below HB9.out HB9.out.size (fun b' e => (HVO.out b' e).1)
                  obtain ⟨nq, HNQ⟩ := nameIt (no + p * bl)
                  rw [HNQ.out] at HG hcq1 hownq
                  rw [HNQ.out]
                  have hnqb : nq ≤ 2000000 := by
                    have h1 := HNQ.out
                    have h2 : p * bl ≤ 1000 * 1000 := Nat.mul_le_mul (by omega) (by omega)
                    omega
                  by_cases hpa : p < al
                  · have hpa' : (p : Int) < (al : Int) := by omega
                    have hp0 : (0 : Int) ≤ (p : Int) := by omega
                    have hpx : p < la.length := by rw [HAL.out]; exact hpa
                    have hra := HG.out.rd HRA.out
                    obtain ⟨xb0, xo, xv, rfl, -, -, x0, x1, x2, hxk⟩ := hra.kid hpx
                    obtain ⟨xa, xc, rfl, -, -⟩ := hxk.form
                    rw [List.length_map] at x2 hxk
                    have HPN := Lib.hid (prodL_take (b := b) hpx)
                    have HXK := Lib.hid hxk
                    obtain ⟨x, HXN⟩ := nameIt (la[p]'hpx)
                    rw [HXN.out] at x0 x1 x2 HXK HPN
                    obtain ⟨xr, HXR⟩ := nameIt x.rule
                    obtain ⟨xt, HXT⟩ := nameIt x.term
                    obtain ⟨xl, HXL⟩ := nameIt x.kids.length
                    rw [HXR.out] at x0
                    rw [HXT.out] at x1
                    rw [HXL.out] at x2 HXK
                    obtain ⟨w11, HW11⟩ := nameIt (w10.alloc (.cells #[.int .i64 xr, .int .i64 xt, .slice xa xl xc] 42))
                    have HB1011 : Hid (Below w10.heap.size w10 w11) := by rw [← HW11.out]; exact (Below.refl _ _).alloc (Nat.le_refl _) _
                    have X11 : Hid (w11.heap[w10.heap.size]? = some (.cells #[.int .i64 xr, .int .i64 xt, .slice xa xl xc] 42 (0, 0))) := by rw [← HW11.out]; exact bx_new _ _ _ rfl
                    have HXO : Hid (∀ b', (Value.slice aq nq cq).ownBlock = some b' → b' ≠ w10.heap.size) := fun b' e => by have := (hownq b' e).2; omega
                    obtain ⟨xb, HXB⟩ := nameIt w10.heap.size
                    rw [HXB.out] at X11 HXO
                    have HG1 : Hid (InG 40 1 w0.heap.size w9 (.slice ao no co) (rowsD ((out ++ prodL (la.take p) b) ++ (b.take 0).map (x :: ·))) (.slice aq nq cq) w11) := by
                      rw [List.take_zero, List.map_nil, List.append_nil]; exact HG.out.keep HB1011.out
                    have HXK1 := Lib.hid (HXK.out.below HB1011.out)
                    have HXW : Hid (xb < w11.heap.size) := (Array.getElem?_eq_some_iff.1 X11.out).1
                    have hblB : bl ≤ 1000 := hlbl
                    clear hra hxk hownq
                    go_upto_region 17 with fail
                    rw [HW11.out, HXB.out]
                    clear x0 x1 x2
                    go_wp2_with fail
                    go_loopg [10, 18, 79] bl (fun gg v10 v18 v79 wr => ∃ (q : Nat) (vq : Value), q ≤ bl ∧ bl - q ≤ gg ∧ vq = v10 ∧ v79 = .int .i64 (q : Int) ∧ Hid (InG 40 1 w0.heap.size w9 (.slice ao no co) (rowsD ((out ++ prodL (la.take p) b) ++ (b.take q).map (x :: ·))) vq wr) ∧ Hid (wr.heap[xb]? = some (.cells #[.int .i64 xr, .int .i64 xt, .slice xa xl xc] 42 (0, 0))) ∧ Hid (∀ b', vq.ownBlock = some b' → b' ≠ xb) ∧ Hid (Rd (fun q => w0.heap.size ≤ q ∧ vq.ownBlock ≠ some q) wr (.sl (x.kids.map Tree.d)) [.slice xa xl xc]))
                    case atStart => exact ⟨0, _, by omega, by omega, rfl, rfl, HG1, X11, HXO, HXK1.out.mono (fun q hq _ => ⟨hq.1, hq.2.2⟩)⟩
                    case round =>
                      clear HG1 X11 HXO HXK1 HXK HG
                      obtain ⟨q, vq, hq, hgq, rfl, rfl, HG, X12, HXO, HXK⟩ := hrel
                      obtain ⟨w12, rfl⟩ : ∃ ww : World, ww = wr := ⟨_, rfl⟩
                      obtain ⟨aq, cq, hvq, hcq1, hcq2, hownq⟩ := HG.out.row.form
                      have hlq : (rowsD ((out ++ prodL (la.take p) b) ++ (b.take q).map (x :: ·))).length = nq + q := by
                        rw [rowsD_len, List.length_append, HLN.out p hp, List.length_map, List.length_take, HBL.out, HNQ.out, Nat.min_eq_left hq]
                      rw [hlq] at hvq hcq1
                      have HLQ := Lib.hid hlq
                      unfold maxLen at hcq2
                      subst hvq
                      obtain ⟨mq, HMQ⟩ := nameIt (nq + q)
                      rw [HMQ.out] at HG hcq1 HXO HXK hownq HLQ
                      rw [HMQ.out]
                      have hmqb : mq ≤ 2001000 := by have h1 := HMQ.out; omega
                      have HOWNQ := Lib.hid hownq
                      clear hlq hownq
                      by_cases hqb : q < bl
                      · have hqb' : (q : Int) < (bl : Int) := by omega
                        have hq0 : (0 : Int) ≤ (q : Int) := by omega
                        have hqx : q < b.length := by rw [HBL.out]; exact hqb
                        have hrb := HG.out.rd HRB.out
                        obtain ⟨bb, off, vk, rfl, -, -, c0, hrk⟩ := Rd.row_at hrb hqx
                        obtain ⟨yk, ck2, rfl, hck1, hck2⟩ := hrk.form
                        rw [List.length_map] at c0 hrk
                        have hyl := HKBL.out b[q] (List.getElem_mem hqx)
                        have HRN := Lib.hid (rows_next (R := out ++ prodL (la.take p) b) (x := x) hqx)
                        have HYK := Lib.hid hrk
                        obtain ⟨y, HYN⟩ := nameIt (b[q]'hqx)
                        rw [HYN.out] at c0 HYK HRN hyl
                        obtain ⟨yl, HYL⟩ := nameIt y.length
                        rw [HYL.out] at c0 HYK hyl
                        obtain ⟨z0, z1, z2⟩ := bx_cells3 X12.out
                        clear hrb hrk
                        go_upto_region 20 with fail
                        have hylb : (List.map Tree.d y).length ≤ 1000 := by rw [List.length_map, HYL.out]; exact hyl
                        have HYC : Hid (∀ d ∈ List.map Tree.d y, d.cells = 3) := trees_cells y
                        obtain ⟨g1, HG1⟩ := nameIt w12.heap.size
                        have HOL : Hid ((w12.alloc (.cells #[.int .i64 xr, .int .i64 xt, .slice xa xl xc] 42)).ownsRow 0 42 3 (.slice (some ⟨w12.heap.size, 0, none⟩) 1 1) 1 [.int .i64 xr, .int .i64 xt, .slice xa xl xc]) :=
                          own_of_block (bx_new _ _ _ rfl) rfl (by simp [maxLen])
                        have HYK13 : Hid (Rd (fun k => (w0.heap.size ≤ k ∧ (Value.slice aq mq cq).ownBlock ≠ some k) ∧ (Value.slice (some ⟨w12.heap.size, 0, none⟩) 1 1).ownBlock ≠ some k) (w12.alloc (.cells #[.int .i64 xr, .int .i64 xt, .slice xa xl xc] 42)) (.sl (y.map Tree.d)) [.slice yk yl ck2]) :=
                          (HYK.out.mono fun k hk hlt => ⟨⟨hk.1, hk.2.2⟩, fun e => by simp [Value.ownBlock] at e; omega⟩).below ((Below.refl _ _).alloc (Nat.le_refl _) _)
                        have hB12 : w0.heap.size ≤ w12.heap.size := HG.out.row.le
                        rw [HG1.out] at HOL HYK13
                        go_wp2_with (at_builtin; rw [HG1.out]; refine wp_appD elTree rfl _ _ rfl HOL.out rfl HYK13.out rfl HYC.out (by omega) (by unfold maxLen; omega) (by omega) ?_)
                        intro v14 w14 L14 hL14 ho14 hg14 hat14
                        have HB14 : Hid (Below w12.heap.size w12 w14) := below_lit HG1.out.symm rfl hg14
                        have HEL : Hid (Rd (fun k => w0.heap.size ≤ k ∧ (Value.slice aq mq cq).ownBlock ≠ some k) w14 (.sl ((x :: y).map Tree.d)) [v14]) := by
                          refine rd_cons HG1.out.symm hB12 (fun b e => (HOWNQ.out b e).2) HXK.out hL14 (by rw [HXR.out, HXT.out]; exact ho14) (by simp; omega) hg14 (by simpa using hat14)
                        have HG14 := Lib.hid (HG.out.keep HB14.out)
                        obtain ⟨a14, c14, rfl, -, -⟩ := own_len ho14
                        obtain ⟨n14, HN14⟩ := nameIt (1 + y.length)
                        rw [HN14.out] at HEL
                        rw [HN14.out]
                        obtain ⟨xs15, ho15, hd15⟩ := HG14.out.row.own
                        rw [HLQ.out] at ho15
                        have HO15 := Lib.hid ho15
                        have HD15 := Lib.hid hd15
                        have hle14 := HG14.out.row.le
                        clear hL14 ho14 hg14 hat14 ho15 hd15
                        go_wp2_with (at_builtin; refine wp_app1at elRows rfl _ _ rfl HO15.out rfl rfl (by simp) rfl rfl (by omega) (by unfold maxLen; omega) (by omega) ?_)
                        intro v15 w15 ho15 hg15 hat15
                        have HG15 : Hid (InG 40 1 w0.heap.size w9 (.slice ao no co) (rowsD ((out ++ prodL (la.take p) b) ++ (b.take (q + 1)).map (x :: ·))) v15 w15) := by
                          show InG _ _ _ _ _ _ _ _
                          rw [HRN.out]
                          exact HG14.out.step HO15.out HD15.out HLQ.out.symm HEL.out (fun q' hq' _ => hq') ho15 hg15 hat15
                        have h1214 := HB14.out.size
                        have HX15 : Hid (w15.heap[xb]? = some (.cells #[.int .i64 xr, .int .i64 xt, .slice xa xl xc] 42 (0, 0))) := by
                          have h1 := bx_keep X12.out HB14.out
                          exact (hg15.block xb (Array.getElem?_eq_some_iff.1 h1).1 (fun e => HXO.out xb e.symm rfl)).trans h1
                        have HXO15 : Hid (∀ b', v15.ownBlock = some b' → b' ≠ xb) := by
                          intro b' e
                          rcases hat15 with h2 | ⟨j2, h2, hj2⟩
                          · rw [h2] at e; exact HXO.out b' e
                          · rw [h2] at e; cases e
                            have := (Array.getElem?_eq_some_iff.1 X12.out).1
                            omega
                        have HXK15 := Lib.hid (rd_past (HXK.out.below HB14.out) hg15 hat15)
                        obtain ⟨a15, c15, rfl, -, -⟩ := own_len ho15
                        clear ho15 hg15 hat15 c0 z0 z1 z2
                        go_wp2_with fail
                        go_roundg (bl - (q + 1))
                        case measure => omega
                        case rel => exact ⟨q + 1, _, by omega, by omega, rfl, by go_num, HG15, HX15, HXO15, HXK15⟩
                      · obtain rfl : q = bl := by omega
                        have htk : b.take q = b := List.take_of_length_le (by rw [HBL.out]; exact Nat.le_refl _)
                        have HG2 : Hid (InG 40 1 w0.heap.size w9 (.slice ao no co) (rowsD (out ++ prodL (la.take (p + 1)) b)) (.slice aq mq cq) w12) := by
                          have hg := HG.out
                          rw [htk, List.append_assoc, ← HPN.out] at hg
                          exact hg
                        go_wp2_with fail
                        go_roundg (al - (p + 1))
                        case measure => omega
                        case rel => exact ⟨p + 1, _, by omega, by omega, rfl, by go_num, HG2⟩
                  · obtain rfl : p = al := by omega
                    have htk : la.take p = la := List.take_of_length_le (by rw [HAL.out]; exact Nat.le_refl _)
                    have hg := HG.out
                    rw [htk] at hg
                    have HGG := Lib.hid hg
                    have hln := HLN.out p (Nat.le_refl _)
                    rw [htk, HNQ.out] at hln
                    have HLN2 := Lib.hid hln
                    have x5 := HLB.out w10 HB10.out
                    have HNZ : Hid (lsF H most o s l k (j + 1) = if most < (out ++ prodL la b).length then none else some (out ++ prodL la b)) := HNY.out
                    rw [hln] at HNZ
                    clear hg hln hownq htk HG
                    by_cases hmn : most < nq
                    · have hmn' : decide ((most : Int) < (nq : Int)) = true := by simp; omega
                      have HE := Lib.hid (HNO.out w10 (HFN.out j hjk (by have := HNZ.out; rw [if_pos hmn] at this; exact this)) HB10.out)
                      go_wp2_with fail
                      first | exact HE.out | (refine bodyPost_ret (results_tmp2 Try.results72 _ _ _) rfl ?_; exact HE.out)
                    · have hmn' : decide ((most : Int) < (nq : Int)) = false := by simp; omega
                      have HI2 : Hid (LRI H most o s l k w0 (j + 1) (out ++ prodL la b) (.slice aq nq cq) w10) :=
                        ⟨by have := HNZ.out; rw [if_neg hmn] at this; exact this, HGG.out.row, HB10.out⟩
                      go_wp2_with fail
                      go_roundg (k + 1 - (j + 1))
                      case measure => omega
                      case rel => exact ⟨j + 1, _, _, by omega, by omega, rfl, by go_num, HI2⟩
      · obtain rfl : j = k + 1 := by omega
        have HE := Lib.hid (HYES.out out _ w5 HI.out)
        have hjk' : ¬ (((k + 1 : Nat) : Int)) ≤ (k : Int) := by omega
        have hjk2 : ¬ ((k : Int) + 1) ≤ (k : Int) := by omega
        go_wp2_with fail
        first | exact HE.out | (refine bodyPost_ret (results_tmp2 Try.results72 _ _ _) rfl ?_; exact HE.out)
end Cs
end Go.Proofs.Ytbnpemgmdnghgaa
