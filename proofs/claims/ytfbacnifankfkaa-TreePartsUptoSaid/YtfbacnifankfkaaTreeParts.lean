/- The walk of the law TreeParts. -/
import Derived.Test.YtfbacnifankfkaaTwo
import Derived.Test.YtfbacnifankfkaaSame
import Derived.Test.YtfbacnifankfkaaYield
namespace Go.Proofs.Ytfbacnifankfkaa
open Go.RowKit
namespace TreeParts

/-- the cells of five boxes, behind whatever makes new memory alone -/
theorem cells15 {W w' : World} (hb : Below W.heap.size W w') {b1 b2 b3 b4 b5 : Nat} {T : TypeId} {a0 a1 a2 c0 c1 c2 d0 d1 d2 e0 e1 e2 f0 f1 f2 : Value} (h1 : W.heap[b1]? = some (.cells #[a0, a1, a2] T (0, 0))) (h2 : W.heap[b2]? = some (.cells #[c0, c1, c2] T (0, 0))) (h3 : W.heap[b3]? = some (.cells #[d0, d1, d2] T (0, 0))) (h4 : W.heap[b4]? = some (.cells #[e0, e1, e2] T (0, 0))) (h5 : W.heap[b5]? = some (.cells #[f0, f1, f2] T (0, 0))) :
    w'.cell? ⟨b1, 0, none⟩ = some a0 ∧ w'.cell? ⟨b1, 0 + 1, none⟩ = some a1 ∧ w'.cell? ⟨b1, 0 + 2, none⟩ = some a2 ∧ w'.cell? ⟨b2, 0, none⟩ = some c0 ∧ w'.cell? ⟨b2, 0 + 1, none⟩ = some c1 ∧ w'.cell? ⟨b2, 0 + 2, none⟩ = some c2 ∧ w'.cell? ⟨b3, 0, none⟩ = some d0 ∧ w'.cell? ⟨b3, 0 + 1, none⟩ = some d1 ∧ w'.cell? ⟨b3, 0 + 2, none⟩ = some d2 ∧ w'.cell? ⟨b4, 0, none⟩ = some e0 ∧ w'.cell? ⟨b4, 0 + 1, none⟩ = some e1 ∧ w'.cell? ⟨b4, 0 + 2, none⟩ = some e2 ∧ w'.cell? ⟨b5, 0, none⟩ = some f0 ∧ w'.cell? ⟨b5, 0 + 1, none⟩ = some f1 ∧ w'.cell? ⟨b5, 0 + 2, none⟩ = some f2 := by
  obtain ⟨x1, x2, x3⟩ := bx_cells3 (bx_keep h1 hb)
  obtain ⟨x4, x5, x6⟩ := bx_cells3 (bx_keep h2 hb)
  obtain ⟨x7, x8, x9⟩ := bx_cells3 (bx_keep h3 hb)
  obtain ⟨y1, y2, y3⟩ := bx_cells3 (bx_keep h4 hb)
  obtain ⟨y4, y5, y6⟩ := bx_cells3 (bx_keep h5 hb)
  exact ⟨x1, x2, x3, x4, x5, x6, x7, x8, x9, y1, y2, y3, y4, y5, y6⟩

/-- the state before the comparisons -/
structure Mid (t s : Tree) (p : List Int) (bt : Option Tree) (vt vs va vb vx : Value) (b3 b5 b7 b9 b11 : Nat) (W : World) : Prop where
  x3 : W.heap[b3]? = some (.cells #[.int .i64 t.rule, .int .i64 t.term, vt] 59 (0, 0))
  x5 : W.heap[b5]? = some (.cells #[.int .i64 s.rule, .int .i64 s.term, vs] 59 (0, 0))
  x7 : W.heap[b7]? = some (.cells #[.int .i64 (bt.getD noTree).rule, .int .i64 (bt.getD noTree).term, va] 59 (0, 0))
  x9 : W.heap[b9]? = some (.cells #[.int .i64 ((bt.map fun _ => putT t p s).getD noTree).rule, .int .i64 ((bt.map fun _ => putT t p s).getD noTree).term, vb] 59 (0, 0))
  x11 : W.heap[b11]? = some (.cells #[.int .i64 (bt.getD noTree).rule, .int .i64 (bt.getD noTree).term, vx] 59 (0, 0))
  rt : Rd AnyB W (.sl (t.kids.map Tree.d)) [vt]
  rs : Rd AnyB W (.sl (s.kids.map Tree.d)) [vs]
  ra : Rd AnyB W (.sl ((bt.getD noTree).kids.map Tree.d)) [va]
  rb : Rd AnyB W (.sl (((bt.map fun _ => putT t p s).getD noTree).kids.map Tree.d)) [vb]
  rx : Rd AnyB W (.sl ((bt.getD noTree).kids.map Tree.d)) [vx]

theorem two_nodes : (nodes twoT).length = 4 := by decide
theorem two_word : leavesOf (nodes twoT) = [0, 0] := by decide

set_option maxHeartbeats 4000000 in
set_option maxRecDepth 100000 in
theorem main (t : Tree) (at' : Option Addr) (nt ct : Nat) (ap : Option Addr) (cp : Nat) (p : List Int) (s : Tree) (ax : Option Addr) (nx cx : Nat) (w : World) (hv : Rd AnyB w (.sl (t.kids.map Tree.d)) [.slice at' nt ct]) (hs : Rd AnyB w (.sl (s.kids.map Tree.d)) [.slice ax nx cx]) (hp : Sl w (.slice ap p.length cp) (ints p))
    (hsz : t.size ≤ 549755813888) (hss : s.size ≤ 549755813888) :
    Calls Try.prog 8 #[.agg #[.int .i64 t.rule, .int .i64 t.term, .slice at' nt ct], .slice ap p.length cp, .agg #[.int .i64 s.rule, .int .i64 s.term, .slice ax nx cx]] w fun e w' => e = .returned (.bool true) ∧ Below w.heap.size w w' := by
  obtain ⟨w0, HW0⟩ := nameIt ((w.alloc (.cells #[.int .i64 t.rule, .int .i64 t.term, .slice at' nt ct] 59)).alloc (.cells #[.int .i64 s.rule, .int .i64 s.term, .slice ax nx cx] 59))
  have hb : Below w.heap.size w w0 := by rw [← HW0.out]; exact ((Below.refl _ _).alloc (Nat.le_refl _) _).alloc (by simp) _
  have X3 : Hid (w0.heap[w.heap.size]? = some (.cells #[.int .i64 t.rule, .int .i64 t.term, .slice at' nt ct] 59 (0, 0))) := by
    rw [← HW0.out]; exact bx_keep (bx_new _ _ _ rfl) ((Below.refl _ _).alloc (Nat.le_refl _) _)
  have X5 : Hid (w0.heap[w.heap.size + 1]? = some (.cells #[.int .i64 s.rule, .int .i64 s.term, .slice ax nx cx] 59 (0, 0))) := by
    rw [← HW0.out]; exact bx_new _ _ _ (by simp)
  have HV := Lib.hid (hv.below hb)
  have HS := Lib.hid (hs.below hb)
  have HP := Lib.hid (hp.keep hb)
  have HB := Lib.hid hb
  have hpl := hp.len
  unfold maxLen at hpl
  obtain ⟨-, hp1, hp2⟩ := hpl
  clear hv hs hp hb
  go_enter Try.func8, Try.ntmps8
  go_wp2_with fail
  rw [HW0.out]
  refine (twoE w0).mono ?_
  rintro e w1 ⟨v1, rfl, hr1, hb1⟩
  obtain ⟨a1, c1, rfl, -, -⟩ := hr1.form
  have HC1 := Lib.hid (sizeE twoT _ w1 hr1 (by rw [two_nodes]; omega))
  have HB1 := Lib.hid hb1
  clear hr1 hb1
  go_wp2_with fail
  refine HC1.out.mono ?_
  rintro e w2 ⟨rfl, hb2⟩
  rw [two_nodes]
  have HB2 := Lib.hid (HB1.out.trans (hb2.mono HB1.out.size))
  clear hb2 HC1 HB1
  go_wp2_with fail
  refine (twoE w2).mono ?_
  rintro e w3 ⟨v3, rfl, hr3, hb3⟩
  obtain ⟨a3, c3, rfl, -, -⟩ := hr3.form
  have HC3 := Lib.hid (wordT twoT _ w3 hr3 (by rw [two_nodes]; omega))
  have HB3 := Lib.hid (HB2.out.trans (hb3.mono HB2.out.size))
  clear hr3 hb3 HB2
  go_wp2_with fail
  refine HC3.out.mono ?_
  rintro e w4 ⟨v4, rfl, hs4, hb4⟩
  rw [two_word] at hs4
  obtain ⟨a4, c4, rfl⟩ := hs4.form
  rw [ints_len]
  rw [ints_len] at hs4
  have hbl := (Below.refl w4.heap.size w4).alloc (Nat.le_refl _) (.cells #[.int .i64 0, .int .i64 0] 3)
  have HC4 := Lib.hid (equal _ _ [0, 0] [0, 0] _ (hs4.keep hbl) (sl_lit (v := #[.int .i64 0, .int .i64 0]) (e := 3) rfl (by simp [maxLen])))
  have HB4 := Lib.hid (HB3.out.trans (hb4.mono HB3.out.size))
  have HB4' := Lib.hid (HB4.out.trans (hbl.mono HB4.out.size))
  clear hs4 hb4 hbl HC3 HB3
  go_wp2_with fail
  refine HC4.out.mono ?_
  rintro e w5 ⟨rfl, hb5⟩
  rw [show (([0, 0] : List Int) == [0, 0]) = true by decide]
  have HB5 := Lib.hid (HB4'.out.trans (hb5.mono HB4'.out.size))
  clear hb5 HC4 HB4 HB4'
  obtain ⟨x0, x1, x2⟩ := bx_cells3 (bx_keep X3.out HB5.out)
  have HC5 := Lib.hid (atE t _ ap cp p w5 (HV.out.below HB5.out) (HP.out.keep HB5.out) (by omega))
  go_wp2_with fail
  refine HC5.out.mono ?_
  obtain ⟨bt, HBT⟩ := nameIt (belowT t p)
  rw [HBT.out]
  rintro e w6 ⟨v6, rfl, hr6, hb6⟩
  obtain ⟨a6, c6, rfl, -, -⟩ := hr6.form
  obtain ⟨u6, HU6⟩ := nameIt ((bt.getD noTree).kids.map Tree.d).length
  rw [HU6.out] at hr6
  rw [HU6.out]
  obtain ⟨E, HE⟩ := nameIt (foundE bt)
  rw [HE.out]
  obtain ⟨r6, HR6⟩ := nameIt (bt.getD noTree).rule
  obtain ⟨t6, HT6⟩ := nameIt (bt.getD noTree).term
  rw [HR6.out, HT6.out]
  obtain ⟨b7, HB7n⟩ := nameIt w6.heap.size
  obtain ⟨W7, HW7⟩ := nameIt (w6.alloc (.cells #[.int .i64 r6, .int .i64 t6, .slice a6 u6 c6] 59))
  have hb67 : Below w6.heap.size w6 W7 := by rw [← HW7.out]; exact (Below.refl _ _).alloc (Nat.le_refl _) _
  have X7 : Hid (W7.heap[b7]? = some (.cells #[.int .i64 r6, .int .i64 t6, .slice a6 u6 c6] 59 (0, 0))) := by rw [← HW7.out]; exact bx_new _ _ _ HB7n.out.symm
  have HRA := Lib.hid (hr6.below hb67)
  have HB7 := Lib.hid ((HB5.out.trans (hb6.mono HB5.out.size)).trans (hb67.mono (HB5.out.trans (hb6.mono HB5.out.size)).size))
  clear hr6 hb6 hb67 x0 x1 x2 HC5 HB5
  go_upto_region 4 with fail
  rw [HW7.out, HB7n.out]
  obtain ⟨x0, x1, x2⟩ := bx_cells3 (bx_keep X3.out HB7.out)
  obtain ⟨y0, y1, y2⟩ := bx_cells3 (bx_keep X5.out HB7.out)
  have HC7 := Lib.hid (putTE t _ ap cp p s _ W7 (HV.out.below HB7.out) (HS.out.below HB7.out) (HP.out.keep HB7.out) (by omega) (by omega))
  rw [HBT.out] at HC7
  go_wp2_with fail
  refine HC7.out.mono ?_
  obtain ⟨bp, HBP⟩ := nameIt (bt.map fun _ => putT t p s)
  rw [HBP.out]
  rintro e w8 ⟨v8, rfl, hr8, hb8⟩
  obtain ⟨a8, c8, rfl, -, -⟩ := hr8.form
  obtain ⟨u8, HU8⟩ := nameIt ((bp.getD noTree).kids.map Tree.d).length
  rw [HU8.out] at hr8
  rw [HU8.out]
  obtain ⟨F, HF⟩ := nameIt (foundE bp)
  rw [HF.out]
  obtain ⟨r8, HR8⟩ := nameIt (bp.getD noTree).rule
  obtain ⟨t8, HT8⟩ := nameIt (bp.getD noTree).term
  rw [HR8.out, HT8.out]
  obtain ⟨b9, HB9n⟩ := nameIt w8.heap.size
  obtain ⟨W9, HW9⟩ := nameIt (w8.alloc (.cells #[.int .i64 r8, .int .i64 t8, .slice a8 u8 c8] 59))
  have hb89 : Below w8.heap.size w8 W9 := by rw [← HW9.out]; exact (Below.refl _ _).alloc (Nat.le_refl _) _
  have X9 : Hid (W9.heap[b9]? = some (.cells #[.int .i64 r8, .int .i64 t8, .slice a8 u8 c8] 59 (0, 0))) := by rw [← HW9.out]; exact bx_new _ _ _ HB9n.out.symm
  have hb79 : Below W7.heap.size W7 W9 := hb8.trans (hb89.mono hb8.size)
  have X7' := Lib.hid (bx_keep X7.out hb79)
  have HRA' := Lib.hid (HRA.out.below hb79)
  have HRB := Lib.hid (hr8.below hb89)
  have HB9 := Lib.hid (HB7.out.trans (hb79.mono HB7.out.size))
  clear hr8 hb8 hb89 hb79 x0 x1 x2 y0 y1 y2 HC7 HB7 X7 HRA
  go_upto_region 5 with fail
  rw [HW9.out, HB9n.out]
  obtain ⟨x0, x1, x2⟩ := bx_cells3 (bx_keep X3.out HB9.out)
  have HC9 := Lib.hid (belowE t _ ap cp p W9 (HV.out.below HB9.out) (HP.out.keep HB9.out))
  rw [HBT.out] at HC9
  go_wp2_with fail
  refine HC9.out.mono ?_
  rintro e w10 ⟨v10, rfl, hr10, hb10⟩
  obtain ⟨a10, c10, rfl, -, -⟩ := hr10.form
  rw [HU6.out] at hr10
  rw [HU6.out, HR6.out, HT6.out]
  obtain ⟨b11, HB11n⟩ := nameIt w10.heap.size
  obtain ⟨W, HW⟩ := nameIt (w10.alloc (.cells #[.int .i64 r6, .int .i64 t6, .slice a10 u6 c10] 59))
  have hb11 : Below w10.heap.size w10 W := by rw [← HW.out]; exact (Below.refl _ _).alloc (Nat.le_refl _) _
  have X11 : Hid (W.heap[b11]? = some (.cells #[.int .i64 r6, .int .i64 t6, .slice a10 u6 c10] 59 (0, 0))) := by rw [← HW.out]; exact bx_new _ _ _ HB11n.out.symm
  have hb9W : Below W9.heap.size W9 W := hb10.trans (hb11.mono hb10.size)
  have HBW := Lib.hid (HB9.out.trans (hb9W.mono HB9.out.size))
  have HM : Hid (Mid t s p bt (.slice at' nt ct) (.slice ax nx cx) (.slice a6 u6 c6) (.slice a8 u8 c8) (.slice a10 u6 c10) w.heap.size (w.heap.size + 1) b7 b9 b11 W) := by
    refine ⟨bx_keep X3.out HBW.out, bx_keep X5.out HBW.out, ?_, ?_, ?_, HV.out.below HBW.out, HS.out.below HBW.out, HRA'.out.below hb9W, ?_, hr10.below hb11⟩
    · rw [HR6.out, HT6.out]; exact bx_keep X7'.out hb9W
    · rw [HBP.out, HR8.out, HT8.out]; exact bx_keep X9.out hb9W
    · rw [HR6.out, HT6.out]; exact X11.out
    · rw [HBP.out]; exact HRB.out.below hb9W
  have HBB := Lib.hid (HB.out.trans (HBW.out.mono HB.out.size))
  clear hr10 hb10 hb11 hb9W x0 x1 x2 HC9 X3 X5 X7' X9 X11 HB9 HRA' HRB HV HS HW0 HB
  go_upto_region 6 with fail
  rw [HW.out, HB11n.out]
  clear HW HW7 HW9 HB7n HB9n HB11n HU6 HU8
  have HNT : Hid ((nodes t).length ≤ 1099511627776) := Nat.le_trans (nodes_size t) (by omega)
  have HNP : Hid ((nodes (putT t p s)).length ≤ 1099511627776) := Nat.le_trans (nodes_size _) (Nat.le_trans (putT_size p t s) (by omega))
  cases bt with
  | none =>
    obtain rfl : E = .int .i64 5 := by rw [← HE.out]; rfl
    obtain rfl : bp = none := by rw [← HBP.out]; rfl
    obtain rfl : F = .int .i64 5 := by rw [← HF.out]; rfl
    obtain rfl : r6 = 0 := by rw [← HR6.out]; rfl
    obtain rfl : t6 = 0 := by rw [← HT6.out]; rfl
    obtain rfl : r8 = 0 := by rw [← HR8.out]; rfl
    obtain rfl : t8 = 0 := by rw [← HT8.out]; rfl
    simp only [foundB, Option.isSome_none]
    have HS1 := Lib.hid (sameE noTree _ (.slice none 0 0) W HM.out.ra (rd_nil _ _) (by decide))
    have HS2 := Lib.hid (fun W' (hb : Below W.heap.size W W') => sameE noTree _ (.slice none 0 0) W' (HM.out.rb.below hb) (rd_nil _ _) (by decide))
    obtain ⟨x0, x1, x2⟩ := bx_cells3 HM.out.x7
    obtain ⟨y0, y1, y2⟩ := bx_cells3 HM.out.x9
    simp only [Option.getD_none, noTree, Tree.rule, Tree.term, Option.map_none] at x0 x1 y0 y1
    go_wp2_with fail
    refine HS1.out.mono ?_
    rintro e w11 ⟨rfl, hb11⟩
    obtain ⟨y0, y1, y2⟩ := bx_cells3 (bx_keep HM.out.x9 hb11)
    simp only [Option.getD_none, noTree, Tree.rule, Tree.term, Option.map_none] at y0 y1
    have HB11 := Lib.hid hb11
    clear hb11 x0 x1 x2
    go_wp2_with fail
    refine (HS2.out _ HB11.out).mono ?_
    rintro e w12 ⟨rfl, hb12⟩
    have HB12 := Lib.hid (HB11.out.trans (hb12.mono HB11.out.size))
    clear hb12 y0 y1 y2
    go_wp2_with fail
    go_ret
    exact ⟨rfl, HBB.out.trans (HB12.out.mono HBB.out.size)⟩
  | some x =>
    obtain rfl : E = .int .i64 0 := by rw [← HE.out]; rfl
    obtain rfl : bp = some (putT t p s) := by rw [← HBP.out]; rfl
    obtain rfl : F = .int .i64 0 := by rw [← HF.out]; rfl
    simp only [foundB, Option.isSome_some]
    have HNX : Hid ((nodes x).length ≤ 1099511627776) := Nat.le_trans (nodes_size x) (Nat.le_trans (belowT_size p t x HBT.out) (by omega))
    obtain ⟨pt, HPT⟩ := nameIt (putT t p s)
    have hm := HM.out
    obtain ⟨x3, x5, x7, x9, x11, rt, rs, ra, rb, rx⟩ := hm
    simp only [Option.getD_some, Option.map_some] at x7 x9 x11 ra rb rx
    simp only [Option.getD_some] at HR6 HT6 HR8 HT8
    rw [HPT.out] at x9 rb HR8 HT8 HNP
    have hs1 := fun W' (hb : Below W.heap.size W W') => sameE x _ _ W' (ra.below hb) (rx.below hb) HNX.out
    have hw := fun W' (hb : Below W.heap.size W W') => withE (fun k => k < W'.heap.size) p t _ ap cp s _ W' (fun k h => h) ((rt.below hb).mono fun k _ h => h) ((rs.below hb).mono fun k _ h => h) ((HP.out.keep HBW.out).keep hb) (by omega)
    have hs2 := fun W' (hb : Below W.heap.size W W') u (hu : Rd AnyB W' (.sl (pt.kids.map Tree.d)) [u]) => sameE pt _ u W' (rb.below hb) hu HNP.out
    have hcl := fun W' (hb : Below W.heap.size W W') => cloneT t _ W' (by omega) (rt.below hb)
    have hs3 := fun W' (hb : Below W.heap.size W W') u (hu : Rd AnyB W' (.sl (t.kids.map Tree.d)) [u]) => sameE t u _ W' hu (rt.below hb) HNT.out
    have hsi := fun W' (hb : Below W.heap.size W W') => sizeE t _ W' (rt.below hb) (by have := HNT.out; omega)
    have hno := fun W' (hb : Below W.heap.size W W') => nodesE t _ W' (rt.below hb) HNT.out
    have hwo := fun W' (hb : Below W.heap.size W W') => wordT t _ W' (rt.below hb) (by have := HNT.out; omega)
    have hyi := fun W' (hb : Below W.heap.size W W') => yieldE t _ W' (rt.below hb) HNT.out
    rw [HPT.out] at hw
    rw [HR6.out, HT6.out] at x7 x11 hs1
    rw [HR8.out, HT8.out] at x9 hs2
    have S1 := Lib.hid hs1
    have S2 := Lib.hid hs2
    have S3 := Lib.hid hs3
    have HWI := Lib.hid hw
    have HCL := Lib.hid hcl
    have HSI := Lib.hid hsi
    have HNO := Lib.hid hno
    have HWO := Lib.hid hwo
    have HYI := Lib.hid hyi
    have X3 := Lib.hid x3
    have X5 := Lib.hid x5
    have X7 := Lib.hid x7
    have X9 := Lib.hid x9
    have X11 := Lib.hid x11
    have hk0 := cells15 (Below.refl W.heap.size W) x3 x5 x7 x9 x11
    obtain ⟨q1, q2, q3, q4, q5, q6, q7, q8, q9, q10, q11, q12, q13, q14, q15⟩ := hk0
    clear hs1 hs2 hs3 hw hcl hsi hno hwo hyi x3 x5 x7 x9 x11 rt rs ra rb rx HM
    go_upto_region 8 with fail
    go_cut [13] (fun t13 wx => t13 = .bool true ∧ Hid (Below W.heap.size W wx))
    case first =>
      go_region_held3 (fun w' => w'.cell? ⟨w.heap.size, 0, none⟩ = some (.int .i64 t.rule) ∧ w'.cell? ⟨w.heap.size, 0 + 1, none⟩ = some (.int .i64 t.term) ∧ w'.cell? ⟨w.heap.size, 0 + 2, none⟩ = some (.slice at' nt ct) ∧ w'.cell? ⟨w.heap.size + 1, 0, none⟩ = some (.int .i64 s.rule) ∧ w'.cell? ⟨w.heap.size + 1, 0 + 1, none⟩ = some (.int .i64 s.term) ∧ w'.cell? ⟨w.heap.size + 1, 0 + 2, none⟩ = some (.slice ax nx cx) ∧ w'.cell? ⟨b7, 0, none⟩ = some (.int .i64 r6) ∧ w'.cell? ⟨b7, 0 + 1, none⟩ = some (.int .i64 t6) ∧ w'.cell? ⟨b7, 0 + 2, none⟩ = some (.slice a6 u6 c6) ∧ w'.cell? ⟨b9, 0, none⟩ = some (.int .i64 r8) ∧ w'.cell? ⟨b9, 0 + 1, none⟩ = some (.int .i64 t8) ∧ w'.cell? ⟨b9, 0 + 2, none⟩ = some (.slice a8 u8 c8) ∧ w'.cell? ⟨b11, 0, none⟩ = some (.int .i64 r6) ∧ w'.cell? ⟨b11, 0 + 1, none⟩ = some (.int .i64 t6) ∧ w'.cell? ⟨b11, 0 + 2, none⟩ = some (.slice a10 u6 c10))
        (first | exact cells15 (Below.refl _ _).drew X3.out X5.out X7.out X9.out X11.out | exact cells15 HB5.out X3.out X5.out X7.out X9.out X11.out | exact cells15 HB4.out X3.out X5.out X7.out X9.out X11.out | exact cells15 HB3.out X3.out X5.out X7.out X9.out X11.out | exact cells15 HB2.out X3.out X5.out X7.out X9.out X11.out | exact cells15 HB1.out X3.out X5.out X7.out X9.out X11.out | fail)
        (first
          | (go_at_call 36; (with_reducible refine (S1.out _ (Below.refl _ _).drew).mono ?_); rintro e w1 ⟨rfl, hb1⟩; have HB1 : Hid (Below W.heap.size W w1) := (Below.refl _ _).drew.trans hb1; clear hb1)
          | (go_at_call 37; (with_reducible refine (HWI.out _ HB1.out).mono ?_); rintro e w2 ⟨v2, rfl, hr2, hb2⟩; obtain ⟨a2, c2, rfl, -, -⟩ := hr2.form; rw [HR8.out, HT8.out, List.length_map]; rw [List.length_map] at hr2; have HB2 : Hid (Below W.heap.size W w2) := HB1.out.trans (hb2.mono HB1.out.size); have HR2 := Lib.hid (hr2.any); clear hb2 hr2)
          | (go_at_call 36; (with_reducible refine (S2.out _ HB2.out _ HR2.out).mono ?_); rintro e w3 ⟨rfl, hb3⟩; have HB3 : Hid (Below W.heap.size W w3) := HB2.out.trans (hb3.mono HB2.out.size); clear hb3)
          | (go_at_call 38; (with_reducible refine (HCL.out _ HB3.out).mono ?_); rintro e w4 ⟨v4, rfl, hr4, hb4⟩; obtain ⟨a4, c4, rfl, -, -⟩ := hr4.form; rw [List.length_map]; rw [List.length_map] at hr4; have HB4 : Hid (Below W.heap.size W w4) := HB3.out.trans (hb4.mono HB3.out.size); have HR4 := Lib.hid (hr4.any); clear hb4 hr4)
          | (go_at_call 36; (with_reducible refine (S3.out _ HB4.out _ HR4.out).mono ?_); rintro e w5 ⟨rfl, hb5⟩; have HB5 : Hid (Below W.heap.size W w5) := HB4.out.trans (hb5.mono HB4.out.size); clear hb5)
          | fail)
      go_wp2_with fail
      go_meet
      exact ⟨rfl, HB5.out⟩
    case rest =>
      obtain ⟨rfl, HBc⟩ := hcut
      obtain ⟨N, HNn⟩ := nameIt (nodes t).length
      obtain ⟨L, HLn⟩ := nameIt (leavesOf (nodes t))
      rw [HNn.out] at HSI
      have HNO' : Hid (∀ W', Below W.heap.size W W' → Calls Try.prog 39 #[.agg #[.int .i64 t.rule, .int .i64 t.term, .slice at' nt ct]] W' fun e w' => ∃ a c, e = .returned (.slice a N c) ∧ Below W'.heap.size W' w') := by
        intro W' hb
        refine (HNO.out W' hb).mono ?_
        rintro e w' ⟨v, rfl, hr, hb'⟩
        obtain ⟨a, c, rfl, -, -⟩ := hr.form
        rw [List.length_map, HNn.out]
        exact ⟨a, c, rfl, hb'⟩
      rw [HLn.out] at HWO HYI
      have hnn : ((N : Int) == (N : Int)) = true := by simp
      have hLL : Hid ((L == L) = true) := by show _ = _; simp
      clear S1 S2 S3 HWI HCL HNO q4 q5 q6 q7 q8 q9 q10 q11 q12 q13 q14 q15 q1 q2 q3 X5 X7 X9 X11
      obtain ⟨q1, q2, q3⟩ := bx_cells3 (bx_keep X3.out HBc.out)
      go_upto_region 9 with fail
      go_region_held3 (fun w' => w'.cell? ⟨w.heap.size, 0, none⟩ = some (.int .i64 t.rule) ∧ w'.cell? ⟨w.heap.size, 0 + 1, none⟩ = some (.int .i64 t.term) ∧ w'.cell? ⟨w.heap.size, 0 + 2, none⟩ = some (.slice at' nt ct))
        (first | exact bx_cells3 (bx_keep X3.out HBc.out.drew) | exact bx_cells3 (bx_keep X3.out HB5.out) | exact bx_cells3 (bx_keep X3.out HB4.out) | exact bx_cells3 (bx_keep X3.out HB3.out) | exact bx_cells3 (bx_keep X3.out HB2.out) | exact bx_cells3 (bx_keep X3.out HB1.out))
        (first
          | (go_at_call 30; (with_reducible refine (HSI.out _ HBc.out.drew).mono ?_); rintro e w1 ⟨rfl, hb1⟩; have HB1 : Hid (Below W.heap.size W w1) := HBc.out.drew.trans (hb1.mono HBc.out.size); clear hb1)
          | (go_at_call 39; (with_reducible refine (HNO'.out _ HB1.out).mono ?_); rintro e w2 ⟨a2, c2, rfl, hb2⟩; have HB2 : Hid (Below W.heap.size W w2) := HB1.out.trans (hb2.mono HB1.out.size); clear hb2)
          | (go_at_call 32; (with_reducible refine (HWO.out _ HB2.out).mono ?_); rintro e w3 ⟨v3, rfl, hs3, hb3⟩; have HB3 : Hid (Below W.heap.size W w3) := HB2.out.trans (hb3.mono HB2.out.size); have HS3 := Lib.hid hs3; clear hb3 hs3)
          | (go_at_call 40; (with_reducible refine (HYI.out _ HB3.out).mono ?_); rintro e w4 ⟨v4, rfl, hs4, hb4⟩; have HB4 : Hid (Below W.heap.size W w4) := HB3.out.trans (hb4.mono HB3.out.size); have HS4 := Lib.hid hs4; have HS3' := Lib.hid (HS3.out.keep hb4); clear hb4 hs4)
          | (go_at_call 19; (with_reducible refine (equal _ _ L L _ HS3'.out HS4.out).mono ?_); rintro e w5 ⟨rfl, hb5⟩; rw [hLL.out]; have HB5 : Hid (Below W.heap.size W w5) := HB4.out.trans (hb5.mono HB4.out.size); clear hb5)
          | fail)
      go_wp2_with fail
      go_ret
      exact ⟨rfl, HBB.out.trans (HB5.out.mono HBB.out.size)⟩

theorem walk (t : Tree) (vt : Value) (vp : Value) (p : List Int) (s : Tree) (vs : Value) (w : World) (hv : Rd AnyB w (.sl (t.kids.map Tree.d)) [vt]) (hs : Rd AnyB w (.sl (s.kids.map Tree.d)) [vs]) (hp : Sl w vp (ints p)) (hsz : t.size ≤ 549755813888) (hss : s.size ≤ 549755813888) :
    Calls Try.prog 8 #[.agg #[.int .i64 t.rule, .int .i64 t.term, vt], vp, .agg #[.int .i64 s.rule, .int .i64 s.term, vs]] w fun e w' => e = .returned (.bool true) ∧ Below w.heap.size w w' := by
  obtain ⟨a, n, c, rfl⟩ := treeBox hv
  obtain ⟨a', n', c', rfl⟩ := treeBox hs
  obtain ⟨ap, cp, rfl⟩ := hp.form
  rw [ints_len] at hp ⊢
  exact main t a n c ap cp p s a' n' c' w hv hs hp hsz hss
end TreeParts
end Go.Proofs.Ytfbacnifankfkaa
