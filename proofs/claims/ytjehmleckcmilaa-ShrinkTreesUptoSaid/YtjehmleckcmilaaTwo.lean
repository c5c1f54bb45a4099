/- The contracts of tree.Put; sizes of trees. -/
import Derived.Test.YtjehmleckcmilaaPut
import Derived.Test.YtjehmleckcmilaaTwoT
namespace Go.Proofs.Ytjehmleckcmilaa
open Go.RowKit

theorem sizeL_put : ∀ (ks : List Tree) (j : Nat) (i : Int) (f : Tree → Tree) (c : Nat), (∀ k ∈ ks, (f k).size ≤ k.size + c) → sizeL (ks.mapIdx fun m k => if ((m + j : Nat) : Int) = i then f k else k) ≤ sizeL ks + (if (j : Int) ≤ i then c else 0)
  | [], j, i, f, c, h => by simp [sizeL]
  | k :: ks, j, i, f, c, h => by
    have h1 := sizeL_put ks (j + 1) i f c (fun x hx => h x (List.mem_cons_of_mem _ hx))
    have h2 := h k List.mem_cons_self
    have e : (k :: ks).mapIdx (fun m k => if ((m + j : Nat) : Int) = i then f k else k) = (if (j : Int) = i then f k else k) :: ks.mapIdx (fun m k => if ((m + (j + 1) : Nat) : Int) = i then f k else k) := by
      rw [List.mapIdx_cons]
      congr 1
      · simp
      · congr 1; funext m k; rw [show m + 1 + j = m + (j + 1) by omega]
    rw [e, sizeL, sizeL]
    by_cases hj : (j : Int) = i
    · rw [if_pos hj, if_pos (by omega)]
      rw [if_neg (by omega)] at h1
      omega
    · rw [if_neg hj]
      by_cases hlt : (j : Int) ≤ i
      · rw [if_pos hlt]
        rw [if_pos (by omega)] at h1
        omega
      · rw [if_neg hlt]
        rw [if_neg (by omega)] at h1
        omega
theorem putT_size : ∀ (p : List Int) (t s : Tree), (putT t p s).size ≤ t.size + s.size
  | [], t, s => by rw [putT]; omega
  | i :: p, t, s => by
    have h := sizeL_put t.kids 0 i (fun k => putT k p s) s.size (fun k _ => putT_size p k s)
    rw [putT, Tree.size, Tree.size_eq]
    simp only [Nat.add_zero] at h
    split at h <;> omega

def PutPost (x : Option Tree) (w : World) (e : Ending) (w' : World) : Prop := DescPost x foundE w e w'

set_option maxHeartbeats 1000000 in
theorem putTF (t : Tree) (v : Value) (ap : Option Addr) (cp : Nat) (p : List Int) (s : Tree) (vs : Value) (w : World) (hv : Rd AnyB w (.sl (t.kids.map Tree.d)) [v]) (hs : Rd AnyB w (.sl (s.kids.map Tree.d)) [vs]) (hp : Sl w (.slice ap p.length cp) (ints p)) (hsz : t.size ≤ 1099511627776) (hss : s.size ≤ 1099511627776) :
    Calls Try.prog 211 #[.agg #[.int .i64 t.rule, .int .i64 t.term, v], .slice ap p.length cp, .agg #[.int .i64 s.rule, .int .i64 s.term, vs]] w (FndPost ((belowT t p).map fun _ => putT t p s) w) := by
  obtain ⟨a, cap, rfl, -, -⟩ := hv.form
  obtain ⟨ax, cx, rfl, -, -⟩ := hs.form
  obtain ⟨n, HN⟩ := nameIt (t.kids.map Tree.d).length
  obtain ⟨m, HM⟩ := nameIt (s.kids.map Tree.d).length
  rw [HN.out] at hv
  rw [HM.out] at hs
  rw [HN.out, HM.out]
  obtain ⟨w0, HW0⟩ := nameIt (((w.alloc (.cells #[.int .i64 t.rule, .int .i64 t.term, .slice a n cap] 43)).alloc (.cells #[.int .i64 s.rule, .int .i64 s.term, .slice ax m cx] 43)).alloc (.cells #[.int .i64 0, .int .i64 0, .slice none 0 0] 43))
  have hb : Below w.heap.size w w0 := by rw [← HW0.out]; exact (((Below.refl _ _).alloc (Nat.le_refl _) _).alloc (by simp) _).alloc (by simp; omega) _
  have X3 : Hid (w0.heap[w.heap.size]? = some (.cells #[.int .i64 t.rule, .int .i64 t.term, .slice a n cap] 43 (0, 0))) := by
    rw [← HW0.out]; exact bx_keep (bx_keep (bx_new _ _ _ rfl) ((Below.refl _ _).alloc (Nat.le_refl _) _)) ((Below.refl _ _).alloc (Nat.le_refl _) _)
  have X5 : Hid (w0.heap[w.heap.size + 1]? = some (.cells #[.int .i64 s.rule, .int .i64 s.term, .slice ax m cx] 43 (0, 0))) := by
    rw [← HW0.out]; exact bx_keep (bx_new _ _ _ (by simp)) ((Below.refl _ _).alloc (Nat.le_refl _) _)
  have X6 : Hid (w0.heap[w.heap.size + 1 + 1]? = some (.cells #[.int .i64 0, .int .i64 0, .slice none 0 0] 43 (0, 0))) := by rw [← HW0.out]; exact bx_new _ _ _ (by simp)
  obtain ⟨x0, x1, x2⟩ := bx_cells3 X3.out
  have hsz0 : w.heap.size + 1 + 1 < w0.heap.size := (Array.getElem?_eq_some_iff.1 X6.out).1
  have HA := Lib.hid (atE t _ ap cp p w0 (hv.below hb) (hp.keep hb) hsz)
  have HPU := Lib.hid (fun W (h : Below w0.heap.size w0 W) => putE p t _ ap cp s _ W ((hv.below hb).below h) ((hs.below hb).below h) ((hp.keep hb).keep h) hsz hss)
  have HB := Lib.hid hb
  clear hv hs hp hb
  go_enter Try.func211, Try.ntmps211
  go_wp2_with fail
  rw [HW0.out]
  refine HA.out.mono ?_
  rintro e w1 ⟨v1, rfl, hr1, hb1⟩
  obtain ⟨a1, c1, rfl, -, -⟩ := hr1.form
  obtain ⟨bt, HBT⟩ := nameIt (belowT t p)
  rw [HBT.out]
  rw [HBT.out] at hr1
  obtain ⟨u1, HU1⟩ := nameIt ((bt.getD noTree).kids.map Tree.d).length
  rw [HU1.out]
  obtain ⟨W1, HW1⟩ := nameIt (w1.alloc (.cells #[.int .i64 (bt.getD noTree).rule, .int .i64 (bt.getD noTree).term, .slice a1 u1 c1] 43))
  have hB1 : Below w0.heap.size w0 W1 := by rw [← HW1.out]; exact hb1.alloc hb1.size _
  obtain ⟨y0, y1, y2⟩ := bx_cells3 (bx_keep X6.out hB1)
  obtain ⟨f0, f1, f2⟩ := bx_free3 (bx_keep X6.out hB1)
  obtain ⟨p0, p1, p2⟩ := bx_cells3 (bx_keep X3.out hB1)
  obtain ⟨s0, s1, s2⟩ := bx_cells3 (bx_keep X5.out hB1)
  have HB1 := Lib.hid hB1
  clear hr1 hb1 hB1 x0 x1 x2
  go_upto_region 2 with fail
  rw [HW1.out]
  cases bt with
  | none =>
    simp only [foundE, Option.isSome_none]
    go_wp2_with fail
    refine bodyPost_ret (v := .tuple #[.agg #[.int .i64 0, .int .i64 0, .slice none 0 0], .int .i64 5]) (by simp [results, Try.results211, go_sem, y0, y1, y2]) rfl ?_
    rw [HBT.out]
    exact ⟨_, rfl, rd_nil _ _, below_box3 (HB.out.trans (HB1.out.mono HB.out.size)) (by omega) _ _ _⟩
  | some x =>
    simp only [foundE, Option.isSome_some]
    go_wp2_with fail
    refine (HPU.out _ HB1.out).mono ?_
    rintro e w2 ⟨v2, rfl, hr2, hb2⟩
    obtain ⟨a2, c2, rfl, -, -⟩ := hr2.form
    obtain ⟨pt, HPT⟩ := nameIt (putT t p s)
    rw [HPT.out] at hr2
    rw [HPT.out]
    obtain ⟨u2, HU2⟩ := nameIt (pt.kids.map Tree.d).length
    obtain ⟨r2, HR2n⟩ := nameIt pt.rule
    obtain ⟨t2, HT2n⟩ := nameIt pt.term
    rw [HU2.out] at hr2
    rw [HU2.out, HR2n.out, HT2n.out]
    have hx6 := bx_keep (bx_keep X6.out HB1.out) hb2
    obtain ⟨y0, y1, y2⟩ := bx_cells3 hx6
    obtain ⟨f0, f1, f2⟩ := bx_free3 hx6
    have hlt2 := (Array.getElem?_eq_some_iff.1 hx6).1
    have HR2 := Lib.hid hr2
    have HB2 := Lib.hid (HB1.out.trans (hb2.mono HB1.out.size))
    have hsz1 := HB1.out.size
    clear hr2 hb2 hx6
    go_wp2_with fail
    refine bodyPost_ret (v := .tuple #[.agg #[.int .i64 r2, .int .i64 t2, .slice a2 u2 c2], .int .i64 0]) (by simp [results, Try.results211, go_sem, y0, y1, y2]) rfl ?_
    rw [HBT.out, HPT.out]
    have hbb : Below w.heap.size w w2 := HB.out.trans (HB2.out.mono HB.out.size)
    refine ⟨.slice a2 u2 c2, by rw [← HR2n.out, ← HT2n.out]; rfl, ?_, below_box3 hbb (by omega) _ _ _⟩
    exact (HR2.out.box3 (b := w.heap.size + 1 + 1) (by simp [FreshB]; omega) _ _ _).mono (fun k hk _ => by have h := HB.out.size; simp [FreshB] at hk ⊢; omega)

theorem putTE (t : Tree) (v : Value) (ap : Option Addr) (cp : Nat) (p : List Int) (s : Tree) (vs : Value) (w : World) (hv : Rd AnyB w (.sl (t.kids.map Tree.d)) [v]) (hs : Rd AnyB w (.sl (s.kids.map Tree.d)) [vs]) (hp : Sl w (.slice ap p.length cp) (ints p)) (hsz : t.size ≤ 1099511627776) (hss : s.size ≤ 1099511627776) :
    Calls Try.prog 211 #[.agg #[.int .i64 t.rule, .int .i64 t.term, v], .slice ap p.length cp, .agg #[.int .i64 s.rule, .int .i64 s.term, vs]] w (DescPost ((belowT t p).map fun _ => putT t p s) foundE w) :=
  (putTF t v ap cp p s vs w hv hs hp hsz hss).mono fun _ _ h => h.desc
end Go.Proofs.Ytjehmleckcmilaa
