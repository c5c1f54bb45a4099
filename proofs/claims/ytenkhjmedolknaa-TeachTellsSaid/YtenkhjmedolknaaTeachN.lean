/- teach.New, ends, Differ, Teacher.Equal. -/
import Derived.Test.YtenkhjmedolknaaSameW
import Derived.Test.YtenkhjmedolknaaPlain5
namespace Go.Proofs.Ytenkhjmedolknaa
open Go.RowKit
namespace Df

theorem err_of_right {x : Dfa} (h : Right x) : dfaErr x = 0 := by
  obtain ⟨h1, h2, h3, h4, h5, h6, h7⟩ := h
  have r : x.next.any (badRowB x) = false := by
    rw [List.any_eq_false]
    intro r hr
    have := h4 r hr
    unfold badRowB
    simp; exact ⟨by intro e; subst e; simp at this; omega, this⟩
  rw [dfaErr_five (by omega) (by omega) (by omega) r, if_neg]
  rw [← badD_iff]
  rintro (h | h | ⟨v, hv, h⟩ | ⟨r, hr, v, hv, h | h⟩)
  · omega
  · omega
  · have := h6 v hv; omega
  · have := h7 r hr v hv; omega
  · have := h7 r hr v hv; omega
theorem plain_right {x : Dfa} (h : Right x) : Right (plainD x) := by
  obtain ⟨h1, h2, h3, h4, h5, h6, h7⟩ := h
  refine ⟨h1, by unfold plainD; rw [List.length_map]; exact h2, h3, h4, h5, fun v hv => ?_, h7⟩
  unfold plainD at hv
  simp only [List.mem_map] at hv
  obtain ⟨u, hu, rfl⟩ := hv
  have := h6 u hu
  omega
theorem plain_err {x : Dfa} (h : dfaErr x = 0) : dfaErr (plainD x) = 0 := err_of_right (plain_right (right_of h))
theorem plain_flat (x : Dfa) : Flat (plainD x) := by
  intro v hv
  unfold plainD at hv
  simp only [List.mem_map] at hv
  obtain ⟨u, hu, rfl⟩ := hv
  omega
theorem plain_width (x : Dfa) : (plainD x).width = x.width := rfl
theorem plain_good (x : Dfa) (s : Int) : goodS (plainD x) s = goodS x s := by
  unfold goodS plainD
  simp only [List.getElem?_map]
  cases e : x.acc[s.toNat]? with
  | none => rfl
  | some v =>
    simp only [Option.map_some, Option.getD_some]
    congr 1
    rw [Bool.eq_iff_iff]
    simp only [decide_eq_true_eq]
    omega
theorem plain_step (x y : Dfa) : stepP (plainD x) (plainD y) = stepP x y := rfl
theorem plain_bad (x y : Dfa) (n : Int × Int) : badP (plainD x) (plainD y) n = badP x y n := by unfold badP; rw [plain_good, plain_good]
theorem plain_least {x y : Dfa} {u : List Nat} (h : LeastW (plainD x) (plainD y) u) : LeastW x y u := by
  obtain ⟨h1, h2, h3⟩ := h
  rw [plain_bad] at h2
  exact ⟨h1, h2, fun v hv hb => h3 v hv (by rw [plain_bad]; exact hb)⟩
theorem plain_alike {x y : Dfa} (h : Alike (plainD x) (plainD y)) : Alike x y := fun u hu => by
  have := h u hu
  rw [plain_bad] at this
  exact this
theorem plain_run (x : Dfa) (s : Int) (ws : List Int) : goodS (plainD x) (runS (plainD x) s ws) = goodS x (runS x s ws) := plain_good x _
theorem plain_out (x : Dfa) (c : Int) : outP (plainD x) c = outP x c := rfl

def NewPost (x : Dfa) (w : World) (e : Ending) (w' : World) : Prop :=
  (dfaErr x ≠ 0 ∧ e = .returned (.tuple #[.pointer none, .int .i64 (dfaErr x)]) ∧ Below w.heap.size w w') ∨
  (dfaErr x = 0 ∧ ∃ aa an ca cn wT, e = .returned (.tuple #[.pointer (some ⟨wT.heap.size, 0, none⟩), .int .i64 0]) ∧ Below w.heap.size w wT ∧ DfA (plainD x) aa an ca cn wT ∧ Below wT.heap.size wT w' ∧ TeachB wT.heap.size (plainD x) (.slice aa (plainD x).acc.length ca) (.slice an (plainD x).next.length cn) 0 0 w')
set_option maxHeartbeats 2000000 in
theorem newE (x : Dfa) (aa an : Option Addr) (ca cn : Nat) (w : World) (hD : DfA x aa an ca cn w) :
    Calls Try.prog 4 #[.agg #[.int .i64 x.start, .slice aa x.acc.length ca, .slice an x.next.length cn]] w (NewPost x w) := by
  obtain ⟨w0, HW0⟩ := nameIt (w.alloc (.cells #[.int .i64 x.start, .slice aa x.acc.length ca, .slice an x.next.length cn] 25))
  have hb0 : Below w.heap.size w w0 := by rw [← HW0.out]; exact (Below.refl _ _).alloc (Nat.le_refl _) _
  have HB0 := Lib.hid hb0
  have X0 : Hid (w0.heap[w.heap.size]? = some (.cells #[.int .i64 x.start, .slice aa x.acc.length ca, .slice an x.next.length cn] 25 (0, 0))) := by rw [← HW0.out]; exact bx_new _ _ _ rfl
  have HD := Lib.hid (hD.below hb0)
  have HCK := Lib.hid (checkE x aa an ca cn w0 HD.out.A HD.out.N)
  have HPL : Hid (dfaErr x = 0 → ∀ W, Below w0.heap.size w0 W → Calls Try.prog 17 #[.agg #[.int .i64 x.start, .slice aa x.acc.length ca, .slice an x.next.length cn]] W (PlainPost x W)) := fun h W hb => plainE x (right_of h) aa an ca cn W (HD.out.below hb)
  have HF1 : Hid (dfaErr x ≠ 0 → ∀ W, Below w.heap.size w W → NewPost x w (.returned (.tuple #[.pointer none, .int .i64 (dfaErr x)])) W) := fun h W hb => .inl ⟨h, rfl, hb⟩
  have HF2 : Hid (dfaErr x = 0 → ∀ aa an ca cn wT, Below w.heap.size w wT → DfA (plainD x) aa an ca cn wT → NewPost x w (.returned (.tuple #[.pointer (some ⟨wT.heap.size, 0, none⟩), .int .i64 0])) (wT.alloc (.cells #[.int .i64 x.start, .slice aa (plainD x).acc.length ca, .slice an (plainD x).next.length cn, .int .i64 0, .int .i64 0] 48))) := by
    intro h aa an ca cn wT hb hd
    exact .inr ⟨h, aa, an, ca, cn, wT, rfl, hb, hd, (Below.refl _ _).alloc (Nat.le_refl _) _, 48, bx_new _ _ _ rfl⟩
  obtain ⟨PST, HP⟩ := nameIt (NewPost x w)
  have HPP : Hid (PlainPost x = PlainPost x) := rfl
  rw [HP.out] at HF1 HF2 ⊢
  obtain ⟨E, HE⟩ := nameIt (dfaErr x)
  rw [HE.out] at HCK HPL HF1 HF2
  obtain ⟨la, HLA⟩ := nameIt x.acc.length
  obtain ⟨n, HN⟩ := nameIt x.next.length
  obtain ⟨st, HST⟩ := nameIt x.start
  rw [HLA.out, HN.out, HST.out] at HW0 X0 HCK HPL
  rw [HST.out] at HF2
  rw [HLA.out, HN.out, HST.out]
  obtain ⟨x0, x1, x2⟩ := bx_cells3 X0.out
  clear hD hb0
  by_cases h0 : E = 0
  · have HPL0 := Lib.hid (HPL.out h0)
    have HF0 := Lib.hid (HF2.out h0)
    rw [h0] at HCK
    clear HF1 HF2 HPL h0
    go_enter Try.func4, Try.ntmps4
    go_upto_region 1 with fail
    rw [HW0.out]
    go_wp2_with fail
    refine HCK.out.mono ?_
    rintro e w1 ⟨rfl, hb1⟩
    have HB1 := Lib.hid hb1
    clear x0 x1 x2 hb1
    obtain ⟨x0, x1, x2⟩ := bx_cells3 (bx_keep X0.out HB1.out)
    go_wp2_with fail
    refine (HPL0.out w1 HB1.out).mono ?_
    rintro e w2 ⟨aa2, an2, ca2, cn2, rfl, hd2, hb2⟩
    have HFI := Lib.hid (HF0.out aa2 an2 ca2 cn2 w2 (HB0.out.trans ((HB1.out.trans (hb2.mono HB1.out.size)).mono HB0.out.size)) hd2)
    obtain ⟨la2, HLA2⟩ := nameIt (plainD x).acc.length
    obtain ⟨n2, HN2⟩ := nameIt (plainD x).next.length
    rw [HLA2.out, HN2.out] at HFI
    rw [HLA2.out, HN2.out, HST.out]
    clear hd2 hb2 x0 x1 x2
    go_wp2_with fail
    first | exact HFI.out | (refine bodyPost_ret (results_tmp2 Try.results4 _ _ _) rfl ?_; exact HFI.out)
  · have HF0 := Lib.hid (HF1.out h0)
    have hE : (E != 0) = true := by simpa using h0
    clear HF1 HF2 HPL
    go_enter Try.func4, Try.ntmps4
    go_upto_region 1 with fail
    rw [HW0.out]
    go_wp2_with fail
    refine HCK.out.mono ?_
    rintro e w1 ⟨rfl, hb1⟩
    have HFI := Lib.hid (HF0.out w1 (HB0.out.trans (hb1.mono HB0.out.size)))
    clear x0 x1 x2 hb1
    go_wp2_with fail
    first | exact HFI.out | (refine bodyPost_ret (results_tmp2 Try.results4 _ _ _) rfl ?_; exact HFI.out)

def endsD : Dfa := ⟨0, [-1, 0], [[1, 0], [1, 0]]⟩
theorem ends_right : Right endsD := by
  refine ⟨by decide, rfl, by decide, by decide, by decide, by decide, by decide⟩
def EndsPost (w : World) (e : Ending) (w' : World) : Prop := ∃ aa an ca cn, e = .returned (.agg #[.int .i64 endsD.start, .slice aa endsD.acc.length ca, .slice an endsD.next.length cn]) ∧ DfA endsD aa an ca cn w' ∧ Below w.heap.size w w'
theorem ends_at (w : World) : ∃ W : World, W = ((((w.alloc (.cells #[.int .i64 0, .slice (some ⟨w.heap.size + 1, 0, none⟩) 2 2, .slice (some ⟨w.heap.size + 1 + 1 + 1 + 1, 0, none⟩) 2 2] 25)).alloc (.cells #[.int .i64 (-1), .int .i64 0] 3)).alloc (.cells #[.int .i64 1, .int .i64 0] 3)).alloc (.cells #[.int .i64 1, .int .i64 0] 3)).alloc (.cells #[.slice (some ⟨w.heap.size + 1 + 1, 0, none⟩) 2 2, .slice (some ⟨w.heap.size + 1 + 1 + 1, 0, none⟩) 2 2] 22) ∧
    W.heap[w.heap.size]? = some (.cells #[.int .i64 0, .slice (some ⟨w.heap.size + 1, 0, none⟩) 2 2, .slice (some ⟨w.heap.size + 1 + 1 + 1 + 1, 0, none⟩) 2 2] 25 (0, 0)) ∧ DfA endsD (some ⟨w.heap.size + 1, 0, none⟩) (some ⟨w.heap.size + 1 + 1 + 1 + 1, 0, none⟩) 2 2 W ∧ Below w.heap.size w W := by
  obtain ⟨W1, H1⟩ := nameIt (w.alloc (.cells #[.int .i64 0, .slice (some ⟨w.heap.size + 1, 0, none⟩) 2 2, .slice (some ⟨w.heap.size + 1 + 1 + 1 + 1, 0, none⟩) 2 2] 25))
  have s1 : W1.heap.size = w.heap.size + 1 := by rw [← H1.out]; simp
  have b1 : Below w.heap.size w W1 := by rw [← H1.out]; exact (Below.refl _ _).alloc (Nat.le_refl _) _
  have x1 : W1.heap[w.heap.size]? = some (.cells #[.int .i64 0, .slice (some ⟨w.heap.size + 1, 0, none⟩) 2 2, .slice (some ⟨w.heap.size + 1 + 1 + 1 + 1, 0, none⟩) 2 2] 25 (0, 0)) := by rw [← H1.out]; exact bx_new _ _ _ rfl
  obtain ⟨W2, H2⟩ := nameIt (W1.alloc (.cells #[.int .i64 (-1), .int .i64 0] 3))
  have s2 : W2.heap.size = w.heap.size + 1 + 1 := by rw [← H2.out]; simp [s1]
  have b2 : Below W1.heap.size W1 W2 := by rw [← H2.out]; exact (Below.refl _ _).alloc (Nat.le_refl _) _
  have o2 := World.ownsRow_lit (base := w.heap.size) (e := 3) (size := 1) W1 #[.int .i64 (-1), .int .i64 0] 2 b1.size (by decide) (by rfl)
  rw [H2.out, s1] at o2
  obtain ⟨W3, H3⟩ := nameIt (W2.alloc (.cells #[.int .i64 1, .int .i64 0] 3))
  have s3 : W3.heap.size = w.heap.size + 1 + 1 + 1 := by rw [← H3.out]; simp [s2]
  have b3 : Below W2.heap.size W2 W3 := by rw [← H3.out]; exact (Below.refl _ _).alloc (Nat.le_refl _) _
  have o3 := World.ownsRow_lit (base := w.heap.size) (e := 3) (size := 1) W2 #[.int .i64 1, .int .i64 0] 2 (by omega) (by decide) (by rfl)
  rw [H3.out, s2] at o3
  obtain ⟨W4, H4⟩ := nameIt (W3.alloc (.cells #[.int .i64 1, .int .i64 0] 3))
  have s4 : W4.heap.size = w.heap.size + 1 + 1 + 1 + 1 := by rw [← H4.out]; simp [s3]
  have b4 : Below W3.heap.size W3 W4 := by rw [← H4.out]; exact (Below.refl _ _).alloc (Nat.le_refl _) _
  have o4 := World.ownsRow_lit (base := w.heap.size) (e := 3) (size := 1) W3 #[.int .i64 1, .int .i64 0] 2 (by omega) (by decide) (by rfl)
  rw [H4.out, s3] at o4
  obtain ⟨W5, H5⟩ := nameIt (W4.alloc (.cells #[.slice (some ⟨w.heap.size + 1 + 1, 0, none⟩) 2 2, .slice (some ⟨w.heap.size + 1 + 1 + 1, 0, none⟩) 2 2] 22))
  have b5 : Below W4.heap.size W4 W5 := by rw [← H5.out]; exact (Below.refl _ _).alloc (Nat.le_refl _) _
  have o5 := World.ownsRow_lit (base := w.heap.size) (e := 22) (size := 1) W4 #[.slice (some ⟨w.heap.size + 1 + 1, 0, none⟩) 2 2, .slice (some ⟨w.heap.size + 1 + 1 + 1, 0, none⟩) 2 2] 2 (by omega) (by decide) (by rfl)
  rw [H5.out, s4] at o5
  have r1 : Rd AnyB W5 (D.ints [1, 0]) [.slice (some ⟨w.heap.size + 1 + 1, 0, none⟩) 2 2] := rd_sl (l := [1, 0]) (sl_of_own (own_keep (own_keep o3 b4) b5))
  have r2 : Rd AnyB W5 (D.ints [1, 0]) [.slice (some ⟨w.heap.size + 1 + 1 + 1, 0, none⟩) 2 2] := rd_sl (l := [1, 0]) (sl_of_own (own_keep o4 b5))
  refine ⟨W5, by rw [← H5.out, ← H4.out, ← H3.out, ← H2.out, ← H1.out], bx_keep (bx_keep (bx_keep (bx_keep x1 b2) b3) b4) b5, ⟨?_, ?_⟩, ?_⟩
  · exact sl_of_own (own_keep (own_keep (own_keep o2 b3) b4) b5)
  · exact rd_of_own (ds := [D.ints [1, 0], D.ints [1, 0]]) o5 ⟨_, _, rfl, r1, RdAll.one r2⟩ rfl (fun _ _ => trivial)
  · exact (((b1.trans (b2.mono (by omega))).trans (b3.mono (by omega))).trans (b4.mono (by omega))).trans (b5.mono (by omega))
set_option maxHeartbeats 2000000 in
theorem endsLawE (w : World) : Calls Try.prog 5 #[] w (EndsPost w) := by
  have HEA := Lib.hid (ends_at w)
  obtain ⟨PST, HP⟩ := nameIt (EndsPost w)
  have HFI : Hid (∀ W, W.heap[w.heap.size]? = some (.cells #[.int .i64 0, .slice (some ⟨w.heap.size + 1, 0, none⟩) 2 2, .slice (some ⟨w.heap.size + 1 + 1 + 1 + 1, 0, none⟩) 2 2] 25 (0, 0)) → DfA endsD (some ⟨w.heap.size + 1, 0, none⟩) (some ⟨w.heap.size + 1 + 1 + 1 + 1, 0, none⟩) 2 2 W → Below w.heap.size w W → PST (.returned (.agg #[.int .i64 0, .slice (some ⟨w.heap.size + 1, 0, none⟩) 2 2, .slice (some ⟨w.heap.size + 1 + 1 + 1 + 1, 0, none⟩) 2 2])) W) := by
    intro W _ h1 h2
    rw [← HP.out]
    exact ⟨_, _, _, _, rfl, h1, h2⟩
  rw [HP.out]
  go_enter Try.func5, Try.ntmps5
  go_wp2_with fail
  obtain ⟨W, hW, h1, h2, h3⟩ := HEA.out
  rw [← hW]
  obtain ⟨j0, j1, j2⟩ := bx_cells3 h1
  refine bodyPost_ret (v := .agg #[.int .i64 0, .slice (some ⟨w.heap.size + 1, 0, none⟩) 2 2, .slice (some ⟨w.heap.size + 1 + 1 + 1 + 1, 0, none⟩) 2 2]) (by simp [results, Try.results5, go_sem, j0, j1, j2]) rfl ?_
  exact HFI.out W h1 h2 h3
end Df
end Go.Proofs.Ytenkhjmedolknaa
