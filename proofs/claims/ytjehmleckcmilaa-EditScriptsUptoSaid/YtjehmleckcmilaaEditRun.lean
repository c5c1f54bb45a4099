/- The contract of edit.Run. -/
import Derived.Test.YtjehmleckcmilaaEdRun
import Derived.Test.YtjehmleckcmilaaBackward
import Derived.Test.YtjehmleckcmilaaPreds
import Derived.Deep.DeepCutAuto
namespace Go.Proofs.Ytjehmleckcmilaa
open Go.RowKit
attribute [local go_sem] Oper.semAt_some

def EdRunPost (l : List Int) (es : List Ed) (w : World) (e : Ending) (w' : World) : Prop :=
  ∃ v, e = .returned (.tuple #[v, .int .i64 (runErr l es)]) ∧ Sl w' v (ints (ranOf l es)) ∧ Below w.heap.size w w'
theorem slNil0 (w : World) : Sl w (.slice none 0 0) (ints []) := sl_of_own (B := 0) (e := 3) (World.ownsRow_nil _ _ _ _)

/-- a reading of numbers abides what turns no cells -/
theorem sl_kept {W W' : World} {row : Option Nat} {v : Value} {l : List Value} (h : Sl W v l) (hg : W.grownBy W' row) (hr : ∀ r, row = some r → ∃ o : Obj, W.heap[r]? = some o ∧ o.isCells = false) : Sl W' v l := by
  obtain ⟨a, cap, rfl, h1, h2, h3, h4⟩ := h
  refine ⟨a, cap, rfl, h1, h2, h3, fun i hi => ?_⟩
  obtain ⟨x, e, h5⟩ := h4 i hi
  exact ⟨x, e, cell_kept h5 hg hr⟩
theorem block_kept {W W' : World} {row : Option Nat} {B : Nat} {cs : Array Value} {t : TypeId} {p : Nat × Nat} (h : W.heap[B]? = some (.cells cs t p)) (hg : W.grownBy W' row) (hr : ∀ r, row = some r → ∃ o : Obj, W.heap[r]? = some o ∧ o.isCells = false) : W'.heap[B]? = some (.cells cs t p) := by
  refine (hg.block B (Array.getElem?_eq_some_iff.1 h).1 (fun e => ?_)).trans h
  obtain ⟨o, ho, hc⟩ := hr B e.symm
  rw [h] at ho; cases ho; cases hc

/-- what the rounds of edit.Run keep: the box holds the word behind the last k edits -/
def RunI (L : List Int) (es : List Ed) (m B : Nat) (w1 : World) (k : Nat) (W : World) : Prop :=
  (∃ v, W.heap[B]? = some (.cells #[v] 22 (0, 0)) ∧ Sl W v (ints (back L (es.drop (m - k))))) ∧ Below B w1 W ∧ B + 2 ≤ W.heap.size
theorem runI_own {L : List Int} {es : List Ed} {m B S : Nat} {w1 : World} (hB : B ≤ w1.heap.size) (hS : B ≤ S) : OwnFrom S (RunI L es m B w1) := by
  rintro k X Y row ⟨⟨v, h1, h2⟩, h3, h4⟩ hg hr
  exact ⟨⟨v, block_kept h1 hg (fun r e => (hr r e).2), sl_kept h2 hg (fun r e => (hr r e).2)⟩, h3.grown hg (Nat.le_trans hB h3.size) (fun j e => Nat.le_trans hS (hr j e).1), Nat.le_trans h4 hg.size⟩

/-- the iterator over edits that came in -/
theorem edits_ord {w : World} {es : List Ed} {b : Option Addr} {m cb : Nat} (ho : Rd AnyB w (.sl (es.map Ed.d)) [.slice b m cb]) (hm : es.length = m) (B Bs : Nat) (W : World) (hw : Below w.heap.size w W) (hB : w.heap.size ≤ B) (hBW : B ≤ W.heap.size) (hs : Bs < W.heap.size) (hbs : W.cell? ⟨Bs, 0, none⟩ = some (.slice b m cb)) (hm2 : m ≤ 140737488355328) :
    ∃ (f t : Nat → Int) (u : Nat → Value), SeqOrd Fence.wide (3 - 1) Try.prog 175 #[.pointer (some ⟨Bs, 0, none⟩)] (bwEnc f t u m) (KeepsB B Bs) m W ∧ ∀ i (hi : i < es.length), f i = es[i].f ∧ t i = es[i].t ∧ Sl w (u i) (ints es[i].new) := by
  by_cases h0 : 0 < es.length
  · obtain ⟨b', off, u, rfl, hlt, hc⟩ := eds_cellsAll ho h0
    refine ⟨fun i => (es[i]?.getD default).f, fun i => (es[i]?.getD default).t, u, ?_, fun i hi => ⟨by simp [hi], by simp [hi], (hc i hi).2.2.2⟩⟩
    refine backward_ord 2 (by omega) Bs B b' off m cb _ _ u hm2 (by omega) W hBW hs hbs fun i hi => ?_
    have hi' : i < es.length := by omega
    obtain ⟨c0, c1, c2, _⟩ := hc i hi'
    refine ⟨(hw.cell (p := ⟨b', off + i * 3, none⟩) hlt).trans ?_, (hw.cell (p := ⟨b', off + i * 3 + 1, none⟩) hlt).trans ?_, (hw.cell (p := ⟨b', off + i * 3 + 2, none⟩) hlt).trans c2⟩
    · simp [hi', c0]
    · simp [hi', c1]
  · obtain rfl : m = 0 := by omega
    exact ⟨fun _ => 0, fun _ => 0, fun _ => undef, backward_none 2 Bs B b cb _ W hs hbs, fun i hi => absurd hi (by omega)⟩

set_option maxHeartbeats 4000000 in
set_option maxRecDepth 100000 in
theorem editRun (a : Option Addr) (ca : Nat) (L : List Int) (b : Option Addr) (cb : Nat) (es : List Ed) (w : World) (hl : Sl w (.slice a L.length ca) (ints L)) (ho : Rd AnyB w (.sl (es.map Ed.d)) [.slice b es.length cb]) (hT : L.length + newSum es ≤ 8388608) (hE : es.length ≤ 8388608) :
    Calls Try.prog 38 #[.slice a L.length ca, .slice b es.length cb] w (EdRunPost L es w) := by
  have HL := Lib.hid hl
  have HO := Lib.hid ho
  have hc := hl.len.2
  have hco := ho.bounds.2
  unfold maxLen at hc hco
  obtain ⟨hc1, hc2⟩ := hc
  obtain ⟨hco1, hco2⟩ := hco
  obtain ⟨n, HN⟩ := nameIt L.length
  obtain ⟨m, HM⟩ := nameIt es.length
  obtain ⟨sm, HSM⟩ := nameIt (newSum es)
  rw [HN.out] at hc1 HL hT
  rw [HSM.out] at hT
  rw [HM.out] at hco1 HO hE
  rw [HN.out, HM.out]
  have HR0 : Hid (okEds L.length (-1) es = okEds L.length (-1) (es.drop 0)) := by show _ = _; simp
  clear hl ho
  refine (callsIn_wide (n := 3)).1 ?_
  refine callsIn_of_wp_marks Try.func38 rfl trivial ?_ rfl
  refine wpIn_wide.2 ?_
  simp only [Try.ntmps38, List.size_toArray, List.length_cons, List.length_nil, Nat.reduceAdd, Nat.reduceSub, Array.replicate_succ, Array.replicate_zero, List.push_toArray, List.append_toArray, List.nil_append, List.cons_append]
  go_wp2_with fail
  go_loopg [6, 14] m (fun gg v6 v14 wr => ∃ (k : Nat) (la : Int), k ≤ m ∧ m - k ≤ gg ∧ v14 = .int .i64 k ∧ v6 = .int .i64 la ∧ Hid (okEds L.length (-1) es = okEds L.length la (es.drop k)) ∧ Hid (Below w.heap.size w wr))
  case atStart => exact ⟨0, -1, by omega, by omega, rfl, rfl, HR0, Below.refl _ _⟩
  case round =>
    obtain ⟨k, la, hk, hg, rfl, rfl, HOK, HB⟩ := hrel
    by_cases hlt : k < m
    · have hlt' : (k : Int) < (m : Int) := by omega
      have hko : k < es.length := by rw [HM.out]; exact hlt
      obtain ⟨bo, off, u, hae, -, hbl, e0, e1, e2, hu⟩ := Rd.ed_at (HO.out.below HB.out) hko
      have HST := Lib.hid (okEds_step L.length la hko)
      obtain ⟨o, HOO⟩ := nameIt (es[k]'hko)
      rw [HOO.out] at e0 e1 hu HST
      obtain ⟨x, HX⟩ := nameIt o.f
      obtain ⟨y, HY⟩ := nameIt o.t
      rw [HX.out] at e0 HST
      rw [HY.out] at e1 HST
      rw [HN.out] at HST HOK
      obtain ⟨au, ku, cu, rfl⟩ : ∃ au ku cu, u = .slice au ku cu := by obtain ⟨a1, c1, rfl, _⟩ := Rd.form hu; exact ⟨_, _, _, rfl⟩
      clear hu
      subst hae
      have HB1 : Hid (Below w.heap.size w (wr.alloc (.cells #[.int .i64 x, .int .i64 y, .slice au ku cu] 67))) := HB.out.alloc HB.out.size _
      obtain ⟨w1, HW1⟩ := nameIt (wr.alloc (.cells #[.int .i64 x, .int .i64 y, .slice au ku cu] 67))
      have X1 : Hid (w1.heap[wr.heap.size]? = some (.cells #[.int .i64 x, .int .i64 y, .slice au ku cu] 67 (0, 0))) := by rw [← HW1.out]; exact bx_new _ _ _ rfl
      have hsz1 : wr.heap.size < w1.heap.size := (Array.getElem?_eq_some_iff.1 X1.out).1
      rw [HW1.out] at HB1
      obtain ⟨s0, s1, s2⟩ := bx_cells3 X1.out
      go_upto_region 5 with fail
      rw [HW1.out]
      by_cases hbad : x ≤ la ∨ y < x ∨ (n : Int) < y
      · have HNO : Hid (runErr L es = 1) := by
          show _ = _
          unfold runErr
          rw [HN.out, HOK.out, HST.out, if_neg]
          simp
          omega
        have fin : ∀ W', Below w.heap.size w W' → EdRunPost L es w (.returned (.tuple #[.slice none 0 0, .int .i64 1])) W' := fun W' hb => ⟨.slice none 0 0, by rw [HNO.out], by unfold ranOf; rw [HNO.out, if_neg (by decide)]; exact slNil0 _, hb⟩
        have FIN := Lib.hid fin
        clear fin
        by_cases b1 : x ≤ la
        · have b1' : decide (x ≤ la) = true := by simpa using b1
          go_wp2_with fail
          exact ⟨_, results_tmp2 Try.results38 _ _ _, FIN.out _ HB1.out⟩
        · have b1' : decide (x ≤ la) = false := by simpa using b1
          by_cases b2 : y < x
          · have b2' : decide (y < x) = true := by simpa using b2
            clear hbad
            go_wp2_with fail
            exact ⟨_, results_tmp2 Try.results38 _ _ _, FIN.out _ HB1.out⟩
          · have b2' : decide (y < x) = false := by simpa using b2
            have b3 : (n : Int) < y := by omega
            have b3' : decide ((n : Int) < y) = true := by simpa using b3
            clear hbad
            go_wp2_with fail
            exact ⟨_, results_tmp2 Try.results38 _ _ _, FIN.out _ HB1.out⟩
      · have b1 : la < x := by omega
        have b2 : x ≤ y := by omega
        have b3 : y ≤ (n : Int) := by omega
        have b1' : decide (x ≤ la) = false := by simp; omega
        have b2' : decide (y < x) = false := by simp; omega
        have b3' : decide ((n : Int) < y) = false := by simp; omega
        have HOK1 : Hid (okEds L.length (-1) es = okEds L.length y (es.drop (k + 1))) := by
          show _ = _
          rw [HN.out, HOK.out, HST.out]
          simp [b1, b2, b3]
        clear hbad
        go_wp2_with fail
        go_roundg (m - (k + 1))
        case rel => exact ⟨k + 1, y, by omega, by omega, by simp, rfl, HOK1, HB1⟩
        case measure => omega
    · have hkm : k = m := by omega
      have HGO : Hid (okEds L.length (-1) es = true) := by
        show _ = _
        rw [HOK.out, List.drop_of_length_le (by rw [HM.out]; omega), okEds]
      have hge : ¬ ((k : Int) < (m : Int)) := by omega
      go_wp2_with fail
      refine (clone_int _ L wr (HL.out.keep HB.out) (by rw [HN.out]; omega)).mono ?_
      rintro e w1 ⟨a1, c1, rfl, ho, hb⟩
      rw [HN.out] at ho ⊢
      have HO1 := Lib.hid ho
      have HB1 := Lib.hid (HB.out.trans (hb.mono HB.out.size))
      clear ho hb
      go_wp2_with fail
      refine (callsIn_wide.1 (backward 3 _ _ ⟨_, _, _, rfl⟩)).mono ?_
      rintro e w' ⟨rfl, rfl⟩
      go_wp2_with fail
      have XO : Hid (((w1.alloc (.cells #[.slice a1 n c1] 22)).alloc (.cells #[.slice b m cb] 60)).heap[w1.heap.size]? = some (.cells #[.slice a1 n c1] 22 (0, 0))) := by
        exact (Boxed.new w1 _ _).alloc _
      have XS : Hid (((w1.alloc (.cells #[.slice a1 n c1] 22)).alloc (.cells #[.slice b m cb] 60)).heap[w1.heap.size + 1]? = some (.cells #[.slice b m cb] 60 (0, 0))) := by
        have h := Boxed.new (w1.alloc (.cells #[.slice a1 n c1] 22)) 60 (.slice b m cb)
        rw [World.size_alloc] at h
        exact h
      have HB2 : Hid (Below w1.heap.size w1 ((w1.alloc (.cells #[.slice a1 n c1] 22)).alloc (.cells #[.slice b m cb] 60))) := ((Below.refl _ w1).alloc (Nat.le_refl _) _).alloc (by simp) _
      have hsz : ((w1.alloc (.cells #[.slice a1 n c1] 22)).alloc (.cells #[.slice b m cb] 60)).heap.size = w1.heap.size + 2 := by simp
      obtain ⟨W0, HW0⟩ := nameIt ((w1.alloc (.cells #[.slice a1 n c1] 22)).alloc (.cells #[.slice b m cb] 60))
      rw [HW0.out] at XO XS HB2 hsz ⊢
      have HS1 : Hid (Sl W0 (.slice a1 n c1) (ints L)) := (sl_of_own HO1.out).keep HB2.out
      have hw1 := HB1.out.size
      obtain ⟨f, t, u, hseq, hel⟩ := edits_ord HO.out HM.out w1.heap.size (w1.heap.size + 1) W0 (HB1.out.trans (HB2.out.mono hw1)) hw1 (by omega) (by omega) (Boxed.cell XS.out) (by omega)
      have HSEQ := Lib.hid hseq
      have HEL := Lib.hid hel
      clear hseq hel
      refine (wpIn_wide (n := 3)).1 ?_
      refine wpIn_range_ord rfl (by omega) (gf := 175) (lb := #[.pointer (some ⟨w1.heap.size + 1, 0, none⟩)]) rfl trivial (enters_of Try.func175 (by kernel_rfl) rfl)
        (Kp := KeepsB w1.heap.size (w1.heap.size + 1)) KeepsB.trans (KeepsB.put (by omega) (by omega)) HSEQ.out (fun _ => rfl)
        (RunI L es m w1.heap.size w1) (runI_own (Nat.le_refl _) (by omega)) ⟨⟨_, XO.out, by rw [Nat.sub_zero, List.drop_of_length_le (by rw [HM.out]; omega)]; exact HS1.out⟩, HB2.out, by omega⟩
        (fun k a' W => ∃ Bx, W.heap[Bx]? = some (.cells #[.int .i64 (f (m - 1 - k)), .int .i64 (t (m - 1 - k)), u (m - 1 - k)] 67 (0, 0)) ∧ a' = Act.mk #[.slice a n ca, .slice b m cb, undef, undef, u4, u5, .int .i64 la, undef, u8, .pointer (some ⟨w1.heap.size, 0, none⟩), undef, .pointer (some ⟨Bx, 0, none⟩), .slice b m cb, .int .i64 m, .int .i64 m, .bool false, u16, u17, u18, u19, u20, u21, u22, u23, u24, u25, u26, u27, u28, u29, u30, u31, u32, u33, u34, u35, u36, u37, u38, .slice a n ca, .slice a1 n c1, .slice b m cb, .func (.func 175) #[] #[.pointer (some ⟨w1.heap.size + 1, 0, none⟩)], .int .i64 ((m - 1 - k : Nat) : Int), .agg #[.int .i64 (f (m - 1 - k)), .int .i64 (t (m - 1 - k)), u (m - 1 - k)], undef, undef, undef, undef, undef, undef, undef] [])
        (fun k a' => by
          rintro _ X Y row ⟨Bx, h1, h2⟩ hg hr
          exact ⟨Bx, block_kept h1 hg (fun r e => (hr r e).2), h2⟩) ?assign ?body ?done
      case assign =>
        rintro l k W K hk ⟨⟨v, h1, h2⟩, h3, h4⟩ hK
        have HK := Lib.hid hK
        have H1 := Lib.hid h1
        have H2 := Lib.hid h2
        have H3 := Lib.hid h3
        clear hK h1 h2 h3
        unfold bwEnc
        have hi : m - 1 - k < es.length := by rw [HM.out]; omega
        obtain ⟨au, cu, hu⟩ := (HEL.out _ hi).2.2.form
        obtain ⟨i, HI⟩ := nameIt (m - 1 - k)
        obtain ⟨fi, HFI⟩ := nameIt (f i)
        obtain ⟨ti, HTI⟩ := nameIt (t i)
        obtain ⟨ku, HKU⟩ := nameIt (ints (es[m - 1 - k]'hi).new).length
        rw [HKU.out, HI.out] at hu
        rw [HI.out, HFI.out, HTI.out, hu] at HK ⊢
        gi_wp2
        refine HK.out _ _ ((KeepsOthers.alloc _ _).from _) ⟨(Below.refl _ W).alloc H3.out.size _, ?_⟩ ⟨⟨v, (Below.heap_alloc _ _ _ (Array.getElem?_eq_some_iff.1 H1.out).1).trans H1.out, H2.out.keep ((Below.refl _ W).alloc (Nat.le_refl _) _)⟩, H3.out.alloc H3.out.size _, by simp; omega⟩ ⟨W.heap.size, bx_new _ _ _ rfl, rfl⟩
        exact Below.heap_alloc _ _ _ (by omega)
      case body =>
        rintro l k a' W hk ⟨⟨v, h1, h2⟩, h3, h4⟩ ⟨Bx, hX, rfl⟩
        have hi : m - 1 - k < es.length := by rw [HM.out]; omega
        obtain ⟨hf, ht, hs⟩ := HEL.out _ hi
        obtain ⟨au, cu, hu⟩ := hs.form
        obtain ⟨g1, g2, g3, g4⟩ := okEds_at HGO.out hi
        have hbl := back_len g4 (by omega) g3
        have hbb := back_bound L L.length _ _ g4
        have hds := newSum_drop es (m - 1 - k + 1)
        have hnm := newSum_mem hi
        have hbd := back_drop L hi
        rw [show m - 1 - k + 1 = m - k by omega] at hbl hbb hds hbd
        rw [hf, ht, hu] at hX
        rw [hf, ht, hu]
        rw [hu] at hs
        rw [show (ints (es[m - 1 - k]'hi).new).length = (es[m - 1 - k]'hi).new.length by simp [ints]] at hX hs ⊢
        obtain ⟨o, HOO⟩ := nameIt (es[m - 1 - k]'hi)
        rw [HOO.out] at g1 g2 g3 g4 hX hs hbl hnm hbd ⊢
        rw [HN.out] at g3 hbb
        rw [HSM.out] at hds hnm
        obtain ⟨X, HX⟩ := nameIt (back L (es.drop (m - k)))
        rw [HX.out] at h2 hbl hbb hbd
        obtain ⟨Z, HZ⟩ := nameIt (back L (es.drop (m - 1 - k)))
        rw [HZ.out] at hbd
        obtain ⟨i, HI⟩ := nameIt (m - 1 - k)
        obtain ⟨av, cv, rfl⟩ := h2.form
        rw [show (ints X).length = X.length by simp [ints]] at h1 h2
        obtain ⟨x, HXf⟩ := nameIt o.f.toNat
        obtain ⟨y, HYt⟩ := nameIt o.t.toNat
        have ex : o.f = (x : Int) := by rw [← HXf.out]; omega
        have ey : o.t = (y : Int) := by rw [← HYt.out]; omega
        rw [ex, ey] at hX ⊢
        rw [HXf.out, HYt.out] at hbd
        rw [HYt.out] at hbl
        have hxy : x ≤ y := by omega
        have hap := apply_in av cv X x y au cu o.new W h2 (hs.keep ((HB1.out.trans (h3.mono hw1)))) hxy hbl (by omega)
        rw [← hbd] at hap
        have HAP := Lib.hid hap
        have c1 := Boxed.cell h1
        obtain ⟨q0, q1, q2⟩ := bx_cells3 hX
        have H1 := Lib.hid h1
        have H2 := Lib.hid h2
        have H3 := Lib.hid h3
        obtain ⟨xn, HXN⟩ := nameIt X.length
        obtain ⟨on, HON⟩ := nameIt o.new.length
        rw [HXN.out] at c1 HAP H1
        rw [HON.out] at q2 HAP ⊢
        have HX1 : Hid (ordPost W0.heap.size (KeepsB w1.heap.size (w1.heap.size + 1)) (RunI L es m w1.heap.size w1) k W = ordPost W0.heap.size (KeepsB w1.heap.size (w1.heap.size + 1)) (RunI L es m w1.heap.size w1) k W) := rfl
        clear h1 h2 h3 hX hap hs hf ht hu hbd hbl hbb hds hnm g1 g2 g3 g4 ex ey
        gi_wp2_with (refine ⟨trivial, ?_⟩; gi_at_call 107; refine (CallsIn.inRound l (callsIn_wide.2 HAP.out)).mono ?_; rintro e w2 ⟨a2, c2, rfl, ho2, hb2⟩; have r1 := bx_keep H1.out hb2; have r2 := Boxed.cell r1; have r3 := Boxed.frozen r1; have R1 := Lib.hid r1; have HO2 := Lib.hid ho2; have HB3 := Lib.hid hb2; clear r1 ho2 hb2)
        have hsz2 := HB3.out.size
        refine ⟨KeepsFrom.trans ⟨HB3.out.size, fun j o _ h _ => (HB3.out.block j (Array.getElem?_eq_some_iff.1 h).1).trans h⟩ ((KeepsOthers.setCell _ _ _).from _), ⟨(HB3.out.mono H3.out.size).setCell (p := ⟨w1.heap.size, 0, none⟩) (Nat.le_refl _) _, ?_⟩, ⟨⟨_, Boxed.set _ R1.out, ?_⟩, (H3.out.trans (HB3.out.mono H3.out.size)).setCell (p := ⟨w1.heap.size, 0, none⟩) (Nat.le_refl _) _, ?_⟩⟩
        · exact (Below.heap_setCell _ _ _ _ (by simp)).trans (HB3.out.block _ (by omega))
        · rw [show m - (k + 1) = m - 1 - k by omega, HZ.out]
          exact sl_of_own (HO2.out.kept (grownBy_setCell' w2 _ _) (.inr (Boxed.not_row R1.out (by decide) HO2.out).symm))
        · have := (KeepsOthers.setCell w2 ⟨w1.heap.size, 0, none⟩ (Value.slice a2 Z.length c2)).size
          omega
      case done =>
        rintro D W hD ⟨⟨v, h1, h2⟩, h3, h4⟩ hK
        have HE : Hid (Below w.heap.size w (W.putObj D (.deferred none))) := (HB1.out.trans (h3.mono hw1)).trans ((Below.refl _ W).grown (grownBy_putObj' W D _) (by have := h3.size; omega) (fun j e => by cases e; omega))
        rw [Nat.sub_self, List.drop_zero] at h2
        obtain ⟨av, cv, rfl⟩ := h2.form
        have hlb := back_bound L L.length es (-1) HGO.out
        rw [HN.out, HSM.out] at hlb
        obtain ⟨X, HX⟩ := nameIt (back L es)
        rw [HX.out] at h1 h2 hlb
        have e1 : (ints X).length = X.length := by simp [ints]
        rw [e1] at h1 h2
        obtain ⟨x, HXL⟩ := nameIt X.length
        rw [HXL.out] at h1 h2 hlb
        have c1 := Boxed.cell h1
        have H1 := Lib.hid h1
        have H2 := Lib.hid h2
        have H3 := Lib.hid h3
        have HKD := Lib.hid hK
        clear h1 h2 h3 hK
        by_cases hbig : 2000 < x
        · have hbig' : (2000 : Int) < (x : Int) := by omega
          have HER : Hid (runErr L es = 2) := by show _ = _; unfold runErr; rw [if_pos HGO.out, HX.out, HXL.out, if_pos hbig]
          go_wp2_with fail
          refine ⟨by simp, .inl ⟨_, _, rfl, run_takeDeferred HKD.out, ?_⟩⟩
          refine ⟨_, results_tmp2 Try.results38 _ _ _, .slice none 0 0, by rw [HER.out]; rfl, by unfold ranOf; rw [HER.out, if_neg (by decide)]; exact slNil0 _, HE.out⟩
        · have hbig' : ¬ (2000 : Int) < (x : Int) := by omega
          have HER : Hid (runErr L es = 0) := by show _ = _; unfold runErr; rw [if_pos HGO.out, HX.out, HXL.out, if_neg hbig]
          go_wp2_with fail
          refine ⟨by simp, .inl ⟨_, _, rfl, run_takeDeferred HKD.out, ?_⟩⟩
          refine ⟨_, results_tmp2 Try.results38 _ _ _, _, by rw [HER.out]; rfl, ?_, HE.out⟩
          · unfold ranOf
            rw [HER.out, if_pos rfl, HX.out]
            exact sl_kept H2.out (grownBy_putObj' _ D (.deferred none)) (fun r e => by cases e; exact ⟨_, HKD.out, rfl⟩)
end Go.Proofs.Ytjehmleckcmilaa
