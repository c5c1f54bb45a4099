/- The contract of With. -/
import Derived.Test.YtfbacnifankfkaaAt
import Derived.StillTailTactics
import Derived.Deep.DeepCutAuto
namespace Go.Proofs.Ytfbacnifankfkaa
open Go.RowKit

def putT : Tree → List Int → Tree → Tree
  | _, [], s => s
  | t, i :: p, s => .node t.rule t.term (t.kids.mapIdx fun j k => if (j : Int) = i then putT k p s else k)
def putK (t : Tree) (i : Int) (p : List Int) (s : Tree) : List Tree := t.kids.mapIdx fun j k => if (j : Int) = i then putT k p s else k
theorem putT_cons (t : Tree) (i : Int) (p : List Int) (s : Tree) : putT t (i :: p) s = .node t.rule t.term (putK t i p s) := rfl
theorem putK_len (t : Tree) (i : Int) (p : List Int) (s : Tree) : (putK t i p s).length = t.kids.length := by simp [putK]
theorem putK_take {t : Tree} {i : Int} {p : List Int} {s : Tree} {j : Nat} (h : j < t.kids.length) : (putK t i p s).take (j + 1) = (putK t i p s).take j ++ [if (j : Int) = i then putT t.kids[j] p s else t.kids[j]] := by
  rw [List.take_succ_eq_append_getElem (by rw [putK_len]; exact h)]
  simp [putK]

def WithPost (S0 : Nat → Prop) (t : Tree) (w : World) (e : Ending) (w' : World) : Prop :=
  ∃ v, e = .returned (.agg #[.int .i64 t.rule, .int .i64 t.term, v]) ∧ Rd (fun k => S0 k ∨ w.heap.size ≤ k) w' (.sl (t.kids.map Tree.d)) [v] ∧ Below w.heap.size w w'

structure WithRel (S0 : Nat → Prop) (t s : Tree) (vs : Value) (K : List Tree) (w : World) (i : Nat) (vr : Value) (wr : World) : Prop where
  row : RowRel (fun k => S0 k ∨ w.heap.size + 1 + 1 + 1 + 1 ≤ k) (w.heap.size + 1 + 1 + 1 + 1) (w.heap.size + 1 + 1 + 1) t.rule t.term (K.take i) vr wr
  res : wr.heap[w.heap.size + 1 + 1]? = some (.cells #[.int .i64 0, .int .i64 0, .slice none 0 0] 59 (0, 0))
  sub : wr.heap[w.heap.size + 1]? = some (.cells #[.int .i64 s.rule, .int .i64 s.term, vs] 59 (0, 0))
  bel : Below w.heap.size w wr

theorem WithRel.next {S0 : Nat → Prop} {t s pt : Tree} {vs u vr : Value} {K : List Tree} {w wr w3 w4 : World} {i g cap4 : Nat} {xs : List Value} (h : WithRel S0 t s vs K w i vr wr) (hb : Below wr.heap.size wr w3) (htl : (K.take i).length = i)
    (ho : wr.ownsRow (w.heap.size + 1 + 1 + 1 + 1) 59 3 vr i xs) (hd : RdAll (fun k => (S0 k ∨ w.heap.size + 1 + 1 + 1 + 1 ≤ k) ∧ vr.ownBlock ≠ some k) wr ((K.take i).map Tree.d) xs) (hk : K.take (i + 1) = K.take i ++ [pt])
    (hr : Rd (fun k => (S0 k ∨ w.heap.size + 1 + 1 + 1 + 1 ≤ k) ∧ vr.ownBlock ≠ some k) w3 (.sl (pt.kids.map Tree.d)) [u])
    (ho4 : w4.ownsRow (w.heap.size + 1 + 1 + 1 + 1) 59 3 (.slice (some ⟨g, 0, none⟩) (i + 1) cap4) (i + 1) (xs ++ [.int .i64 pt.rule, .int .i64 pt.term, u])) (hg : w3.grownBy w4 vr.ownBlock) (hat : vr.ownBlock = some g ∨ w3.heap.size ≤ g) :
    w4.heap[w.heap.size + 1 + 1 + 1]? = some (.cells #[.int .i64 t.rule, .int .i64 t.term, vr] 59 (0, 0)) ∧ WithRel S0 t s vs K w (i + 1) (.slice (some ⟨g, 0, none⟩) (i + 1) cap4) (w4.setCell ⟨w.heap.size + 1 + 1 + 1, 2, none⟩ (.slice (some ⟨g, 0, none⟩) (i + 1) cap4)) := by
  have hst := RowRel.step (h.row.keep hb) htl (own_keep ho hb) (hd.below hb) hr ho4 hg hat
  have hle := h.row.le
  have hsz := hb.size
  have hother : ∀ k, k < w.heap.size + 1 + 1 + 1 + 1 → k < wr.heap.size → w4.heap[k]? = w3.heap[k]? := fun k hk hlt => hg.block k (by omega) (fun e => by have := (ho.lt k e.symm).1; omega)
  refine ⟨hst.1, ⟨by rw [hk]; exact hst.2, ?_, ?_, ?_⟩⟩
  · refine bx_other ?_ (by omega) _ _
    rw [hother _ (by omega) (by omega)]; exact bx_keep h.res hb
  · refine bx_other ?_ (by omega) _ _
    rw [hother _ (by omega) (by omega)]; exact bx_keep h.sub hb
  · exact ((h.bel.trans (hb.mono h.bel.size)).grown hg (by have := h.bel.size; omega) (fun k e => by have := (ho.lt k e).1; omega)).setCell (by simp; omega) _

/-- the rest of a path -/
theorem sl_tail {w : World} {a : Option Addr} {cap : Nat} {x : Int} {p : List Int} (h : Sl w (.slice a (x :: p).length cap) (ints (x :: p))) : Sl w (.slice (if cap = 1 then a else a.map fun y => y.add 1) p.length (cap - 1)) (ints p) := by
  have h1 := h.part (i := 1) (j := (x :: p).length) (by simp) (Nat.le_refl _)
  have e : ((ints (x :: p)).drop 1).take ((x :: p).length - 1) = ints p := by simp [ints, List.take_of_length_le]
  rw [e] at h1
  simpa using h1

set_option maxHeartbeats 2000000 in
set_option maxRecDepth 100000 in
theorem withE (S0 : Nat → Prop) : ∀ (p : List Int) (t : Tree) (v : Value) (ap : Option Addr) (cp : Nat) (s : Tree) (vs : Value) (w : World), (∀ k, S0 k → k < w.heap.size) → Rd S0 w (.sl (t.kids.map Tree.d)) [v] → Rd S0 w (.sl (s.kids.map Tree.d)) [vs] → Sl w (.slice ap p.length cp) (ints p) → t.size ≤ 1099511627776 →
    Calls Try.prog 37 #[.agg #[.int .i64 t.rule, .int .i64 t.term, v], .slice ap p.length cp, .agg #[.int .i64 s.rule, .int .i64 s.term, vs]] w (WithPost S0 (putT t p s) w) := by
  intro p
  induction p with
  | nil =>
    intro t v ap cp s vs w hS hv hs hp hsz
    obtain ⟨a, cap, rfl, -, -⟩ := hv.form
    obtain ⟨ax, cx, rfl, -, -⟩ := hs.form
    obtain ⟨n, HN⟩ := nameIt (t.kids.map Tree.d).length
    obtain ⟨m, HM⟩ := nameIt (s.kids.map Tree.d).length
    rw [HM.out] at hs
    rw [HN.out, HM.out]
    have HS := Lib.hid hs
    clear hv hs hp hS
    simp only [List.length_nil]
    go_enter Try.func37, Try.ntmps37
    go_wp2_with fail
    refine bodyPost_ret (v := .agg #[.int .i64 s.rule, .int .i64 s.term, .slice ax m cx]) (by simp [results, Try.results37, go_sem]) rfl ?_
    have hb : Below w.heap.size w (((w.alloc (.cells #[.int .i64 t.rule, .int .i64 t.term, .slice a n cap] 59)).alloc (.cells #[.int .i64 s.rule, .int .i64 s.term, .slice ax m cx] 59)).alloc (.cells #[.int .i64 s.rule, .int .i64 s.term, .slice ax m cx] 59)) := (((Below.refl _ _).alloc (Nat.le_refl _) _).alloc (by simp) _).alloc (by simp; omega) _
    exact ⟨_, rfl, (HS.out.below hb).mono (fun k hk _ => .inl hk), hb⟩
  | cons p0 p ih =>
    intro t v ap cp s vs w hS hv hs hp hsz
    obtain ⟨a, cap, rfl, hc1, hc2⟩ := hv.form
    obtain ⟨ax, cx, rfl, -, -⟩ := hs.form
    obtain ⟨m, HM⟩ := nameIt (s.kids.map Tree.d).length
    rw [HM.out] at hs
    rw [HM.out]
    have hlen : t.kids.length ≤ 1099511627776 := by have := sizeL_len t.kids; rw [Tree.size_eq] at hsz; omega
    have hpl := hp.len
    unfold maxLen at hpl
    obtain ⟨-, hp1, hp2⟩ := hpl
    have HV := Lib.hid hv
    have HS := Lib.hid hs
    have HP := Lib.hid hp
    have HSZ := Lib.hid hsz
    have IH := Lib.hid ih
    have HS0 := Lib.hid hS
    obtain ⟨K', HK'⟩ := nameIt (putK t p0 p s)
    have hkl : K'.length = t.kids.length := by rw [← HK'.out, putK_len]
    have HTK := Lib.hid (fun j h => putK_take (t := t) (i := p0) (p := p) (s := s) (j := j) h)
    rw [HK'.out] at HTK
    obtain ⟨r, HRr⟩ := nameIt t.rule
    obtain ⟨tm, HRt⟩ := nameIt t.term
    obtain ⟨K, HKN⟩ := nameIt t.kids
    rw [List.length_map, HKN.out] at hc1
    rw [HKN.out] at hlen hkl
    rw [List.length_map, HKN.out] at HV
    simp only [HKN.out] at HTK
    rw [HRr.out, HRt.out, List.length_map, HKN.out]
    have HKL := Lib.hid hkl
    unfold maxLen at hc2
    have hpl : 0 < (p0 :: p).length := by simp
    obtain ⟨bp, op, hap, hcp⟩ := hp.at hpl
    have hc0 := hcp 0 (by rw [ints_len]; exact hpl)
    rw [ints_get] at hc0
    simp only [List.getElem_cons_zero, Nat.add_zero] at hc0
    have hbp := lt_of_cell hc0
    have HC0 := Lib.hid hc0
    have HAP := Lib.hid hap
    obtain ⟨q, HQ⟩ := nameIt p.length
    have hpl1 : (p0 :: p).length = q + 1 := by rw [← HQ.out]; simp
    rw [hpl1] at HP hp1
    rw [hpl1]
    rw [HQ.out] at IH
    clear hpl1
    clear hv hs hp hsz ih hS hkl hpl hcp hc0 hap
    obtain ⟨w0, HW0⟩ := nameIt ((((w.alloc (.cells #[.int .i64 r, .int .i64 tm, .slice a K.length cap] 59)).alloc (.cells #[.int .i64 s.rule, .int .i64 s.term, .slice ax m cx] 59)).alloc (.cells #[.int .i64 0, .int .i64 0, .slice none 0 0] 59)).alloc (.cells #[.int .i64 r, .int .i64 tm, .slice none 0 0] 59))
    have HR0 : Hid (WithRel S0 t s (.slice ax m cx) K' w 0 (.slice none 0 0) w0) := by
      rw [← HW0.out]
      refine ⟨⟨?_, ⟨[], by simpa using World.ownsRow_nil _ _ _ _, by simp [RdAll]⟩, by omega, ?_, by simp⟩, ?_, ?_, ((((Below.refl _ _).alloc (Nat.le_refl _) _).alloc (by simp) _).alloc (by simp; omega) _).alloc (by simp; omega) _⟩
      · rw [HRr.out, HRt.out]; exact bx_new _ _ _ (by simp)
      · rintro (h | h)
        · have := HS0.out _ h; omega
        · omega
      · exact bx_keep (bx_new _ _ _ (by simp)) ((Below.refl _ _).alloc (Nat.le_refl _) _)
      · exact bx_keep (bx_keep (bx_new _ _ _ (by simp)) ((Below.refl _ _).alloc (Nat.le_refl _) _)) ((Below.refl _ _).alloc (Nat.le_refl _) _)
    go_enter Try.func37, Try.ntmps37
    go_wp2_with fail
    rw [HW0.out]
    go_loopg [22] K.length (fun gg v22 wr => ∃ (i : Nat) (vr : Value), i ≤ K.length ∧ K.length - i ≤ gg ∧ v22 = .int .i64 i ∧ Hid (WithRel S0 t s (.slice ax m cx) K' w i vr wr))
    case atStart => exact ⟨0, _, by omega, by omega, rfl, HR0⟩
    case round =>
      clear HR0 HW0
      obtain ⟨i, vr, hi, hg, rfl, HR⟩ := hrel
      by_cases hlt : i < K.length
      · have hlt' : (i : Int) < (K.length : Int) := by omega
        obtain ⟨b, off, v, hae, -, hbl, e0, e1, e2, hkid⟩ := (HV.out.below HR.out.bel).kid hlt
        obtain ⟨av, cv, rfl, -, -⟩ := hkid.form
        obtain ⟨nv, HNV⟩ := nameIt (K[i].kids.map Tree.d).length
        rw [HNV.out] at e2 hkid
        have hms : K[i].size ≤ 1099511627776 := by
          have h1 := HSZ.out
          rw [Tree.size_eq, HKN.out] at h1
          have := sizeL_get hlt
          omega
        have HT1 := Lib.hid (HTK.out i hlt)
        obtain ⟨kid, HKI⟩ := nameIt (K[i]'hlt)
        rw [HKI.out] at e0 e1 hkid hms HT1
        have hih := fun W (hb : Below wr.heap.size wr W) ap' cp' (hp' : Sl W (.slice ap' q cp') (ints p)) => IH.out kid _ ap' cp' s _ W (fun k hk => by have := HS0.out k hk; have := HR.out.bel.size; have := hb.size; omega) (hkid.below hb) ((HS.out.below HR.out.bel).below hb) hp' hms
        obtain ⟨q0, HQ0⟩ := nameIt kid.rule
        obtain ⟨q1, HQ1⟩ := nameIt kid.term
        rw [HQ0.out] at e0 hih
        rw [HQ1.out] at e1 hih
        have HIH := Lib.hid hih
        have HKID := Lib.hid hkid
        have htl : (K'.take i).length = i := by have := HKL.out; simp; omega
        obtain ⟨ar, cr, hvr, hr1, hr2⟩ := HR.out.row.len
        rw [htl] at hvr hr1
        subst hvr
        obtain ⟨xs, ho, hd⟩ := HR.out.row.own
        rw [htl] at ho
        have hout := HR.out.row.out
        rw [HRr.out, HRt.out] at hout
        have hsz := HR.out.row.le
        have hszr : w.heap.size + 1 + 1 + 1 < wr.heap.size := by omega
        have hszs : w.heap.size + 1 < wr.heap.size := by omega
        have HO := Lib.hid ho
        have HD := Lib.hid hd
        have HTL := Lib.hid htl
        have hp0 := (HR.out.bel.cell (p := ⟨bp, op, none⟩) hbp).trans HC0.out
        have hbpw : bp < wr.heap.size := lt_of_cell hp0
        subst hae
        have hap := HAP.out
        subst hap
        clear hih hkid hms ho hd htl
        obtain ⟨W9, HW9⟩ := nameIt (wr.alloc (.cells #[.int .i64 q0, .int .i64 q1, .slice av nv cv] 59))
        have HB9 : Hid (Below wr.heap.size wr W9) := by rw [← HW9.out]; exact (Below.refl _ _).alloc (Nat.le_refl _) _
        have HX9 : Hid (W9.heap[wr.heap.size]? = some (.cells #[.int .i64 q0, .int .i64 q1, .slice av nv cv] 59 (0, 0))) := by rw [← HW9.out]; exact bx_new _ _ _ rfl
        obtain ⟨n0, n1, n2⟩ := bx_cells3 HX9.out
        obtain ⟨s0, s1, s2⟩ := bx_cells3 (bx_keep HR.out.sub HB9.out)
        obtain ⟨z0, z1, z2⟩ := bx_cells3 (bx_keep hout HB9.out)
        obtain ⟨zf0, zf1, zf2⟩ := bx_free3 (bx_keep hout HB9.out)
        have hp0 := (HB9.out.cell (p := ⟨bp, op, none⟩) hbpw).trans hp0
        clear hout
        by_cases heq : (i : Int) = p0
        · rw [if_pos heq] at HT1
          have heqb : ((i : Int) == p0) = true := by simpa using heq
          clear heq
          have hcp1 : (1 : Int) ≤ (cp : Int) := by omega
          have hcp2 : (1 : Int) ≤ (q : Int) + 1 := by omega
          have hcp3 : (q : Int) + 1 ≤ (cp : Int) := by omega
          have hcp4 : (0 : Int) ≤ (q : Int) := by omega
          obtain ⟨vp, HVP, HSL⟩ : ∃ vp, Hid (vp = Value.slice (if cp = 1 then some ⟨bp, op, none⟩ else some ⟨bp, op + 1, none⟩) q (cp - 1)) ∧ Hid (Sl W9.drew vp (ints p)) := by
            refine ⟨_, rfl, ?_⟩
            have h := HP.out
            have h2 := (sl_tail (by have h3 := h; rw [← HQ.out] at h3; exact h3)).keep ((HR.out.bel.trans (HB9.out.mono HR.out.bel.size)).drew)
            rw [HQ.out] at h2
            show Sl _ _ _
            simpa [add_at] using h2
          obtain ⟨pt, HPT⟩ := nameIt (putT kid p s)
          rw [HPT.out] at HT1 HIH
          have hne1 : ¬ wr.heap.size = w.heap.size + 1 + 1 + 1 := by omega
          have hne2 : ¬ w.heap.size + 1 + 1 + 1 = wr.heap.size := by omega
          by_cases hct : cp = 1
          all_goals
            first | (rw [if_pos hct] at HVP; subst hct; obtain rfl : q = 0 := (by omega)) | rw [if_neg hct] at HVP
            go_upto_region 7 with fail
            rw [HW9.out]
            go_upto_region 8 with fail
            refine wp_region_still_tail 4 (by kernel_rfl) (by kernel_rfl) ?_
            simp only [List.take_succ_cons, List.take_zero, List.drop_succ_cons, List.drop_zero]
            change wpStill _ _ (World.drew _) _ _ _
            repeat still_step
            refine wpStill_nil ?_
            change wpList _ _ _ _ _ (World.drew _)
            go_wp2_with fail
            refine (HIH.out _ HB9.out.drew _ _ (by have h := HSL.out; rw [HVP.out] at h; simpa using h)).mono ?_
            rintro e w2 ⟨v2, rfl, hr2, hb2⟩
            obtain ⟨a2, c2, rfl, -, -⟩ := hr2.form
            obtain ⟨u2, HU2⟩ := nameIt (pt.kids.map Tree.d).length
            obtain ⟨r2, HR2n⟩ := nameIt pt.rule
            obtain ⟨t2, HT2n⟩ := nameIt pt.term
            rw [HU2.out] at hr2
            rw [HU2.out, HR2n.out, HT2n.out]
            have hx9 := bx_keep (w := W9.drew) HX9.out hb2
            obtain ⟨m0, m1, m2⟩ := bx_cells3 hx9
            obtain ⟨mf0, mf1, mf2⟩ := bx_free3 hx9
            have hbw : Below wr.heap.size wr w2 := HB9.out.drew.trans (hb2.mono HB9.out.size)
            have hlt9 := (Array.getElem?_eq_some_iff.1 hx9).1
            have hltz : w.heap.size + 1 + 1 + 1 < w2.heap.size := by omega
            obtain ⟨z0, z1, z2⟩ := bx_cells3 (bx_keep HR.out.row.out hbw)
            obtain ⟨zf0, zf1, zf2⟩ := bx_free3 (bx_keep HR.out.row.out hbw)
            obtain ⟨w3, HW3⟩ := nameIt (((w2.setCell ⟨wr.heap.size, 0, none⟩ (.int .i64 r2)).setCell ⟨wr.heap.size, 1, none⟩ (.int .i64 t2)).setCell ⟨wr.heap.size, 2, none⟩ (.slice a2 u2 c2))
            have HB3 : Hid (Below wr.heap.size wr w3) := by rw [← HW3.out]; exact below_box3 hbw (Nat.le_refl _) _ _ _
            have HRD : Hid (Rd (fun k => (S0 k ∨ w.heap.size + 1 + 1 + 1 + 1 ≤ k) ∧ (Value.slice ar i cr).ownBlock ≠ some k) w3 (.sl (pt.kids.map Tree.d)) [.slice a2 u2 c2]) := by
              rw [← HW3.out]
              have hsz9 := HB9.out.size
              have h9 : W9.drew.heap.size = wr.heap.size + 1 := by rw [← HW9.out]; simp
              refine (hr2.box3 (b := wr.heap.size) ?_ _ _ _).mono (fun k hk _ => ⟨?_, fun e => ?_⟩)
              · rintro (h | h)
                · have := HS0.out _ h; omega
                · omega
              · rcases hk with h | h
                · exact .inl h
                · exact .inr (by omega)
              · have h1 := HO.out.lt k e
                rcases hk with h | h
                · have := HS0.out _ h; omega
                · omega
            have HO3 := Lib.hid (own_keep HO.out HB3.out)
            have hx3 : w3.heap[wr.heap.size]? = some (.cells #[.int .i64 r2, .int .i64 t2, .slice a2 u2 c2] 59 (0, 0)) := by rw [← HW3.out]; exact bx_set3 hx9 _ _ _
            have hsz3 := HB3.out.size
            clear hr2 hb2 hbw z0 z1 z2 zf0 zf1 zf2
            go_upto_region 9 with fail
            rw [HW3.out]
            clear m0 m1 m2 mf0 mf1 mf2 hx9
            obtain ⟨m0, m1, m2⟩ := bx_cells3 hx3
            obtain ⟨z0, z1, z2⟩ := bx_cells3 (bx_keep HR.out.row.out HB3.out)
            clear hx3
            go_wp2_with (at_builtin; refine wp_app1at elTree rfl _ _ rfl HO3.out rfl rfl (by simp) rfl rfl (by omega) (by unfold maxLen; omega) (by omega) ?_)
            intro v' w4 ho4 hg4 hat4
            obtain ⟨g, cap4, rfl, hat, -, -, hgB, hglt⟩ := own_at ho4 hat4
            obtain ⟨hx4, hR4⟩ := WithRel.next HR.out HB3.out HTL.out HO.out HD.out HT1.out HRD.out (by rw [HR2n.out, HT2n.out]; exact ho4) hg4 hat
            obtain ⟨z0, z1, z2⟩ := bx_cells3 hx4
            obtain ⟨zf0, zf1, zf2⟩ := bx_free3 hx4
            have HR4 := Lib.hid hR4
            have hlt4 : w.heap.size + 1 + 1 + 1 < w4.heap.size := (Array.getElem?_eq_some_iff.1 hx4).1
            clear ho4 hg4 hat4 hat hx4 hR4 m0 m1 m2
            go_wp2_with fail
            go_roundg (K.length - (i + 1))
            case measure => omega
            case rel => exact ⟨i + 1, _, by omega, by omega, by go_num, HR4⟩
        · rw [if_neg heq] at HT1
          have heqb : ((i : Int) == p0) = false := by simpa using heq
          clear heq
          have hne1 : ¬ wr.heap.size = w.heap.size + 1 + 1 + 1 := by omega
          have hne2 : ¬ w.heap.size + 1 + 1 + 1 = wr.heap.size := by omega
          have HRD : Hid (Rd (fun k => (S0 k ∨ w.heap.size + 1 + 1 + 1 + 1 ≤ k) ∧ (Value.slice ar i cr).ownBlock ≠ some k) W9 (.sl (kid.kids.map Tree.d)) [.slice av nv cv]) := by
            refine (HKID.out.below HB9.out).mono (fun k hk _ => ⟨.inl hk, fun e => ?_⟩)
            have h1 := HO.out.lt k e
            have := HS0.out _ hk; omega
          have HO3 := Lib.hid (own_keep HO.out HB9.out)
          have hsz3 := HB9.out.size
          go_upto_region 7 with fail
          rw [HW9.out]
          go_wp2_with (at_builtin; refine wp_app1at elTree rfl _ _ rfl HO3.out rfl rfl (by simp) rfl rfl (by omega) (by unfold maxLen; omega) (by omega) ?_)
          intro v' w4 ho4 hg4 hat4
          obtain ⟨g, cap4, rfl, hat, -, -, hgB, hglt⟩ := own_at ho4 hat4
          obtain ⟨hx4, hR4⟩ := WithRel.next HR.out HB9.out HTL.out HO.out HD.out HT1.out HRD.out (by rw [HQ0.out, HQ1.out]; exact ho4) hg4 hat
          obtain ⟨z0, z1, z2⟩ := bx_cells3 hx4
          obtain ⟨zf0, zf1, zf2⟩ := bx_free3 hx4
          have HR4 := Lib.hid hR4
          have hlt4 : w.heap.size + 1 + 1 + 1 < w4.heap.size := (Array.getElem?_eq_some_iff.1 hx4).1
          clear ho4 hg4 hat4 hat hx4 hR4
          go_wp2_with fail
          go_roundg (K.length - (i + 1))
          case measure => omega
          case rel => exact ⟨i + 1, _, by omega, by omega, by go_num, HR4⟩
      · have hlt' : ¬ (i : Int) < (K.length : Int) := by omega
        have hout := HR.out.row.out
        rw [HRr.out, HRt.out] at hout
        have htk : K'.take i = K' := List.take_of_length_le (by have := HKL.out; omega)
        obtain ⟨ar, cr, hvr, hr1, hr2⟩ := HR.out.row.len
        rw [htk] at hvr hr1
        subst hvr
        obtain ⟨xs, ho, hd⟩ := HR.out.row.own
        rw [htk] at ho hd
        obtain ⟨z0, z1, z2⟩ := bx_cells3 hout
        obtain ⟨y0, y1, y2⟩ := bx_cells3 HR.out.res
        obtain ⟨f0, f1, f2⟩ := bx_free3 HR.out.res
        have hsz := HR.out.row.le
        have hszr : w.heap.size + 1 + 1 + 1 < wr.heap.size := by omega
        have HO := Lib.hid ho
        have HD := Lib.hid hd
        clear hout ho hd htk
        go_wp2_with fail
        refine bodyPost_ret (v := .agg #[.int .i64 r, .int .i64 tm, .slice ar K'.length cr]) (by simp [results, Try.results37, go_sem, y0, y1, y2]) rfl ?_
        rw [putT_cons, HRr.out, HRt.out, HK'.out]
        refine ⟨_, rfl, ?_, by simpa using below_box3 HR.out.bel (b := w.heap.size + 1 + 1) (by omega) (.int .i64 r) (.int .i64 tm) (.slice ar K'.length cr)⟩
        have hb := grown_box3 (w.heap.size + 1 + 1) wr (.int .i64 r) (.int .i64 tm) (.slice ar K'.length cr)
        refine rd_of_own (HO.out.kept hb (.inr fun e => by have := (HO.out.lt _ e).1; omega)) (RdAll.keep (fun k hk hlt => ⟨?_, hb.block k hlt ?_⟩) _ _ HD.out) (by simp [Tree.kids]) (fun k e => by have := (HO.out.lt _ e).1; exact .inr (by omega))
        · rcases hk.1 with h | h
          · exact .inl h
          · exact .inr (by omega)
        · intro e
          cases e
          rcases hk.1 with h | h
          · have := HS0.out _ h; omega
          · omega
end Go.Proofs.Ytfbacnifankfkaa
