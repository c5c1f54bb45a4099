/- DocFault. -/
import Derived.Test.YtgpikophndbmeaaDocPred
import Derived.Test.YtgpikophndbmeaaDocCheck
import Derived.Test.YtgpikophndbmeaaKMap
namespace Go.Proofs.Ytgpikophndbmeaa
open Go.RowKit
namespace Dc
open Km

theorem intKd : Go.Maps.Keyed Try.prog 3 := Go.Maps.int_keyed Try.underlying3
theorem keyId {v : Int} (h : 0 ≤ v ∧ v ≤ 1000) : keyOf Try.prog 3 (.int .i64 v) = some (.int .i64 v) := Go.Maps.keyOf_int_mk Try.underlying3 (by simp [Lit.wf, IntKind.min, IntKind.max, IntKind.signed, IntKind.bits]; omega)
theorem KMap.none0 {t : TypeId} {b c : Nat} {F : Lit → Option Lit} {w : World} (h : KMap 3 3 b F c w) (ht : Try.prog.underlying t = some (.map 3 3)) {key : Value} {l : Lit} (hkey : keyOf Try.prog 3 key = some l) (hx : F l = none) :
    (Instr.lookup t (.map (some b)) key false).run Try.prog w = .ok (.int .i64 0) w := by
  obtain ⟨D, h1, h2, h3, h4⟩ := h
  obtain ⟨v', ps', hrun', hv'⟩ := h1.lookup intKd ht (zInt w) (plainElem_int Try.underlying3 (by decide)) hkey
  obtain ⟨n', rfl, hn', _⟩ := plainElem_int_inv Try.underlying3 hv'
  have hh : Maps.has D l = false := by rw [h3, hx]; rfl
  rw [Maps.atKey_of_not_has hh] at hn'
  simp at hn'
  rw [← hn'.1] at hrun'
  exact hrun'
/-- how many parts a node of a kind has -/
def manyK (k : Int) (n : Nat) : Nat := if k = 4 then n else if k = 5 ∨ k = 6 then 1 else 0
theorem args_many (t : Doc) : argsB t = ((t.kids.length : Int) == ((manyK t.kind t.kids.length : Nat) : Int)) := by
  unfold argsB manyK
  by_cases h4 : t.kind = 4
  · rw [if_pos h4, if_pos h4]; simp
  · rw [if_neg h4, if_neg h4]
    by_cases h5 : t.kind = 5 ∨ t.kind = 6
    · rw [if_pos h5, if_pos h5]
      by_cases h : t.kids.length = 1
      · simp [h]
      · rw [decide_eq_false h]; simp; omega
    · rw [if_neg h5, if_neg h5]
      by_cases h : t.kids.length = 0
      · simp [h]
      · rw [decide_eq_false h]
        symm
        simpa using h
/-- the map of the kinds, filled -/
theorem many_map {w0 : World} {b : Nat} (hb : b = w0.heap.size) {n : Nat} (hn : n ≤ 9223372036854775807) :
    ∃ w1 w2 w3, (Instr.mapUpdate 39 (.map (some b)) (.int .i64 5) (.int .i64 1)).run Try.prog (w0.alloc (.map #[] 0)) = .ok () w1 ∧ (Instr.mapUpdate 39 (.map (some b)) (.int .i64 6) (.int .i64 1)).run Try.prog w1 = .ok () w2 ∧
      (Instr.mapUpdate 39 (.map (some b)) (.int .i64 4) (.int .i64 n)).run Try.prog w2 = .ok () w3 ∧ Below w0.heap.size w0 w1 ∧ Below w0.heap.size w0 w2 ∧ Below w0.heap.size w0 w3 ∧ b < w3.heap.size ∧
      ∀ W, Below w3.heap.size w3 W → ∀ k : Int, 0 ≤ k → k ≤ 6 → (Instr.lookup 39 (.map (some b)) (.int .i64 k) false).run Try.prog W = .ok (.int .i64 (manyK k n : Nat)) W := by
  have k0 : KMap 3 3 b (fun _ => none) 0 (w0.alloc (.map #[] 0)) := KMap.start w0 hb
  have z1 : plainElem (H := Unit) Try.prog 3 (.int .i64 1) = some (.lit (.int .i64 1), []) := velInt (by decide)
  have z2 : plainElem (H := Unit) Try.prog 3 (.int .i64 n) = some (.lit (.int .i64 n), []) := velInt (by simp [Lit.wf, IntKind.min, IntKind.max, IntKind.signed, IntKind.bits]; omega)
  obtain ⟨w1, r1, k1, g1⟩ := k0.store intKd Try.underlying39 (by decide) (keyId (v := 5) (by omega)) z1
  obtain ⟨w2, r2, k2, g2⟩ := k1.store intKd Try.underlying39 (by unfold maxLen; simp) (keyId (v := 6) (by omega)) z1
  have e2 : put (fun _ => none) (.int .i64 5) (.int .i64 1) (.int .i64 6) = none := by rw [put_other _ _ (by simp)]
  have k2' := k2
  rw [e2] at k2'
  obtain ⟨w3, r3, k3, g3⟩ := k2'.store intKd Try.underlying39 (by unfold maxLen; simp) (keyId (v := 4) (by omega)) z2
  have hb0 : Below w0.heap.size w0 (w0.alloc (.map #[] 0)) := (Below.refl _ _).alloc (Nat.le_refl _) _
  have hb1 := hb0.grown g1 hb0.size (fun k e => by cases e; omega)
  have hb2 := hb1.grown g2 hb1.size (fun k e => by cases e; omega)
  have hb3 := hb2.grown g3 hb2.size (fun k e => by cases e; omega)
  refine ⟨w1, w2, w3, r1, r2, r3, hb1, hb2, hb3, k3.lt, fun W hW k h0 h6 => ?_⟩
  have kk := k3.keep hW
  have hkey := keyId (v := k) (by omega)
  unfold manyK
  by_cases h4 : k = 4
  · subst h4
    rw [if_pos rfl]
    exact ((kk.look intKd Try.underlying39 hkey).1 _ (put_same _ _ _)).2
  · rw [if_neg h4]
    have n4 : (Lit.int .i64 k) ≠ .int .i64 4 := by simpa using h4
    by_cases h5 : k = 5
    · subst h5
      rw [if_pos (.inl rfl)]
      exact ((kk.look intKd Try.underlying39 hkey).1 1 (by rw [put_other _ _ n4, put_other _ _ (by simp), put_same])).2
    · have n5 : (Lit.int .i64 k) ≠ .int .i64 5 := by simpa using h5
      by_cases h7 : k = 6
      · subst h7
        rw [if_pos (.inr rfl)]
        exact ((kk.look intKd Try.underlying39 hkey).1 1 (by rw [put_other _ _ n4, put_same])).2
      · have n6 : (Lit.int .i64 k) ≠ .int .i64 6 := by simpa using h7
        rw [if_neg (by omega)]
        exact KMap.none0 kk Try.underlying39 hkey (by rw [put_other _ _ n4, put_other _ _ n6, put_other _ _ n5])

/-- the bytes of a text, converted -/
theorem conv_cell (w : World) (s : ByteArray) (e : TypeId) (cap : Nat) (o : Nat × Nat) : ∀ j (h : j < s.data.toList.length), (w.drew.alloc (.cells (bytesRow s cap) e o)).cell? ⟨w.heap.size, j, none⟩ = some (.int .u8 s.data.toList[j].toNat) := by
  intro j h
  have h' : j < s.data.size := by simpa using h
  have hh : (w.drew.alloc (.cells (bytesRow s cap) e o)).heap[w.heap.size]? = some (.cells (bytesRow s cap) e o) := by
    show (w.heap.push (.cells (bytesRow s cap) e o))[w.heap.size]? = _
    simp
  have h2 := bytesRow_at s cap j h'
  simp only [World.cell?, hh]
  rw [h2]
  simp
set_option maxHeartbeats 4000000 in
set_option maxRecDepth 100000 in
theorem docFaultE (t : Doc) (v : Value) (w : World) (hv : Rd AnyB w (.sl (t.kids.map Doc.d)) [v]) (hN : (nodes t).length ≤ 2000000) (hT : ∀ x ∈ nodes t, x.txt.size ≤ 100000000) :
    Calls Try.prog 6 #[.agg #[.int .i64 t.kind, .string t.txt, .int .i64 t.n, v]] w fun e w' => e = .returned (.int .i64 (docErr t)) ∧ Below w.heap.size w w' := by
  obtain ⟨a, cap, rfl, -, -⟩ := hv.form
  obtain ⟨w1, HW1⟩ := nameIt (w.alloc (.cells #[.int .i64 t.kind, .string t.txt, .int .i64 t.n, .slice a (t.kids.map Doc.d).length cap] 24))
  have hb1 : Below w.heap.size w w1 := by rw [← HW1.out]; exact (Below.refl _ _).alloc (Nat.le_refl _) _
  have hx1 : w1.heap[w.heap.size]? = some (.cells #[.int .i64 t.kind, .string t.txt, .int .i64 t.n, .slice a (t.kids.map Doc.d).length cap] 24 (0, 0)) := by rw [← HW1.out]; exact bx_new _ _ _ rfl
  have HB1 := Lib.hid hb1
  have HD := Lib.hid (docsE (fun k => k < w1.heap.size) (nodes t).length t _ w1 (Nat.le_refl _) (fun _ h => h) ((hv.below hb1).mono fun k _ h => h) hN)
  obtain ⟨PST, HP⟩ := nameIt (fun (e : Ending) (w' : World) => e = .returned (.int .i64 (docErr t)) ∧ Below w.heap.size w w')
  have HFIN : Hid (∀ w', Below w.heap.size w w' → PST (.returned (.int .i64 (docErr t))) w') := fun w' h2 => by rw [← HP.out]; exact ⟨rfl, h2⟩
  rw [HP.out]
  have hde : docErr t = if 400 < (nodes t).length then 2 else if (nodes t).all okD then 0 else 3 := rfl
  rw [hde] at HFIN
  have hnl0 : ((nodes t).map Doc.d).length = (nodes t).length := List.length_map _
  obtain ⟨LL, HLL⟩ := nameIt (nodes t)
  have HTT : Hid (∀ x ∈ LL, x.txt.size ≤ 100000000) := by rw [← HLL.out]; exact hT
  rw [HLL.out] at HFIN HD hnl0
  rw [HLL.out] at hN
  obtain ⟨x0, x1, x2, x3⟩ := bx_cells4d hx1
  obtain ⟨q0, HQ0⟩ := nameIt t.kind
  obtain ⟨q1, HQ1⟩ := nameIt t.txt
  obtain ⟨q2, HQ2⟩ := nameIt t.n
  obtain ⟨nk, HNK⟩ := nameIt (t.kids.map Doc.d).length
  rw [HQ0.out, HQ1.out, HQ2.out, HNK.out] at HW1 HD
  rw [HQ0.out] at x0
  rw [HQ1.out] at x1
  rw [HQ2.out] at x2
  rw [HNK.out] at x3
  rw [HQ0.out, HQ1.out, HQ2.out, HNK.out]
  have hcv : ∀ (w : World) (s : ByteArray), (convert 9 41 (.string s)).run Try.prog w = _ := fun w s => run_bytes_of_string (P := Try.prog) w 9 41 5 s Try.underlying9 Try.underlying41 Try.underlying5
  have hmk : ∀ W : World, (Instr.makeMap 39 none).run Try.prog W = .ok (.map (some W.heap.size)) (W.alloc (.map #[] 0)) := fun W => by
    simp [Instr.makeMap, run_underlying Try.underlying39]; try rfl
  clear hv hb1 hx1 hT hde
  go_enter Try.func6, Try.ntmps6
  go_upto_region 1 with fail
  rw [HW1.out]
  go_wp2_with fail
  refine HD.out.mono ?_
  rintro e w2 ⟨v2, rfl, hr2, hb2⟩
  have HB2 := Lib.hid (HB1.out.trans (hb2.mono HB1.out.size))
  have hr2' := hr2.any
  obtain ⟨a2, c2, rfl, hca, hcb⟩ := hr2'.form
  obtain ⟨nl, HNL⟩ := nameIt (LL.map Doc.d).length
  have HNL2 : Hid (LL.length = nl) := by show _ = _; rw [← HNL.out, List.length_map]
  rw [HNL.out] at hr2' hca ⊢
  rw [HNL2.out] at HFIN hN
  have HRL := Lib.hid hr2'
  unfold maxLen at hcb
  clear hr2 hr2' hb2 x0 x1 x2 x3 HD hnl0
  by_cases h4 : 400 < nl
  · have h4' : (400 : Int) < (nl : Int) := by omega
    rw [if_pos h4] at HFIN
    have HE := Lib.hid (HFIN.out w2 HB2.out)
    clear HFIN hmk hcv
    go_wp2_with fail
    exact HE.out
  · have h4' : ¬ (400 : Int) < (nl : Int) := by omega
    rw [if_neg h4] at HFIN
    have HA0 : Hid ((LL.take 0).all okD = true) := rfl
    go_wp2_with fail
    go_loopg [15] nl (fun gg v15 wr => ∃ i : Nat, i ≤ nl ∧ nl - i ≤ gg ∧ v15 = .int .i64 i ∧ Hid (Below w2.heap.size w2 wr) ∧ Hid ((LL.take i).all okD = true))
    case atStart => exact ⟨0, by omega, by omega, rfl, Below.refl _ _, HA0⟩
    case round =>
      clear HA0
      obtain ⟨i, hi, hg, rfl, HB, HA⟩ := hrel
      obtain ⟨wo, rfl⟩ : ∃ ww : World, ww = wr := ⟨_, rfl⟩
      by_cases hlt : i < nl
      · have hlt' : (i : Int) < (nl : Int) := by omega
        have hik : i < LL.length := by rw [HNL2.out]; exact hlt
        obtain ⟨b, off, v, hae, -, hbl, c0, c1, c2, c3, hkid⟩ := Rd.kid (HRL.out.below HB.out) hik
        obtain ⟨av, cv, rfl, hv1, hv2⟩ := hkid.form
        unfold maxLen at hv2
        have HFL : Hid (okD LL[i] = false → PST (.returned (.int .i64 3)) = PST (.returned (.int .i64 (if LL.all okD then 0 else 3)))) := by
          intro h
          have : LL.all okD = false := by
            rw [List.all_eq_false]
            exact ⟨LL[i], List.getElem_mem hik, by simp [h]⟩
          rw [this]; rfl
        have HTK : Hid (okD LL[i] = true → (LL.take (i + 1)).all okD = true) := by
          intro h
          rw [List.take_succ_eq_append_getElem hik, List.all_append, HA.out]
          simp [h]
        have htx := HTT.out LL[i] (List.getElem_mem hik)
        obtain ⟨x, HX⟩ := nameIt (LL[i]'hik)
        rw [HX.out] at c0 c1 c2 c3 hkid HFL HTK htx hv1
        have HOKD : Hid (okD x = (decide (0 ≤ x.kind) && decide (x.kind ≤ 6) && argsB x && textB x && indB x)) := rfl
        have HAM := Lib.hid (args_many x)
        have HTB : Hid (textB x = if x.kind = 0 then decide (x.txt.size ≤ 60) && prB x.txt else decide (x.txt = ⟨#[]⟩)) := rfl
        have HIB : Hid (indB x = if x.kind = 5 then decide (0 ≤ x.n) && decide (x.n ≤ 20) else decide (x.n = 0)) := rfl
        obtain ⟨nv, HNV⟩ := nameIt (x.kids.map Doc.d).length
        have hkl : x.kids.length = nv := by rw [← HNV.out, List.length_map]
        rw [hkl] at HAM
        rw [HNV.out] at c3 hv1
        obtain ⟨AB, HAB⟩ := nameIt (argsB x)
        obtain ⟨TB, HTB2⟩ := nameIt (textB x)
        obtain ⟨IB, HIB2⟩ := nameIt (indB x)
        rw [HAB.out] at HOKD HAM
        rw [HTB2.out] at HOKD HTB
        rw [HIB2.out] at HOKD HIB
        obtain ⟨OKX, HOKX⟩ := nameIt (okD x)
        rw [HOKX.out] at HOKD HFL HTK
        obtain ⟨q0, HQ0⟩ := nameIt x.kind
        rw [HQ0.out] at c0 HOKD HAM HTB HIB
        obtain ⟨q1, HQ1⟩ := nameIt x.txt
        rw [HQ1.out] at c1 HTB htx
        obtain ⟨q2, HQ2⟩ := nameIt x.n
        rw [HQ2.out] at c2 HIB
        clear hkid hkl
        -- the worlds
        obtain ⟨w3, HW3⟩ := nameIt (wo.alloc (.cells #[.int .i64 q0, .string q1, .int .i64 q2, .slice av nv cv] 24))
        have hb3 : Below wo.heap.size wo w3 := by rw [← HW3.out]; exact (Below.refl _ _).alloc (Nat.le_refl _) _
        have hs3 : w3.heap.size = wo.heap.size + 1 := by rw [← HW3.out]; simp
        have hx3 : w3.heap[wo.heap.size]? = some (.cells #[.int .i64 q0, .string q1, .int .i64 q2, .slice av nv cv] 24 (0, 0)) := by rw [← HW3.out]; exact bx_new _ _ _ rfl
        obtain ⟨w4, w5, w6, r4, r5, r6, hb4, hb5, hb6, hml, hlook⟩ := many_map (w0 := w3) (b := wo.heap.size + 1) hs3.symm (n := nv) (by omega)
        have HLK := Lib.hid hlook
        obtain ⟨_, _, _, y3⟩ := bx_cells4d (bx_keep hx3 hb5)
        have HX6 := Lib.hid (bx_keep hx3 hb6)
        obtain ⟨z0, z1, z2, z3⟩ := bx_cells4d HX6.out
        have HB6 := Lib.hid (hb3.trans (hb6.mono hb3.size))
        have hlx : wo.heap.size < w6.heap.size := by have := hb6.size; omega
        subst hae
        clear hlook hb4 hb5 hb6 hb3 hx3
        go_upto_region 7 with fail
        rw [HW3.out]
        go_upto_region 8 with fail
        obtain ⟨cp, HCP⟩ := nameIt (grownCap w6 q1.size 0 5)
        obtain ⟨o8, HO8⟩ : ∃ o : Nat × Nat, Hid (((bytesRow q1 cp).size, (bytesRow q1 cp).size + 1) = o) := ⟨_, rfl⟩
        obtain ⟨w8, HW8⟩ := nameIt (w6.drew.alloc (.cells (bytesRow q1 cp) 5 o8))
        have hcv6 : (convert 9 41 (.string q1)).run Try.prog w6 = .ok (.slice (some ⟨w6.heap.size, 0, none⟩) q1.size cp) w8 := by
          rw [hcv, HCP.out, HO8.out, HW8.out]
        have hb8 : Below w6.heap.size w6 w8 := by rw [← HW8.out]; exact ((Below.refl _ _).drew).alloc (by simp) _
        have HCB := Lib.hid (containsFuncByte w6.heap.size cp q1.data.toList q1.size w8 (by simp) (by omega) (by rw [← HW8.out]; exact conv_cell w6 q1 _ _ _))
        rw [any_badB] at HCB
        obtain ⟨pr, HPR⟩ := nameIt (prB q1)
        rw [HPR.out] at HCB HTB
        have HB8 := Lib.hid hb8
        clear hcv hb8
        go_wp2_with fail
        refine HCB.out.mono ?_
        rintro e w9 ⟨rfl, hb9⟩
        have HB9 := Lib.hid (HB8.out.trans (hb9.mono HB8.out.size))
        have HBE := Lib.hid ((HB.out.trans (HB6.out.mono HB.out.size)).trans (HB9.out.mono (Nat.le_trans HB.out.size HB6.out.size)))
        clear z0 z1 z2 z3 hb9 c0 c1 c2 c3 r4 r5 r6 y3
        obtain ⟨z0, z1, z2, z3⟩ := bx_cells4d (bx_keep HX6.out HB9.out)
        have hbz := HBE.out
        have HE3 : Hid (OKX = false → PST (.returned (.int .i64 3)) w9) := by
          intro h
          rw [HFL.out h]
          exact HFIN.out w9 (HB2.out.trans (hbz.mono HB2.out.size))
        clear hbz
        have hnot : (! ! pr) = pr := Bool.not_not pr
        by_cases hk0 : q0 < 0
        · have HE := Lib.hid (HE3.out (by rw [HOKD.out, decide_eq_false (by omega)]; simp))
          clear HE3
          go_wp2_with fail
          exact HE.out
        · by_cases hk6 : 6 < q0
          · have HE := Lib.hid (HE3.out (by rw [HOKD.out, decide_eq_false (p := q0 ≤ 6) (by omega)]; simp))
            clear HE3
            go_wp2_with fail
            exact HE.out
          · have hlk := HLK.out w9 HB9.out q0 (by omega) (by omega)
            obtain ⟨mk, HMK⟩ := nameIt (manyK q0 nv)
            rw [HMK.out] at hlk HAM
            rw [decide_eq_true (p := 0 ≤ q0) (by omega), decide_eq_true (p := q0 ≤ 6) (by omega), Bool.true_and, Bool.true_and] at HOKD
            cases AB with
            | false =>
              have HE := Lib.hid (HE3.out (by rw [HOKD.out]; simp))
              have hne : ((nv : Int) != (mk : Int)) = true := by unfold bne; rw [← HAM.out]; rfl
              clear HE3
              go_wp2_with fail
              exact HE.out
            | true =>
              have hne : ((nv : Int) != (mk : Int)) = false := by unfold bne; rw [← HAM.out]; rfl
              rw [Bool.true_and] at HOKD
              go_upto_region 12 with fail
              clear hlk hne
              by_cases k0 : q0 = 0
              · have htb := HTB.out
                rw [if_pos k0] at htb
                have hib := HIB.out
                rw [if_neg (by omega)] at hib
                subst k0
                by_cases hs : q1.size ≤ 60
                · have hs' : ¬ (60 : Int) < (q1.size : Int) := by omega
                  rw [decide_eq_true hs, Bool.true_and] at htb
                  subst htb
                  cases TB with
                  | false =>
                    have HE := Lib.hid (HE3.out (by rw [HOKD.out]; simp))
                    clear HE3
                    go_wp2_with fail
                    exact HE.out
                  | true =>
                    rw [Bool.true_and] at HOKD
                    by_cases hn : q2 = 0
                    · have HAI := Lib.hid (HTK.out (by rw [HOKD.out, hib, decide_eq_true hn]))
                      subst hn
                      clear HE3 hib
                      go_wp2_with fail
                      go_roundg (nl - (i + 1))
                      case measure => omega
                      case rel => exact ⟨i + 1, by omega, by omega, by go_num, HBE, HAI⟩
                    · have HE := Lib.hid (HE3.out (by rw [HOKD.out, hib, decide_eq_false hn]))
                      have hn' : (q2 != 0) = true := by simpa using hn
                      clear HE3 hib
                      go_wp2_with fail
                      exact HE.out
                · have hs' : (60 : Int) < (q1.size : Int) := by omega
                  rw [decide_eq_false hs, Bool.false_and] at htb
                  have HE := Lib.hid (HE3.out (by rw [HOKD.out, htb]; simp))
                  clear HE3
                  go_wp2_with fail
                  exact HE.out
              · have htb := HTB.out
                rw [if_neg k0, ← txE] at htb
                have k0' : (q0 == 0) = false := by simpa using k0
                have k0n : (q0 != 0) = true := by simpa using k0
                have hte : q1.toList.isEmpty = TB := htb.symm
                clear htb
                cases TB with
                | false =>
                  have HE := Lib.hid (HE3.out (by rw [HOKD.out]; simp))
                  clear HE3
                  go_wp2_with fail
                  exact HE.out
                | true =>
                  rw [Bool.true_and] at HOKD
                  go_upto_region 15 with fail
                  by_cases k5 : q0 = 5
                  · have hib := HIB.out
                    rw [if_pos k5] at hib
                    subst k5
                    by_cases h1 : 0 ≤ q2
                    · rw [decide_eq_true h1, Bool.true_and] at hib
                      have h1' : ¬ q2 < 0 := by omega
                      by_cases h2 : q2 ≤ 20
                      · have h2' : ¬ 20 < q2 := by omega
                        have HAI := Lib.hid (HTK.out (by rw [HOKD.out, hib, decide_eq_true h2]))
                        clear HE3
                        go_wp2_with fail
                        go_roundg (nl - (i + 1))
                        case measure => omega
                        case rel => exact ⟨i + 1, by omega, by omega, by go_num, HBE, HAI⟩
                      · have h2' : 20 < q2 := by omega
                        have HE := Lib.hid (HE3.out (by rw [HOKD.out, hib, decide_eq_false h2]))
                        clear HE3 hib
                        go_wp2_with fail
                        exact HE.out
                    · rw [decide_eq_false h1, Bool.false_and] at hib
                      have h1' : q2 < 0 := by omega
                      have HE := Lib.hid (HE3.out (by rw [HOKD.out, hib]))
                      clear HE3 hib
                      go_wp2_with fail
                      exact HE.out
                  · have hib := HIB.out
                    rw [if_neg k5] at hib
                    have k5' : (q0 == 5) = false := by simpa using k5
                    have k5n : (q0 != 5) = true := by simpa using k5
                    by_cases hn : q2 = 0
                    · have HAI := Lib.hid (HTK.out (by rw [HOKD.out, hib, decide_eq_true hn]))
                      subst hn
                      clear HE3 hib
                      go_wp2_with fail
                      go_roundg (nl - (i + 1))
                      case measure => omega
                      case rel => exact ⟨i + 1, by omega, by omega, by go_num, HBE, HAI⟩
                    · have HE := Lib.hid (HE3.out (by rw [HOKD.out, hib, decide_eq_false hn]))
                      have hn' : (q2 != 0) = true := by simpa using hn
                      clear HE3 hib
                      go_wp2_with fail
                      exact HE.out
      · have hlt' : ¬ (i : Int) < (nl : Int) := by omega
        have hall := HA.out
        rw [List.take_of_length_le (by rw [HNL2.out]; omega)] at hall
        rw [hall] at HFIN
        have HE := Lib.hid (HFIN.out wo (HB2.out.trans (HB.out.mono HB2.out.size)))
        clear HFIN hall hmk hcv
        go_wp2_with fail
        exact HE.out
end Dc
end Go.Proofs.Ytgpikophndbmeaa
