/- doc.flat. -/
import Derived.Test.YtgpikophndbmeaaDocWalk
import Derived.Laws.Concat
namespace Go.Proofs.Ytgpikophndbmeaa
open Go.RowKit
namespace Dc

mutual
/-- a document in one line, its bytes -/
def flatB : Doc → List UInt8
  | .mk k t _ ks => if k = 0 then t.data.toList else if k = 1 then [32] else flatBL ks
def flatBL : List Doc → List UInt8
  | [] => []
  | k :: ks => flatB k ++ flatBL ks
end
theorem flatBL_append : ∀ (a b : List Doc), flatBL (a ++ b) = flatBL a ++ flatBL b
  | [], b => by simp [flatBL]
  | x :: a, b => by simp [flatBL, flatBL_append a b]
theorem flatBL_take {ks : List Doc} {i : Nat} (h : i < ks.length) : flatBL (ks.take (i + 1)) = flatBL (ks.take i) ++ flatB ks[i] := by
  rw [List.take_succ_eq_append_getElem h, flatBL_append]; simp [flatBL]
theorem flatB_eq (t : Doc) : flatB t = if t.kind = 0 then t.txt.data.toList else if t.kind = 1 then [32] else flatBL t.kids := by
  cases t; rw [flatB]; rfl
theorem flatBL_le {ks : List Doc} {i : Nat} (h : i < ks.length) : (flatBL (ks.take i)).length + (flatB ks[i]).length ≤ (flatBL ks).length := by
  have h1 : flatBL ks = flatBL (ks.take (i + 1)) ++ flatBL (ks.drop (i + 1)) := by rw [← flatBL_append, List.take_append_drop]
  rw [h1, flatBL_take h]
  simp
def BtsD (s : ByteArray) (l : List UInt8) : Prop := s.data.toList = l
theorem BtsD.size {s : ByteArray} {l : List UInt8} (h : BtsD s l) : s.size = l.length := by
  unfold BtsD at h
  rw [← h]; rfl
theorem BtsD.app {s t : ByteArray} {l m : List UInt8} (h : BtsD s l) (k : BtsD t m) : BtsD (s ++ t) (l ++ m) := by
  unfold BtsD at *
  rw [ByteArray.data_append, Array.toList_append, h, k]
set_option maxHeartbeats 2000000 in
theorem flatE : ∀ (m : Nat) (t : Doc) (v : Value) (w : World), (nodes t).length ≤ m → Rd AnyB w (.sl (t.kids.map Doc.d)) [v] → (flatB t).length ≤ 100000000 →
    Calls Try.prog 14 #[.agg #[.int .i64 t.kind, .string t.txt, .int .i64 t.n, v]] w fun e w' => ∃ s : ByteArray, e = .returned (.string s) ∧ BtsD s (flatB t) ∧ Below w.heap.size w w' := by
  intro m
  induction m with
  | zero => intro t v w hm; have := nodes_pos t; omega
  | succ m ih =>
  intro t v w hm hv hlen
  obtain ⟨a, cap, rfl, hc1, hc2⟩ := hv.form
  unfold maxLen at hc2
  obtain ⟨w1, HW1⟩ := nameIt (w.alloc (.cells #[.int .i64 t.kind, .string t.txt, .int .i64 t.n, .slice a (t.kids.map Doc.d).length cap] 24))
  have hb1 : Below w.heap.size w w1 := by rw [← HW1.out]; exact (Below.refl _ _).alloc (Nat.le_refl _) _
  have hx1 : w1.heap[w.heap.size]? = some (.cells #[.int .i64 t.kind, .string t.txt, .int .i64 t.n, .slice a (t.kids.map Doc.d).length cap] 24 (0, 0)) := by rw [← HW1.out]; exact bx_new _ _ _ rfl
  have HV := Lib.hid (hv.below hb1)
  have HB1 := Lib.hid hb1
  have HM := Lib.hid hm
  have IH := Lib.hid ih
  have HLEN := Lib.hid hlen
  have HFB := Lib.hid (flatB_eq t)
  obtain ⟨PST, HP⟩ := nameIt (fun (e : Ending) (w' : World) => ∃ s : ByteArray, e = .returned (.string s) ∧ BtsD s (flatB t) ∧ Below w.heap.size w w')
  have HFIN : Hid (∀ s w', BtsD s (flatB t) → Below w.heap.size w w' → PST (.returned (.string s)) w') := fun s w' h1 h2 => by rw [← HP.out]; exact ⟨s, rfl, h1, h2⟩
  rw [HP.out]
  obtain ⟨x0, x1, x2, x3⟩ := bx_cells4d hx1
  obtain ⟨nk, HNK⟩ := nameIt (t.kids.map Doc.d).length
  have HKL : Hid (t.kids.length = nk) := by show _ = _; rw [← HNK.out, List.length_map]
  rw [HNK.out] at HW1 x3 hc1 HV
  rw [HNK.out]
  obtain ⟨tk, HTK⟩ := nameIt t.kind
  rw [HTK.out] at HW1 x0 HFB
  rw [HTK.out]
  obtain ⟨tx, HTX⟩ := nameIt t.txt
  rw [HTX.out] at HW1 x1 HFB
  rw [HTX.out]
  clear hb1 hx1 hm ih hlen hv
  by_cases hk0 : tk = 0
  · have HE := Lib.hid (HFIN.out tx w1 (by rw [HFB.out, if_pos hk0]; rfl) HB1.out)
    subst hk0
    go_enter Try.func14, Try.ntmps14
    go_upto_region 1 with fail
    rw [HW1.out]
    go_wp2_with fail
    exact HE.out
  · by_cases hk1 : tk = 1
    · have HE := Lib.hid (HFIN.out ⟨#[32]⟩ w1 (by rw [HFB.out, if_neg hk0, if_pos hk1]; rfl) HB1.out)
      subst hk1
      go_enter Try.func14, Try.ntmps14
      go_upto_region 1 with fail
      rw [HW1.out]
      go_wp2_with fail
      exact HE.out
    · have hfb : flatB t = flatBL t.kids := by rw [HFB.out, if_neg hk0, if_neg hk1]
      have HFL := Lib.hid hfb
      have hk0' : (tk == 0) = false := by simpa using hk0
      have hk1' : (tk == 1) = false := by simpa using hk1
      have HK0 : Hid (BtsD ⟨#[]⟩ (flatBL (t.kids.take 0))) := rfl
      clear hfb hk0 hk1
      go_enter Try.func14, Try.ntmps14
      go_upto_region 1 with fail
      rw [HW1.out]
      go_wp2_with fail
      clear x0 x1 x2 x3
      go_loopg [3, 17] nk (fun gg v3 v17 wr => ∃ (i : Nat) (s : ByteArray), i ≤ nk ∧ nk - i ≤ gg ∧ v17 = .int .i64 i ∧ v3 = .string s ∧ Hid (BtsD s (flatBL (t.kids.take i))) ∧ Hid (Below w1.heap.size w1 wr))
      case atStart => exact ⟨0, _, by omega, by omega, rfl, rfl, HK0, Below.refl _ _⟩
      case round =>
        clear HK0
        obtain ⟨i, s, hi, hg, rfl, rfl, HS, HB⟩ := hrel
        obtain ⟨wo, rfl⟩ : ∃ ww : World, ww = wr := ⟨_, rfl⟩
        by_cases hlt : i < nk
        · have hlt' : (i : Int) < (nk : Int) := by omega
          have hix : i < t.kids.length := by rw [HKL.out]; exact hlt
          have hv := HV.out.below HB.out
          obtain ⟨b, off, v, hae, -, hbl, c0, c1, c2, c3, hkid⟩ := Rd.kid hv hix
          obtain ⟨av, cv, rfl, -, -⟩ := hkid.form
          obtain ⟨nv, HNV⟩ := nameIt (t.kids[i].kids.map Doc.d).length
          rw [HNV.out] at c3 hkid
          have hme : (nodes t.kids[i]).length ≤ m := by
            have h1 := HM.out
            rw [nodes_eq] at h1
            have h2 := nodesL_kid hix
            simp at h1; omega
          have hfl := flatBL_le hix
          have htl := HLEN.out
          rw [HFL.out] at htl
          have hss := HS.out.size
          have hsz : s.size + (flatB t.kids[i]).length ≤ 100000000 := by omega
          have hbw := (Below.refl wo.heap.size wo).alloc (Nat.le_refl _) (.cells #[.int .i64 t.kids[i].kind, .string t.kids[i].txt, .int .i64 t.kids[i].n, .slice av nv cv] 24)
          have HIH := Lib.hid (IH.out t.kids[i] _ (wo.alloc (.cells #[.int .i64 t.kids[i].kind, .string t.kids[i].txt, .int .i64 t.kids[i].n, .slice av nv cv] 24)) hme (hkid.below hbw) (by omega))
          have HSN : Hid (∀ q, BtsD q (flatB t.kids[i]) → BtsD (s ++ q) (flatBL (t.kids.take (i + 1)))) := fun q hq => by rw [flatBL_take hix]; exact HS.out.app hq
          have HSZ : Hid (∀ q, BtsD q (flatB t.kids[i]) → s.size + q.size ≤ 9223372036854775807) := fun q hq => by rw [hq.size]; omega
          have HBA : Hid (Below w1.heap.size w1 (wo.alloc (.cells #[.int .i64 t.kids[i].kind, .string t.kids[i].txt, .int .i64 t.kids[i].n, .slice av nv cv] 24))) := HB.out.trans (hbw.mono HB.out.size)
          obtain ⟨q0, HQ0⟩ := nameIt t.kids[i].kind
          obtain ⟨q1, HQ1⟩ := nameIt t.kids[i].txt
          obtain ⟨q2, HQ2⟩ := nameIt t.kids[i].n
          rw [HQ0.out] at c0
          rw [HQ1.out] at c1
          rw [HQ2.out] at c2
          rw [HQ0.out, HQ1.out, HQ2.out] at HIH HBA
          subst hae
          clear hv hkid hme hfl htl hss hsz hbw
          go_wp2_with fail
          refine HIH.out.mono ?_
          rintro e w3 ⟨q, rfl, hq, hb3⟩
          have HQS := Lib.hid (HSN.out q hq)
          have HB3 := Lib.hid (HBA.out.trans (hb3.mono HBA.out.size))
          have hadd := fun (W : World) => run_string_add_sum (P := Try.prog) (w := W) s q (HSZ.out q hq)
          clear hq hb3 c0 c1 c2 c3
          go_wp2_with fail
          go_roundg (nk - (i + 1))
          case measure => omega
          case rel => exact ⟨i + 1, _, by omega, by omega, by go_num, rfl, HQS, HB3⟩
        · have hlt' : ¬ (i : Int) < (nk : Int) := by omega
          have hs := HS.out
          rw [List.take_of_length_le (by rw [HKL.out]; omega), ← HFL.out] at hs
          have HE := Lib.hid (HFIN.out s wo hs (HB1.out.trans (HB.out.mono HB1.out.size)))
          clear hs
          go_wp2_with fail
          exact HE.out
end Dc
end Go.Proofs.Ytgpikophndbmeaa
