/- The contract of parts. -/
import Derived.Test.YtjehmleckcmilaaRowD
import Derived.Test.YtjehmleckcmilaaSmall
import Derived.Test.YtjehmleckcmilaaTreeSize
import Derived.Test.YtjehmleckcmilaaNodes
import Derived.Deep.LoopGhost
namespace Go.Proofs.Ytjehmleckcmilaa
open Go.RowKit

def TreesPost (S : Nat → Prop) (l : List Tree) (w : World) (e : Ending) (w' : World) : Prop := ∃ v, e = .returned v ∧ Rd (fun k => S k ∨ w.heap.size ≤ k) w' (.sl (l.map Tree.d)) [v] ∧ Below w.heap.size w w'

theorem sizeL_take_le (ks : List Tree) (i : Nat) : sizeL (ks.take i) ≤ sizeL ks := by
  induction ks generalizing i with
  | nil => simp
  | cons k ks ih => cases i with
    | zero => simp [sizeL]
    | succ i => have := ih i; simp [sizeL]; omega

set_option maxHeartbeats 2000000 in
set_option maxRecDepth 100000 in
theorem partsE (S : Nat → Prop) : ∀ (m : Nat) (t : Tree) (v : Value) (w : World), t.size ≤ m → (∀ k, S k → k < w.heap.size) → Rd S w (.sl (t.kids.map Tree.d)) [v] → t.size ≤ 1000000 →
    Calls Try.prog 144 #[.agg #[.int .i64 t.rule, .int .i64 t.term, v]] w (TreesPost S (parts t) w) := by
  intro m
  induction m with
  | zero => intro t v w hm; have := t.size_pos; omega
  | succ m ih =>
  intro t v w hm hS hv hN
  obtain ⟨a, nk, cap, rfl⟩ := treeBox hv.any
  have HV := Lib.hid hv
  have IH := Lib.hid ih
  have HM := Lib.hid hm
  have HN := Lib.hid hN
  have HS := Lib.hid hS
  have HNK : Hid (t.kids.length = nk) := by show _ = _; have := hv.bounds.1; simpa using this.symm
  have hcap : nk ≤ 9223372036854775807 := by have := hv.bounds; unfold maxLen at this; omega
  obtain ⟨r, HRr⟩ := nameIt t.rule
  obtain ⟨tm, HRt⟩ := nameIt t.term
  rw [HRr.out, HRt.out]
  obtain ⟨w0, HW0⟩ := nameIt ((w.alloc (.cells #[.int .i64 r, .int .i64 tm, .slice a nk cap] 43)).alloc (.cells #[.int .i64 r, .int .i64 tm, .slice a nk cap] 43))
  have X0 : Hid (w0.heap[w.heap.size]? = some (.cells #[.int .i64 r, .int .i64 tm, .slice a nk cap] 43 (0, 0))) := by
    rw [← HW0.out]; exact bx_keep (bx_new _ _ _ rfl) ((Below.refl _ _).alloc (Nat.le_refl _) _)
  have HB0 : Hid (Below w.heap.size w w0) := by rw [← HW0.out]; exact ((Below.refl _ _).alloc (Nat.le_refl _) _).alloc (by simp) _
  have HR0 : Hid (RowD (fun k => S k ∨ w.heap.size ≤ k) w.heap.size 43 3 ((t :: partsL (t.kids.take 0)).map Tree.d) (.slice (some ⟨w.heap.size + 1, 0, none⟩) 1 1) w0) := by
    refine ⟨⟨[.int .i64 r, .int .i64 tm, .slice a nk cap], by rw [← HW0.out]; simpa [partsL] using own_lit (w := w.alloc (.cells #[.int .i64 r, .int .i64 tm, .slice a nk cap] 43)) (B := w.heap.size) (e := 43) (size := 3) (n := 1) (news := #[.int .i64 r, .int .i64 tm, .slice a nk cap]) (g := w.heap.size + 1) (by simp) (by simp) rfl (by simp [maxLen]), ?_⟩, HB0.out.size⟩
    simp only [List.take_zero, partsL, List.map_cons, List.map_nil]
    rw [← HRr.out, ← HRt.out]
    exact RdAll.one (rd_tree ((HV.out.below HB0.out).mono fun k hk _ => ⟨.inl hk, fun e => by have := HS.out k hk; simp [Value.ownBlock] at e; omega⟩))
  obtain ⟨x0, x1, x2⟩ := bx_cells3 X0.out
  clear hv ih hm hN hS
  go_enter Try.func144, Try.ntmps144
  go_upto_region 2 with fail
  rw [HW0.out]
  go_wp2_with fail
  go_loopg [3, 11] nk (fun gg v3 v11 wr => ∃ i : Nat, i ≤ nk ∧ nk - i ≤ gg ∧ v11 = .int .i64 i ∧ Hid (RowD (fun k => S k ∨ w.heap.size ≤ k) w.heap.size 43 3 ((t :: partsL (t.kids.take i)).map Tree.d) v3 wr) ∧ Hid (Below w.heap.size w wr))
  case atStart => exact ⟨0, by omega, by omega, rfl, HR0, HB0⟩
  case round =>
    clear HR0 HB0 x0 x1 x2 X0 HW0
    obtain ⟨i, hi, hg, rfl, HR, HB⟩ := hrel
    obtain ⟨a3, c3, rfl, hc1, hc2, hc3⟩ := HR.out.form
    have HOL := Lib.hid hc3
    unfold maxLen at hc2
    clear hc3
    by_cases hlt : i < nk
    · have hlt' : (i : Int) < (nk : Int) := by omega
      have hik : i < t.kids.length := by rw [HNK.out]; exact hlt
      obtain ⟨b, off, v, hae, -, hbl, k0, k1, k2, hkid⟩ := HV.out.kid hik
      obtain ⟨av, nv, cv, rfl⟩ := treeBox hkid.any
      have e0 := (HB.out.cell (p := ⟨b, off + i * 3, none⟩) hbl).trans k0
      have e1 := (HB.out.cell (p := ⟨b, off + i * 3 + 1, none⟩) hbl).trans k1
      have e2 := (HB.out.cell (p := ⟨b, off + i * 3 + 2, none⟩) hbl).trans k2
      have hnk := sizeL_get hik
      have HT : Hid ((t :: partsL (t.kids.take (i + 1))).map Tree.d = (t :: partsL (t.kids.take i)).map Tree.d ++ (parts t.kids[i]).map Tree.d) := by
        show _ = _
        rw [partsL_take hik]; simp
      have HLN : Hid (((t :: partsL (t.kids.take i)).map Tree.d).length + ((parts t.kids[i]).map Tree.d).length ≤ 1000000) := by
        show _ ≤ _
        have h1 := HN.out
        have h2 := sizeL_take_le t.kids (i + 1)
        rw [← partsL_len, partsL_take hik, ← partsL_len] at h2
        rw [Tree.size_eq, ← partsL_len] at h1
        simp at h2 ⊢; omega
      have hms : t.kids[i].size ≤ m := by have h1 := HM.out; rw [Tree.size_eq] at h1; omega
      have hms2 : t.kids[i].size ≤ 1000000 := by have h1 := HN.out; rw [Tree.size_eq] at h1; omega
      obtain ⟨x, HX⟩ := nameIt (t.kids[i]'hik)
      rw [HX.out] at e0 e1 hkid HT hms hms2 HLN
      obtain ⟨q0, HQ0⟩ := nameIt x.rule
      obtain ⟨q1, HQ1⟩ := nameIt x.term
      have hb3 := (Below.refl wr.heap.size wr).alloc (Nat.le_refl _) (.cells #[.int .i64 q0, .int .i64 q1, .slice av nv cv] 43)
      have hlc := IH.out x _ _ hms (fun k hk => by have h1 := HS.out k hk; have h2 := HB.out.size; have h3 := hb3.size; omega) ((hkid.below HB.out).below hb3) hms2
      rw [HQ0.out] at e0 hlc
      rw [HQ1.out] at e1 hlc
      have HLC := Lib.hid hlc
      have HB3 := Lib.hid hb3
      obtain ⟨L, HL⟩ := nameIt ((t :: partsL (t.kids.take i)).map Tree.d)
      rw [HL.out] at HR HOL HLN hc1 HT
      rw [HL.out]
      obtain ⟨C, HC⟩ := nameIt ((parts x).map Tree.d)
      have HCC : Hid (∀ d ∈ C, d.cells = 3) := by rw [← HC.out]; exact trees_cells _
      subst hae
      clear k0 k1 k2 hkid hlc hb3 hnk hms hms2
      go_wp2_with fail
      refine HLC.out.mono ?_
      rintro e w1 ⟨v1, rfl, hr1, hb1⟩
      rw [HC.out] at hr1 HLN HT
      obtain ⟨a1, c1, rfl, hd1, hd2⟩ := hr1.form
      have HR1 := Lib.hid hr1
      have HB1 := Lib.hid (HB3.out.trans (hb1.mono HB3.out.size))
      obtain ⟨xs, ho1, ho2⟩ := (HR.out.keep HB1.out).own
      have HO1 := Lib.hid ho1
      have HO2 := Lib.hid ho2
      have hln := HLN.out
      have hsz := HB.out.size
      have hsz1 := HB1.out.size
      clear hr1 hb1 HLC e0 e1 e2 ho1 ho2 hd1 hd2
      go_wp2_with (at_builtin; refine wp_appD elTree rfl _ _ rfl HO1.out rfl HR1.out rfl HCC.out (by omega) (by unfold maxLen; omega) (by omega) ?_)
      intro v' w' M hM ho hg2 hat
      have HN' : Hid (RowD (fun k => S k ∨ w.heap.size ≤ k) w.heap.size 43 3 (L ++ C) v' w') := by
        refine RowD.step HO1.out HO2.out rfl hM (fun k hk hlk => ?_) (by omega) ho hg2 hat
        rcases hk with hk | hk
        · exact ⟨.inl hk, fun e => by have h1 := HS.out k hk; have h2 := (HO1.out.lt k e).1; omega⟩
        · have h3 := HB3.out.size
          exact ⟨.inr (by omega), fun e => by have h2 := (HOL.out k e).2; omega⟩
      have HBN : Hid (Below w.heap.size w w') := (HB.out.trans (HB1.out.mono HB.out.size)).grown hg2 (by omega) (fun k e => (HO1.out.lt k e).1)
      obtain ⟨a', c', rfl, -, -⟩ := own_len ho
      rw [← HT.out] at HN'
      clear hM ho hg2 hat
      go_wp2_with fail
      go_roundg (nk - (i + 1))
      case measure => omega
      case rel => exact ⟨i + 1, by omega, by omega, by go_num, HN', HBN⟩
    · have hlt' : ¬ (i : Int) < (nk : Int) := by omega
      have HPE : Hid ((parts t).map Tree.d = (t :: partsL (t.kids.take i)).map Tree.d) := by
        show _ = _
        rw [parts_eq, List.take_of_length_le (by have := HNK.out; omega)]
      obtain ⟨L, HL⟩ := nameIt ((t :: partsL (t.kids.take i)).map Tree.d)
      rw [HL.out] at HR HPE
      rw [HL.out]
      clear HOL hc1
      go_wp2_with fail
      go_ret
      refine ⟨_, rfl, ?_, HB.out⟩
      rw [HPE.out]
      exact HR.out.rd.mono fun k hk _ => by rcases hk with (hk | hk) | hk <;> simp [hk]
end Go.Proofs.Ytjehmleckcmilaa
