/- (*Table).At; World.Owner. slices.Index, Contains, IndexFunc and ContainsFunc of whole numbers. (*Eval).Count, (*Eval).Value. slices.Clone of attributes. attr.Copy. slices.Clone of rules and of symbols. gram.Copy. -/
import Derived.Test.YtfocooehnmpndaaGreatJDemandSomeRow16
import Derived.Test.YtfocooehnmpndaaGreatJDemandSomeRow7
import Derived.Test.YtfocooehnmpndaaGreatJDemandSomeRow15
import Derived.Test.YtfocooehnmpndaaGreatJDemandSomeRow1
import Derived.Deep.LoopGhost
import Derived.Deep.Cut
import Derived.Shelf.Abstract
import Derived.Test.YtfocooehnmpndaaGreatJDemandSomeRow2
import Derived.Test.YtfocooehnmpndaaGreatJDemandSomeRow3
import Derived.Deep.DeepCutAuto
import Derived.Test.YtfocooehnmpndaaGreatJDemandSomeRow10
import Derived.Test.YtfocooehnmpndaaGreatJDemandSomeRow9
import Derived.BigQuiet
namespace Go.Proofs.YtfocooehnmpndaaGreat
open Go.RowKit
namespace Dm
open At (Ref)
set_option maxHeartbeats 4000000 in
set_option maxRecDepth 100000 in
theorem tabAtE (g : Gram) (s : At.Sys) (L : List Nd) (hK : KidsOk L) (h0 : 0 < L.length) (tb eb vb sb : Nat) (p : List Int) (v : Value) (W : World) (h : TbS g s L tb eb vb sb W) (hp : Sl W v (ints p)) :
    Calls Tryz.prog 38 #[.pointer (some ⟨tb, 0, none⟩), v] W (fun e w' => e = .returned (.int .i64 (atI L p)) ∧ Below W.heap.size W w') := by
  obtain ⟨pa, pc, rfl⟩ := hp.form
  rw [ints_len] at hp ⊢
  have hpl := hp.len
  unfold maxLen at hpl
  have HP := Lib.hid hp
  have HT := Lib.hid h
  have HKO := Lib.hid hK
  have HANS : Hid (∀ n, atN L 0 p = some n → atI L p = (n : Int)) := fun n h => by unfold atI; rw [h]
  have HBAD : Hid (atN L 0 p = none → atI L p = -1) := fun h => by unfold atI; rw [h]
  obtain ⟨Z, HZ⟩ := nameIt (atI L p)
  simp only [HZ.out] at HANS HBAD
  rw [HZ.out]
  obtain ⟨LN, HLN⟩ := nameIt L.length
  have HL0 : Hid (0 < L.length) := h0
  obtain ⟨pl, HPL⟩ := nameIt p.length
  rw [HPL.out] at HP
  rw [HPL.out]
  have hpc : pl ≤ pc ∧ pc ≤ 9223372036854775807 := by rw [← HPL.out]; exact ⟨hpl.2.1, hpl.2.2⟩
  clear hp hpl h hK h0
  go_enter Tryz.func38, Tryz.ntmps38
  go_wp2_with fail
  go_loopg [5, 7, 10] pl (fun gg v5 v7 v10 wr => ∃ (k n : Nat), k ≤ pl ∧ pl - k ≤ gg ∧ v10 = .int .i64 k ∧ v5 = .int .i64 (n : Int) ∧ Hid (n < L.length) ∧ Hid (atN L 0 p = atN L n (p.drop k)) ∧ Hid (Below W.heap.size W wr))
  case atStart => exact ⟨0, 0, by omega, by omega, rfl, rfl, HL0.out, (by show _ = _; rw [List.drop_zero]), Below.refl _ _⟩
  case round =>
    obtain ⟨k, n, hk, hg, rfl, rfl, HN, HA, HB⟩ := hrel
    by_cases hlt : k < pl
    · have hlt' : (k : Int) < (pl : Int) := by omega
      have hkc : (k : Int) ≤ (pc : Int) := by omega
      have hkl : k < p.length := by rw [HPL.out]; exact hlt
      obtain ⟨bb, bo, rfl, hcell⟩ := Sl.at (HP.out.keep HB.out) hlt
      have c0 := hcell k (by rw [ints_len]; exact hkl)
      have e0 : (ints p)[k]'(by rw [ints_len]; exact hkl) = .int .i64 p[k] := by simp [ints]
      rw [e0] at c0
      have HDR : Hid (p.drop k = p[k] :: p.drop (k + 1)) := List.drop_eq_getElem_cons hkl
      have HA2 := HA
      rw [HDR.out] at HA2
      obtain ⟨⟨ar, cr, aa, ac, qa, qn, qc, na, nc, h1, -, -, h4⟩, -, -⟩ := HT.out.below HB.out
      obtain ⟨hn1, hn2⟩ := h4.bounds.2
      unfold maxLen at hn2
      obtain ⟨nb, no, vk, hne, -, hnl, -, -, -, d3, hkr⟩ := Rd.nd_at h4 HN.out
      have hsl := sl_rd hkr
      obtain ⟨ka, kc, rfl⟩ := hsl.form
      have hslb := hsl.len.2
      unfold maxLen at hslb
      rw [ints_len] at hsl hslb d3
      have HND : Hid (ndAt L n = L[n]'HN.out) := ndAt_get HN.out
      have HKN := Lib.hid (HKO.out n HN.out)
      have HSTEP := Lib.hid (fun (i : Int) (kk : Nat) (hi : i = (kk : Int)) (hkk : kk < (ndAt L n).kids.length) (m : Nat) (hm : (ndAt L n).kids[kk] = (m : Int)) => atN_step (p := p.drop (k + 1)) kk hi hkk hm)
      have HBD := Lib.hid (fun (i : Int) (h : i < 0 ∨ ((ndAt L n).kids.length : Int) ≤ i) => atN_bad (L := L) (n := n) (p := p.drop (k + 1)) h)
      rw [HND.out] at HKN
      simp only [HND.out] at HSTEP HBD
      obtain ⟨ks, HKS⟩ := nameIt (L[n]'HN.out).kids
      rw [HKS.out] at hsl d3 hslb HKN
      simp only [HKS.out] at HSTEP HBD
      obtain ⟨i, HI⟩ := nameIt (p[k]'hkl)
      rw [HI.out] at c0 HA2
      obtain ⟨kl, HKL⟩ := nameIt ks.length
      have HSL := Lib.hid hsl
      rw [HKL.out] at d3 hslb
      simp only [HKL.out] at HBD
      rw [HLN.out] at h1 hn1
      obtain ⟨x0, x1, x2, x3, x4, x5, x6, x7, x8, x9⟩ := bx_cells10 h1
      have hnL : n < LN := by rw [← HLN.out]; exact HN.out
      have hn' : (n : Int) < (LN : Int) := by omega
      have hnc : (n : Int) ≤ (nc : Int) := by omega
      subst hne
      clear hcell e0 h1 h4 hkr hsl
      by_cases hneg : i < 0
      · have k1 : decide (i < 0) = true := by simpa using hneg
        have hz : Z = -1 := HBAD.out (HA2.out.trans (HBD.out i (.inl hneg)))
        have HZ1 : Hid (Z = -1) := hz
        clear hneg hz
        obtain rfl := HZ1.out
        go_wp2_with fail
        go_ret
        exact ⟨rfl, HB.out⟩
      · have k1 : decide (i < 0) = false := by simpa using hneg
        by_cases hge : (kl : Int) ≤ i
        · have k2 : decide ((kl : Int) ≤ i) = true := by simpa using hge
          have hz : Z = -1 := HBAD.out (HA2.out.trans (HBD.out i (.inr hge)))
          have HZ1 : Hid (Z = -1) := hz
          clear hz
          obtain rfl := HZ1.out
          go_wp2_with fail
          go_ret
          exact ⟨rfl, HB.out⟩
        · have k2 : decide ((kl : Int) ≤ i) = false := by simpa using hge
          obtain ⟨kk, rfl⟩ : ∃ kk : Nat, i = (kk : Int) := ⟨i.toNat, by omega⟩
          have hkk : kk < ks.length := by rw [HKL.out]; omega
          obtain ⟨m, hm, hml⟩ := HKN.out kk hkk
          have HNX : Hid (atN L 0 p = atN L m (p.drop (k + 1))) := by show _ = _; rw [HA2.out]; exact HSTEP.out _ kk rfl hkk m hm
          have HML : Hid (m < L.length) := hml
          obtain ⟨kb, ko, rfl, hkc2⟩ := Sl.at HSL.out (k := kk) hkk
          have c1 := hkc2 kk (by rw [ints_len]; exact hkk)
          have e1 : (ints ks)[kk]'(by rw [ints_len]; exact hkk) = .int .i64 (m : Int) := by simp [ints, hm]
          rw [e1] at c1
          have hkk1 : (kk : Int) < (kl : Int) := by omega
          have hkk2 : (kk : Int) ≤ (kc : Int) := by omega
          clear hkc2 e1 hm hml HSTEP HBD hneg hge
          go_wp2_with fail
          go_roundg (pl - (k + 1))
          case measure => omega
          case rel => exact ⟨k + 1, m, by omega, by omega, by go_num, rfl, HML, HNX, HB⟩
    · have hend : k = pl := by omega
      have hlt' : ¬ (k : Int) < (pl : Int) := by omega
      have hz : Z = (n : Int) := HANS.out n (by rw [HA.out, hend, ← HPL.out, List.drop_length]; rfl)
      have HZ1 : Hid (Z = (n : Int)) := hz
      clear hz
      obtain rfl := HZ1.out
      go_wp2_with fail
      go_ret
      exact ⟨rfl, HB.out⟩
set_option maxHeartbeats 4000000 in
set_option maxRecDepth 100000 in
theorem ownerE (g : Gram) (s : At.Sys) (L : List Nd) (hK : KidsOk L) (h0 : 0 < L.length) (tb : Nat) (p : List Int) (v : Value) (W : World) (h : WdS g s L tb W) (hp : Sl W v (ints p)) :
    Calls Tryz.prog 19 #[.pointer (some ⟨tb, 0, none⟩), v] W (fun e w' => e = .returned (.int .i64 (atI L p)) ∧ Below W.heap.size W w') := by
  obtain ⟨pa, pc, rfl⟩ := hp.form
  rw [ints_len] at hp ⊢
  have hpl := hp.len
  unfold maxLen at hpl
  have HP := Lib.hid hp
  have HT := Lib.hid h
  have HKO := Lib.hid hK
  have HANS : Hid (∀ n, atN L 0 p = some n → atI L p = (n : Int)) := fun n h => by unfold atI; rw [h]
  have HBAD : Hid (atN L 0 p = none → atI L p = -1) := fun h => by unfold atI; rw [h]
  obtain ⟨Z, HZ⟩ := nameIt (atI L p)
  simp only [HZ.out] at HANS HBAD
  rw [HZ.out]
  obtain ⟨LN, HLN⟩ := nameIt L.length
  have HL0 : Hid (0 < L.length) := h0
  obtain ⟨pl, HPL⟩ := nameIt p.length
  rw [HPL.out] at HP
  rw [HPL.out]
  have hpc : pl ≤ pc ∧ pc ≤ 9223372036854775807 := by rw [← HPL.out]; exact ⟨hpl.2.1, hpl.2.2⟩
  clear hp hpl h hK h0
  go_enter Tryz.func19, Tryz.ntmps19
  go_wp2_with fail
  go_loopg [5, 7, 10] pl (fun gg v5 v7 v10 wr => ∃ (k n : Nat), k ≤ pl ∧ pl - k ≤ gg ∧ v10 = .int .i64 k ∧ v5 = .int .i64 (n : Int) ∧ Hid (n < L.length) ∧ Hid (atN L 0 p = atN L n (p.drop k)) ∧ Hid (Below W.heap.size W wr))
  case atStart => exact ⟨0, 0, by omega, by omega, rfl, rfl, HL0.out, (by show _ = _; rw [List.drop_zero]), Below.refl _ _⟩
  case round =>
    obtain ⟨k, n, hk, hg, rfl, rfl, HN, HA, HB⟩ := hrel
    by_cases hlt : k < pl
    · have hlt' : (k : Int) < (pl : Int) := by omega
      have hkc : (k : Int) ≤ (pc : Int) := by omega
      have hkl : k < p.length := by rw [HPL.out]; exact hlt
      obtain ⟨bb, bo, rfl, hcell⟩ := Sl.at (HP.out.keep HB.out) hlt
      have c0 := hcell k (by rw [ints_len]; exact hkl)
      have e0 : (ints p)[k]'(by rw [ints_len]; exact hkl) = .int .i64 p[k] := by simp [ints]
      rw [e0] at c0
      have HDR : Hid (p.drop k = p[k] :: p.drop (k + 1)) := List.drop_eq_getElem_cons hkl
      have HA2 := HA
      rw [HDR.out] at HA2
      obtain ⟨c0', c1', c2', c3', aa, qa, na, ua, pa', ka', la, ac, qc, nc, uc, pc', kc', lc, hR⟩ := (HT.out.below HB.out).read
      obtain ⟨nb, ka, kc, hne, d3, hkc1, hkc2, hkcell⟩ := hR.kid n HN.out
      have hcap := hR.caps
      unfold maxLen at hcap hkc2
      have h1 := hR.hdr
      have HND : Hid (ndAt L n = L[n]'HN.out) := ndAt_get HN.out
      have HKN := Lib.hid (HKO.out n HN.out)
      have HSTEP := Lib.hid (fun (i : Int) (kk : Nat) (hi : i = (kk : Int)) (hkk : kk < (ndAt L n).kids.length) (m : Nat) (hm : (ndAt L n).kids[kk] = (m : Int)) => atN_step (p := p.drop (k + 1)) kk hi hkk hm)
      have HBD := Lib.hid (fun (i : Int) (h : i < 0 ∨ ((ndAt L n).kids.length : Int) ≤ i) => atN_bad (L := L) (n := n) (p := p.drop (k + 1)) h)
      rw [HND.out] at HKN
      simp only [HND.out] at hkcell
      rw [HND.out] at d3 hkc1
      simp only [HND.out] at HSTEP HBD
      obtain ⟨ks, HKS⟩ := nameIt (L[n]'HN.out).kids
      rw [HKS.out] at d3 hkc1 HKN
      simp only [HKS.out] at hkcell
      simp only [HKS.out] at HSTEP HBD
      obtain ⟨i, HI⟩ := nameIt (p[k]'hkl)
      rw [HI.out] at c0 HA2
      obtain ⟨kl, HKL⟩ := nameIt ks.length
      have HSL := Lib.hid hkcell
      rw [HKL.out] at d3 hkc1
      simp only [HKL.out] at HBD
      obtain ⟨IN, HIN⟩ := nameIt (allI g s L).length
      obtain ⟨AN, HAN⟩ := nameIt s.attrs.length
      obtain ⟨QN, HQN⟩ := nameIt s.eqs.length
      rw [HLN.out, HIN.out, HAN.out, HQN.out] at h1
      rw [HLN.out] at hcap
      obtain ⟨x4, x5, x6, x7, x8, x9, x10⟩ := bx_cells11w h1
      have hnL : n < LN := by rw [← HLN.out]; exact HN.out
      have hn' : (n : Int) < (LN : Int) := by omega
      have hnc : (n : Int) ≤ (kc' : Int) := by omega
      subst hne
      clear hcell e0 h1 hR hkcell
      by_cases hneg : i < 0
      · have k1 : decide (i < 0) = true := by simpa using hneg
        have hz : Z = -1 := HBAD.out (HA2.out.trans (HBD.out i (.inl hneg)))
        have HZ1 : Hid (Z = -1) := hz
        clear hneg hz
        obtain rfl := HZ1.out
        go_wp2_with fail
        go_ret
        exact ⟨rfl, HB.out⟩
      · have k1 : decide (i < 0) = false := by simpa using hneg
        by_cases hge : (kl : Int) ≤ i
        · have k2 : decide ((kl : Int) ≤ i) = true := by simpa using hge
          have hz : Z = -1 := HBAD.out (HA2.out.trans (HBD.out i (.inr hge)))
          have HZ1 : Hid (Z = -1) := hz
          clear hz
          obtain rfl := HZ1.out
          go_wp2_with fail
          go_ret
          exact ⟨rfl, HB.out⟩
        · have k2 : decide ((kl : Int) ≤ i) = false := by simpa using hge
          obtain ⟨kk, rfl⟩ : ∃ kk : Nat, i = (kk : Int) := ⟨i.toNat, by omega⟩
          have hkk : kk < ks.length := by rw [HKL.out]; omega
          obtain ⟨m, hm, hml⟩ := HKN.out kk hkk
          have HNX : Hid (atN L 0 p = atN L m (p.drop (k + 1))) := by show _ = _; rw [HA2.out]; exact HSTEP.out _ kk rfl hkk m hm
          have HML : Hid (m < L.length) := hml
          obtain ⟨kb, rfl, c1⟩ := HSL.out kk hkk
          rw [hm] at c1
          have hkk1 : (kk : Int) < (kl : Int) := by omega
          have hkk2 : (kk : Int) ≤ (kc : Int) := by omega
          clear hm hml HSTEP HBD hneg hge
          go_wp2_with fail
          go_roundg (pl - (k + 1))
          case measure => omega
          case rel => exact ⟨k + 1, m, by omega, by omega, by go_num, rfl, HML, HNX, HB⟩
    · have hend : k = pl := by omega
      have hlt' : ¬ (k : Int) < (pl : Int) := by omega
      have hz : Z = (n : Int) := HANS.out n (by rw [HA.out, hend, ← HPL.out, List.drop_length]; rfl)
      have HZ1 : Hid (Z = (n : Int)) := hz
      clear hz
      obtain rfl := HZ1.out
      go_wp2_with fail
      go_ret
      exact ⟨rfl, HB.out⟩
end Dm
end Go.Proofs.YtfocooehnmpndaaGreat
namespace Go.Proofs.YtfocooehnmpndaaGreat
open Go.RowKit
def idxBy (p : Int → Bool) (l : List Int) : Int := if l.any p then (l.findIdx p : Int) else -1
theorem idxBy_hit {p : Int → Bool} {l : List Int} {i : Nat} (hi : i < l.length) (h : p l[i] = true) (hn : ∀ j (h : j < l.length), j < i → p l[j] = false) : idxBy p l = i := by
  have h1 : l.any p = true := List.any_eq_true.2 ⟨l[i], List.getElem_mem hi, h⟩
  rw [idxBy, if_pos h1]
  have : l.findIdx p = i := by
    rw [List.findIdx_eq hi]
    exact ⟨h, fun j hj => by simp [hn j (by omega) hj]⟩
  rw [this]
theorem idxBy_none {p : Int → Bool} {l : List Int} (hn : ∀ j (h : j < l.length), p l[j] = false) : idxBy p l = -1 := by
  have h1 : l.any p = false := by
    rw [List.any_eq_false]
    intro x hx
    obtain ⟨j, hj, rfl⟩ := List.getElem_of_mem hx
    simp [hn j hj]
  rw [idxBy, if_neg (by simp [h1])]
theorem idxBy_ge (p : Int → Bool) (l : List Int) : decide (0 ≤ idxBy p l) = l.any p := by
  unfold idxBy
  cases h : l.any p <;> simp [h]
set_option maxHeartbeats 1000000 in
theorem indexInt (a : Option Addr) (cap : Nat) (l : List Int) (x : Int) (w : World) (hl : Sl w (.slice a l.length cap) (ints l)) :
    Calls Tryz.prog 78 #[.slice a l.length cap, .int .i64 x] w fun e w' => e = .returned (.int .i64 (idxBy (fun y => x == y) l)) ∧ w = w' := by
  have HL := Lib.hid hl
  have hc := hl.len.2
  unfold maxLen at hc
  obtain ⟨hc1, hc2⟩ := hc
  clear hl
  go_enter Tryz.func78, Tryz.ntmps78
  go_wp2
  go_loopg [8] l.length (fun gg v8 wr => ∃ i : Nat, i ≤ l.length ∧ l.length - i ≤ gg ∧ v8 = .int .i64 i ∧ wr = w ∧ Hid (∀ j (h : j < l.length), j < i → (x == l[j]) = false))
  case atStart => exact ⟨0, by omega, by omega, rfl, rfl, fun j _ hj => by omega⟩
  case round =>
    obtain ⟨i, hi, hg, rfl, rfl, HN⟩ := hrel
    by_cases hlt : i < l.length
    · have hlt' : (i : Int) < (l.length : Int) := by omega
      obtain ⟨ba, oa, hae, hca⟩ := HL.out.at hlt
      have c1 := hca i (by rw [ints_len]; exact hlt)
      rw [ints_get] at c1
      obtain ⟨y, HX⟩ := nameIt (l[i]'hlt)
      rw [HX.out] at c1
      subst hae
      clear hca
      cases hp : (x == y) with
      | true =>
        have HE : Hid (idxBy (fun y => x == y) l = i) := idxBy_hit hlt (by rw [HX.out]; exact hp) HN.out
        go_wp2
        go_ret
        exact ⟨by rw [HE.out]; rfl, rfl⟩
      | false =>
        have HN2 : Hid (∀ j (h : j < l.length), j < i + 1 → (x == l[j]) = false) := by
          intro j h hj
          by_cases e : j = i
          · subst e; rw [HX.out]; exact hp
          · exact HN.out j h (by omega)
        go_wp2
        go_roundg (l.length - (i + 1))
        case measure => omega
        case rel => exact ⟨i + 1, by omega, by omega, by go_num, rfl, HN2⟩
    · have hlt' : ¬ (i : Int) < (l.length : Int) := by omega
      have HE : Hid (idxBy (fun y => x == y) l = -1) := idxBy_none fun j hj => HN.out j hj (by omega)
      go_wp2
      go_ret
      exact ⟨by rw [HE.out]; rfl, rfl⟩
set_option maxHeartbeats 1000000 in
theorem containsInt (a : Option Addr) (cap : Nat) (l : List Int) (x : Int) (w : World) (hl : Sl w (.slice a l.length cap) (ints l)) :
    Calls Tryz.prog 39 #[.slice a l.length cap, .int .i64 x] w fun e w' => e = .returned (.bool (l.any fun y => x == y)) ∧ w = w' := by
  have HL := Lib.hid hl
  clear hl
  go_enter Tryz.func39, Tryz.ntmps39
  go_wp2_with fail
  refine (indexInt a cap l x w HL.out).mono ?_
  rintro e w1 ⟨rfl, rfl⟩
  go_wp2
  go_ret
  exact ⟨by rw [idxBy_ge]; rfl, rfl⟩
end Go.Proofs.YtfocooehnmpndaaGreat
namespace Go.Proofs.YtfocooehnmpndaaGreat
open Go.RowKit
namespace Dm
open At (Ref refsS)
theorem SetP.blk {b c : Nat} {C : Inst → Bool} {w w' : World} (h : SetP b C c w) (e : w'.heap[b]? = w.heap[b]?) : SetP b C c w' := by
  obtain ⟨FF, ⟨D, h1, h2⟩, h3⟩ := h
  exact ⟨FF, ⟨D, ownsMap_sameU h1 e, h2⟩, h3⟩
theorem GetM.keepsS {l : List Inst} {Bd vb sb : Nat} {X : GetS} {w w' : World} {S : Nat → Prop} (h : GetM l Bd vb sb X w) (hk : Keeps S w w') (h1 : ¬ S vb) (h2 : ¬ S sb) : GetM l Bd vb sb X w' := by
  obtain ⟨⟨m, h3, h4⟩, ⟨k, h5, h6⟩⟩ := h
  exact ⟨⟨m, h3.keeps hk h2, h4⟩, ⟨k, h5.keeps hk h1, h6⟩⟩
structure EvB (g : Gram) (s : At.Sys) (L : List Nd) (ev tb eb vb sb cb : Nat) (wc : World) : Prop where
  tab : ∀ w, Keeps (CT3 vb sb cb) wc w → TbS g s L tb eb vb sb w
  hcv : cb ≠ vb
  hcs : cb ≠ sb
  hev : ev ≠ vb
  hes : ev ≠ sb
  hne : ev ≠ cb
  hvb : vb < wc.heap.size
  hsb : sb < wc.heap.size
structure EvS (g : Gram) (s : At.Sys) (L : List Nd) (ev tb eb vb sb cb : Nat) (wc : World) (C : Inst → Bool) (c : Nat) (X : GetS) (w : World) : Prop where
  keep : Keeps (CT3 vb sb cb) wc w
  inv : GetI s L (fun j => j ∈ allI g s L) (fun _ => False) X
  mem : GetM (allI g s L) 1000000000000 vb sb X w
  set : SetP cb C c w
  cn : CnS (allI g s L) C c
  cl : ∀ j, C j = true → ∀ k ∈ needsI s L j, C k = true
  box : w.heap[ev]? = some (.cells #[.pointer (some ⟨tb, 0, none⟩), .map (some cb)] 101 (0, 0))
section
variable {g : Gram} {s : At.Sys} {L : List Nd} {ev tb eb vb sb cb : Nat} {wc w w' : World} {C : Inst → Bool} {c : Nat} {X : GetS}
theorem EvS.below (h : EvS g s L ev tb eb vb sb cb wc C c X w) (hb : Below w.heap.size w w') : EvS g s L ev tb eb vb sb cb wc C c X w' :=
  ⟨Keeps.more h.keep (Below.keeps hb), h.inv, h.mem.keep hb, h.set.keep hb, h.cn, h.cl, bx_keep h.box hb⟩
theorem EvS.table (h : EvS g s L ev tb eb vb sb cb wc C c X w) (hB : EvB g s L ev tb eb vb sb cb wc) : TbS g s L tb eb vb sb w := hB.tab _ h.keep
theorem EvS.got (h : EvS g s L ev tb eb vb sb cb wc C c X w) (hB : EvB g s L ev tb eb vb sb cb wc) {Y : GetS} (hk : Keeps (CT vb sb) w w') (hi : GetI s L (fun j => j ∈ allI g s L) (fun _ => False) Y) (hm : GetM (allI g s L) 1000000000000 vb sb Y w') : EvS g s L ev tb eb vb sb cb wc C c Y w' := by
  have h1 := hB.hcv
  have h2 := hB.hcs
  have h3 := hB.hev
  have h4 := hB.hes
  exact ⟨Keeps.trans h.keep hk (fun k hk => .inl (.inl hk)), hi, hm, h.set.blk (hk.block cb h.set.lt (by unfold CT; omega)), h.cn, h.cl, hk.cells h.box (by unfold CT; omega)⟩
theorem EvS.counted (h : EvS g s L ev tb eb vb sb cb wc C c X w) (hB : EvB g s L ev tb eb vb sb cb wc) {C' : Inst → Bool} {c' : Nat} {i : Inst} (hk : Keeps (fun k => k = cb) w w') (ho : CoS s L C C' i) (hn : CnS (allI g s L) C' c') (hs : SetP cb C' c' w') : EvS g s L ev tb eb vb sb cb wc C' c' X w' := by
  have h1 := hB.hcv
  have h2 := hB.hcs
  have h4 := hB.hne
  exact ⟨Keeps.trans h.keep hk (fun k hk => .inl (.inr hk)), h.inv, h.mem.keepsS hk (by omega) (by omega), hs, hn, (ho.closed h.cl).1, hk.cells h.box h4⟩
end
set_option maxHeartbeats 2000000 in
set_option maxRecDepth 100000 in
theorem evCountE (g : Gram) (s : At.Sys) (L : List Nd) (ev tb eb vb sb cb : Nat) (wc : World) (C : Inst → Bool) (c : Nat) (X : GetS) (W : World) (h : EvS g s L ev tb eb vb sb cb wc C c X W) :
    Calls Tryz.prog 17 #[.pointer (some ⟨ev, 0, none⟩)] W fun e w' => e = .returned (.int .i64 (c : Int)) ∧ Below W.heap.size W w' := by
  obtain ⟨y0, y1⟩ := bx_cells2 h.box
  have hlen := h.set.len 3
  clear h
  go_enter Tryz.func17, Tryz.ntmps17
  go_wp2_with fail
  go_ret
  exact ⟨rfl, Below.refl _ _⟩
def instOf (g : Gram) (s : At.Sys) (L : List Nd) (p : List Int) (a : Int) (i : Inst) : Prop := atI L p = (i.1 : Int) ∧ a = (i.2 : Int) ∧ i ∈ allI g s L
def ValPost (g : Gram) (s : At.Sys) (L : List Nd) (ev tb eb vb sb cb : Nat) (wc : World) (C : Inst → Bool) (c : Nat) (X : GetS) (p : List Int) (a : Int) (W : World) (e : Ending) (w' : World) : Prop :=
  ∃ r er C' c' Y, e = .returned (.tuple #[.int .i64 r, .int .i64 er]) ∧ EvS g s L ev tb eb vb sb cb wc C' c' Y w' ∧ Keeps (fun k => k = vb ∨ k = sb ∨ k = cb) W w' ∧
    ((∀ i, ¬ instOf g s L p a i) → r = 0 ∧ er = 5 ∧ C' = C ∧ c' = c) ∧
    (∀ i, instOf g s L p a i → (∀ v, ¬ Vl s L i v) → r = 0 ∧ er = 9 ∧ C' = C ∧ c' = c) ∧
    (∀ i v, instOf g s L p a i → Vl s L i v → r = v ∧ er = 0 ∧ ∀ j, C' j = true ↔ C j = true ∨ Rs s L i j)
theorem atN_lt {L : List Nd} (hK : KidsOk L) : ∀ (p : List Int) (m n : Nat), m < L.length → atN L m p = some n → n < L.length
  | [], m, n, hm, h => by rw [atN] at h; cases h; exact hm
  | i :: p, m, n, hm, h => by
    rw [atN] at h
    by_cases hb : i < 0 ∨ ((ndAt L m).kids.length : Int) ≤ i
    · rw [if_pos hb] at h; cases h
    · rw [if_neg hb] at h
      have hk : i.toNat < (ndAt L m).kids.length := by omega
      obtain ⟨q, h1, h2⟩ := hK m hm i.toNat hk
      rw [List.getElem?_eq_getElem hk, h1] at h
      exact atN_lt hK p q n h2 h
theorem any_nat {l : List Nat} {a : Int} : ((natI l).any fun y => a == y) = true ↔ ∃ x ∈ l, a = (x : Int) := by
  unfold natI
  rw [List.any_map, List.any_eq_true]
  constructor
  · rintro ⟨x, hx, h⟩
    exact ⟨x, hx, by simpa using h⟩
  · rintro ⟨x, hx, h⟩
    exact ⟨x, hx, by simpa using h⟩
set_option maxHeartbeats 8000000 in
set_option maxRecDepth 100000 in
theorem valueE (g : Gram) (s : At.Sys) (T : Tree) (hs : At.checkS g s = 0) (hv : validT g T = true) (hroot : rootS g T = ⟨false, g.start⟩) (hal : s.attrs.length ≤ 2000000) (hsz : tsz T ≤ 1000000) (ev tb eb vb sb cb : Nat) (wc : World) (hB : EvB g s (tabT T) ev tb eb vb sb cb wc) (C : Inst → Bool) (c : Nat) (X : GetS) (p : List Int) (a : Int) (v : Value) (W : World) (h : EvS g s (tabT T) ev tb eb vb sb cb wc C c X W) (hp : Sl W v (ints p)) :
    Calls Tryz.prog 16 #[.pointer (some ⟨ev, 0, none⟩), v, .int .i64 a] W (ValPost g s (tabT T) ev tb eb vb sb cb wc C c X p a W) := by
  have HKO := Lib.hid (kids_ok hv)
  have HRULE : Hid (∀ i (hi : i < (tabT T).length), (tabT T)[i].rule < (g.rules.length : Int)) := fun i hi => by
    have hi2 := hi
    rw [tab_len] at hi2
    obtain ⟨x, u, pp, hK⟩ := known_all hv hi2
    have h1 := ndAt_known hK
    unfold ndAt at h1
    rw [List.getElem?_eq_getElem hi] at h1
    simp only [Option.getD_some] at h1
    rw [h1]
    by_cases hr : x.rule = -1
    · simp only [hr]; omega
    · obtain ⟨ri, e, h2, -⟩ := node_rule hv hK.2 hr
      simp only [e]; omega
  have HL0 : Hid (0 < (tabT T).length) := by show _ < _; rw [tab_len, tsz_eq]; omega
  have HGET := Lib.hid (getE g s T hs hv hroot hal hsz tb eb vb sb)
  have HCT := Lib.hid (countE g s T hs hv hroot hal hsz ev tb eb vb sb cb wc hB.tab hB.hne)
  have HOKI := Lib.hid (fun (i : Inst) (hi : i ∈ allI g s (tabT T)) => okI_of hs hv hroot hal hsz hi)
  have HALB := Lib.hid hal
  obtain ⟨PST, HP⟩ := nameIt (ValPost g s (tabT T) ev tb eb vb sb cb wc C c X p a W)
  obtain ⟨L, HL⟩ := nameIt (tabT T)
  rw [HL.out] at hB h HKO HL0
  simp only [HL.out] at HRULE HGET HCT HOKI
  rw [HL.out] at HP
  have HBB := Lib.hid hB
  have HS := Lib.hid h
  have HPOST : Hid (∀ r er C' c' Y w', EvS g s L ev tb eb vb sb cb wc C' c' Y w' → Keeps (fun k => k = vb ∨ k = sb ∨ k = cb) W w' → ((∀ i, ¬ instOf g s L p a i) → r = 0 ∧ er = 5 ∧ C' = C ∧ c' = c) → (∀ i, instOf g s L p a i → (∀ v, ¬ Vl s L i v) → r = 0 ∧ er = 9 ∧ C' = C ∧ c' = c) → (∀ i v, instOf g s L p a i → Vl s L i v → r = v ∧ er = 0 ∧ ∀ j, C' j = true ↔ C j = true ∨ Rs s L i j) → PST (.returned (.tuple #[.int .i64 r, .int .i64 er])) w') := fun r er C' c' Y w' h1 h2 h3 h4 h5 => by
    rw [← HP.out]
    exact ⟨r, er, C', c', Y, rfl, h1, h2, h3, h4, h5⟩
  rw [HL.out, HP.out]
  clear HP hs hv hroot hal hsz hB
  have HAT := Lib.hid (tabAtE g s L HKO.out HL0.out tb eb vb sb p v W (HS.out.table HBB.out) hp)
  have HATN : Hid (∀ n : Nat, atI L p = (n : Int) → n < L.length) := fun n hn => by
    unfold atI at hn
    cases e : atN L 0 p with
    | none => rw [e] at hn; simp only at hn; omega
    | some m =>
      rw [e] at hn
      simp only at hn
      have hmn : m = n := by omega
      subst hmn
      exact atN_lt HKO.out p 0 m HL0.out e
  have HAT1 : Hid (-1 ≤ atI L p) := by
    show _ ≤ _
    unfold atI
    split <;> omega
  obtain ⟨pa, pc, rfl⟩ := hp.form
  obtain ⟨pl, HPL⟩ := nameIt (ints p).length
  rw [HPL.out] at HAT
  rw [HPL.out]
  obtain ⟨nd, HND⟩ := nameIt (atI L p)
  simp only [HND.out] at HAT HATN HAT1
  obtain ⟨y0, y1⟩ := bx_cells2 h.box
  clear h hp
  go_enter Tryz.func16, Tryz.ntmps16
  go_wp2_with (refine HAT.out.mono ?_)
  rintro e1 w1 ⟨rfl, hb1⟩
  have HS1 := Lib.hid (HS.out.below hb1)
  have HB1 : Hid (Below W.heap.size W w1) := hb1
  clear hb1 y0 y1 HAT
  obtain ⟨y0, y1⟩ := bx_cells2 HS1.out.box
  by_cases hneg : nd < 0
  · have k1 : decide (nd < 0) = true := by simpa using hneg
    have HE := Lib.hid (HPOST.out 0 5 C c X w1 HS1.out (Below.keeps HB1.out) (fun _ => ⟨rfl, rfl, rfl, rfl⟩) (fun i hi => by
      have h1 := hi.1
      rw [HND.out] at h1
      omega) (fun i v hi => by
      have h1 := hi.1
      rw [HND.out] at h1
      omega))
    clear hneg
    go_wp2_with fail
    first | exact HE.out | (refine bodyPost_ret (results_tmp2 Tryz.results16 _ _ _) rfl ?_; exact HE.out)
  · have k1 : decide (nd < 0) = false := by simpa using hneg
    obtain ⟨n, rfl⟩ : ∃ n : Nat, nd = (n : Int) := ⟨nd.toNat, by omega⟩
    have HNL : Hid (n < L.length) := HATN.out n rfl
    have CAT := Lib.hid (attrsE g s L tb eb vb sb n w1 (HS1.out.table HBB.out) HNL.out (HRULE.out n HNL.out) (Nat.le_trans HALB.out (by decide)))
    clear hneg
    go_wp2_with (refine CAT.out.mono ?_)
    rintro e2 w2 ⟨v2, rfl, ho2, hb2⟩
    have HS2 := Lib.hid (HS1.out.below hb2)
    have HB2 : Hid (Below W.heap.size W w2) := HB1.out.trans (hb2.mono HB1.out.size)
    have hsl := sl_of_own ho2
    obtain ⟨a2, c2, rfl⟩ := hsl.form
    have hlen : (ints (natI (attrsAt g s L n))).length = (natI (attrsAt g s L n)).length := ints_len _
    rw [hlen] at hsl ⊢
    have CCO := Lib.hid (containsInt a2 c2 (natI (attrsAt g s L n)) a w2 hsl)
    have HANY : Hid (((natI (attrsAt g s L n)).any fun y => a == y) = true ↔ ∃ x ∈ attrsAt g s L n, a = (x : Int)) := any_nat
    obtain ⟨ct, HCTB⟩ := nameIt ((natI (attrsAt g s L n)).any fun y => a == y)
    rw [HCTB.out] at CCO HANY
    obtain ⟨al, HAL⟩ := nameIt (natI (attrsAt g s L n)).length
    rw [HAL.out] at CCO
    rw [HAL.out]
    clear y0 y1 ho2 hb2 hsl hlen CAT
    go_wp2_with (refine CCO.out.mono ?_)
    rintro e3 w3 ⟨rfl, rfl⟩
    cases ct with
    | false =>
      have HNO : Hid (∀ i, ¬ instOf g s L p a i) := fun i hi => by
        obtain ⟨h1, h2, h3⟩ := hi
        rw [HND.out] at h1
        have h4 : i.1 = n := by omega
        have := HANY.out.2 ⟨i.2, by rw [← h4]; exact (mem_allI.1 h3).2, h2⟩
        cases this
      have HE := Lib.hid (HPOST.out 0 5 C c X w2 HS2.out (Below.keeps HB2.out) (fun _ => ⟨rfl, rfl, rfl, rfl⟩) (fun i hi => absurd hi (HNO.out i)) (fun i v hi => absurd hi (HNO.out i)))
      go_wp2_with fail
      first | exact HE.out | (refine bodyPost_ret (results_tmp2 Tryz.results16 _ _ _) rfl ?_; exact HE.out)
    | true =>
      obtain ⟨x, hx, rfl⟩ := HANY.out.1 rfl
      have HIN : Hid ((n, x) ∈ allI g s L) := mem_allI.2 ⟨HNL.out, hx⟩
      have HONLY : Hid (∀ i, instOf g s L p (x : Int) i → i = (n, x)) := fun i hi => by
        obtain ⟨h1, h2, _⟩ := hi
        rw [HND.out] at h1
        exact Prod.ext (by omega) (by omega)
      have HIS : Hid (instOf g s L p (x : Int) (n, x)) := ⟨HND.out, rfl, HIN.out⟩
      clear hx
      obtain ⟨w4, HW4⟩ := nameIt (w2.alloc (.cells #[.int .i64 (n : Int), .int .i64 (x : Int)] 104))
      have hb4 : Below w2.heap.size w2 w4 := by rw [← HW4.out]; exact (Below.refl _ _).alloc (Nat.le_refl _) _
      have X4 : Hid (w4.heap[w2.heap.size]? = some (.cells #[.int .i64 (n : Int), .int .i64 (x : Int)] 104 (0, 0))) := by rw [← HW4.out]; exact bx_new _ _ _ rfl
      have HS4 := Lib.hid (HS2.out.below hb4)
      have HB4 : Hid (Below W.heap.size W w4) := HB2.out.trans (hb4.mono HB2.out.size)
      obtain ⟨pb, HPB⟩ := nameIt w2.heap.size
      rw [HPB.out] at X4
      have HPBW : Hid (W.heap.size ≤ pb) := by show _ ≤ _; rw [← HPB.out]; exact HB2.out.size
      clear hb4
      go_upto_region 5 with fail
      rw [HW4.out]
      try rw [HPB.out]
      clear HW4
-- R5
      obtain ⟨y0, y1⟩ := bx_cells2 HS4.out.box
      obtain ⟨z0, z1⟩ := bx_cells2 X4.out
      have HCS : Hid (∀ w', Below w4.heap.size w4 w' → w'.cell? ⟨ev, 0, none⟩ = some (.pointer (some ⟨tb, 0, none⟩)) ∧ w'.cell? ⟨pb, 0, none⟩ = some (.int .i64 (n : Int)) ∧ w'.cell? ⟨pb, 0 + 1, none⟩ = some (.int .i64 (x : Int))) := fun w' hb => ⟨(hb.cell (lt_of_cell y0)).trans y0, (hb.cell (lt_of_cell z0)).trans z0, (hb.cell (lt_of_cell z1)).trans z1⟩
      have HBR : Hid (Below w4.heap.size w4 w4.drew) := (Below.refl _ _).drew
      have HSD := Lib.hid (HS4.out.below HBR.out)
      have HCG := Lib.hid (HGET.out (cnt0 (allI g s L) X + 1) 1000000000000 X (fun _ => False) n x w4.drew (Nat.lt_succ_self _) (Nat.le_refl _) HIN.out HSD.out.inv (fun j hj => hj.elim) (HSD.out.table HBB.out) HSD.out.mem)
      clear y0 y1 z0 z1
      refine wp_region_V (S := (fun (_ : Array Bool) (w' : World) => w'.cell? ⟨ev, 0, none⟩ = some (.pointer (some ⟨tb, 0, none⟩)) ∧ w'.cell? ⟨pb, 0, none⟩ = some (.int .i64 (n : Int)) ∧ w'.cell? ⟨pb, 0 + 1, none⟩ = some (.int .i64 (x : Int)))) (by kernel_rfl) (fun hcl => ?_)
      refine wpV_take (i := 0) (v := .pointer (some ⟨ev, 0, none⟩)) (T := (fun _ : World => True)) rfl hcl (by kernel_rfl) (by kernel_rfl) (by kernel_rfl) (fun _ _ _ h => h) (fun l w h => h) (fun _ _ _ _ _ => trivial) (Or.inl ⟨by rfl, fun w' hw' => ?_⟩) (HCS.out _ HBR.out) (fun hcl => ?_)
      · clear hw'
        go_simp
      try simp only [Act.put, List.setIfInBounds_toArray, List.set_cons_zero, List.set_cons_succ]
      refine wpV_take (i := 1) (v := .pointer (some ⟨ev, 0, none⟩)) (T := (fun _ : World => True)) rfl hcl (by kernel_rfl) (by kernel_rfl) (by kernel_rfl) (fun _ _ _ h => h) (fun l w h => h) (fun _ _ _ _ _ => trivial) (Or.inl ⟨by rfl, fun w' hw' => ?_⟩) (HCS.out _ HBR.out) (fun hcl => ?_)
      · clear hw'
        go_simp
      try simp only [Act.put, List.setIfInBounds_toArray, List.set_cons_zero, List.set_cons_succ]
      refine wpV_take (i := 2) (v := .pointer (some ⟨ev, 0, none⟩)) (T := (fun _ : World => True)) rfl hcl (by kernel_rfl) (by kernel_rfl) (by kernel_rfl) (fun _ _ _ h => h) (fun l w h => h) (fun _ _ _ _ _ => trivial) (Or.inl ⟨by rfl, fun w' hw' => ?_⟩) (HCS.out _ HBR.out) (fun hcl => ?_)
      · clear hw'
        go_simp
      try simp only [Act.put, List.setIfInBounds_toArray, List.set_cons_zero, List.set_cons_succ]
      refine wpV_take (i := 3) (v := .pointer (some ⟨tb, 0, none⟩)) (T := (fun w' : World => w'.cell? ⟨ev, 0, none⟩ = some (.pointer (some ⟨tb, 0, none⟩)) ∧ w'.cell? ⟨pb, 0, none⟩ = some (.int .i64 (n : Int)) ∧ w'.cell? ⟨pb, 0 + 1, none⟩ = some (.int .i64 (x : Int)))) rfl hcl (by kernel_rfl) (by kernel_rfl) (by kernel_rfl) (fun _ _ _ h => h) (fun l w h => h) (fun l w _ _ h => h) (Or.inl ⟨by rfl, fun w' hw' => ?_⟩) (HCS.out _ HBR.out) (fun hcl => ?_)
      · obtain ⟨h0, h1, h2⟩ := hw'
        go_simp
      try simp only [Act.put, List.setIfInBounds_toArray, List.set_cons_zero, List.set_cons_succ]
      refine wpV_take (i := 4) (v := .agg #[.int .i64 (n : Int), .int .i64 (x : Int)]) (T := (fun w' : World => w'.cell? ⟨ev, 0, none⟩ = some (.pointer (some ⟨tb, 0, none⟩)) ∧ w'.cell? ⟨pb, 0, none⟩ = some (.int .i64 (n : Int)) ∧ w'.cell? ⟨pb, 0 + 1, none⟩ = some (.int .i64 (x : Int)))) rfl hcl (by kernel_rfl) (by kernel_rfl) (by kernel_rfl) (fun _ _ _ h => h) (fun l w h => h) (fun l w _ _ h => h) (Or.inl ⟨by rfl, fun w' hw' => ?_⟩) (HCS.out _ HBR.out) (fun hcl => ?_)
      · obtain ⟨h0, h1, h2⟩ := hw'
        go_simp
      try simp only [Act.put, List.setIfInBounds_toArray, List.set_cons_zero, List.set_cons_succ]
      refine wpV_one (i := 5) (by kernel_rfl) rfl (fun K hK => ?_)
      go_simp
      go_at_call 41
      refine HCG.out.mono ?_
      rintro e5 w5 ⟨r5, ok5, Y5, rfl, R5⟩
      have HR5 := Lib.hid R5
      have HE5 := Lib.hid (HSD.out.got HBB.out R5.keep R5.inv R5.mem)
      have HX5 : Hid (w5.heap[pb]? = some (.cells #[.int .i64 (n : Int), .int .i64 (x : Int)] 104 (0, 0))) := R5.keep.cells (bx_keep X4.out HBR.out) (by have h1 := HBB.out.hvb; have h2 := HBB.out.hsb; have h3 := HS.out.keep.size; have h4 := HPBW.out; unfold CT; omega)
      have HCS5 : Hid (w5.cell? ⟨ev, 0, none⟩ = some (.pointer (some ⟨tb, 0, none⟩)) ∧ w5.cell? ⟨pb, 0, none⟩ = some (.int .i64 (n : Int)) ∧ w5.cell? ⟨pb, 0 + 1, none⟩ = some (.int .i64 (x : Int))) := ⟨(bx_cells2 HE5.out.box).1, (bx_cells2 HX5.out).1, (bx_cells2 HX5.out).2⟩
      clear R5
      refine hK.out _ _ HCS5.out ?_
      clear hK K
      try simp only [Act.put, List.setIfInBounds_toArray, List.set_cons_zero, List.set_cons_succ]
      replace hcl := ClV.setB (i := 5) hcl (by kernel_rfl)
      refine wpV_take (i := 6) (v := .tuple #[.int .i64 r5, .bool ok5]) (T := (fun _ : World => True)) rfl hcl (by kernel_rfl) (by kernel_rfl) (by kernel_rfl) (fun _ _ _ h => h) (fun l w h => h) (fun _ _ _ _ _ => trivial) (Or.inl ⟨by rfl, fun w' hw' => ?_⟩) HCS5.out (fun hcl => ?_)
      · clear hw'
        go_simp
      try simp only [Act.put, List.setIfInBounds_toArray, List.set_cons_zero, List.set_cons_succ]
      refine wpV_take (i := 7) (v := .int .i64 r5) (T := (fun _ : World => True)) rfl hcl (by kernel_rfl) (by kernel_rfl) (by kernel_rfl) (fun _ _ _ h => h) (fun l w h => h) (fun _ _ _ _ _ => trivial) (Or.inl ⟨by rfl, fun w' hw' => ?_⟩) HCS5.out (fun hcl => ?_)
      · clear hw'
        go_simp
      try simp only [Act.put, List.setIfInBounds_toArray, List.set_cons_zero, List.set_cons_succ]
      refine wpV_take (i := 8) (v := .bool ok5) (T := (fun _ : World => True)) rfl hcl (by kernel_rfl) (by kernel_rfl) (by kernel_rfl) (fun _ _ _ h => h) (fun l w h => h) (fun _ _ _ _ _ => trivial) (Or.inl ⟨by rfl, fun w' hw' => ?_⟩) HCS5.out (fun hcl => ?_)
      · clear hw'
        go_simp
      try simp only [Act.put, List.setIfInBounds_toArray, List.set_cons_zero, List.set_cons_succ]
      refine wpV_one (i := 9) (by kernel_rfl) rfl (fun K hK => ?_)
      go_simp
      refine hK.out _ _ HCS5.out ?_
      clear hK K
      try simp only [Act.put, List.setIfInBounds_toArray, List.set_cons_zero, List.set_cons_succ]
      refine wpV_one (i := 10) (by kernel_rfl) rfl (fun K hK => ?_)
      go_simp
      refine hK.out _ _ HCS5.out ?_
      clear hK K
      try simp only [Act.put, List.setIfInBounds_toArray, List.set_cons_zero, List.set_cons_succ]
      refine wpV_done (by kernel_rfl) ?_ _
      have HK5 : Hid (Keeps (fun k => k = vb ∨ k = sb ∨ k = cb) W w5) := Keeps.trans (Keeps.more (Below.keeps HB4.out) (Below.keeps HBR.out)) HR5.out.keep (fun k hk => .inl (by rcases hk with h | h; exact .inl h; exact .inr (.inl h)))
      cases ok5 with
      | false =>
        have HNOV : Hid (∀ v, ¬ Vl s L (n, x) v) := HR5.out.no rfl
        have HE := Lib.hid (HPOST.out 0 9 C c Y5 w5 HE5.out HK5.out (fun h => absurd HIS.out (h _)) (fun i hi _ => ⟨rfl, rfl, rfl, rfl⟩) (fun i v hi hv => absurd (by rw [← HONLY.out i hi]; exact hv) (HNOV.out v)))
        go_wp2_with fail
        first | exact HE.out | (refine bodyPost_ret (results_tmp2 Tryz.results16 _ _ _) rfl ?_; exact HE.out)
      | true =>
        have HVL : Hid (Vl s L (n, x) r5) := by
          have h1 := HR5.out.yes rfl
          have h2 := HR5.out.inv.two _ h1.1
          rw [h1.2] at h2
          exact h2
        have CC := Lib.hid (HCT.out ((allI g s L).length - c + 1) C c n x w5 (Nat.lt_succ_self _) HE5.out.cn HIN.out HE5.out.keep HE5.out.set HE5.out.box)
        obtain ⟨z0, z1⟩ := bx_cells2 HX5.out
        go_wp2_with (refine CC.out.mono ?_)
        rintro e6 w6 ⟨rfl, C', c', hco, hcn, hle, hst, hk6⟩
        have HE6 := HE5.out.counted HBB.out hk6 hco hcn hst
        have hcl6 := (hco.closed HE5.out.cl).2
        have HE := Lib.hid (HPOST.out r5 0 C' c' Y5 w6 HE6 (Keeps.trans HK5.out hk6 (fun k hk => .inl (.inr (.inr hk)))) (fun h => absurd HIS.out (h _)) (fun i hi hn => absurd HVL.out (by rw [← HONLY.out i hi]; exact hn r5)) (fun i v hi hv => by
          have e := HONLY.out i hi
          subst e
          exact ⟨HVL.out.unique hv, rfl, hcl6⟩))
        clear hco hcn hle hst hk6 HE6 hcl6 z0 z1 CC
        go_wp2_with fail
        first | exact HE.out | (refine bodyPost_ret (results_tmp2 Tryz.results16 _ _ _) rfl ?_; exact HE.out)
end Dm
end Go.Proofs.YtfocooehnmpndaaGreat
namespace Go.Proofs.YtfocooehnmpndaaGreat
open Go.RowKit
namespace Dm
def AttrsCPost (l : List At.Attr) (w : World) (e : Ending) (w' : World) : Prop :=
  ∃ a c, e = .returned (.slice a l.length c) ∧ Rd (fun k => w.heap.size ≤ k) w' (.sl (l.map At.Attr.d)) [.slice a l.length c] ∧ Below w.heap.size w w'
theorem attrsW {S S' : Nat → Prop} {w w' : World} {sy : List At.Attr} {xs : List Value} (h : RdAll S w (sy.map At.Attr.d) xs) : RdAll S' w' (sy.map At.Attr.d) xs := by
  induction sy generalizing xs with
  | nil => exact h
  | cons s sy ih =>
    obtain ⟨c1, c2, rfl, h1, h2⟩ := h
    refine ⟨c1, c2, rfl, ?_, ih h2⟩
    obtain ⟨d1, d2, rfl, h3, h4⟩ := h1
    rw [RdAll.one_iff] at h4
    simp [Rd] at h3 h4
    subst h3 h4
    exact ⟨[_], _, rfl, by simp [Rd], RdAll.one (by simp [Rd])⟩
theorem elAttrD : ElemT Tryz.prog 25 88 2 16 := ElemT.mk' (z := .agg #[.int .i64 0, .bool false]) (by kernel_rfl) (by kernel_rfl) rfl (by decide)
set_option maxHeartbeats 1000000 in
theorem cloneAttrs (l : List At.Attr) (a : Option Addr) (c : Nat) (w : World) (h : Rd AnyB w (.sl (l.map At.Attr.d)) [.slice a l.length c]) (hb : l.length ≤ 2000000) :
    Calls Tryz.prog 76 #[.slice a l.length c] w (AttrsCPost l w) := by
  have hnil := fun (w : World) (a : Option Addr) (n c : Nat) => Lib.run_eql_slice_nil (P := Tryz.prog) w 25 88 a n c 0 0 Tryz.underlying25
  cases a with
  | none =>
    have hl : l = [] := by
      cases l with
      | nil => rfl
      | cons x l => obtain ⟨b, off, e, _⟩ := At.Rd.attr_at h (i := 0) (by simp); cases e
    subst hl
    go_enter Tryz.func76, Tryz.ntmps76
    go_wp2
    go_ret
    exact ⟨none, 0, rfl, ⟨none, 0, [], rfl, by simp, by simp [maxLen], fun _ => rfl, fun i hi => by simp at hi, rfl⟩, Below.refl _ _⟩
  | some x =>
    have hb1 : Below w.heap.size w (w.alloc (.cells #[] 88)) := (Below.refl _ _).alloc (Nat.le_refl _) _
    have HV := Lib.hid (h.below hb1)
    have HO : Hid ((w.alloc (.cells #[] 88)).ownsRow w.heap.size 88 2 (.slice (some ⟨w.heap.size, 0, none⟩) 0 0) 0 []) := World.ownsRow_made w #[] 0 (Nat.le_refl _) (by simp) rfl
    have HB1 := Lib.hid hb1
    have HML : Hid ((l.map At.Attr.d).length = l.length) := by show _ = _; simp
    clear h hb1
    go_enter Tryz.func76, Tryz.ntmps76
    go_wp2_with (at_builtin; refine wp_appD elAttrD rfl _ _ rfl HO.out rfl HV.out rfl (At.attrs_cells l) (by rw [HML.out]; omega) (by rw [HML.out]; unfold maxLen; omega) (by simp) ?_)
    intro v' w' L hd ho hg hat
    have hb2 : Below w.heap.size w w' := HB1.out.trans (below_grown hg (by simp) (fun k hk => by simp [Value.ownBlock] at hk; omega))
    have hrow : Rd (fun k => w.heap.size ≤ k) w' (.sl (l.map At.Attr.d)) [v'] := rd_of_own ho (by simpa using attrsW hd) (by simp) (fun k e => (ho.lt k e).1)
    obtain ⟨a', c', rfl, -, -⟩ := hrow.form
    rw [HML.out] at hrow
    rw [HML.out]
    have HR := Lib.hid hrow
    have HB2 := Lib.hid hb2
    clear hd ho hg hat hb2 hrow
    go_wp2
    go_ret
    exact ⟨a', c', rfl, HR.out, HB2.out⟩
end Dm
end Go.Proofs.YtfocooehnmpndaaGreat
namespace Go.Proofs.YtfocooehnmpndaaGreat
open Go.RowKit
namespace Dm
open At (Ref)
theorem elEqD : ElemT Tryz.prog 26 90 8 80 := ElemT.mk' (z := .agg #[.int .i64 0, .int .i64 0, .int .i64 0, .int .i64 0, .int .i64 0, .int .i64 0, .int .i64 0, .slice none 0 0]) (by kernel_rfl) (by kernel_rfl) rfl (by decide)
theorem rd_eqnD {S : Nat → Prop} {w : World} {q : At.Eqn} {v : Value} (h : Rd S w (.sl (q.is'.args.map At.Expr.d)) [v]) : Rd S w q.d [.int .i64 q.rule, .int .i64 q.to'.at', .int .i64 q.to'.attr, .int .i64 q.is'.kind, .int .i64 q.is'.n, .int .i64 q.is'.ref.at', .int .i64 q.is'.ref.attr, v] := by
  refine ⟨[_], _, rfl, by simp [Rd], [_, _], _, rfl, At.rd_ref q.to', RdAll.one ?_⟩
  exact At.rd_expr (x := q.is') h
structure CpS (s : At.Sys) (tb B : Nat) (ca : Value) (w2 : World) (i : Nat) (vr : Value) (wr : World) : Prop where
  box : wr.heap[tb]? = some (.cells #[ca, vr] 28 (0, 0))
  row : RowD (fun k => B ≤ k) B 90 8 ((s.eqs.take i).map At.Eqn.d) vr wr
  keep : Keeps (fun k => k = tb) w2 wr
theorem CpS.step {s : At.Sys} {tb B g cap i : Nat} {ca vr v : Value} {w2 w3 w4 : World} {xs : List Value} {q : At.Eqn} (h : CpS s tb B ca w2 i vr w3) (hi : i < s.eqs.length) (hq : s.eqs[i] = q) (hB : w2.heap.size = B) (htb : tb < B) (ho : w3.ownsRow B 90 8 vr i xs) (hd : RdAll (fun k => B ≤ k ∧ vr.ownBlock ≠ some k) w3 ((s.eqs.take i).map At.Eqn.d) xs)
    (hr : Rd (fun k => B ≤ k ∧ vr.ownBlock ≠ some k) w3 (.sl (q.is'.args.map At.Expr.d)) [v])
    (ho4 : w4.ownsRow B 90 8 (.slice (some ⟨g, 0, none⟩) (i + 1) cap) (i + 1) (xs ++ [.int .i64 q.rule, .int .i64 q.to'.at', .int .i64 q.to'.attr, .int .i64 q.is'.kind, .int .i64 q.is'.n, .int .i64 q.is'.ref.at', .int .i64 q.is'.ref.attr, v])) (hg : w3.grownBy w4 vr.ownBlock) (hat : vr.ownBlock = some g ∨ g = w3.heap.size) :
    w4.heap[tb]? = some (.cells #[ca, vr] 28 (0, 0)) ∧ CpS s tb B ca w2 (i + 1) (.slice (some ⟨g, 0, none⟩) (i + 1) cap) (w4.setCell ⟨tb, 1, none⟩ (.slice (some ⟨g, 0, none⟩) (i + 1) cap)) := by
  have hlt := (Array.getElem?_eq_some_iff.1 h.box).1
  have hb4 : w4.heap[tb]? = some (.cells #[ca, vr] 28 (0, 0)) := by
    rw [hg.block tb hlt (fun e => by have := (ho.lt tb e.symm).1; omega)]; exact h.box
  have hl : i = ((s.eqs.take i).map At.Eqn.d).length := by simp; omega
  have hrow := RowD.step (es := [q.d]) ho hd hl (RdAll.one (rd_eqnD hr)) (fun k hk _ => hk) h.row.le ho4 hg (at_lies hat)
  have hks : Keeps (fun k => k = tb) w4 (w4.setCell ⟨tb, 1, none⟩ (.slice (some ⟨g, 0, none⟩) (i + 1) cap)) := keeps_grown (grown_cell _ _ _) rfl
  refine ⟨hb4, ?_, ?_, ?_⟩
  · rw [bx_set hb4]; rfl
  · rw [List.take_succ_eq_append_getElem hi, hq, List.map_append]
    exact rowD_keeps hrow hks (fun k hk e => by omega) (fun k hk e => by have h : B ≤ k := hk; omega)
  · exact Keeps.more (keeps_own h.keep hg (fun k e => by rw [hB]; exact (ho.lt k e).1)) hks
theorem CpS.below {s : At.Sys} {tb B i : Nat} {ca vr : Value} {w2 w3 w4 : World} (h : CpS s tb B ca w2 i vr w3) (hb : Below w3.heap.size w3 w4) : CpS s tb B ca w2 i vr w4 :=
  ⟨bx_keep h.box hb, h.row.keep hb, Keeps.more h.keep (Below.keeps hb)⟩
def CopySPost (s : At.Sys) (w : World) (e : Ending) (w' : World) : Prop := ∃ a c a' c', e = .returned (.agg #[.slice a s.attrs.length c, .slice a' s.eqs.length c']) ∧ Rd (fun k => w.heap.size ≤ k) w' (.sl (s.attrs.map At.Attr.d)) [.slice a s.attrs.length c] ∧ Rd (fun k => w.heap.size ≤ k) w' (.sl (s.eqs.map At.Eqn.d)) [.slice a' s.eqs.length c'] ∧ Below w.heap.size w w'
set_option maxHeartbeats 8000000 in
set_option maxRecDepth 100000 in
theorem copySysE (s : At.Sys) (aa qa : Option Addr) (ac qc : Nat) (W : World) (hal : s.attrs.length ≤ 2000000) (hql : s.eqs.length ≤ 200) (hsz : ∀ q ∈ s.eqs, q.is'.size ≤ 30)
    (ha : Rd AnyB W (.sl (s.attrs.map At.Attr.d)) [.slice aa s.attrs.length ac]) (hq : Rd AnyB W (.sl (s.eqs.map At.Eqn.d)) [.slice qa s.eqs.length qc]) :
    Calls Tryz.prog 37 #[.agg #[.slice aa s.attrs.length ac, .slice qa s.eqs.length qc]] W (CopySPost s W) := by
  obtain ⟨w0, HW0⟩ := nameIt ((W.alloc (.cells #[.slice aa s.attrs.length ac, .slice qa s.eqs.length qc] 28)).alloc (.cells #[.slice none 0 0, .slice none 0 0] 28))
  have hb0 : Below W.heap.size W w0 := by rw [← HW0.out]; exact ((Below.refl _ _).alloc (Nat.le_refl _) _).alloc (by simp) _
  have X0 : Hid (w0.heap[W.heap.size]? = some (.cells #[.slice aa s.attrs.length ac, .slice qa s.eqs.length qc] 28 (0, 0))) := by rw [← HW0.out]; exact bx_keep (bx_new _ _ _ rfl) ((Below.refl _ _).alloc (Nat.le_refl _) _)
  have X1 : Hid (w0.heap[W.heap.size + 1]? = some (.cells #[.slice none 0 0, .slice none 0 0] 28 (0, 0))) := by rw [← HW0.out]; exact bx_new _ _ _ (by simp)
  have HB0 := Lib.hid hb0
  have HCL := Lib.hid (cloneAttrs s.attrs aa ac w0 (ha.below hb0) hal)
  have HQ := Lib.hid hq
  have HSZ := Lib.hid hsz
  obtain ⟨PST, HP⟩ := nameIt (CopySPost s W)
  have HPN := HP
  rw [HP.out]
  clear HP
  have hqb := hq.bounds.2
  unfold maxLen at hqb
  obtain ⟨al, HAL⟩ := nameIt s.attrs.length
  obtain ⟨ql, HQL⟩ := nameIt s.eqs.length
  rw [HAL.out, HQL.out] at X0 HW0
  rw [HAL.out] at HCL
  rw [HQL.out] at hql hqb
  rw [HAL.out, HQL.out]
  obtain ⟨y0, y1⟩ := bx_cells2 X0.out
  clear hb0 ha hq hsz hal
  go_enter Tryz.func37, Tryz.ntmps37
  go_upto_region 1 with fail
  rw [HW0.out]
  clear HW0
  go_wp2_with (refine HCL.out.mono ?_)
  rintro e1 w1 ⟨ca, cc, rfl, hca, hb1⟩
  rw [HAL.out] at hca ⊢
  have HCA := Lib.hid hca
  have HB1 : Hid (Below w0.heap.size w0 w1) := hb1
  clear hca hb1 y0 y1 HCL
  obtain ⟨w2, HW2⟩ := nameIt (w1.alloc (.cells #[.slice ca al cc, .slice none 0 0] 28))
  have hb2 : Below w1.heap.size w1 w2 := by rw [← HW2.out]; exact (Below.refl _ _).alloc (Nat.le_refl _) _
  have X2 : Hid (w2.heap[w1.heap.size]? = some (.cells #[.slice ca al cc, .slice none 0 0] 28 (0, 0))) := by rw [← HW2.out]; exact bx_new _ _ _ rfl
  have HB2 : Hid (Below w0.heap.size w0 w2) := HB1.out.trans (hb2.mono HB1.out.size)
  have HCA2 := Lib.hid (HCA.out.below hb2)
  obtain ⟨tb, HTB⟩ := nameIt w1.heap.size
  rw [HTB.out] at X2
  have HTBS : Hid (tb < w2.heap.size) := (Array.getElem?_eq_some_iff.1 X2.out).1
  have HTB0 : Hid (w0.heap.size ≤ tb) := by show _ ≤ _; rw [← HTB.out]; exact HB1.out.size
  obtain ⟨B, HBn⟩ := nameIt w2.heap.size
  have HI0 : Hid (CpS s tb B (.slice ca al cc) w2 0 (.slice none 0 0) w2) := ⟨X2.out, RowD.nil _ _ _ _ _ (by rw [HBn.out]; exact Nat.le_refl _), Below.keeps (Below.refl _ _)⟩
  obtain ⟨y0, y1⟩ := bx_cells2 (bx_keep X0.out HB2.out)
  have HB12 := Lib.hid hb2
  clear hb2
  go_upto_region 2 with fail
  rw [HW2.out]
  try rw [HTB.out]
  clear HW2
  go_wp2_with fail
  clear y0 y1
  go_loopg [5, 13] ql (fun gg v5 v13 wr => ∃ (i : Nat) (vr : Value), i ≤ ql ∧ ql - i ≤ gg ∧ v13 = .int .i64 i ∧ Hid (CpS s tb B (.slice ca al cc) w2 i vr wr))
  case atStart => exact ⟨0, _, by omega, by omega, rfl, HI0⟩
  case round =>
    obtain ⟨i, vr, hi, hg, rfl, HI⟩ := hrel
    clear HI0
    by_cases hlt : i < ql
    · have hlt' : (i : Int) < (ql : Int) := by omega
      have hiK : i < s.eqs.length := by rw [HQL.out]; exact hlt
      obtain ⟨w5, rfl⟩ : ∃ ww : World, ww = wr := ⟨_, rfl⟩
      obtain ⟨ar, cr, hvr, hr1, hr2, hvb⟩ := HI.out.row.form
      have hil : (s.eqs.take i).length = i := by simp; omega
      rw [List.length_map, hil] at hvr hr1
      subst hvr
      unfold maxLen at hr2
      have hWr : Below W.heap.size W w5 := (HB0.out.trans (HB2.out.mono HB0.out.size)).trans (HI.out.keep.below (fun k e => by have h1 := HTB0.out; have h2 := HB0.out.size; have e : k = tb := e; omega) (by have h1 := HB0.out.size; have h2 := HB2.out.size; omega))
      obtain ⟨b, off, v, hae, -, hbl, e0, e1, e2, e3, e4, e5, e6, e7, hkid⟩ := At.Rd.eqn_at (HQ.out.below hWr) hiK
      obtain ⟨av, cv, rfl, -, -⟩ := hkid.form
      rw [List.length_map] at e7 hkid
      have hms := HSZ.out _ (List.getElem_mem hiK)
      have hcx := fun W (hb : Below w5.heap.size w5 W) => At.copyExprE 30 s.eqs[i].is' _ W hms (by decide) (hkid.below hb)
      obtain ⟨q, HQI⟩ := nameIt (s.eqs[i]'hiK)
      rw [HQI.out] at e0 e1 e2 e3 e4 e5 e6 e7 hcx
      obtain ⟨nv, HNV⟩ := nameIt q.is'.args.length
      obtain ⟨q0, HQ0⟩ := nameIt q.rule
      obtain ⟨q1, HQ1⟩ := nameIt q.to'.at'
      obtain ⟨q2, HQ2⟩ := nameIt q.to'.attr
      obtain ⟨q3, HQ3⟩ := nameIt q.is'.kind
      obtain ⟨q4, HQ4⟩ := nameIt q.is'.n
      obtain ⟨q5, HQ5⟩ := nameIt q.is'.ref.at'
      obtain ⟨q6, HQ6⟩ := nameIt q.is'.ref.attr
      rw [HQ0.out] at e0
      rw [HQ1.out] at e1
      rw [HQ2.out] at e2
      rw [HQ3.out] at e3
      rw [HQ4.out] at e4
      rw [HQ5.out] at e5
      rw [HQ6.out] at e6
      rw [HNV.out] at e7
      simp only [HQ3.out, HQ4.out, HQ5.out, HQ6.out, HNV.out] at hcx
      obtain ⟨w6, HW6⟩ := nameIt (w5.alloc (.cells #[.int .i64 q0, .int .i64 q1, .int .i64 q2, .int .i64 q3, .int .i64 q4, .int .i64 q5, .int .i64 q6, .slice av nv cv] 90))
      have hb6 : Below w5.heap.size w5 w6 := by rw [← HW6.out]; exact (Below.refl _ _).alloc (Nat.le_refl _) _
      have X6 : Hid (w6.heap[w5.heap.size]? = some (.cells #[.int .i64 q0, .int .i64 q1, .int .i64 q2, .int .i64 q3, .int .i64 q4, .int .i64 q5, .int .i64 q6, .slice av nv cv] 90 (0, 0))) := by rw [← HW6.out]; exact bx_new _ _ _ rfl
      have HI6 := Lib.hid (HI.out.below hb6)
      obtain ⟨xs, ho, hd⟩ := HI6.out.row.own
      rw [List.length_map, hil] at ho
      have HO := Lib.hid ho
      have HD := Lib.hid hd
      have HCX : Hid (∀ W', Below w6.heap.size w6 W' → Calls Tryz.prog 77 #[.agg #[.int .i64 q3, .int .i64 q4, .int .i64 q5, .int .i64 q6, .slice av nv cv]] W' (At.CopyPost q.is' W')) := fun W' hb => hcx W' (hb6.trans (hb.mono hb6.size))
      have HQIN := Lib.hid HQI.out
      have HIKN := Lib.hid hiK
      have hrs6 : tb < w6.heap.size := (Array.getElem?_eq_some_iff.1 HI6.out.box).1
      have hbw6 : B ≤ w6.heap.size := HI6.out.row.le
      obtain ⟨eb, HEB⟩ := nameIt w5.heap.size
      rw [HEB.out] at X6
      have heb6 : eb < w6.heap.size := (Array.getElem?_eq_some_iff.1 X6.out).1
      have HTBB : Hid (tb < B) := by show _ < _; rw [← HBn.out]; exact HTBS.out
      have HEBB : Hid (B ≤ eb) := by show _ ≤ _; rw [← HEB.out]; exact HI.out.row.le
      have HVE : Hid (∀ k, (Value.slice ar i cr).ownBlock = some k → B ≤ k ∧ k < eb) := fun k e => by rw [← HEB.out]; exact hvb k e
      have HBR : Hid (Below w6.heap.size w6 w6.drew) := (Below.refl _ _).drew
      have HCS : Hid (∀ W', Below w6.heap.size w6 W' → (fun w' : World => w'.cell? ⟨tb, 0 + 1, none⟩ = some (.slice ar i cr) ∧ w'.cell? ⟨eb, 0, none⟩ = some (.int .i64 q0) ∧ w'.cell? ⟨eb, 0 + 1, none⟩ = some (.int .i64 q1) ∧ w'.cell? ⟨eb, 0 + 1 + 1, none⟩ = some (.int .i64 q2) ∧ w'.cell? ⟨eb, 0 + 3, none⟩ = some (.int .i64 q3) ∧ w'.cell? ⟨eb, 0 + 3 + 1, none⟩ = some (.int .i64 q4) ∧ w'.cell? ⟨eb, 0 + 3 + 2, none⟩ = some (.int .i64 q5) ∧ w'.cell? ⟨eb, 0 + 3 + 2 + 1, none⟩ = some (.int .i64 q6) ∧ w'.cell? ⟨eb, 0 + 3 + 4, none⟩ = some (.slice av nv cv)) W') := fun W' hb => by
        obtain ⟨-, a1⟩ := bx_cells2 (bx_keep HI6.out.box hb)
        have a := bx_keep X6.out hb
        refine ⟨a1, ?_, ?_, ?_, ?_, ?_, ?_, ?_, ?_⟩ <;> simp [World.cell?, a]
      subst hae
      clear hcx hkid hms ho hd hvb hil hWr hb6
      go_upto_region 5 with fail
      rw [HW6.out]
      try rw [HEB.out]
      clear HW6 e0 e1 e2 e3 e4 e5 e6 e7
      refine wp_region_M (S := (fun w' : World => w'.cell? ⟨tb, 0 + 1, none⟩ = some (.slice ar i cr) ∧ w'.cell? ⟨eb, 0, none⟩ = some (.int .i64 q0) ∧ w'.cell? ⟨eb, 0 + 1, none⟩ = some (.int .i64 q1) ∧ w'.cell? ⟨eb, 0 + 1 + 1, none⟩ = some (.int .i64 q2) ∧ w'.cell? ⟨eb, 0 + 3, none⟩ = some (.int .i64 q3) ∧ w'.cell? ⟨eb, 0 + 3 + 1, none⟩ = some (.int .i64 q4) ∧ w'.cell? ⟨eb, 0 + 3 + 2, none⟩ = some (.int .i64 q5) ∧ w'.cell? ⟨eb, 0 + 3 + 2 + 1, none⟩ = some (.int .i64 q6) ∧ w'.cell? ⟨eb, 0 + 3 + 4, none⟩ = some (.slice av nv cv))) 12 (by kernel_rfl) ?_
      refine wpU_takeF (i := 0) (v := .pointer (some ⟨tb, 0 + 1, none⟩)) rfl rfl (by kernel_rfl) (by kernel_rfl) (by kernel_rfl) (fun _ _ _ h => h) (Or.inl ⟨by rfl, fun w' hw' => ?_⟩) (fun _ => (HCS.out _ HBR.out)) ?_
      · clear hw'
        go_simp
      try simp only [Act.put, List.setIfInBounds_toArray, List.set_cons_zero, List.set_cons_succ]
      refine wpU_takeM (i := 1) (v := .slice ar i cr) rfl rfl (by kernel_rfl) (by kernel_rfl) (by kernel_rfl) (by kernel_rfl) (by kernel_rfl) (fun _ _ _ h => h) (Or.inl ⟨by rfl, fun w' hw' => ?_⟩) (HCS.out _ HBR.out) ?_
      · obtain ⟨h0, h1, h2, h3, h4, h5, h6, h7, h8⟩ := hw'
        go_simp
      try simp only [Act.put, List.setIfInBounds_toArray, List.set_cons_zero, List.set_cons_succ]
      refine wpU_takeF (i := 2) (v := .pointer (some ⟨eb, 0, none⟩)) rfl rfl (by kernel_rfl) (by kernel_rfl) (by kernel_rfl) (fun _ _ _ h => h) (Or.inl ⟨by rfl, fun w' hw' => ?_⟩) (fun _ => (HCS.out _ HBR.out)) ?_
      · clear hw'
        go_simp
      try simp only [Act.put, List.setIfInBounds_toArray, List.set_cons_zero, List.set_cons_succ]
      refine wpU_takeM (i := 3) (v := .int .i64 q0) rfl rfl (by kernel_rfl) (by kernel_rfl) (by kernel_rfl) (by kernel_rfl) (by kernel_rfl) (fun _ _ _ h => h) (Or.inl ⟨by rfl, fun w' hw' => ?_⟩) (HCS.out _ HBR.out) ?_
      · obtain ⟨h0, h1, h2, h3, h4, h5, h6, h7, h8⟩ := hw'
        go_simp
      try simp only [Act.put, List.setIfInBounds_toArray, List.set_cons_zero, List.set_cons_succ]
      refine wpU_takeF (i := 4) (v := .pointer (some ⟨eb, 0 + 1, none⟩)) rfl rfl (by kernel_rfl) (by kernel_rfl) (by kernel_rfl) (fun _ _ _ h => h) (Or.inl ⟨by rfl, fun w' hw' => ?_⟩) (fun _ => (HCS.out _ HBR.out)) ?_
      · clear hw'
        go_simp
      try simp only [Act.put, List.setIfInBounds_toArray, List.set_cons_zero, List.set_cons_succ]
      refine wpU_takeM (i := 5) (v := .agg #[.int .i64 q1, .int .i64 q2]) rfl rfl (by kernel_rfl) (by kernel_rfl) (by kernel_rfl) (by kernel_rfl) (by kernel_rfl) (fun _ _ _ h => h) (Or.inl ⟨by rfl, fun w' hw' => ?_⟩) (HCS.out _ HBR.out) ?_
      · obtain ⟨h0, h1, h2, h3, h4, h5, h6, h7, h8⟩ := hw'
        go_simp
      try simp only [Act.put, List.setIfInBounds_toArray, List.set_cons_zero, List.set_cons_succ]
      refine wpU_takeF (i := 6) (v := .pointer (some ⟨eb, 0 + 3, none⟩)) rfl rfl (by kernel_rfl) (by kernel_rfl) (by kernel_rfl) (fun _ _ _ h => h) (Or.inl ⟨by rfl, fun w' hw' => ?_⟩) (fun _ => (HCS.out _ HBR.out)) ?_
      · clear hw'
        go_simp
      try simp only [Act.put, List.setIfInBounds_toArray, List.set_cons_zero, List.set_cons_succ]
      refine wpU_takeM (i := 7) (v := .agg #[.int .i64 q3, .int .i64 q4, .int .i64 q5, .int .i64 q6, .slice av nv cv]) rfl rfl (by kernel_rfl) (by kernel_rfl) (by kernel_rfl) (by kernel_rfl) (by kernel_rfl) (fun _ _ _ h => h) (Or.inl ⟨by rfl, fun w' hw' => ?_⟩) (HCS.out _ HBR.out) ?_
      · obtain ⟨h0, h1, h2, h3, h4, h5, h6, h7, h8⟩ := hw'
        go_simp
      try simp only [Act.put, List.setIfInBounds_toArray, List.set_cons_zero, List.set_cons_succ]
      refine wpU_one (i := 8) (by kernel_rfl) rfl (fun K hK => ?_)
      go_simp
      try go_at_call 77
      refine (HCX.out _ HBR.out).mono ?_
      rintro e7 w7 ⟨v7, rfl, hr7, hb7⟩
      obtain ⟨a7, c7, rfl, -, -⟩ := hr7.form
      rw [HQ3.out, HQ4.out, HQ5.out, HQ6.out, List.length_map, HNV.out]
      rw [List.length_map, HNV.out] at hr7
      have HB7 : Hid (Below w6.heap.size w6 w7) := HBR.out.trans (hb7.mono HBR.out.size)
      have HR7 : Hid (Rd (fun k => w6.heap.size ≤ k) w7 (.sl (q.is'.args.map At.Expr.d)) [.slice a7 nv c7]) := hr7
      clear hr7 hb7
      refine hK.out _ _ (fun _ => HCS.out _ HB7.out) ?_
      clear hK K
      try simp only [Act.put, List.setIfInBounds_toArray, List.set_cons_zero, List.set_cons_succ]
      refine wpU_one (i := 9) (by kernel_rfl) rfl (fun K hK => ?_)
      go_simp
      refine hK.out _ _ (fun _ => HCS.out _ HB7.out) ?_
      clear hK K
      try simp only [Act.put, List.setIfInBounds_toArray, List.set_cons_zero, List.set_cons_succ]
      obtain ⟨w8, HW8⟩ := nameIt (w7.alloc (.cells #[.int .i64 q0, .int .i64 q1, .int .i64 q2, .int .i64 q3, .int .i64 q4, .int .i64 q5, .int .i64 q6, .slice a7 nv c7] 90))
      have hb8 : Below w7.heap.size w7 w8 := by rw [← HW8.out]; exact (Below.refl _ _).alloc (Nat.le_refl _) _
      have X8 : Hid (w8.heap[w7.heap.size]? = some (.cells #[.int .i64 q0, .int .i64 q1, .int .i64 q2, .int .i64 q3, .int .i64 q4, .int .i64 q5, .int .i64 q6, .slice a7 nv c7] 90 (0, 0))) := by rw [← HW8.out]; exact bx_new _ _ _ rfl
      have HB8 : Hid (Below w6.heap.size w6 w8) := HB7.out.trans (hb8.mono HB7.out.size)
      have HR8 := Lib.hid (HR7.out.below hb8)
      have HI8 := Lib.hid (HI6.out.below HB8.out)
      have HO8 := Lib.hid (own_keep HO.out HB8.out)
      have HD8 := Lib.hid (HD.out.below HB8.out)
      obtain ⟨g7, HG7⟩ := nameIt w7.heap.size
      rw [HG7.out] at X8
      have hbw8 : B ≤ w8.heap.size := HI8.out.row.le
      have heb8 : eb < w8.heap.size := Nat.lt_of_lt_of_le heb6 HB8.out.size
      clear hb8
      refine wpU_one (i := 10) (by kernel_rfl) rfl (fun K hK => ?_)
      go_simp
      rw [HW8.out]
      try rw [HG7.out]
      refine hK.out _ _ (fun _ => HCS.out _ HB8.out) ?_
      clear hK K
      try simp only [Act.put, List.setIfInBounds_toArray, List.set_cons_zero, List.set_cons_succ]
      refine wpU_one (i := 11) (by kernel_rfl) rfl (fun K hK => ?_)
      refine step_appB elEqD (by rfl) _ _ (by rfl) HO8.out (by rfl) (by rfl) X8.out (by rfl) (by rfl) (by omega) (by unfold maxLen; omega) hbw8 ?_
      intro g9 c9 w9 ho9 hg9 hat9 hlt9
      have hst := HI8.out.step (q := q) HIKN.out HQIN.out HBn.out HTBB.out HO8.out HD8.out (HR8.out.mono (fun k hk _ => ⟨Nat.le_trans hbw6 hk, fun e => by have h1 := (HVE.out k e).2; have h2 : w6.heap.size ≤ k := hk; omega⟩)) (by rw [HQ0.out, HQ1.out, HQ2.out, HQ3.out, HQ4.out, HQ5.out, HQ6.out]; exact ho9) hg9 hat9
      have HST1 := Lib.hid hst.1
      have HST2 := Lib.hid hst.2
      have HX9 : Hid (w9.heap[eb]? = some (.cells #[.int .i64 q0, .int .i64 q1, .int .i64 q2, .int .i64 q3, .int .i64 q4, .int .i64 q5, .int .i64 q6, .slice av nv cv] 90 (0, 0))) := (hg9.block eb heb8 (fun e => by have h1 := (HVE.out eb e.symm).2; omega)).trans (bx_keep X6.out HB8.out)
      have HS9 : Hid ((fun w' : World => w'.cell? ⟨tb, 0 + 1, none⟩ = some (.slice ar i cr) ∧ w'.cell? ⟨eb, 0, none⟩ = some (.int .i64 q0) ∧ w'.cell? ⟨eb, 0 + 1, none⟩ = some (.int .i64 q1) ∧ w'.cell? ⟨eb, 0 + 1 + 1, none⟩ = some (.int .i64 q2) ∧ w'.cell? ⟨eb, 0 + 3, none⟩ = some (.int .i64 q3) ∧ w'.cell? ⟨eb, 0 + 3 + 1, none⟩ = some (.int .i64 q4) ∧ w'.cell? ⟨eb, 0 + 3 + 2, none⟩ = some (.int .i64 q5) ∧ w'.cell? ⟨eb, 0 + 3 + 2 + 1, none⟩ = some (.int .i64 q6) ∧ w'.cell? ⟨eb, 0 + 3 + 4, none⟩ = some (.slice av nv cv)) w9) := by
          obtain ⟨-, a1⟩ := bx_cells2 HST1.out
          have a := HX9.out
          refine ⟨a1, ?_, ?_, ?_, ?_, ?_, ?_, ?_, ?_⟩ <;> simp [World.cell?, a]
      clear hst ho9 hg9 hat9 hlt9
      refine hK.out _ _ (fun _ => HS9.out) ?_
      clear hK K
      try simp only [Act.put, List.setIfInBounds_toArray, List.set_cons_zero, List.set_cons_succ]
      refine wpU_one (i := 12) (by kernel_rfl) rfl (fun K hK => ?_)
      go_simp
      refine hK.out _ _ (fun h => absurd (show true = false from h) (by decide)) ?_
      clear hK K
      try simp only [Act.put, List.setIfInBounds_toArray, List.set_cons_zero, List.set_cons_succ]
      obtain ⟨-, d1⟩ := bx_free2 HST1.out
      have d2 := HS9.out.1
      have d3 : tb < w9.heap.size := (Array.getElem?_eq_some_iff.1 HST1.out).1
      refine wpU_one (i := 13) (by kernel_rfl) rfl (fun K hK => ?_)
      go_simp
      refine hK.out _ _ (fun h => absurd (show true = false from h) (by decide)) ?_
      clear hK K
      try simp only [Act.put, List.setIfInBounds_toArray, List.set_cons_zero, List.set_cons_succ]
      refine wpU_done (by kernel_rfl) ?_ _
      obtain ⟨w10, HW10⟩ := nameIt (w9.setCell ⟨tb, 1, none⟩ (.slice (some ⟨g9, 0, none⟩) (i + 1) c9))
      try simp only [Nat.zero_add]
      have HI10 : Hid (CpS s tb B (.slice ca al cc) w2 (i + 1) (.slice (some ⟨g9, 0, none⟩) (i + 1) c9) w10) := by rw [← HW10.out]; exact HST2.out
      rw [HW10.out]
      clear HW10 HST1 HST2 HS9 HX9 d1
      have hwr : IntKind.i64.wrap ((i : Int) + 1) = ((i + 1 : Nat) : Int) := by rw [IntWalk.i64_in _ (by omega)]; omega
      go_wp2_with fail
      go_roundg (ql - (i + 1))
      case measure => omega
      case rel => exact ⟨i + 1, _, by omega, by omega, by go_num, HI10⟩
    · have hend : i = ql := by omega
      have hlt' : ¬ (i : Int) < (ql : Int) := by omega
      obtain ⟨w5, rfl⟩ : ∃ ww : World, ww = wr := ⟨_, rfl⟩
      obtain ⟨ar, cr, hvr, hr1, hr2, hvb⟩ := HI.out.row.form
      have htk : s.eqs.take i = s.eqs := List.take_of_length_le (by rw [HQL.out]; omega)
      rw [htk, List.length_map, HQL.out] at hvr hr1
      subst hvr
      unfold maxLen at hr2
      have hW1 : W.heap.size + 1 < w0.heap.size := (Array.getElem?_eq_some_iff.1 X1.out).1
      have hr5 := HI.out.keep.cells (bx_keep X1.out HB2.out) (fun e => by have e : W.heap.size + 1 = tb := e; have h1 := HTB0.out; omega)
      have hRB : Hid (w5.heap[W.heap.size + 1]? = some (.cells #[.slice none 0 0, .slice none 0 0] 28 (0, 0))) := hr5
      have HBX := Lib.hid HI.out.box
      obtain ⟨z0, z1⟩ := bx_cells2 HBX.out
      obtain ⟨x0, x1⟩ := bx_cells2 hRB.out
      obtain ⟨f0, f1⟩ := bx_free2 hRB.out
      have k1 : W.heap.size + 1 < w5.heap.size := (Array.getElem?_eq_some_iff.1 hRB.out).1
      have k2 : tb < w5.heap.size := (Array.getElem?_eq_some_iff.1 HBX.out).1
      have hWr : Below W.heap.size W w5 := (HB0.out.trans (HB2.out.mono HB0.out.size)).trans (HI.out.keep.below (fun k e => by have h1 := HTB0.out; have h2 := HB0.out.size; have e : k = tb := e; omega) (by have h1 := HB0.out.size; have h2 := HB2.out.size; omega))
      have HWR := Lib.hid hWr
      clear hWr hr5
      go_wp2_with fail
      obtain ⟨y, HY⟩ := nameIt ((w5.setCell ⟨W.heap.size + 1, 0, none⟩ (.slice ca al cc)).setCell ⟨W.heap.size + 1, 1, none⟩ (.slice ar ql cr))
      refine bodyPost_ret (v := .agg #[.slice ca al cc, .slice ar ql cr]) (by simp [results, Tryz.results37, go_sem, x0, x1, f0, f1]) rfl ?_
      rw [HPN.out.symm]
      have hbx2 : w5.grownBy ((w5.setCell ⟨W.heap.size + 1, 0, none⟩ (.slice ca al cc)).setCell ⟨W.heap.size + 1, 1, none⟩ (.slice ar ql cr)) (some (W.heap.size + 1)) := grown_trans (grown_cell _ _ _) (grown_cell _ _ _)
      have hks : Keeps (fun k => k = W.heap.size + 1) w5 ((w5.setCell ⟨W.heap.size + 1, 0, none⟩ (.slice ca al cc)).setCell ⟨W.heap.size + 1, 1, none⟩ (.slice ar ql cr)) := keeps_grown hbx2 rfl
      have hrow := rowD_keeps HI.out.row hks (fun k hk e => by have e : k = W.heap.size + 1 := e; have := HTB0.out; have := HTBS.out; have := HBn.out; omega) (fun k hk e => by have hk : B ≤ k := hk; have e : k = W.heap.size + 1 := e; have := HTB0.out; have := HTBS.out; have := HBn.out; omega)
      rw [htk] at hrow
      refine ⟨_, cc, ar, cr, by rw [HAL.out, HQL.out], ?_, ?_, ((HWR.out.setCell (by simp) _).setCell (by simp) _)⟩
      · rw [HAL.out]
        refine Rd.keep (fun k hk hlt => ?_) _ _ HCA.out
        have hk' : w0.heap.size ≤ k := hk
        have hkt : k < tb := by rw [← HTB.out]; exact hlt
        refine ⟨by have := HB0.out.size; show _ ≤ _; omega, ?_⟩
        rw [hks.block k (by omega) (fun e => by have e : k = W.heap.size + 1 := e; omega), HI.out.keep.block k (by have := HTBS.out; omega) (fun e => by have e : k = tb := e; omega)]
        exact HB12.out.block k hlt
      · rw [HQL.out]
        refine hrow.rd.mono (fun k hk _ => ?_)
        have h1 := HB0.out.size
        have h2 := HTB0.out
        have h3 := HTBS.out
        have h4 := HBn.out
        rcases hk with hk | hk <;> (have hk : B ≤ k := hk; show _ ≤ _; omega)
end Dm
end Go.Proofs.YtfocooehnmpndaaGreat
namespace Go.Proofs.YtfocooehnmpndaaGreat
open Go.RowKit
namespace Gs
theorem _root_.Go.Proofs.YtfocooehnmpndaaGreat.RowD.lower {S : Nat → Prop} {B B' : Nat} {e : TypeId} {size : Nat} {ds : List D} {v : Value} {wr : World} (h : RowD S B e size ds v wr) (hb : B' ≤ B) : RowD S B' e size ds v wr := by
  obtain ⟨⟨xs, h1, h2⟩, h3⟩ := h
  exact ⟨⟨xs, h1.mono hb, h2⟩, Nat.le_trans hb h3⟩
def SymsPost (l : List Sym) (w : World) (e : Ending) (w' : World) : Prop :=
  ∃ a c, e = .returned (.slice a l.length c) ∧ Rd (fun k => w.heap.size ≤ k) w' (.sl (l.map Sym.d)) [.slice a l.length c] ∧ Below w.heap.size w w'
theorem symsW {S S' : Nat → Prop} {w w' : World} {sy : List Sym} {xs : List Value} (h : RdAll S w (sy.map Sym.d) xs) : RdAll S' w' (sy.map Sym.d) xs := by
  induction sy generalizing xs with
  | nil => exact h
  | cons s sy ih =>
    obtain ⟨c1, c2, rfl, h1, h2⟩ := h
    obtain rfl := h1.sym
    exact ⟨_, _, rfl, rd_sym s, ih h2⟩
set_option maxHeartbeats 1000000 in
theorem cloneSyms (l : List Sym) (a : Option Addr) (c : Nat) (w : World) (h : Rd AnyB w (.sl (l.map Sym.d)) [.slice a l.length c]) (hb : l.length ≤ 1000) :
    Calls Tryz.prog 75 #[.slice a l.length c] w (SymsPost l w) := by
  have hnil := fun (w : World) (a : Option Addr) (n c : Nat) => Lib.run_eql_slice_nil (P := Tryz.prog) w 79 78 a n c 0 0 Tryz.underlying79
  cases a with
  | none =>
    have hl : l = [] := by
      cases l with
      | nil => rfl
      | cons x l => obtain ⟨b, off, e, _⟩ := h.sym_at (i := 0) (by simp); cases e
    subst hl
    go_enter Tryz.func75, Tryz.ntmps75
    go_wp2
    go_ret
    exact ⟨none, 0, rfl, ⟨none, 0, [], rfl, by simp, by simp [maxLen], fun _ => rfl, fun i hi => by simp at hi, rfl⟩, Below.refl _ _⟩
  | some x =>
    have hb1 : Below w.heap.size w (w.alloc (.cells #[] 78)) := (Below.refl _ _).alloc (Nat.le_refl _) _
    have HV := Lib.hid (h.below hb1)
    have HO : Hid ((w.alloc (.cells #[] 78)).ownsRow w.heap.size 78 2 (.slice (some ⟨w.heap.size, 0, none⟩) 0 0) 0 []) := World.ownsRow_made w #[] 0 (Nat.le_refl _) (by simp) rfl
    have HB1 := Lib.hid hb1
    have HML : Hid ((l.map Sym.d).length = l.length) := by show _ = _; simp
    clear h hb1
    go_enter Tryz.func75, Tryz.ntmps75
    go_wp2_with (at_builtin; refine wp_appD elSym rfl _ _ rfl HO.out rfl HV.out rfl (syms_cells l) (by rw [HML.out]; omega) (by rw [HML.out]; unfold maxLen; omega) (by simp) ?_)
    intro v' w' L hd ho hg hat
    have hb2 : Below w.heap.size w w' := HB1.out.trans (below_grown hg (by simp) (fun k hk => by simp [Value.ownBlock] at hk; omega))
    have hrow : Rd (fun k => w.heap.size ≤ k) w' (.sl (l.map Sym.d)) [v'] := rd_of_own ho (by simpa using symsW hd) (by simp) (fun k e => (ho.lt k e).1)
    obtain ⟨a', c', rfl, -, -⟩ := hrow.form
    rw [HML.out] at hrow
    rw [HML.out]
    have HR := Lib.hid hrow
    have HB2 := Lib.hid hb2
    clear hd ho hg hat hb2 hrow
    go_wp2
    go_ret
    exact ⟨a', c', rfl, HR.out, HB2.out⟩
end Gs
end Go.Proofs.YtfocooehnmpndaaGreat
namespace Go.Proofs.YtfocooehnmpndaaGreat
open Go.RowKit
namespace Dm
open Gs
structure GRow (w : World) (gb : Nat) (gt gn gs : Int) (l : List Rule) (vr : Value) (wr : World) : Prop where
  out : wr.heap[gb]? = some (.cells #[.int .i64 gt, .int .i64 gn, .int .i64 gs, vr] 24 (0, 0))
  row : RowD (fun k => gb < k) (gb + 1) 81 2 (l.map Rule.d) vr wr
  bel : Below w.heap.size w wr
  le : w.heap.size ≤ gb
theorem below_box4 {B b : Nat} {w w' : World} (h : Below B w w') (hb : B ≤ b) (x y z u : Value) : Below B w ((((w'.setCell ⟨b, 0, none⟩ x).setCell ⟨b, 1, none⟩ y).setCell ⟨b, 2, none⟩ z).setCell ⟨b, 3, none⟩ u) :=
  (((h.setCell (p := ⟨b, 0, none⟩) hb x).setCell (p := ⟨b, 1, none⟩) hb y).setCell (p := ⟨b, 2, none⟩) hb z).setCell (p := ⟨b, 3, none⟩) hb u
theorem grown_box4 (b : Nat) (w : World) (x y z u : Value) : w.grownBy ((((w.setCell ⟨b, 0, none⟩ x).setCell ⟨b, 1, none⟩ y).setCell ⟨b, 2, none⟩ z).setCell ⟨b, 3, none⟩ u) (some b) := grown_trans (grown_trans (grown_trans (grown_cell _ _ _) (grown_cell _ _ _)) (grown_cell _ _ _)) (grown_cell _ _ _)
theorem bx_lt {w : World} {b : Nat} {o : Obj} (h : w.heap[b]? = some o) : b < w.heap.size := (Array.getElem?_eq_some_iff.1 h).1
theorem GRow.keep {w : World} {gb : Nat} {gt gn gs : Int} {l : List Rule} {vr : Value} {wr w' : World} (h : GRow w gb gt gn gs l vr wr) (hb : Below wr.heap.size wr w') : GRow w gb gt gn gs l vr w' :=
  ⟨bx_keep h.out hb, h.row.keep hb, h.bel.trans (hb.mono h.bel.size), h.le⟩
theorem GRow.step {w : World} {gb g cap m : Nat} {gt gn gs : Int} {l : List Rule} {r : Rule} {vr v : Value} {w3 w4 : World} {xs : List Value} (h : GRow w gb gt gn gs l vr w3) (hn : l.length = m) (ho : w3.ownsRow (gb + 1) 81 2 vr m xs) (hd : RdAll (fun k => gb < k ∧ vr.ownBlock ≠ some k) w3 (l.map Rule.d) xs)
    (hr : Rd (fun k => gb < k ∧ vr.ownBlock ≠ some k) w3 (.sl (r.right.map Sym.d)) [v])
    (ho3 : w4.ownsRow (gb + 1) 81 2 (.slice (some ⟨g, 0, none⟩) (m + 1) cap) (m + 1) (xs ++ [.int .i64 r.left, v])) (hg : w3.grownBy w4 vr.ownBlock) (hat : vr.ownBlock = some g ∨ w3.heap.size ≤ g) :
    w4.heap[gb]? = some (.cells #[.int .i64 gt, .int .i64 gn, .int .i64 gs, vr] 24 (0, 0)) ∧ GRow w gb gt gn gs (l ++ [r]) (.slice (some ⟨g, 0, none⟩) (m + 1) cap) (w4.setCell ⟨gb, 3, none⟩ (.slice (some ⟨g, 0, none⟩) (m + 1) cap)) := by
  have hlt := (Array.getElem?_eq_some_iff.1 h.out).1
  have hb3 : w4.heap[gb]? = some (.cells #[.int .i64 gt, .int .i64 gn, .int .i64 gs, vr] 24 (0, 0)) := by
    rw [hg.block gb hlt (fun e => by have := (ho.lt gb e.symm).1; omega)]; exact h.out
  have hne : gb ≠ g := by have h1 := (ho3.lt g rfl).1; omega
  refine ⟨hb3, ?_, ⟨⟨xs ++ [.int .i64 r.left, v], ?_, ?_⟩, ?_⟩, ?_, h.le⟩
  · rw [bx_set hb3]; rfl
  · rw [List.map_append, List.length_append, List.length_map, hn]
    exact ho3.kept (grown_cell w4 ⟨gb, 3, none⟩ _) (.inr (by simpa [Value.ownBlock] using fun e => hne e.symm))
  · have h1 := own_step (S := fun k => gb < k) (v' := .slice (some ⟨g, 0, none⟩) (m + 1) cap) hd (RdAll.one (rd_rule hr)) hg (by
      rcases hat with e | e
      · exact .inl e.symm
      · exact .inr ⟨g, rfl, e⟩)
    rw [List.map_append]
    refine RdAll.keep (fun k hk _ => ⟨hk, Below.heap_setCell _ _ _ _ ?_⟩) _ _ h1
    intro e
    simp at e
    subst e
    exact Nat.lt_irrefl _ hk.1
  · have := h.row.le; have := hg.size; simp [World.setCell]; omega
  · exact (h.bel.grown hg h.bel.size (fun k e => by have := (ho.lt k e).1; have := h.le; omega)).setCell h.le _
def CopyG (g : Gram) (w : World) (e : Ending) (w' : World) : Prop :=
  ∃ a c, e = .returned (.agg #[.int .i64 g.terms, .int .i64 g.nons, .int .i64 g.start, .slice a g.rules.length c]) ∧ RowD (fun k => w.heap.size ≤ k) w.heap.size 81 2 (g.rules.map Rule.d) (.slice a g.rules.length c) w' ∧ Below w.heap.size w w'
set_option maxHeartbeats 4000000 in
set_option maxRecDepth 100000 in
theorem copyG (g : Gram) (hg : ∀ r ∈ g.rules, r.right.length ≤ 4) (hgl : g.rules.length ≤ 100) (a : Option Addr) (c : Nat) (w : World) (hr : Rd AnyB w (.sl (g.rules.map Rule.d)) [.slice a g.rules.length c]) :
    Calls Tryz.prog 36 #[.agg #[.int .i64 g.terms, .int .i64 g.nons, .int .i64 g.start, .slice a g.rules.length c]] w (CopyG g w) := by
  obtain ⟨PST, HP⟩ := nameIt (CopyG g w)
  have HFIN : Hid (∀ a c w', RowD (fun k => w.heap.size ≤ k) w.heap.size 81 2 (g.rules.map Rule.d) (.slice a g.rules.length c) w' → Below w.heap.size w w' → PST (.returned (.agg #[.int .i64 g.terms, .int .i64 g.nons, .int .i64 g.start, .slice a g.rules.length c])) w') := by
    intro a c w' h1 h2; rw [← HP.out]; exact ⟨a, c, rfl, h1, h2⟩
  rw [HP.out]
  clear HP
  have HRD := Lib.hid hr
  have HRR := Lib.hid hg
  have hbd := hr.bounds.2
  unfold maxLen at hbd
  obtain ⟨hbd1, hbd2⟩ := hbd
  obtain ⟨gt, HGT⟩ := nameIt g.terms
  obtain ⟨gn, HGN⟩ := nameIt g.nons
  obtain ⟨gs, HGS⟩ := nameIt g.start
  obtain ⟨K, HK⟩ := nameIt g.rules
  rw [HGT.out, HGN.out, HGS.out, HK.out] at HFIN
  rw [HK.out] at HRD HRR hgl hbd1
  rw [HGT.out, HGN.out, HGS.out, HK.out]
  obtain ⟨kl, HKL⟩ := nameIt K.length
  rw [HKL.out] at HFIN HRD hgl hbd1
  rw [HKL.out]
  clear hr hg
  go_enter Tryz.func36, Tryz.ntmps36
  obtain ⟨wa, HWA⟩ := nameIt (((w.alloc (.cells #[.int .i64 gt, .int .i64 gn, .int .i64 gs, .slice a kl c] 24)).alloc (.cells #[.int .i64 0, .int .i64 0, .int .i64 0, .slice none 0 0] 24)).alloc (.cells #[.int .i64 gt, .int .i64 gn, .int .i64 gs, .slice none 0 0] 24))
  have hba : Below w.heap.size w wa := by rw [← HWA.out]; exact (((Below.refl _ _).alloc (Nat.le_refl _) _).alloc (by simp) _).alloc (by simp; omega) _
  have XR : Hid (wa.heap[w.heap.size + 1]? = some (.cells #[.int .i64 0, .int .i64 0, .int .i64 0, .slice none 0 0] 24 (0, 0))) := by rw [← HWA.out]; exact bx_keep (bx_new _ _ _ (by simp)) ((Below.refl _ _).alloc (Nat.le_refl _) _)
  have XG : wa.heap[w.heap.size + 1 + 1]? = some (.cells #[.int .i64 gt, .int .i64 gn, .int .i64 gs, .slice none 0 0] 24 (0, 0)) := by rw [← HWA.out]; exact bx_new _ _ _ (by simp)
  obtain ⟨gb, HGB⟩ := nameIt (w.heap.size + 1 + 1)
  rw [HGB.out] at XG
  have hgb : gb = w.heap.size + 2 := by rw [← HGB.out]
  have hgl2 := lt_of_cell (bx_cells4 XG).1
  have HG0 : Hid (GRow w gb gt gn gs (K.take 0) (.slice none 0 0) wa) := ⟨XG, RowD.nil _ _ _ _ _ hgl2, hba, by omega⟩
  have HGE := Lib.hid hgb
  have HR0 : Hid (wa.heap[gb - 1]? = some (.cells #[.int .i64 0, .int .i64 0, .int .i64 0, .slice none 0 0] 24 (0, 0))) := by
    have : gb - 1 = w.heap.size + 1 := by omega
    rw [this]; exact XR.out
  clear hba XG XR hgl2 hgb
  go_wp2_with fail
  rw [HWA.out, HGB.out]
  obtain ⟨rb, HRB⟩ := nameIt (w.heap.size + 1)
  have HRE : Hid (gb - 1 = rb) := by show _ = _; have h1 := HGE.out; have h2 := HRB.out; omega
  have hrg : rb < gb := by have h1 := HGE.out; have h2 := HRB.out; omega
  rw [HRB.out]
  rw [HRE.out] at HR0
  go_loopg [5, 11] kl (fun gg v5 v11 wr => ∃ (i : Nat) (vr : Value), i ≤ kl ∧ kl - i ≤ gg ∧ v11 = .int .i64 (i : Int) ∧ Hid (GRow w gb gt gn gs (K.take i) vr wr) ∧ Hid (wr.heap[rb]? = some (.cells #[.int .i64 0, .int .i64 0, .int .i64 0, .slice none 0 0] 24 (0, 0))))
  case atStart => exact ⟨0, .slice none 0 0, by omega, by omega, rfl, HG0, HR0⟩
  case round =>
    clear HG0 HR0 HWA
    obtain ⟨i, vr, hi, hgg, rfl, HG, HRES⟩ := hrel
    obtain ⟨w0, rfl⟩ : ∃ ww : World, ww = wr := ⟨_, rfl⟩
    obtain ⟨ar, cr, hvr, hcr1, hcr2, hvb⟩ := HG.out.row.form
    have HVLT0 := Lib.hid hvb
    by_cases hik : i < kl
    · have hik' : (i : Int) < (kl : Int) := by omega
      have hiK : i < K.length := by rw [HKL.out]; exact hik
      have hil : (K.take i).length = i := by simp; omega
      rw [List.length_map, hil] at hvr hcr1
      subst hvr
      unfold maxLen at hcr2
      obtain ⟨bk, ro, v, hae, -, hbk, s0, s1, hrr⟩ := (HRD.out.below HG.out.bel).rule_at hiK
      obtain ⟨av, cv, rfl, hv1, hv2⟩ := hrr.form
      have hrl := HRR.out _ (List.getElem_mem hiK)
      have hT1 : K.take (i + 1) = K.take i ++ [K[i]] := List.take_succ_eq_append_getElem hiK
      obtain ⟨kid, HKI⟩ := nameIt (K[i]'hiK)
      rw [HKI.out] at s0 s1 hrr hrl hT1
      obtain ⟨lf, RL⟩ := kid
      dsimp only at s0 s1 hrr hrl
      rw [List.length_map] at s1 hrr hv1
      obtain ⟨w1, HW1⟩ := nameIt (w0.alloc (.cells #[.int .i64 lf, .slice av RL.length cv] 81))
      have hb1 : Below w0.heap.size w0 w1 := by rw [← HW1.out]; exact (Below.refl _ _).alloc (Nat.le_refl _) _
      have HRX : Hid (w1.heap[w0.heap.size]? = some (.cells #[.int .i64 lf, .slice av RL.length cv] 81 (0, 0))) := by rw [← HW1.out]; exact bx_new _ _ _ rfl
      have HG1' := HG.out.keep hb1
      have HG1 : Hid (w1.heap[gb]? = some (.cells #[.int .i64 gt, .int .i64 gn, .int .i64 gs, .slice ar i cr] 24 (0, 0))) := HG1'.out
      have HG1R := Lib.hid HG1'
      have HCL := Lib.hid (fun W (hb : Below w1.heap.size w1 W) => cloneSyms RL av cv W ((hrr.below hb1).below hb) (by omega))
      have HIL := Lib.hid hil
      have HT1 := Lib.hid hT1
      obtain ⟨xs, ho, hd⟩ := HG1'.row.own
      rw [List.length_map, hil] at ho
      have HO := Lib.hid ho
      have HD := Lib.hid hd
      have HRES1 := Lib.hid (bx_keep HRES.out hb1)
      have hgs1 := (bx_lt HG1.out)
      have hrs1 := (bx_lt HRES1.out)
      have hgw1 : gb + 1 ≤ w1.heap.size := hgs1
      have HVLT : Hid (∀ k, (Value.slice ar i cr).ownBlock = some k → k < w1.heap.size) := fun k e => (ho.lt k e).2
      have HVGE : Hid (∀ k, (Value.slice ar i cr).ownBlock = some k → gb < k) := fun k e => (ho.lt k e).1
      obtain ⟨rn, HRN⟩ := nameIt RL.length
      rw [HRN.out] at HRX HW1 s1
      simp only [HRN.out] at HCL
      obtain ⟨rx, HRXN⟩ := nameIt w0.heap.size
      rw [HRXN.out] at HRX
      subst hae
      clear hv1 hv2 hb1 hrr HG1' ho hd hvb hil hT1 hrl HKI hiK
      go_upto_region 6 with fail
      rw [HW1.out, HRXN.out]
      clear HW1 s0 s1
      have HS : Hid (∀ W', Below w1.heap.size w1 W' → (fun w' => w'.cell? ⟨gb, 0 + 3, none⟩ = some (.slice ar i cr) ∧ w'.cell? ⟨rx, 0, none⟩ = some (.int .i64 lf) ∧ w'.cell? ⟨rx, 0 + 1, none⟩ = some (.slice av rn cv)) W') := fun W' hb => ⟨(bx_cells4 (bx_keep HG1.out hb)).2.2.2, (bx_cells2 (bx_keep HRX.out hb)).1, (bx_cells2 (bx_keep HRX.out hb)).2⟩
      refine wp_region_U (S := (fun w' => w'.cell? ⟨gb, 0 + 3, none⟩ = some (.slice ar i cr) ∧ w'.cell? ⟨rx, 0, none⟩ = some (.int .i64 lf) ∧ w'.cell? ⟨rx, 0 + 1, none⟩ = some (.slice av rn cv))) 9 (by kernel_rfl) (fun inv => ?_)
      refine wpU_take (i := 0) (v := .pointer (some ⟨gb, 0 + 3, none⟩)) rfl inv (by kernel_rfl) (by kernel_rfl) (by decide) (by decide) (by kernel_rfl) (by kernel_rfl) (by kernel_rfl) (fun _ _ _ h => h) (Or.inl ⟨by rfl, fun w' hw' => ?_⟩) (HS.out _ (Below.refl _ _).drew) (fun inv => ?_)
      · obtain ⟨h0, h1, h2⟩ := hw'
        go_simp
      try simp only [Act.put, List.setIfInBounds_toArray, List.set_cons_zero, List.set_cons_succ]
      refine wpU_take (i := 1) (v := .slice ar i cr) rfl inv (by kernel_rfl) (by kernel_rfl) (by decide) (by decide) (by kernel_rfl) (by kernel_rfl) (by kernel_rfl) (fun _ _ _ h => h) (Or.inl ⟨by rfl, fun w' hw' => ?_⟩) (HS.out _ (Below.refl _ _).drew) (fun inv => ?_)
      · obtain ⟨h0, h1, h2⟩ := hw'
        go_simp
      try simp only [Act.put, List.setIfInBounds_toArray, List.set_cons_zero, List.set_cons_succ]
      refine wpU_take (i := 2) (v := .pointer (some ⟨rx, 0, none⟩)) rfl inv (by kernel_rfl) (by kernel_rfl) (by decide) (by decide) (by kernel_rfl) (by kernel_rfl) (by kernel_rfl) (fun _ _ _ h => h) (Or.inl ⟨by rfl, fun w' hw' => ?_⟩) (HS.out _ (Below.refl _ _).drew) (fun inv => ?_)
      · obtain ⟨h0, h1, h2⟩ := hw'
        go_simp
      try simp only [Act.put, List.setIfInBounds_toArray, List.set_cons_zero, List.set_cons_succ]
      refine wpU_take (i := 3) (v := .int .i64 lf) rfl inv (by kernel_rfl) (by kernel_rfl) (by decide) (by decide) (by kernel_rfl) (by kernel_rfl) (by kernel_rfl) (fun _ _ _ h => h) (Or.inl ⟨by rfl, fun w' hw' => ?_⟩) (HS.out _ (Below.refl _ _).drew) (fun inv => ?_)
      · obtain ⟨h0, h1, h2⟩ := hw'
        go_simp
      try simp only [Act.put, List.setIfInBounds_toArray, List.set_cons_zero, List.set_cons_succ]
      refine wpU_take (i := 4) (v := .pointer (some ⟨rx, 0 + 1, none⟩)) rfl inv (by kernel_rfl) (by kernel_rfl) (by decide) (by decide) (by kernel_rfl) (by kernel_rfl) (by kernel_rfl) (fun _ _ _ h => h) (Or.inl ⟨by rfl, fun w' hw' => ?_⟩) (HS.out _ (Below.refl _ _).drew) (fun inv => ?_)
      · obtain ⟨h0, h1, h2⟩ := hw'
        go_simp
      try simp only [Act.put, List.setIfInBounds_toArray, List.set_cons_zero, List.set_cons_succ]
      refine wpU_take (i := 5) (v := .slice av rn cv) rfl inv (by kernel_rfl) (by kernel_rfl) (by decide) (by decide) (by kernel_rfl) (by kernel_rfl) (by kernel_rfl) (fun _ _ _ h => h) (Or.inl ⟨by rfl, fun w' hw' => ?_⟩) (HS.out _ (Below.refl _ _).drew) (fun inv => ?_)
      · obtain ⟨h0, h1, h2⟩ := hw'
        go_simp
      try simp only [Act.put, List.setIfInBounds_toArray, List.set_cons_zero, List.set_cons_succ]
      refine wpU_one (i := 6) (by kernel_rfl) rfl (fun K hK => ?_)
      replace inv := inv_setc (i := 6) inv (by kernel_rfl) (by decide)
      go_simp
      with_reducible refine (HCL.out _ (Below.refl _ _).drew).mono ?_
      rintro e w2 ⟨a2, c2, rfl, hr2, hb2⟩
      rw [HRN.out] at hr2
      rw [HRN.out]
      have HB2 : Hid (Below w1.heap.size w1 w2) := (Below.refl _ _).drew.trans (hb2.mono (by simp))
      have HR2 : Hid (Rd (fun k => w1.heap.size ≤ k) w2 (.sl (RL.map Sym.d)) [.slice a2 rn c2]) := hr2
      clear hr2 hb2
      refine hK.out _ _ (fun _ => HS.out _ HB2.out) ?_
      clear hK K
      try simp only [Act.put, List.setIfInBounds_toArray, List.set_cons_zero, List.set_cons_succ]
      refine wpU_one (i := 7) (by kernel_rfl) rfl (fun K hK => ?_)
      replace inv := inv_setc (i := 7) inv (by kernel_rfl) (by decide)
      go_simp
      refine hK.out _ _ (fun _ => HS.out _ HB2.out) ?_
      clear hK K
      try simp only [Act.put, List.setIfInBounds_toArray, List.set_cons_zero, List.set_cons_succ]
      obtain ⟨w3, HW3⟩ := nameIt (w2.alloc (.cells #[.int .i64 lf, .slice a2 rn c2] 81))
      have hb3 : Below w2.heap.size w2 w3 := by rw [← HW3.out]; exact (Below.refl _ _).alloc (Nat.le_refl _) _
      have X3 : Hid (w3.heap[w2.heap.size]? = some (.cells #[.int .i64 lf, .slice a2 rn c2] 81 (0, 0))) := by rw [← HW3.out]; exact bx_new _ _ _ rfl
      have HB3 : Hid (Below w1.heap.size w1 w3) := HB2.out.trans (hb3.mono HB2.out.size)
      have HR3 := Lib.hid (HR2.out.below hb3)
      obtain ⟨q2, HQ2⟩ := nameIt w2.heap.size
      rw [HQ2.out] at X3
      clear hb3
      refine wpU_one (i := 8) (by kernel_rfl) rfl (fun K hK => ?_)
      replace inv := inv_setc (i := 8) inv (by kernel_rfl) (by decide)
      go_simp
      rw [HW3.out, HQ2.out]
      refine hK.out _ _ (fun _ => HS.out _ HB3.out) ?_
      clear hK K
      try simp only [Act.put, List.setIfInBounds_toArray, List.set_cons_zero, List.set_cons_succ]
      have HO3 := Lib.hid (own_keep HO.out HB3.out)
      have HD3 := Lib.hid (HD.out.below HB3.out)
      have HG3 := Lib.hid (HG1R.out.keep HB3.out)
      refine wpU_one (i := 9) (by kernel_rfl) rfl (fun K hK => ?_)
      refine step_appB elRule (by rfl) _ _ (by rfl) HO3.out (by rfl) (by rfl) X3.out (by rfl) (by rfl) (by omega) (by unfold maxLen; omega) (by have := HB3.out.size; omega) ?_
      intro g4 c4 w4 ho4 hg4 hat4 hlt4
      obtain ⟨hbx, hst⟩ := GRow.step HG3.out HIL.out HO3.out HD3.out (r := ⟨lf, RL⟩) (HR3.out.mono (fun k hk _ => ⟨by omega, fun e => by have := HVLT.out k e; omega⟩)) ho4 hg4 (hat4.imp id fun e => Nat.le_of_eq e.symm)
      have HGB4 := Lib.hid hg4
      have HX4 := Lib.hid hbx
      have HST := Lib.hid hst
      clear ho4 hg4 hat4 hbx hst
      refine hK.out _ _ (fun h => absurd (show true = false from h) (by decide)) ?_
      clear hK K
      try simp only [Act.put, List.setIfInBounds_toArray, List.set_cons_zero, List.set_cons_succ]
      refine wpU_one (i := 10) (by kernel_rfl) rfl (fun K hK => ?_)
      go_simp
      refine hK.out _ _ (fun h => absurd (show true = false from h) (by decide)) ?_
      clear hK K
      try simp only [Act.put, List.setIfInBounds_toArray, List.set_cons_zero, List.set_cons_succ]
      obtain ⟨-, -, -, z3⟩ := bx_cells4 HX4.out
      obtain ⟨-, -, -, f3⟩ := bx_free4 HX4.out
      refine wpU_one (i := 11) (by kernel_rfl) rfl (fun K hK => ?_)
      go_simp
      refine hK.out _ _ (fun h => absurd (show true = false from h) (by decide)) ?_
      clear hK K
      try simp only [Act.put, List.setIfInBounds_toArray, List.set_cons_zero, List.set_cons_succ]
      refine wpU_done (by kernel_rfl) ?_ _
      have HRN4 : Hid ((w4.setCell ⟨gb, 3, none⟩ (.slice (some ⟨g4, 0, none⟩) (i + 1) c4)).heap[rb]? = some (.cells #[.int .i64 0, .int .i64 0, .int .i64 0, .slice none 0 0] 24 (0, 0))) :=
        bx_other ((HGB4.out.block rb (by have := HB3.out.size; omega) (fun e => by have := HVGE.out rb e.symm; omega)).trans (bx_keep HRES1.out HB3.out)) (by omega) _ _
      go_wp2_with fail
      go_roundg (kl - (i + 1))
      case measure => omega
      case rel =>
        refine ⟨i + 1, .slice (some ⟨g4, 0, none⟩) (i + 1) c4, by omega, by omega, by go_num, ?_, HRN4⟩
        rw [HT1.out]; exact HST.out
    · have hik' : ¬ (i : Int) < (kl : Int) := by omega
      have htk : K.take i = K := List.take_of_length_le (by rw [HKL.out]; omega)
      rw [htk] at HG
      rw [htk, List.length_map, HKL.out] at hvr
      subst hvr
      have HE := Lib.hid (fun x0 x1 x2 x3 => HFIN.out ar cr ((((w0.setCell ⟨rb, 0, none⟩ x0).setCell ⟨rb, 1, none⟩ x1).setCell ⟨rb, 2, none⟩ x2).setCell ⟨rb, 3, none⟩ x3) (by
        obtain ⟨xs, h3, h4⟩ := HG.out.row.own
        rw [List.length_map, HKL.out] at h3
        have hgr := grown_box4 rb w0 x0 x1 x2 x3
        refine RowD.lower (B := gb + 1) ⟨⟨xs, ?_, ?_⟩, ?_⟩ (by have := HRB.out; have := HGE.out; omega)
        · rw [List.length_map, HKL.out]
          exact h3.kept hgr (.inr (fun e => by have := (h3.lt rb e).1; omega))
        · exact RdAll.keep (fun k hk hlt => ⟨⟨by have := HRB.out; have := hk.1; omega, hk.2⟩, hgr.block k hlt (fun e => by cases e; have := hk.1; omega)⟩) _ _ h4
        · have := hgr.size; have := HG.out.row.le; omega) (below_box4 HG.out.bel (by have := HRB.out; omega) x0 x1 x2 x3))
      obtain ⟨x0, x1, x2, x3⟩ := bx_cells4 HG.out.out
      obtain ⟨z0, z1, z2, z3⟩ := bx_cells4 HRES.out
      obtain ⟨f0, f1, f2, f3⟩ := bx_free4 HRES.out
      clear htk hvb hcr1 hcr2
      go_wp2_with fail
      refine bodyPost_ret (v := .agg #[.int .i64 gt, .int .i64 gn, .int .i64 gs, .slice ar kl cr]) (by simp [results, Tryz.results36, go_sem, z0, z1, z2, z3]) rfl ?_
      exact HE.out _ _ _ _
end Dm
end Go.Proofs.YtfocooehnmpndaaGreat
