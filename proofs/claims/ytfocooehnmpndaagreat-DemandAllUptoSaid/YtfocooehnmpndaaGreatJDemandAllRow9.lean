/- (*Table).All. The nodes of demand.Table while they are made: a row of one's own whose kids are rows of one's own. More ways to take an operation first in a drawn region: one that n waits for; one that no world changes. demand.NewTable$1: the visit of a tree makes its nodes. -/
import Derived.Test.YtfocooehnmpndaaGreatJDemandAllRow8
import Derived.Test.YtfocooehnmpndaaGreatJDemandAllRow2
import Derived.Test.YtfocooehnmpndaaGreatJDemandAllRow7
import Derived.Test.YtfocooehnmpndaaGreatJDemandAllRow4
namespace Go.Proofs.YtfocooehnmpndaaGreat
open Go.RowKit
namespace Dm
open At (Ref worth worthL enodes refsS inM)
theorem elIntsA : ElemT Tryz.prog 32 40 1 24 := ElemT.mk' (z := .slice none 0 0) (by kernel_rfl) (by kernel_rfl) rfl (by decide)
theorem own_keeps {C : Nat → Prop} {w w' : World} {B : Nat} {e : TypeId} {s : Nat} {v : Value} {n : Nat} {xs : List Value} (h : w.ownsRow B e s v n xs) (hk : Keeps C w w') (hC : ∀ k, B ≤ k → ¬ C k) : w'.ownsRow B e s v n xs :=
  own_blk h fun g hg => hk.block g (h.lt g hg).2 (hC g (h.lt g hg).1)
theorem rowD_keeps {C S : Nat → Prop} {B : Nat} {e : TypeId} {s : Nat} {ds : List D} {v : Value} {w w' : World} (h : RowD S B e s ds v w) (hk : Keeps C w w') (hC : ∀ k, B ≤ k → ¬ C k) (hS : ∀ k, S k → ¬ C k) : RowD S B e s ds v w' := by
  obtain ⟨⟨xs, h1, h2⟩, h3⟩ := h
  exact ⟨⟨xs, own_keeps h1 hk hC, RdAll.keep (fun k hk1 hlt => ⟨hk1, hk.block k hlt (hS k hk1.1)⟩) _ _ h2⟩, Nat.le_trans h3 hk.size⟩
theorem GetM.grown {l : List Inst} {Bd vb sb : Nat} {X : GetS} {w w' : World} {row : Option Nat} (h : GetM l Bd vb sb X w) (hg : w.grownBy w' row) (h1 : row ≠ some vb) (h2 : row ≠ some sb) : GetM l Bd vb sb X w' := by
  obtain ⟨⟨m, ⟨D, a1, a2⟩, a3⟩, ⟨k, ⟨E, b1, b2⟩, b3⟩⟩ := h
  exact ⟨⟨m, ⟨D, ownsMap_sameU a1 (hg.block sb a1.lt (fun e => h2 e.symm)), a2⟩, a3⟩, ⟨k, ⟨E, ownsMap_sameU b1 (hg.block vb b1.lt (fun e => h1 e.symm)), b2⟩, b3⟩⟩
theorem keeps_own {C : Nat → Prop} {w w1 w2 : World} {row : Option Nat} (h : Keeps C w w1) (hg : w1.grownBy w2 row) (hr : ∀ k, row = some k → w.heap.size ≤ k) : Keeps C w w2 :=
  ⟨hg.os.trans h.os, hg.tape.trans h.tape, hg.output.trans h.output, Nat.le_trans h.size hg.size, fun j hj hn => (hg.block j (Nat.lt_of_lt_of_le hj h.size) (fun e => by have := hr j e.symm; omega)).trans (h.block j hj hn)⟩
structure TaS (g : Gram) (s : At.Sys) (L : List Nd) (Bd vb sb : Nat) (W : World) (n : Nat) (Y : GetS) (wr : World) : Prop where
  inv : GetI s L (fun j => j ∈ allI g s L) (fun _ => False) Y
  mem : GetM (allI g s L) Bd vb sb Y wr
  keep : Keeps (CT vb sb) W wr
  has : hasN g s L n
structure TaR (g : Gram) (s : At.Sys) (L : List Nd) (Bd vb sb : Nat) (w6 : World) (n : Nat) (l : List Nat) (v : Value) (Y : GetS) (wr : World) : Prop where
  inv : GetI s L (fun j => j ∈ allI g s L) (fun _ => False) Y
  mem : GetM (allI g s L) Bd vb sb Y wr
  keep : Keeps (CT vb sb) w6 wr
  own : wr.ownsRow w6.heap.size 3 1 v l.length (ints (l.map fun a => valI s L (n, a)))
  has : ∀ a ∈ l, ∃ v, Vl s L (n, a) v
def AllPost (g : Gram) (s : At.Sys) (L : List Nd) (vb sb : Nat) (W : World) (e : Ending) (w' : World) : Prop :=
  Keeps (CT vb sb) W w' ∧ ∃ v ok, e = .returned (.tuple #[v, .bool ok]) ∧ (ok = true → hasN g s L L.length ∧ Rd (fun k => W.heap.size ≤ k) w' (.sl ((rowsI g s L L.length).map D.ints)) [v]) ∧ (ok = false → v = .slice none 0 0 ∧ ∃ i ∈ allI g s L, ∀ v, ¬ Vl s L i v)
set_option maxHeartbeats 4000000 in
set_option maxRecDepth 100000 in
theorem allE (g : Gram) (s : At.Sys) (T : Tree) (hs : At.checkS g s = 0) (hv : validT g T = true) (hroot : rootS g T = ⟨false, g.start⟩) (hal : s.attrs.length ≤ 2000000) (hsz : tsz T ≤ 1000000) (tb eb vb sb : Nat)
    (Bd : Nat) (X : GetS) (W : World) (hBd : Bd ≤ 1000000000000) (hI : GetI s (tabT T) (fun j => j ∈ allI g s (tabT T)) (fun _ => False) X) (hT : TbS g s (tabT T) tb eb vb sb W) (hM : GetM (allI g s (tabT T)) Bd vb sb X W) :
    Calls Tryz.prog 27 #[.pointer (some ⟨tb, 0, none⟩)] W (AllPost g s (tabT T) vb sb W) := by
  obtain ⟨PST, HP⟩ := nameIt (AllPost g s (tabT T) vb sb W)
  obtain ⟨L, HL⟩ := nameIt (tabT T)
  rw [HL.out] at hI hT hM
  have HLEN : Hid (L.length = tsz T) := by show _ = _; rw [← HL.out]; exact tab_len T
  have HYES : Hid (∀ v w', Keeps (CT vb sb) W w' → hasN g s L L.length → Rd (fun k => W.heap.size ≤ k) w' (.sl ((rowsI g s L L.length).map D.ints)) [v] → PST (.returned (.tuple #[v, .bool true])) w') := fun v w' h1 h2 h3 => by
    rw [← HP.out, HL.out]; exact ⟨h1, v, true, rfl, fun _ => ⟨h2, h3⟩, fun h => (by cases h)⟩
  have HNO : Hid (∀ i ∈ allI g s L, (∀ v, ¬ Vl s L i v) → ∀ w', Keeps (CT vb sb) W w' → PST (.returned (.tuple #[.slice none 0 0, .bool false])) w') := fun i hi hn w' h1 => by
    rw [← HP.out, HL.out]; exact ⟨h1, _, false, rfl, fun h => (by cases h), fun _ => ⟨rfl, i, hi, hn⟩⟩
  have HRULE : Hid (∀ i (hi : i < L.length), L[i].rule < (g.rules.length : Int)) := fun i hi => by
    rw [HLEN.out] at hi
    obtain ⟨x, u, p, hK⟩ := known_all hv hi
    have h1 := ndAt_known hK
    rw [HL.out] at h1
    unfold ndAt at h1
    rw [List.getElem?_eq_getElem (by rw [HLEN.out]; exact hi)] at h1
    simp only [Option.getD_some] at h1
    rw [h1]
    by_cases hr : x.rule = -1
    · simp only [hr]; omega
    · obtain ⟨ri, e, h2, -⟩ := node_rule hv hK.2 hr
      simp only [e]; omega
  have HT := Lib.hid hT
  have HBD := Lib.hid hBd
  have HAL := Lib.hid hal
  have HSZ := Lib.hid hsz
  have HLT : Hid (vb < W.heap.size ∧ sb < W.heap.size) := ⟨by obtain ⟨m, h, -⟩ := hM.va; exact h.lt, by obtain ⟨m, h, -⟩ := hM.st; exact h.lt⟩
  have HCT : Hid (∀ b, W.heap.size ≤ b → ¬ CT vb sb b) := fun b hb hc => by
    have h1 := HLT.out
    rcases hc with rfl | rfl <;> omega
  have HS0 : Hid (TaS g s L Bd vb sb W 0 X W) := ⟨hI, hM, Below.keeps (Below.refl _ _), fun i _ h => (by omega)⟩
  have HR0 : Hid (RowD (fun k => W.heap.size ≤ k) W.heap.size 40 1 ((rowsI g s L 0).map D.ints) (.slice none 0 0) W) := RowD.nil _ _ _ _ _ (Nat.le_refl _)
  have HGET := Lib.hid (getE g s T hs hv hroot hal hsz tb eb vb sb)
  have HATT := Lib.hid (fun (n : Nat) (W' : World) (h : TbS g s L tb eb vb sb W') (hn : n < L.length) => attrsE g s L tb eb vb sb n W' h hn (HRULE.out n hn) (Nat.le_trans hal (by decide)))
  have hAN : Hid (∀ n, (attrsAt g s L n).length ≤ 2000000) := fun n => by
    refine Nat.le_trans ?_ HAL.out
    unfold attrsAt attrsOf
    split
    · exact Nat.zero_le _
    · exact Nat.le_trans (List.length_filter_le _ _) (by rw [List.length_range]; exact Nat.le_refl _)
  rw [HL.out] at HGET
  rw [HP.out]
  obtain ⟨⟨ar, cr, aa, ac, qa, qn, qc, na, nc, h1, h2, h3, h4⟩, h5, h6⟩ := hT
  obtain ⟨hn1, hn2⟩ := h4.bounds.2
  unfold maxLen at hn2
  obtain ⟨LN, HLN⟩ := nameIt L.length
  have hLN : LN ≤ 1000000 := by rw [← HLN.out, HLEN.out]; exact hsz
  rw [HLN.out] at h1 hn1
  obtain ⟨x0, x1, x2, x3, x4, x5, x6, x7, x8, x9⟩ := bx_cells10 h1
  clear h1 h2 h3 h4 h5 h6 hI hM HP hs hv hroot hal hsz hBd
  go_enter Tryz.func27, Tryz.ntmps27
  go_wp2_with fail
  clear x0 x1 x2 x3 x4 x5 x6 x7 x8 x9
  go_loopg [4, 5, 6, 8, 9, 10, 16] LN (fun gg v4 v5 v6 v8 v9 v10 v16 wr => ∃ (i : Nat) (Y : GetS), i ≤ LN ∧ LN - i ≤ gg ∧ v16 = .int .i64 i ∧ Hid (TaS g s L Bd vb sb W i Y wr) ∧ Hid (RowD (fun k => W.heap.size ≤ k) W.heap.size 40 1 ((rowsI g s L i).map D.ints) v4 wr))
  case atStart => exact ⟨0, X, by omega, by omega, rfl, HS0, HR0⟩
  case round =>
    obtain ⟨wo, rfl⟩ : ∃ wo : World, wo = wr := ⟨_, rfl⟩
    obtain ⟨i, Y, hi, hg, rfl, HS, HR⟩ := hrel
    clear HS0 HR0
    have hform := HR.out.form
    rw [List.length_map, rowsI_len] at hform
    obtain ⟨a4, c4, rfl, hc1, hc2, hc3⟩ := hform
    unfold maxLen at hc2
    have HO4 := Lib.hid hc3
    clear hc3
    by_cases hlt : i < LN
    · have hlt' : (i : Int) < (LN : Int) := by omega
      have hil : i < L.length := by rw [HLN.out]; exact hlt
      have HTI := Lib.hid (HT.out.keeps HS.out.keep)
      have HAT := Lib.hid (HATT.out i wo HTI.out hil)
      have HWR : Hid (W.heap.size ≤ wo.heap.size) := HS.out.keep.size
      obtain ⟨AL, HALl⟩ := nameIt (attrsAt g s L i)
      have hAN2 : AL.length ≤ 2000000 := by rw [← HALl.out]; exact hAN.out i
      have HIN : Hid (∀ a ∈ AL, (i, a) ∈ allI g s L) := fun a ha => mem_allI.2 ⟨hil, by show a ∈ attrsAt g s L i; rw [HALl.out]; exact ha⟩
      go_wp2_with (refine HAT.out.mono ?_)
      rintro e6 w6 ⟨v6, rfl, ho6, hb6⟩
      rw [HALl.out] at ho6
      have HB6 : Hid (Below wo.heap.size wo w6) := hb6
      have HT6 := Lib.hid (HTI.out.below hb6)
      have HO6 := Lib.hid ho6
      obtain ⟨a6, c6, rfl, hcc1, hcc2⟩ := own_len ho6
      unfold maxLen at hcc2
      have HW6 : Hid (wo.heap.size ≤ w6.heap.size) := hb6.size
      have HCT6 : Hid (∀ b, wo.heap.size ≤ b → ¬ CT vb sb b) := fun b hb => HCT.out b (Nat.le_trans HWR.out hb)
      have HL0 : Hid (TaR g s L Bd vb sb w6 i (AL.take 0) (.slice none 0 0) Y w6) :=
        ⟨HS.out.inv, HS.out.mem.keep hb6, Below.keeps (Below.refl _ _), World.ownsRow_nil _ _ _ _, fun a ha => by simp at ha⟩
      obtain ⟨AN, HANl⟩ := nameIt AL.length
      rw [HANl.out] at hAN2 hcc1
      rw [HANl.out]
      clear ho6 hb6 HAT
      go_wp2_with fail
      go_loopg [6, 8, 9, 10, 23] AN (fun gg v6 v8 v9 v10 v23 wr => ∃ (j : Nat) (Z : GetS), j ≤ AN ∧ AN - j ≤ gg ∧ v23 = .int .i64 j ∧ Hid (TaR g s L Bd vb sb w6 i (AL.take j) v6 Z wr))
      case atStart => exact ⟨0, Y, by omega, by omega, rfl, HL0⟩
      case round =>
        obtain ⟨j, Z, hj, hgj, rfl, HZ⟩ := hrel
        clear HL0
        have HTKL : Hid ((AL.take j).length = j) := by show _ = _; rw [List.length_take, HANl.out]; omega
        have HRX : Hid (RowD (fun k => W.heap.size ≤ k) W.heap.size 40 1 ((rowsI g s L i).map D.ints) (.slice a4 i c4) wr) := rowD_keeps (HR.out.keep HB6.out) HZ.out.keep HCT.out HCT.out
        have ho7 := HZ.out.own
        rw [HTKL.out] at ho7
        have HO7 := Lib.hid ho7
        obtain ⟨a7, c7, rfl, hc71, hc72⟩ := own_len ho7
        unfold maxLen at hc72
        clear ho7
        have HCTX : Hid (∀ b, w6.heap.size ≤ b → some b ≠ some vb ∧ some b ≠ some sb) := fun b hb => by
          have h1 := HCT6.out b (Nat.le_trans HW6.out hb)
          unfold CT at h1
          exact ⟨fun e => h1 (.inl (Option.some.inj e)), fun e => h1 (.inr (Option.some.inj e))⟩
        have HKX : Hid (Keeps (CT vb sb) W wr) := Keeps.more HS.out.keep (Keeps.more (Below.keeps HB6.out) HZ.out.keep)
        have HWX : Hid (w6.heap.size ≤ wr.heap.size) := HZ.out.keep.size
        by_cases hjt : j < AN
        · have hjt' : (j : Int) < (AN : Int) := by omega
          have hjc : (j : Int) ≤ (c6 : Int) := by omega
          have hjl : j < AL.length := by rw [HANl.out]; exact hjt
          have hsl := sl_of_own (own_keeps HO6.out HZ.out.keep HCT6.out)
          obtain ⟨bb, bo, rfl, hcell⟩ := Sl.at hsl hjl
          have c0 := hcell j (by unfold natI; simp [ints]; exact hjl)
          have HMEM : Hid (AL[j] ∈ AL) := List.getElem_mem hjl
          have HTK : Hid (AL.take (j + 1) = AL.take j ++ [AL[j]]) := List.take_succ_eq_append_getElem hjl
          have e0 : (ints (natI AL))[j]'(by unfold natI; simp [ints]; exact hjl) = .int .i64 (AL[j] : Int) := by simp [ints, natI]
          rw [e0] at c0
          obtain ⟨a, HA⟩ := nameIt (AL[j]'hjl)
          rw [HA.out] at c0 HMEM HTK
          have HTX := Lib.hid (HT6.out.keeps HZ.out.keep)
          have HCALL := Lib.hid (HGET.out (cnt0 (allI g s L) Z + 1) Bd Z (fun _ => False) i a wr (Nat.lt_succ_self _) HBD.out (HIN.out a HMEM.out) HZ.out.inv (fun j hj => hj.elim) HTX.out HZ.out.mem)
          clear hsl hcell e0
          go_wp2_with (refine HCALL.out.mono ?_)
          rintro e8 w8 ⟨v8, ok8, Y8, rfl, R8⟩
          have HR8 := Lib.hid R8
          clear R8 HCALL c0
          cases ok8 with
          | true =>
            have HVL : Hid (Vl s L (i, a) v8) := by
              have h1 := HR8.out.yes rfl
              have h2 := HR8.out.inv.two _ h1.1
              rw [h1.2] at h2
              exact h2
            have HO8 := Lib.hid (own_keeps HO7.out HR8.out.keep (fun b hb => HCT6.out b (Nat.le_trans HW6.out hb)))
            have hw8 : w6.heap.size ≤ w8.heap.size := Nat.le_trans HWX.out HR8.out.keep.size
            go_wp2_with (at_builtin; refine wp_app1 elInt rfl _ _ rfl HO8.out rfl rfl rfl rfl (by omega) (by unfold maxLen; omega) hw8 ?_)
            intro v9 w9 ho9 hg9
            have HZ9 : Hid (TaR g s L Bd vb sb w6 i (AL.take (j + 1)) v9 Y8 w9) := by
              have hb : ∀ k, (Value.slice a7 j c7).ownBlock = some k → w6.heap.size ≤ k := fun k e => (HO8.out.lt k e).1
              refine ⟨HR8.out.inv, HR8.out.mem.grown hg9 (fun e => (HCTX.out vb (hb vb e)).1 rfl) (fun e => (HCTX.out sb (hb sb e)).2 rfl), keeps_own (Keeps.more HZ.out.keep HR8.out.keep) hg9 hb, ?_, fun x hx => ?_⟩
              · rw [HTK.out, List.map_append, ints_append, List.length_append, HTKL.out]
                have e1 : ([a] : List Nat).map (fun a => valI s L (i, a)) = [v8] := by simp [valI_eq HVL.out]
                rw [e1]
                rw [← List.map_take] at ho9
                exact ho9
              · rw [HTK.out] at hx
                rcases List.mem_append.1 hx with hx | hx
                · exact HZ.out.has x hx
                · rw [List.mem_singleton] at hx
                  rw [hx]
                  exact ⟨v8, HVL.out⟩
            clear ho9 hg9
            go_wp2_with fail
            go_roundg (AN - (j + 1))
            case measure => omega
            case rel => exact ⟨j + 1, Y8, by omega, by omega, by go_num, HZ9.out⟩
          | false =>
            have HF : Hid (PST (.returned (.tuple #[.slice none 0 0, .bool false])) w8) := HNO.out _ (HIN.out a HMEM.out) (HR8.out.no rfl) w8 (Keeps.more HKX.out HR8.out.keep)
            clear HR8
            go_wp2_with fail
            first | exact HF.out | (refine bodyPost_ret (results_tmp2 Tryz.results27 _ _ _) rfl ?_; exact HF.out)
        · have hend : j = AN := by omega
          have hjt' : ¬ (j : Int) < (AN : Int) := by omega
          have HTA : Hid (AL.take j = AL) := by show _ = _; rw [hend, ← HANl.out, List.take_length]
          have HZO := HZ
          rw [HTA.out] at HZO
          obtain ⟨⟨xs, hxo, hxd⟩, hxl⟩ := HRX.out
          rw [List.length_map, rowsI_len] at hxo
          have HXO := Lib.hid hxo
          have HXD := Lib.hid hxd
          have HROW : Hid (Rd (fun k => w6.heap.size ≤ k) wr (D.ints (rowI g s L i)) [.slice a7 AN c7]) := by
            show Rd _ _ _ _
            have h1 := HO7.out
            rw [← hend]
            refine rd_of_own h1 ((rdAll_ints _ _).2 ?_) ?_ (fun k e => (h1.lt k e).1)
            · rw [HTA.out]; unfold rowI; rw [HALl.out]
            · unfold rowI; rw [HALl.out]; simp [HANl.out, hend]
          clear hxo hxd hxl
          have hwx : W.heap.size ≤ wr.heap.size := HKX.out.size
          go_wp2_with (at_builtin; refine wp_app1at elIntsA rfl _ _ rfl HXO.out rfl rfl (by simp) rfl rfl (by omega) (by unfold maxLen; omega) hwx ?_)
          intro v9 w9 ho9 hg9 hat9
          have hb : ∀ k, (Value.slice a4 i c4).ownBlock = some k → W.heap.size ≤ k ∧ k < wo.heap.size := HO4.out
          have HS9 : Hid (TaS g s L Bd vb sb W (i + 1) Z w9) := by
            refine ⟨HZ.out.inv, HZ.out.mem.grown hg9 (fun e => HCT.out vb (hb vb e).1 (.inl rfl)) (fun e => HCT.out sb (hb sb e).1 (.inr rfl)), keeps_own HKX.out hg9 (fun k e => (hb k e).1), hasN_succ HS.out.has (fun a ha => ?_)⟩
            rw [HALl.out] at ha
            exact HZO.out.has a ha
          have HR9 : Hid (RowD (fun k => W.heap.size ≤ k) W.heap.size 40 1 ((rowsI g s L (i + 1)).map D.ints) v9 w9) := by
            rw [rowsI_succ, List.map_append]
            refine RowD.step (es := [D.ints (rowI g s L i)]) HXO.out HXD.out (by rw [List.length_map, rowsI_len]) (RdAll.one HROW.out) (fun k hk _ => ⟨?_, fun e => ?_⟩) hwx (by simpa using ho9) hg9 hat9
            · have h1 := HWR.out
              have h2 := HW6.out
              omega
            · have h1 := (hb k e).2
              have h2 := HW6.out
              omega
          clear ho9 hg9 hat9 hb
          go_wp2_with fail
          go_roundg (LN - (i + 1))
          case measure => omega
          case rel => exact ⟨i + 1, Z, by omega, by omega, by go_num, HS9.out, HR9.out⟩
    · have hend : i = LN := by omega
      have hlt' : ¬ (i : Int) < (LN : Int) := by omega
      have HF : Hid (PST (.returned (.tuple #[.slice a4 LN c4, .bool true])) wo) := by
        show PST _ _
        rw [← hend]
        have e : i = L.length := by rw [HLN.out]; exact hend
        exact HYES.out _ _ HS.out.keep (by rw [← e]; exact HS.out.has) (by rw [← e]; exact HR.out.rd.mono fun k hk _ => by rcases hk with h | h <;> exact h)
      go_wp2_with fail
      exact HF.out
end Dm
end Go.Proofs.YtfocooehnmpndaaGreat
namespace Go.Proofs.YtfocooehnmpndaaGreat
open Go.RowKit
namespace Dm
theorem own_typedN {w : World} {B : Nat} {e : TypeId} {s : Nat} {v : Value} {n : Nat} {xs : List Value} (h : w.ownsRow B e s v n xs) {g : Nat} (hg : v.ownBlock = some g) : ∃ cur, w.heap[g]? = some (.cells cur e (0, 0)) := by
  rcases h.2 with ⟨h2, _⟩ | ⟨g', cap, cur, rfl, _, hh, _⟩
  · rw [h2] at hg; cases hg
  · cases hg
    exact ⟨cur, hh⟩
theorem own_setN {w : World} {B : Nat} {e : TypeId} {size : Nat} {g n cap : Nat} {xs : List Value} (h : w.ownsRow B e size (.slice (some ⟨g, 0, none⟩) n cap) n xs) (j : Nat) (u : Value) :
    (w.setCell ⟨g, j, none⟩ u).ownsRow B e size (.slice (some ⟨g, 0, none⟩) n cap) n (xs.set j u) := by
  obtain ⟨hl, h⟩ := h
  refine ⟨by simpa using hl, ?_⟩
  rcases h with ⟨h, _⟩ | ⟨g', cap', cur, hv, hg, hh, h1, h2, h3, h4⟩
  · cases h
  · cases hv
    refine .inr ⟨g, cap, cur.setIfInBounds j u, rfl, hg, bx_set hh j u, h1, h2, by simpa using h3, ?_⟩
    rw [← h4, Array.toList_setIfInBounds, List.take_set]
theorem own_cellN {w : World} {B : Nat} {e : TypeId} {size : Nat} {g n cap : Nat} {xs : List Value} (h : w.ownsRow B e size (.slice (some ⟨g, 0, none⟩) n cap) n xs) {j : Nat} (hj : j < xs.length) :
    w.cell? ⟨g, j, none⟩ = some xs[j] ∧ w.frozen? ⟨g, j, none⟩ = false := by
  obtain ⟨hl, h⟩ := h
  rcases h with ⟨h, _⟩ | ⟨g', cap', cur, hv, hg, hh, h1, h2, h3, h4⟩
  · cases h
  · cases hv
    refine ⟨?_, by simp [World.frozen?, hh]⟩
    simp only [World.cell?, hh]
    have hjn : j < n * size := by rw [← hl]; exact hj
    have e1 : xs[j]? = cur[j]? := by
      rw [← h4, List.getElem?_take_of_lt hjn, Array.getElem?_toList]
    rw [← e1, List.getElem?_eq_getElem hj]
    rfl
theorem flatCongr {f g : Nat → List Value} : ∀ (l : List Nat), (∀ k ∈ l, f k = g k) → l.flatMap f = l.flatMap g
  | [], _ => rfl
  | k :: l, h => by rw [List.flatMap_cons, List.flatMap_cons, h k List.mem_cons_self, flatCongr l fun j hj => h j (List.mem_cons_of_mem _ hj)]
theorem setCell_facts (w : World) (a : Addr) (v : Value) : (w.setCell a v).os = w.os ∧ (w.setCell a v).tape = w.tape ∧ (w.setCell a v).output = w.output := by
  have h := (Below.refl 0 w).setCell (p := a) (Nat.zero_le _) v
  exact ⟨h.os, h.tape, h.output⟩
structure Stq (O O' : Nat → Prop) (w w' : World) : Prop where
  os : w'.os = w.os
  tape : w'.tape = w.tape
  output : w'.output = w.output
  size : w.heap.size ≤ w'.heap.size
  same : ∀ k, k < w.heap.size → ¬ O k → w'.heap[k]? = w.heap[k]?
  own : ∀ k, O' k → O k ∨ w.heap.size ≤ k
section
variable {O O' O2 : Nat → Prop} {w w' w2 : World}
theorem Stq.trans (h : Stq O O' w w') (h2 : Stq O' O2 w' w2) : Stq O O2 w w2 :=
  ⟨h2.os.trans h.os, h2.tape.trans h.tape, h2.output.trans h.output, Nat.le_trans h.size h2.size, fun k hk hn => (h2.same k (Nat.lt_of_lt_of_le hk h.size) (fun e => (h.own k e).elim hn (fun h3 => by omega))).trans (h.same k hk hn), fun k hk => by
    rcases h2.own k hk with h3 | h3
    · exact h.own k h3
    · have := h.size; exact .inr (by omega)⟩
theorem Stq.below (h : Below w.heap.size w w') : Stq O O w w' := ⟨h.os, h.tape, h.output, h.size, fun k hk _ => h.block k hk, fun _ hk => .inl hk⟩
theorem Stq.box (h : Stq O O' w w') {b : Nat} {o : Obj} (hb : w.heap[b]? = some o) (hn : ¬ O b) : w'.heap[b]? = some o ∧ ¬ O' b := by
  have hlt := (Array.getElem?_eq_some_iff.1 hb).1
  exact ⟨(h.same b hlt hn).trans hb, fun e => (h.own b e).elim hn (fun h3 => by omega)⟩
end
def ndC (L : List Nd) (val : Nat → Value) : List Value := (List.range L.length).flatMap fun k => [.int .i64 (ndAt L k).rule, .int .i64 (ndAt L k).up, .int .i64 (ndAt L k).pos, val k]
theorem flat_len4 {f : Nat → List Value} (hf : ∀ k, (f k).length = 4) : ∀ n, ((List.range n).flatMap f).length = n * 4
  | 0 => rfl
  | n + 1 => by rw [List.range_succ, List.flatMap_append, List.length_append, flat_len4 hf n]; simp [hf]; omega
theorem flat_set4 {f : Nat → List Value} (hf : ∀ k, (f k).length = 4) (p : Nat) (v : Value) : ∀ n, p < n → ((List.range n).flatMap f).set (p * 4 + 3) v = (List.range n).flatMap fun k => if k = p then (f p).set 3 v else f k
  | 0, h => by omega
  | n + 1, h => by
    rw [List.range_succ, List.flatMap_append, List.flatMap_append]
    by_cases e : p = n
    · subst e
      rw [List.set_append_right _ _ (by rw [flat_len4 hf]; omega), flat_len4 hf, show p * 4 + 3 - p * 4 = 3 by omega]
      congr 1
      · refine flatCongr _ fun k hk => ?_
        rw [List.mem_range] at hk
        rw [if_neg (by omega)]
      · simp
    · rw [List.set_append_left _ _ (by rw [flat_len4 hf]; omega), flat_set4 hf p v n (by omega)]
      congr 1
      simp only [List.flatMap_cons, List.flatMap_nil, List.append_nil]
      rw [if_neg (fun h => e h.symm)]
theorem ndC_len (L : List Nd) (val : Nat → Value) : (ndC L val).length = L.length * 4 := flat_len4 (fun _ => rfl) _
theorem ndAt_app {L : List Nd} {x : Nd} {k : Nat} : ndAt (L ++ [x]) k = if k < L.length then ndAt L k else if k = L.length then x else ndAt [] 0 := by
  unfold ndAt
  by_cases h : k < L.length
  · rw [if_pos h, List.getElem?_append_left h]
  · rw [if_neg h, List.getElem?_append_right (by omega)]
    by_cases e : k = L.length
    · rw [if_pos e, e, Nat.sub_self]; rfl
    · rw [if_neg e, List.getElem?_eq_none (by simp; omega)]; rfl
theorem ndC_app (L : List Nd) (val : Nat → Value) (x : Nd) (v : Value) : ndC (L ++ [x]) (fun k => if k = L.length then v else val k) = ndC L val ++ [.int .i64 x.rule, .int .i64 x.up, .int .i64 x.pos, v] := by
  unfold ndC
  rw [List.length_append, show L.length + [x].length = L.length + 1 from rfl, List.range_succ, List.flatMap_append]
  congr 1
  · refine flatCongr _ fun k hk => ?_
    rw [List.mem_range] at hk
    rw [ndAt_app, if_pos hk]
    simp only [show ¬ k = L.length by omega, if_false]
  · simp [ndAt_app]
theorem ndAt_addK {L : List Nd} {p n : Nat} (hp : p < L.length) (k : Nat) : ndAt (addK L (p : Int) n) k = if k = p then { ndAt L p with kids := (ndAt L p).kids ++ [(n : Int)] } else ndAt L k := by
  unfold ndAt addK
  rw [if_pos (by omega), Int.toNat_natCast, List.getElem?_modify]
  by_cases e : k = p
  · subst e
    rw [if_pos rfl, List.getElem?_eq_getElem hp]; simp
  · rw [if_neg e]
    simp only [show ¬ p = k from fun h => e h.symm, if_false]
    simp
theorem ndC_set (L : List Nd) (val : Nat → Value) {p n : Nat} (hp : p < L.length) (v : Value) : ndC (addK L (p : Int) n) (fun k => if k = p then v else val k) = (ndC L val).set (p * 4 + 3) v := by
  unfold ndC
  rw [flat_set4 (fun _ => rfl) p v _ hp, addK_len]
  refine flatCongr _ fun k hk => ?_
  rw [ndAt_addK hp]
  by_cases e : k = p
  · subst e
    simp
  · simp [e]
theorem ndAt_get {L : List Nd} {k : Nat} (h : k < L.length) : ndAt L k = L[k] := by unfold ndAt; rw [List.getElem?_eq_getElem h]; rfl
structure Hd where
  c0 : Value
  c1 : Value
  c2 : Value
  c3 : Value
  c4 : Value
  c5 : Value
  c7 : Value
  c8 : Value
  c9 : Value
def Hd.cells (h : Hd) (v : Value) : Array Value := #[h.c0, h.c1, h.c2, h.c3, h.c4, h.c5, v, h.c7, h.c8, h.c9]
structure NB (B tb : Nat) (hd : Hd) (L : List Nd) (vs : Value) (val : Nat → Value) (w : World) : Prop where
  hdr : w.heap[tb]? = some (.cells (hd.cells vs) 132 (0, 0))
  row : w.ownsRow B 137 4 vs L.length (ndC L val)
  kid : ∀ k, k < L.length → w.ownsRow B 3 1 (val k) (ndAt L k).kids.length (ints (ndAt L k).kids)
  dis : ∀ k k', k < L.length → k' < L.length → k ≠ k' → ∀ g, (val k).ownBlock = some g → (val k').ownBlock ≠ some g
  lt : tb < B
  le : B ≤ w.heap.size
def OwN (tb : Nat) (vs : Value) (n : Nat) (val : Nat → Value) (k : Nat) : Prop := k = tb ∨ vs.ownBlock = some k ∨ ∃ i, i < n ∧ (val i).ownBlock = some k
section
variable {B tb : Nat} {hd : Hd} {L : List Nd} {vs : Value} {val : Nat → Value} {w w' : World}
theorem NB.keep (h : NB B tb hd L vs val w) (hb : Below w.heap.size w w') : NB B tb hd L vs val w' :=
  ⟨bx_keep h.hdr hb, own_keep h.row hb, fun k hk => own_keep (h.kid k hk) hb, h.dis, h.lt, Nat.le_trans h.le hb.size⟩
theorem NB.own (h : NB B tb hd L vs val w) {k : Nat} (hk : OwN tb vs L.length val k) : (k = tb ∨ B ≤ k) ∧ k < w.heap.size := by
  rcases hk with rfl | hk | ⟨i, hi, hk⟩
  · exact ⟨.inl rfl, (Array.getElem?_eq_some_iff.1 h.hdr).1⟩
  · have := h.row.lt k hk; exact ⟨.inr this.1, this.2⟩
  · have := (h.kid i hi).lt k hk; exact ⟨.inr this.1, this.2⟩
theorem NB.vs_kid (h : NB B tb hd L vs val w) {i g : Nat} (hi : i < L.length) (hg : vs.ownBlock = some g) : (val i).ownBlock ≠ some g := fun e => by
  obtain ⟨c1, h1⟩ := own_typedN h.row hg
  obtain ⟨c2, h2⟩ := own_typedN (h.kid i hi) e
  rw [h1] at h2
  simp at h2
theorem NB.app (h : NB B tb hd L vs val w) {vs' : Value} {x : Nd} (hx : x.kids = []) (ho : w'.ownsRow B 137 4 vs' (L.length + 1) (ndC L val ++ [.int .i64 x.rule, .int .i64 x.up, .int .i64 x.pos, .slice none 0 0])) (hg : w.grownBy w' vs.ownBlock) (hat : vs'.ownBlock = vs.ownBlock ∨ ∃ k, vs'.ownBlock = some k ∧ w.heap.size ≤ k) :
    w'.cell? ⟨tb, 0 + 6, none⟩ = some vs ∧ w'.frozen? ⟨tb, 0 + 6, none⟩ = false ∧ NB B tb hd (L ++ [x]) vs' (fun k => if k = L.length then .slice none 0 0 else val k) (w'.setCell ⟨tb, 0 + 6, none⟩ vs') ∧
      Stq (OwN tb vs L.length val) (OwN tb vs' (L ++ [x]).length (fun k => if k = L.length then .slice none 0 0 else val k)) w (w'.setCell ⟨tb, 0 + 6, none⟩ vs') := by
  obtain ⟨h1, h2, h3, h4, h5, h6⟩ := h
  have htb : tb < w.heap.size := (Array.getElem?_eq_some_iff.1 h1).1
  have hvs : ∀ k, vs.ownBlock = some k → B ≤ k ∧ k < w.heap.size := h2.lt
  have hh : w'.heap[tb]? = some (.cells (hd.cells vs) 132 (0, 0)) := (hg.block tb htb (fun e => by have := (hvs tb e.symm).1; omega)).trans h1
  have hne : ∀ k, vs'.ownBlock = some k → k ≠ tb := fun k e => by have := (ho.lt k e).1; omega
  have hset : ∀ g, g ≠ tb → (w'.setCell ⟨tb, 0 + 6, none⟩ vs').heap[g]? = w'.heap[g]? := fun g hgt => Below.heap_setCell _ _ _ _ hgt
  have hsz : (w'.setCell ⟨tb, 0 + 6, none⟩ vs').heap.size = w'.heap.size := by simp
  have hkid : ∀ k, k < L.length → ∀ g, (val k).ownBlock = some g → (w'.setCell ⟨tb, 0 + 6, none⟩ vs').heap[g]? = w.heap[g]? := fun k hk g hgk => by
    have h7 := (h3 k hk).lt g hgk
    rw [hset g (by omega)]
    refine hg.block g h7.2 (fun e => ?_)
    obtain ⟨c1, e1⟩ := own_typedN h2 e.symm
    obtain ⟨c2, e2⟩ := own_typedN (h3 k hk) hgk
    rw [e1] at e2
    simp at e2
  refine ⟨by simp [World.cell?, hh, Hd.cells], by simp [World.frozen?, hh], ⟨?_, ?_, fun k hk => ?_, fun k k' hk hk' hkk g hgk hgk' => ?_, h5, ?_⟩, ?_⟩
  · exact bx_set hh 6 vs'
  · rw [ndC_app, List.length_append]
    have e : x = ⟨x.rule, x.up, x.pos, []⟩ := by cases x; simp at hx; simp [hx]
    exact own_blk ho fun g hgk => hset g (hne g hgk)
  · rw [ndAt_app]
    by_cases e : k < L.length
    · simp only [e, if_true, show ¬ k = L.length by omega, if_false]
      exact own_blk (h3 k e) fun g hgk => hkid k e g hgk
    · have e2 : k = L.length := by simp at hk; omega
      subst e2
      simp only [Nat.lt_irrefl, if_false, if_true, hx]
      exact World.ownsRow_nil _ _ _ _
  · by_cases e1 : k = L.length
    · simp [e1, Value.ownBlock] at hgk
    · by_cases e2 : k' = L.length
      · simp [e2, Value.ownBlock] at hgk'
      · simp only [e1, e2, if_false] at hgk hgk'
        simp at hk hk'
        exact h4 k k' (by omega) (by omega) hkk g hgk hgk'
  · rw [hsz]; exact Nat.le_trans h6 hg.size
  · refine ⟨?_, ?_, ?_, by rw [hsz]; exact hg.size, fun k hk hn => ?_, fun k hk => ?_⟩
    · exact (setCell_facts _ _ _).1.trans hg.os
    · exact (setCell_facts _ _ _).2.1.trans hg.tape
    · exact (setCell_facts _ _ _).2.2.trans hg.output
    · rw [hset k (fun e => hn (.inl e))]
      exact hg.block k hk (fun e => hn (.inr (.inl e.symm)))
    · rcases hk with rfl | hk | ⟨i, hi, hk⟩
      · exact .inl (.inl rfl)
      · rcases hat with e | ⟨q, e, hq⟩
        · exact .inl (.inr (.inl (by rw [← e]; exact hk)))
        · rw [e] at hk
          cases hk
          exact .inr hq
      · by_cases e1 : i = L.length
        · simp [e1, Value.ownBlock] at hk
        · simp only [e1, if_false] at hk
          simp at hi
          exact .inl (.inr (.inr ⟨i, by omega, hk⟩))
theorem NB.cells (h : NB B tb hd L vs val w) {p : Nat} (hp : p < L.length) : ∃ nb cap, vs = .slice (some ⟨nb, 0, none⟩) L.length cap ∧ L.length ≤ cap ∧ cap ≤ maxLen ∧ nb < w.heap.size ∧ B ≤ nb ∧ w.cell? ⟨tb, 0 + 6, none⟩ = some vs ∧ w.cell? ⟨nb, p * 4 + 3, none⟩ = some (val p) := by
  obtain ⟨a, cap, rfl, e1, e2⟩ := own_len h.row
  cases a with
  | none =>
    rcases h.row.2 with ⟨h2, h3⟩ | ⟨g, cap', cur, h2, _⟩
    · omega
    · cases h2
  | some ad =>
    rcases h.row.2 with ⟨h2, h3⟩ | ⟨g, cap', cur, h2, hg, hh, _⟩
    · cases h2
    · cases h2
      have hj : p * 4 + 3 < (ndC L val).length := by rw [ndC_len]; omega
      have hc := (own_cellN h.row hj).1
      refine ⟨g, _, rfl, e1, e2, (Array.getElem?_eq_some_iff.1 hh).1, hg, by simp [World.cell?, h.hdr, Hd.cells], ?_⟩
      rw [hc]
      have h4 : (ndC L val)[p * 4 + 3]? = some (val p) := by
        have h5 := congrArg (fun l => l[p * 4 + 3]?) (ndC_set L val (n := 0) hp (val p))
        rw [List.getElem?_set_self hj] at h5
        have h6 : ndC (addK L (p : Int) 0) (fun k => if k = p then val p else val k) = ndC L val := by
          unfold ndC
          rw [addK_len]
          refine flatCongr _ fun k hk => ?_
          rw [ndAt_addK hp]
          by_cases e : k = p
          · subst e; simp only [if_true]
          · simp only [e, if_false]
        rw [h6] at h5
        exact h5
      rw [List.getElem?_eq_getElem hj] at h4
      rw [Option.some.inj h4]
theorem NB.addk (h : NB B tb hd L vs val w) {p n : Nat} (hp : p < L.length) {v' : Value} (ho : w'.ownsRow B 3 1 v' ((ndAt L p).kids.length + 1) (ints (ndAt L p).kids ++ [.int .i64 n])) (hg : w.grownBy w' (val p).ownBlock) (hat : v'.ownBlock = (val p).ownBlock ∨ ∃ k, v'.ownBlock = some k ∧ w.heap.size ≤ k) {nb cap : Nat} (hvs : vs = .slice (some ⟨nb, 0, none⟩) L.length cap) :
    w'.cell? ⟨tb, 0 + 6, none⟩ = some vs ∧ w'.cell? ⟨nb, p * 4 + 3, none⟩ = some (val p) ∧ w'.frozen? ⟨nb, p * 4 + 3, none⟩ = false ∧ NB B tb hd (addK L (p : Int) n) vs (fun k => if k = p then v' else val k) (w'.setCell ⟨nb, p * 4 + 3, none⟩ v') ∧
      Stq (OwN tb vs L.length val) (OwN tb vs (addK L (p : Int) n).length (fun k => if k = p then v' else val k)) w (w'.setCell ⟨nb, p * 4 + 3, none⟩ v') := by
  obtain ⟨nb', cap', e0, -, -, hnl, hnB, -, hcp⟩ := h.cells hp
  rw [hvs] at e0
  cases e0
  subst hvs
  have hvk := fun i hi (g : Nat) hg' => h.vs_kid (i := i) (g := g) hi hg'
  obtain ⟨h1, h2, h3, h4, h5, h6⟩ := h
  have htb : tb < w.heap.size := (Array.getElem?_eq_some_iff.1 h1).1
  have hkp := (h3 p hp).lt
  have hh : w'.heap[tb]? = some (.cells (hd.cells (.slice (some ⟨nb, 0, none⟩) L.length cap)) 132 (0, 0)) := (hg.block tb htb (fun e => by have := (hkp tb e.symm).1; omega)).trans h1
  have hnbk : ∀ i, i < L.length → (val i).ownBlock ≠ some nb := fun i hi => hvk i hi nb rfl
  have hnb : w'.heap[nb]? = w.heap[nb]? := hg.block nb hnl (fun e => hnbk p hp e.symm)
  have hrow : w'.ownsRow B 137 4 (.slice (some ⟨nb, 0, none⟩) L.length cap) L.length (ndC L val) := own_blk h2 fun g hgk => by
    simp [Value.ownBlock] at hgk
    subst hgk
    exact hnb
  have hnv : ∀ k, v'.ownBlock = some k → k ≠ nb := fun k e => by
    rcases hat with h7 | ⟨q, h7, hq⟩
    · rw [h7] at e; rintro rfl; exact hnbk p hp e
    · rw [h7] at e; cases e; omega
  have hset : ∀ g, g ≠ nb → (w'.setCell ⟨nb, p * 4 + 3, none⟩ v').heap[g]? = w'.heap[g]? := fun g hgt => Below.heap_setCell _ _ _ _ hgt
  have hsz : (w'.setCell ⟨nb, p * 4 + 3, none⟩ v').heap.size = w'.heap.size := by simp
  have hj : p * 4 + 3 < (ndC L val).length := by rw [ndC_len]; omega
  have hcf := own_cellN hrow hj
  refine ⟨by simp [World.cell?, hh, Hd.cells], ?_, ?_, ⟨?_, ?_, fun k hk => ?_, fun k k' hk hk' hkk g hgk hgk' => ?_, h5, ?_⟩, ?_⟩
  · rw [← hcp]
    simp only [World.cell?, hnb]
  · exact hcf.2
  · rw [hset tb (by omega)]; exact hh
  · rw [addK_len, ndC_set L val hp]
    exact own_setN hrow _ _
  · rw [addK_len] at hk
    rw [ndAt_addK hp]
    by_cases e : k = p
    · subst e
      simp only [if_true]
      refine own_blk (w := w') (by rw [ints_append, List.length_append]; exact ho) fun g hgk => hset g (hnv g hgk)
    · simp only [e, if_false]
      refine own_blk (w := w) (h3 k hk) fun g hgk => ?_
      rw [hset g (fun e2 => hnbk k hk (by rw [← e2]; exact hgk))]
      exact hg.block g ((h3 k hk).lt g hgk).2 (fun e2 => h4 k p hk hp e g hgk e2.symm)
  · rw [addK_len] at hk hk'
    have hq : ∀ j, j < L.length → j ≠ p → ∀ g, (val j).ownBlock = some g → v'.ownBlock ≠ some g := by
      intro j hj hjt g e1 e2
      rcases hat with e | ⟨q, e, hq⟩
      · rw [e] at e2
        exact h4 j p hj hp hjt g e1 e2
      · rw [e] at e2
        cases e2
        have := ((h3 j hj).lt _ e1).2
        omega
    by_cases e1 : k = p <;> by_cases e2 : k' = p <;> simp only [e1, e2, if_true, if_false] at hgk hgk'
    · exact hkk (by rw [e1, e2])
    · exact hq k' hk' e2 g hgk' hgk
    · exact hq k hk e1 g hgk hgk'
    · exact h4 k k' hk hk' hkk g hgk hgk'
  · rw [hsz]; exact Nat.le_trans h6 hg.size
  · refine ⟨?_, ?_, ?_, by rw [hsz]; exact hg.size, fun k hk hn => ?_, fun k hk => ?_⟩
    · exact (setCell_facts _ _ _).1.trans hg.os
    · exact (setCell_facts _ _ _).2.1.trans hg.tape
    · exact (setCell_facts _ _ _).2.2.trans hg.output
    · rw [hset k (fun e => hn (.inr (.inl (by rw [e]; rfl))))]
      exact hg.block k hk (fun e => hn (.inr (.inr ⟨p, hp, e.symm⟩)))
    · rw [addK_len] at hk
      rcases hk with rfl | hk | ⟨i, hi, hk⟩
      · exact .inl (.inl rfl)
      · exact .inl (.inr (.inl hk))
      · by_cases e1 : i = p
        · simp only [e1, if_true] at hk
          rcases hat with e | ⟨q, e, hq⟩
          · exact .inl (.inr (.inr ⟨p, hp, by rw [← e]; exact hk⟩))
          · rw [e] at hk
            cases hk
            exact .inr hq
        · simp only [e1, if_false] at hk
          exact .inl (.inr (.inr ⟨i, hi, hk⟩))
theorem NB.rd (h : NB B tb hd L vs val w) : Rd (fun k => B ≤ k) w (.sl (L.map Nd.d)) [vs] := by
  refine rd_of_own h.row ?_ (by simp) (fun k e => (h.row.lt k e).1)
  have key : ∀ m, m ≤ L.length → RdAll (fun k => B ≤ k) w ((L.take m).map Nd.d) ((List.range m).flatMap fun k => [.int .i64 (ndAt L k).rule, .int .i64 (ndAt L k).up, .int .i64 (ndAt L k).pos, val k]) := by
    intro m
    induction m with
    | zero => intro _; simp [RdAll]
    | succ m ih =>
      intro hm
      have hml : m < L.length := hm
      rw [List.take_succ_eq_append_getElem hml, List.map_append, List.range_succ, List.flatMap_append]
      refine RdAll.append (ih (by omega)) (RdAll.one ?_)
      have hk := h.kid m hml
      have hr : Rd (fun k => B ≤ k) w (.sl (L[m].kids.map D.int)) [val m] := by
        rw [← ndAt_get hml]
        exact rd_of_own hk ((rdAll_ints _ _).2 rfl) (by simp) (fun k e => (hk.lt k e).1)
      simp only [List.flatMap_cons, List.flatMap_nil, List.append_nil]
      refine ⟨[_], _, rfl, by simp [Rd, ndAt_get hml], [_], _, rfl, by simp [Rd, ndAt_get hml], [_], _, rfl, by simp [Rd, ndAt_get hml], ?_⟩
      exact RdAll.one hr
  have h1 := key L.length (Nat.le_refl _)
  rw [List.take_length] at h1
  exact h1
end
end Dm
end Go.Proofs.YtfocooehnmpndaaGreat
namespace Go.Proofs.YtfocooehnmpndaaGreat
open Go.RowKit
section
variable {P : Program} {ops : Array Oper} {Q : Exit → Act → World → Prop} {md : Region.Mode} {S : World → Prop} {n : Nat}
def waitsB (md : Region.Mode) (ops : Array Oper) (n i : Nat) : Bool := match ops[n]? with
  | some o => o.after.any fun e => Region.binds md e && e.on == i
  | none => false
theorem waits_not {i n : Nat} {listed : Array Bool} (hw : waitsB md ops n i = true) (hun : listed.getD i false = false) : n ∉ Region.ready md ops listed := by
  intro hr
  obtain ⟨_, o, ho, hall⟩ := mem_ready.1 hr
  unfold waitsB at hw
  rw [ho] at hw
  simp only at hw
  obtain ⟨e, he, h1⟩ := Array.any_eq_true'.1 hw
  rw [Bool.and_eq_true] at h1
  have := hall e he h1.1
  rw [show e.on = i by simpa using h1.2, hun] at this
  cases this
theorem wpU_firstM {i : Nat} {oi : Oper} {v : Value} (hi : ops[i]? = some oi) (hsel : ∀ (j : Nat) (o : Oper) cs b, ops[j]? = some o → o.op ≠ .select cs b)
    (hQ : ∀ c a w, Q (.panic c) (a.put oi.dst v) w → Q (.panic c) a w) (hin : i ≠ n) (hw : waitsB md ops n i = true) :
    ∀ (f : Nat) (listed : Array Bool) (a : Act) (w : World), listed.getD n true = false →
      (∀ j oj, ops[j]? = some oj → j ≠ i → listed.getD j true = false → (∀ e ∈ oj.after, Region.binds md e = true → e.on ≠ i) → oi.apart ops oj = true) →
      i ∈ Region.ready md ops listed → YieldsIf P ops S oi v a → S w →
      wpU P md ops Q S n f (listed.setIfInBounds i true) (a.put oi.dst v) w → wpU P md ops Q S n (f + 1) listed a w := by
  intro f
  induction f with
  | zero =>
    intro listed a w _ _ hr hy hS H
    refine ⟨fun h => (by rw [h] at hr; cases hr), fun j hj => ?_⟩
    by_cases hji : j = i
    · subst hji; exact hy.wpOp hi hS ⟨fun _ => hS, H⟩
    · have h1 := ready_mono hj hji
      rw [H.1] at h1
      cases h1
  | succ f ih =>
    intro listed a w hnl hfree hr hy hS H
    have hun := (mem_ready.1 hr).1
    refine ⟨fun h => (by rw [h] at hr; cases hr), fun j hj => ?_⟩
    by_cases hji : j = i
    · subst hji; exact hy.wpOp hi hS ⟨fun _ => hS, H⟩
    · have hjn : j ≠ n := fun e => waits_not hw (getD_both hun) (e ▸ hj)
      have h1 := H.2 j (ready_mono hj hji)
      obtain ⟨hjun, oj, hoj, hall⟩ := mem_ready.1 hj
      have hnot : ∀ e ∈ oj.after, Region.binds md e = true → e.on ≠ i := fun e he hb heq => by
        have h1 := hall e he hb
        rw [heq, getD_both hun] at h1
        cases h1
      have h2 := wpOp_putIf hoj (hfree j oj hoj hji hjun hnot) (fun cs b => hsel i oi cs b hi) (fun cs b => hsel j oj cs b hoj) hQ hy h1
      have hfree' : ∀ k ok, ops[k]? = some ok → k ≠ i → (listed.setIfInBounds j true).getD k true = false →
          (∀ e ∈ ok.after, Region.binds md e = true → e.on ≠ i) → oi.apart ops ok = true := fun k ok hk hki hun hno => by
        refine hfree k ok hk hki ?_ hno
        by_cases hjk : j = k
        · subst hjk; exact hjun
        · rw [getD_set_ne true hjk] at hun; exact hun
      have hnn : ((listed.setIfInBounds i true).setIfInBounds j true).getD n true = false := by
        rw [getD_set_ne true hjn, getD_set_ne true hin]
        exact hnl
      have hn2 : (listed.setIfInBounds j true).getD n true = false := by
        rw [getD_set_ne true hjn]; exact hnl
      refine wpOp_mono (fun a' w' h3 => ⟨fun _ => h3.2.1 hnn, ih (listed.setIfInBounds j true) a' w' hn2 hfree' (ready_mono hr (Ne.symm hji)) h3.1 (h3.2.1 hnn) ?_⟩) h2
      rw [Array.setIfInBounds_comm _ _ hji]
      exact h3.2.2
theorem wpU_takeM {i : Nat} {oi : Oper} {v : Value} {f : Nat} {listed : Array Bool} {a : Act} {w : World} (hi : ops[i]? = some oi) (hin : (i == n) = false) (hw : waitsB md ops n i = true) (hnl : listed.getD n true = false)
    (hsel : Region.noSelect ops = true) (hf : Region.free md ops listed i = true) (hr : (Region.ready md ops listed).contains i = true)
    (hQ : ∀ c a w, Q (.panic c) (a.put oi.dst v) w → Q (.panic c) a w) (hy : YieldsIf P ops S oi v a) (hS : S w)
    (h : wpU P md ops Q S n f (listed.setIfInBounds i true) (a.put oi.dst v) w) : wpU P md ops Q S n (f + 1) listed a w :=
  wpU_firstM hi (Region.noSelect_spec hsel) hQ (by simpa using hin) hw f listed a w hnl (Region.free_spec hi hf) (by simpa using hr) hy hS h
theorem wpU_firstF {i : Nat} {oi : Oper} {v : Value} (hi : ops[i]? = some oi) (hsel : ∀ (j : Nat) (o : Oper) cs b, ops[j]? = some o → o.op ≠ .select cs b)
    (hQ : ∀ c a w, Q (.panic c) (a.put oi.dst v) w → Q (.panic c) a w) (hin : i ≠ n) :
    ∀ (f : Nat) (listed : Array Bool) (a : Act) (w : World),
      (∀ j oj, ops[j]? = some oj → j ≠ i → listed.getD j true = false → (∀ e ∈ oj.after, Region.binds md e = true → e.on ≠ i) → oi.apart ops oj = true) →
      i ∈ Region.ready md ops listed → YieldsIf P ops (fun _ => True) oi v a → (listed.getD n true = false → S w) →
      wpU P md ops Q S n f (listed.setIfInBounds i true) (a.put oi.dst v) w → wpU P md ops Q S n (f + 1) listed a w := by
  intro f
  induction f with
  | zero =>
    intro listed a w _ hr hy hS H
    refine ⟨fun h => (by rw [h] at hr; cases hr), fun j hj => ?_⟩
    by_cases hji : j = i
    · subst hji; exact hy.wpOp hi trivial ⟨fun h => hS (by rw [getD_set_ne true hin] at h; exact h), H⟩
    · have h1 := ready_mono hj hji
      rw [H.1] at h1
      cases h1
  | succ f ih =>
    intro listed a w hfree hr hy hS H
    have hun := (mem_ready.1 hr).1
    refine ⟨fun h => (by rw [h] at hr; cases hr), fun j hj => ?_⟩
    by_cases hji : j = i
    · subst hji; exact hy.wpOp hi trivial ⟨fun h => hS (by rw [getD_set_ne true hin] at h; exact h), H⟩
    · have h1 := H.2 j (ready_mono hj hji)
      obtain ⟨hjun, oj, hoj, hall⟩ := mem_ready.1 hj
      have hnot : ∀ e ∈ oj.after, Region.binds md e = true → e.on ≠ i := fun e he hb heq => by
        have h1 := hall e he hb
        rw [heq, getD_both hun] at h1
        cases h1
      have h2 := wpOp_putIf hoj (hfree j oj hoj hji hjun hnot) (fun cs b => hsel i oi cs b hi) (fun cs b => hsel j oj cs b hoj) hQ hy h1
      have hfree' : ∀ k ok, ops[k]? = some ok → k ≠ i → (listed.setIfInBounds j true).getD k true = false →
          (∀ e ∈ ok.after, Region.binds md e = true → e.on ≠ i) → oi.apart ops ok = true := fun k ok hk hki hun hno => by
        refine hfree k ok hk hki ?_ hno
        by_cases hjk : j = k
        · subst hjk; exact hjun
        · rw [getD_set_ne true hjk] at hun; exact hun
      refine wpOp_mono (fun a' w' h3 => ?_) h2
      have hSS : (listed.setIfInBounds j true).getD n true = false → S w' := fun h => h3.2.1 (by
        by_cases hjn : j = n
        · subst hjn
          rw [Array.setIfInBounds_comm _ _ hin, getD_set_ne true hin]
          exact h
        · rw [getD_set_ne true hjn] at h
          rw [getD_set_ne true hjn, getD_set_ne true hin]; exact h)
      refine ⟨hSS, ih (listed.setIfInBounds j true) a' w' hfree' (ready_mono hr (Ne.symm hji)) h3.1 hSS ?_⟩
      rw [Array.setIfInBounds_comm _ _ hji]
      exact h3.2.2
theorem wpU_takeF {i : Nat} {oi : Oper} {v : Value} {f : Nat} {listed : Array Bool} {a : Act} {w : World} (hi : ops[i]? = some oi) (hin : (i == n) = false)
    (hsel : Region.noSelect ops = true) (hf : Region.free md ops listed i = true) (hr : (Region.ready md ops listed).contains i = true)
    (hQ : ∀ c a w, Q (.panic c) (a.put oi.dst v) w → Q (.panic c) a w) (hy : YieldsIf P ops (fun _ => True) oi v a) (hS : listed.getD n true = false → S w)
    (h : wpU P md ops Q S n f (listed.setIfInBounds i true) (a.put oi.dst v) w) : wpU P md ops Q S n (f + 1) listed a w :=
  wpU_firstF hi (Region.noSelect_spec hsel) hQ (by simpa using hin) f listed a w (Region.free_spec hi hf) (by simpa using hr) hy hS h
theorem wp_region_M {id : Nat} {a : Act} {w : World} (n : Nat) (hm : P.follows .mixedOrders = true)
    (h : wpU P .any ops Q S n ops.size (Array.replicate ops.size false) a w.drew) : (Code.region id ops true).wp P Q a w :=
  wp_region_any hm (wpAny_of_U _ _ _ _ h)
end
end Go.Proofs.YtfocooehnmpndaaGreat
namespace Go.Proofs.YtfocooehnmpndaaGreat
open Go.RowKit
namespace Dm
theorem elNode : ElemT Tryz.prog 130 137 4 48 := ElemT.mk' (z := .agg #[.int .i64 0, .int .i64 0, .int .i64 0, .slice none 0 0]) (by kernel_rfl) (by kernel_rfl) rfl (by decide)
theorem elIntN : ElemT Tryz.prog 40 3 1 8 := ElemT.mk' (z := .int .i64 0) (by kernel_rfl) (by kernel_rfl) rfl (by decide)
theorem modify_left {α : Type} (f : α → α) (M : List α) : ∀ (L : List α) (p : Nat), p < L.length → (L ++ M).modify p f = L.modify p f ++ M
  | [], p, h => by simp at h
  | x :: L, 0, h => by rw [List.cons_append, List.modify_zero_cons, List.modify_zero_cons, List.cons_append]
  | x :: L, p + 1, h => by rw [List.cons_append, List.modify_succ_cons, List.modify_succ_cons, List.cons_append, modify_left f M L p (by simpa using h)]
theorem addK_app {L : List Nd} {x : Nd} {p n : Nat} (hp : p < L.length) : addK (L ++ [x]) (p : Int) n = addK L (p : Int) n ++ [x] := by
  unfold addK
  rw [if_pos (by omega), if_pos (by omega), Int.toNat_natCast]
  exact modify_left _ _ L p hp
theorem addK_neg (L : List Nd) (n : Nat) : addK L (-1) n = L := by unfold addK; rw [if_neg (by omega)]
theorem tszL_take {ks : List Tree} {i : Nat} (h : i < ks.length) : tszL (ks.take i) + tsz ks[i] ≤ tszL ks := by
  have h1 := tszL_append (ks.take i) (ks.drop i)
  rw [List.take_append_drop, List.drop_eq_getElem_cons h, tszL] at h1
  omega
theorem kids_le : ∀ (ks : List Tree), ks.length ≤ tszL ks
  | [] => by simp
  | k :: ks => by rw [List.length_cons, tszL, tsz_eq k]; have := kids_le ks; omega
theorem grcell {w w' : World} {row : Option Nat} {b i : Nat} {v : Value} (hg : w.grownBy w' row) (hb : b < w.heap.size) (hne : row ≠ some b) (h : w.cell? ⟨b, i, none⟩ = some v) : w'.cell? ⟨b, i, none⟩ = some v := by
  rw [← h]
  simp only [World.cell?, hg.block b hb (fun e => hne e.symm)]
theorem ndAt_part (L : List Nd) (r up pos : Int) (ks : List Tree) : ndAt (part L r up pos ks) L.length = ⟨r, up, pos, starts (L.length + 1) ks⟩ := by
  unfold ndAt part
  rw [List.getElem?_append_right (Nat.le_refl _), Nat.sub_self]
  rfl
structure VisI (B tb : Nat) (hd : Hd) (O : Nat → Prop) (w0 : World) (L : List Nd) (wr : World) : Prop where
  ex : ∃ vs val, NB B tb hd L vs val wr ∧ Stq O (OwN tb vs L.length val) w0 wr
def VisPost (B tb : Nat) (hd : Hd) (O : Nat → Prop) (L : List Nd) (W : World) (e : Ending) (w' : World) : Prop := e = .returned (.tuple #[]) ∧ VisI B tb hd O W L w'
set_option maxHeartbeats 16000000 in
set_option maxRecDepth 100000 in
theorem visitE (B tb xb fb : Nat) (hd : Hd) (hxb : xb < B) (hfb : fb < B) (hxt : xb ≠ tb) (hft : fb ≠ tb) : ∀ (m : Nat) (t : Tree) (up pos : Int) (v : Value) (L : List Nd) (vs : Value) (val : Nat → Value) (W : World), tsz t ≤ m → L.length + tsz t ≤ 1000000 → NB B tb hd L vs val W → (up = -1 ∨ ∃ p : Nat, up = (p : Int) ∧ p < L.length ∧ (ndAt L p).kids.length ≤ 1000000) →
    Rd (fun k => k < B ∧ k ≠ tb) W (.sl (t.kids.map Tree.d)) [v] → W.heap[xb]? = some (.cells #[.pointer (some ⟨tb, 0, none⟩)] 75 (0, 0)) → W.heap[fb]? = some (.cells #[.func (.func 62) #[] #[.pointer (some ⟨xb, 0, none⟩), .pointer (some ⟨fb, 0, none⟩)]] 135 (0, 0)) →
    Calls Tryz.prog 62 #[.agg #[.int .i64 t.rule, .int .i64 t.term, v], .int .i64 up, .int .i64 pos, .pointer (some ⟨xb, 0, none⟩), .pointer (some ⟨fb, 0, none⟩)] W (VisPost B tb hd (OwN tb vs L.length val) (addK L up L.length ++ numT t L.length up pos) W) := by
  intro m
  induction m with
  | zero => intro t up pos v L vs val W hm; rw [tsz_eq] at hm; omega
  | succ m IH =>
  intro t up pos v L vs val W hm hsz hN hup hv hx hf
  obtain ⟨av, nk, cv, rfl⟩ := treeBox hv.any
  have HV := Lib.hid hv
  have HNK : Hid (t.kids.length = nk) := by show _ = _; have := hv.bounds.1; simpa using this.symm
  have hcap : nk ≤ 9223372036854775807 := by have := hv.bounds; unfold maxLen at this; omega
  have hcv : nk ≤ cv ∧ cv ≤ 9223372036854775807 := by have := hv.bounds; unfold maxLen at this; omega
  have HM : Hid (tsz t ≤ m + 1) := hm
  have HSZ : Hid (L.length + tsz t ≤ 1000000) := hsz
  have HIH := Lib.hid IH
  have HUP := Lib.hid hup
  have HTS : Hid (tsz t = 1 + tszL t.kids) := tsz_eq t
  have HKIDS : Hid (∀ i (h : i < t.kids.length), tszL (t.kids.take i) + tsz t.kids[i] ≤ tszL t.kids) := fun i h => tszL_take h
  obtain ⟨O, HO⟩ := nameIt (OwN tb vs L.length val)
  have HOW : Hid (∀ k, O k → (k = tb ∨ B ≤ k) ∧ k < W.heap.size) := fun k hk => by rw [← HO.out] at hk; exact hN.own hk
  obtain ⟨r, HR⟩ := nameIt t.rule
  obtain ⟨tm, HTM⟩ := nameIt t.term
  obtain ⟨PST, HP⟩ := nameIt (VisPost B tb hd O (addK L up L.length ++ numT t L.length up pos) W)
  have HFIN : Hid (∀ w', VisI B tb hd O W (part (addK L up L.length) r up pos t.kids) w' → PST (.returned (.tuple #[])) w') := fun w' h => by
    rw [← HP.out]
    refine ⟨rfl, ?_⟩
    rw [← HR.out, part_all, addK_len] at h
    exact h
  rw [HO.out, HP.out, HR.out, HTM.out]
  obtain ⟨w0, HW0⟩ := nameIt (W.alloc (.cells #[.int .i64 r, .int .i64 tm, .slice av nk cv] 31))
  have HB0 : Hid (Below W.heap.size W w0) := by rw [← HW0.out]; exact (Below.refl _ _).alloc (Nat.le_refl _) _
  obtain ⟨bt, HBT⟩ := nameIt W.heap.size
  have X0 : Hid (w0.heap[bt]? = some (.cells #[.int .i64 r, .int .i64 tm, .slice av nk cv] 31 (0, 0))) := by rw [← HW0.out, ← HBT.out]; exact bx_new _ _ _ rfl
  have HN0 := Lib.hid (hN.keep HB0.out)
  have HS0 : Hid (Stq O O W w0) := Stq.below HB0.out
  have HXO : Hid (¬ O xb) := fun h => by rcases (HOW.out xb h).1 with h | h <;> omega
  have HFO : Hid (¬ O fb) := fun h => by rcases (HOW.out fb h).1 with h | h <;> omega
  have HTO : Hid (¬ O bt) := fun h => by have h1 := (HOW.out bt h).2; rw [HBT.out] at h1; omega
  have HX := Lib.hid hx
  have HF := Lib.hid hf
  obtain ⟨n, HNl⟩ := nameIt L.length
  have hn : n ≤ 1000000 := by rw [← HNl.out]; omega
  have y0 := bx_cells1 (bx_keep hx HB0.out)
  obtain ⟨x0, x1, x2⟩ := bx_cells3 X0.out
  have hl0 : bt < w0.heap.size := (Array.getElem?_eq_some_iff.1 X0.out).1
  have HTB : Hid (tb < w0.heap.size) := (Array.getElem?_eq_some_iff.1 HN0.out.hdr).1
  obtain ⟨sa, cs, rfl, hcs1, hcs2⟩ := own_len HN0.out.row
  rw [HNl.out] at hcs1
  have HVS : Hid (∀ q, (Value.slice sa n cs).ownBlock = some q → O q) := fun q e => by rw [← HO.out]; exact .inr (.inl (by rw [HNl.out]; exact e))
  have hz6 : w0.cell? ⟨tb, 0 + 6, none⟩ = some (.slice sa n cs) := by have h := HN0.out.hdr; rw [HNl.out] at h; simp [World.cell?, h, Hd.cells]
  unfold maxLen at hcs2
  clear hv hm hsz hup hN IH HP hx hf
  go_enter Tryz.func62, Tryz.ntmps62
  go_upto_region 1 with fail
  rw [HW0.out]
  try rw [HBT.out]
  clear HW0
  go_upto_region 2 with fail
  obtain ⟨w4, HW4⟩ := nameIt (w0.alloc (.cells #[.int .i64 r, .int .i64 up, .int .i64 pos, .slice none 0 0] 137)).drew
  have hb4 : Below w0.heap.size w0 w4 := by rw [← HW4.out]; exact ((Below.refl w0.heap.size w0).alloc (Nat.le_refl _) _).drew
  have X4 : Hid (w4.heap[w0.heap.size]? = some (.cells #[.int .i64 r, .int .i64 up, .int .i64 pos, .slice none 0 0] 137 (0, 0))) := by rw [← HW4.out]; exact bx_new w0 _ _ rfl
  have HB04 := Lib.hid hb4
  have HN4 := Lib.hid (HN0.out.keep hb4)
  have hrow4 := HN4.out.row
  rw [HNl.out] at hrow4
  have HRW4 := Lib.hid hrow4
  have HBW4 : Hid (B ≤ w4.heap.size) := HN4.out.le
  have hbw4 : B ≤ w4.heap.size := HBW4.out
  obtain ⟨q4, HQ4⟩ := nameIt w0.heap.size
  rw [HQ4.out] at X4
  have HCS : Hid (∀ w', Below w0.heap.size w0 w' → (fun w' : World => w'.cell? ⟨xb, 0, none⟩ = some (.pointer (some ⟨tb, 0, none⟩)) ∧ w'.cell? ⟨tb, 0 + 6, none⟩ = some (.slice sa n cs) ∧ w'.cell? ⟨bt, 0, none⟩ = some (.int .i64 r)) w') := fun w' hb => ⟨(hb.cell (lt_of_cell y0)).trans y0, (hb.cell (lt_of_cell hz6)).trans hz6, (bx_cells3 (bx_keep X0.out hb)).1⟩
  rw [HQ4.out] at HB04 HCS
  have hwz4 : W.heap.size ≤ w4.heap.size := Nat.le_trans HB0.out.size HB04.out.size
  have hbz4 : bt < w4.heap.size := by have := HB04.out.size; omega
  have HBR : Hid (Below q4 w0 w0.drew) := (Below.refl _ _).drew
  clear hb4 hrow4 y0 x0 x1 x2 hz6
  refine wp_region_M (S := (fun w' : World => w'.cell? ⟨xb, 0, none⟩ = some (.pointer (some ⟨tb, 0, none⟩)) ∧ w'.cell? ⟨tb, 0 + 6, none⟩ = some (.slice sa n cs) ∧ w'.cell? ⟨bt, 0, none⟩ = some (.int .i64 r))) 12 (by kernel_rfl) ?_
  refine wpU_takeM (i := 0) (v := .pointer (some ⟨tb, 0, none⟩)) rfl rfl (by kernel_rfl) (by kernel_rfl) (by kernel_rfl) (by kernel_rfl) (by kernel_rfl) (fun _ _ _ h => h) (Or.inl ⟨by rfl, fun w' hw' => ?_⟩) (HCS.out _ HBR.out) ?_
  · obtain ⟨h0, h1, h2⟩ := hw'
    go_simp
  try simp only [Act.put, List.setIfInBounds_toArray, List.set_cons_zero, List.set_cons_succ]
  refine wpU_takeM (i := 1) (v := .pointer (some ⟨tb, 0, none⟩)) rfl rfl (by kernel_rfl) (by kernel_rfl) (by kernel_rfl) (by kernel_rfl) (by kernel_rfl) (fun _ _ _ h => h) (Or.inl ⟨by rfl, fun w' hw' => ?_⟩) (HCS.out _ HBR.out) ?_
  · obtain ⟨h0, h1, h2⟩ := hw'
    go_simp
  try simp only [Act.put, List.setIfInBounds_toArray, List.set_cons_zero, List.set_cons_succ]
  refine wpU_takeF (i := 2) (v := .pointer (some ⟨tb, 0, none⟩)) rfl rfl (by kernel_rfl) (by kernel_rfl) (by kernel_rfl) (fun _ _ _ h => h) (Or.inl ⟨by rfl, fun w' hw' => ?_⟩) (fun _ => (HCS.out _ HBR.out)) ?_
  · clear hw'
    go_simp
  try simp only [Act.put, List.setIfInBounds_toArray, List.set_cons_zero, List.set_cons_succ]
  refine wpU_takeF (i := 3) (v := .pointer (some ⟨tb, 0 + 6, none⟩)) rfl rfl (by kernel_rfl) (by kernel_rfl) (by kernel_rfl) (fun _ _ _ h => h) (Or.inl ⟨by rfl, fun w' hw' => ?_⟩) (fun _ => (HCS.out _ HBR.out)) ?_
  · clear hw'
    go_simp
  try simp only [Act.put, List.setIfInBounds_toArray, List.set_cons_zero, List.set_cons_succ]
  refine wpU_takeM (i := 4) (v := .slice sa n cs) rfl rfl (by kernel_rfl) (by kernel_rfl) (by kernel_rfl) (by kernel_rfl) (by kernel_rfl) (fun _ _ _ h => h) (Or.inl ⟨by rfl, fun w' hw' => ?_⟩) (HCS.out _ HBR.out) ?_
  · obtain ⟨h0, h1, h2⟩ := hw'
    go_simp
  try simp only [Act.put, List.setIfInBounds_toArray, List.set_cons_zero, List.set_cons_succ]
  refine wpU_takeF (i := 5) (v := .pointer (some ⟨bt, 0, none⟩)) rfl rfl (by kernel_rfl) (by kernel_rfl) (by kernel_rfl) (fun _ _ _ h => h) (Or.inl ⟨by rfl, fun w' hw' => ?_⟩) (fun _ => (HCS.out _ HBR.out)) ?_
  · clear hw'
    go_simp
  try simp only [Act.put, List.setIfInBounds_toArray, List.set_cons_zero, List.set_cons_succ]
  refine wpU_takeM (i := 6) (v := .int .i64 r) rfl rfl (by kernel_rfl) (by kernel_rfl) (by kernel_rfl) (by kernel_rfl) (by kernel_rfl) (fun _ _ _ h => h) (Or.inl ⟨by rfl, fun w' hw' => ?_⟩) (HCS.out _ HBR.out) ?_
  · obtain ⟨h0, h1, h2⟩ := hw'
    go_simp
  try simp only [Act.put, List.setIfInBounds_toArray, List.set_cons_zero, List.set_cons_succ]
  refine wpU_takeF (i := 7) (v := .int .i64 up) rfl rfl (by kernel_rfl) (by kernel_rfl) (by kernel_rfl) (fun _ _ _ h => h) (Or.inl ⟨by rfl, fun w' hw' => ?_⟩) (fun _ => (HCS.out _ HBR.out)) ?_
  · clear hw'
    go_simp
  try simp only [Act.put, List.setIfInBounds_toArray, List.set_cons_zero, List.set_cons_succ]
  refine wpU_takeF (i := 8) (v := .int .i64 pos) rfl rfl (by kernel_rfl) (by kernel_rfl) (by kernel_rfl) (fun _ _ _ h => h) (Or.inl ⟨by rfl, fun w' hw' => ?_⟩) (fun _ => (HCS.out _ HBR.out)) ?_
  · clear hw'
    go_simp
  try simp only [Act.put, List.setIfInBounds_toArray, List.set_cons_zero, List.set_cons_succ]
  refine wpU_takeF (i := 9) (v := .agg #[.int .i64 r, .int .i64 up, .int .i64 pos, .slice none 0 0]) rfl rfl (by kernel_rfl) (by kernel_rfl) (by kernel_rfl) (fun _ _ _ h => h) (Or.inl ⟨by rfl, fun w' hw' => ?_⟩) (fun _ => (HCS.out _ HBR.out)) ?_
  · clear hw'
    go_simp
  try simp only [Act.put, List.setIfInBounds_toArray, List.set_cons_zero, List.set_cons_succ]
  refine wpU_one (i := 10) (by kernel_rfl) rfl (fun K hK => ?_)
  go_simp
  rw [HW4.out, HQ4.out]
  refine hK.out _ _ (fun _ => HCS.out _ HB04.out) ?_
  clear hK K
  try simp only [Act.put, List.setIfInBounds_toArray, List.set_cons_zero, List.set_cons_succ]
  refine wpU_one (i := 11) (by kernel_rfl) rfl (fun K hK => ?_)
  refine step_appB elNode (by rfl) _ _ (by rfl) HRW4.out (by rfl) (by rfl) X4.out (by rfl) (by rfl) (by omega) (by unfold maxLen; omega) hbw4 ?_
  intro g5 c5 w5 ho5 hg5 hat5 hlt5
  obtain ⟨a1, a2, a3, a4⟩ := HN4.out.app (vs' := .slice (some ⟨g5, 0, none⟩) (n + 1) c5) (x := ⟨r, up, pos, []⟩) rfl (by rw [HNl.out]; exact ho5) (by rw [HNl.out]; exact hg5) (by rw [HNl.out]; exact at_lies hat5)
  rw [HNl.out] at a1 a4
  have HS5 : Hid ((fun w' : World => w'.cell? ⟨xb, 0, none⟩ = some (.pointer (some ⟨tb, 0, none⟩)) ∧ w'.cell? ⟨tb, 0 + 6, none⟩ = some (.slice sa n cs) ∧ w'.cell? ⟨bt, 0, none⟩ = some (.int .i64 r)) w5) := ⟨grcell hg5 (Nat.lt_of_lt_of_le (Array.getElem?_eq_some_iff.1 HX.out).1 hwz4) (fun e => HXO.out (HVS.out _ e)) (HCS.out _ HB04.out).1, a1, grcell hg5 hbz4 (fun e => HTO.out (HVS.out _ e)) (HCS.out _ HB04.out).2.2⟩
  have HA1 := Lib.hid a1
  have HA2 := Lib.hid a2
  have HA3 := Lib.hid a3
  have HA4 := Lib.hid a4
  have HG5 := Lib.hid hg5
  have HHAT := Lib.hid hat5
  clear a1 a2 a3 a4 ho5 hg5 hat5 hlt5
  refine hK.out _ _ (fun _ => HS5.out) ?_
  clear hK K
  try simp only [Act.put, List.setIfInBounds_toArray, List.set_cons_zero, List.set_cons_succ]
  refine wpU_one (i := 12) (by kernel_rfl) rfl (fun K hK => ?_)
  go_simp
  refine hK.out _ _ (fun h => absurd (show true = false from h) (by decide)) ?_
  clear hK K
  try simp only [Act.put, List.setIfInBounds_toArray, List.set_cons_zero, List.set_cons_succ]
  refine wpU_one (i := 13) (by kernel_rfl) rfl (fun K hK => ?_)
  go_simp
  refine hK.out _ _ (fun h => absurd (show true = false from h) (by decide)) ?_
  clear hK K
  try simp only [Act.put, List.setIfInBounds_toArray, List.set_cons_zero, List.set_cons_succ]
  have d1 := HA1.out
  have d2 := HA2.out
  refine wpU_one (i := 14) (by kernel_rfl) rfl (fun K hK => ?_)
  go_simp
  refine hK.out _ _ (fun h => absurd (show true = false from h) (by decide)) ?_
  clear hK K
  try simp only [Act.put, List.setIfInBounds_toArray, List.set_cons_zero, List.set_cons_succ]
  refine wpU_done (by kernel_rfl) ?_ _
  obtain ⟨w6, HW6⟩ := nameIt (w5.setCell ⟨tb, 0 + 6, none⟩ (.slice (some ⟨g5, 0, none⟩) (n + 1) c5))
  rw [HW6.out] at HA3 HA4
  try rw [HW6.out]
  obtain ⟨L1, HL1⟩ := nameIt (addK L up n)
  have HL1n : Hid (L1.length = n) := by show _ = _; rw [← HL1.out, addK_len]; exact HNl.out
  rw [HNl.out, HL1.out] at HFIN
  have HS6 : Hid (Stq O (OwN tb (.slice (some ⟨g5, 0, none⟩) (n + 1) c5) (L ++ [(⟨r, up, pos, []⟩ : Nd)]).length (fun k => if k = n then .slice none 0 0 else val k)) w0 w6) := Stq.trans (Stq.below (by rw [HQ4.out]; exact HB04.out)) (by rw [← HO.out, HNl.out]; exact HA4.out)
  have HN6 : Hid (NB B tb hd (L ++ [⟨r, up, pos, []⟩]) (.slice (some ⟨g5, 0, none⟩) (n + 1) c5) (fun k => if k = n then .slice none 0 0 else val k) w6) := by have h := HA3.out; rw [HNl.out] at h; exact h
  clear HA1 HA2 HA3 HA4 HS5 X4 HW4 HCS hbw4 hbz4 hwz4 d1 d2
  go_upto_if 31 with fail
  go_cut [8] (fun v8 wx => v8 = .int .i64 n ∧ Hid (VisI B tb hd O w0 (part L1 r up pos []) wx))
  case first =>
    rcases HUP.out with e | ⟨p, e, hp, hpk⟩
    · have HVI : Hid (VisI B tb hd O w0 (part L1 r up pos []) w6) := by
        have e1 : part L1 r up pos [] = L ++ [⟨r, up, pos, []⟩] := by rw [part_nil, ← HL1.out]; congr 1; rw [e, addK_neg]
        rw [e1]
        exact ⟨_, _, HN6.out, HS6.out⟩
      subst e
      go_wp2_with fail
      go_meet
      exact ⟨rfl, HVI⟩
    · have hpn : p < n := by rw [← HNl.out]; exact hp
      have hpL : p < (L ++ [(⟨r, up, pos, []⟩ : Nd)]).length := by rw [List.length_append]; omega
      obtain ⟨val6, HV6⟩ := nameIt (fun k => if k = n then Value.slice none 0 0 else val k)
      obtain ⟨LL, HLL⟩ := nameIt (L ++ [(⟨r, up, pos, []⟩ : Nd)])
      have HLLn : Hid (LL.length = n + 1) := by show _ = _; rw [← HLL.out, List.length_append, HNl.out]; rfl
      have HN7 := HN6
      have HS7 := HS6
      rw [HV6.out, HLL.out] at HN7 HS7
      rw [HLL.out] at hpL
      obtain ⟨nb, cap, he, hcp1, hcp2, hnl, hnB, hc6, hck⟩ := HN7.out.cells hpL
      simp only [Value.slice.injEq, Option.some.injEq, Addr.mk.injEq] at he
      obtain ⟨⟨rfl, -⟩, -, rfl⟩ := he
      have hkid := HN7.out.kid p hpL
      have HKK : Hid ((ndAt LL p).kids.length ≤ 1000000) := by
        show _ ≤ _
        rw [← HLL.out, ndAt_app, if_pos hp]
        exact hpk
      obtain ⟨NK, HNKl⟩ := nameIt (ndAt LL p).kids
      rw [HNKl.out] at hkid HKK
      obtain ⟨ap, cp, hvp, hcp3, hcp4⟩ := own_len hkid
      rw [hvp] at hkid hck
      have HVP := Lib.hid hvp
      obtain ⟨kl, HKL⟩ := nameIt NK.length
      rw [HKL.out] at hck hkid hcp3 HKK HVP
      have HPU : Hid (part L1 r up pos [] = addK LL (p : Int) n) := by
        show _ = _
        rw [part_nil, ← HL1.out, ← HLL.out, e, addK_app hp]
      have y0 : w6.cell? ⟨xb, 0, none⟩ = some (.pointer (some ⟨tb, 0, none⟩)) := bx_cells1 (HS6.out.box (bx_keep HX.out HB0.out) HXO.out).1
      have HXO6 : Hid (¬ OwN tb (.slice (some ⟨g5, 0, none⟩) (n + 1) c5) LL.length val6 xb) := (HS7.out.box (bx_keep HX.out HB0.out) HXO.out).2
      have hsz6 : xb < w6.heap.size := lt_of_cell y0
      have hkl : kl ≤ 1000000 := HKK.out
      have hpz : (0 : Int) ≤ (p : Int) := by omega
      have hpn1 : (p : Int) < (n : Int) + 1 := by omega
      have hpn2 : ¬ ((n : Int) + 1 ≤ (p : Int)) := by omega
      have hpc : (p : Int) ≤ (c5 : Int) := by omega
      obtain ⟨w8, HW8⟩ := nameIt (w6.alloc (.cells #[.int .i64 (n : Int)] 3)).drew
      have hb8 : Below w6.heap.size w6 w8 := by rw [← HW8.out]; exact ((Below.refl w6.heap.size w6).alloc (Nat.le_refl _) _).drew
      have X8 : Hid (w8.heap[w6.heap.size]? = some (.cells #[.int .i64 (n : Int)] 3 (0, 0))) := by rw [← HW8.out]; exact bx_new w6 _ _ rfl
      have HB68 := Lib.hid hb8
      have HN8 := Lib.hid (HN7.out.keep hb8)
      have HRW8 := Lib.hid (own_keep hkid hb8)
      have hbw8 : B ≤ w8.heap.size := HN8.out.le
      have hsz8 : xb < w8.heap.size := Nat.lt_of_lt_of_le hsz6 hb8.size
      obtain ⟨q8, HQ8⟩ := nameIt w6.heap.size
      have HCS : Hid (∀ w', Below q8 w6 w' → (fun w' : World => w'.cell? ⟨xb, 0, none⟩ = some (.pointer (some ⟨tb, 0, none⟩)) ∧ w'.cell? ⟨tb, 0 + 6, none⟩ = some (.slice (some ⟨g5, 0, none⟩) (n + 1) c5) ∧ w'.cell? ⟨g5, p * 4 + 3, none⟩ = some (.slice ap kl cp)) w') := fun w' hb => by
        rw [← HQ8.out] at hb
        exact ⟨(hb.cell (lt_of_cell y0)).trans y0, (hb.cell (lt_of_cell hc6)).trans hc6, (hb.cell (lt_of_cell hck)).trans hck⟩
      rw [HQ8.out] at X8 HB68
      have HBR6 : Hid (Below q8 w6 w6.drew) := (Below.refl _ _).drew
      subst e
      clear hb8 hkid hck y0 hc6 hvp
      go_upto_region 4 with fail
      refine wp_region_M (S := (fun w' : World => w'.cell? ⟨xb, 0, none⟩ = some (.pointer (some ⟨tb, 0, none⟩)) ∧ w'.cell? ⟨tb, 0 + 6, none⟩ = some (.slice (some ⟨g5, 0, none⟩) (n + 1) c5) ∧ w'.cell? ⟨g5, p * 4 + 3, none⟩ = some (.slice ap kl cp))) 16 (by kernel_rfl) ?_
      refine wpU_takeM (i := 0) (v := .pointer (some ⟨tb, 0, none⟩)) rfl rfl (by kernel_rfl) (by kernel_rfl) (by kernel_rfl) (by kernel_rfl) (by kernel_rfl) (fun _ _ _ h => h) (Or.inl ⟨by rfl, fun w' hw' => ?_⟩) (HCS.out _ HBR6.out) ?_
      · obtain ⟨h0, h1, h2⟩ := hw'
        go_simp
      try simp only [Act.put, List.setIfInBounds_toArray, List.set_cons_zero, List.set_cons_succ]
      refine wpU_takeF (i := 1) (v := .pointer (some ⟨tb, 0, none⟩)) rfl rfl (by kernel_rfl) (by kernel_rfl) (by kernel_rfl) (fun _ _ _ h => h) (Or.inl ⟨by rfl, fun w' hw' => ?_⟩) (fun _ => (HCS.out _ HBR6.out)) ?_
      · clear hw'
        go_simp
      try simp only [Act.put, List.setIfInBounds_toArray, List.set_cons_zero, List.set_cons_succ]
      refine wpU_takeF (i := 2) (v := .pointer (some ⟨tb, 0 + 6, none⟩)) rfl rfl (by kernel_rfl) (by kernel_rfl) (by kernel_rfl) (fun _ _ _ h => h) (Or.inl ⟨by rfl, fun w' hw' => ?_⟩) (fun _ => (HCS.out _ HBR6.out)) ?_
      · clear hw'
        go_simp
      try simp only [Act.put, List.setIfInBounds_toArray, List.set_cons_zero, List.set_cons_succ]
      refine wpU_takeM (i := 3) (v := .slice (some ⟨g5, 0, none⟩) (n + 1) c5) rfl rfl (by kernel_rfl) (by kernel_rfl) (by kernel_rfl) (by kernel_rfl) (by kernel_rfl) (fun _ _ _ h => h) (Or.inl ⟨by rfl, fun w' hw' => ?_⟩) (HCS.out _ HBR6.out) ?_
      · obtain ⟨h0, h1, h2⟩ := hw'
        go_simp
      try simp only [Act.put, List.setIfInBounds_toArray, List.set_cons_zero, List.set_cons_succ]
      refine wpU_takeF (i := 4) (v := .int .i64 (p : Int)) rfl rfl (by kernel_rfl) (by kernel_rfl) (by kernel_rfl) (fun _ _ _ h => h) (Or.inl ⟨by rfl, fun w' hw' => ?_⟩) (fun _ => (HCS.out _ HBR6.out)) ?_
      · clear hw'
        go_simp
      try simp only [Act.put, List.setIfInBounds_toArray, List.set_cons_zero, List.set_cons_succ]
      refine wpU_takeM (i := 5) (v := .pointer (some ⟨tb, 0, none⟩)) rfl rfl (by kernel_rfl) (by kernel_rfl) (by kernel_rfl) (by kernel_rfl) (by kernel_rfl) (fun _ _ _ h => h) (Or.inl ⟨by rfl, fun w' hw' => ?_⟩) (HCS.out _ HBR6.out) ?_
      · obtain ⟨h0, h1, h2⟩ := hw'
        go_simp
      try simp only [Act.put, List.setIfInBounds_toArray, List.set_cons_zero, List.set_cons_succ]
      refine wpU_takeF (i := 6) (v := .pointer (some ⟨tb, 0, none⟩)) rfl rfl (by kernel_rfl) (by kernel_rfl) (by kernel_rfl) (fun _ _ _ h => h) (Or.inl ⟨by rfl, fun w' hw' => ?_⟩) (fun _ => (HCS.out _ HBR6.out)) ?_
      · clear hw'
        go_simp
      try simp only [Act.put, List.setIfInBounds_toArray, List.set_cons_zero, List.set_cons_succ]
      refine wpU_takeF (i := 7) (v := .pointer (some ⟨tb, 0 + 6, none⟩)) rfl rfl (by kernel_rfl) (by kernel_rfl) (by kernel_rfl) (fun _ _ _ h => h) (Or.inl ⟨by rfl, fun w' hw' => ?_⟩) (fun _ => (HCS.out _ HBR6.out)) ?_
      · clear hw'
        go_simp
      try simp only [Act.put, List.setIfInBounds_toArray, List.set_cons_zero, List.set_cons_succ]
      refine wpU_takeM (i := 8) (v := .slice (some ⟨g5, 0, none⟩) (n + 1) c5) rfl rfl (by kernel_rfl) (by kernel_rfl) (by kernel_rfl) (by kernel_rfl) (by kernel_rfl) (fun _ _ _ h => h) (Or.inl ⟨by rfl, fun w' hw' => ?_⟩) (HCS.out _ HBR6.out) ?_
      · obtain ⟨h0, h1, h2⟩ := hw'
        go_simp
      try simp only [Act.put, List.setIfInBounds_toArray, List.set_cons_zero, List.set_cons_succ]
      refine wpU_takeF (i := 9) (v := .int .i64 (p : Int)) rfl rfl (by kernel_rfl) (by kernel_rfl) (by kernel_rfl) (fun _ _ _ h => h) (Or.inl ⟨by rfl, fun w' hw' => ?_⟩) (fun _ => (HCS.out _ HBR6.out)) ?_
      · clear hw'
        go_simp
      try simp only [Act.put, List.setIfInBounds_toArray, List.set_cons_zero, List.set_cons_succ]
      refine wpU_takeF (i := 10) (v := .pointer (some ⟨g5, p * 4, none⟩)) rfl rfl (by kernel_rfl) (by kernel_rfl) (by kernel_rfl) (fun _ _ _ h => h) (Or.inl ⟨by rfl, fun w' hw' => ?_⟩) (fun _ => (HCS.out _ HBR6.out)) ?_
      · clear hw'
        go_simp
      try simp only [Act.put, List.setIfInBounds_toArray, List.set_cons_zero, List.set_cons_succ]
      refine wpU_takeF (i := 11) (v := .pointer (some ⟨g5, p * 4 + 3, none⟩)) rfl rfl (by kernel_rfl) (by kernel_rfl) (by kernel_rfl) (fun _ _ _ h => h) (Or.inl ⟨by rfl, fun w' hw' => ?_⟩) (fun _ => (HCS.out _ HBR6.out)) ?_
      · clear hw'
        go_simp
      try simp only [Act.put, List.setIfInBounds_toArray, List.set_cons_zero, List.set_cons_succ]
      refine wpU_takeM (i := 12) (v := .slice ap kl cp) rfl rfl (by kernel_rfl) (by kernel_rfl) (by kernel_rfl) (by kernel_rfl) (by kernel_rfl) (fun _ _ _ h => h) (Or.inl ⟨by rfl, fun w' hw' => ?_⟩) (HCS.out _ HBR6.out) ?_
      · obtain ⟨h0, h1, h2⟩ := hw'
        go_simp
      try simp only [Act.put, List.setIfInBounds_toArray, List.set_cons_zero, List.set_cons_succ]
      refine wpU_takeF (i := 13) (v := .int .i64 (n : Int)) rfl rfl (by kernel_rfl) (by kernel_rfl) (by kernel_rfl) (fun _ _ _ h => h) (Or.inl ⟨by rfl, fun w' hw' => ?_⟩) (fun _ => (HCS.out _ HBR6.out)) ?_
      · clear hw'
        go_simp
      try simp only [Act.put, List.setIfInBounds_toArray, List.set_cons_zero, List.set_cons_succ]
      refine wpU_one (i := 14) (by kernel_rfl) rfl (fun K hK => ?_)
      go_simp
      rw [HW8.out, HQ8.out]
      refine hK.out _ _ (fun _ => HCS.out _ HB68.out) ?_
      clear hK K
      try simp only [Act.put, List.setIfInBounds_toArray, List.set_cons_zero, List.set_cons_succ]
      refine wpU_one (i := 15) (by kernel_rfl) rfl (fun K hK => ?_)
      refine step_appB elIntN (by rfl) _ _ (by rfl) HRW8.out (by rfl) (by rfl) X8.out (by rfl) (by rfl) (by omega) (by unfold maxLen; omega) hbw8 ?_
      intro g9 c9 w9 ho9 hg9 hat9 hlt9
      obtain ⟨a1, a2, a3, a4, a5⟩ := HN8.out.addk (n := n) hpL (v' := .slice (some ⟨g9, 0, none⟩) (kl + 1) c9) (by rw [HNKl.out, HKL.out]; exact ho9) (by rw [HVP.out]; exact hg9) (by rw [HVP.out]; exact at_lies hat9) (nb := g5) (cap := c5) (by rw [HLLn.out])
      rw [HVP.out] at a2
      have HS9 : Hid ((fun w' : World => w'.cell? ⟨xb, 0, none⟩ = some (.pointer (some ⟨tb, 0, none⟩)) ∧ w'.cell? ⟨tb, 0 + 6, none⟩ = some (.slice (some ⟨g5, 0, none⟩) (n + 1) c5) ∧ w'.cell? ⟨g5, p * 4 + 3, none⟩ = some (.slice ap kl cp)) w9) := ⟨grcell hg9 hsz8 (fun e => HXO6.out (.inr (.inr ⟨p, hpL, by rw [HVP.out]; exact e⟩))) (HCS.out _ HB68.out).1, a1, a2⟩
      have HA1 := Lib.hid a1
      have HA2 := Lib.hid a2
      have HA3 := Lib.hid a3
      have HA4 := Lib.hid a4
      have HA5 := Lib.hid a5
      clear a1 a2 a3 a4 a5 ho9 hg9 hat9
      refine hK.out _ _ (fun _ => HS9.out) ?_
      clear hK K
      try simp only [Act.put, List.setIfInBounds_toArray, List.set_cons_zero, List.set_cons_succ]
      refine wpU_one (i := 16) (by kernel_rfl) rfl (fun K hK => ?_)
      go_simp
      refine hK.out _ _ (fun h => absurd (show true = false from h) (by decide)) ?_
      clear hK K
      try simp only [Act.put, List.setIfInBounds_toArray, List.set_cons_zero, List.set_cons_succ]
      refine wpU_one (i := 17) (by kernel_rfl) rfl (fun K hK => ?_)
      go_simp
      refine hK.out _ _ (fun h => absurd (show true = false from h) (by decide)) ?_
      clear hK K
      try simp only [Act.put, List.setIfInBounds_toArray, List.set_cons_zero, List.set_cons_succ]
      have d1 := HA2.out
      have d2 := HA3.out
      refine wpU_one (i := 18) (by kernel_rfl) rfl (fun K hK => ?_)
      go_simp
      refine hK.out _ _ (fun h => absurd (show true = false from h) (by decide)) ?_
      clear hK K
      try simp only [Act.put, List.setIfInBounds_toArray, List.set_cons_zero, List.set_cons_succ]
      refine wpU_done (by kernel_rfl) ?_ _
      have HVI : Hid (VisI B tb hd O w0 (part L1 r (p : Int) pos []) (w9.setCell ⟨g5, p * 4 + 3, none⟩ (.slice (some ⟨g9, 0, none⟩) (kl + 1) c9))) := by
        rw [HPU.out]
        exact ⟨_, _, HA4.out, HS7.out.trans ((Stq.below (by rw [HQ8.out]; exact HB68.out)).trans HA5.out)⟩
      clear d1 d2 HA1 HA2 HA3 HA4 HA5
      go_wp2_with fail
      go_meet
      exact ⟨rfl, HVI⟩
  case rest =>
    obtain ⟨rfl, HVC⟩ := hcut
    clear HN6 HS6 HW6
    have HL0 : Hid (VisI B tb hd O w0 (part L1 r up pos (t.kids.take 0)) _) := HVC
    have HBX : Hid (∀ i w', VisI B tb hd O w0 (part L1 r up pos (t.kids.take i)) w' → w'.heap[bt]? = some (.cells #[.int .i64 r, .int .i64 tm, .slice av nk cv] 31 (0, 0))) := fun i w' h => by
      obtain ⟨vs1, val1, hN1, hS1⟩ := h.ex
      exact (hS1.box X0.out HTO.out).1
    obtain ⟨x0, x1, x2⟩ := bx_cells3 (HBX.out 0 _ HL0.out)
    go_wp2_with fail
    clear x0 x1 x2 HVC
    go_loopg [9, 10, 53] nk (fun gg v9 v10 v53 wr => ∃ i : Nat, i ≤ nk ∧ nk - i ≤ gg ∧ v53 = .int .i64 i ∧ Hid (VisI B tb hd O w0 (part L1 r up pos (t.kids.take i)) wr))
    case atStart => exact ⟨0, by omega, by omega, rfl, HL0⟩
    case round =>
      obtain ⟨i, hi, hg, rfl, HVI⟩ := hrel
      clear HL0
      by_cases hlt : i < nk
      · have hlt' : (i : Int) < (nk : Int) := by omega
        have hik : i < t.kids.length := by rw [HNK.out]; exact hlt
        have hic : (i : Int) ≤ (cv : Int) := by omega
        obtain ⟨vs1, val1, hN1, hS1⟩ := HVI.out.ex
        have HN1 := Lib.hid hN1
        have HS1 := Lib.hid hS1
        have HBI := Lib.hid (HBX.out i wr HVI.out)
        have HSW : Hid (Stq O (OwN tb vs1 (part L1 r up pos (t.kids.take i)).length val1) W wr) := HS0.out.trans hS1
        have HKR : Hid (Rd (fun k => k < B ∧ k ≠ tb) wr (.sl (t.kids.map Tree.d)) [.slice av nk cv]) := HV.out.keep (fun k hk hl => ⟨hk, HSW.out.same k hl (fun h => by rcases (HOW.out k h).1 with h | h <;> omega)⟩)
        obtain ⟨b, off, v, hae, -, hbl, k0, k1, k2, hkid⟩ := HKR.out.kid hik
        obtain ⟨a2, n2, c2, rfl⟩ := treeBox hkid.any
        have hms := HKIDS.out i hik
        have HTK : Hid (t.kids.take (i + 1) = t.kids.take i ++ [t.kids[i]]) := List.take_succ_eq_append_getElem hik
        have hpl : (part L1 r up pos (t.kids.take i)).length = n + 1 + tszL (t.kids.take i) := by rw [part_len, HL1n.out]
        have HNDI : Hid (ndAt (part L1 r up pos (t.kids.take i)) n = ⟨r, up, pos, starts (n + 1) (t.kids.take i)⟩) := by
          have h := ndAt_part L1 r up pos (t.kids.take i)
          rw [HL1n.out] at h
          exact h
        have HKL1 : Hid (t.kids.length ≤ tszL t.kids) := kids_le _
        have HPS : Hid (part L1 r up pos (t.kids.take (i + 1)) = addK (part L1 r up pos (t.kids.take i)) n (part L1 r up pos (t.kids.take i)).length ++ numT t.kids[i] (part L1 r up pos (t.kids.take i)).length n ((i : Int) + 1)) := by
          show _ = _
          rw [HTK.out, part_snoc, HL1n.out]
          congr 2
          rw [List.length_take, HNK.out, Nat.min_eq_left hi]
        obtain ⟨LI, HLI⟩ := nameIt (part L1 r up pos (t.kids.take i))
        rw [HLI.out] at hpl HNDI HPS HN1 HS1 HSW
        obtain ⟨x, HXn⟩ := nameIt (t.kids[i]'hik)
        rw [HXn.out] at k0 k1 hkid hms HPS
        obtain ⟨q0, HQ0⟩ := nameIt x.rule
        obtain ⟨q1, HQ1⟩ := nameIt x.term
        obtain ⟨w7, HW7⟩ := nameIt (wr.alloc (.cells #[.int .i64 q0, .int .i64 q1, .slice a2 n2 c2] 31))
        have HB7 : Hid (Below wr.heap.size wr w7) := by rw [← HW7.out]; exact (Below.refl _ _).alloc (Nat.le_refl _) _
        have X7 : Hid (w7.heap[wr.heap.size]? = some (.cells #[.int .i64 q0, .int .i64 q1, .slice a2 n2 c2] 31 (0, 0))) := by rw [← HW7.out]; exact bx_new _ _ _ rfl
        have HXW := Lib.hid (HSW.out.box HX.out HXO.out).1
        have HFW := Lib.hid (HSW.out.box HF.out HFO.out).1
        have HCALL := Lib.hid (HIH.out x (n : Int) ((i : Int) + 1) _ LI vs1 val1 w7 (by have h1 := HM.out; have h2 := HTS.out; omega) (by have h1 := HSZ.out; have h2 := HTS.out; rw [HNl.out] at h1; omega) (HN1.out.keep HB7.out) (.inr ⟨n, rfl, by omega, by
          rw [HNDI.out, starts_len, List.length_take]
          have h1 := HKL1.out
          have h2 := HSZ.out
          have h3 := HTS.out
          omega⟩) (hkid.below HB7.out) (bx_keep HXW.out HB7.out) (bx_keep HFW.out HB7.out))
        rw [HQ0.out] at k0 HCALL
        rw [HQ1.out] at k1 HCALL
        have y0 := bx_cells1 (bx_keep HFW.out HB7.out)
        obtain ⟨z0, z1, z2⟩ := bx_cells3 X7.out
        have hl7 : wr.heap.size < w7.heap.size := (Array.getElem?_eq_some_iff.1 X7.out).1
        subst hae
        clear hkid hms hN1 hS1
        go_upto_region 8 with fail
        rw [HW7.out]
        clear HW7 k0 k1 k2 hbl
        go_wp2_with (refine HCALL.out.mono ?_)
        rintro e8 w8 ⟨rfl, hV8⟩
        obtain ⟨vs8, val8, hN8, hS8⟩ := hV8.ex
        have HV8 : Hid (VisI B tb hd O w0 (part L1 r up pos (t.kids.take (i + 1))) w8) := by
          rw [HPS.out]
          exact ⟨_, _, hN8, HS1.out.trans ((Stq.below HB7.out).trans hS8)⟩
        clear hV8 hN8 hS8 y0 z0 z1 z2 HCALL
        go_wp2_with fail
        go_roundg (nk - (i + 1))
        case measure => omega
        case rel => exact ⟨i + 1, by omega, by omega, by go_num, HV8⟩
      · have hend : i = nk := by omega
        have hlt' : ¬ (i : Int) < (nk : Int) := by omega
        have HE : Hid (PST (.returned (.tuple #[])) wr) := by
          refine HFIN.out _ ?_
          have h := HVI.out
          rw [hend, ← HNK.out, List.take_length] at h
          obtain ⟨vs1, val1, hN1, hS1⟩ := h.ex
          exact ⟨_, _, hN1, HS0.out.trans hS1⟩
        go_wp2_with fail
        first | exact HE.out | exact bodyPost_end (results_none Tryz.results62 _ _ _) rfl HE.out
end Dm
end Go.Proofs.YtfocooehnmpndaaGreat
