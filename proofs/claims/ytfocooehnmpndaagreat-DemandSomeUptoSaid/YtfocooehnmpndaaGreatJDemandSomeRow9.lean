/- A row of places, read. (*Table).Get. Plain: the rows of values of all nodes; the nodes while a tree is visited. A table in memory whose rows are rows of numbers of the call's own, each grown by itself. (*Table).All. The nodes of demand.Table while they are made: a row of one's own whose kids are rows of one's own. More ways to take an operation first in a drawn region: one that n waits for; one that no world changes. -/
import Derived.Test.YtfocooehnmpndaaGreatJDemandSomeRow8
import Derived.Test.YtfocooehnmpndaaGreatJDemandSomeRow6
import Derived.Test.YtfocooehnmpndaaGreatJDemandSomeRow4
import Derived.Test.YtfocooehnmpndaaGreatJDemandSomeRow1
import Derived.Test.YtfocooehnmpndaaGreatJDemandSomeRow2
import Derived.Test.YtfocooehnmpndaaGreatJDemandSomeRow7
namespace Go.Proofs.YtfocooehnmpndaaGreat
open Go.RowKit
namespace Dm
open At (Ref)
def toR (i : Inst) : Ref := ⟨(i.1 : Int), (i.2 : Int)⟩
theorem plC_ref : ∀ l : List Inst, plC l = At.refC (l.map toR)
  | [] => rfl
  | i :: l => by
    have := plC_ref l
    unfold plC At.refC at *
    rw [List.flatMap_cons, List.map_cons, List.flatMap_cons, this]
    rfl
theorem pl_rd {S : Nat → Prop} {w : World} {B : Nat} {v : Value} {l : List Inst} (h : w.ownsRow B 104 2 v l.length (plC l)) (hS : ∀ k, v.ownBlock = some k → S k) : Rd S w (.sl ((l.map toR).map Ref.d)) [v] :=
  rd_of_own h (by rw [plC_ref]; exact At.rdAll_refs _) (by simp) hS
theorem pl_at {S : Nat → Prop} {w : World} {l : List Inst} {a : Option Addr} {n cap i : Nat} (h : Rd S w (.sl ((l.map toR).map Ref.d)) [.slice a n cap]) (hi : i < l.length) :
    ∃ b off, a = some ⟨b, off, none⟩ ∧ S b ∧ b < w.heap.size ∧ w.cell? ⟨b, off + i * 2, none⟩ = some (.int .i64 (l[i].1 : Int)) ∧ w.cell? ⟨b, off + i * 2 + 1, none⟩ = some (.int .i64 (l[i].2 : Int)) := by
  obtain ⟨b, off, h1, h2, h3, h4, h5⟩ := At.Rd.ref_at h (i := i) (by simpa using hi)
  refine ⟨b, off, h1, h2, h3, ?_, ?_⟩
  · simpa [toR] using h4
  · simpa [toR] using h5
end Dm
end Go.Proofs.YtfocooehnmpndaaGreat
namespace Go.Proofs.YtfocooehnmpndaaGreat
open Go.RowKit
namespace Dm
open At (Ref worth worthL enodes refsS inM)
theorem Keeps.more {S : Nat → Prop} {w w1 w2 : World} (h : Keeps S w w1) (k : Keeps S w1 w2) : Keeps S w w2 :=
  ⟨k.os.trans h.os, k.tape.trans h.tape, k.output.trans h.output, Nat.le_trans h.size k.size, fun j hj hs => (k.block j (Nat.lt_of_lt_of_le hj h.size) hs).trans (h.block j hj hs)⟩
theorem keeps_grown {S : Nat → Prop} {w w1 : World} {c : Nat} (hg : w.grownBy w1 (some c)) (hc : S c) : Keeps S w w1 :=
  ⟨hg.os, hg.tape, hg.output, hg.size, fun j hj hs => hg.block j hj (fun e => hs (by cases e; exact hc))⟩
theorem upto_fin {X Y : GetS} {p : Inst} (h0 : X.st p = 0) (h : (X.mark p 1).upto Y) (c : Nat) : X.upto (Y.mark p c) := fun i hi => by
  have hne : i ≠ p := fun e => hi (by rw [e]; exact h0)
  have h1 := h i (by unfold GetS.mark; simp [hne, hi])
  unfold GetS.mark at *
  simpa [hne] using h1
theorem okI_of {g : Gram} {s : At.Sys} {T : Tree} (hs : At.checkS g s = 0) (hv : validT g T = true) (hroot : rootS g T = ⟨false, g.start⟩) (hal : s.attrs.length ≤ 2000000) (hsz : tsz T ≤ 1000000) {i : Inst} (hi : i ∈ allI g s (tabT T)) : okI i := by
  obtain ⟨q, E⟩ := env hs hv hroot hal hsz hi
  have h1 := E.eq.hn
  have h2 := E.eq.ha
  rw [tab_len] at h1
  exact ⟨⟨by simp, by omega⟩, ⟨by simp, by omega⟩⟩
structure GetR (g : Gram) (s : At.Sys) (L : List Nd) (Bd vb sb : Nat) (S : Inst → Prop) (X : GetS) (i : Inst) (W : World) (v : Int) (ok : Bool) (Y : GetS) (w' : World) : Prop where
  inv : GetI s L (fun j => j ∈ allI g s L) S Y
  up : X.upto Y
  mem : GetM (allI g s L) Bd vb sb Y w'
  keep : Keeps (CT vb sb) W w'
  yes : ok = true → Y.st i = 2 ∧ Y.va i = v
  no : ok = false → ∀ v, ¬ Vl s L i v
structure GetL (g : Gram) (s : At.Sys) (L : List Nd) (Bd vb sb : Nat) (S : Inst → Prop) (X : GetS) (p : Inst) (NL : List Inst) (w4 : World) (i : Nat) (Y : GetS) (wr : World) : Prop where
  inv : GetI s L (fun j => j ∈ allI g s L) (fun j => S j ∨ j = p) Y
  up : (X.mark p 1).upto Y
  mem : GetM (allI g s L) (Bd - 2) vb sb Y wr
  keep : Keeps (CT vb sb) w4 wr
  all : ∀ j ∈ NL.take i, Y.st j = 2
def GetPost (g : Gram) (s : At.Sys) (L : List Nd) (Bd vb sb : Nat) (S : Inst → Prop) (X : GetS) (i : Inst) (W : World) (e : Ending) (w' : World) : Prop :=
  ∃ v ok Y, e = .returned (.tuple #[.int .i64 v, .bool ok]) ∧ GetR g s L Bd vb sb S X i W v ok Y w'
set_option maxHeartbeats 4000000 in
set_option maxRecDepth 100000 in
theorem getE (g : Gram) (s : At.Sys) (T : Tree) (hs : At.checkS g s = 0) (hv : validT g T = true) (hroot : rootS g T = ⟨false, g.start⟩) (hal : s.attrs.length ≤ 2000000) (hsz : tsz T ≤ 1000000) (tb eb vb sb : Nat) :
    ∀ (k : Nat) (Bd : Nat) (X : GetS) (S : Inst → Prop) (n a : Nat) (W : World), cnt0 (allI g s (tabT T)) X < k → Bd ≤ 1000000000000 → (n, a) ∈ allI g s (tabT T) → GetI s (tabT T) (fun j => j ∈ allI g s (tabT T)) S X → (∀ j, S j → Rch s (tabT T) j (n, a)) → TbS g s (tabT T) tb eb vb sb W → GetM (allI g s (tabT T)) Bd vb sb X W →
    Calls Tryz.prog 41 #[.pointer (some ⟨tb, 0, none⟩), .agg #[.int .i64 n, .int .i64 a]] W (GetPost g s (tabT T) Bd vb sb S X (n, a) W) := by
  intro k
  induction k with
  | zero => intro Bd X S n a W hk; omega
  | succ k IH =>
    intro Bd X S n a W hk hBd hi hI hS hT hM
    have hok : okI (n, a) := by
      obtain ⟨q, E⟩ := env hs hv hroot hal hsz hi
      have h1 := E.eq.hn
      have h2 := E.eq.ha
      rw [tab_len] at h1
      exact ⟨⟨by simp, by show (n : Int) ≤ _; simp only at h1; omega⟩, ⟨by simp, by show (a : Int) ≤ _; simp only at h2; omega⟩⟩
    obtain ⟨w0, HW0⟩ := nameIt ((W.alloc (.cells #[.pointer (some ⟨tb, 0, none⟩)] 75)).alloc (.cells #[.int .i64 n, .int .i64 a] 104))
    have hb0 : Below W.heap.size W w0 := by rw [← HW0.out]; exact ((Below.refl _ _).alloc (Nat.le_refl _) _).alloc (by simp) _
    have X1 : Hid (w0.heap[W.heap.size]? = some (.cells #[.pointer (some ⟨tb, 0, none⟩)] 75 (0, 0))) := by rw [← HW0.out]; exact bx_keep (bx_new _ _ _ rfl) ((Below.refl _ _).alloc (Nat.le_refl _) _)
    have X2 : Hid (w0.heap[W.heap.size + 1]? = some (.cells #[.int .i64 n, .int .i64 a] 104 (0, 0))) := by rw [← HW0.out]; exact bx_new _ _ _ (by simp)
    have HB0 := Lib.hid hb0
    have HM := Lib.hid hM
    have HI := Lib.hid hI
    have HT := Lib.hid hT
    have HT0 := Lib.hid (hT.below hb0)
    have HS := Lib.hid hS
    obtain ⟨ms, hms, -⟩ := hM.st
    have hms_lt : Hid (sb < W.heap.size) := hms.lt
    have hmv_lt : Hid (vb < W.heap.size) := (by obtain ⟨mv, hmv, -⟩ := hM.va; exact hmv.lt)
    have hlk : ∀ x : Aft w0, (Instr.lookup 129 (.map (some sb)) (.agg #[.int .i64 n, .int .i64 a]) false).run Tryz.prog x.w = .ok (.int .i64 (X.st (n, a) : Int)) x.w := fun x => (hms.keep (hb0.trans (x.bel.mono hb0.size))).look hok
    obtain ⟨⟨ar, cr, aa, ac, qa, qn, qc, na, nc, h1, h2, h3, h4⟩, h5, h6⟩ := HT0.out
    obtain ⟨x0, x1, x2, x3, x4, x5, x6, x7, x8, x9⟩ := bx_cells10 h1
    have y0 := bx_cells1 X1.out
    obtain ⟨z0, z1⟩ := bx_cells2 X2.out
    have ax9 := aft_cell x9
    have ay0 := aft_cell y0
    have az0 := aft_cell z0
    have az1 := aft_cell z1
    obtain ⟨st, HST⟩ := nameIt (X.st (n, a))
    simp only [HST.out] at hlk
    clear h1 h2 h3 h4 h5 h6 x0 x1 x2 x3 x4 x5 x6 x7 x8 x9 y0 z0 z1 hms hb0 hM hI hT hS
    obtain ⟨PST, HP⟩ := nameIt (GetPost g s (tabT T) Bd vb sb S X (n, a) W)
    have HFAIL : Hid ((∀ v, ¬ Vl s (tabT T) (n, a) v) → ∀ w', Below W.heap.size W w' → PST (.returned (.tuple #[.int .i64 0, .bool false])) w') := fun hno w' hb => by
      rw [← HP.out]
      exact ⟨0, false, X, rfl, HI.out, X.upto_refl, HM.out.keep hb, Below.keeps hb, fun h => (by cases h), fun _ => hno⟩
    have HYES : Hid (X.st (n, a) = 2 → ∀ w', Below W.heap.size W w' → PST (.returned (.tuple #[.int .i64 (X.va (n, a)), .bool true])) w') := fun h2 w' hb => by
      rw [← HP.out]
      exact ⟨_, true, X, rfl, HI.out, X.upto_refl, HM.out.keep hb, Below.keeps hb, fun _ => ⟨h2, rfl⟩, fun h => (by cases h)⟩
    rw [HP.out]
    have HPN := HP
    clear HP
    go_enter Tryz.func41, Tryz.ntmps41
    go_upto_region 1 with fail
    rw [HW0.out]
    clear HW0
    refine wp_region_after (w0 := w0) (by kernel_rfl) (by kernel_rfl) ?_
    repeat (go_big_quiet_step (fail))
    refine wpQuiet_nil ?_
    rintro w1 ⟨⟨_, hb1⟩, rfl⟩
    have HB1 : Hid (Below w0.heap.size w0 w1) := hb1
    clear hb1 hlk ax9 ay0 az0 az1
    have HBW : Hid (Below W.heap.size W w1) := HB0.out.trans (HB1.out.mono HB0.out.size)
    have hle : st ≤ 3 := by rw [← HST.out]; exact HI.out.le _
    rcases (show st = 1 ∨ st = 3 ∨ st = 2 ∨ st = 0 by omega) with h | h | h | h
    · have HF := Lib.hid (HFAIL.out (fun v hvl => hvl.no_circle (HS.out _ ((HI.out.one _).1 (HST.out.trans h)))) w1 HBW.out)
      have k1 : ((st : Int) == 1) = true := by rw [h]; rfl
      clear HFAIL HYES hk IH h hle HST
      go_wp2_with fail
      first | exact HF.out | (refine bodyPost_ret (results_tmp2 Tryz.results41 _ _ _) rfl ?_; exact HF.out)
    · have HF := Lib.hid (HFAIL.out (HI.out.three _ (HST.out.trans h)) w1 HBW.out)
      have k1 : ((st : Int) == 1) = false := by rw [h]; rfl
      have k3 : ((st : Int) == 3) = true := by rw [h]; rfl
      clear HFAIL HYES hk IH h hle HST
      go_wp2_with fail
      first | exact HF.out | (refine bodyPost_ret (results_tmp2 Tryz.results41 _ _ _) rfl ?_; exact HF.out)
    · have HF := Lib.hid (HYES.out (HST.out.trans h))
      have k1 : ((st : Int) == 1) = false := by rw [h]; rfl
      have k3 : ((st : Int) == 3) = false := by rw [h]; rfl
      have k2 : ((st : Int) == 2) = true := by rw [h]; rfl
      obtain ⟨mv, hmv, -⟩ := HM.out.va
      have hlk : ∀ x : Aft w1, (Instr.lookup 129 (.map (some vb)) (.agg #[.int .i64 n, .int .i64 a]) false).run Tryz.prog x.w = .ok (.int .i64 (X.va (n, a))) x.w := fun x => (hmv.keep (HBW.out.trans (x.bel.mono HBW.out.size))).look hok
      obtain ⟨⟨ar, cr, aa, ac, qa, qn, qc, na, nc, h1, -, -, -⟩, -, -⟩ := HT.out.below HBW.out
      obtain ⟨x0, x1, x2, x3, x4, x5, x6, x7, x8, x9⟩ := bx_cells10 h1
      have ax8 := aft_cell x8
      have ay0 := aft_cell (bx_cells1 (bx_keep X1.out HB1.out))
      obtain ⟨z0, z1⟩ := bx_cells2 (bx_keep X2.out HB1.out)
      have az0 := aft_cell z0
      have az1 := aft_cell z1
      obtain ⟨va, HVA⟩ := nameIt (X.va (n, a))
      simp only [HVA.out] at hlk HF
      clear h1 x0 x1 x2 x3 x4 x5 x6 x7 x8 x9 z0 z1 hmv
      clear HFAIL HYES hk IH h hle HST
      go_upto_region 6 with fail
      refine wp_region_after (w0 := w1) (by kernel_rfl) (by kernel_rfl) ?_
      repeat (go_big_quiet_step (fail))
      refine wpQuiet_nil ?_
      rintro w2 ⟨⟨_, hb2⟩, rfl⟩
      have HF2 := Lib.hid (HF.out w2 (HBW.out.trans (hb2.mono HBW.out.size)))
      clear HF hb2 hlk ax8 ay0 az0 az1
      go_wp2_with fail
      first | exact HF2.out | (refine bodyPost_ret (results_tmp2 Tryz.results41 _ _ _) rfl ?_; exact HF2.out)
    · have k1 : ((st : Int) == 1) = false := by rw [h]; rfl
      have k3 : ((st : Int) == 3) = false := by rw [h]; rfl
      have k2 : ((st : Int) == 2) = false := by rw [h]; rfl
      have h0 : X.st (n, a) = 0 := HST.out.trans h
      obtain ⟨q, hE⟩ := env hs hv hroot hal hsz hi
      have E := Lib.hid hE
      have hvs : vb ≠ sb := HT.out.ne.2.2.2.2
      have HVS := Lib.hid hvs
      have HK : Hid (cnt0 (allI g s (tabT T)) X < k + 1) := hk
      have HIN := Lib.hid hi
      have HBD := Lib.hid hBd
      have HOK := Lib.hid hok
      have H0 := Lib.hid h0
      obtain ⟨⟨ar, cr, aa, ac, qa, qn, qc, na, nc, h1, -, -, -⟩, -, -⟩ := HT.out.below HBW.out
      obtain ⟨x0, x1, x2, x3, x4, x5, x6, x7, x8, x9⟩ := bx_cells10 h1
      have ax9 := aft_cell x9
      have ay0 := aft_cell (bx_cells1 (bx_keep X1.out HB1.out))
      obtain ⟨z0, z1⟩ := bx_cells2 (bx_keep X2.out HB1.out)
      have az0 := aft_cell z0
      have az1 := aft_cell z1
      clear h1 x0 x1 x2 x3 x4 x5 x6 x7 x8 x9 z0 z1 hE hvs hk hi hBd hok h0 HFAIL HYES h hle HST
      have HIH := Lib.hid IH
      clear IH
      go_upto_region 7 with fail
      refine wp_region_after_tail (w0 := w1) 5 (by kernel_rfl) (by kernel_rfl) ?_
      simp only [List.take_succ_cons, List.take_zero, List.drop_succ_cons, List.drop_zero]
      repeat (go_big_quiet_step (fail))
      refine wpQuiet_nil ?_
      rintro w2 ⟨⟨_, hb2⟩, rfl⟩
      have HB2 : Hid (Below W.heap.size W w2) := HBW.out.trans (hb2.mono HBW.out.size)
      have HB12 : Hid (Below w0.heap.size w0 w2) := HB1.out.trans (hb2.mono HB1.out.size)
      obtain ⟨w3, hrun, hM3, hB3, hg3⟩ := (HM.out.keep HB2.out).first HBD.out HVS.out HIN.out H0.out HOK.out (c := 1) (by decide) (by decide)
      replace hrun : (Instr.mapUpdate 129 (.map (some sb)) (.agg #[.int .i64 n, .int .i64 a]) (.int .i64 1)).run Tryz.prog w2 = .ok () w3 := hrun
      have HM3 := Lib.hid hM3
      have HB3 := Lib.hid hB3
      have HG3 := Lib.hid hg3
      clear hb2 ax9 ay0 az0 az1 hM3 hB3 hg3
      go_upto_region 8 with fail
      have HK3 : Hid (Keeps (CT vb sb) W w3) := Keeps.more (Below.keeps HB2.out) (keeps_grown HG3.out (.inr rfl))
      have HT3 := Lib.hid (HT.out.keeps HK3.out)
      have HNS : Hid (W.heap.size ≠ sb ∧ W.heap.size + 1 ≠ sb) := by
        have := hms_lt.out
        exact ⟨by omega, by omega⟩
      have Y1 : Hid (w3.heap[W.heap.size]? = some (.cells #[.pointer (some ⟨tb, 0, none⟩)] 75 (0, 0))) := (HG3.out.block _ (Array.getElem?_eq_some_iff.1 (bx_keep X1.out HB12.out)).1 (fun e => HNS.out.1 (Option.some.inj e))).trans (bx_keep X1.out HB12.out)
      have Y2 : Hid (w3.heap[W.heap.size + 1]? = some (.cells #[.int .i64 n, .int .i64 a] 104 (0, 0))) := (HG3.out.block _ (Array.getElem?_eq_some_iff.1 (bx_keep X2.out HB12.out)).1 (fun e => HNS.out.2 (Option.some.inj e))).trans (bx_keep X2.out HB12.out)
      have HNE := Lib.hid (needsE g s (tabT T) tb eb vb sb n a _ q (placeI (tabT T) (ownerI s (tabT T) (n, a))) w3 HT3.out E.out.eq (Nat.le_trans E.out.size (by decide)) E.out.at_)
      have y0 := bx_cells1 Y1.out
      obtain ⟨z0, z1⟩ := bx_cells2 Y2.out
      clear X1 X2 hrun
      go_wp2_with (refine HNE.out.mono ?_)
      rintro e4 w4 ⟨v4, rfl, ho4, hb4⟩
      obtain ⟨NL, HNL⟩ := nameIt ((refsS q.is').map (placeI (tabT T) (ownerI s (tabT T) (n, a))))
      rw [HNL.out] at ho4
      have HNEED : Hid (needsI s (tabT T) (n, a) = NL) := by show _ = _; unfold needsI; rw [E.out.ex]; exact HNL.out
      have HB4 : Hid (Below w3.heap.size w3 w4) := hb4
      have HRD : Hid (Rd (fun k => w3.heap.size ≤ k) w4 (.sl ((NL.map toR).map Ref.d)) [v4]) := pl_rd ho4 (fun k e => (ho4.lt k e).1)
      obtain ⟨a4, c4, rfl, hcc1, hcc2⟩ := own_len ho4
      unfold maxLen at hcc2
      have HL0 : Hid (GetL g s (tabT T) Bd vb sb S X (n, a) NL w4 0 (X.mark (n, a) 1) w4) :=
        ⟨HI.out.begin HIN.out H0.out, GetS.upto_refl _, HM3.out.keep HB4.out, Below.keeps (Below.refl _ _), fun j hj => by simp at hj⟩
      obtain ⟨ln, HLN⟩ := nameIt NL.length
      rw [HLN.out] at HRD hcc1
      rw [HLN.out]
      clear ho4 hb4 HNE y0 z0 z1
      go_wp2_with fail
      go_loopg [7, 8, 9, 38] ln (fun gg v7 v8 v9 v38 wr => ∃ (i : Nat) (Y : GetS), i ≤ ln ∧ ln - i ≤ gg ∧ v38 = .int .i64 i ∧ Hid (GetL g s (tabT T) Bd vb sb S X (n, a) NL w4 i Y wr))
      case atStart => exact ⟨0, _, by omega, by omega, rfl, HL0.out⟩
      case round =>
        obtain ⟨i, Y, hi, hg, rfl, HL⟩ := hrel
        clear HL0
        by_cases hlt : i < ln
        · have hil : i < NL.length := by rw [HLN.out]; exact hlt
          have hw3 : W.heap.size ≤ w3.heap.size := HK3.out.size
          have HCT : Hid (∀ b, W.heap.size ≤ b → ¬ CT vb sb b) := fun b hb hc => by
            have h1 := hms_lt.out
            have h2 := hmv_lt.out
            rcases hc with rfl | rfl <;> omega
          have HRX : Hid (Rd (fun k => w3.heap.size ≤ k) wr (.sl ((NL.map toR).map Ref.d)) [.slice a4 ln c4]) := HRD.out.keep (fun b hb hl => ⟨hb, HL.out.keep.block b hl (HCT.out b (Nat.le_trans hw3 hb))⟩)
          obtain ⟨bb, bo, hae, -, hbl, c0, c1⟩ := pl_at HRX.out hil
          have HJN : Hid (NL[i] ∈ needsI s (tabT T) (n, a)) := by show _ ∈ _; rw [HNEED.out]; exact List.getElem_mem hil
          have HJA := Lib.hid (needs_all hs hv hroot HIN.out HJN.out)
          have HTK : Hid (NL.take (i + 1) = NL.take i ++ [NL[i]]) := List.take_succ_eq_append_getElem hil
          obtain ⟨j, HJ⟩ := nameIt (NL[i]'hil)
          rw [HJ.out] at HJN HJA HTK c0 c1
          obtain ⟨j1, j2⟩ := j
          simp only at c0 c1
          obtain ⟨w5, HW5⟩ := nameIt (wr.alloc (.cells #[.int .i64 j1, .int .i64 j2] 104))
          have HB5 : Hid (Below wr.heap.size wr w5) := by show Below _ _ _; rw [← HW5.out]; exact (Below.refl _ _).alloc (Nat.le_refl _) _
          have X7 : Hid (w5.heap[wr.heap.size]? = some (.cells #[.int .i64 j1, .int .i64 j2] 104 (0, 0))) := by rw [← HW5.out]; exact bx_new _ _ _ rfl
          have HK5 : Hid (Keeps (CT vb sb) w3 w5) := Keeps.more (Below.keeps HB4.out) (Keeps.more HL.out.keep (Below.keeps HB5.out))
          have HT5 := Lib.hid (HT3.out.keeps HK5.out)
          have Z1 : Hid (w5.heap[W.heap.size]? = some (.cells #[.pointer (some ⟨tb, 0, none⟩)] 75 (0, 0))) := HK5.out.cells Y1.out (HCT.out _ (Nat.le_refl _))
          have HCALL := Lib.hid (HIH.out (Bd - 2) Y (fun i => S i ∨ i = (n, a)) j1 j2 w5 (by
            have h1 := cnt0_upto (l := allI g s (tabT T)) HL.out.up
            have h2 := cnt0_mark (c := 1) (by decide) H0.out HIN.out
            have h3 := HK.out
            omega) (by have := HBD.out; omega) HJA.out HL.out.inv (fun i hi => by
              rcases hi with hi | rfl
              · exact .more (HS.out _ hi) HJN.out
              · exact .one HJN.out) HT5.out (HL.out.mem.keep HB5.out))
          have y0 := bx_cells1 Z1.out
          obtain ⟨z0, z1⟩ := bx_cells2 X7.out
          have hl5 : wr.heap.size < w5.heap.size := (Array.getElem?_eq_some_iff.1 X7.out).1
          have hlt' : (i : Int) < (ln : Int) := by omega
          have hic : (i : Int) ≤ (c4 : Int) := by omega
          subst hae
          go_upto_region 11 with fail
          rw [HW5.out]
          clear HW5 c0 c1 hbl
          go_wp2_with (refine HCALL.out.mono ?_)
          rintro e6 w6 ⟨v6, ok6, Y6, rfl, R6⟩
          have HR6 := Lib.hid R6
          clear R6 HCALL z0 z1 y0
          cases ok6 with
          | true =>
            have HL7 : Hid (GetL g s (tabT T) Bd vb sb S X (n, a) NL w4 (i + 1) Y6 w6) := by
              refine ⟨HR6.out.inv, GetS.upto_trans HL.out.up HR6.out.up, HR6.out.mem, Keeps.more HL.out.keep (Keeps.more (Below.keeps HB5.out) HR6.out.keep), fun x hx => ?_⟩
              rw [HTK.out] at hx
              rcases List.mem_append.1 hx with hx | hx
              · have h2 := HL.out.all x hx
                exact (HR6.out.up x (by rw [h2]; decide)).1.trans h2
              · rw [List.mem_singleton] at hx
                subst hx
                exact (HR6.out.yes rfl).1
            clear HR6
            go_wp2_with fail
            go_roundg (ln - (i + 1))
            case measure => omega
            case rel => exact ⟨i + 1, Y6, by omega, by omega, by go_num, HL7.out⟩
          | false =>
            have HNO : Hid (∀ v, ¬ Vl s (tabT T) (n, a) v) := fun v hv2 => by
              obtain ⟨v', h'⟩ := hv2.needs HJN.out
              exact HR6.out.no rfl v' h'
            have HNSP : Hid (¬ S (n, a)) := fun hs2 => by
              have h1 := (HI.out.one _).2 hs2
              rw [H0.out] at h1
              cases h1
            have HST6 : Hid (Y6.st (n, a) ≠ 0) := by
              have h1 : Y6.st (n, a) = 1 := (HR6.out.inv.one _).2 (.inr rfl)
              show _ ≠ _
              rw [h1]; decide
            have HK6 : Hid (Keeps (CT vb sb) w3 w6) := Keeps.more HK5.out HR6.out.keep
            have V1 : Hid (w6.heap[W.heap.size]? = some (.cells #[.pointer (some ⟨tb, 0, none⟩)] 75 (0, 0))) := HK6.out.cells Y1.out (HCT.out _ (Nat.le_refl _))
            have V2 : Hid (w6.heap[W.heap.size + 1]? = some (.cells #[.int .i64 n, .int .i64 a] 104 (0, 0))) := HK6.out.cells Y2.out (HCT.out _ (by omega))
            obtain ⟨⟨ar, cr, aa, ac, qa, qn, qc, na, nc, h1, -, -, -⟩, -, -⟩ := HT3.out.keeps HK6.out
            obtain ⟨x0, x1, x2, x3, x4, x5, x6, x7, x8, x9⟩ := bx_cells10 h1
            have ax9 := aft_cell x9
            have ay0 := aft_cell (bx_cells1 V1.out)
            obtain ⟨z0, z1⟩ := bx_cells2 V2.out
            have az0 := aft_cell z0
            have az1 := aft_cell z1
            clear h1 x0 x1 x2 x3 x4 x5 x6 x7 x8 x9 z0 z1
            go_upto_region 13 with fail
            refine wp_region_after_tail (w0 := w6) 5 (by kernel_rfl) (by kernel_rfl) ?_
            simp only [List.take_succ_cons, List.take_zero, List.drop_succ_cons, List.drop_zero]
            repeat (go_big_quiet_step (fail))
            refine wpQuiet_nil ?_
            rintro w7 ⟨⟨_, hb7⟩, rfl⟩
            obtain ⟨w8, hrun, hM8, hg8⟩ := (HR6.out.mem.keep hb7).again (by have := HBD.out; omega) HVS.out HST6.out HOK.out (c := 3) (by decide) (by decide)
            replace hrun : (Instr.mapUpdate 129 (.map (some sb)) (.agg #[.int .i64 n, .int .i64 a]) (.int .i64 3)).run Tryz.prog w7 = .ok () w8 := hrun
            have HF : Hid (PST (.returned (.tuple #[.int .i64 0, .bool false])) w8) := by
              rw [← HPN.out]
              refine ⟨0, false, Y6.mark (n, a) 3, rfl, HR6.out.inv.stop HNSP.out HNO.out, upto_fin H0.out (GetS.upto_trans HL.out.up HR6.out.up) 3, hM8.up (by have := HB3.out; omega), ?_, fun h => (by cases h), fun _ => HNO.out⟩
              exact Keeps.more HK3.out (Keeps.more HK6.out (Keeps.more (Below.keeps hb7) (keeps_grown hg8 (.inr rfl))))
            clear hb7 ax9 ay0 az0 az1 hM8 hg8 HR6
            go_wp2_with fail
            first | exact HF.out | (refine bodyPost_ret (results_tmp2 Tryz.results41 _ _ _) rfl ?_; exact HF.out)
        · have hend : i = ln := by omega
          have hlt' : ¬ (i : Int) < (ln : Int) := by omega
          have HALL : Hid (∀ j ∈ needsI s (tabT T) (n, a), Y.st j = 2) := fun j hj => by
            rw [HNEED.out] at hj
            refine HL.out.all j ?_
            rw [hend, ← HLN.out, List.take_length]
            exact hj
          have HCT : Hid (∀ b, W.heap.size ≤ b → ¬ CT vb sb b) := fun b hb hc => by
            have h1 := hms_lt.out
            have h2 := hmv_lt.out
            rcases hc with rfl | rfl <;> omega
          have HKR : Hid (Keeps (CT vb sb) w3 wr) := Keeps.more (Below.keeps HB4.out) HL.out.keep
          have V1 : Hid (wr.heap[W.heap.size]? = some (.cells #[.pointer (some ⟨tb, 0, none⟩)] 75 (0, 0))) := HKR.out.cells Y1.out (HCT.out _ (Nat.le_refl _))
          have V2 : Hid (wr.heap[W.heap.size + 1]? = some (.cells #[.int .i64 n, .int .i64 a] 104 (0, 0))) := HKR.out.cells Y2.out (HCT.out _ (by omega))
          have HTR := Lib.hid (HT3.out.keeps HKR.out)
          have HEQ := Lib.hid (equationE g s (tabT T) tb eb vb sb n a _ q wr HTR.out E.out.eq)
          have y0 := bx_cells1 V1.out
          obtain ⟨z0, z1⟩ := bx_cells2 V2.out
          go_wp2_with (refine HEQ.out.mono ?_)
          rintro e6 w6 ⟨v6, rfl, hv6, hb6⟩
          obtain ⟨va, vl, vc, rfl⟩ : ∃ x y z, v6 = .slice x y z := (by obtain ⟨x, y, e, -, -⟩ := hv6.form; exact ⟨_, _, _, e⟩)
          have HB6 : Hid (Below wr.heap.size wr w6) := hb6
          have HV6 : Hid (Rd AnyB w6 (.sl (q.is'.args.map At.Expr.d)) [.slice va vl vc]) := hv6.any.below hb6
          clear hb6 hv6 y0 z0 z1
          obtain ⟨ek, HEK⟩ := nameIt q.is'.kind
          obtain ⟨en, HEN⟩ := nameIt q.is'.n
          obtain ⟨ea, HEA⟩ := nameIt q.is'.ref.at'
          obtain ⟨eb', HEB⟩ := nameIt q.is'.ref.attr
          obtain ⟨o, HO⟩ := nameIt (ownerI s (tabT T) (n, a))
          rw [HEK.out, HEN.out, HEA.out, HEB.out, HO.out]
          obtain ⟨w7, HW7⟩ := nameIt ((w6.alloc (.cells #[.int .i64 ek, .int .i64 en, .int .i64 ea, .int .i64 eb', .slice va vl vc] 86)).alloc (.cells #[.int .i64 o] 3))
          have HB7 : Hid (Below w6.heap.size w6 w7) := by show Below _ _ _; rw [← HW7.out]; exact ((Below.refl _ _).alloc (Nat.le_refl _) _).alloc (by simp) _
          have X7 : Hid (w7.heap[w6.heap.size]? = some (.cells #[.int .i64 ek, .int .i64 en, .int .i64 ea, .int .i64 eb', .slice va vl vc] 86 (0, 0))) := by show _ = _; rw [← HW7.out]; exact bx_keep (bx_new _ _ _ rfl) ((Below.refl _ _).alloc (Nat.le_refl _) _)
          have X8 : Hid (w7.heap[w6.heap.size + 1]? = some (.cells #[.int .i64 o] 3 (0, 0))) := by show _ = _; rw [← HW7.out]; exact bx_new _ _ _ (by simp)
          go_upto_region 17 with fail
          rw [HW7.out]
          clear HW7
          have HB47 : Hid (Below wr.heap.size wr w7) := HB6.out.trans (HB7.out.mono HB6.out.size)
          have HK7 : Hid (Keeps (CT vb sb) w3 w7) := Keeps.more HKR.out (Below.keeps HB47.out)
          have HM7 := Lib.hid (HL.out.mem.keep HB47.out)
          have HT7 := Lib.hid (HT3.out.keeps HK7.out)
          have U1 : Hid (w7.heap[W.heap.size]? = some (.cells #[.pointer (some ⟨tb, 0, none⟩)] 75 (0, 0))) := HK7.out.cells Y1.out (HCT.out _ (Nat.le_refl _))
          have U2 : Hid (w7.heap[W.heap.size + 1]? = some (.cells #[.int .i64 n, .int .i64 a] 104 (0, 0))) := HK7.out.cells Y2.out (HCT.out _ (by omega))
          have HINR : Hid (∀ r ∈ refsS q.is', placeI (tabT T) o r ∈ needsI s (tabT T) (n, a)) := fun r hr => by
            unfold needsI
            rw [E.out.ex, ← HO.out]
            exact List.mem_map.2 ⟨r, hr, rfl⟩
          have HGA : Hid (At.GetAt (fun r => r ∈ refsS q.is') 83 #[.pointer (some ⟨W.heap.size, 0, none⟩), .pointer (some ⟨w6.heap.size + 1, 0, none⟩)] (fun r => Y.va (placeI (tabT T) o r)) w7) := fun W' r hr hb => by
            have hpl := E.out.at_ r hr
            rw [HO.out] at hpl
            obtain ⟨mv, hmv, -⟩ := (HM7.out.keep hb).va
            exact getcE g s (tabT T) tb eb vb sb _ _ Y.va mv o r _ _ W' (HT7.out.below hb) hmv (by rw [← HO.out]; exact E.out.eq.ho) hpl (okI_of hs hv hroot hal hsz (needs_all hs hv hroot HIN.out (HINR.out r hr))) (bx_cells1 (bx_keep U1.out hb)) (bx_cells1 (bx_keep X8.out hb))
          have HGM : Hid (∀ r, r ∈ refsS q.is' → inM (Y.va (placeI (tabT T) o r))) := fun r hr => by
            have hj := HINR.out r hr
            exact vl_inM hs hv hroot hal hsz (HL.out.inv.two _ (HALL.out _ hj)) (needs_all hs hv hroot HIN.out hj)
          have HCA : Hid (∀ x : Aft w7, Calls Tryz.prog 82 #[.agg #[.int .i64 ek, .int .i64 en, .int .i64 ea, .int .i64 eb', .slice va vl vc], .func (.func 83) #[] #[.pointer (some ⟨W.heap.size, 0, none⟩), .pointer (some ⟨w6.heap.size + 1, 0, none⟩)]] x.w (fun e w' => e = .returned (.int .i64 (worth (fun r => Y.va (placeI (tabT T) o r)) q.is')) ∧ Below x.w.heap.size x.w w')) := fun x => by
            have h := At.calcE (fun r => r ∈ refsS q.is') 83 #[.pointer (some ⟨W.heap.size, 0, none⟩), .pointer (some ⟨w6.heap.size + 1, 0, none⟩)] (fun r => Y.va (placeI (tabT T) o r)) HGM.out (fun _ _ => by kernel_rfl) q.is'.size q.is' (.slice va vl vc) x.w (Nat.le_refl _) E.out.okx (HGA.out.below x.bel) ((HV6.out.below HB7.out).below x.bel) (Nat.le_trans E.out.size (by decide))
            rw [HEK.out, HEN.out, HEA.out, HEB.out] at h
            exact h
          obtain ⟨⟨ar, cr, aa, ac, qa, qn, qc, na, nc, h1, -, -, -⟩, -, -⟩ := HT7.out
          obtain ⟨x0, x1, x2, x3, x4, x5, x6, x7, x8, x9⟩ := bx_cells10 h1
          obtain ⟨e0, e1, e2, e3, e4⟩ := At.bx_cells5 X7.out
          obtain ⟨z0, z1⟩ := bx_cells2 U2.out
          have ax8 := aft_cell x8
          have ay0 := aft_cell (bx_cells1 U1.out)
          have az0 := aft_cell z0
          have az1 := aft_cell z1
          have ae0 := aft_cell e0
          have ae1 := aft_cell e1
          have ae2 := aft_cell e2
          have ae3 := aft_cell e3
          have ae4 := aft_cell e4
          obtain ⟨wv, HWV⟩ := nameIt (worth (fun r => Y.va (placeI (tabT T) o r)) q.is')
          simp only [HWV.out] at HCA
          clear h1 x0 x1 x2 x3 x4 x5 x6 x7 x8 x9 e0 e1 e2 e3 e4 z0 z1
          refine wp_region_after_tail (w0 := w7) 8 (by kernel_rfl) (by kernel_rfl) ?_
          simp only [List.take_succ_cons, List.take_zero, List.drop_succ_cons, List.drop_zero]
          repeat (go_big_quiet_step (exact Calls.after (HCA.out _)))
          refine wpQuiet_nil ?_
          rintro w8 ⟨⟨_, hb8⟩, rfl⟩
          have hwv : inM wv := by rw [← HWV.out]; exact At.worth_inM HGM.out q.is'.size q.is' (Nat.le_refl _) E.out.okx
          obtain ⟨w9, hrun, hM9, hg9⟩ := (HM7.out.keep hb8).put (by have := HBD.out; omega) HVS.out HOK.out hwv
          have HK9 : Hid (Keeps (CT vb sb) w3 w9) := Keeps.more HK7.out (Keeps.more (Below.keeps hb8) (keeps_grown hg9 (.inl rfl)))
          have HM9 := Lib.hid hM9
          clear hb8 hg9 hM9 ax8 ay0 az0 az1 ae0 ae1 ae2 ae3 ae4
          go_upto_region 18 with fail
          have T1 : Hid (w9.heap[W.heap.size]? = some (.cells #[.pointer (some ⟨tb, 0, none⟩)] 75 (0, 0))) := HK9.out.cells Y1.out (HCT.out _ (Nat.le_refl _))
          have T2 : Hid (w9.heap[W.heap.size + 1]? = some (.cells #[.int .i64 n, .int .i64 a] 104 (0, 0))) := HK9.out.cells Y2.out (HCT.out _ (by omega))
          have HST9 : Hid ((Y.val (n, a) wv).st (n, a) ≠ 0) := by
            have h1 : Y.st (n, a) = 1 := (HL.out.inv.one _).2 (.inr rfl)
            show Y.st (n, a) ≠ _
            rw [h1]; decide
          obtain ⟨⟨ar, cr, aa, ac, qa, qn, qc, na, nc, h1, -, -, -⟩, -, -⟩ := HT3.out.keeps HK9.out
          obtain ⟨x0, x1, x2, x3, x4, x5, x6, x7, x8, x9⟩ := bx_cells10 h1
          have ax9 := aft_cell x9
          have ay0 := aft_cell (bx_cells1 T1.out)
          obtain ⟨z0, z1⟩ := bx_cells2 T2.out
          have az0 := aft_cell z0
          have az1 := aft_cell z1
          clear h1 x0 x1 x2 x3 x4 x5 x6 x7 x8 x9 z0 z1 hrun
          refine wp_region_after_tail (w0 := w9) 5 (by kernel_rfl) (by kernel_rfl) ?_
          simp only [List.take_succ_cons, List.take_zero, List.drop_succ_cons, List.drop_zero]
          repeat (go_big_quiet_step (fail))
          refine wpQuiet_nil ?_
          rintro wa ⟨⟨_, hba⟩, rfl⟩
          obtain ⟨wb, hrun, hMb, hgb⟩ := (HM9.out.keep hba).again (by have := HBD.out; omega) HVS.out HST9.out HOK.out (c := 2) (by decide) (by decide)
          replace hrun : (Instr.mapUpdate 129 (.map (some sb)) (.agg #[.int .i64 n, .int .i64 a]) (.int .i64 2)).run Tryz.prog wa = .ok () wb := hrun
          have HKB : Hid (Keeps (CT vb sb) w3 wb) := Keeps.more HK9.out (Keeps.more (Below.keeps hba) (keeps_grown hgb (.inr rfl)))
          have HMB := Lib.hid hMb
          clear hba hgb hMb ax9 ay0 az0 az1
          go_upto_region 19 with fail
          have HF : Hid (∀ wc, Below wb.heap.size wb wc → PST (.returned (.tuple #[.int .i64 wv, .bool true])) wc) := fun wc hb => by
            rw [← HPN.out]
            have hns : ¬ S (n, a) := fun hs2 => by
              have h1 := (HI.out.one _).2 hs2
              rw [H0.out] at h1
              cases h1
            have hd := HL.out.inv.done hns HALL.out
            rw [HO.out, E.out.ex, HWV.out] at hd
            refine ⟨wv, true, _, rfl, hd, ?_, (HMB.out.up (by have := HB3.out; omega)).keep hb, Keeps.more HK3.out (Keeps.more HKB.out (Below.keeps hb)), fun _ => ?_, fun h => (by cases h)⟩
            · intro i hi
              have hne : i ≠ (n, a) := fun e => hi (by rw [e]; exact H0.out)
              have h1 := HL.out.up i (by unfold GetS.mark; simp [hne, hi])
              unfold GetS.mark GetS.val at *
              simpa [hne] using h1
            · simp [GetS.mark, GetS.val]
          obtain ⟨mw, hmw, -⟩ := HMB.out.va
          have hlk : ∀ x : Aft wb, (Instr.lookup 129 (.map (some vb)) (.agg #[.int .i64 n, .int .i64 a]) false).run Tryz.prog x.w = .ok (.int .i64 wv) x.w := fun x => by
            have h := (hmw.keep x.bel).look HOK.out
            rw [h]
            simp [GetS.mark, GetS.val]
          have T3 : Hid (wb.heap[W.heap.size]? = some (.cells #[.pointer (some ⟨tb, 0, none⟩)] 75 (0, 0))) := HKB.out.cells Y1.out (HCT.out _ (Nat.le_refl _))
          have T4 : Hid (wb.heap[W.heap.size + 1]? = some (.cells #[.int .i64 n, .int .i64 a] 104 (0, 0))) := HKB.out.cells Y2.out (HCT.out _ (by omega))
          obtain ⟨⟨ar, cr, aa, ac, qa, qn, qc, na, nc, h1, -, -, -⟩, -, -⟩ := HT3.out.keeps HKB.out
          obtain ⟨x0, x1, x2, x3, x4, x5, x6, x7, x8, x9⟩ := bx_cells10 h1
          have ax8 := aft_cell x8
          have ay0 := aft_cell (bx_cells1 T3.out)
          obtain ⟨z0, z1⟩ := bx_cells2 T4.out
          have az0 := aft_cell z0
          have az1 := aft_cell z1
          clear h1 x0 x1 x2 x3 x4 x5 x6 x7 x8 x9 z0 z1 hrun hmw
          refine wp_region_after (w0 := wb) (by kernel_rfl) (by kernel_rfl) ?_
          repeat (go_big_quiet_step (fail))
          refine wpQuiet_nil ?_
          rintro wc ⟨⟨_, hbc⟩, rfl⟩
          have HF2 := Lib.hid (HF.out wc hbc)
          clear hbc hlk ax8 ay0 az0 az1
          go_wp2_with fail
          first | exact HF2.out | (refine bodyPost_ret (results_tmp2 Tryz.results41 _ _ _) rfl ?_; exact HF2.out)
end Dm
end Go.Proofs.YtfocooehnmpndaaGreat
namespace Go.Proofs.YtfocooehnmpndaaGreat
open Go.RowKit
namespace Dm
open At (Ref worth worthL enodes refsS inM)
open Classical in
noncomputable def valI (s : At.Sys) (L : List Nd) (i : Inst) : Int := if h : ∃ v, Vl s L i v then h.choose else 0
theorem mem_allI {g : Gram} {s : At.Sys} {L : List Nd} {i : Inst} : i ∈ allI g s L ↔ i.1 < L.length ∧ i.2 ∈ attrsAt g s L i.1 := by
  obtain ⟨n, a⟩ := i
  unfold allI
  simp only [List.mem_flatMap, List.mem_range, List.mem_map]
  constructor
  · rintro ⟨m, h1, b, h2, e⟩
    cases e
    exact ⟨h1, h2⟩
  · rintro ⟨h1, h2⟩
    exact ⟨n, h1, a, h2, rfl⟩
def hasN (g : Gram) (s : At.Sys) (L : List Nd) (n : Nat) : Prop := ∀ i ∈ allI g s L, i.1 < n → ∃ v, Vl s L i v
end Dm
end Go.Proofs.YtfocooehnmpndaaGreat
namespace Go.Proofs.YtfocooehnmpndaaGreat
open Go.RowKit
theorem own_blk {w w' : World} {B : Nat} {e : TypeId} {s : Nat} {v : Value} {n : Nat} {xs : List Value} (h : w.ownsRow B e s v n xs) (hb : ∀ g, v.ownBlock = some g → w'.heap[g]? = w.heap[g]?) : w'.ownsRow B e s v n xs := by
  obtain ⟨h1, h2⟩ := h
  refine ⟨h1, ?_⟩
  rcases h2 with h2 | ⟨g, cap, cur, rfl, hg, hh, r⟩
  · exact .inl h2
  · exact .inr ⟨g, cap, cur, rfl, hg, by rw [hb g rfl]; exact hh, r⟩
structure OwnT (tr te : TypeId) (bt B n : Nat) (val : Nat → Value) (L : Nat → List Int) (wr : World) : Prop where
  tb : Vrow tr bt n val wr
  row : ∀ k, k < n → wr.ownsRow B te 1 (val k) (L k).length (ints (L k))
  dis : ∀ k k', k < n → k' < n → k ≠ k' → ∀ g, (val k).ownBlock = some g → (val k').ownBlock ≠ some g
  lt : bt < B
section
variable {tr te : TypeId} {bt B n : Nat} {val : Nat → Value} {L : Nat → List Int} {wr w' : World}
theorem OwnT.keep (h : OwnT tr te bt B n val L wr) (hb : Below wr.heap.size wr w') : OwnT tr te bt B n val L w' := ⟨h.tb.keep hb, fun k hk => own_keep (h.row k hk) hb, h.dis, h.lt⟩
theorem OwnT.grown {row : Option Nat} (h : OwnT tr te bt B n val L wr) (hg : wr.grownBy w' row) (hr : ∀ k, row = some k → k ≠ bt ∧ ∀ i, i < n → (val i).ownBlock ≠ some k) : OwnT tr te bt B n val L w' := by
  refine ⟨h.tb.grown hg (fun e => (hr bt e).1 rfl), fun k hk => own_blk (h.row k hk) fun g hgk => ?_, h.dis, h.lt⟩
  exact hg.block g ((h.row k hk).lt g hgk).2 (fun e => (hr g e.symm).2 k hk hgk)
theorem OwnT.start (w : World) (hb : bt = w.heap.size) (hB : bt < B) : OwnT tr te bt B n (fun _ => .slice none 0 0) (fun _ => []) (w.alloc (.cells (madeCells #[.slice none 0 0] n) tr)) :=
  ⟨vrow_new w _ _ n hb, fun _ _ => World.ownsRow_nil _ _ _ _, fun _ _ _ _ _ g h => (by cases h), hB⟩
theorem OwnT.app (h : OwnT tr te bt B n val L wr) {t : Nat} (ht : t < n) {v' : Value} {s : Int} (ho : w'.ownsRow B te 1 v' ((L t).length + 1) (ints (L t) ++ [.int .i64 s])) (hg : wr.grownBy w' (val t).ownBlock)
    (hat : v'.ownBlock = (val t).ownBlock ∨ ∃ k, v'.ownBlock = some k ∧ wr.heap.size ≤ k) :
    w'.cell? ⟨bt, t, none⟩ = some (val t) ∧ w'.frozen? ⟨bt, t, none⟩ = false ∧ OwnT tr te bt B n (fun k => if k = t then v' else val k) (fun k => if k = t then L t ++ [s] else L k) (w'.setCell ⟨bt, t, none⟩ v') := by
  obtain ⟨h1, h2, h3, h4⟩ := h
  have hlt := (h2 t ht).lt
  have ht1 : Vrow tr bt n val w' := h1.grown hg (fun e => by have := (hlt bt e).1; omega)
  have hne : ∀ k g, k < n → (if k = t then v' else val k).ownBlock = some g → g ≠ bt := by
    intro k g hk e
    by_cases e1 : k = t
    · rw [if_pos e1] at e
      have := (ho.lt g e).1; omega
    · rw [if_neg e1] at e
      have := ((h2 k hk).lt g e).1; omega
  refine ⟨ht1.cell ht, ht1.free t, ht1.set ht (fun k _ => rfl), fun k hk => ?_, fun k k' hk hk' hkk g hgk hgk' => ?_, h4⟩
  · by_cases e : k = t
    · subst e
      simp only [if_true]
      refine own_blk (w := w') (by rw [ints_append, List.length_append]; exact ho) fun g hgk => ?_
      exact Below.heap_setCell _ _ _ _ (hne k g hk (by rw [if_pos rfl]; exact hgk))
    · simp only [e, if_false]
      refine own_blk (w := wr) (h2 k hk) fun g hgk => ?_
      have h5 := hne k g hk (by rw [if_neg e]; exact hgk)
      have h6 := (h2 k hk).lt g hgk
      have h7 : (val t).ownBlock ≠ some g := fun e2 => h3 k t hk ht e g hgk e2
      have h8 := hg.block g h6.2 (fun e2 => h7 e2.symm)
      rw [← h8]
      exact Below.heap_setCell _ _ _ _ h5
  · have hq : ∀ j, j < n → j ≠ t → (val j).ownBlock ≠ v'.ownBlock ∨ v'.ownBlock = none := by
      intro j hj hjt
      rcases hat with e | ⟨q, e, hq⟩
      · cases hv : v'.ownBlock with
        | none => exact .inr rfl
        | some g' =>
          refine .inl fun e2 => ?_
          rw [hv] at e
          exact h3 j t hj ht hjt g' e2 e.symm
      · rw [e]
        refine .inl fun e2 => ?_
        have := ((h2 j hj).lt q e2).2
        omega
    by_cases e1 : k = t <;> by_cases e2 : k' = t <;> simp only [e1, e2, if_true, if_false] at hgk hgk'
    · exact hkk (by rw [e1, e2])
    · rcases hq k' hk' e2 with h | h
      · exact h (by rw [hgk, hgk'])
      · rw [h] at hgk; cases hgk
    · rcases hq k hk e1 with h | h
      · exact h (by rw [hgk, hgk'])
      · rw [h] at hgk'; cases hgk'
    · exact h3 k k' hk hk' hkk g hgk hgk'
end
end Go.Proofs.YtfocooehnmpndaaGreat
namespace Go.Proofs.YtfocooehnmpndaaGreat
open Go.RowKit
namespace Dm
open At (Ref worth worthL enodes refsS inM)
theorem elIntsA : ElemT Tryz.prog 32 40 1 24 := ElemT.mk' (z := .slice none 0 0) (by kernel_rfl) (by kernel_rfl) rfl (by decide)
theorem own_keeps {C : Nat → Prop} {w w' : World} {B : Nat} {e : TypeId} {s : Nat} {v : Value} {n : Nat} {xs : List Value} (h : w.ownsRow B e s v n xs) (hk : Keeps C w w') (hC : ∀ k, B ≤ k → ¬ C k) : w'.ownsRow B e s v n xs :=
  own_blk h fun g hg => hk.block g (h.lt g hg).2 (hC g (h.lt g hg).1)
theorem rowD_keeps {C S : Nat → Prop} {B : Nat} {e : TypeId} {s : Nat} {ds : List D} {v : Value} {w w' : World} (h : RowD S B e s ds v w) (hk : Keeps C w w') (hC : ∀ k, B ≤ k → ¬ C k) (hS : ∀ k, S k → ¬ C k) : RowD S B e s ds v w' := by
  obtain ⟨⟨xs, h1, h2⟩, h3⟩ := h
  exact ⟨⟨xs, own_keeps h1 hk hC, RdAll.keep (fun k hk1 hlt => ⟨hk1, hk.block k hlt (hS k hk1.1)⟩) _ _ h2⟩, Nat.le_trans h3 hk.size⟩
theorem GetM.grown {l : List Inst} {Bd vb sb : Nat} {X : GetS} {w w' : World} {row : Option Nat} (h : GetM l Bd vb sb X w) (hg : w.grownBy w' row) (h1 : row ≠ some vb) (h2 : row ≠ some sb) : GetM l Bd vb sb X w' := by
  obtain ⟨⟨m, ⟨D, a1, a2⟩, a3⟩, ⟨k, ⟨E, b1, b2⟩, b3⟩⟩ := h
  exact ⟨⟨m, ⟨D, ownsMap_sameU a1 (hg.block sb a1.lt (fun e => h2 e.symm)), a2⟩, a3⟩, ⟨k, ⟨E, ownsMap_sameU b1 (hg.block vb b1.lt (fun e => h1 e.symm)), b2⟩, b3⟩⟩
theorem keeps_own {C : Nat → Prop} {w w1 w2 : World} {row : Option Nat} (h : Keeps C w w1) (hg : w1.grownBy w2 row) (hr : ∀ k, row = some k → w.heap.size ≤ k) : Keeps C w w2 :=
  ⟨hg.os.trans h.os, hg.tape.trans h.tape, hg.output.trans h.output, Nat.le_trans h.size hg.size, fun j hj hn => (hg.block j (Nat.lt_of_lt_of_le hj h.size) (fun e => by have := hr j e.symm; omega)).trans (h.block j hj hn)⟩
structure TaS (g : Gram) (s : At.Sys) (L : List Nd) (Bd vb sb : Nat) (W : World) (n : Nat) (Y : GetS) (wr : World) : Prop where
  inv : GetI s L (fun j => j ∈ allI g s L) (fun _ => False) Y
  mem : GetM (allI g s L) Bd vb sb Y wr
  keep : Keeps (CT vb sb) W wr
  has : hasN g s L n
structure TaR (g : Gram) (s : At.Sys) (L : List Nd) (Bd vb sb : Nat) (w6 : World) (n : Nat) (l : List Nat) (v : Value) (Y : GetS) (wr : World) : Prop where
  inv : GetI s L (fun j => j ∈ allI g s L) (fun _ => False) Y
  mem : GetM (allI g s L) Bd vb sb Y wr
  keep : Keeps (CT vb sb) w6 wr
  own : wr.ownsRow w6.heap.size 3 1 v l.length (ints (l.map fun a => valI s L (n, a)))
  has : ∀ a ∈ l, ∃ v, Vl s L (n, a) v
end Dm
end Go.Proofs.YtfocooehnmpndaaGreat
namespace Go.Proofs.YtfocooehnmpndaaGreat
open Go.RowKit
namespace Dm
theorem own_typedN {w : World} {B : Nat} {e : TypeId} {s : Nat} {v : Value} {n : Nat} {xs : List Value} (h : w.ownsRow B e s v n xs) {g : Nat} (hg : v.ownBlock = some g) : ∃ cur, w.heap[g]? = some (.cells cur e (0, 0)) := by
  rcases h.2 with ⟨h2, _⟩ | ⟨g', cap, cur, rfl, _, hh, _⟩
  · rw [h2] at hg; cases hg
  · cases hg
    exact ⟨cur, hh⟩
theorem own_setN {w : World} {B : Nat} {e : TypeId} {size : Nat} {g n cap : Nat} {xs : List Value} (h : w.ownsRow B e size (.slice (some ⟨g, 0, none⟩) n cap) n xs) (j : Nat) (u : Value) :
    (w.setCell ⟨g, j, none⟩ u).ownsRow B e size (.slice (some ⟨g, 0, none⟩) n cap) n (xs.set j u) := by
  obtain ⟨hl, h⟩ := h
  refine ⟨by simpa using hl, ?_⟩
  rcases h with ⟨h, _⟩ | ⟨g', cap', cur, hv, hg, hh, h1, h2, h3, h4⟩
  · cases h
  · cases hv
    refine .inr ⟨g, cap, cur.setIfInBounds j u, rfl, hg, bx_set hh j u, h1, h2, by simpa using h3, ?_⟩
    rw [← h4, Array.toList_setIfInBounds, List.take_set]
theorem own_cellN {w : World} {B : Nat} {e : TypeId} {size : Nat} {g n cap : Nat} {xs : List Value} (h : w.ownsRow B e size (.slice (some ⟨g, 0, none⟩) n cap) n xs) {j : Nat} (hj : j < xs.length) :
    w.cell? ⟨g, j, none⟩ = some xs[j] ∧ w.frozen? ⟨g, j, none⟩ = false := by
  obtain ⟨hl, h⟩ := h
  rcases h with ⟨h, _⟩ | ⟨g', cap', cur, hv, hg, hh, h1, h2, h3, h4⟩
  · cases h
  · cases hv
    refine ⟨?_, by simp [World.frozen?, hh]⟩
    simp only [World.cell?, hh]
    have hjn : j < n * size := by rw [← hl]; exact hj
    have e1 : xs[j]? = cur[j]? := by
      rw [← h4, List.getElem?_take_of_lt hjn, Array.getElem?_toList]
    rw [← e1, List.getElem?_eq_getElem hj]
    rfl
theorem flatCongr {f g : Nat → List Value} : ∀ (l : List Nat), (∀ k ∈ l, f k = g k) → l.flatMap f = l.flatMap g
  | [], _ => rfl
  | k :: l, h => by rw [List.flatMap_cons, List.flatMap_cons, h k List.mem_cons_self, flatCongr l fun j hj => h j (List.mem_cons_of_mem _ hj)]
theorem setCell_facts (w : World) (a : Addr) (v : Value) : (w.setCell a v).os = w.os ∧ (w.setCell a v).tape = w.tape ∧ (w.setCell a v).output = w.output := by
  have h := (Below.refl 0 w).setCell (p := a) (Nat.zero_le _) v
  exact ⟨h.os, h.tape, h.output⟩
structure Stq (O O' : Nat → Prop) (w w' : World) : Prop where
  os : w'.os = w.os
  tape : w'.tape = w.tape
  output : w'.output = w.output
  size : w.heap.size ≤ w'.heap.size
  same : ∀ k, k < w.heap.size → ¬ O k → w'.heap[k]? = w.heap[k]?
  own : ∀ k, O' k → O k ∨ w.heap.size ≤ k
section
variable {O O' O2 : Nat → Prop} {w w' w2 : World}
theorem Stq.trans (h : Stq O O' w w') (h2 : Stq O' O2 w' w2) : Stq O O2 w w2 :=
  ⟨h2.os.trans h.os, h2.tape.trans h.tape, h2.output.trans h.output, Nat.le_trans h.size h2.size, fun k hk hn => (h2.same k (Nat.lt_of_lt_of_le hk h.size) (fun e => (h.own k e).elim hn (fun h3 => by omega))).trans (h.same k hk hn), fun k hk => by
    rcases h2.own k hk with h3 | h3
    · exact h.own k h3
    · have := h.size; exact .inr (by omega)⟩
theorem Stq.below (h : Below w.heap.size w w') : Stq O O w w' := ⟨h.os, h.tape, h.output, h.size, fun k hk _ => h.block k hk, fun _ hk => .inl hk⟩
theorem Stq.box (h : Stq O O' w w') {b : Nat} {o : Obj} (hb : w.heap[b]? = some o) (hn : ¬ O b) : w'.heap[b]? = some o ∧ ¬ O' b := by
  have hlt := (Array.getElem?_eq_some_iff.1 hb).1
  exact ⟨(h.same b hlt hn).trans hb, fun e => (h.own b e).elim hn (fun h3 => by omega)⟩
end
def ndC (L : List Nd) (val : Nat → Value) : List Value := (List.range L.length).flatMap fun k => [.int .i64 (ndAt L k).rule, .int .i64 (ndAt L k).up, .int .i64 (ndAt L k).pos, val k]
theorem flat_len4 {f : Nat → List Value} (hf : ∀ k, (f k).length = 4) : ∀ n, ((List.range n).flatMap f).length = n * 4
  | 0 => rfl
  | n + 1 => by rw [List.range_succ, List.flatMap_append, List.length_append, flat_len4 hf n]; simp [hf]; omega
theorem flat_set4 {f : Nat → List Value} (hf : ∀ k, (f k).length = 4) (p : Nat) (v : Value) : ∀ n, p < n → ((List.range n).flatMap f).set (p * 4 + 3) v = (List.range n).flatMap fun k => if k = p then (f p).set 3 v else f k
  | 0, h => by omega
  | n + 1, h => by
    rw [List.range_succ, List.flatMap_append, List.flatMap_append]
    by_cases e : p = n
    · subst e
      rw [List.set_append_right _ _ (by rw [flat_len4 hf]; omega), flat_len4 hf, show p * 4 + 3 - p * 4 = 3 by omega]
      congr 1
      · refine flatCongr _ fun k hk => ?_
        rw [List.mem_range] at hk
        rw [if_neg (by omega)]
      · simp
    · rw [List.set_append_left _ _ (by rw [flat_len4 hf]; omega), flat_set4 hf p v n (by omega)]
      congr 1
      simp only [List.flatMap_cons, List.flatMap_nil, List.append_nil]
      rw [if_neg (fun h => e h.symm)]
theorem ndC_len (L : List Nd) (val : Nat → Value) : (ndC L val).length = L.length * 4 := flat_len4 (fun _ => rfl) _
theorem ndAt_app {L : List Nd} {x : Nd} {k : Nat} : ndAt (L ++ [x]) k = if k < L.length then ndAt L k else if k = L.length then x else ndAt [] 0 := by
  unfold ndAt
  by_cases h : k < L.length
  · rw [if_pos h, List.getElem?_append_left h]
  · rw [if_neg h, List.getElem?_append_right (by omega)]
    by_cases e : k = L.length
    · rw [if_pos e, e, Nat.sub_self]; rfl
    · rw [if_neg e, List.getElem?_eq_none (by simp; omega)]; rfl
theorem ndC_app (L : List Nd) (val : Nat → Value) (x : Nd) (v : Value) : ndC (L ++ [x]) (fun k => if k = L.length then v else val k) = ndC L val ++ [.int .i64 x.rule, .int .i64 x.up, .int .i64 x.pos, v] := by
  unfold ndC
  rw [List.length_append, show L.length + [x].length = L.length + 1 from rfl, List.range_succ, List.flatMap_append]
  congr 1
  · refine flatCongr _ fun k hk => ?_
    rw [List.mem_range] at hk
    rw [ndAt_app, if_pos hk]
    simp only [show ¬ k = L.length by omega, if_false]
  · simp [ndAt_app]
theorem ndAt_addK {L : List Nd} {p n : Nat} (hp : p < L.length) (k : Nat) : ndAt (addK L (p : Int) n) k = if k = p then { ndAt L p with kids := (ndAt L p).kids ++ [(n : Int)] } else ndAt L k := by
  unfold ndAt addK
  rw [if_pos (by omega), Int.toNat_natCast, List.getElem?_modify]
  by_cases e : k = p
  · subst e
    rw [if_pos rfl, List.getElem?_eq_getElem hp]; simp
  · rw [if_neg e]
    simp only [show ¬ p = k from fun h => e h.symm, if_false]
    simp
theorem ndC_set (L : List Nd) (val : Nat → Value) {p n : Nat} (hp : p < L.length) (v : Value) : ndC (addK L (p : Int) n) (fun k => if k = p then v else val k) = (ndC L val).set (p * 4 + 3) v := by
  unfold ndC
  rw [flat_set4 (fun _ => rfl) p v _ hp, addK_len]
  refine flatCongr _ fun k hk => ?_
  rw [ndAt_addK hp]
  by_cases e : k = p
  · subst e
    simp
  · simp [e]
theorem ndAt_get {L : List Nd} {k : Nat} (h : k < L.length) : ndAt L k = L[k] := by unfold ndAt; rw [List.getElem?_eq_getElem h]; rfl
structure Hd where
  c0 : Value
  c1 : Value
  c2 : Value
  c3 : Value
  c4 : Value
  c5 : Value
  c7 : Value
  c8 : Value
  c9 : Value
def Hd.cells (h : Hd) (v : Value) : Array Value := #[h.c0, h.c1, h.c2, h.c3, h.c4, h.c5, v, h.c7, h.c8, h.c9]
structure NB (B tb : Nat) (hd : Hd) (L : List Nd) (vs : Value) (val : Nat → Value) (w : World) : Prop where
  hdr : w.heap[tb]? = some (.cells (hd.cells vs) 132 (0, 0))
  row : w.ownsRow B 137 4 vs L.length (ndC L val)
  kid : ∀ k, k < L.length → w.ownsRow B 3 1 (val k) (ndAt L k).kids.length (ints (ndAt L k).kids)
  dis : ∀ k k', k < L.length → k' < L.length → k ≠ k' → ∀ g, (val k).ownBlock = some g → (val k').ownBlock ≠ some g
  lt : tb < B
  le : B ≤ w.heap.size
def OwN (tb : Nat) (vs : Value) (n : Nat) (val : Nat → Value) (k : Nat) : Prop := k = tb ∨ vs.ownBlock = some k ∨ ∃ i, i < n ∧ (val i).ownBlock = some k
section
variable {B tb : Nat} {hd : Hd} {L : List Nd} {vs : Value} {val : Nat → Value} {w w' : World}
theorem NB.keep (h : NB B tb hd L vs val w) (hb : Below w.heap.size w w') : NB B tb hd L vs val w' :=
  ⟨bx_keep h.hdr hb, own_keep h.row hb, fun k hk => own_keep (h.kid k hk) hb, h.dis, h.lt, Nat.le_trans h.le hb.size⟩
theorem NB.own (h : NB B tb hd L vs val w) {k : Nat} (hk : OwN tb vs L.length val k) : (k = tb ∨ B ≤ k) ∧ k < w.heap.size := by
  rcases hk with rfl | hk | ⟨i, hi, hk⟩
  · exact ⟨.inl rfl, (Array.getElem?_eq_some_iff.1 h.hdr).1⟩
  · have := h.row.lt k hk; exact ⟨.inr this.1, this.2⟩
  · have := (h.kid i hi).lt k hk; exact ⟨.inr this.1, this.2⟩
theorem NB.vs_kid (h : NB B tb hd L vs val w) {i g : Nat} (hi : i < L.length) (hg : vs.ownBlock = some g) : (val i).ownBlock ≠ some g := fun e => by
  obtain ⟨c1, h1⟩ := own_typedN h.row hg
  obtain ⟨c2, h2⟩ := own_typedN (h.kid i hi) e
  rw [h1] at h2
  simp at h2
theorem NB.app (h : NB B tb hd L vs val w) {vs' : Value} {x : Nd} (hx : x.kids = []) (ho : w'.ownsRow B 137 4 vs' (L.length + 1) (ndC L val ++ [.int .i64 x.rule, .int .i64 x.up, .int .i64 x.pos, .slice none 0 0])) (hg : w.grownBy w' vs.ownBlock) (hat : vs'.ownBlock = vs.ownBlock ∨ ∃ k, vs'.ownBlock = some k ∧ w.heap.size ≤ k) :
    w'.cell? ⟨tb, 0 + 6, none⟩ = some vs ∧ w'.frozen? ⟨tb, 0 + 6, none⟩ = false ∧ NB B tb hd (L ++ [x]) vs' (fun k => if k = L.length then .slice none 0 0 else val k) (w'.setCell ⟨tb, 0 + 6, none⟩ vs') ∧
      Stq (OwN tb vs L.length val) (OwN tb vs' (L ++ [x]).length (fun k => if k = L.length then .slice none 0 0 else val k)) w (w'.setCell ⟨tb, 0 + 6, none⟩ vs') := by
  obtain ⟨h1, h2, h3, h4, h5, h6⟩ := h
  have htb : tb < w.heap.size := (Array.getElem?_eq_some_iff.1 h1).1
  have hvs : ∀ k, vs.ownBlock = some k → B ≤ k ∧ k < w.heap.size := h2.lt
  have hh : w'.heap[tb]? = some (.cells (hd.cells vs) 132 (0, 0)) := (hg.block tb htb (fun e => by have := (hvs tb e.symm).1; omega)).trans h1
  have hne : ∀ k, vs'.ownBlock = some k → k ≠ tb := fun k e => by have := (ho.lt k e).1; omega
  have hset : ∀ g, g ≠ tb → (w'.setCell ⟨tb, 0 + 6, none⟩ vs').heap[g]? = w'.heap[g]? := fun g hgt => Below.heap_setCell _ _ _ _ hgt
  have hsz : (w'.setCell ⟨tb, 0 + 6, none⟩ vs').heap.size = w'.heap.size := by simp
  have hkid : ∀ k, k < L.length → ∀ g, (val k).ownBlock = some g → (w'.setCell ⟨tb, 0 + 6, none⟩ vs').heap[g]? = w.heap[g]? := fun k hk g hgk => by
    have h7 := (h3 k hk).lt g hgk
    rw [hset g (by omega)]
    refine hg.block g h7.2 (fun e => ?_)
    obtain ⟨c1, e1⟩ := own_typedN h2 e.symm
    obtain ⟨c2, e2⟩ := own_typedN (h3 k hk) hgk
    rw [e1] at e2
    simp at e2
  refine ⟨by simp [World.cell?, hh, Hd.cells], by simp [World.frozen?, hh], ⟨?_, ?_, fun k hk => ?_, fun k k' hk hk' hkk g hgk hgk' => ?_, h5, ?_⟩, ?_⟩
  · exact bx_set hh 6 vs'
  · rw [ndC_app, List.length_append]
    have e : x = ⟨x.rule, x.up, x.pos, []⟩ := by cases x; simp at hx; simp [hx]
    exact own_blk ho fun g hgk => hset g (hne g hgk)
  · rw [ndAt_app]
    by_cases e : k < L.length
    · simp only [e, if_true, show ¬ k = L.length by omega, if_false]
      exact own_blk (h3 k e) fun g hgk => hkid k e g hgk
    · have e2 : k = L.length := by simp at hk; omega
      subst e2
      simp only [Nat.lt_irrefl, if_false, if_true, hx]
      exact World.ownsRow_nil _ _ _ _
  · by_cases e1 : k = L.length
    · simp [e1, Value.ownBlock] at hgk
    · by_cases e2 : k' = L.length
      · simp [e2, Value.ownBlock] at hgk'
      · simp only [e1, e2, if_false] at hgk hgk'
        simp at hk hk'
        exact h4 k k' (by omega) (by omega) hkk g hgk hgk'
  · rw [hsz]; exact Nat.le_trans h6 hg.size
  · refine ⟨?_, ?_, ?_, by rw [hsz]; exact hg.size, fun k hk hn => ?_, fun k hk => ?_⟩
    · exact (setCell_facts _ _ _).1.trans hg.os
    · exact (setCell_facts _ _ _).2.1.trans hg.tape
    · exact (setCell_facts _ _ _).2.2.trans hg.output
    · rw [hset k (fun e => hn (.inl e))]
      exact hg.block k hk (fun e => hn (.inr (.inl e.symm)))
    · rcases hk with rfl | hk | ⟨i, hi, hk⟩
      · exact .inl (.inl rfl)
      · rcases hat with e | ⟨q, e, hq⟩
        · exact .inl (.inr (.inl (by rw [← e]; exact hk)))
        · rw [e] at hk
          cases hk
          exact .inr hq
      · by_cases e1 : i = L.length
        · simp [e1, Value.ownBlock] at hk
        · simp only [e1, if_false] at hk
          simp at hi
          exact .inl (.inr (.inr ⟨i, by omega, hk⟩))
theorem NB.cells (h : NB B tb hd L vs val w) {p : Nat} (hp : p < L.length) : ∃ nb cap, vs = .slice (some ⟨nb, 0, none⟩) L.length cap ∧ L.length ≤ cap ∧ cap ≤ maxLen ∧ nb < w.heap.size ∧ B ≤ nb ∧ w.cell? ⟨tb, 0 + 6, none⟩ = some vs ∧ w.cell? ⟨nb, p * 4 + 3, none⟩ = some (val p) := by
  obtain ⟨a, cap, rfl, e1, e2⟩ := own_len h.row
  cases a with
  | none =>
    rcases h.row.2 with ⟨h2, h3⟩ | ⟨g, cap', cur, h2, _⟩
    · omega
    · cases h2
  | some ad =>
    rcases h.row.2 with ⟨h2, h3⟩ | ⟨g, cap', cur, h2, hg, hh, _⟩
    · cases h2
    · cases h2
      have hj : p * 4 + 3 < (ndC L val).length := by rw [ndC_len]; omega
      have hc := (own_cellN h.row hj).1
      refine ⟨g, _, rfl, e1, e2, (Array.getElem?_eq_some_iff.1 hh).1, hg, by simp [World.cell?, h.hdr, Hd.cells], ?_⟩
      rw [hc]
      have h4 : (ndC L val)[p * 4 + 3]? = some (val p) := by
        have h5 := congrArg (fun l => l[p * 4 + 3]?) (ndC_set L val (n := 0) hp (val p))
        rw [List.getElem?_set_self hj] at h5
        have h6 : ndC (addK L (p : Int) 0) (fun k => if k = p then val p else val k) = ndC L val := by
          unfold ndC
          rw [addK_len]
          refine flatCongr _ fun k hk => ?_
          rw [ndAt_addK hp]
          by_cases e : k = p
          · subst e; simp only [if_true]
          · simp only [e, if_false]
        rw [h6] at h5
        exact h5
      rw [List.getElem?_eq_getElem hj] at h4
      rw [Option.some.inj h4]
theorem NB.addk (h : NB B tb hd L vs val w) {p n : Nat} (hp : p < L.length) {v' : Value} (ho : w'.ownsRow B 3 1 v' ((ndAt L p).kids.length + 1) (ints (ndAt L p).kids ++ [.int .i64 n])) (hg : w.grownBy w' (val p).ownBlock) (hat : v'.ownBlock = (val p).ownBlock ∨ ∃ k, v'.ownBlock = some k ∧ w.heap.size ≤ k) {nb cap : Nat} (hvs : vs = .slice (some ⟨nb, 0, none⟩) L.length cap) :
    w'.cell? ⟨tb, 0 + 6, none⟩ = some vs ∧ w'.cell? ⟨nb, p * 4 + 3, none⟩ = some (val p) ∧ w'.frozen? ⟨nb, p * 4 + 3, none⟩ = false ∧ NB B tb hd (addK L (p : Int) n) vs (fun k => if k = p then v' else val k) (w'.setCell ⟨nb, p * 4 + 3, none⟩ v') ∧
      Stq (OwN tb vs L.length val) (OwN tb vs (addK L (p : Int) n).length (fun k => if k = p then v' else val k)) w (w'.setCell ⟨nb, p * 4 + 3, none⟩ v') := by
  obtain ⟨nb', cap', e0, -, -, hnl, hnB, -, hcp⟩ := h.cells hp
  rw [hvs] at e0
  cases e0
  subst hvs
  have hvk := fun i hi (g : Nat) hg' => h.vs_kid (i := i) (g := g) hi hg'
  obtain ⟨h1, h2, h3, h4, h5, h6⟩ := h
  have htb : tb < w.heap.size := (Array.getElem?_eq_some_iff.1 h1).1
  have hkp := (h3 p hp).lt
  have hh : w'.heap[tb]? = some (.cells (hd.cells (.slice (some ⟨nb, 0, none⟩) L.length cap)) 132 (0, 0)) := (hg.block tb htb (fun e => by have := (hkp tb e.symm).1; omega)).trans h1
  have hnbk : ∀ i, i < L.length → (val i).ownBlock ≠ some nb := fun i hi => hvk i hi nb rfl
  have hnb : w'.heap[nb]? = w.heap[nb]? := hg.block nb hnl (fun e => hnbk p hp e.symm)
  have hrow : w'.ownsRow B 137 4 (.slice (some ⟨nb, 0, none⟩) L.length cap) L.length (ndC L val) := own_blk h2 fun g hgk => by
    simp [Value.ownBlock] at hgk
    subst hgk
    exact hnb
  have hnv : ∀ k, v'.ownBlock = some k → k ≠ nb := fun k e => by
    rcases hat with h7 | ⟨q, h7, hq⟩
    · rw [h7] at e; rintro rfl; exact hnbk p hp e
    · rw [h7] at e; cases e; omega
  have hset : ∀ g, g ≠ nb → (w'.setCell ⟨nb, p * 4 + 3, none⟩ v').heap[g]? = w'.heap[g]? := fun g hgt => Below.heap_setCell _ _ _ _ hgt
  have hsz : (w'.setCell ⟨nb, p * 4 + 3, none⟩ v').heap.size = w'.heap.size := by simp
  have hj : p * 4 + 3 < (ndC L val).length := by rw [ndC_len]; omega
  have hcf := own_cellN hrow hj
  refine ⟨by simp [World.cell?, hh, Hd.cells], ?_, ?_, ⟨?_, ?_, fun k hk => ?_, fun k k' hk hk' hkk g hgk hgk' => ?_, h5, ?_⟩, ?_⟩
  · rw [← hcp]
    simp only [World.cell?, hnb]
  · exact hcf.2
  · rw [hset tb (by omega)]; exact hh
  · rw [addK_len, ndC_set L val hp]
    exact own_setN hrow _ _
  · rw [addK_len] at hk
    rw [ndAt_addK hp]
    by_cases e : k = p
    · subst e
      simp only [if_true]
      refine own_blk (w := w') (by rw [ints_append, List.length_append]; exact ho) fun g hgk => hset g (hnv g hgk)
    · simp only [e, if_false]
      refine own_blk (w := w) (h3 k hk) fun g hgk => ?_
      rw [hset g (fun e2 => hnbk k hk (by rw [← e2]; exact hgk))]
      exact hg.block g ((h3 k hk).lt g hgk).2 (fun e2 => h4 k p hk hp e g hgk e2.symm)
  · rw [addK_len] at hk hk'
    have hq : ∀ j, j < L.length → j ≠ p → ∀ g, (val j).ownBlock = some g → v'.ownBlock ≠ some g := by
      intro j hj hjt g e1 e2
      rcases hat with e | ⟨q, e, hq⟩
      · rw [e] at e2
        exact h4 j p hj hp hjt g e1 e2
      · rw [e] at e2
        cases e2
        have := ((h3 j hj).lt _ e1).2
        omega
    by_cases e1 : k = p <;> by_cases e2 : k' = p <;> simp only [e1, e2, if_true, if_false] at hgk hgk'
    · exact hkk (by rw [e1, e2])
    · exact hq k' hk' e2 g hgk' hgk
    · exact hq k hk e1 g hgk hgk'
    · exact h4 k k' hk hk' hkk g hgk hgk'
  · rw [hsz]; exact Nat.le_trans h6 hg.size
  · refine ⟨?_, ?_, ?_, by rw [hsz]; exact hg.size, fun k hk hn => ?_, fun k hk => ?_⟩
    · exact (setCell_facts _ _ _).1.trans hg.os
    · exact (setCell_facts _ _ _).2.1.trans hg.tape
    · exact (setCell_facts _ _ _).2.2.trans hg.output
    · rw [hset k (fun e => hn (.inr (.inl (by rw [e]; rfl))))]
      exact hg.block k hk (fun e => hn (.inr (.inr ⟨p, hp, e.symm⟩)))
    · rw [addK_len] at hk
      rcases hk with rfl | hk | ⟨i, hi, hk⟩
      · exact .inl (.inl rfl)
      · exact .inl (.inr (.inl hk))
      · by_cases e1 : i = p
        · simp only [e1, if_true] at hk
          rcases hat with e | ⟨q, e, hq⟩
          · exact .inl (.inr (.inr ⟨p, hp, by rw [← e]; exact hk⟩))
          · rw [e] at hk
            cases hk
            exact .inr hq
        · simp only [e1, if_false] at hk
          exact .inl (.inr (.inr ⟨i, hi, hk⟩))
theorem NB.rd (h : NB B tb hd L vs val w) : Rd (fun k => B ≤ k) w (.sl (L.map Nd.d)) [vs] := by
  refine rd_of_own h.row ?_ (by simp) (fun k e => (h.row.lt k e).1)
  have key : ∀ m, m ≤ L.length → RdAll (fun k => B ≤ k) w ((L.take m).map Nd.d) ((List.range m).flatMap fun k => [.int .i64 (ndAt L k).rule, .int .i64 (ndAt L k).up, .int .i64 (ndAt L k).pos, val k]) := by
    intro m
    induction m with
    | zero => intro _; simp [RdAll]
    | succ m ih =>
      intro hm
      have hml : m < L.length := hm
      rw [List.take_succ_eq_append_getElem hml, List.map_append, List.range_succ, List.flatMap_append]
      refine RdAll.append (ih (by omega)) (RdAll.one ?_)
      have hk := h.kid m hml
      have hr : Rd (fun k => B ≤ k) w (.sl (L[m].kids.map D.int)) [val m] := by
        rw [← ndAt_get hml]
        exact rd_of_own hk ((rdAll_ints _ _).2 rfl) (by simp) (fun k e => (hk.lt k e).1)
      simp only [List.flatMap_cons, List.flatMap_nil, List.append_nil]
      refine ⟨[_], _, rfl, by simp [Rd, ndAt_get hml], [_], _, rfl, by simp [Rd, ndAt_get hml], [_], _, rfl, by simp [Rd, ndAt_get hml], ?_⟩
      exact RdAll.one hr
  have h1 := key L.length (Nat.le_refl _)
  rw [List.take_length] at h1
  exact h1
end
end Dm
end Go.Proofs.YtfocooehnmpndaaGreat
namespace Go.Proofs.YtfocooehnmpndaaGreat
open Go.RowKit
section
variable {P : Program} {ops : Array Oper} {Q : Exit → Act → World → Prop} {md : Region.Mode} {S : World → Prop} {n : Nat}
def waitsB (md : Region.Mode) (ops : Array Oper) (n i : Nat) : Bool := match ops[n]? with
  | some o => o.after.any fun e => Region.binds md e && e.on == i
  | none => false
theorem waits_not {i n : Nat} {listed : Array Bool} (hw : waitsB md ops n i = true) (hun : listed.getD i false = false) : n ∉ Region.ready md ops listed := by
  intro hr
  obtain ⟨_, o, ho, hall⟩ := mem_ready.1 hr
  unfold waitsB at hw
  rw [ho] at hw
  simp only at hw
  obtain ⟨e, he, h1⟩ := Array.any_eq_true'.1 hw
  rw [Bool.and_eq_true] at h1
  have := hall e he h1.1
  rw [show e.on = i by simpa using h1.2, hun] at this
  cases this
theorem wpU_firstM {i : Nat} {oi : Oper} {v : Value} (hi : ops[i]? = some oi) (hsel : ∀ (j : Nat) (o : Oper) cs b, ops[j]? = some o → o.op ≠ .select cs b)
    (hQ : ∀ c a w, Q (.panic c) (a.put oi.dst v) w → Q (.panic c) a w) (hin : i ≠ n) (hw : waitsB md ops n i = true) :
    ∀ (f : Nat) (listed : Array Bool) (a : Act) (w : World), listed.getD n true = false →
      (∀ j oj, ops[j]? = some oj → j ≠ i → listed.getD j true = false → (∀ e ∈ oj.after, Region.binds md e = true → e.on ≠ i) → oi.apart ops oj = true) →
      i ∈ Region.ready md ops listed → YieldsIf P ops S oi v a → S w →
      wpU P md ops Q S n f (listed.setIfInBounds i true) (a.put oi.dst v) w → wpU P md ops Q S n (f + 1) listed a w := by
  intro f
  induction f with
  | zero =>
    intro listed a w _ _ hr hy hS H
    refine ⟨fun h => (by rw [h] at hr; cases hr), fun j hj => ?_⟩
    by_cases hji : j = i
    · subst hji; exact hy.wpOp hi hS ⟨fun _ => hS, H⟩
    · have h1 := ready_mono hj hji
      rw [H.1] at h1
      cases h1
  | succ f ih =>
    intro listed a w hnl hfree hr hy hS H
    have hun := (mem_ready.1 hr).1
    refine ⟨fun h => (by rw [h] at hr; cases hr), fun j hj => ?_⟩
    by_cases hji : j = i
    · subst hji; exact hy.wpOp hi hS ⟨fun _ => hS, H⟩
    · have hjn : j ≠ n := fun e => waits_not hw (getD_both hun) (e ▸ hj)
      have h1 := H.2 j (ready_mono hj hji)
      obtain ⟨hjun, oj, hoj, hall⟩ := mem_ready.1 hj
      have hnot : ∀ e ∈ oj.after, Region.binds md e = true → e.on ≠ i := fun e he hb heq => by
        have h1 := hall e he hb
        rw [heq, getD_both hun] at h1
        cases h1
      have h2 := wpOp_putIf hoj (hfree j oj hoj hji hjun hnot) (fun cs b => hsel i oi cs b hi) (fun cs b => hsel j oj cs b hoj) hQ hy h1
      have hfree' : ∀ k ok, ops[k]? = some ok → k ≠ i → (listed.setIfInBounds j true).getD k true = false →
          (∀ e ∈ ok.after, Region.binds md e = true → e.on ≠ i) → oi.apart ops ok = true := fun k ok hk hki hun hno => by
        refine hfree k ok hk hki ?_ hno
        by_cases hjk : j = k
        · subst hjk; exact hjun
        · rw [getD_set_ne true hjk] at hun; exact hun
      have hnn : ((listed.setIfInBounds i true).setIfInBounds j true).getD n true = false := by
        rw [getD_set_ne true hjn, getD_set_ne true hin]
        exact hnl
      have hn2 : (listed.setIfInBounds j true).getD n true = false := by
        rw [getD_set_ne true hjn]; exact hnl
      refine wpOp_mono (fun a' w' h3 => ⟨fun _ => h3.2.1 hnn, ih (listed.setIfInBounds j true) a' w' hn2 hfree' (ready_mono hr (Ne.symm hji)) h3.1 (h3.2.1 hnn) ?_⟩) h2
      rw [Array.setIfInBounds_comm _ _ hji]
      exact h3.2.2
theorem wpU_takeM {i : Nat} {oi : Oper} {v : Value} {f : Nat} {listed : Array Bool} {a : Act} {w : World} (hi : ops[i]? = some oi) (hin : (i == n) = false) (hw : waitsB md ops n i = true) (hnl : listed.getD n true = false)
    (hsel : Region.noSelect ops = true) (hf : Region.free md ops listed i = true) (hr : (Region.ready md ops listed).contains i = true)
    (hQ : ∀ c a w, Q (.panic c) (a.put oi.dst v) w → Q (.panic c) a w) (hy : YieldsIf P ops S oi v a) (hS : S w)
    (h : wpU P md ops Q S n f (listed.setIfInBounds i true) (a.put oi.dst v) w) : wpU P md ops Q S n (f + 1) listed a w :=
  wpU_firstM hi (Region.noSelect_spec hsel) hQ (by simpa using hin) hw f listed a w hnl (Region.free_spec hi hf) (by simpa using hr) hy hS h
theorem wpU_firstF {i : Nat} {oi : Oper} {v : Value} (hi : ops[i]? = some oi) (hsel : ∀ (j : Nat) (o : Oper) cs b, ops[j]? = some o → o.op ≠ .select cs b)
    (hQ : ∀ c a w, Q (.panic c) (a.put oi.dst v) w → Q (.panic c) a w) (hin : i ≠ n) :
    ∀ (f : Nat) (listed : Array Bool) (a : Act) (w : World),
      (∀ j oj, ops[j]? = some oj → j ≠ i → listed.getD j true = false → (∀ e ∈ oj.after, Region.binds md e = true → e.on ≠ i) → oi.apart ops oj = true) →
      i ∈ Region.ready md ops listed → YieldsIf P ops (fun _ => True) oi v a → (listed.getD n true = false → S w) →
      wpU P md ops Q S n f (listed.setIfInBounds i true) (a.put oi.dst v) w → wpU P md ops Q S n (f + 1) listed a w := by
  intro f
  induction f with
  | zero =>
    intro listed a w _ hr hy hS H
    refine ⟨fun h => (by rw [h] at hr; cases hr), fun j hj => ?_⟩
    by_cases hji : j = i
    · subst hji; exact hy.wpOp hi trivial ⟨fun h => hS (by rw [getD_set_ne true hin] at h; exact h), H⟩
    · have h1 := ready_mono hj hji
      rw [H.1] at h1
      cases h1
  | succ f ih =>
    intro listed a w hfree hr hy hS H
    have hun := (mem_ready.1 hr).1
    refine ⟨fun h => (by rw [h] at hr; cases hr), fun j hj => ?_⟩
    by_cases hji : j = i
    · subst hji; exact hy.wpOp hi trivial ⟨fun h => hS (by rw [getD_set_ne true hin] at h; exact h), H⟩
    · have h1 := H.2 j (ready_mono hj hji)
      obtain ⟨hjun, oj, hoj, hall⟩ := mem_ready.1 hj
      have hnot : ∀ e ∈ oj.after, Region.binds md e = true → e.on ≠ i := fun e he hb heq => by
        have h1 := hall e he hb
        rw [heq, getD_both hun] at h1
        cases h1
      have h2 := wpOp_putIf hoj (hfree j oj hoj hji hjun hnot) (fun cs b => hsel i oi cs b hi) (fun cs b => hsel j oj cs b hoj) hQ hy h1
      have hfree' : ∀ k ok, ops[k]? = some ok → k ≠ i → (listed.setIfInBounds j true).getD k true = false →
          (∀ e ∈ ok.after, Region.binds md e = true → e.on ≠ i) → oi.apart ops ok = true := fun k ok hk hki hun hno => by
        refine hfree k ok hk hki ?_ hno
        by_cases hjk : j = k
        · subst hjk; exact hjun
        · rw [getD_set_ne true hjk] at hun; exact hun
      refine wpOp_mono (fun a' w' h3 => ?_) h2
      have hSS : (listed.setIfInBounds j true).getD n true = false → S w' := fun h => h3.2.1 (by
        by_cases hjn : j = n
        · subst hjn
          rw [Array.setIfInBounds_comm _ _ hin, getD_set_ne true hin]
          exact h
        · rw [getD_set_ne true hjn] at h
          rw [getD_set_ne true hjn, getD_set_ne true hin]; exact h)
      refine ⟨hSS, ih (listed.setIfInBounds j true) a' w' hfree' (ready_mono hr (Ne.symm hji)) h3.1 hSS ?_⟩
      rw [Array.setIfInBounds_comm _ _ hji]
      exact h3.2.2
theorem wpU_takeF {i : Nat} {oi : Oper} {v : Value} {f : Nat} {listed : Array Bool} {a : Act} {w : World} (hi : ops[i]? = some oi) (hin : (i == n) = false)
    (hsel : Region.noSelect ops = true) (hf : Region.free md ops listed i = true) (hr : (Region.ready md ops listed).contains i = true)
    (hQ : ∀ c a w, Q (.panic c) (a.put oi.dst v) w → Q (.panic c) a w) (hy : YieldsIf P ops (fun _ => True) oi v a) (hS : listed.getD n true = false → S w)
    (h : wpU P md ops Q S n f (listed.setIfInBounds i true) (a.put oi.dst v) w) : wpU P md ops Q S n (f + 1) listed a w :=
  wpU_firstF hi (Region.noSelect_spec hsel) hQ (by simpa using hin) f listed a w (Region.free_spec hi hf) (by simpa using hr) hy hS h
theorem wp_region_M {id : Nat} {a : Act} {w : World} (n : Nat) (hm : P.follows .mixedOrders = true)
    (h : wpU P .any ops Q S n ops.size (Array.replicate ops.size false) a w.drew) : (Code.region id ops true).wp P Q a w :=
  wp_region_any hm (wpAny_of_U _ _ _ _ h)
end
end Go.Proofs.YtfocooehnmpndaaGreat
