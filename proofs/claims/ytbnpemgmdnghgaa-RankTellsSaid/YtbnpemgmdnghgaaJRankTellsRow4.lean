/- census.Counter.Of and List. census.Counter.Of. A table in memory: rows of one-cell values, made from the first to the last. The closing of a table of edges in place; the answers written down. Plain: the passes over the table of lengths end; the counter's table written to. -/
import Derived.Test.YtbnpemgmdnghgaaJRankTellsRow3
import Derived.Deep.RegionHeld3
import Derived.StillTailTactics
import Derived.Lib.MinMax
import Derived.Test.YtbnpemgmdnghgaaJRankTellsRow2
import Derived.Test.YtbnpemgmdnghgaaJRankTellsRow1
namespace Go.Proofs.Ytbnpemgmdnghgaa
open Go.RowKit
namespace Cs

/-- what counting leaves alone -/
structure Fr (N : Nat) (d : Cid) (W W' : World) : Prop where
  os : W'.os = W.os
  tape : W'.tape = W.tape
  output : W'.output = W.output
  size : W.heap.size ≤ W'.heap.size
  block : ∀ k, k < W.heap.size → (∀ a, a < N → d.rc a ≠ k) → W'.heap[k]? = W.heap[k]?
theorem Fr.refl (N : Nat) (d : Cid) (W : World) : Fr N d W W := ⟨rfl, rfl, rfl, Nat.le_refl _, fun _ _ _ => rfl⟩
theorem Fr.trans {N : Nat} {d : Cid} {a b c : World} (h : Fr N d a b) (k : Fr N d b c) : Fr N d a c :=
  ⟨k.os.trans h.os, k.tape.trans h.tape, k.output.trans h.output, Nat.le_trans h.size k.size, fun i hi hn => (k.block i (Nat.lt_of_lt_of_le hi h.size) hn).trans (h.block i hi hn)⟩
theorem Fr.of {N : Nat} {d : Cid} {W W' : World} (h : Below W.heap.size W W') : Fr N d W W' := ⟨h.os, h.tape, h.output, h.size, fun k hk _ => h.block k hk⟩
theorem Fr.set {N : Nat} {d : Cid} {a k : Nat} (W : World) (ha : a < N) (v : Value) : Fr N d W (W.setCell ⟨d.rc a, k, none⟩ v) :=
  ⟨rfl, rfl, rfl, by simp [World.setCell], fun j _ hn => Below.heap_setCell _ _ _ _ (fun e => hn a ha (by rw [e]))⟩
theorem Fr.below {N : Nat} {d : Cid} {W W' : World} {B : Nat} (h : Fr N d W W') (hB : B ≤ W.heap.size) (hr : ∀ a, a < N → B ≤ d.rc a) : Below B W W' :=
  ⟨h.os, h.tape, h.output, h.size, fun k hk => h.block k (Nat.lt_of_lt_of_le hk hB) (fun a ha e => by have := hr a ha; omega)⟩
theorem Fr.bx {N : Nat} {d : Cid} {W W' : World} {b : Nat} {o : Obj} (h : Fr N d W W') (hb : W.heap[b]? = some o) (hn : ∀ a, a < N → d.rc a ≠ b) : W'.heap[b]? = some o :=
  (h.block b (Array.getElem?_eq_some_iff.1 hb).1 hn).trans hb
/-- the counter between two calls -/
structure CS (g : Gram) (vr : Value) (N n : Nat) (d : Cid) (S M : Nat → Nat → Bool) (V : Nat → Nat → Int) (w0 : World) (C : Nat → Nat → Int) (W : World) : Prop where
  ci : CI g vr N n d S M C W
  cv : ∀ a k, a < N → k ≤ n → C a k = -1 ∨ C a k = V a k
  bel : Below w0.heap.size w0 W
  lo : w0.heap.size ≤ d.b1
section
variable {g : Gram} {vr : Value} {N n : Nat} {d : Cid} {S M : Nat → Nat → Bool} {V : Nat → Nat → Int} {w0 : World} {C : Nat → Nat → Int} {W W' : World}
theorem CS.keep (h : CS g vr N n d S M V w0 C W) (hb : Below W.heap.size W W') : CS g vr N n d S M V w0 C W' := ⟨h.ci.keep hb, h.cv, h.bel.trans (hb.mono h.bel.size), h.lo⟩
theorem CS.rc (h : CS g vr N n d S M V w0 C W) : ∀ a, a < N → w0.heap.size ≤ d.rc a ∧ d.rc a < d.cb := fun a ha => by
  have h1 := h.ci.cnt.ne a ha
  have h2 := h.ci.some'.pl
  have h3 := h.ci.many.pl
  have h4 := h.ci.le
  have h5 := h.lo
  omega
theorem CS.big (h : CS g vr N n d S M V w0 C W) {b : Nat} (hb : W.heap.size ≤ b) : ∀ a, a < N → d.rc a ≠ b := fun a ha e => by
  have := (h.rc a ha).2
  have := h.ci.lt
  omega
/-- a count is kept -/
theorem CS.store (h : CS g vr N n d S M V w0 C W) {a k : Nat} (ha : a < N) (hk : k ≤ n) : ∃ C', CS g vr N n d S M V w0 C' (W.setCell ⟨d.rc a, k, none⟩ (.int .i64 (V a k))) := by
  refine ⟨fun b l => if b = a ∧ l = k then V a k else C b l, ?_, fun b l hb hl => ?_, ?_, h.lo⟩
  · obtain ⟨⟨T, h1⟩, h2, h3, h4, h5⟩ := h.ci
    have hr := h.rc a ha
    have hne := h4.ne a ha
    have p2 := h2.pl
    have p3 := h3.pl
    refine ⟨⟨T, bx_other h1 (by omega) _ _⟩, h2.other fun j j1 j2 => Below.heap_setCell _ _ _ _ (by show j ≠ d.rc a; omega), h3.other fun j j1 j2 => Below.heap_setCell _ _ _ _ (by show j ≠ d.rc a; omega), ?_, h5⟩
    refine (h4.set ha (show k < n + 1 by omega) (.int .i64 (V a k))).eq fun b l _ _ => ?_
    show (if b = a ∧ l = k then _ else _) = _
    split <;> rfl
  · by_cases e : b = a ∧ l = k
    · rw [if_pos e, e.1, e.2]; exact .inr rfl
    · rw [if_neg e]; exact h.cv b l hb hl
  · exact h.bel.setCell (p := ⟨d.rc a, k, none⟩) (h.rc a ha).1 _
end
def MaxC : Int := 1000000000
def OfPost (g : Gram) (vr : Value) (N n : Nat) (d : Cid) (S M : Nat → Nat → Bool) (V : Nat → Nat → Int) (w0 : World) (v : Int) (W : World) (e : Ending) (W' : World) : Prop :=
  e = .returned (.int .i64 v) ∧ Fr N d W W' ∧ ∃ C', CS g vr N n d S M V w0 C' W'
def OfP (g : Gram) (vr : Value) (N n : Nat) (d : Cid) (S M T : Nat → Nat → Bool) (size : Nat) (V : Nat → Nat → Int) (w0 : World) (f : Nat) : Prop :=
  ∀ (s : Sym) (k : Nat) (C : Nat → Nat → Int) (W : World), okS N s → k ≤ n → (s.term = false → okK T M n size f s.n.toNat k) → CS g vr N n d S M V w0 C W →
    Calls Try.prog 29 #[.pointer (some ⟨d.cb, 0, none⟩), .agg #[.bool s.term, .int .i64 s.n], .int .i64 (k : Int)] W (OfPost g vr N n d S M V w0 (symV S V s k) W)
theorem range_fold {α : Type} (f : α → Nat → α) (b : α) (i : Nat) : (List.range (i + 1)).foldl f b = f ((List.range i).foldl f b) i := by
  rw [List.range_succ, List.foldl_append]; rfl

set_option maxHeartbeats 8000000 in
set_option maxRecDepth 100000 in
theorem listE {g : Gram} {vr : Value} {N n : Nat} {d : Cid} {S M T : Nat → Nat → Bool} {size : Nat} {V : Nat → Nat → Int} {w0 : World} {f : Nat} (hn : n ≤ 1000) (hP : OfP g vr N n d S M T size V w0 f) :
    ∀ (l : List Sym), (∀ s ∈ l, okS N s) → ∀ (k : Nat), k ≤ n → Fine S (fun B j => okK T M n size f B j) l k → ∀ (a : Option Addr) (cap : Nat) (C : Nat → Nat → Int) (W : World), CS g vr N n d S M V w0 C W → Rd AnyB w0 (.sl (l.map Sym.d)) [.slice a l.length cap] →
    Calls Try.prog 57 #[.pointer (some ⟨d.cb, 0, none⟩), .slice a l.length cap, .int .i64 (k : Int)] W (OfPost g vr N n d S M V w0 (listV S MaxC (symV S V) l k) W)
  | [], _, k, hk, _, a, cap, C, W, h, hr => by
    have HE : Hid (listV S MaxC (symV S V) [] k = if k = 0 then 1 else 0) := rfl
    have HF := Lib.hid (fun (v : Int) => show OfPost g vr N n d S M V w0 v W (.returned (.int .i64 v)) W from ⟨rfl, Fr.refl _ _ _, C, h⟩)
    obtain ⟨R, HR⟩ := nameIt (listV S MaxC (symV S V) [] k)
    rw [HR.out] at HE ⊢
    obtain ⟨PST, HP⟩ := nameIt (OfPost g vr N n d S M V w0 R W)
    rw [HP.out]
    have HFR := HF.out R
    rw [HP.out] at HFR
    replace HFR := Lib.hid HFR
    clear h hr HF
    by_cases hk0 : k = 0
    · have HE1 : Hid (R = 1) := by show _ = _; rw [HE.out, if_pos hk0]
      have hkb : ((k : Int) == 0) = true := by rw [beq_iff_eq]; omega
      rw [HE1.out] at HFR
      clear hk0
      go_enter Try.func57, Try.ntmps57
      go_wp2_with fail
      first | exact HFR.out | (go_ret; exact HFR.out)
    · have HE1 : Hid (R = 0) := by show _ = _; rw [HE.out, if_neg hk0]
      have hkb : ((k : Int) == 0) = false := by rw [beq_eq_false_iff_ne]; omega
      rw [HE1.out] at HFR
      clear hk0
      go_enter Try.func57, Try.ntmps57
      go_wp2_with fail
      first | exact HFR.out | (go_ret; exact HFR.out)
  | s :: l, hl, k, hk, hfine, a, cap, C, W, h, hr => by
    have HIH := Lib.hid (fun (k' : Nat) (hk' : k' ≤ n) (hf : Fine S (fun B j => okK T M n size f B j) l k') (a' : Option Addr) (cap' : Nat) (C' : Nat → Nat → Int) (W' : World) (h' : CS g vr N n d S M V w0 C' W') (hr' : Rd AnyB w0 (.sl (l.map Sym.d)) [.slice a' l.length cap']) => listE hn hP l (fun x hx => hl x (List.mem_cons_of_mem _ hx)) k' hk' hf a' cap' C' W' h' hr')
    obtain ⟨b, off, rfl, c0, c1⟩ := syms_at0 hr
    have hcap : cap ≤ maxLen := by obtain ⟨a', cap', L, e, h1, h2, _⟩ := hr; simp at e; omega
    have hcap1 : l.length + 1 ≤ cap := by obtain ⟨a', cap', L, e, h1, h2, _⟩ := hr; simp at e h1; omega
    have HRT := Lib.hid (syms_tail (l := l) hr)
    have HHA := Lib.hid (fun (i : Nat) (hi : i ≤ n) (C' : Nat → Nat → Int) (W' : World) (h' : CS g vr N n d S M V w0 C' W') => hasE s (hl s List.mem_cons_self) i hi W' h'.ci)
    have HCN := Lib.hid (fun (k' : Nat) (hk' : k' ≤ n) (a' : Option Addr) (cap' : Nat) (C' : Nat → Nat → Int) (W' : World) (h' : CS g vr N n d S M V w0 C' W') (hr' : Rd AnyB w0 (.sl (l.map Sym.d)) [.slice a' l.length cap']) => canE hn l (fun x hx => hl x (List.mem_cons_of_mem _ hx)) k' hk' a' cap' W' h'.ci (hr'.below h'.bel))
    have HPS := Lib.hid (fun (i : Nat) (hi : i ≤ n) (ho : s.term = false → okK T M n size f s.n.toNat i) (C' : Nat → Nat → Int) (W' : World) (h' : CS g vr N n d S M V w0 C' W') => hP s i C' W' (hl s List.mem_cons_self) hi ho h')
    have HFI := Lib.hid hfine
    obtain ⟨SUM, HSUM⟩ := nameIt (fun i : Nat => (List.range i).foldl (fun sum i => if (hasK S s i && canK S l (k - i)) = true then listStep MaxC sum (symV S V s i) (listV S MaxC (symV S V) l (k - i)) else sum) 0)
    have HS0 : Hid (SUM 0 = 0) := by show _ = _; rw [← HSUM.out]; rfl
    have HSS : Hid (∀ i, SUM (i + 1) = if (hasK S s i && canK S l (k - i)) = true then listStep MaxC (SUM i) (symV S V s i) (listV S MaxC (symV S V) l (k - i)) else SUM i) := by
      intro i; rw [← HSUM.out]; exact range_fold _ _ _
    have HSE : Hid (listV S MaxC (symV S V) (s :: l) k = SUM (k + 1)) := by show _ = _; rw [← HSUM.out]; rfl
    have HLS : Hid (∀ a o v : Int, listStep MaxC a o v = min (IntKind.i64.wrap (a + IntKind.i64.wrap (o * v))) 1000000000) := fun _ _ _ => rfl
    have HCS := Lib.hid h
    obtain ⟨R, HR⟩ := nameIt (listV S MaxC (symV S V) (s :: l) k)
    rw [HR.out] at HSE ⊢
    obtain ⟨PST, HP⟩ := nameIt (OfPost g vr N n d S M V w0 R W)
    have HFN : Hid (∀ C' W', Fr N d W W' → CS g vr N n d S M V w0 C' W' → PST (.returned (.int .i64 R)) W') := by
      intro C' W' h1 h2; rw [← HP.out]; exact ⟨rfl, h1, C', h2⟩
    rw [HP.out]
    have hlen : (s :: l).length = l.length + 1 := rfl
    rw [hlen]
    obtain ⟨nl, HNL⟩ := nameIt l.length
    rw [HNL.out] at HIH HRT hcap1 HCN
    rw [HNL.out]
    obtain ⟨⟨st, sn⟩, rfl⟩ : ∃ x : Sym, x = s := ⟨s, rfl⟩
    simp only at c0 c1 HHA HPS
    have hnl : ¬ ((nl : Int) + 1) = 0 := by omega
    have hnl1 : (0 : Int) < ((nl : Int) + 1) := by omega
    have hcap2 : (1 : Int) ≤ (cap : Int) := by omega
    have hnl2 : (1 : Int) ≤ ((nl : Int) + 1) := by omega
    unfold maxLen at hcap
    clear hr h hl hlen hfine
    go_enter Try.func57, Try.ntmps57
    go_wp2_with fail
    go_loopg [7, 16] (k + 1) (fun gg v7 v16 wr => ∃ (i : Nat) (C' : Nat → Nat → Int), i ≤ k + 1 ∧ k + 1 - i ≤ gg ∧ v7 = .int .i64 (SUM i) ∧ v16 = .int .i64 i ∧ Hid (Fr N d W wr) ∧ Hid (CS g vr N n d S M V w0 C' wr))
    case atStart => exact ⟨0, C, by omega, by omega, by rw [HS0.out], rfl, Fr.refl _ _ _, HCS⟩
    case round =>
      clear HCS
      obtain ⟨i, C', hi, hg, rfl, rfl, HFR, HC1⟩ := hrel
      obtain ⟨w1, rfl⟩ : ∃ ww : World, ww = wr := ⟨_, rfl⟩
      by_cases hlt : i < k + 1
      · have hlt' : (i : Int) < (k : Int) + 1 := by omega
        have hik : i ≤ k := by omega
        have hin : i ≤ n := by omega
        have HHS := Lib.hid (HHA.out i hin C' w1 HC1.out)
        have HSI := Lib.hid (HSS.out i)
        have HFT : Hid (hasK S ⟨st, sn⟩ i = true → Fine S (fun B j => okK T M n size f B j) l (k - i)) := fun h1 => HFI.out.tail hik h1
        have HFH : Hid (hasK S ⟨st, sn⟩ i = true → canK S l (k - i) = true → st = false → okK T M n size f sn.toNat i) := fun h1 h2 h3 => HFI.out.head hik h1 h2 h3
        have hsub : IntKind.i64.wrap ((k : Int) - (i : Int)) = ((k - i : Nat) : Int) := by rw [IntWalk.i64_in _ (by omega)]; omega
        have hki : k - i ≤ n := by omega
        obtain ⟨ki, HKI⟩ := nameIt (k - i)
        rw [HKI.out] at hsub HSI HFT HFH hki
        have q0 := (HC1.out.bel.cell (lt_of_cell c0)).trans c0
        have q1 := (HC1.out.bel.cell (lt_of_cell c1)).trans c1
        obtain ⟨hv, HHV⟩ := nameIt (hasK S ⟨st, sn⟩ i)
        obtain ⟨cv, HCV⟩ := nameIt (canK S l ki)
        have HCN1 : Hid (∀ (a' : Option Addr) (cap' : Nat) (C' : Nat → Nat → Int) (W' : World), CS g vr N n d S M V w0 C' W' → Rd AnyB w0 (.sl (l.map Sym.d)) [.slice a' nl cap'] → Calls Try.prog 54 #[.pointer (some ⟨d.cb, 0, none⟩), .slice a' nl cap', .int .i64 (ki : Int)] W' fun e w' => e = .returned (.bool cv) ∧ Below W'.heap.size W' w') := by
          intro a' cap' C' W' h1 h2
          have := HCN.out ki hki a' cap' C' W' h1 h2
          rw [HCV.out] at this
          exact this
        have HIH1 := Lib.hid (fun (hf : Fine S (fun B j => okK T M n size f B j) l ki) (a' : Option Addr) (cap' : Nat) (C' : Nat → Nat → Int) (W' : World) (h' : CS g vr N n d S M V w0 C' W') (hr' : Rd AnyB w0 (.sl (l.map Sym.d)) [.slice a' nl cap']) => HIH.out ki hki hf a' cap' C' W' h' hr')
        have HPS1 := Lib.hid (fun (ho : st = false → okK T M n size f sn.toNat i) (C' : Nat → Nat → Int) (W' : World) (h' : CS g vr N n d S M V w0 C' W') => HPS.out i hin ho C' W' h')
        obtain ⟨ov, HOV⟩ := nameIt (symV S V ⟨st, sn⟩ i)
        obtain ⟨lv, HLV⟩ := nameIt (listV S MaxC (symV S V) l ki)
        rw [HHV.out] at HHS HFT HFH
        rw [HCV.out] at HFH
        rw [HHV.out, HCV.out, HOV.out, HLV.out] at HSI
        rw [HOV.out] at HPS1
        rw [HLV.out] at HIH1
        obtain ⟨s0, HSU⟩ := nameIt (SUM i)
        obtain ⟨s1, HSU1⟩ := nameIt (SUM (i + 1))
        rw [HSU.out, HSU1.out] at HSI
        rw [HSU.out]
        go_wp2_with fail
        with_reducible refine HHS.out.mono ?_
        rintro e w2 ⟨rfl, hb2⟩
        have HC2 := Lib.hid (HC1.out.keep hb2)
        have HFR2 : Hid (Fr N d W w2) := HFR.out.trans (Fr.of hb2)
        clear hb2 q0 q1
        cases hv with
        | false =>
          have HS9 : Hid (s1 = s0) := HSI.out
          clear HSI HFT HFH
          go_wp2_with fail
          go_roundg (k + 1 - (i + 1))
          case measure => omega
          case rel => exact ⟨i + 1, C', by omega, by omega, by rw [HSU1.out, HS9.out], by go_num, HFR2, HC2⟩
        | true =>
          have HFT1 := Lib.hid (HFT.out rfl)
          have HFH1 := Lib.hid (fun (hc : cv = true) (h3 : st = false) => HFH.out rfl hc h3)
          have HSY : Hid (cv = true → s1 = listStep MaxC s0 ov lv) := fun hc => by have := HSI.out; rw [hc] at this; exact this
          have HSN : Hid (cv = false → s1 = s0) := fun hc => by have := HSI.out; rw [hc] at this; exact this
          clear HSI HFT HFH
          by_cases hct : cap = 1
          all_goals
            first | (rw [if_pos hct] at HRT; subst hct; rw [Nat.sub_self] at HRT; obtain rfl : nl = 0 := by omega) | rw [if_neg hct] at HRT
            have HCNC := Lib.hid (HCN1.out _ _ C' w2 HC2.out HRT.out)
            go_wp2_with fail
            with_reducible refine HCNC.out.mono ?_
            rintro e w3 ⟨rfl, hb3⟩
            have HC3 := Lib.hid (HC2.out.keep hb3)
            have HFR3 : Hid (Fr N d W w3) := HFR2.out.trans (Fr.of hb3)
            clear hb3
            cases cv with
            | false =>
              have HS9 := Lib.hid (HSN.out rfl)
              clear HSN HSY HFH1
              go_wp2_with fail
              go_roundg (k + 1 - (i + 1))
              case measure => omega
              case rel => exact ⟨i + 1, C', by omega, by omega, by rw [HSU1.out, HS9.out], by go_num, HFR3, HC3⟩
            | true =>
              have hmin : min (IntKind.i64.wrap (s0 + IntKind.i64.wrap (ov * lv))) 1000000000 = s1 := by rw [HSY.out rfl, HLS.out]
              have HFH2 := Lib.hid (HFH1.out rfl)
              have HSTP : Hid (∀ W', Below w0.heap.size w0 W' → W'.cell? ⟨b, off, none⟩ = some (.bool st) ∧ W'.cell? ⟨b, off + 1, none⟩ = some (.int .i64 sn)) := fun W' hb => ⟨(hb.cell (lt_of_cell c0)).trans c0, (hb.cell (lt_of_cell c1)).trans c1⟩
              have HPSW := Lib.hid (HPS1.out HFH2.out C' w3.drew (HC3.out.keep (Below.refl _ _).drew))
              have HFRD : Hid (Fr N d W w3.drew) := HFR3.out.trans (Fr.of (Below.refl _ _).drew)
              have HBD3 : Hid (Below w0.heap.size w0 w3.drew) := HC3.out.bel.drew
              clear HSN HSY HFH1
              go_upto_region 10 with fail
              go_region_held3 (fun w' => w'.cell? ⟨b, off, none⟩ = some (.bool st) ∧ w'.cell? ⟨b, off + 1, none⟩ = some (.int .i64 sn))
                (first | exact HSTP.out _ HC5.out.bel | exact HSTP.out _ HC4.out.bel | exact HSTP.out _ HBD3.out | fail)
                (first
                  | (go_at_call 29; (with_reducible refine HPSW.out.mono ?_); rintro e w4 ⟨rfl, hf4, C4, hc4⟩; have HC4 := Lib.hid hc4; have HFR4 : Hid (Fr N d W w4) := HFRD.out.trans hf4; clear hf4 hc4)
                  | (go_at_call 57; (with_reducible refine (HIH1.out HFT1.out _ _ C4 _ HC4.out HRT.out).mono ?_); rintro e w5 ⟨rfl, hf5, C5, hc5⟩; have HC5 := Lib.hid hc5; have HFR5 : Hid (Fr N d W w5) := HFR4.out.trans hf5; clear hf5 hc5)
                  | fail)
              all_goals
                go_wp2_with fail
                go_roundg (k + 1 - (i + 1))
                case measure => omega
                case rel => exact ⟨i + 1, C5, by omega, by omega, by rw [HSU1.out], by go_num, HFR5, HC5⟩
      · have hlt' : ¬ (i : Int) < (k : Int) + 1 := by omega
        have hik : i = k + 1 := by omega
        have HRE : Hid (SUM i = R) := by show _ = _; rw [hik, HSE.out]
        have HF := Lib.hid (HFN.out C' w1 HFR.out HC1.out)
        rw [HRE.out]
        clear hik
        go_wp2_with fail
        first | exact HF.out | (go_ret; exact HF.out)
end Cs
end Go.Proofs.Ytbnpemgmdnghgaa
namespace Go.Proofs.Ytbnpemgmdnghgaa
open Go.RowKit
namespace Cs

theorem still_quiet {P : Program} {ops : Array Oper} {w : World} {Q : Act → Prop} : ∀ (l : List Oper) (a : Act), wpQuiet P ops (fun W => W = w) Q l a → wpStill P ops w Q l a
  | [], _, h => h
  | o :: rest, a, h => by
    rw [wpQuiet] at h
    rw [wpStill]
    by_cases hw : Region.wanted o (yielded ops a.tmps) = true
    · rw [if_pos hw] at h ⊢
      obtain ⟨v, h1, h2⟩ := h
      have h3 := h1 w rfl
      have ih := still_quiet rest _ h2
      unfold Oper.quietAt at h3
      unfold Oper.still
      generalize (execOp a.eval o).run P w = res at h3 ⊢
      unfold Oper.quietUpon at h3
      unfold Oper.stillUpon
      split at h3
      · obtain ⟨rfl, rfl⟩ := h3; exact ⟨rfl, ih⟩
      · obtain ⟨rfl, rfl⟩ := h3; exact ⟨rfl, ih⟩
      · obtain ⟨rfl, h4⟩ := h3; exact ⟨rfl, v, h4, ih⟩
      · exact h3.elim
    · rw [if_neg hw] at h ⊢
      exact still_quiet rest _ h

/-- a valid grammar's rules -/
def okR (N : Nat) (g : Gram) : Prop := ∀ r ∈ g.rules, (∀ s ∈ r.right, okS N s)
set_option maxHeartbeats 8000000 in
set_option maxRecDepth 100000 in
theorem ofE {g : Gram} {ra : Option Addr} {rcap : Nat} {N n : Nat} {d : Cid} {S M T : Nat → Nat → Bool} {size : Nat} {w0 : World} (hn : n ≤ 1000) (hN : N ≤ 1000) (hg : okR N g) (hE : EndsK g.rules S M T N n size) (hR : Rd AnyB w0 (.sl (g.rules.map Rule.d)) [.slice ra g.rules.length rcap]) :
    ∀ f, OfP g (.slice ra g.rules.length rcap) N n d S M T size (valK g.rules S M MaxC (-1) size) w0 f := by
  intro f
  induction f with
  | zero =>
    intro s k C W hs hk ho h
    obtain ⟨w1, HW1⟩ := nameIt (W.alloc (.cells #[.bool s.term, .int .i64 s.n] 65))
    have hb1 : Below W.heap.size W w1 := by rw [← HW1.out]; exact (Below.refl _ _).alloc (Nat.le_refl _) _
    have X0 : Hid (w1.heap[W.heap.size]? = some (.cells #[.bool s.term, .int .i64 s.n] 65 (0, 0))) := by rw [← HW1.out]; exact bx_new _ _ _ rfl
    have HC1 := Lib.hid (h.keep hb1)
    have HFR1 : Hid (Fr N d W w1) := Fr.of hb1
    have HNB : Hid (∀ a, a < N → d.rc a ≠ W.heap.size) := h.big (Nat.le_refl _)
    have HHA := Lib.hid (hasE s hs k hk w1 HC1.out.ci)
    have HV : Hid (symV S (valK g.rules S M MaxC (-1) size) s k = if hasK S s k = false then 0 else if s.term then 1 else valK g.rules S M MaxC (-1) size s.n.toNat k) := rfl
    have HEQ : Hid (∀ A, A < N → valK g.rules S M MaxC (-1) size A k = if S A k = false then 0 else if M A k then (-1) else g.rules.foldl (fun sum r => if r.left = (A : Int) then min (IntKind.i64.wrap (sum + listV S MaxC (symV S (valK g.rules S M MaxC (-1) size)) r.right k)) MaxC else sum) 0) := fun A hA => valK_eq hE hA hk
    have HFINE : Hid (∀ A, A < N → M A k = false → ∀ r ∈ g.rules, r.left = (A : Int) → Fine S (fun B j => okK T M n size (reachN T size (A * (n + 1) + k)) B j) r.right k) := by
      intro A hA hM r hr hl p s' i a h1 h2 h3 h4 h5 h6
      exact (hE A k r hA hk hM hr hl p s' i a h1 h2 h3 h4 h5 h6).2.2
    obtain ⟨V, HVN⟩ := nameIt (valK g.rules S M MaxC (-1) size)
    rw [HVN.out] at HV HC1 h 
    simp only [HVN.out] at HEQ
    have HBX : Hid (hasK S s k = if s.term then decide (k = 1) else S s.n.toNat k) := rfl
    obtain ⟨hv, HHV⟩ := nameIt (hasK S s k)
    rw [HHV.out] at HHA HV HBX
    obtain ⟨R, HR⟩ := nameIt (symV S V s k)
    rw [HR.out] at HV
    rw [HVN.out, HR.out]
    obtain ⟨PST, HP⟩ := nameIt (OfPost g (.slice ra g.rules.length rcap) N n d S M V w0 R W)
    have HFN : Hid (∀ C' W', Fr N d W W' → CS g (.slice ra g.rules.length rcap) N n d S M V w0 C' W' → PST (.returned (.int .i64 R)) W') := by
      intro C' W' h1 h2; rw [← HP.out]; exact ⟨rfl, h1, C', h2⟩
    rw [HP.out]
    obtain ⟨x0, x1⟩ := bx_cells2 X0.out
    have HSO := Lib.hid hs
    have HOK := Lib.hid ho
    obtain ⟨⟨st, sn⟩, rfl⟩ : ∃ x : Sym, x = s := ⟨s, rfl⟩
    simp only at x0 x1 HW1 HV HHA HSO HOK HBX X0
    obtain ⟨rl, HRL⟩ := nameIt g.rules.length
    clear hb1 h hs ho
    cases hv with
    | false =>
      have HE0 : Hid (R = 0) := HV.out
      go_enter Try.func29, Try.ntmps29
      go_upto_region 1 with fail
      rw [HW1.out]
      go_wp2_with fail
      with_reducible refine HHA.out.mono ?_
      rintro e w2 ⟨rfl, hb2⟩
      have hfn := HFN.out C w2 (HFR1.out.trans (Fr.of hb2)) (HC1.out.keep hb2)
      rw [HE0.out] at hfn
      have HF := Lib.hid hfn
      clear hb2 hfn
      go_wp2_with fail
      first | exact HF.out | (go_ret; exact HF.out)
    | true =>
      cases st with
      | true =>
        have HE0 : Hid (R = 1) := HV.out
        go_enter Try.func29, Try.ntmps29
        go_upto_region 1 with fail
        rw [HW1.out]
        go_wp2_with fail
        with_reducible refine HHA.out.mono ?_
        rintro e w2 ⟨rfl, hb2⟩
        have hfn := HFN.out C w2 (HFR1.out.trans (Fr.of hb2)) (HC1.out.keep hb2)
        rw [HE0.out] at hfn
        have HF := Lib.hid hfn
        clear x0 x1
        obtain ⟨x0, x1⟩ := bx_cells2 (bx_keep X0.out hb2)
        clear hb2 hfn
        go_wp2_with fail
        first | exact HF.out | (go_ret; exact HF.out)
      | false =>
        obtain ⟨hs1, hs2⟩ := HSO.out rfl
        simp only at hs1 hs2
        obtain ⟨A, rfl⟩ : ∃ A : Nat, sn = (A : Int) := ⟨sn.toNat, by omega⟩
        rw [Int.toNat_natCast] at hs2
        have HVA : Hid (R = V A k) := HV.out
        have hok := HOK.out rfl
        simp only [Int.toNat_natCast] at hok
        have hS : S A k = true := by have := HBX.out; simpa using this.symm
        have heq := HEQ.out A hs2
        rw [hS] at heq
        simp only [Bool.true_eq_false, if_false] at heq
        have HVEQ := Lib.hid heq
        have ha1 : (A : Int) < (N : Int) := by omega
        have ha0 : (0 : Int) ≤ (A : Int) := by omega
        have hk0 : (0 : Int) ≤ (k : Int) := by omega
        have hk1 : (k : Int) < ((n + 1 : Nat) : Int) := by omega
        obtain ⟨m, HM⟩ := nameIt (n + 1)
        rw [HM.out] at hk1
        have HKM : Hid (k < n + 1) := by show k < n + 1; omega
        go_enter Try.func29, Try.ntmps29
        go_upto_region 1 with fail
        rw [HW1.out]
        go_wp2_with fail
        with_reducible refine HHA.out.mono ?_
        rintro e w2 ⟨rfl, hb2⟩
        have HC2 := Lib.hid (HC1.out.keep hb2)
        have HFR2 : Hid (Fr N d W w2) := HFR1.out.trans (Fr.of hb2)
        have X2 := Lib.hid (bx_keep X0.out hb2)
        clear hb2 x0 x1
        obtain ⟨x0, x1⟩ := bx_cells2 X2.out
        obtain ⟨TT, hbx⟩ := HC2.out.ci.box
        obtain ⟨c0, c1, c2, c3, c4, c5, c6, c7⟩ := bx_cells8c hbx
        have q0 := HC2.out.ci.many.head hs2
        have q1 := HC2.out.ci.many.cell hs2 HKM.out
        rw [HM.out] at q0
        obtain ⟨mv, HMV⟩ := nameIt (M A k)
        rw [HMV.out] at q1
        cases mv with
        | true =>
          have hE1 : R = -1 := by rw [HVA.out, HVEQ.out, HMV.out]; rfl
          have HE1 := Lib.hid hE1
          clear hE1 heq hok
          go_wp2_with fail
          go_quiet (fail)
          have hfn := HFN.out C (w2.drewN nq) (HFR2.out.trans (Fr.of (below_drewN _ _))) (HC2.out.keep (below_drewN _ _))
          rw [HE1.out] at hfn
          have HF := Lib.hid hfn
          clear hfn x0 x1 c0 c1 c2 c3 c4 c5 c6 c7 q0 q1 hbx
          go_wp2_with fail
          first | exact HF.out | (go_ret; exact HF.out)
        | false =>
          have hre : reachN T size (A * (n + 1) + k) < 0 := hok.resolve_left (by rw [HMV.out]; simp)
          have HVQ : Hid (R = g.rules.foldl (fun sum r => if r.left = (A : Int) then min (IntKind.i64.wrap (sum + listV S MaxC (symV S V) r.right k)) MaxC else sum) 0) := by show _ = _; rw [HVA.out, HVEQ.out, HMV.out]; rfl
          exact absurd hre (Nat.not_lt_zero _)
  | succ f ih =>
    intro s k C W hs hk ho h
    obtain ⟨w1, HW1⟩ := nameIt (W.alloc (.cells #[.bool s.term, .int .i64 s.n] 65))
    have hb1 : Below W.heap.size W w1 := by rw [← HW1.out]; exact (Below.refl _ _).alloc (Nat.le_refl _) _
    have X0 : Hid (w1.heap[W.heap.size]? = some (.cells #[.bool s.term, .int .i64 s.n] 65 (0, 0))) := by rw [← HW1.out]; exact bx_new _ _ _ rfl
    have HC1 := Lib.hid (h.keep hb1)
    have HFR1 : Hid (Fr N d W w1) := Fr.of hb1
    have HNB : Hid (∀ a, a < N → d.rc a ≠ W.heap.size) := h.big (Nat.le_refl _)
    have HHA := Lib.hid (hasE s hs k hk w1 HC1.out.ci)
    have HV : Hid (symV S (valK g.rules S M MaxC (-1) size) s k = if hasK S s k = false then 0 else if s.term then 1 else valK g.rules S M MaxC (-1) size s.n.toNat k) := rfl
    have HEQ : Hid (∀ A, A < N → valK g.rules S M MaxC (-1) size A k = if S A k = false then 0 else if M A k then (-1) else g.rules.foldl (fun sum r => if r.left = (A : Int) then min (IntKind.i64.wrap (sum + listV S MaxC (symV S (valK g.rules S M MaxC (-1) size)) r.right k)) MaxC else sum) 0) := fun A hA => valK_eq hE hA hk
    have HFINE : Hid (∀ A, A < N → M A k = false → ∀ r ∈ g.rules, r.left = (A : Int) → Fine S (fun B j => okK T M n size (reachN T size (A * (n + 1) + k)) B j) r.right k) := by
      intro A hA hM r hr hl p s' i a h1 h2 h3 h4 h5 h6
      exact (hE A k r hA hk hM hr hl p s' i a h1 h2 h3 h4 h5 h6).2.2
    obtain ⟨V, HVN⟩ := nameIt (valK g.rules S M MaxC (-1) size)
    rw [HVN.out] at HV HC1 h ih
    simp only [HVN.out] at HEQ
    have HBX : Hid (hasK S s k = if s.term then decide (k = 1) else S s.n.toNat k) := rfl
    obtain ⟨hv, HHV⟩ := nameIt (hasK S s k)
    rw [HHV.out] at HHA HV HBX
    obtain ⟨R, HR⟩ := nameIt (symV S V s k)
    rw [HR.out] at HV
    rw [HVN.out, HR.out]
    obtain ⟨PST, HP⟩ := nameIt (OfPost g (.slice ra g.rules.length rcap) N n d S M V w0 R W)
    have HFN : Hid (∀ C' W', Fr N d W W' → CS g (.slice ra g.rules.length rcap) N n d S M V w0 C' W' → PST (.returned (.int .i64 R)) W') := by
      intro C' W' h1 h2; rw [← HP.out]; exact ⟨rfl, h1, C', h2⟩
    rw [HP.out]
    obtain ⟨x0, x1⟩ := bx_cells2 X0.out
    have HSO := Lib.hid hs
    have HOK := Lib.hid ho
    obtain ⟨⟨st, sn⟩, rfl⟩ : ∃ x : Sym, x = s := ⟨s, rfl⟩
    simp only at x0 x1 HW1 HV HHA HSO HOK HBX X0
    obtain ⟨rl, HRL⟩ := nameIt g.rules.length
    clear hb1 h hs ho
    cases hv with
    | false =>
      have HE0 : Hid (R = 0) := HV.out
      go_enter Try.func29, Try.ntmps29
      go_upto_region 1 with fail
      rw [HW1.out]
      go_wp2_with fail
      with_reducible refine HHA.out.mono ?_
      rintro e w2 ⟨rfl, hb2⟩
      have hfn := HFN.out C w2 (HFR1.out.trans (Fr.of hb2)) (HC1.out.keep hb2)
      rw [HE0.out] at hfn
      have HF := Lib.hid hfn
      clear hb2 hfn
      go_wp2_with fail
      first | exact HF.out | (go_ret; exact HF.out)
    | true =>
      cases st with
      | true =>
        have HE0 : Hid (R = 1) := HV.out
        go_enter Try.func29, Try.ntmps29
        go_upto_region 1 with fail
        rw [HW1.out]
        go_wp2_with fail
        with_reducible refine HHA.out.mono ?_
        rintro e w2 ⟨rfl, hb2⟩
        have hfn := HFN.out C w2 (HFR1.out.trans (Fr.of hb2)) (HC1.out.keep hb2)
        rw [HE0.out] at hfn
        have HF := Lib.hid hfn
        clear x0 x1
        obtain ⟨x0, x1⟩ := bx_cells2 (bx_keep X0.out hb2)
        clear hb2 hfn
        go_wp2_with fail
        first | exact HF.out | (go_ret; exact HF.out)
      | false =>
        obtain ⟨hs1, hs2⟩ := HSO.out rfl
        simp only at hs1 hs2
        obtain ⟨A, rfl⟩ : ∃ A : Nat, sn = (A : Int) := ⟨sn.toNat, by omega⟩
        rw [Int.toNat_natCast] at hs2
        have HVA : Hid (R = V A k) := HV.out
        have hok := HOK.out rfl
        simp only [Int.toNat_natCast] at hok
        have hS : S A k = true := by have := HBX.out; simpa using this.symm
        have heq := HEQ.out A hs2
        rw [hS] at heq
        simp only [Bool.true_eq_false, if_false] at heq
        have HVEQ := Lib.hid heq
        have ha1 : (A : Int) < (N : Int) := by omega
        have ha0 : (0 : Int) ≤ (A : Int) := by omega
        have hk0 : (0 : Int) ≤ (k : Int) := by omega
        have hk1 : (k : Int) < ((n + 1 : Nat) : Int) := by omega
        obtain ⟨m, HM⟩ := nameIt (n + 1)
        rw [HM.out] at hk1
        have HKM : Hid (k < n + 1) := by show k < n + 1; omega
        go_enter Try.func29, Try.ntmps29
        go_upto_region 1 with fail
        rw [HW1.out]
        go_wp2_with fail
        with_reducible refine HHA.out.mono ?_
        rintro e w2 ⟨rfl, hb2⟩
        have HC2 := Lib.hid (HC1.out.keep hb2)
        have HFR2 : Hid (Fr N d W w2) := HFR1.out.trans (Fr.of hb2)
        have X2 := Lib.hid (bx_keep X0.out hb2)
        clear hb2 x0 x1
        obtain ⟨x0, x1⟩ := bx_cells2 X2.out
        obtain ⟨TT, hbx⟩ := HC2.out.ci.box
        obtain ⟨c0, c1, c2, c3, c4, c5, c6, c7⟩ := bx_cells8c hbx
        have q0 := HC2.out.ci.many.head hs2
        have q1 := HC2.out.ci.many.cell hs2 HKM.out
        rw [HM.out] at q0
        obtain ⟨mv, HMV⟩ := nameIt (M A k)
        rw [HMV.out] at q1
        cases mv with
        | true =>
          have hE1 : R = -1 := by rw [HVA.out, HVEQ.out, HMV.out]; rfl
          have HE1 := Lib.hid hE1
          clear hE1 heq hok
          go_wp2_with fail
          go_quiet (fail)
          have hfn := HFN.out C (w2.drewN nq) (HFR2.out.trans (Fr.of (below_drewN _ _))) (HC2.out.keep (below_drewN _ _))
          rw [HE1.out] at hfn
          have HF := Lib.hid hfn
          clear hfn x0 x1 c0 c1 c2 c3 c4 c5 c6 c7 q0 q1 hbx
          go_wp2_with fail
          first | exact HF.out | (go_ret; exact HF.out)
        | false =>
          have hre : reachN T size (A * (n + 1) + k) < f + 1 := hok.resolve_left (by rw [HMV.out]; simp)
          have HVQ : Hid (R = g.rules.foldl (fun sum r => if r.left = (A : Int) then min (IntKind.i64.wrap (sum + listV S MaxC (symV S V) r.right k)) MaxC else sum) 0) := by show _ = _; rw [HVA.out, HVEQ.out, HMV.out]; rfl
          clear heq hok
          go_wp2_with fail
          go_quiet (fail)
          obtain ⟨w3, HW3⟩ := nameIt (w2.drewN nq)
          have HC3 : Hid (CS g (.slice ra g.rules.length rcap) N n d S M V w0 C w3) := by rw [← HW3.out]; exact HC2.out.keep (below_drewN _ _)
          have HFR3 : Hid (Fr N d W w3) := by rw [← HW3.out]; exact HFR2.out.trans (Fr.of (below_drewN _ _))
          have X3 : Hid (w3.heap[W.heap.size]? = some (.cells #[.bool false, .int .i64 (A : Int)] 65 (0, 0))) := by rw [← HW3.out]; exact bx_keep X2.out (below_drewN _ _)
          rw [HW3.out]
          clear x0 x1 c0 c1 c2 c3 c4 c5 c6 c7 q0 q1 hbx HW3
          obtain ⟨x0, x1⟩ := bx_cells2 X3.out
          obtain ⟨TT, hbx⟩ := HC3.out.ci.box
          obtain ⟨c0, c1, c2, c3, c4, c5, c6, c7⟩ := bx_cells8c hbx
          have q0 := HC3.out.ci.cnt.head hs2
          have q1 := HC3.out.ci.cnt.cell hs2 HKM.out
          rw [HM.out] at q0
          have HCVV := Lib.hid (HC3.out.cv A k hs2 hk)
          obtain ⟨cv, HCVN⟩ := nameIt (C A k)
          rw [HCVN.out] at q1 HCVV
          by_cases hcv : 0 ≤ cv
          · have hE1 : R = cv := by
              rcases HCVV.out with h | h
              · omega
              · rw [HVA.out, h]
            have HE1 := Lib.hid hE1
            clear hE1
            go_wp2_with fail
            go_quiet (fail)
            obtain ⟨w4, HW4⟩ := nameIt (w3.drewN nq)
            have HC4 : Hid (CS g (.slice ra g.rules.length rcap) N n d S M V w0 C w4) := by rw [← HW4.out]; exact HC3.out.keep (below_drewN _ _)
            have HFR4 : Hid (Fr N d W w4) := by rw [← HW4.out]; exact HFR3.out.trans (Fr.of (below_drewN _ _))
            have X4 : Hid (w4.heap[W.heap.size]? = some (.cells #[.bool false, .int .i64 (A : Int)] 65 (0, 0))) := by rw [← HW4.out]; exact bx_keep X3.out (below_drewN _ _)
            rw [HW4.out]
            clear x0 x1 c0 c1 c2 c3 c4 c5 c6 c7 q0 q1 hbx HW4
            obtain ⟨x0, x1⟩ := bx_cells2 X4.out
            obtain ⟨TT, hbx⟩ := HC4.out.ci.box
            obtain ⟨c0, c1, c2, c3, c4, c5, c6, c7⟩ := bx_cells8c hbx
            have q0 := HC4.out.ci.cnt.head hs2
            have q1 := HC4.out.ci.cnt.cell hs2 HKM.out
            rw [HM.out] at q0
            rw [HCVN.out] at q1
            go_wp2_with fail
            go_quiet (fail)
            have hfn := HFN.out C (w4.drewN nq) (HFR4.out.trans (Fr.of (below_drewN _ _))) (HC4.out.keep (below_drewN _ _))
            rw [HE1.out] at hfn
            have HF := Lib.hid hfn
            clear hfn x0 x1 c0 c1 c2 c3 c4 c5 c6 c7 q0 q1 hbx
            go_wp2_with fail
            first | exact HF.out | (go_ret; exact HF.out)
          · go_wp2_with fail
            go_quiet (fail)
            obtain ⟨w4, HW4⟩ := nameIt (w3.drewN nq)
            have HC4 : Hid (CS g (.slice ra g.rules.length rcap) N n d S M V w0 C w4) := by rw [← HW4.out]; exact HC3.out.keep (below_drewN _ _)
            have HFR4 : Hid (Fr N d W w4) := by rw [← HW4.out]; exact HFR3.out.trans (Fr.of (below_drewN _ _))
            have X4 : Hid (w4.heap[W.heap.size]? = some (.cells #[.bool false, .int .i64 (A : Int)] 65 (0, 0))) := by rw [← HW4.out]; exact bx_keep X3.out (below_drewN _ _)
            rw [HW4.out]
            clear x0 x1 c0 c1 c2 c3 c4 c5 c6 c7 q0 q1 hbx HW4
            obtain ⟨TT, hbx⟩ := HC4.out.ci.box
            obtain ⟨c0, c1, c2, c3, c4, c5, c6, c7⟩ := bx_cells8c hbx
            obtain ⟨SUM, HSUM⟩ := nameIt (fun i : Nat => (g.rules.take i).foldl (fun sum r => if r.left = (A : Int) then min (IntKind.i64.wrap (sum + listV S MaxC (symV S V) r.right k)) MaxC else sum) 0)
            have HS0 : Hid (SUM 0 = 0) := by show _ = _; rw [← HSUM.out]; rfl
            have HSS : Hid (∀ i (hi : i < g.rules.length), SUM (i + 1) = if g.rules[i].left = (A : Int) then min (IntKind.i64.wrap (SUM i + listV S MaxC (symV S V) g.rules[i].right k)) MaxC else SUM i) := by
              intro i hi; rw [← HSUM.out]
              show (g.rules.take (i + 1)).foldl _ _ = _
              rw [List.take_succ_eq_append_getElem hi, List.foldl_append]; rfl
            have HSE : Hid (R = SUM g.rules.length) := by show _ = _; rw [← HSUM.out]; show _ = (g.rules.take g.rules.length).foldl _ _; rw [List.take_length, HVQ.out]
            have HMX : Hid (MaxC = 1000000000) := rfl
            have HRD := Lib.hid hR
            have HGG := Lib.hid hg
            have hrc : rcap ≤ maxLen ∧ g.rules.length ≤ rcap := by obtain ⟨a', cap', L, e, h1, h2, _⟩ := hR; simp at e h1; omega
            unfold maxLen at hrc
            have HLI := Lib.hid (fun (i : Nat) (hi : i < g.rules.length) (hl : g.rules[i].left = (A : Int)) (a' : Option Addr) (cap' : Nat) (C' : Nat → Nat → Int) (W' : World) (h' : CS g (.slice ra g.rules.length rcap) N n d S M V w0 C' W') (hr' : Rd AnyB w0 (.sl (g.rules[i].right.map Sym.d)) [.slice a' g.rules[i].right.length cap']) =>
              listE hn ih g.rules[i].right (hg _ (List.getElem_mem hi)) k hk (fun p s' i' a'' h1 h2 h3 h4 h5 h6 => (HFINE.out A hs2 HMV.out _ (List.getElem_mem hi) hl p s' i' a'' h1 h2 h3 h4 h5 h6).mono (by omega)) a' cap' C' W' h' hr')
            rw [HRL.out] at c3 HSE hrc
            clear hre
            go_wp2_with fail
            clear c0 c1 c2 c3 c4 c5 c6 c7 hbx
            go_loopg [7, 61] rl (fun gg v7 v61 wr => ∃ (i : Nat) (C' : Nat → Nat → Int), i ≤ rl ∧ rl - i ≤ gg ∧ v7 = .int .i64 (SUM i) ∧ v61 = .int .i64 i ∧ Hid (Fr N d W wr) ∧ Hid (CS g (.slice ra g.rules.length rcap) N n d S M V w0 C' wr) ∧ Hid (wr.heap[W.heap.size]? = some (.cells #[.bool false, .int .i64 (A : Int)] 65 (0, 0))))
            case atStart => exact ⟨0, C, by omega, by omega, by rw [HS0.out], rfl, HFR4, HC4, X4⟩
            case round =>
              obtain ⟨i, C', hi, hg', rfl, rfl, HFR5, HC5, X5⟩ := hrel
              obtain ⟨w5, rfl⟩ : ∃ ww : World, ww = wr := ⟨_, rfl⟩
              by_cases hlt : i < rl
              · have hlt' : (i : Int) < (rl : Int) := by omega
                have hi0 : (0 : Int) ≤ (i : Int) := by omega
                have hix : i < g.rules.length := by rw [HRL.out]; exact hlt
                obtain ⟨rb, ro, rv, hae, -, hrb, r0, r1, hrr⟩ := HRD.out.rule_at hix
                obtain ⟨ar, cr, rfl, -, -⟩ := hrr.form
                rw [List.length_map] at r1 hrr
                have HRR := Lib.hid hrr
                have t0 := (HC5.out.bel.cell (lt_of_cell r0)).trans r0
                have t1 := (HC5.out.bel.cell (lt_of_cell r1)).trans r1
                have HSI := Lib.hid (HSS.out i hix)
                have HLI1 := Lib.hid (HLI.out i hix)
                obtain ⟨r, HRN⟩ := nameIt (g.rules[i]'hix)
                rw [HRN.out] at t0 t1 HSI HLI1 HRR
                obtain ⟨lf, HLF⟩ := nameIt r.left
                obtain ⟨rn, HRNL⟩ := nameIt r.right.length
                obtain ⟨lv, HLV⟩ := nameIt (listV S MaxC (symV S V) r.right k)
                rw [HLF.out] at t0 HSI HLI1
                rw [HRNL.out] at t1 HLI1 HRR
                rw [HLV.out] at HSI HLI1
                rw [HMX.out] at HSI
                obtain ⟨s0, HSU⟩ := nameIt (SUM i)
                obtain ⟨s1, HSU1⟩ := nameIt (SUM (i + 1))
                rw [HSU.out, HSU1.out] at HSI
                rw [HSU.out]
                obtain ⟨w6, HW6⟩ := nameIt (w5.alloc (.cells #[.int .i64 lf, .slice ar rn cr] 48))
                have HC6 : Hid (CS g (.slice ra g.rules.length rcap) N n d S M V w0 C' w6) := by rw [← HW6.out]; exact HC5.out.keep ((Below.refl _ _).alloc (Nat.le_refl _) _)
                have HFR6 : Hid (Fr N d W w6) := by rw [← HW6.out]; exact HFR5.out.trans (Fr.of ((Below.refl _ _).alloc (Nat.le_refl _) _))
                have X6 : Hid (w6.heap[W.heap.size]? = some (.cells #[.bool false, .int .i64 (A : Int)] 65 (0, 0))) := by rw [← HW6.out]; exact bx_keep X5.out ((Below.refl _ _).alloc (Nat.le_refl _) _)
                have Y6 : Hid (w6.heap[w5.heap.size]? = some (.cells #[.int .i64 lf, .slice ar rn cr] 48 (0, 0))) := by rw [← HW6.out]; exact bx_new _ _ _ rfl
                subst hae
                clear hrr r0 r1
                go_upto_region 13 with fail
                rw [HW6.out]
                clear t0 t1
                obtain ⟨x0, x1⟩ := bx_cells2 X6.out
                obtain ⟨y0, y1⟩ := bx_cells2 Y6.out
                by_cases hl : lf = (A : Int)
                · have hlb : (lf == (A : Int)) = true := by simpa using hl
                  have HS9 : Hid (s1 = min (IntKind.i64.wrap (s0 + lv)) 1000000000) := by have := HSI.out; rw [if_pos hl] at this; exact this
                  have HLI2 := Lib.hid (HLI1.out hl ar cr C' w6 HC6.out HRR.out)
                  have hmin : min (IntKind.i64.wrap (s0 + lv)) 1000000000 = s1 := HS9.out.symm
                  clear hl
                  go_wp2_with fail
                  with_reducible refine HLI2.out.mono ?_
                  rintro e w7 ⟨rfl, hf7, C7, hc7⟩
                  have HC7 := Lib.hid hc7
                  have HFR7 : Hid (Fr N d W w7) := HFR6.out.trans hf7
                  have X7 := Lib.hid (hf7.bx X6.out HNB.out)
                  clear hf7 hc7 x0 x1 y0 y1
                  go_wp2_with fail
                  go_roundg (rl - (i + 1))
                  case measure => omega
                  case rel => exact ⟨i + 1, C7, by omega, by omega, by rw [HSU1.out, HS9.out, IntKind.wrap_i64]; first | rfl | simp [wrap64], by go_num, HFR7, HC7, X7⟩
                · have hlb : (lf == (A : Int)) = false := by simpa using hl
                  have HS9 : Hid (s1 = s0) := by have := HSI.out; rw [if_neg hl] at this; exact this
                  clear hl
                  go_wp2_with fail
                  go_roundg (rl - (i + 1))
                  case measure => omega
                  case rel => exact ⟨i + 1, C', by omega, by omega, by rw [HSU1.out, HS9.out], by go_num, HFR6, HC6, X6⟩
              · have hlt' : ¬ (i : Int) < (rl : Int) := by omega
                have hir : i = rl := by omega
                have HRE : Hid (SUM i = R) := by show _ = _; rw [hir, HSE.out]
                rw [HRE.out]
                obtain ⟨x0, x1⟩ := bx_cells2 X5.out
                obtain ⟨TT, hbx⟩ := HC5.out.ci.box
                obtain ⟨c0, c1, c2, c3, c4, c5, c6, c7⟩ := bx_cells8c hbx
                have q0 := HC5.out.ci.cnt.head hs2
                have q1 := HC5.out.ci.cnt.cell hs2 HKM.out
                have f1 := HC5.out.ci.cnt.free hs2 k
                rw [HM.out] at q0
                obtain ⟨cv2, HCV2⟩ := nameIt (C' A k)
                rw [HCV2.out] at q1
                obtain ⟨C9, hc9⟩ := (HC5.out.keep (Below.refl _ _).drew).store hs2 hk
                rw [← HVA.out] at hc9
                have hfn := HFN.out C9 _ ((HFR5.out.trans (Fr.of (Below.refl _ _).drew)).trans (Fr.set _ hs2 (.int .i64 R))) hc9
                have HF := Lib.hid hfn
                clear hfn hc9 hir hbx
                go_upto_region 16 with fail
                refine wp_region_still_tail 11 (by kernel_rfl) (by kernel_rfl) ?_
                simp only [List.take_succ_cons, List.take_zero, List.drop_succ_cons, List.drop_zero]
                change wpStill _ _ (World.drew _) _ _ _
                refine still_quiet _ _ ?_
                repeat (go_big_quiet_step (fail))
                refine wpQuiet_nil ?_
                change wpList _ _ _ _ _ (World.drew _)
                go_wp2_with fail
                first | exact HF.out | (go_ret; exact HF.out)
end Cs
end Go.Proofs.Ytbnpemgmdnghgaa
namespace Go.Proofs.Ytbnpemgmdnghgaa
open Go.RowKit

/-- the table in block bt is to have n rows; rows 0 .. hi - 1 are there: row k in block rb k, of m cells -/
structure Grd (tr te : TypeId) (B bt n m hi : Nat) (rb : Nat → Nat) (val : Nat → Nat → Value) (wr : World) : Prop where
  tb : ∃ cs, wr.heap[bt]? = some (.cells cs tr (0, 0)) ∧ cs.size = n ∧ ∀ k, k < hi → k < n → cs[k]? = some (.slice (some ⟨rb k, 0, none⟩) m m)
  row : ∀ k, k < hi → k < n → ∃ cs, wr.heap[rb k]? = some (.cells cs te (0, 0)) ∧ cs.size = m ∧ ∀ j, j < m → cs[j]? = some (val k j)
  inj : ∀ k k', k < hi → k' < hi → k < n → k' < n → rb k = rb k' → k = k'
  ne : ∀ k, k < hi → k < n → rb k ≠ bt ∧ B ≤ rb k
  bB : B ≤ bt
section
variable {tr te : TypeId} {B bt n m hi : Nat} {rb : Nat → Nat} {val : Nat → Nat → Value} {wr w' : World}
theorem Grd.lt (h : Grd tr te B bt n m hi rb val wr) : bt < wr.heap.size := by
  obtain ⟨cs, h1, _⟩ := h.tb
  exact (Array.getElem?_eq_some_iff.1 h1).1
theorem Grd.rlt (h : Grd tr te B bt n m hi rb val wr) {k : Nat} (hk : k < hi) (hn : k < n) : rb k < wr.heap.size := by
  obtain ⟨cs, h1, _⟩ := h.row k hk hn
  exact (Array.getElem?_eq_some_iff.1 h1).1
theorem Grd.grown {row : Option Nat} (h : Grd tr te B bt n m hi rb val wr) (hg : wr.grownBy w' row) (hr : ∀ k, row = some k → k ≠ bt ∧ ∀ i, i < hi → i < n → rb i ≠ k) : Grd tr te B bt n m hi rb val w' := by
  obtain ⟨⟨cs, h1, h2, h3⟩, h4, h5, h6, h7⟩ := h
  refine ⟨⟨cs, ?_, h2, h3⟩, fun k hk hn => ?_, h5, h6, h7⟩
  · rw [hg.block bt (Array.getElem?_eq_some_iff.1 h1).1 (fun e => (hr bt e.symm).1 rfl)]; exact h1
  · obtain ⟨rs, r1, r2⟩ := h4 k hk hn
    refine ⟨rs, ?_, r2⟩
    rw [hg.block (rb k) (Array.getElem?_eq_some_iff.1 r1).1 (fun e => (hr _ e.symm).2 k hk hn rfl)]; exact r1
theorem Grd.keep (h : Grd tr te B bt n m hi rb val wr) (hb : Below wr.heap.size wr w') : Grd tr te B bt n m hi rb val w' := h.grown (grown_below hb none) (fun k e => by cases e)
theorem Grd.hdr (h : Grd tr te B bt n m hi rb val wr) {k : Nat} (hk : k < hi) (hn : k < n) : wr.cell? ⟨bt, k, none⟩ = some (.slice (some ⟨rb k, 0, none⟩) m m) := by
  obtain ⟨cs, h1, h2, h3⟩ := h.tb
  simp [World.cell?, h1, h3 k hk hn]
theorem Grd.cell (h : Grd tr te B bt n m hi rb val wr) {k j : Nat} (hk : k < hi) (hn : k < n) (hj : j < m) : wr.cell? ⟨rb k, j, none⟩ = some (val k j) := by
  obtain ⟨cs, h1, h2, h3⟩ := h.row k hk hn
  simp [World.cell?, h1, h3 j hj]
theorem Grd.free (h : Grd tr te B bt n m hi rb val wr) {k : Nat} (hk : k < hi) (hn : k < n) (j : Nat) : wr.frozen? ⟨rb k, j, none⟩ = false := by
  obtain ⟨cs, h1, h2, h3⟩ := h.row k hk hn
  simp [World.frozen?, h1]
theorem Grd.hcell (h : Grd tr te B bt n m hi rb val wr) {k : Nat} (hn : k < n) : (∃ v, wr.cell? ⟨bt, k, none⟩ = some v) ∧ wr.frozen? ⟨bt, k, none⟩ = false := by
  obtain ⟨cs, h1, h2, h3⟩ := h.tb
  exact ⟨⟨cs[k]'(by omega), by simp [World.cell?, h1]⟩, by simp [World.frozen?, h1]⟩
/-- a value stored -/
theorem Grd.set (h : Grd tr te B bt n m hi rb val wr) {i j : Nat} (hi' : i < hi) (hin : i < n) (hj : j < m) (x : Value) : Grd tr te B bt n m hi rb (fun k l => if k = i ∧ l = j then x else val k l) (wr.setCell ⟨rb i, j, none⟩ x) := by
  obtain ⟨⟨cs, h1, h2, h3⟩, h4, h5, h6, h7⟩ := h
  refine ⟨⟨cs, bx_other h1 (fun e => (h6 i hi' hin).1 e.symm) _ _, h2, h3⟩, fun k hk hn => ?_, h5, h6, h7⟩
  obtain ⟨rs, r1, r2, r3⟩ := h4 k hk hn
  by_cases e : k = i
  · subst e
    refine ⟨rs.setIfInBounds j x, bx_set r1 _ _, by simpa using r2, fun l hl => ?_⟩
    rw [Array.getElem?_setIfInBounds]
    by_cases e2 : j = l
    · subst e2
      rw [if_pos rfl, if_pos (by omega)]; simp
    · rw [if_neg e2, r3 l hl]
      simp [show ¬ l = j from fun h => e2 h.symm]
  · refine ⟨rs, bx_other r1 (fun e2 => e (h5 k i hk hi' hn hin e2)) _ _, r2, fun l hl => ?_⟩
    rw [r3 l hl]; simp [e]
/-- a new row: laid, and its header stored -/
theorem Grd.add {z : Value} (h : Grd tr te B bt n m hi rb (fun _ _ => z) wr) (hi' : hi < n) (hB : B ≤ wr.heap.size) :
    Grd tr te B bt n m (hi + 1) (fun k => if k = hi then wr.heap.size else rb k) (fun _ _ => z) ((wr.alloc (.cells (madeCells #[z] m) te)).setCell ⟨bt, hi, none⟩ (.slice (some ⟨wr.heap.size, 0, none⟩) m m)) := by
  have hbt := h.lt
  have hrl := fun k hk hn => h.rlt (k := k) hk hn
  obtain ⟨⟨cs, h1, h2, h3⟩, h4, h5, h6, h7⟩ := h
  have hba : Below wr.heap.size wr (wr.alloc (.cells (madeCells #[z] m) te)) := (Below.refl _ _).alloc (Nat.le_refl _) _
  refine ⟨⟨cs.setIfInBounds hi (.slice (some ⟨wr.heap.size, 0, none⟩) m m), bx_set (bx_keep h1 hba) _ _, by simpa using h2, fun k hk hn => ?_⟩, fun k hk hn => ?_, fun k k' hk hk' hn hn' e => ?_, fun k hk hn => ?_, h7⟩
  · rw [Array.getElem?_setIfInBounds]
    by_cases e : hi = k
    · subst e
      rw [if_pos rfl, if_pos (by omega)]; simp
    · rw [if_neg e, h3 k (by omega) hn]
      simp [show ¬ k = hi from fun h => e h.symm]
  · by_cases e : k = hi
    · subst e
      refine ⟨madeCells #[z] m, ?_, size_madeCells _ _, fun j hj => made_at _ _ _ hj⟩
      simp only [if_true]
      exact bx_other (bx_new _ _ _ rfl) (by omega) _ _
    · obtain ⟨rs, r1, r2, r3⟩ := h4 k (by omega) hn
      refine ⟨rs, ?_, r2, r3⟩
      simp only [e, if_false]
      exact bx_other (bx_keep r1 hba) (h6 k (by omega) hn).1 _ _
  · by_cases e1 : k = hi <;> by_cases e2 : k' = hi <;> simp only [e1, e2, if_true, if_false] at e ⊢
    · have := hrl k' (by omega) hn'; omega
    · have := hrl k (by omega) hn; omega
    · exact h5 k k' (by omega) (by omega) hn hn' e
  · by_cases e : k = hi
    · subst e; simp only [if_true]; omega
    · simp only [e, if_false]; exact h6 k (by omega) hn
theorem Grd.eq {val' : Nat → Nat → Value} (h : Grd tr te B bt n m hi rb val wr) (he : ∀ k j, k < hi → k < n → j < m → val k j = val' k j) : Grd tr te B bt n m hi rb val' wr := by
  obtain ⟨h1, h4, h5, h6, h7⟩ := h
  refine ⟨h1, fun k hk hn => ?_, h5, h6, h7⟩
  obtain ⟨rs, r1, r2, r3⟩ := h4 k hk hn
  exact ⟨rs, r1, r2, fun j hj => by rw [r3 j hj, he k j hk hn hj]⟩
end
theorem Grd.start (tr te : TypeId) {B n m : Nat} {rb : Nat → Nat} {val : Nat → Nat → Value} {z : Value} (w : World) {bt : Nat} (hb : bt = w.heap.size) (hB : B ≤ w.heap.size) : Grd tr te B bt n m 0 rb val (w.alloc (.cells (madeCells #[z] n) tr)) := by
  subst hb
  exact ⟨⟨_, bx_new _ _ _ rfl, size_madeCells _ _, fun k hk => by omega⟩, fun k hk => by omega, fun k k' hk => by omega, fun k hk => by omega, hB⟩
end Go.Proofs.Ytbnpemgmdnghgaa
namespace Go.Proofs.Ytbnpemgmdnghgaa
open Go.RowKit
theorem Grd.other {tr te : TypeId} {B bt n m hi : Nat} {rb : Nat → Nat} {val : Nat → Nat → Value} {wr w' : World} (h : Grd tr te B bt n m hi rb val wr) (hs : ∀ k, B ≤ k → w'.heap[k]? = wr.heap[k]?) : Grd tr te B bt n m hi rb val w' := by
  obtain ⟨⟨cs, h1, h2, h3⟩, h4, h5, h6, h7⟩ := h
  refine ⟨⟨cs, by rw [hs _ h7]; exact h1, h2, h3⟩, fun k hk hn => ?_, h5, h6, h7⟩
  obtain ⟨rs, r1, r2⟩ := h4 k hk hn
  exact ⟨rs, by rw [hs _ (h6 k hk hn).2]; exact r1, r2⟩
namespace Cs

def wv (E : List (Nat × Nat)) (k i j : Nat) : Nat → Nat → Bool := fun a b => if a < i ∨ (a = i ∧ b < j) then fw E (k + 1) a b else fw E k a b
section
variable {E : List (Nat × Nat)} {sz k i j a b : Nat}
theorem wv_start {F : Nat → Nat → Bool} (ha : a < sz) (hb : b < sz) : F a b = wv (edg sz F) 0 0 0 a b := by
  unfold wv
  rw [if_neg (by omega), fw, Bool.eq_iff_iff, decide_eq_true_iff, edg_mem]
  exact ⟨fun h => ⟨ha, hb, h⟩, fun h => h.2.2⟩
theorem wv_col : wv E k i j a k = fw E k a k := by unfold wv; split; exact fw_row _ _; rfl
theorem wv_row : wv E k i j k b = fw E k k b := by unfold wv; split; exact fw_col _ _; rfl
theorem wv_self : wv E k i j i j = fw E k i j := by unfold wv; rw [if_neg (by omega)]
theorem wv_skip (h : fw E k i k = false) : wv E k i 0 a b = wv E k (i + 1) 0 a b := by
  unfold wv
  by_cases e : a = i
  · subst e
    rw [if_neg (by omega), if_pos (by omega), fw, h]
    simp
  · by_cases e2 : a < i
    · rw [if_pos (by omega), if_pos (by omega)]
    · rw [if_neg (by omega), if_neg (by omega)]
theorem wv_line (hb : b < sz) : wv E k i sz a b = wv E k (i + 1) 0 a b := by
  unfold wv
  by_cases e : a < i ∨ a = i
  · rw [if_pos (by omega), if_pos (by omega)]
  · rw [if_neg (by omega), if_neg (by omega)]
theorem wv_end (ha : a < sz) : wv E k sz 0 a b = wv E (k + 1) 0 0 a b := by
  unfold wv
  rw [if_pos (.inl ha), if_neg (by omega)]
theorem wv_next {v : Bool} (hv : v = (fw E k i j || (fw E k i k && fw E k k j))) : (if a = i ∧ b = j then v else wv E k i j a b) = wv E k i (j + 1) a b := by
  by_cases e : a = i ∧ b = j
  · rw [if_pos e, hv]
    obtain ⟨rfl, rfl⟩ := e
    unfold wv
    rw [if_pos (by omega), fw]
  · rw [if_neg e]
    unfold wv
    by_cases e2 : a < i ∨ (a = i ∧ b < j)
    · rw [if_pos e2, if_pos (by omega)]
    · rw [if_neg e2, if_neg (by omega)]
end
def mv (T : Nat → Nat → Bool) (sz m i j : Nat) : Nat → Nat → Bool := fun A k => manyK T (if A * m + k < i then sz else if A * m + k = i then j else 0) (A * m + k)
def mc (T : Nat → Nat → Bool) (i j : Nat) : Bool := (i == j || T i j) && T j j
theorem manyK_succ (T : Nat → Nat → Bool) (j u : Nat) : manyK T (j + 1) u = (manyK T j u || mc T u j) := by
  unfold manyK mc
  rw [List.range_succ, List.any_append]
  simp
section
variable {T : Nat → Nat → Bool} {sz m i j A k N : Nat}
theorem mv_zero : mv T sz m 0 0 A k = false := by
  unfold mv
  rw [if_neg (by omega)]
  split <;> rfl
theorem mv_line : mv T sz m i sz A k = mv T sz m (i + 1) 0 A k := by
  unfold mv
  by_cases e : A * m + k < i ∨ A * m + k = i
  · rw [if_pos (show A * m + k < i + 1 by omega)]
    split
    · rfl
    · rw [if_pos (by omega)]
  · rw [if_neg (show ¬ A * m + k < i by omega), if_neg (show ¬ A * m + k = i by omega), if_neg (show ¬ A * m + k < i + 1 by omega)]
    split <;> rfl
theorem mv_end {rules : List Rule} {S : Nat → Nat → Bool} {n : Nat} (hA : A < N) (hk : k < n + 1) : mv (clK rules S N n) (sizeK N n) (n + 1) (sizeK N n) 0 A k = MK rules S N n A k := by
  unfold mv MK
  rw [if_pos (node_lt hA (by omega))]
theorem node_at (hk : k < m) : A * m + k = i ↔ A = i / m ∧ k = i % m := by
  constructor
  · rintro rfl
    rw [Nat.mul_comm, Nat.mul_add_div (by omega), Nat.div_eq_of_lt hk, Nat.mul_add_mod, Nat.mod_eq_of_lt hk]
    exact ⟨rfl, rfl⟩
  · rintro ⟨rfl, rfl⟩
    rw [Nat.mul_comm]; exact Nat.div_add_mod i m
theorem mv_next (hk : k < m) : (if mc T i j = true then updB (mv T sz m i j) (i / m) (i % m) A k else mv T sz m i j A k) = mv T sz m i (j + 1) A k := by
  by_cases e : A * m + k = i
  · have e1 := (node_at hk).1 e
    have h1 : mv T sz m i j A k = manyK T j i := by unfold mv; rw [e, if_neg (by omega), if_pos rfl]
    have h2 : mv T sz m i (j + 1) A k = manyK T (j + 1) i := by unfold mv; rw [e, if_neg (by omega), if_pos rfl]
    rw [h2, manyK_succ]
    cases hc : mc T i j with
    | true =>
      rw [if_pos rfl]
      unfold updB
      rw [if_pos e1]; simp
    | false => rw [if_neg (by simp), h1]; simp
  · have e1 : ¬ (A = i / m ∧ k = i % m) := fun h => e ((node_at hk).2 h)
    have h2 : mv T sz m i (j + 1) A k = mv T sz m i j A k := by
      unfold mv
      by_cases e2 : A * m + k < i
      · rw [if_pos e2, if_pos e2]
      · rw [if_neg e2, if_neg e2, if_neg e, if_neg e]
    rw [h2]
    split
    · unfold updB; rw [if_neg e1]
    · rfl
end
section
variable {g : Gram} {vr : Value} {N n : Nat} {d : Cid} {S M M' : Nat → Nat → Bool} {C : Nat → Nat → Int} {W W' : World}
theorem CI.b2 (h : CI g vr N n d S M C W) : d.b2 ≤ W.heap.size := by
  have := h.lt
  have := h.many.pl
  have := h.cnt.pl
  have := h.le
  omega
theorem CI.eqM (h : CI g vr N n d S M C W) (he : ∀ a k, a < N → k < n + 1 → M a k = M' a k) : CI g vr N n d S M' C W :=
  ⟨h.box, h.some', h.many.eq fun a k ha hk => by rw [he a k ha hk], h.cnt, h.le⟩
theorem CI.setM (h : CI g vr N n d S M C W) {a k : Nat} (ha : a < N) (hk : k < n + 1) : CI g vr N n d S (updB M a k) C (W.setCell ⟨d.rm a, k, none⟩ (.bool true)) := by
  obtain ⟨⟨T, h1⟩, h2, h3, h4, h5⟩ := h
  have hne := h3.ne a ha
  have p2 := h2.pl
  have p3 := h3.pl
  have p4 := h4.pl
  refine ⟨⟨T, bx_other h1 (by omega) _ _⟩, h2.other fun j j1 j2 => Below.heap_setCell _ _ _ _ (by show j ≠ d.rm a; omega), ?_, h4.other fun j j1 j2 => Below.heap_setCell _ _ _ _ (by show j ≠ d.rm a; omega), h5⟩
  refine (h3.set ha hk (.bool true)).eq fun b l _ _ => ?_
  unfold updB
  show (if b = a ∧ l = k then _ else _) = _
  split <;> rfl
end
/-- the table of edges closed, the answers being written -/
structure LM (g : Gram) (vr : Value) (N n : Nat) (d : Cid) (S : Nat → Nat → Bool) (C : Nat → Nat → Int) (wB : World) (bt sz : Nat) (rb : Nat → Nat) (F M : Nat → Nat → Bool) (wr : World) : Prop where
  ci : CI g vr N n d S M C wr
  tab : Grd 51 4 wB.heap.size bt sz sz sz rb (fun a b => .bool (F a b)) wr
  bel : Below d.b2 wB wr
  lt : d.cb < wB.heap.size
section
variable {g : Gram} {vr : Value} {N n : Nat} {d : Cid} {S M M' : Nat → Nat → Bool} {C : Nat → Nat → Int} {W wB wr : World} {bt sz : Nat} {rb : Nat → Nat} {F : Nat → Nat → Bool}
theorem LM.b2 (h : LM g vr N n d S C wB bt sz rb F M wr) : d.b2 ≤ wr.heap.size := h.ci.b2
theorem LM.keep (h : LM g vr N n d S C wB bt sz rb F M wr) (hb : Below wr.heap.size wr W) : LM g vr N n d S C wB bt sz rb F M W := ⟨h.ci.keep hb, h.tab.keep hb, h.bel.trans (hb.mono h.b2), h.lt⟩
theorem LM.eqM (h : LM g vr N n d S C wB bt sz rb F M wr) (he : ∀ a k, a < N → k < n + 1 → M a k = M' a k) : LM g vr N n d S C wB bt sz rb F M' wr := ⟨h.ci.eqM he, h.tab, h.bel, h.lt⟩
theorem LM.set (h : LM g vr N n d S C wB bt sz rb F M wr) {a k : Nat} (ha : a < N) (hk : k < n + 1) : LM g vr N n d S C wB bt sz rb F (updB M a k) (wr.setCell ⟨d.rm a, k, none⟩ (.bool true)) := by
  have hne := h.ci.many.ne a ha
  have p4 := h.ci.cnt.pl
  have h5 := h.ci.le
  have h6 := h.lt
  exact ⟨h.ci.setM ha hk, h.tab.other fun j hj => Below.heap_setCell _ _ _ _ (by show j ≠ d.rm a; omega), h.bel.setCell (p := ⟨d.rm a, k, none⟩) hne.2.1 _, h.lt⟩
end
end Cs
end Go.Proofs.Ytbnpemgmdnghgaa
namespace Go.Proofs.Ytbnpemgmdnghgaa
open Go.RowKit
namespace Cs

def sumN (f : Nat → Nat) : Nat → Nat
  | 0 => 0
  | n + 1 => sumN f n + f n
theorem sumN_le {f g : Nat → Nat} : ∀ (n : Nat), (∀ i, i < n → f i ≤ g i) → sumN f n ≤ sumN g n
  | 0, _ => Nat.le_refl _
  | n + 1, h => Nat.add_le_add (sumN_le n fun i hi => h i (by omega)) (h n (by omega))
theorem sumN_lt {f g : Nat → Nat} : ∀ (n : Nat), (∀ i, i < n → f i ≤ g i) → (∃ i, i < n ∧ f i < g i) → sumN f n < sumN g n
  | 0, _, ⟨i, hi, _⟩ => absurd hi (Nat.not_lt_zero _)
  | n + 1, h, ⟨i, hi, hlt⟩ => by
    have h1 := sumN_le n fun i hi => h i (Nat.lt_succ_of_lt hi)
    have h2 := h n (Nat.lt_succ_self n)
    by_cases e : i = n
    · subst e
      show sumN f i + f i < sumN g i + g i
      omega
    · have h3 := sumN_lt n (fun i hi => h i (Nat.lt_succ_of_lt hi)) ⟨i, by omega, hlt⟩
      show sumN f n + f n < sumN g n + g n
      omega
/-- how many cells are not set -/
def cf (N m : Nat) (S : Nat → Nat → Bool) : Nat := sumN (fun a => sumN (fun k => if S a k = true then 0 else 1) m) N
theorem cf_upd {N m a b : Nat} {S : Nat → Nat → Bool} (ha : a < N) (hb : b < m) (h : S a b = false) : cf N m (updB S a b) < cf N m S := by
  have hle : ∀ i j, (if updB S a b i j = true then 0 else 1) ≤ (if S i j = true then 0 else 1) := by
    intro i j
    unfold updB
    by_cases e : i = a ∧ j = b
    · rw [if_pos e]; simp
    · rw [if_neg e]; exact Nat.le_refl _
  refine sumN_lt N (fun i _ => sumN_le m fun j _ => hle i j) ⟨a, ha, sumN_lt m (fun j _ => hle a j) ⟨b, hb, ?_⟩⟩
  simp only [updB_at, h]
  decide
/-- while a pass goes on -/
def PP (N m : Nat) (S0 : Nat → Nat → Bool) (st : (Nat → Nat → Bool) × Bool) : Prop := (st.2 = false → st.1 = S0) ∧ cf N m st.1 ≤ cf N m S0 ∧ (st.2 = true → cf N m st.1 < cf N m S0)
theorem fold_inv {α β : Type} {P : β → Prop} {f : β → α → β} : ∀ (l : List α) (b : β), (∀ a, a ∈ l → ∀ b, P b → P (f b a)) → P b → P (l.foldl f b)
  | [], _, _, h => h
  | a :: l, b, h, hb => fold_inv l (f b a) (fun x hx => h x (List.mem_cons_of_mem _ hx)) (h a List.mem_cons_self b hb)
theorem p1_inv {N m k : Nat} {S0 : Nat → Nat → Bool} {r : Rule} (hr : r.left.toNat < N) (hk : k < m) (st : (Nat → Nat → Bool) × Bool) (h : PP N m S0 st) : PP N m S0 (p1 r st k) := by
  unfold p1
  split
  · rename_i hc
    rw [Bool.and_eq_true] at hc
    have hf : st.1 r.left.toNat k = false := by simpa using hc.1
    have := cf_upd hr hk hf
    have := h.2.1
    exact ⟨(fun e => by cases e), by show cf N m (updB _ _ _) ≤ _; omega, fun _ => by show cf N m (updB _ _ _) < _; omega⟩
  · exact h
theorem p3_inv {N n : Nat} {S0 : Nat → Nat → Bool} {l : List Rule} (hl : ∀ r ∈ l, r.left.toNat < N) : PP N (n + 1) S0 (p3 n l S0) := by
  unfold p3
  refine fold_inv l _ (fun r hr st h => ?_) ⟨fun _ => rfl, Nat.le_refl _, fun e => by cases e⟩
  unfold p2
  exact fold_inv _ _ (fun k hk st h => p1_inv (hl r hr) (List.mem_range.1 hk) st h) h
theorem itP_snoc {n : Nat} {l : List Rule} : ∀ (q : Nat) (S : Nat → Nat → Bool), itP n l (q + 1) S = (p3 n l (itP n l q S)).1
  | 0, _ => rfl
  | q + 1, S => by rw [itP]; exact itP_snoc q _
theorem p2_next {n : Nat} {l : List Rule} {i : Nat} (hi : i < l.length) (st : (Nat → Nat → Bool) × Bool) : (l.take (i + 1)).foldl (p2 n) st = p2 n ((l.take i).foldl (p2 n) st) l[i] := by
  rw [List.take_succ_eq_append_getElem hi, List.foldl_append]; rfl
theorem CI.setS {g : Gram} {vr : Value} {N n : Nat} {d : Cid} {S M : Nat → Nat → Bool} {C : Nat → Nat → Int} {W : World} (h : CI g vr N n d S M C W) {a k : Nat} (ha : a < N) (hk : k < n + 1) : CI g vr N n d (updB S a k) M C (W.setCell ⟨d.rs a, k, none⟩ (.bool true)) := by
  obtain ⟨⟨T, h1⟩, h2, h3, h4, h5⟩ := h
  have hne := h2.ne a ha
  have p2 := h2.pl
  have p3 := h3.pl
  have p4 := h4.pl
  refine ⟨⟨T, bx_other h1 (by omega) _ _⟩, ?_, h3.other fun j j1 j2 => Below.heap_setCell _ _ _ _ (by show j ≠ d.rs a; omega), h4.other fun j j1 j2 => Below.heap_setCell _ _ _ _ (by show j ≠ d.rs a; omega), h5⟩
  refine (h2.set ha hk (.bool true)).eq fun b l _ _ => ?_
  unfold updB
  show (if b = a ∧ l = k then _ else _) = _
  split <;> rfl
/-- the table where the passes end is one and the same -/
theorem itP_add {n : Nat} {l : List Rule} : ∀ (q p : Nat) (S : Nat → Nat → Bool), itP n l (q + p) S = itP n l p (itP n l q S)
  | 0, p, S => by rw [Nat.zero_add]; rfl
  | q + 1, p, S => by rw [Nat.succ_add]; exact itP_add q p _
theorem itP_still {n : Nat} {l : List Rule} {N : Nat} (hl : ∀ r ∈ l, r.left.toNat < N) {S : Nat → Nat → Bool} (h : (p3 n l S).2 = false) : ∀ q, itP n l q S = S
  | 0 => rfl
  | q + 1 => by rw [itP_snoc, itP_still hl h q]; exact (p3_inv (N := N) hl).1 h
theorem done_eq {n : Nat} {l : List Rule} {N : Nat} (hl : ∀ r ∈ l, r.left.toNat < N) {S S0 : Nat → Nat → Bool} {q p : Nat} (hq : S = itP n l q S0) (h1 : (p3 n l S).2 = false) (h2 : (p3 n l (itP n l p S0)).2 = false) : S = itP n l p S0 := by
  rcases Nat.le_total q p with h | h
  · obtain ⟨x, rfl⟩ := Nat.exists_eq_add_of_le h
    rw [itP_add, ← hq, itP_still hl h1]
  · obtain ⟨x, rfl⟩ := Nat.exists_eq_add_of_le h
    rw [hq, itP_add, itP_still hl h2]
end Cs
end Go.Proofs.Ytbnpemgmdnghgaa
