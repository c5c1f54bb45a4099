/- doc.sound, doc.Check. -/
import Derived.Test.YtgpikophndbmeaaDocWalk
import Derived.Shelf.GgClosure.StringsIndexFuncTop
import Derived.Shelf.Lay
import Derived.Ground.GgwProg
import Derived.Deep.DeepCutAuto
import Derived.Deep.CutBlock
namespace Go.Proofs.Ytgpikophndbmeaa
open Go.RowKit Go.Shelf
shelf_lay LaysGw.n15 Ggw 15 at Try as Try.laysIdxF
namespace Dc

/-- a byte that is printed -/
def okB (b : UInt8) : Bool := decide (32 ≤ b.toNat) && decide (b.toNat ≤ 126)
def prB (s : ByteArray) : Bool := s.data.toList.all okB
def badR (r : Nat) : Bool := decide (r < 32) || decide (126 < r)
theorem decode_one {s : ByteArray} {i : Nat} (h : (s.get! i).toNat < 128) : Utf8.decode s i = ((s.get! i).toNat, 1) := by
  unfold Utf8.decode
  simp [h]
theorem decode_big {s : ByteArray} {i : Nat} (h : ¬ (s.get! i).toNat < 128) : 126 < (Utf8.decode s i).1 := by
  unfold Utf8.decode
  simp only [Nat.add_zero, h, if_false]
  split
  · split <;> simp [Utf8.runeError] <;> omega
  · split
    · split
      · rename_i hx; simp at hx ⊢; omega
      · simp [Utf8.runeError]
    · split
      · split
        · rename_i hx; simp at hx ⊢; omega
        · simp [Utf8.runeError]
      · simp [Utf8.runeError]
theorem get_drop {s : ByteArray} {i : Nat} (h : i < s.size) : s.data.toList.drop i = s.get! i :: s.data.toList.drop (i + 1) := by
  have h' : i < s.data.toList.length := by simpa using h
  rw [List.drop_eq_getElem_cons h']
  congr 1
  have h2 : i < s.data.size := h
  show _ = s.data[i]!
  rw [getElem!_pos s.data i h2]
  simp
theorem idx_all (s : ByteArray) : ∀ (f pos : Nat), s.size ≤ pos + f → (Lib.idxFuncFrom badR true s f pos < 0 ↔ (s.data.toList.drop pos).all okB = true)
  | 0, pos, h => by
    have : s.data.toList.drop pos = [] := List.drop_eq_nil_of_le (by simpa using h)
    rw [this]; simp [Lib.idxFuncFrom]
  | f + 1, pos, h => by
    by_cases hp : pos < s.size
    · rw [Lib.idxFuncFrom, if_pos hp, get_drop hp, List.all_cons]
      by_cases h1 : (s.get! pos).toNat < 128
      · rw [decode_one h1]
        by_cases h2 : badR (s.get! pos).toNat = true
        · simp only [h2, if_true]
          have : okB (s.get! pos) = false := by
            unfold badR at h2; unfold okB
            simp at h2 ⊢
            omega
          rw [this]; simp
        · have h3 : okB (s.get! pos) = true := by
            unfold badR at h2; unfold okB
            simp at h2 ⊢
            omega
          simp only [h2, h3, Bool.true_and]
          simpa using idx_all s f (pos + 1) (by omega)
      · have h2 : badR (Utf8.decode s pos).1 = true := by unfold badR; have := decode_big h1; simp; omega
        have h3 : okB (s.get! pos) = false := by unfold okB; simp; omega
        simp only [h2, h3, if_true]
        simp
    · have : s.data.toList.drop pos = [] := List.drop_eq_nil_of_le (by simpa using hp)
      rw [this, Lib.idxFuncFrom, if_neg hp]; simp
theorem idx_pr (s : ByteArray) : decide (Lib.idxFunc badR true s < 0) = prB s := by
  have h := idx_all s s.size 0 (by omega)
  rw [List.drop_zero] at h
  cases h2 : prB s with
  | true => exact decide_eq_true (h.2 h2)
  | false => exact decide_eq_false fun h3 => by have h4 := h.1 h3; unfold prB at h2; rw [h2] at h4; cases h4
theorem badE (w : World) : PredAt Try.prog 33 #[] encR badR w := fun W r _ => by
  unfold FnGives
  by_cases h1 : r < 32 <;> by_cases h2 : 126 < r
  all_goals
    have z1 : (r : Int) < 32 ↔ r < 32 := by omega
    have z2 : (126 : Int) < (r : Int) ↔ 126 < r := by omega
    go_enter Try.func33, Try.ntmps33
    go_wp2
    all_goals first | (exfalso; omega) | (go_ret; exact ⟨by simp [badR, h1, h2], 0, rfl⟩)
theorem idxFuncE (s : ByteArray) (w : World) : Calls Try.prog 32 #[.string s, .func (.func 33) #[] #[]] w fun e w' => e = .returned (.int .i64 (Lib.idxFunc badR true s)) ∧ Below w.heap.size w w' :=
  Any.strings_IndexFunc Try.laysIdxF 33 #[] (enters_of Try.func33 (by kernel_rfl) rfl) badR s w (badE w)

theorem txE (s : ByteArray) : s.toList.isEmpty = decide (s = ⟨#[]⟩) := by
  rw [ByteArray.toList_eq]
  by_cases h : s = ⟨#[]⟩
  · subst h; rfl
  · rw [decide_eq_false h]
    obtain ⟨⟨l⟩⟩ := s
    cases l with
    | nil => exact absurd rfl h
    | cons a l => rfl
/-- a node that is valid -/
def argsB (t : Doc) : Bool := if t.kind = 4 then true else if t.kind = 5 ∨ t.kind = 6 then decide (t.kids.length = 1) else decide (t.kids.length = 0)
def textB (t : Doc) : Bool := if t.kind = 0 then decide (t.txt.size ≤ 60) && prB t.txt else decide (t.txt = ⟨#[]⟩)
def indB (t : Doc) : Bool := if t.kind = 5 then decide (0 ≤ t.n) && decide (t.n ≤ 20) else decide (t.n = 0)
def okD (t : Doc) : Bool := decide (0 ≤ t.kind) && decide (t.kind ≤ 6) && argsB t && textB t && indB t
set_option maxHeartbeats 2000000 in
theorem soundE (t : Doc) (v : Value) (w : World) (hv : Rd AnyB w (.sl (t.kids.map Doc.d)) [v]) :
    Calls Try.prog 22 #[.agg #[.int .i64 t.kind, .string t.txt, .int .i64 t.n, v]] w fun e w' => e = .returned (.bool (okD t)) ∧ Below w.heap.size w w' := by
  obtain ⟨a, cap, rfl, hc1, hc2⟩ := hv.form
  unfold maxLen at hc2
  obtain ⟨w1, HW1⟩ := nameIt (w.alloc (.cells #[.int .i64 t.kind, .string t.txt, .int .i64 t.n, .slice a (t.kids.map Doc.d).length cap] 24))
  have hb1 : Below w.heap.size w w1 := by rw [← HW1.out]; exact (Below.refl _ _).alloc (Nat.le_refl _) _
  have hx1 : w1.heap[w.heap.size]? = some (.cells #[.int .i64 t.kind, .string t.txt, .int .i64 t.n, .slice a (t.kids.map Doc.d).length cap] 24 (0, 0)) := by rw [← HW1.out]; exact bx_new _ _ _ rfl
  have HB1 := Lib.hid hb1
  obtain ⟨PST, HP⟩ := nameIt (fun (e : Ending) (w' : World) => e = .returned (.bool (okD t)) ∧ Below w.heap.size w w')
  have HFIN : Hid (∀ w', Below w1.heap.size w1 w' → PST (.returned (.bool (okD t))) w') := fun w' h2 => by rw [← HP.out]; exact ⟨rfl, HB1.out.trans (h2.mono HB1.out.size)⟩
  rw [HP.out]
  have HX1 := Lib.hid hx1
  obtain ⟨x0, x1, x2, x3⟩ := bx_cells4d hx1
  obtain ⟨nk, HNK⟩ := nameIt (t.kids.map Doc.d).length
  have HKL : Hid (t.kids.length = nk) := by show _ = _; rw [← HNK.out, List.length_map]
  obtain ⟨AB, HAB⟩ := nameIt (argsB t)
  obtain ⟨TB, HTB⟩ := nameIt (textB t)
  obtain ⟨IB, HIB⟩ := nameIt (indB t)
  have hok : okD t = (decide (0 ≤ t.kind) && decide (t.kind ≤ 6) && AB && TB && IB) := by unfold okD; rw [HAB.out, HTB.out, HIB.out]
  rw [hok] at HFIN
  unfold argsB at HAB
  unfold textB at HTB
  unfold indB at HIB
  rw [HKL.out] at HAB
  obtain ⟨tk, HTK⟩ := nameIt t.kind
  rw [HNK.out, HTK.out] at HW1 HX1
  rw [HNK.out] at x3 hc1
  rw [HNK.out]
  rw [HTK.out] at x0 HAB HTB HIB HFIN
  rw [HTK.out]
  obtain ⟨tx, HTX⟩ := nameIt t.txt
  rw [HTX.out] at HW1 x1 HTB HX1
  rw [HTX.out]
  obtain ⟨tn, HTN⟩ := nameIt t.n
  rw [HTN.out] at HW1 x2 HIB HX1
  rw [HTN.out]
  clear hb1 hx1 hok hv
  go_enter Try.func22, Try.ntmps22
  go_upto_region 1 with fail
  rw [HW1.out]
  go_upto_block 0 with fail
  go_cut [4] (fun t4 wx => t4 = .bool AB ∧ w1 = wx)
  case first =>
    by_cases k4 : tk = 4
    · have h := HAB.out
      rw [if_pos k4] at h
      subst k4 h
      go_wp2_with fail
      go_meet
      exact ⟨rfl, rfl⟩
    · have k4' : (tk == 4) = false := by simpa using k4
      have h := HAB.out
      rw [if_neg k4] at h
      clear HAB HTB HIB HFIN
      by_cases k5 : tk = 5
      · rw [if_pos (.inl k5)] at h
        subst k5
        by_cases hn : nk = 1
        · subst hn
          simp at h
          subst h
          go_wp2_with fail
          go_meet
          exact ⟨rfl, rfl⟩
        · have h1 : ((nk : Int) == 1) = false := by simp; omega
          simp [hn] at h
          subst h
          go_wp2_with fail
          go_meet
          exact ⟨rfl, rfl⟩
      · have k5' : (tk == 5) = false := by simpa using k5
        by_cases k6 : tk = 6
        · rw [if_pos (.inr k6)] at h
          subst k6
          by_cases hn : nk = 1
          · subst hn
            simp at h
            subst h
            go_wp2_with fail
            go_meet
            exact ⟨rfl, rfl⟩
          · have h1 : ((nk : Int) == 1) = false := by simp; omega
            simp [hn] at h
            subst h
            go_wp2_with fail
            go_meet
            exact ⟨rfl, rfl⟩
        · have k6' : (tk == 6) = false := by simpa using k6
          rw [if_neg (by omega)] at h
          by_cases hn : nk = 0
          · subst hn
            simp at h
            subst h
            go_wp2_with fail
            go_meet
            exact ⟨rfl, rfl⟩
          · have h1 : ((nk : Int) == 0) = false := by simp; omega
            simp [hn] at h
            subst h
            go_wp2_with fail
            go_meet
            exact ⟨by rw [h1], rfl⟩
  case rest =>
    obtain ⟨rfl, rfl⟩ := hcut
    clear HAB x3
    go_upto_if 26 with fail
    go_cut [5] (fun t5 wx => t5 = .bool TB ∧ Hid (Below w1.heap.size w1 wx))
    case first =>
      have h := HTB.out
      by_cases k0 : tk = 0
      · rw [if_pos k0] at h
        subst k0
        by_cases hs : tx.size ≤ 60
        · have hs' : (tx.size : Int) ≤ 60 := by omega
          rw [decide_eq_true hs, Bool.true_and, ← idx_pr] at h
          have HC := Lib.hid (idxFuncE tx w1)
          obtain ⟨J, HJ⟩ := nameIt (Lib.idxFunc badR true tx)
          rw [HJ.out] at h HC
          clear HTB HIB HFIN
          go_wp2_with fail
          with_reducible refine HC.out.mono ?_
          rintro e w2 ⟨rfl, hb2⟩
          have HB2 := Lib.hid hb2
          clear hb2
          go_wp2_with fail
          go_meet
          exact ⟨by rw [← h], HB2⟩
        · have hs' : ¬ (tx.size : Int) ≤ 60 := by omega
          rw [decide_eq_false hs, Bool.false_and] at h
          subst h
          clear HTB HIB HFIN
          go_wp2_with fail
          go_meet
          exact ⟨rfl, Below.refl _ _⟩
      · rw [if_neg k0] at h
        have k0' : (tk == 0) = false := by simpa using k0
        clear HTB HIB HFIN
        go_wp2_with fail
        go_meet
        exact ⟨by rw [← h]; exact congrArg Value.bool (txE tx), Below.refl _ _⟩
    case rest =>
      clear x0 x1 x2 HTB
      obtain ⟨rfl, HB2⟩ := hcut
      obtain ⟨w2, rfl⟩ : ∃ ww : World, ww = wc := ⟨_, rfl⟩
      obtain ⟨x0, x1, x2, x3⟩ := bx_cells4d (bx_keep HX1.out HB2.out)
      clear x1 x3
      go_upto_if 42 with fail
      go_cut [6] (fun t6 wx => t6 = .bool IB ∧ w2 = wx)
      case first =>
        have h := HIB.out
        by_cases k5 : tk = 5
        · rw [if_pos k5] at h
          subst k5
          clear HIB HFIN
          by_cases h1 : 0 ≤ tn
          · rw [decide_eq_true h1, Bool.true_and] at h
            go_wp2_with fail
            go_meet
            exact ⟨by rw [← h], rfl⟩
          · rw [decide_eq_false h1, Bool.false_and] at h
            subst h
            go_wp2_with fail
            go_meet
            exact ⟨rfl, rfl⟩
        · rw [if_neg k5] at h
          have k5' : (tk == 5) = false := by simpa using k5
          clear HIB HFIN
          go_wp2_with fail
          go_meet
          exact ⟨by rw [← h]; rfl, rfl⟩
      case rest =>
        clear x2 HIB
        obtain ⟨rfl, rfl⟩ := hcut
        have HE := Lib.hid (HFIN.out w2 HB2.out)
        clear HFIN
        by_cases h1 : 0 ≤ tk
        · by_cases h2 : tk ≤ 6
          · rw [decide_eq_true h1, decide_eq_true h2, Bool.true_and, Bool.true_and] at HE
            cases AB with
            | false =>
              rw [Bool.false_and, Bool.false_and] at HE
              go_wp2_with fail
              exact HE.out
            | true =>
              rw [Bool.true_and] at HE
              cases TB with
              | false =>
                rw [Bool.false_and] at HE
                go_wp2_with fail
                exact HE.out
              | true =>
                rw [Bool.true_and] at HE
                go_wp2_with fail
                exact HE.out
          · rw [decide_eq_true h1, decide_eq_false h2, Bool.and_false, Bool.false_and, Bool.false_and, Bool.false_and] at HE
            go_wp2_with fail
            exact HE.out
        · rw [decide_eq_false h1, Bool.false_and, Bool.false_and, Bool.false_and, Bool.false_and] at HE
          go_wp2_with fail
          exact HE.out

theorem soundNode (w0 : World) (N : Nat) : NodeFn 22 #[] w0 (fun _ => okD) N (fun _ S W => Below w0.heap.size w0 W ∧ ∀ k, ¬ S k) := by
  refine ⟨fun h => h.1, fun h k hk => absurd hk (h.2 k), fun h hb => ⟨h.1.trans (hb.mono h.1.size), h.2⟩, fun s S W t v hI hv _ => ?_⟩
  refine (soundE t v W (hv.below hI.1)).mono ?_
  rintro e w' ⟨rfl, hb⟩
  exact ⟨S, rfl, ⟨hI.1.trans (hb.mono hI.1.size), hI.2⟩, Below.keeps hb, fun k h => .inl h⟩
end Dc
end Go.Proofs.Ytgpikophndbmeaa
