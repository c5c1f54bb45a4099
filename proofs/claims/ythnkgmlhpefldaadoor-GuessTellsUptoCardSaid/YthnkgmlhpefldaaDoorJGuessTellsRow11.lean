/- For every input of bulk at most 1048576 the law GuessTells returns true, and its arguments read afterwards as before. Condition: the bulk of the arguments. -/
import Derived.Test.YthnkgmlhpefldaaDoorJGuessTellsRow10
import Derived.Deep.CutBlock
import Derived.Deep.DeepCutAuto
import Derived.Deep.CutRange
import Derived.Test.YthnkgmlhpefldaaDoorRows
import Derived.Test.YthnkgmlhpefldaaDoorJGuessTellsRow1
import Derived.ChangeArms
import Derived.ChangeSame
import Derived.SizedLaws
import Derived.Deep.Slices
import Derived.OpenShut
import Derived.ChangeOld
import Derived.Carry
import Derived.JoinedCond
import Derived.Test.YthnkgmlhpefldaaDoorCards
import Derived.Test.YthnkgmlhpefldaaDoorTie
import Derived.WalkKit
import Derived.ProofKit
import Derived.Deep.DeepHandedRow
import Derived.Lib.LaidTab
namespace Go.Proofs.YthnkgmlhpefldaaDoor
open Go.RowKit
namespace Gs
open Lg

def f0G (T N : Int) (a b : Nat) : Int := if T < 1 ∨ 2 < T ∨ N < 1 ∨ 2 < N then 1 else if 6 < a ∨ 6 < b then 2 else 0
def fs (T f s : Int) : Int := if f ≠ 0 then f else if badT T s then 1 else 0
def fh (f : Int) (n : Nat) : Int := if f ≠ 0 then f else if 5 < n then 2 else 0
def fw (T f : Int) (w : List Int) : Int := w.foldl (fs T) (fh f w.length)
def fc (yes : List (List Int)) (f : Int) (w : List Int) : Int := if f ≠ 0 then f else if yes.any (fun v => v == w) then 8 else 0
theorem fs_keep {T f : Int} (h : f ≠ 0) : ∀ (w : List Int), w.foldl (fs T) f = f
  | [] => rfl
  | x :: w => by rw [List.foldl_cons, show fs T f x = f by unfold fs; rw [if_pos h]]; exact fs_keep h w
theorem fs_zero {T : Int} : ∀ (w : List Int), w.foldl (fs T) 0 = if w.any (badT T) then 1 else 0
  | [] => rfl
  | x :: w => by
    rw [List.foldl_cons]
    by_cases h : badT T x = true
    · rw [show fs T 0 x = 1 by unfold fs; rw [if_neg (by simp), if_pos h], fs_keep (by decide)]
      simp [h]
    · rw [show fs T 0 x = 0 by unfold fs; rw [if_neg (by simp), if_neg h], fs_zero w]
      simp [h]
theorem fw_keep {T f : Int} (h : f ≠ 0) (w : List Int) : fw T f w = f := by
  unfold fw fh; rw [if_pos h]; exact fs_keep h w
theorem fw_zero {T : Int} {w : List Int} : fw T 0 w = if 5 < w.length then 2 else if w.any (badT T) then 1 else 0 := by
  unfold fw fh
  rw [if_neg (by simp)]
  by_cases h : 5 < w.length
  · rw [if_pos h, if_pos h, fs_keep (by decide)]
  · rw [if_neg h, if_neg h, fs_zero]
theorem fwl_keep {T f : Int} (h : f ≠ 0) : ∀ l : List (List Int), l.foldl (fw T) f = f
  | [] => rfl
  | w :: l => by rw [List.foldl_cons, fw_keep h]; exact fwl_keep h l
theorem fwl_zero {T : Int} : ∀ l : List (List Int), l.foldl (fw T) 0 = wErr T l
  | [] => rfl
  | w :: l => by
    rw [List.foldl_cons, fw_zero, wErr]
    by_cases h : 5 < w.length
    · rw [if_pos h, if_pos h, fwl_keep (by decide)]
    · rw [if_neg h, if_neg h]
      by_cases h2 : w.any (badT T) = true
      · rw [if_pos h2, if_pos h2, fwl_keep (by decide)]
      · rw [if_neg h2, if_neg h2, fwl_zero l]
theorem fcl_keep {yes : List (List Int)} {f : Int} (h : f ≠ 0) : ∀ l : List (List Int), l.foldl (fc yes) f = f
  | [] => rfl
  | w :: l => by rw [List.foldl_cons, show fc yes f w = f by unfold fc; rw [if_pos h]]; exact fcl_keep h l
theorem fcl_zero {yes : List (List Int)} : ∀ l : List (List Int), l.foldl (fc yes) 0 = if l.any (fun w => yes.any fun v => v == w) then 8 else 0
  | [] => rfl
  | w :: l => by
    rw [List.foldl_cons]
    by_cases h : (yes.any fun v => v == w) = true
    · rw [show fc yes 0 w = 8 by unfold fc; rw [if_neg (by simp), if_pos h], fcl_keep (by decide)]
      rw [List.any_cons, h]; rfl
    · rw [show fc yes 0 w = 0 by unfold fc; rw [if_neg (by simp), if_neg h], fcl_zero l]
      rw [List.any_cons]
      simp only [Bool.not_eq_true] at h
      rw [h, Bool.false_or]
theorem any_swap (yes no : List (List Int)) : (no.any fun w => yes.any fun v => v == w) = yes.any (hasW no) := by
  rw [Bool.eq_iff_iff]
  simp only [List.any_eq_true, hasW]
  constructor
  · rintro ⟨w, hw, v, hv, e⟩
    exact ⟨v, hv, w, hw, by rw [beq_iff_eq] at e ⊢; exact e.symm⟩
  · rintro ⟨v, hv, w, hw, e⟩
    exact ⟨w, hw, v, hv, by rw [beq_iff_eq] at e ⊢; exact e.symm⟩
theorem f_all (T N : Int) (yes no : List (List Int)) : no.foldl (fc yes) ((yes ++ no).foldl (fw T) (f0G T N yes.length no.length)) = gErr T N yes no := by
  unfold f0G gErr
  by_cases h : T < 1 ∨ 2 < T ∨ N < 1 ∨ 2 < N
  · rw [if_pos h, if_pos h, fwl_keep (by decide), fcl_keep (by decide)]
  · rw [if_neg h, if_neg h]
    unfold chk
    by_cases h6 : 6 < yes.length ∨ 6 < no.length
    · rw [if_pos h6, if_pos h6, fwl_keep (by decide), fcl_keep (by decide)]
    · rw [if_neg h6, if_neg h6, fwl_zero]
      by_cases hw : wErr T (yes ++ no) = 0
      · rw [hw, fcl_zero, any_swap, if_neg (show ¬ ((0 : Int) ≠ 0) by simp)]
      · rw [fcl_keep hw, if_pos hw]
theorem gErr_ok {T N : Int} {yes no : List (List Int)} (h : gErr T N yes no = 0) : 1 ≤ T ∧ T ≤ 2 ∧ 1 ≤ N ∧ N ≤ 2 ∧ wordOk T yes ∧ wordOk T no := by
  unfold gErr at h
  by_cases hb : T < 1 ∨ 2 < T ∨ N < 1 ∨ 2 < N
  · rw [if_pos hb] at h; cases h
  · rw [if_neg hb] at h
    obtain ⟨h1, h2⟩ := chk_ok h
    exact ⟨by omega, by omega, by omega, by omega, h1, h2⟩
theorem gF_len {fit : List Rule → Bool} {L : List Rule} : ∀ {n : Nat} {r : List Rule}, gF fit L n = some r → r.length < n
  | 0, r, h => by cases h
  | n + 1, r, h => by
    rw [gF] at h
    rcases Option.or_eq_some_iff.1 h with h | ⟨_, h⟩
    · have := gF_len h; omega
    · have := (fF_sub n 0 [] r (Nat.zero_le _) (List.nil_sublist _) (by rw [List.drop_zero]; exact h)).2.1
      simp at this; omega
theorem GofR.keep {T N : Int} {yes no : List (List Int)} {y0 y1 y2 : Int} {a : Option Addr} {k c : Nat} {er : Int} {w w' : World} (h : GofR T N yes no y0 y1 y2 a k c er w) (hb : Below w.heap.size w w') : GofR T N yes no y0 y1 y2 a k c er w' := by
  rcases h with h | ⟨h1, h | ⟨r, h2, h3, h4, h5, h6, h7, h8⟩⟩
  · exact .inl h
  · exact .inr ⟨h1, .inl h⟩
  · exact .inr ⟨h1, .inr ⟨r, h2, h3, h4, h5, h6, h7, h8.below hb⟩⟩
theorem wordsLit0 {W : World} {g1 g2 : Nat} (h1 : W.heap[g1]? = some (.cells #[.int .i64 0] 3 (0, 0))) (h2 : W.heap[g2]? = some (.cells #[.slice (some ⟨g1, 0, none⟩) 1 1] 29 (0, 0))) : Rd AnyB W (.sl ([[0]].map D.ints)) [.slice (some ⟨g2, 0, none⟩) 1 1] :=
  rd_of_own (own_of_block h2 (n := 1) (size := 1) rfl (by simp [maxLen])) (RdAll.one (rd_of_own (own_of_block h1 (n := 1) (size := 1) rfl (by simp [maxLen])) ((rdAll_ints [0] _).2 rfl) rfl (fun _ _ => trivial))) rfl (fun _ _ => trivial)
theorem wordsLit1 {W : World} {g1 g2 : Nat} (h1 : W.heap[g1]? = some (.cells #[] 3 (0, 0))) (h2 : W.heap[g2]? = some (.cells #[.slice (some ⟨g1, 0, none⟩) 0 0] 29 (0, 0))) : Rd AnyB W (.sl ([[]].map D.ints)) [.slice (some ⟨g2, 0, none⟩) 1 1] :=
  rd_of_own (own_of_block h2 (n := 1) (size := 1) rfl (by simp [maxLen])) (RdAll.one (rd_of_own (own_of_block h1 (n := 0) (size := 1) rfl (by simp [maxLen])) ((rdAll_ints [] _).2 rfl) rfl (fun _ _ => trivial))) rfl (fun _ _ => trivial)
set_option maxHeartbeats 16000000 in
set_option maxRecDepth 100000 in
theorem lawGT (T N : Int) (yes no : List (List Int)) (hyl : yes.length ≤ 1048576) (hnl : no.length ≤ 1048576) (ya na : Option Addr) (yc nc : Nat) (w : World) (hy : Rd AnyB w (.sl (yes.map D.ints)) [.slice ya yes.length yc]) (hn : Rd AnyB w (.sl (no.map D.ints)) [.slice na no.length nc]) (hT : TabG w) :
    Calls Tryd.prog 3 #[.int .i64 T, .int .i64 N, .slice ya yes.length yc, .slice na no.length nc] w fun e w' => e = .returned (.bool true) ∧ Below w.heap.size w w' := by
  obtain ⟨PST, HP⟩ := nameIt (fun (e : Ending) (w' : World) => e = .returned (.bool true) ∧ Below w.heap.size w w')
  rw [HP.out]
  have HFIN : Hid (∀ w', Below w.heap.size w w' → PST (.returned (.bool true)) w') := by
    intro w' h1; rw [← HP.out]; exact ⟨rfl, h1⟩
  clear HP
  have bal : ∀ (W : World) (o : Obj), Below W.heap.size W (W.alloc o) := fun W o => (Below.refl _ _).alloc (Nat.le_refl _) _
  obtain ⟨w1, HW1⟩ := nameIt ((((w.alloc (.cells #[.int .i64 0] 3)).alloc (.cells #[.slice (some ⟨w.heap.size, 0, none⟩) 1 1] 29)).alloc (.cells #[] 3)).alloc (.cells #[.slice (some ⟨w.heap.size + 1 + 1, 0, none⟩) 0 0] 29))
  have hb1 : Below w.heap.size w w1 := by rw [← HW1.out]; exact ((((Below.refl _ _).alloc (Nat.le_refl _) _).alloc (by simp) _).alloc (by simp; omega) _).alloc (by simp; omega) _
  have Z0 : w1.heap[w.heap.size]? = some (.cells #[.int .i64 0] 3 (0, 0)) := by rw [← HW1.out]; exact bx_keep (bx_keep (bx_keep (bx_new _ _ _ rfl) (bal _ _)) (bal _ _)) (bal _ _)
  have Z1 : w1.heap[w.heap.size + 1]? = some (.cells #[.slice (some ⟨w.heap.size, 0, none⟩) 1 1] 29 (0, 0)) := by rw [← HW1.out]; exact bx_keep (bx_keep (bx_new _ _ _ (by simp)) (bal _ _)) (bal _ _)
  have Z2 : w1.heap[w.heap.size + 1 + 1]? = some (.cells #[] 3 (0, 0)) := by rw [← HW1.out]; exact bx_keep (bx_new _ _ _ (by simp)) (bal _ _)
  have Z3 : w1.heap[w.heap.size + 1 + 1 + 1]? = some (.cells #[.slice (some ⟨w.heap.size + 1 + 1, 0, none⟩) 0 0] 29 (0, 0)) := by rw [← HW1.out]; exact bx_new _ _ _ (by simp)
  have HO1 : Hid (Calls Tryd.prog 4 #[.int .i64 1, .int .i64 1, .slice (some ⟨w.heap.size + 1, 0, none⟩) 1 1, .slice (some ⟨w.heap.size + 1 + 1 + 1, 0, none⟩) 1 1] w1 fun e w' => ∃ (b o : Nat) (cap : Nat) (ua : Option Addr) (uc : Nat), e = .returned (.tuple #[.agg #[.int .i64 1, .int .i64 1, .int .i64 0, .slice (some ⟨b, o, none⟩) 1 cap], .int .i64 0]) ∧ w'.cell? ⟨b, o + 1, none⟩ = some (.slice ua 1 uc) ∧ (1 ≤ cap ∧ cap ≤ 9223372036854775807) ∧ Below w1.heap.size w1 w') := by
    refine Calls.mono (gofE 1 1 [[0]] [[]] _ _ 1 1 w1 (wordsLit0 Z0 Z1) (wordsLit1 Z2 Z3) (hT.keep hb1)) ?_
    rintro e w' ⟨y0, y1, y2, a, k, c, er, rfl, hr, hb⟩
    rcases hr with ⟨h, _⟩ | ⟨_, h | ⟨r, h, rfl, rfl, rfl, rfl, rfl, hrd⟩⟩
    · exact absurd first_err h
    · have h1 := h.1
      rw [show LR (1 : Int).toNat (1 : Int).toNat = LR 1 1 from rfl, first_gF] at h1
      cases h1
    · rw [show LR (1 : Int).toNat (1 : Int).toNat = LR 1 1 from rfl, first_gF] at h
      cases h
      have hbd := hrd.bounds.2
      unfold maxLen at hbd
      obtain ⟨b, o, v, e1, -, -, -, s1, h2⟩ := hrd.rule_at (i := 0) (by simp)
      obtain ⟨ua, uc, rfl, -, -⟩ := h2.form
      cases e1
      exact ⟨b, o, c, ua, uc, rfl, by simpa using s1, by simpa using hbd, hb⟩
  have HB1 := Lib.hid hb1
  have HY := Lib.hid (hy.below hb1)
  have HN := Lib.hid (hn.below hb1)
  have HT := Lib.hid (hT.keep hb1)
  have HGO : Hid (∀ W, Below w1.heap.size w1 W → Calls Tryd.prog 4 #[.int .i64 T, .int .i64 N, .slice ya yes.length yc, .slice na no.length nc] W (GofPost T N yes no W)) := fun W h => gofE T N yes no ya na yc nc W (HY.out.below h) (HN.out.below h) (HT.out.keep h)
  have HFA := Lib.hid (f_all T N yes no)
  have HGK : Hid (gErr T N yes no = 0 → 1 ≤ T ∧ T ≤ 2 ∧ 1 ≤ N ∧ N ≤ 2 ∧ wordOk T yes ∧ wordOk T no) := gErr_ok
  have hbd := hy.bounds.2
  have hbn := hn.bounds.2
  unfold maxLen at hbd hbn
  have HF00 : Hid (T < 1 ∨ 2 < T ∨ N < 1 ∨ 2 < N → f0G T N yes.length no.length = 1) := fun h => by unfold f0G; rw [if_pos h]
  have HF01 : Hid (¬ (T < 1 ∨ 2 < T ∨ N < 1 ∨ 2 < N) → 6 < yes.length ∨ 6 < no.length → f0G T N yes.length no.length = 2) := fun h h2 => by unfold f0G; rw [if_neg h, if_pos h2]
  have HF02 : Hid (¬ (T < 1 ∨ 2 < T ∨ N < 1 ∨ 2 < N) → ¬ (6 < yes.length ∨ 6 < no.length) → f0G T N yes.length no.length = 0) := fun h h2 => by unfold f0G; rw [if_neg h, if_neg h2]
  obtain ⟨GE, HGE⟩ := nameIt (gErr T N yes no)
  rw [HGE.out] at HFA HGK
  obtain ⟨F0, HF0N⟩ := nameIt (f0G T N yes.length no.length)
  rw [HF0N.out] at HFA HF00 HF01 HF02
  obtain ⟨yl, HYL⟩ := nameIt yes.length
  obtain ⟨nl, HNL⟩ := nameIt no.length
  rw [HYL.out] at hyl hbd HF01 HF02 HY
  rw [HNL.out] at hnl hbn HF01 HF02 HN
  simp only [HYL.out, HNL.out] at HGO
  rw [HYL.out, HNL.out]
  obtain ⟨g0, HG0⟩ := nameIt w.heap.size
  clear hb1 Z0 Z1 Z2 Z3 hy hn hT bal
  go_enter Tryd.func3, Tryd.ntmps3
  go_wp2_with fail
  rw [HW1.out]
  refine HO1.out.mono ?_
  rintro e w2 ⟨pb, po, pcap, ua, uc, rfl, s1, hpc, hb2⟩
  obtain ⟨hpc1, hpc2⟩ := hpc
  have hpb := lt_of_cell s1
  obtain ⟨w3, HW3⟩ := nameIt (w2.alloc (.cells #[.int .i64 1, .int .i64 1, .int .i64 0, .slice (some ⟨pb, po, none⟩) 1 pcap] 25))
  have hb3 : Below w2.heap.size w2 w3 := by rw [← HW3.out]; exact (Below.refl _ _).alloc (Nat.le_refl _) _
  have X3 : w3.heap[w2.heap.size]? = some (.cells #[.int .i64 1, .int .i64 1, .int .i64 0, .slice (some ⟨pb, po, none⟩) 1 pcap] 25 (0, 0)) := by rw [← HW3.out]; exact bx_new _ _ _ rfl
  have s1' := (hb3.cell (p := ⟨pb, po + 1, none⟩) hpb).trans s1
  have HB3 : Hid (Below w1.heap.size w1 w3) := hb2.trans (hb3.mono hb2.size)
  obtain ⟨x0, x1, x2, x3⟩ := bx_cells4 X3
  obtain ⟨q3, HQ3⟩ := nameIt w2.heap.size
  rw [HQ3.out] at x0 x1 x2 x3
  clear s1 hb2 hb3 X3 hpb
  go_upto_region 2 with fail
  rw [HW3.out, HQ3.out]
  clear HW3
  go_wp2_with fail
  with_reducible refine (HGO.out w3 HB3.out).mono ?_
  rintro e w4 ⟨y0, y1, y2, ra, rk, rc, er, rfl, hor, hb4⟩
  obtain ⟨w5, HW5⟩ := nameIt (w4.alloc (.cells #[.int .i64 y0, .int .i64 y1, .int .i64 y2, .slice ra rk rc] 25))
  have hb5 : Below w4.heap.size w4 w5 := by rw [← HW5.out]; exact (Below.refl _ _).alloc (Nat.le_refl _) _
  have HXG : Hid (w5.heap[w4.heap.size]? = some (.cells #[.int .i64 y0, .int .i64 y1, .int .i64 y2, .slice ra rk rc] 25 (0, 0))) := by rw [← HW5.out]; exact bx_new _ _ _ rfl
  have HGR := Lib.hid (hor.keep hb5)
  have HB5 : Hid (Below w1.heap.size w1 w5) := HB3.out.trans ((hb4.trans (hb5.mono hb4.size)).mono HB3.out.size)
  obtain ⟨q5, HQ5⟩ := nameIt w4.heap.size
  rw [HQ5.out] at HXG
  clear hor hb4 hb5 x0 x1 x2 x3 s1' hpc1 hpc2 HGO HO1
  go_upto_region 6 with fail
  rw [HW5.out, HQ5.out]
  clear HW5
  obtain ⟨bd, HBDN⟩ := nameIt (decide (T < 1 ∨ 2 < T ∨ N < 1 ∨ 2 < N))
  have HBT : Hid (bd = true → T < 1 ∨ 2 < T ∨ N < 1 ∨ 2 < N) := fun h => by rw [← HBDN.out] at h; exact of_decide_eq_true h
  have HBF : Hid (bd = false → ¬ (T < 1 ∨ 2 < T ∨ N < 1 ∨ 2 < N)) := fun h => by rw [← HBDN.out] at h; exact of_decide_eq_false h
  go_cut [70] from 57 to 70 (fun v wx => v = .bool bd ∧ w5 = wx)
  case first =>
    by_cases h1 : T < 1
    · have h1' : decide (T < 1) = true := by simpa using h1
      obtain rfl : bd = true := by rw [← HBDN.out]; exact decide_eq_true (.inl h1)
      go_wp2_with fail
      go_meet
      exact ⟨rfl, rfl⟩
    · have h1' : decide (T < 1) = false := by simpa using h1
      by_cases h2 : 2 < T
      · have h2' : decide (2 < T) = true := by simpa using h2
        obtain rfl : bd = true := by rw [← HBDN.out]; exact decide_eq_true (.inr (.inl h2))
        go_wp2_with fail
        go_meet
        exact ⟨rfl, rfl⟩
      · have h2' : decide (2 < T) = false := by simpa using h2
        by_cases h3 : N < 1
        · have h3' : decide (N < 1) = true := by simpa using h3
          obtain rfl : bd = true := by rw [← HBDN.out]; exact decide_eq_true (.inr (.inr (.inl h3)))
          go_wp2_with fail
          go_meet
          exact ⟨rfl, rfl⟩
        · have h3' : decide (N < 1) = false := by simpa using h3
          by_cases h4 : 2 < N
          · obtain rfl : bd = true := by rw [← HBDN.out]; exact decide_eq_true (.inr (.inr (.inr h4)))
            go_wp2_with fail
            go_meet
            exact ⟨rfl, rfl⟩
          · obtain rfl : bd = false := by rw [← HBDN.out]; exact decide_eq_false (by omega)
            go_wp2_with fail
            go_meet
            exact ⟨rfl, rfl⟩
  case rest =>
  obtain ⟨rfl, rfl⟩ := hcut
  go_upto_if 70 with fail
  go_cut [13] from 71 to 78 (fun v13 wx => v13 = .int .i64 F0 ∧ w5 = wx)
  case first =>
    cases bd with
    | true =>
      have HF := Lib.hid (HF00.out (HBT.out rfl))
      go_wp2_with fail
      go_meet
      exact ⟨by rw [HF.out], rfl⟩
    | false =>
      have HFA1 := Lib.hid (HF01.out (HBF.out rfl))
      have HFA2 := Lib.hid (HF02.out (HBF.out rfl))
      by_cases h5 : 6 < yl
      · have h5' : decide ((6 : Int) < (yl : Int)) = true := by simp; omega
        have HF := Lib.hid (HFA1.out (.inl h5))
        go_wp2_with fail
        go_meet
        exact ⟨by rw [HF.out], rfl⟩
      · have h5' : decide ((6 : Int) < (yl : Int)) = false := by simp; omega
        by_cases h6 : 6 < nl
        · have h6' : (6 : Int) < (nl : Int) := by omega
          have HF := Lib.hid (HFA1.out (.inr h6))
          go_wp2_with fail
          go_meet
          exact ⟨by rw [HF.out], rfl⟩
        · have h6' : ¬ (6 : Int) < (nl : Int) := by omega
          have HF := Lib.hid (HFA2.out (by omega))
          go_wp2_with fail
          go_meet
          exact ⟨by rw [HF.out], rfl⟩
  case rest =>
    obtain ⟨rfl, rfl⟩ := hcut
    have HY5 := Lib.hid (HY.out.below HB5.out)
    have HN5 := Lib.hid (HN.out.below HB5.out)
    have hcc := concatWords w5 w5.heap.size 22 (.slice ya yl yc) (.slice na nl nc) yes no rfl HY5.out HN5.out (by rw [HYL.out, HNL.out]; omega)
    have HAL : Hid ((yes ++ no).length = yl + nl) := by show _ = _; rw [List.length_append, HYL.out, HNL.out]
    obtain ⟨AL, HALN⟩ := nameIt (yes ++ no)
    rw [HALN.out] at hcc HAL HFA
    have HCC := Lib.hid hcc
    clear hcc HF00 HF01 HF02
    go_wp2_with fail
    with_reducible refine HCC.out.mono ?_
    rintro e w6 ⟨a6, c6, rfl, hr6, hb6⟩
    rw [HAL.out] at hr6
    rw [HAL.out]
    have hbd2 := hr6.bounds.2
    unfold maxLen at hbd2
    obtain ⟨tl, HTL⟩ := nameIt (yl + nl)
    rw [HTL.out] at HAL hbd2 hr6
    rw [HTL.out]
    have HR6 := Lib.hid hr6
    have HB6 := Lib.hid hb6
    clear hr6 hb6 HCC
    obtain ⟨F1, HF1N⟩ := nameIt (AL.foldl (fw T) F0)
    go_upto_block 0 with fail
    go_cut [13, 15, 17] from 79 to 113 (fun v13 v15 v17 wx => v13 = .int .i64 F1 ∧ w6 = wx)
    case first =>
      go_wp2_with fail
      go_loopg [13, 15, 17, 84] tl (fun gg v13 v15 v17 v84 wr => ∃ (i : Nat) (f : Int), i ≤ tl ∧ tl - i ≤ gg ∧ v13 = .int .i64 f ∧ v84 = .int .i64 (i : Int) ∧ Hid ((AL.take i).foldl (fw T) F0 = f) ∧ w6 = wr)
      case atStart => exact ⟨0, F0, by omega, by omega, rfl, rfl, Lib.hid rfl, rfl⟩
      case round =>
        obtain ⟨i, f, hi, hgg, rfl, rfl, HFO, rfl⟩ := hrel
        by_cases hit : i < tl
        · have hit' : (i : Int) < (tl : Int) := by omega
          have hi0 : (0 : Int) ≤ (i : Int) := by omega
          have hiA : i < AL.length := by rw [HAL.out]; exact hit
          obtain ⟨ba, oa, u, hae, -, c1, hru⟩ := ints_at HR6.out hiA
          have hT1 : (AL.take (i + 1)).foldl (fw T) F0 = fw T ((AL.take i).foldl (fw T) F0) AL[i] := by rw [List.take_succ_eq_append_getElem hiA, List.foldl_append]; rfl
          obtain ⟨x, HX⟩ := nameIt (AL[i]'hiA)
          rw [HX.out, HFO.out] at hT1
          rw [HX.out] at hru
          have hsl := sl_rd hru
          obtain ⟨ua2, un, uc2, rfl⟩ : ∃ a n c, u = .slice a n c := by obtain ⟨a, k, rfl⟩ := hsl.form; exact ⟨_, _, _, rfl⟩
          have hun : x.length = un := by have := hsl.len.1; rw [ints_len] at this; exact this.symm
          have hbu := hsl.len.2
          unfold maxLen at hbu
          have HTN := Lib.hid hT1
          have HU := Lib.hid hun
          have HSL := Lib.hid hsl
          have HFW : Hid (fw T f x = x.foldl (fs T) (fh f un)) := by show _ = _; unfold fw; rw [HU.out]
          have HFH0 : Hid (f ≠ 0 → fh f un = f) := fun h => by unfold fh; rw [if_pos h]
          have HFH2 : Hid (f = 0 → 5 < un → fh f un = 2) := fun h h2 => by unfold fh; rw [if_neg (by simp [h]), if_pos h2]
          have HFH1 : Hid (f = 0 → ¬ 5 < un → fh f un = 0) := fun h h2 => by unfold fh; rw [if_neg (by simp [h]), if_neg h2]
          obtain ⟨f1, HF1⟩ := nameIt (fh f un)
          rw [HF1.out] at HFW HFH0 HFH1 HFH2
          subst hae
          clear hru hsl hun hT1 HX hiA
          obtain ⟨cd, HCD⟩ := nameIt (decide (f = 0 ∧ 5 < un))
          go_upto_region 13 with fail
          go_cut [84, 94] from 84 to 113 (fun v84 v wx => v84 = .int .i64 (i : Int) ∧ v = .bool cd ∧ w6 = wx)
          case first =>
            by_cases hf : f = 0
            · have hfb : (f == 0) = true := by simpa using hf
              by_cases h5 : 5 < un
              · have h5' : (5 : Int) < (un : Int) := by omega
                obtain rfl : cd = true := by rw [← HCD.out]; exact decide_eq_true ⟨hf, h5⟩
                subst hf
                go_wp2_with fail
                go_meet
                exact ⟨rfl, rfl, rfl⟩
              · have h5' : ¬ (5 : Int) < (un : Int) := by omega
                obtain rfl : cd = false := by rw [← HCD.out]; exact decide_eq_false (fun h => h5 h.2)
                subst hf
                go_wp2_with fail
                go_meet
                exact ⟨rfl, rfl, rfl⟩
            · have hfb : (f == 0) = false := by simpa using hf
              obtain rfl : cd = false := by rw [← HCD.out]; exact decide_eq_false (fun h => hf h.1)
              clear hf
              go_wp2_with fail
              go_meet
              exact ⟨rfl, rfl, rfl⟩
          case rest =>
          obtain ⟨rfl, rfl, rfl⟩ := hcut
          have HFC : Hid (cd = true → f1 = 2) := fun h => by
            rw [← HCD.out] at h
            have h2 := of_decide_eq_true h
            exact HFH2.out h2.1 h2.2
          have HFD : Hid (cd = false → f1 = f) := fun h => by
            rw [← HCD.out] at h
            have h2 := of_decide_eq_false h
            by_cases hf : f = 0
            · rw [HFH1.out hf (fun h5 => h2 ⟨hf, h5⟩), hf]
            · exact HFH0.out hf
          go_upto_if 94 with fail
          go_cut [13, 84] from 84 to 113 (fun v13 v84 wx => v13 = .int .i64 f1 ∧ v84 = .int .i64 (i : Int) ∧ w6 = wx)
          case first =>
            cases cd with
            | true =>
              have HE := Lib.hid (HFC.out rfl)
              go_wp2_with fail
              go_meet
              exact ⟨by rw [HE.out], rfl, rfl⟩
            | false =>
              have HE := Lib.hid (HFD.out rfl)
              go_wp2_with fail
              go_meet
              exact ⟨by rw [HE.out], rfl, rfl⟩
          case rest =>
            obtain ⟨rfl, rfl, rfl⟩ := hcut
            clear HFH0 HFH1 HFH2 c1
            go_wp2_with fail
            go_loopg [13, 17, 97] un (fun gg v13 v17 v97 wr => ∃ (j : Nat) (g : Int), j ≤ un ∧ un - j ≤ gg ∧ v13 = .int .i64 g ∧ v97 = .int .i64 (j : Int) ∧ Hid ((x.take j).foldl (fs T) f1 = g) ∧ w6 = wr)
            case atStart => exact ⟨0, f1, by omega, by omega, rfl, rfl, Lib.hid rfl, rfl⟩
            case round =>
              obtain ⟨j, g, hj, hgj, rfl, rfl, HG, rfl⟩ := hrel
              by_cases hju : j < un
              · have hju' : (j : Int) < (un : Int) := by omega
                have hj0 : (0 : Int) ≤ (j : Int) := by omega
                have hjx : j < x.length := by rw [HU.out]; exact hju
                obtain ⟨bs, os, hse, hcs⟩ := HSL.out.at hju
                have d0 := hcs j (by rw [ints_len]; exact hjx)
                rw [ints_get] at d0
                have hS1 : (x.take (j + 1)).foldl (fs T) f1 = fs T ((x.take j).foldl (fs T) f1) x[j] := by rw [List.take_succ_eq_append_getElem hjx, List.foldl_append]; rfl
                obtain ⟨sv, HSV⟩ := nameIt (x[j]'hjx)
                rw [HSV.out] at d0 hS1
                rw [HG.out] at hS1
                have HSN := Lib.hid hS1
                subst hse
                clear hcs hS1 HSV hjx
                by_cases hg : g = 0
                · have hgb : (g == 0) = true := by simpa using hg
                  by_cases hs0 : sv < 0
                  · have hs0' : decide (sv < 0) = true := by simpa using hs0
                    have HE : Hid ((x.take (j + 1)).foldl (fs T) f1 = 1) := by show _ = _; rw [HSN.out]; unfold fs badT; rw [if_neg (by simp [hg]), if_pos (by simp [hs0])]
                    subst hg
                    go_wp2_with fail
                    go_roundg (un - (j + 1))
                    case measure => omega
                    case rel => exact ⟨j + 1, 1, by omega, by omega, rfl, by go_num, HE, rfl⟩
                  · have hs0' : decide (sv < 0) = false := by simpa using hs0
                    by_cases hsT : T ≤ sv
                    · have HE : Hid ((x.take (j + 1)).foldl (fs T) f1 = 1) := by show _ = _; rw [HSN.out]; unfold fs badT; rw [if_neg (by simp [hg]), if_pos (by simp [hsT])]
                      subst hg
                      go_wp2_with fail
                      go_roundg (un - (j + 1))
                      case measure => omega
                      case rel => exact ⟨j + 1, 1, by omega, by omega, rfl, by go_num, HE, rfl⟩
                    · have HE : Hid ((x.take (j + 1)).foldl (fs T) f1 = 0) := by show _ = _; rw [HSN.out]; unfold fs badT; rw [if_neg (by simp [hg]), if_neg (by simp; omega)]
                      subst hg
                      go_wp2_with fail
                      go_roundg (un - (j + 1))
                      case measure => omega
                      case rel => exact ⟨j + 1, 0, by omega, by omega, rfl, by go_num, HE, rfl⟩
                · have hgb : (g == 0) = false := by simpa using hg
                  have HE : Hid ((x.take (j + 1)).foldl (fs T) f1 = g) := by show _ = _; rw [HSN.out]; unfold fs; rw [if_pos hg]
                  clear hg
                  go_wp2_with fail
                  go_roundg (un - (j + 1))
                  case measure => omega
                  case rel => exact ⟨j + 1, g, by omega, by omega, rfl, by go_num, HE, rfl⟩
              · have hju' : ¬ (j : Int) < (un : Int) := by omega
                have HFN : Hid ((AL.take (i + 1)).foldl (fw T) F0 = g) := by
                  show _ = _
                  have h1 := HG.out
                  rw [List.take_of_length_le (by rw [HU.out]; omega)] at h1
                  rw [HTN.out, HFW.out, h1]
                go_wp2_with fail
                go_roundg (tl - (i + 1))
                case measure => omega
                case rel => exact ⟨i + 1, g, by omega, by omega, rfl, by go_num, HFN, rfl⟩
        · have hit' : ¬ (i : Int) < (tl : Int) := by omega
          have HFL : Hid (f = F1) := by
            show _ = _
            have h1 := HFO.out
            rw [List.take_of_length_le (by rw [HAL.out]; omega)] at h1
            rw [← h1]; exact HF1N.out
          clear HFO
          go_wp2_with fail
          go_meet
          exact ⟨by rw [HFL.out], rfl⟩
    case rest =>
      obtain ⟨rfl, rfl⟩ := hcut
      have HFL : Hid (no.foldl (fc yes) F1 = GE) := by show _ = _; rw [← HF1N.out]; exact HFA.out
      have HB16 : Hid (Below w1.heap.size w1 w6) := HB5.out.trans (HB6.out.mono HB5.out.size)
      have HY6 := Lib.hid (HY5.out.below HB6.out)
      have HN6 := Lib.hid (HN5.out.below HB6.out)
      clear HFA HY5 HN5 HR6
      go_upto_block 4 with fail
      go_cut [13, 19] from 114 to 127 (fun v13 v19 wx => v13 = .int .i64 GE ∧ Hid (Below w6.heap.size w6 wx))
      case first =>
        go_wp2_with fail
        go_loopg [13, 19, 116] nl (fun gg v13 v19 v116 wr => ∃ (j : Nat) (f : Int), j ≤ nl ∧ nl - j ≤ gg ∧ v13 = .int .i64 f ∧ v116 = .int .i64 (j : Int) ∧ Hid ((no.take j).foldl (fc yes) F1 = f) ∧ Hid (Below w6.heap.size w6 wr))
        case atStart => exact ⟨0, F1, by omega, by omega, rfl, rfl, Lib.hid rfl, Below.refl _ _⟩
        case round =>
          obtain ⟨j, f, hj, hgj, rfl, rfl, HFO, HB⟩ := hrel
          obtain ⟨w7, rfl⟩ : ∃ ww : World, ww = wr := ⟨_, rfl⟩
          by_cases hjn : j < nl
          · have hjn' : (j : Int) < (nl : Int) := by omega
            have hj0 : (0 : Int) ≤ (j : Int) := by omega
            have hjN : j < no.length := by rw [HNL.out]; exact hjn
            obtain ⟨ba, oa, u, hae, -, c1, hru⟩ := ints_at (HN6.out.below HB.out) hjN
            have hT1 : (no.take (j + 1)).foldl (fc yes) F1 = fc yes ((no.take j).foldl (fc yes) F1) no[j] := by rw [List.take_succ_eq_append_getElem hjN, List.foldl_append]; rfl
            obtain ⟨x, HX⟩ := nameIt (no[j]'hjN)
            rw [HX.out, HFO.out] at hT1
            rw [HX.out] at hru
            have hsl := sl_rd hru
            obtain ⟨ua2, un, uc2, rfl⟩ : ∃ a n c, u = .slice a n c := by obtain ⟨a, k, rfl⟩ := hsl.form; exact ⟨_, _, _, rfl⟩
            have HTN := Lib.hid hT1
            obtain ⟨w8, HW8⟩ := nameIt (w7.alloc (.cells #[.slice ua2 un uc2] 29))
            have hb8 : Below w7.heap.size w7 w8 := by rw [← HW8.out]; exact (Below.refl _ _).alloc (Nat.le_refl _) _
            have X8 : w8.heap[w7.heap.size]? = some (.cells #[.slice ua2 un uc2] 29 (0, 0)) := by rw [← HW8.out]; exact bx_new _ _ _ rfl
            have HB8 : Hid (Below w6.heap.size w6 w8) := HB.out.trans (hb8.mono HB.out.size)
            have hcf := containsFuncW 7 #[.pointer (some ⟨w7.heap.size, 0, none⟩)] (fun v => v == x) ya yc yes w8 (fun _ _ => by kernel_rfl) (fun W v n a c _ _ hb hv => eqLawE v x a n c ua2 un uc2 w7.heap.size W (bx_cells1 (bx_keep X8 hb)) hv ((hsl.keep hb8).keep hb)) (by rw [HYL.out]; exact HY6.out.below HB8.out)
            rw [HYL.out] at hcf
            have HCF := Lib.hid hcf
            have HFC0 : Hid (f ≠ 0 → fc yes f x = f) := fun h => by unfold fc; rw [if_pos h]
            have HFC1 : Hid (f = 0 → (yes.any fun v => v == x) = true → fc yes f x = 8) := fun h h2 => by unfold fc; rw [if_neg (by simp [h]), if_pos h2]
            have HFC2 : Hid (f = 0 → (yes.any fun v => v == x) = false → fc yes f x = 0) := fun h h2 => by unfold fc; rw [if_neg (by simp [h]), if_neg (by simp [h2])]
            obtain ⟨q, HQ⟩ := nameIt (yes.any fun v => v == x)
            rw [HQ.out] at HCF HFC1 HFC2
            obtain ⟨f2, HF2⟩ := nameIt (fc yes f x)
            rw [HF2.out] at HFC0 HFC1 HFC2 HTN
            subst hae
            clear hru hsl hT1 hb8 X8 hcf HX hjN
            go_upto_region 25 with fail
            rw [HW8.out]
            clear c1 HW8
            by_cases hf : f = 0
            · have hfb : (f == 0) = true := by simpa using hf
              have HE1 := Lib.hid (HFC1.out hf)
              have HE2 := Lib.hid (HFC2.out hf)
              subst hf
              clear HFC0 HFC1 HFC2
              go_wp2_with fail
              refine HCF.out.mono ?_
              rintro e w9 ⟨rfl, hb9⟩
              have HB9 : Hid (Below w6.heap.size w6 w9) := HB8.out.trans (hb9.mono HB8.out.size)
              clear hb9 HCF
              cases q with
              | true =>
                have HEN : Hid ((no.take (j + 1)).foldl (fc yes) F1 = 8) := HTN.out.trans (HE1.out rfl)
                go_wp2_with fail
                go_roundg (nl - (j + 1))
                case measure => omega
                case rel => exact ⟨j + 1, 8, by omega, by omega, rfl, by go_num, HEN, HB9⟩
              | false =>
                have HEN : Hid ((no.take (j + 1)).foldl (fc yes) F1 = 0) := HTN.out.trans (HE2.out rfl)
                go_wp2_with fail
                go_roundg (nl - (j + 1))
                case measure => omega
                case rel => exact ⟨j + 1, 0, by omega, by omega, rfl, by go_num, HEN, HB9⟩
            · have hfb : (f == 0) = false := by simpa using hf
              have HEN : Hid ((no.take (j + 1)).foldl (fc yes) F1 = f) := HTN.out.trans (HFC0.out hf)
              clear hf HFC0 HFC1 HFC2 HCF
              go_wp2_with fail
              go_roundg (nl - (j + 1))
              case measure => omega
              case rel => exact ⟨j + 1, f, by omega, by omega, rfl, by go_num, HEN, HB8⟩
          · have hjn' : ¬ (j : Int) < (nl : Int) := by omega
            have HFE : Hid (f = GE) := by
              show _ = _
              have h1 := HFO.out
              rw [List.take_of_length_le (by rw [HNL.out]; omega)] at h1
              rw [← h1]; exact HFL.out
            clear HFO
            go_wp2_with fail
            go_meet
            exact ⟨by rw [HFE.out], HB⟩
      case rest =>
        obtain ⟨rfl, HB⟩ := hcut
        obtain ⟨w7, rfl⟩ : ∃ ww : World, ww = wc := ⟨_, rfl⟩
        have HB17 : Hid (Below w1.heap.size w1 w7) := HB16.out.trans (HB.out.mono HB16.out.size)
        have HB07 : Hid (Below w.heap.size w w7) := HB1.out.trans (HB17.out.mono HB1.out.size)
        have HB57 : Hid (Below w5.heap.size w5 w7) := HB6.out.trans (HB.out.mono HB6.out.size)
        obtain ⟨z0, z1, z2, z3⟩ := bx_cells4 (bx_keep HXG.out HB57.out)
        have HGR7 := Lib.hid (HGR.out.keep HB57.out)
        have HEND := Lib.hid (HFIN.out w7 HB07.out)
        clear HFL HGR
        by_cases hge : GE = 0
        · have hgb : (GE != 0) = false := by simpa using hge
          have hok := HGK.out hge
          obtain ⟨hT1, hT2, hN1, hN2, hwy, hwn⟩ := hok
          obtain ⟨tt, rfl⟩ : ∃ tt : Nat, T = (tt : Int) := ⟨T.toNat, by omega⟩
          obtain ⟨n, rfl⟩ : ∃ n : Nat, N = (n : Int) := ⟨N.toNat, by omega⟩
          have HWO : Hid (wordOk (tt : Int) yes ∧ wordOk (tt : Int) no) := ⟨hwy, hwn⟩
          have ht1 : 1 ≤ tt := by omega
          have ht2 : tt ≤ 2 := by omega
          have hn1 : 1 ≤ n := by omega
          have hn2 : n ≤ 2 := by omega
          have HRES : Hid ((gF (fitG (tt : Int) (n : Int) yes no) (LR tt n) 4 = none ∧ er = 5 ∧ y0 = 0 ∧ y1 = 0 ∧ y2 = 0 ∧ ra = none ∧ rk = 0 ∧ rc = 0) ∨
              ∃ r, gF (fitG (tt : Int) (n : Int) yes no) (LR tt n) 4 = some r ∧ er = 0 ∧ y0 = (tt : Int) ∧ y1 = (n : Int) ∧ y2 = 0 ∧ r.length = rk ∧ Rd AnyB w7 (.sl (r.map Rule.d)) [.slice ra rk rc]) := by
            rcases HGR7.out with ⟨h, _⟩ | ⟨_, h⟩
            · exact absurd (HGE.out.trans hge) h
            · exact h
          have HY7 := Lib.hid (HY6.out.below HB.out)
          have HN7 := Lib.hid (HN6.out.below HB.out)
          clear HGR7 HGK hT1 hT2 hN1 hN2 hwy hwn
          subst hge
          have HRK : Hid (er = 0 → rk ≤ 3) := fun h => by
            rcases HRES.out with h1 | ⟨r, h1, _, _, _, _, h2, _⟩
            · rw [h1.2.1] at h; cases h
            · have := gF_len h1; omega
          have HER : Hid (er = 0 ∨ er = 5) := by
            rcases HRES.out with h1 | ⟨r, _, h1, _⟩
            · exact .inr h1.2.1
            · exact .inl h1
          obtain ⟨cd, HCD⟩ : ∃ cd : Bool, Hid (cd = (decide (n = 2) && (decide (tt = 2) || decide (1 < yl)))) := ⟨_, rfl⟩
          go_upto_region 30 with fail
          go_cut [154] from 144 to 154 (fun v wx => v = .bool cd ∧ w7 = wx)
          case first =>
            clear z0 z1 z2 z3
            by_cases h1 : n = 2
            · have h1' : ((n : Int) == 2) = true := by simp; omega
              by_cases h2 : tt = 2
              · have h2' : ((tt : Int) == 2) = true := by simp; omega
                have hc : cd = true := by rw [HCD.out]; simp [h1, h2]
                subst hc
                clear h1 h2
                go_wp2_with fail
                go_meet
                exact ⟨rfl, rfl⟩
              · have h2' : ((tt : Int) == 2) = false := by simp; omega
                by_cases h3 : 1 < yl
                · have h3' : (1 : Int) < (yl : Int) := by omega
                  have hc : cd = true := by rw [HCD.out]; simp [h1, h3]
                  subst hc
                  clear h1 h2
                  go_wp2_with fail
                  go_meet
                  exact ⟨rfl, rfl⟩
                · have h3' : ¬ (1 : Int) < (yl : Int) := by omega
                  have hc : cd = false := by rw [HCD.out]; simp [h2, h3]
                  subst hc
                  clear h1 h2
                  go_wp2_with fail
                  go_meet
                  exact ⟨rfl, rfl⟩
            · have h1' : ((n : Int) == 2) = false := by simp; omega
              have hc : cd = false := by rw [HCD.out]; simp [h1]
              subst hc
              clear h1
              go_wp2_with fail
              go_meet
              exact ⟨rfl, rfl⟩
          case rest =>
            obtain ⟨rfl, rfl⟩ := hcut
            clear HCD
            cases cd with
            | true =>
              by_cases he : er = 0
              · have hk := HRK.out he
                have hk' : (rk : Int) ≤ 3 := by omega
                subst he
                go_wp2_with fail
                exact HEND.out
              · have he5 : er = 5 := by rcases HER.out with h | h; exact absurd h he; exact h
                subst he5
                clear he
                go_wp2_with fail
                exact HEND.out
            | false =>
              have HRU := Lib.hid (Guess.rulesE tt n w7 ht1 ht2 hn1 hn2)
              clear z0 z1 z2 z3 HRK HER
              go_wp2_with fail
              refine HRU.out.mono ?_
              intro e w8 hpost
              obtain ⟨v, rfl, hv, hb8⟩ := hpost
              have hv' : Rd AnyB w8 (.sl ((LR tt n).map Rule.d)) [v] := hv
              have hpos := LR_pos (t := tt) hn1
              clear hv
              obtain ⟨lk, lo, lc, rfl⟩ : ∃ b off cap, v = .slice (some ⟨b, off, none⟩) (LR tt n).length cap := by
                obtain ⟨a, c, rfl, _⟩ := hv'.form
                obtain ⟨b, off, vv, e, _⟩ := hv'.rule_at hpos
                exact ⟨b, off, c, by rw [e, List.length_map]⟩
              have hgd := guessedE ht1 ht2 hn1 hn2 HWO.out.1 HWO.out.2 lk lo lc ya na yc nc w8 hv' (by rw [HYL.out]; exact HY7.out.below hb8) (by rw [HNL.out]; exact HN7.out.below hb8)
              rw [HYL.out, HNL.out] at hgd
              have HGD := Lib.hid hgd
              have HB8 := Lib.hid hb8
              obtain ⟨ll, HLL⟩ := nameIt (LR tt n).length
              rw [HLL.out] at HGD
              rw [HLL.out]
              clear hgd hv' hb8 hpos HRU
              go_wp2_with fail
              refine HGD.out.mono ?_
              intro e w9 hpost
              obtain ⟨u0, u1, u2, sa, sk, sc, b, rfl, hres, hb9⟩ := hpost
              have HB9 : Hid (Below w7.heap.size w7 w9) := HB8.out.trans (hb9.mono HB8.out.size)
              have HS9 := Lib.hid hres
              obtain ⟨wa, HWA⟩ := nameIt (w9.alloc (.cells #[.int .i64 u0, .int .i64 u1, .int .i64 u2, .slice sa sk sc] 25))
              have hba : Below w9.heap.size w9 wa := by rw [← HWA.out]; exact (Below.refl _ _).alloc (Nat.le_refl _) _
              have HXA : Hid (wa.heap[w9.heap.size]? = some (.cells #[.int .i64 u0, .int .i64 u1, .int .i64 u2, .slice sa sk sc] 25 (0, 0))) := by rw [← HWA.out]; exact bx_new _ _ _ rfl
              have HBA : Hid (Below w7.heap.size w7 wa) := HB9.out.trans (hba.mono HB9.out.size)
              have HBA9 := Lib.hid hba
              have HEND2 := Lib.hid (HFIN.out wa (HB07.out.trans (HBA.out.mono HB07.out.size)))
              obtain ⟨qa, HQA⟩ := nameIt w9.heap.size
              rw [HQA.out] at HXA
              clear hb9 hba HGD hres
              go_upto_region 34 with fail
              rw [HWA.out, HQA.out]
              clear HWA
              cases b with
              | false =>
                have hno : gF (fitG (tt : Int) (n : Int) yes no) (LR tt n) 4 = none := by
                  rcases HS9.out with ⟨h, _⟩ | ⟨_, h⟩
                  · cases h
                  · exact h
                obtain ⟨rfl, rfl⟩ : er = 5 ∧ y1 = 0 := by
                  rcases HRES.out with h | ⟨r, h, _⟩
                  · exact ⟨h.2.1, h.2.2.2.1⟩
                  · rw [hno] at h; cases h
                obtain ⟨z0, z1, z2, z3⟩ := bx_cells4 (bx_keep HXG.out (HB57.out.trans (HBA.out.mono HB57.out.size)))
                clear hno HRES
                go_wp2_with fail
                exact HEND2.out
              | true =>
                obtain ⟨r, hr, hsk, hrd⟩ : ∃ r, gF (fitG (tt : Int) (n : Int) yes no) (LR tt n) 4 = some r ∧ r.length = sk ∧ Rd AnyB w9 (.sl (r.map Rule.d)) [.slice sa sk sc] := by
                  rcases HS9.out with ⟨_, h⟩ | ⟨h, _⟩
                  · exact h
                  · cases h
                obtain ⟨rfl, rfl, rfl, rfl, hrk, hrd2⟩ : er = 0 ∧ y0 = (tt : Int) ∧ y1 = (n : Int) ∧ y2 = 0 ∧ r.length = rk ∧ Rd AnyB w7 (.sl (r.map Rule.d)) [.slice ra rk rc] := by
                  rcases HRES.out with h | ⟨r', h, h2, h3, h4, h5, h6, h7⟩
                  · rw [h.1] at hr; cases hr
                  · rw [h] at hr; cases hr
                    exact ⟨h2, h3, h4, h5, h6, h7⟩
                obtain rfl : rk = sk := hrk.symm.trans hsk
                have HEQ := Lib.hid (eqRulesE r rk hrk ra sa rc sc wa (hrd2.below HBA.out) (hrd.below HBA9.out))
                obtain ⟨z0, z1, z2, z3⟩ := bx_cells4 (bx_keep HXG.out (HB57.out.trans (HBA.out.mono HB57.out.size)))
                obtain ⟨a0, a1, a2, a3⟩ := bx_cells4 HXA.out
                have htt : ((tt : Int) == (tt : Int)) = true := by simp
                have hnn : ((n : Int) == (n : Int)) = true := by simp
                have HEND3 : Hid (∀ W, Below wa.heap.size wa W → PST (.returned (.bool true)) W) := fun W h => HFIN.out W (HB07.out.trans ((HBA.out.trans (h.mono HBA.out.size)).mono HB07.out.size))
                clear hr hsk hrd hrk hrd2 HRES HS9
                go_wp2_with fail
                refine HEQ.out.mono ?_
                rintro e wb ⟨rfl, hbb⟩
                have HE := Lib.hid (HEND3.out wb hbb)
                clear hbb
                go_wp2_with fail
                exact HE.out
        · have hgb : (GE != 0) = true := by simpa using hge
          obtain ⟨rfl, rfl, rfl, rfl, rfl, rfl, rfl⟩ : GE = er ∧ y0 = 0 ∧ y1 = 0 ∧ y2 = 0 ∧ ra = none ∧ rk = 0 ∧ rc = 0 := by
            rcases HGR7.out with ⟨_, h2, h3, h4, h5, h6, h7, h8⟩ | ⟨h, _⟩
            · exact ⟨HGE.out.symm.trans h2.symm, h3, h4, h5, h6, h7, h8⟩
            · exact absurd (HGE.out.symm.trans h) hge
          have hself : (GE == GE) = true := by simp
          clear hge HGR7
          go_wp2_with fail
          exact HEND.out
end Gs
end Go.Proofs.YthnkgmlhpefldaaDoor
namespace Go.Proofs.YthnkgmlhpefldaaDoor
open Go.RowKit Go.ChangeShapes Go.WideShapes Go.Deep

/-- data of a type read as plain data, as far as the fuel N goes: sz: at most its bulk; ok: what its numbers keep; lim: what the reach gives -/
def OpensF {α : Type} (P : Program) (t : TypeId) (e : α → D) (sz : α → Nat) (ok lim : α → Prop) (N : Nat) : Prop :=
  ∀ (H : Type) (enc : TypeId × Value → H) (w : World) (n : Nat) (cs : List Value) (x : DataW H × List MemPlace), n ≤ N → DataW.trod enc P w 0 (fun _ => true) true n t cs = some x →
    ∃ a : α, Rd AnyB w (e a) cs ∧ sz a ≤ Rows.uptoBulk x.1 ∧ ok a ∧ ((∀ y ∈ DataW.weights P t x.1, y ≤ reachBytes) → lim a)
def Opens {α : Type} (P : Program) (t : TypeId) (e : α → D) (sz : α → Nat) (ok lim : α → Prop) : Prop := ∀ N, OpensF P t e sz ok lim N

def i64 (n : Int) : Prop := -9223372036854775808 ≤ n ∧ n ≤ 9223372036854775807
def one {α : Type} (_ : α) : Nat := 1
def any {α : Type} (_ : α) : Prop := True

theorem opens_int {P : Program} {t : TypeId} (ht : P.underlying t = some (.int .i64)) : Opens P t D.int one i64 any := by
  intro N H enc w n cs x _ h
  obtain ⟨z, h1, h2, h3⟩ := DataW.trod_int ht h
  subst h1 h2
  refine ⟨z, rfl, by simp [Rows.uptoBulk, one], ?_, fun _ => trivial⟩
  simpa [Lit.wf, IntKind.min, IntKind.max, IntKind.signed, IntKind.bits, i64] using h3
theorem bulkAll_append {H : Type} (l r : List (DataW H)) : Rows.uptoBulkAll (l ++ r) = Rows.uptoBulkAll l + Rows.uptoBulkAll r := by
  induction l with
  | nil => simp [Rows.uptoBulkAll]
  | cons x l ih => simp only [List.cons_append, Rows.uptoBulkAll, ih]; omega
theorem weightsAll_append {H : Type} (P : Program) (e : TypeId) (l r : List (DataW H)) : DataW.weightsAll P e (l ++ r) = DataW.weightsAll P e l ++ DataW.weightsAll P e r := by
  induction l with
  | nil => simp [DataW.weightsAll]
  | cons x l ih => simp [DataW.weightsAll, ih]

def slD {α : Type} (e : α → D) (l : List α) : D := .sl (l.map e)
def slSz {α : Type} (sz : α → Nat) (l : List α) : Nat := (l.map sz).sum + 1
def slOk {α : Type} (ok : α → Prop) (l : List α) : Prop := ∀ a ∈ l, ok a
def slLim {α : Type} (b : Nat) (lim : α → Prop) (l : List α) : Prop := l.length * b ≤ reachBytes ∧ ∀ a ∈ l, lim a

theorem opens_slice {α : Type} {P : Program} {t el : TypeId} {e : α → D} {sz : α → Nat} {ok lim : α → Prop} {N b : Nat} (ht : P.underlying t = some (.slice el)) (hby : P.bytesOf el = b) (ho : OpensF P el e sz ok lim N) :
    OpensF P t (slD e) (slSz sz) (slOk ok) (slLim b lim) N := by
  intro H enc w n cs x hn h
  rcases DataW.trod_slice ht h with ⟨rfl, rfl⟩ | ⟨a, len, cap, elems, rest, n', hf, rfl, rfl, hb, hl, hm, hlen, hel, _, _⟩
  · exact ⟨[], ⟨none, 0, [], rfl, by simp, by simp [maxLen], fun _ => rfl, fun i hi => by simp at hi, rfl⟩, by simp [Rows.uptoBulk, slSz], by simp [slOk], fun _ => ⟨by simp, by simp⟩⟩
  · have key : ∀ k, k ≤ len → ∃ (l : List α) (L : List Value), l.length = k ∧ RdAll AnyB w (l.map e) L ∧ L.length = k * P.cellsOf el ∧ (∀ j (hj : j < L.length), w.cell? (a.add j) = some L[j]) ∧
        (l.map sz).sum ≤ Rows.uptoBulkAll ((elems.take k).map (·.1)) ∧ slOk ok l ∧ ((∀ y ∈ DataW.weightsAll P el ((elems.take k).map (·.1)), y ≤ reachBytes) → ∀ a ∈ l, lim a) := by
      intro k
      induction k with
      | zero => intro _; exact ⟨[], [], rfl, by simp [RdAll], by simp, fun j hj => by simp at hj, by simp, by simp [slOk], fun _ => by simp⟩
      | succ k ih =>
        intro hk
        obtain ⟨l, L, h1, h2, h3, h4, h5, h6, h7⟩ := ih (by omega)
        have hk' : k < elems.length := by omega
        have he := hel k (by omega)
        rw [List.getElem?_eq_getElem hk'] at he
        obtain ⟨cs', hc1, hc2⟩ := Option.bind_eq_some_iff.1 he
        obtain ⟨a', r1, r2, r3, r4⟩ := ho H enc w n' cs' elems[k] (by omega) hc2
        obtain ⟨_, hcl, hcc⟩ := World.cells?_some hc1
        refine ⟨l ++ [a'], L ++ cs', by simp [h1], by rw [List.map_append]; exact RdAll.append h2 (RdAll.one r1), by simp [h3, hcl, Nat.add_mul], ?_, ?_, ?_, ?_⟩
        · intro j hj
          by_cases hjl : j < L.length
          · rw [List.getElem_append_left hjl]; exact h4 j hjl
          · simp at hj
            rw [List.getElem_append_right (by omega)]
            have := hcc (j - L.length) (by omega)
            rw [Deep.add_add, ← h3, show L.length + (j - L.length) = j by omega] at this
            rw [this, List.getElem?_eq_getElem (by omega)]
        · rw [List.take_succ_eq_append_getElem hk', List.map_append, List.map_append, bulkAll_append]
          simp [Rows.uptoBulkAll]
          simp at h5
          omega
        · intro y hy
          rcases List.mem_append.1 hy with h | h
          · exact h6 y h
          · simp at h; subst h; exact r3
        · intro hw y hy
          rw [List.take_succ_eq_append_getElem hk', List.map_append, weightsAll_append] at hw
          rcases List.mem_append.1 hy with h | h
          · exact h7 (fun z hz => hw z (List.mem_append_left _ hz)) y h
          · simp at h; subst h
            exact r4 (fun z hz => hw z (List.mem_append_right _ (by simpa [DataW.weightsAll] using hz)))
    obtain ⟨l, L, h1, h2, h3, h4, h5, h6, h7⟩ := key len (Nat.le_refl _)
    rw [List.take_of_length_le (by omega)] at h5 h7
    refine ⟨l, ⟨some a, cap, L, by simp [h1], by simpa [h1] using hl, hm, (fun h => by cases h), fun i hi => ⟨a, rfl, trivial, h4 i hi⟩, h2⟩, ?_, h6, ?_⟩
    · simp only [Rows.uptoBulk, slSz]; omega
    · intro hw
      simp only [DataW.weights, ht] at hw
      refine ⟨?_, h7 fun y hy => hw y (by simp [hy])⟩
      have := hw ((elems.map (·.1)).length + (rest.map (·.1)).length |>.mul (P.bytesOf el)) (by left)
      rw [h1, ← hlen, ← hby]
      have h8 : elems.length * P.bytesOf el ≤ ((elems.map (·.1)).length + (rest.map (·.1)).length) * P.bytesOf el := Nat.mul_le_mul_right _ (by simp)
      exact Nat.le_trans h8 this

/-- the argument j -/
theorem open_arg {α : Type} {P : Program} {t : TypeId} {e : α → D} {sz : α → Nat} {ok lim : α → Prop} (ho : Opens P t e sz ok lim) {H : Type} {enc : TypeId × Value → H} {W : World} {v : Value} {d : DataW H} {p : List MemPlace} (h : DataW.Trod enc P W 0 (fun _ => true) true t v d p) :
    ∃ a : α, Rd AnyB W (e a) v.cells.toList ∧ sz a ≤ Rows.uptoBulk d ∧ ok a ∧ ((∀ y ∈ DataW.weights P t d, y ≤ reachBytes) → lim a) := by
  obtain ⟨n, hn⟩ := h
  exact ho n H enc W n _ _ (Nat.le_refl _) hn
end Go.Proofs.YthnkgmlhpefldaaDoor
namespace Go.Proofs.YthnkgmlhpefldaaDoor
open Go.RowKit
namespace Gs
theorem opens_intsW : Opens Tryd.prog 29 (slD D.int) (slSz one) (slOk i64) (slLim 8 any) := fun N => opens_slice Tryd.underlying29 (by kernel_rfl) (opens_int Tryd.underlying3 N)
theorem opens_words : Opens Tryd.prog 22 (slD (slD D.int)) (slSz (slSz one)) (slOk (slOk i64)) (slLim 24 (slLim 8 any)) := fun N => opens_slice Tryd.underlying22 (by kernel_rfl) (opens_intsW N)
theorem words_len (L : List (List Int)) : L.length ≤ slSz (slSz (one : Int → Nat)) L := by
  unfold slSz
  have h : ∀ l : List (List Int), l.length ≤ (l.map fun x => (x.map (one : Int → Nat)).sum + 1).sum := by
    intro l
    induction l with
    | nil => simp
    | cons x l ih => simp only [List.map_cons, List.sum_cons, List.length_cons]; omega
  have := h L
  omega
theorem open_wordsV {w : World} {v : Value} {L : List (List Int)} (h : Rd AnyB w (slD (slD D.int) L) [v]) : ∃ a c, v = .slice a L.length c ∧ Rd AnyB w (.sl (L.map D.ints)) [.slice a L.length c] := by
  have h2 : Rd AnyB w (.sl (L.map D.ints)) [v] := h
  obtain ⟨a, c, rfl, _⟩ := h2.form
  rw [List.length_map] at h2
  exact ⟨a, c, by rw [List.length_map], h2⟩
end Gs
end Go.Proofs.YthnkgmlhpefldaaDoor
namespace Go.Proofs.YthnkgmlhpefldaaDoor.RowGuessTells
open Go.ChangeShapes Go.WideShapes Go.ChangeAt Go.RowKit
theorem own : ownKnob Tryd.prog.godebug = none := by kernel_rfl
theorem laidOut : laidOutB Tryd.prog = true := by kernel_rfl

theorem gTab : Tryd.prog.globalNamed "math/bits.deBruijn32tab" = some 0 := by kernel_rfl
theorem gTabType : (Tryd.prog.globals[0]?).map (·.type) = some 96 := by kernel_rfl
theorem cellsT : Tryd.prog.cellsOf 96 = 32 := by kernel_rfl
theorem cellsE : Tryd.prog.cellsOf 5 = 1 := by kernel_rfl
theorem tabG {W : World} (h : laidMetH Tryd.prog Rows.guessTellsRow.laid W) : Lg.TabG W := fun j hj => by
  have h2 := (Lib.tabIs_of_head (k := .u8) (zs := Lib.deBruijn32tab.map Int.ofNat) (rest := []) gTab gTabType Tryd.underlying96 Tryd.underlying5 cellsE cellsT h).cell gTab j (by rw [List.length_map]; exact hj)
  rw [h2]
  simp [List.getD_eq_getElem?_getD]
  cases (Lib.deBruijn32tab)[j]? <;> rfl
set_option maxRecDepth 100000 in
theorem contract (H : Type) (enc : TypeId × Value → H) (W : World) (base : Nat) (args : Array Value) (ds gs : List (DataW H)) (before : List MemPlace)
    (hval0 : ∀ (j : Nat) t v, Tryd.f3.params[j]? = some t → args[j]? = some v → Value.okWide Tryd.prog W .any base t v)
    (hW : DataW.Whole enc Tryd.prog Tryd.f3.params.toList Rows.guessTellsSpec.vars false W args.toList ds gs before)
    (hL : laidMetH Tryd.prog Rows.guessTellsRow.laid W)
    (hk : Rows.uptoSmall H (ds ++ gs) = true) :
    Calls Tryd.prog 3 args W fun e W' => ∃ v, e = .returned v ∧ Rows.guessTellsSpec.post enc Tryd.prog Tryd.f3 false true false false W args v W' := by
  have hval : ∀ (j : Nat) t v, Tryd.f3.params[j]? = some t → args[j]? = some v → Value.okWide Tryd.prog W .any base t v := hval0
  have hW' := hW
  obtain ⟨p, q, hA0, hV, rfl, hfz, hnd⟩ := hW
  have hA : DataW.TrodAll enc Tryd.prog W 0 (fun _ => true) true Tryd.f3.params.toList args.toList ds p := hA0
  rw [Tryd.params3] at hA hval
  obtain ⟨v0, vs0, d0, ds0, p0, q0, hargs, rfl, rfl, h0, r0'⟩ := trodAll_cons hA
  obtain ⟨v1, vs1, d1, ds1, p1, q1, rfl, rfl, rfl, h1, r1'⟩ := trodAll_cons r0'
  obtain ⟨v2, vs2, d2, ds2, p2, q2, rfl, rfl, rfl, h2, r2'⟩ := trodAll_cons r1'
  obtain ⟨v3, vs3, d3, ds3, p3, q3, rfl, rfl, rfl, h3, r3'⟩ := trodAll_cons r2'
  obtain ⟨rfl, rfl, rfl⟩ := trodAll_nil r3'
  obtain rfl : args = #[v0, v1, v2, v3] := by cases args; simp_all
  obtain ⟨rfl, rfl⟩ := trodVars_none hV
  have lt0 : ∀ x ∈ p0, x.block < W.heap.size := by obtain ⟨m, hm⟩ := h0; exact DataW.trod_lt m _ _ _ hm
  have tr0 := h0
  have lt1 : ∀ x ∈ p1, x.block < W.heap.size := by obtain ⟨m, hm⟩ := h1; exact DataW.trod_lt m _ _ _ hm
  have tr1 := h1
  have lt2 : ∀ x ∈ p2, x.block < W.heap.size := by obtain ⟨m, hm⟩ := h2; exact DataW.trod_lt m _ _ _ hm
  have tr2 := h2
  have lt3 : ∀ x ∈ p3, x.block < W.heap.size := by obtain ⟨m, hm⟩ := h3; exact DataW.trod_lt m _ _ _ hm
  have tr3 := h3
  have hbulk : Rows.uptoBulk d0 + (Rows.uptoBulk d1 + (Rows.uptoBulk d2 + (Rows.uptoBulk d3 + 0))) ≤ 1048576 := by
    have h := of_decide_eq_true hk
    simpa only [Rows.uptoBulkAll, List.append_nil] using h
  obtain ⟨x0, rfl, rfl, rfl, wf0⟩ := open_int Tryd.underlying3 (hval 0 3 v0 rfl rfl) h0
  have k0 : i64 x0 := by simpa [Lit.wf, IntKind.min, IntKind.max, IntKind.signed, IntKind.bits, i64] using wf0
  obtain ⟨x1, rfl, rfl, rfl, wf1⟩ := open_int Tryd.underlying3 (hval 1 3 v1 rfl rfl) h1
  have k1 : i64 x1 := by simpa [Lit.wf, IntKind.min, IntKind.max, IntKind.signed, IntKind.bits, i64] using wf1
  obtain ⟨a2, rd2, sz2, k2, li2⟩ := open_arg Gs.opens_words h2
  obtain ⟨ad2, len2, cap2, hv2⟩ := okWide_slice Tryd.underlying22 (hval 2 22 v2 rfl rfl)
  have rq2 : Rd AnyB W (slD (slD D.int) a2) [v2] := by rw [hv2] at rd2 ⊢; exact rd2
  clear hv2 rd2
  obtain ⟨u2, c2, rfl, r2⟩ := Gs.open_wordsV rq2
  have n2 := Gs.words_len a2
  have m2 : a2.length ≤ 1048576 := by omega
  obtain ⟨a3, rd3, sz3, k3, li3⟩ := open_arg Gs.opens_words h3
  obtain ⟨ad3, len3, cap3, hv3⟩ := okWide_slice Tryd.underlying22 (hval 3 22 v3 rfl rfl)
  have rq3 : Rd AnyB W (slD (slD D.int) a3) [v3] := by rw [hv3] at rd3 ⊢; exact rd3
  clear hv3 rd3
  obtain ⟨u3, c3, rfl, r3⟩ := Gs.open_wordsV rq3
  have n3 := Gs.words_len a3
  have m3 : a3.length ≤ 1048576 := by omega
  clear hA0 hval0
  refine (Gs.lawGT x0 x1 a2 a3 m2 m3 u2 u3 c2 c3 W r2 r3 (tabG hL)).mono fun e W' ⟨he, bel⟩ => ?_
  subst he
  exact ⟨_, rfl, _, _, _, [], _, [], hW', trodAll_mk1 (shut_bool Tryd.underlying4 _), (trodAll_cons_mk (Below.trod laidOut (by kernel_rfl) (of_decide_eq_true (by kernel_rfl)) tr0 bel lt0) (trodAll_cons_mk (Below.trod laidOut (by kernel_rfl) (of_decide_eq_true (by kernel_rfl)) tr1 bel lt1) (trodAll_cons_mk (Below.trod laidOut (by kernel_rfl) (of_decide_eq_true (by kernel_rfl)) tr2 bel lt2) (trodAll_cons_mk (Below.trod laidOut (by kernel_rfl) (of_decide_eq_true (by kernel_rfl)) tr3 bel lt3) trodAll_mk0)))), rfl, bel.frame _, fun h => by cases h⟩

/-- A world for the witness: the table holds what its initialiser lays. -/
noncomputable def laidWorld (os : Os) : World :=
  { World.holding Tryd.prog os ⟨#[], #[], []⟩ with heap := (World.holding Tryd.prog os ⟨#[], #[], []⟩).heap.modify 0 fun
      | .cells _ t frozen => .cells (Lib.deBruijn32tab.map fun (z : Nat) => Value.int .u8 (z : Int)).toArray t frozen
      | o => o }
theorem laid_met (os : Os) : laidMet Tryd.prog Rows.guessTellsUptoRow.laid ((laidWorld os).forCall (fun _ _ => 0) ⟨#[], #[.int .i64 0, .int .i64 0, .slice none 0 0, .slice none 0 0], []⟩).memory :=
  laidMet_of_run' 8 (by kernel_rfl) (by kernel_rfl)
theorem reads (os : Os) {H : Type} (enc : TypeId × Value → H) : ∃ places, DataW.whole enc Tryd.prog ((laidWorld os).forCall (fun _ _ => 0) ⟨#[], #[.int .i64 0, .int .i64 0, .slice none 0 0, .slice none 0 0], []⟩).memory Tryd.f3.params.toList Rows.guessTellsSpec.vars false (#[.int .i64 0, .int .i64 0, .slice none 0 0, .slice none 0 0] : Array Value).toList 8 = some ([.lit (.int .i64 0), .lit (.int .i64 0), .nil, .nil], [], places) :=
  ⟨[], by kernel_rfl⟩
set_option maxRecDepth 100000 in
theorem lifted (os : Os) (started : os.Started) (H : Type) (enc : TypeId × Value → H) (F : Stop.Interp) :
    ReturnsInHanded {} Tryd.checked os 3 .any ((Rows.OpenSpec.upto Rows.guessTellsSpec).preRow enc Tryd.prog Tryd.f3 Rows.guessTellsUptoRow.domain false Rows.guessTellsUptoRow.laid) (((Rows.OpenSpec.upto Rows.guessTellsSpec).at F).post enc Tryd.prog Tryd.f3 false true false false) := by
  obtain ⟨places, hx⟩ := reads os enc
  refine returnsInHanded_of_row (C := Tryd.checked) (s := (Rows.OpenSpec.upto Rows.guessTellsSpec)) own started (by kernel_rfl) Tryd.func3
    (witness_row_at (enc := enc) (C := Tryd.checked) false (laidWorld os) #[.int .i64 0, .int .i64 0, .slice none 0 0, .slice none 0 0] rfl (by kernel_rfl) (by kernel_rfl) (by kernel_rfl)
      (OpenSpec.preRow_of_cond 8 hx (by kernel_rfl) (fun k hk => by cases hk; kernel_rfl) (by kernel_rfl) (laid_met os))) ?_
  intro W base args ds gs before hval hW _ hcond hsz0 hL _ _
  exact contract H enc W base args ds gs before hval hW hL (hcond _ rfl)
theorem over : Rows.guessTellsUptoRow.holds Tryd.pinned (Rows.OpenSpec.upto Rows.guessTellsSpec) :=
  OpenClaim.holds_of_cond 3 Tryd.f3 rfl rfl rfl rfl rfl rfl rfl ⟨rfl, rfl, rfl, rfl, rfl⟩ rfl rfl rfl rfl rfl (by kernel_rfl) Tryd.func3 (by kernel_rfl)
    (of_decide_eq_true (by kernel_rfl)) (by unfold Func.isWrapper; first | (rw [if_pos (by decide +kernel)]; kernel_rfl) | (rw [if_neg (by decide +kernel)]; exact ⟨rfl, rfl⟩))
    (fun os started H enc _ F => by rw [OpenClaim.pre_eq_preRow]; exact lifted os started H enc F)
/-- No parameter wants a stand-in. -/
theorem plain (f : FuncId) (fn : Func) (hf : Tryd.pinned.checked.prog.funcNamed "parlance/parllaw5.GuessTells" = some f) (hfn : Tryd.pinned.checked.prog.funcs[f]? = some fn) :
    false = Tryd.pinned.checked.prog.looks [] ∧ ∀ (j : Nat) t, fn.params[j]? = some t → Tryd.pinned.checked.prog.wantsStandIn t = false := by
  obtain rfl : f = 3 := Option.some.inj ((show Tryd.prog.funcNamed "parlance/parllaw5.GuessTells" = some 3 by kernel_rfl).symm.trans hf) |>.symm
  obtain rfl : fn = Tryd.f3 := (Option.some.inj (Tryd.func3.symm.trans hfn)).symm
  refine ⟨by kernel_rfl, fun j t ht => ?_⟩
  rw [Tryd.params3] at ht
  have hm : t ∈ ([3, 3, 22, 22] : List TypeId) := by simpa using Array.mem_of_getElem? ht
  have hall : (([3, 3, 22, 22] : List TypeId).all fun u => !Tryd.prog.wantsStandIn u) = true := by kernel_rfl
  exact (show Tryd.prog.wantsStandIn t = false by simpa using List.all_eq_true.1 hall t hm)
theorem card : Rows.GuessTellsUptoCardSaid :=
  Claim7.holds_tied_plain_at .later [] _ _ _ _ over (fun _ h => by cases h) (by kernel_rfl) (fun _ h => by cases h) guessTellsUpto_row_tie rfl ⟨rfl, rfl⟩ (by kernel_rfl) rfl plain (by kernel_rfl)
end Go.Proofs.YthnkgmlhpefldaaDoor.RowGuessTells
namespace Go.Proofs.YthnkgmlhpefldaaDoor
theorem guessTellsUpto_card : Rows.GuessTellsUptoCardSaid := RowGuessTells.card
#print axioms guessTellsUpto_card
end Go.Proofs.YthnkgmlhpefldaaDoor
