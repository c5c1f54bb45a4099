/- Plain: a counterexample gives a test that tells more words apart. The contracts of the tests 'is no symbol' (two closures alike). slices.Min and Max of whole numbers. A region that draws its order, that only loads what was there and calls what makes new memory only: one walk in the order of the text. The contract of dfa.Check: dfaErr. teach.plain: the two rows that it makes, through the region of the two appends. dfa.Canon: the two rows that it makes, beside a third one (X: its block). dfa.Canon: what its loops keep. Plain: dfa.Canon keeps the language, and goes by the language alone. -/
import Derived.Test.YtclpmmbclgihbaaJLearnTellsRow3
import Derived.Test.YtclpmmbclgihbaaJLearnTellsRow1
import Derived.Test.YtclpmmbclgihbaaJLearnTellsRow2
import Derived.Deep.LoopGhost
import Derived.Lib.MinMax
import Derived.BigQuiet
namespace Go.Proofs.Ytclpmmbclgihbaa
open Go.RowKit
namespace Cl
open Df Lr

/-- what an automaton answers -/
def fD (x : Dfa) (u : List Int) : Bool := goodS x (runS x x.start u)
theorem runS_app (x : Dfa) (s : Int) (a b : List Int) : runS x s (a ++ b) = runS x (runS x s a) b := by unfold runS; rw [List.foldl_append]
theorem runS_in {x : Dfa} (hx : Right x) : ∀ (u : List Int) {s : Int}, inS x s → inS x (runS x s u)
  | [], _, h => h
  | c :: u, s, _ => by
    show inS x (runS x (toS x s c.toNat) u)
    exact runS_in hx u (toS_in hx s c.toNat)
theorem fD_app (x : Dfa) (u v : List Int) : fD x (u ++ v) = goodS x (runS x (runS x x.start u) v) := by unfold fD; rw [runS_app]
theorem rw_state {x : Dfa} {T : List (List Int)} {u v : List Int} (h : runS x x.start u = runS x x.start v) : rwT (fD x) T u = rwT (fD x) T v := by
  unfold rwT bitsT
  congr 1
  refine List.map_congr_left fun t _ => ?_
  rw [fD_app, fD_app, h]
/-- as many words as states, and one more -/
theorem bdD {x : Dfa} (hx : Right x) {T : List (List Int)} {k : Nat} {A : List (List Int)} (h : OkA (fD x) T k A) : A.length ≤ x.next.length + 1 := by
  have h1 : (A.map (runS x x.start)).Nodup := by
    have h2 := h.nd
    unfold ks at h2
    refine List.pairwise_map.2 (List.Pairwise.imp (fun {a b} hne e => hne ?_) (List.pairwise_map.1 h2))
    exact rw_state e
  have h3 := nodup_sub (A.map (runS x x.start)) ((List.range (x.next.length + 1)).map fun (i : Nat) => (i : Int) - 1) h1 (fun a ha => by
    rw [List.mem_map] at ha
    obtain ⟨u, _, rfl⟩ := ha
    have h4 := runS_in hx u (start_in hx)
    unfold inS at h4
    rw [List.mem_map]
    exact ⟨(runS x x.start u + 1).toNat, by rw [List.mem_range]; omega, by omega⟩)
  simpa using h3
section
variable {f : List Int → Bool} {T : List (List Int)} {k : Nat} {A0 : List (List Int)} {N : Nat}
theorem hyp_step (h200 : (discA f T k A0 N).length ≤ N) {q : Nat} {a : List Int} (ha : (discA f T k A0 N)[q]? = some a) {c : Nat} (hc : c < k) :
    ∃ (q' : Nat) (b : List Int), toS (closedD f T k A0 N) (q : Int) c = (q' : Int) ∧ (discA f T k A0 N)[q']? = some b ∧ rwT f T b = rwT f T (a ++ [(c : Int)]) := by
  obtain ⟨e1, e2⟩ := rows_200 h200
  obtain ⟨b, hb, hr⟩ := idx_at (disc_closed h200 (List.mem_of_getElem? ha) hc)
  refine ⟨_, b, ?_, hb, hr⟩
  unfold toS
  rw [if_neg (by omega)]
  show (((rowsA f T k A0 N)[((q : Int)).toNat]?.getD [])[c]?).getD (-1) = _
  rw [e1, Int.toNat_natCast, List.getElem?_map, ha]
  show ((rowA f T k (discA f T k A0 N) a)[c]?).getD (-1) = _
  unfold rowA
  rw [List.getElem?_map, List.getElem?_range hc]
  rfl
theorem hyp_acc (h200 : (discA f T k A0 N).length ≤ N) {q : Nat} {a : List Int} (ha : (discA f T k A0 N)[q]? = some a) : atS (closedD f T k A0 N) (q : Int) = if f a then 0 else -1 := by
  obtain ⟨e1, e2⟩ := rows_200 h200
  unfold atS
  rw [if_neg (by omega)]
  show ((accsA f T k A0 N)[((q : Int)).toNat]?).getD (-1) = _
  rw [e2, Int.toNat_natCast, List.getElem?_map, ha]
  rfl
theorem hyp_run (h200 : (discA f T k A0 N).length ≤ N) : ∀ (w : List Int) (q : Nat) (a : List Int), (discA f T k A0 N)[q]? = some a → (∀ y ∈ w, 0 ≤ y ∧ y < (k : Int)) → ∃ (q' : Nat) (b : List Int), runS (closedD f T k A0 N) (q : Int) w = (q' : Int) ∧ (discA f T k A0 N)[q']? = some b
  | [], q, a, ha, _ => ⟨q, a, rfl, ha⟩
  | y :: w, q, a, ha, hw => by
    have hy := hw y List.mem_cons_self
    obtain ⟨c, hc⟩ : ∃ c : Nat, y = (c : Int) := ⟨y.toNat, by omega⟩
    subst hc
    obtain ⟨q', b, h1, h2, _⟩ := hyp_step h200 ha (c := c) (by omega)
    show ∃ q'' b', runS _ (toS _ _ (c : Int).toNat) w = _ ∧ _
    rw [Int.toNat_natCast, h1]
    exact hyp_run h200 w q' b h2 (fun z hz => hw z (List.mem_cons_of_mem _ hz))
/-- the word of the state that a word leads to -/
def aw (f : List Int → Bool) (T : List (List Int)) (k : Nat) (A0 : List (List Int)) (N : Nat) (w : List Int) : List Int := (discA f T k A0 N).getD (runS (closedD f T k A0 N) 0 w).toNat []
/-- what is asked at place i of a counterexample -/
def sm (f : List Int → Bool) (T : List (List Int)) (k : Nat) (A0 : List (List Int)) (N : Nat) (w : List Int) (i : Nat) : Bool := f (aw f T k A0 N (w.take i) ++ w.drop i)
theorem aw_at {w : List Int} {q : Nat} {b : List Int} (h1 : runS (closedD f T k A0 N) 0 w = (q : Int)) (h2 : (discA f T k A0 N)[q]? = some b) : aw f T k A0 N w = b := by
  unfold aw
  rw [h1, Int.toNat_natCast, List.getD_eq_getElem?_getD, h2]; rfl
theorem sm_zero (h0 : (discA f T k A0 N)[0]? = some []) (w : List Int) : sm f T k A0 N w 0 = f w := by
  unfold sm
  rw [List.take_zero, List.drop_zero, aw_at (q := 0) rfl h0, List.nil_append]
theorem sm_len (h200 : (discA f T k A0 N).length ≤ N) (h0 : (discA f T k A0 N)[0]? = some []) (w : List Int) (hw : ∀ y ∈ w, 0 ≤ y ∧ y < (k : Int)) : sm f T k A0 N w w.length = decide (0 ≤ atS (closedD f T k A0 N) (runS (closedD f T k A0 N) 0 w)) := by
  unfold sm
  rw [List.take_length, List.drop_length, List.append_nil]
  obtain ⟨q, b, h1, h2⟩ := hyp_run h200 w 0 [] h0 hw
  rw [aw_at h1 h2, show ((0 : Nat) : Int) = 0 from rfl] at *
  rw [h1, hyp_acc h200 h2]
  cases f b <;> simp
theorem rwT_app (u t : List Int) : rwT f (T ++ [t]) u = rwT f T u ++ [if f (u ++ t) then 1 else 0] := by
  unfold rwT bitsT u8b
  rw [List.map_append, List.map_append]
  cases hf : f (u ++ t) <;> simp [hf]
theorem rwT_sub {u v t : List Int} (h : rwT f (T ++ [t]) u = rwT f (T ++ [t]) v) : rwT f T u = rwT f T v ∧ f (u ++ t) = f (v ++ t) := by
  rw [rwT_app, rwT_app] at h
  have h2 := List.append_inj' h rfl
  refine ⟨h2.1, ?_⟩
  have h3 := h2.2
  cases hu : f (u ++ t) <;> cases hv : f (v ++ t) <;> simp [hu, hv] at h3 ⊢
theorem okA_more {A : List (List Int)} (h : OkA f T k A) (t : List Int) : OkA f (T ++ [t]) k A := by
  refine ⟨?_, h.len, h.sym⟩
  have h2 := h.nd
  unfold ks at h2 ⊢
  exact List.pairwise_map.2 (List.Pairwise.imp (fun {a b} hne e => hne (rwT_sub e).1) (List.pairwise_map.1 h2))
theorem nodup_map_inj {α β : Type} (g : α → β) : ∀ (A : List α), (A.map g).Nodup → ∀ {a b : α}, a ∈ A → b ∈ A → g a = g b → a = b
  | [], _, a, _, h, _, _ => by cases h
  | c :: A, hn, a, b, ha, hb, he => by
    rw [List.map_cons] at hn
    obtain ⟨h1, h2⟩ := List.nodup_cons.1 hn
    rcases List.mem_cons.1 ha with rfl | ha2 <;> rcases List.mem_cons.1 hb with rfl | hb2
    · rfl
    · exact absurd (List.mem_map.2 ⟨b, hb2, he.symm⟩) h1
    · exact absurd (List.mem_map.2 ⟨a, ha2, he⟩) h1
    · exact nodup_map_inj g A h2 ha2 hb2 he
/-- a test of a counterexample brings up a word more -/
theorem lstar (hA : OkA f T k A0) (h200 : (discA f T k A0 N).length ≤ N) (h0 : (discA f T k A0 N)[0]? = some []) (w : List Int) (hw : ∀ y ∈ w, 0 ≤ y ∧ y < (k : Int)) {j : Nat} (hj : j < w.length) (h1 : sm f T k A0 N w j = f w) (h2 : sm f T k A0 N w (j + 1) ≠ f w)
    {N' : Nat} (hB : (discA f (T ++ [w.drop (j + 1)]) k (discA f T k A0 N) N').length ≤ N') : (discA f T k A0 N).length < (discA f (T ++ [w.drop (j + 1)]) k (discA f T k A0 N) N').length := by
  obtain ⟨q, a, ha1, ha2⟩ := hyp_run h200 (w.take j) 0 [] h0 (fun y hy => hw y (List.mem_of_mem_take hy))
  have hy := hw w[j] (List.getElem_mem hj)
  obtain ⟨c, hc⟩ : ∃ c : Nat, w[j] = (c : Int) := ⟨w[j].toNat, by omega⟩
  have hck : c < k := by omega
  obtain ⟨q', b, hb1, hb2, hb3⟩ := hyp_step h200 ha2 hck
  have htk : w.take (j + 1) = w.take j ++ [(c : Int)] := by rw [List.take_succ_eq_append_getElem hj, hc]
  have hrn : runS (closedD f T k A0 N) 0 (w.take (j + 1)) = (q' : Int) := by
    rw [htk, runS_app]
    rw [show ((0 : Nat) : Int) = 0 from rfl] at ha1
    rw [ha1]
    unfold runS
    rw [List.foldl_cons, List.foldl_nil, Int.toNat_natCast]
    exact hb1
  have hdr : w.drop j = (c : Int) :: w.drop (j + 1) := by rw [List.drop_eq_getElem_cons hj, hc]
  unfold sm at h1 h2
  rw [aw_at (by rw [← ha1]; rfl) ha2, hdr] at h1
  rw [aw_at hrn hb2] at h2
  have hp := (discA_to (f := f) (T := T ++ [w.drop (j + 1)]) (k := k) (A0 := discA f T k A0 N) (i := 0) (j := N') (by omega))
  have hle := hp.length_le
  by_cases hlt : (discA f T k A0 N).length < (discA f (T ++ [w.drop (j + 1)]) k (discA f T k A0 N) N').length
  · exact hlt
  exfalso
  have heq : discA f (T ++ [w.drop (j + 1)]) k (discA f T k A0 N) N' = discA f T k A0 N := by
    have h3 : discA f (T ++ [w.drop (j + 1)]) k (discA f T k A0 N) 0 = discA f T k A0 N := rfl
    rw [h3] at hp hle
    exact (hp.eq_of_length (by omega)).symm
  have hcl := disc_closed hB (by rw [heq]; exact List.mem_of_getElem? ha2) hck
  rw [heq] at hcl
  obtain ⟨b', hb', hr'⟩ := idx_at hcl
  obtain ⟨e1, e2⟩ := rwT_sub hr'
  rw [← hb3] at e1
  have hnd := (discA_ok hA N).nd
  have hbb : b' = b := by
    exact nodup_map_inj (rwT f T) _ hnd (List.mem_of_getElem? hb') (List.mem_of_getElem? hb2) e1
  subst hbb
  rw [← h1] at h2
  refine h2 (e2.trans ?_)
  rw [List.append_assoc]
  rfl
end
end Cl
end Go.Proofs.Ytclpmmbclgihbaa
namespace Go.Proofs.Ytclpmmbclgihbaa
open Go.RowKit
namespace Df

theorem width_at {x : Dfa} (h : 0 < x.next.length) : (x.next[0]'h).length = x.width := by
  obtain ⟨st, ac, nx⟩ := x
  cases nx with
  | nil => simp at h
  | cons r l => rfl

end Df
end Go.Proofs.Ytclpmmbclgihbaa
namespace Go.Proofs.Ytclpmmbclgihbaa
open Go.RowKit

def minI (l : List Int) (i : Nat) : Int := (l.take i).foldl min (l.headD 0)
def maxI (l : List Int) (i : Nat) : Int := (l.take i).foldl max (l.headD 0)
def minL (l : List Int) : Int := l.foldl min (l.headD 0)
def maxL (l : List Int) : Int := l.foldl max (l.headD 0)
theorem foldl_min_lt (c : Int) : ∀ (l : List Int) (a : Int), l.foldl min a < c ↔ a < c ∨ ∃ v ∈ l, v < c
  | [], a => by simp
  | x :: l, a => by
    rw [List.foldl_cons, foldl_min_lt c l]
    simp only [List.mem_cons, exists_eq_or_imp]
    constructor
    · rintro (h | h)
      · by_cases e : a < c
        · exact .inl e
        · exact .inr (.inl (by omega))
      · exact .inr (.inr h)
    · rintro (h | h | h)
      · exact .inl (by omega)
      · exact .inl (by omega)
      · exact .inr h
theorem foldl_max_le (c : Int) : ∀ (l : List Int) (a : Int), c ≤ l.foldl max a ↔ c ≤ a ∨ ∃ v ∈ l, c ≤ v
  | [], a => by simp
  | x :: l, a => by
    rw [List.foldl_cons, foldl_max_le c l]
    simp only [List.mem_cons, exists_eq_or_imp]
    constructor
    · rintro (h | h)
      · by_cases e : c ≤ a
        · exact .inl e
        · exact .inr (.inl (by omega))
      · exact .inr (.inr h)
    · rintro (h | h | h)
      · exact .inl (by omega)
      · exact .inl (by omega)
      · exact .inr h
theorem minL_lt {l : List Int} (h : 0 < l.length) (c : Int) : minL l < c ↔ ∃ v ∈ l, v < c := by
  cases l with
  | nil => simp at h
  | cons x l =>
    unfold minL
    rw [foldl_min_lt]
    simp
theorem maxL_le {l : List Int} (h : 0 < l.length) (c : Int) : c ≤ maxL l ↔ ∃ v ∈ l, c ≤ v := by
  cases l with
  | nil => simp at h
  | cons x l =>
    unfold maxL
    rw [foldl_max_le]
    simp
theorem minI_step {l : List Int} {i : Nat} (h : i < l.length) : minI l (i + 1) = min (minI l i) l[i] := by
  unfold minI
  rw [List.take_succ_eq_append_getElem h, List.foldl_append]
  rfl
theorem maxI_step {l : List Int} {i : Nat} (h : i < l.length) : maxI l (i + 1) = max (maxI l i) l[i] := by
  unfold maxI
  rw [List.take_succ_eq_append_getElem h, List.foldl_append]
  rfl
theorem minI_one {l : List Int} (h : 0 < l.length) : minI l 1 = l[0] := by
  cases l with
  | nil => simp at h
  | cons x l => simp [minI]
theorem maxI_one {l : List Int} (h : 0 < l.length) : maxI l 1 = l[0] := by
  cases l with
  | nil => simp at h
  | cons x l => simp [maxI]
theorem minI_all (l : List Int) : minI l l.length = minL l := by unfold minI minL; rw [List.take_length]
theorem maxI_all (l : List Int) : maxI l l.length = maxL l := by unfold maxI maxL; rw [List.take_length]

set_option maxHeartbeats 1000000 in
theorem minE (l : List Int) (h0 : 0 < l.length) (a : Option Addr) (cap : Nat) (w : World) (hl : Sl w (.slice a l.length cap) (ints l)) :
    Calls Try.prog 35 #[.slice a l.length cap] w fun e w' => e = .returned (.int .i64 (minL l)) ∧ w' = w := by
  have HL := Lib.hid hl
  have hc := hl.len.2
  unfold maxLen at hc
  obtain ⟨hc1, hc2⟩ := hc
  have HS := Lib.hid (fun (i : Nat) (h : i < l.length) => @minI_step l i h)
  have H1 := Lib.hid (minI_one h0)
  have HW := Lib.hid (minI_all l)
  obtain ⟨b, off, hae, hca⟩ := hl.at h0
  have c0 := hca 0 (by rw [ints_len]; exact h0)
  rw [ints_get, Nat.add_zero] at c0
  obtain ⟨v0, HV0⟩ := nameIt (l[0]'h0)
  rw [HV0.out] at c0 H1
  have HCA := Lib.hid hca
  obtain ⟨R, HR⟩ := nameIt (minL l)
  rw [HR.out] at HW ⊢
  subst hae
  have h1 : (0 : Int) < (l.length : Int) := by omega
  have h2 : ¬ (l.length : Int) < 1 := by omega
  clear hl hca
  go_enter Try.func35, Try.ntmps35
  go_wp2_with fail
  go_loopg [3, 4] l.length (fun gg v3 v4 wr => ∃ i : Nat, 1 ≤ i ∧ i ≤ l.length ∧ l.length - i ≤ gg ∧ v3 = .int .i64 (minI l i) ∧ v4 = .int .i64 i ∧ wr = w)
  case atStart => exact ⟨1, by omega, by omega, by omega, by rw [H1.out], rfl, rfl⟩
  case round =>
    obtain ⟨i, hi1, hi, hg, rfl, rfl, rfl⟩ := hrel
    by_cases hlt : i < l.length
    · have hlt' : (i : Int) < (l.length : Int) := by omega
      have hi0 : (0 : Int) ≤ (i : Int) := by omega
      have c1 := HCA.out i (by rw [ints_len]; exact hlt)
      rw [ints_get] at c1
      have HN := Lib.hid (HS.out i hlt)
      obtain ⟨y, HY⟩ := nameIt (l[i]'hlt)
      rw [HY.out] at c1 HN
      obtain ⟨m, HM⟩ := nameIt (minI l i)
      rw [HM.out] at HN ⊢
      have HMM : min m y = minI l (i + 1) := HN.out.symm
      obtain ⟨m2, HM2⟩ := nameIt (minI l (i + 1))
      rw [HM2.out] at HMM
      go_wp2_with fail
      go_roundg (l.length - (i + 1))
      case measure => omega
      case rel => exact ⟨i + 1, by omega, by omega, by omega, by rw [HM2.out, ← HMM], by go_num, rfl⟩
    · obtain rfl : i = l.length := by omega
      have hlt' : ¬ (l.length : Int) < (l.length : Int) := by omega
      rw [HW.out]
      go_wp2_with fail
      go_ret
      exact ⟨rfl, rfl⟩

set_option maxHeartbeats 1000000 in
theorem maxE (l : List Int) (h0 : 0 < l.length) (a : Option Addr) (cap : Nat) (w : World) (hl : Sl w (.slice a l.length cap) (ints l)) :
    Calls Try.prog 36 #[.slice a l.length cap] w fun e w' => e = .returned (.int .i64 (maxL l)) ∧ w' = w := by
  have HL := Lib.hid hl
  have hc := hl.len.2
  unfold maxLen at hc
  obtain ⟨hc1, hc2⟩ := hc
  have HS := Lib.hid (fun (i : Nat) (h : i < l.length) => @maxI_step l i h)
  have H1 := Lib.hid (maxI_one h0)
  have HW := Lib.hid (maxI_all l)
  obtain ⟨b, off, hae, hca⟩ := hl.at h0
  have c0 := hca 0 (by rw [ints_len]; exact h0)
  rw [ints_get, Nat.add_zero] at c0
  obtain ⟨v0, HV0⟩ := nameIt (l[0]'h0)
  rw [HV0.out] at c0 H1
  have HCA := Lib.hid hca
  obtain ⟨R, HR⟩ := nameIt (maxL l)
  rw [HR.out] at HW ⊢
  subst hae
  have h1 : (0 : Int) < (l.length : Int) := by omega
  have h2 : ¬ (l.length : Int) < 1 := by omega
  clear hl hca
  go_enter Try.func36, Try.ntmps36
  go_wp2_with fail
  go_loopg [3, 4] l.length (fun gg v3 v4 wr => ∃ i : Nat, 1 ≤ i ∧ i ≤ l.length ∧ l.length - i ≤ gg ∧ v3 = .int .i64 (maxI l i) ∧ v4 = .int .i64 i ∧ wr = w)
  case atStart => exact ⟨1, by omega, by omega, by omega, by rw [H1.out], rfl, rfl⟩
  case round =>
    obtain ⟨i, hi1, hi, hg, rfl, rfl, rfl⟩ := hrel
    by_cases hlt : i < l.length
    · have hlt' : (i : Int) < (l.length : Int) := by omega
      have hi0 : (0 : Int) ≤ (i : Int) := by omega
      have c1 := HCA.out i (by rw [ints_len]; exact hlt)
      rw [ints_get] at c1
      have HN := Lib.hid (HS.out i hlt)
      obtain ⟨y, HY⟩ := nameIt (l[i]'hlt)
      rw [HY.out] at c1 HN
      obtain ⟨m, HM⟩ := nameIt (maxI l i)
      rw [HM.out] at HN ⊢
      have HMM : max m y = maxI l (i + 1) := HN.out.symm
      obtain ⟨m2, HM2⟩ := nameIt (maxI l (i + 1))
      rw [HM2.out] at HMM
      go_wp2_with fail
      go_roundg (l.length - (i + 1))
      case measure => omega
      case rel => exact ⟨i + 1, by omega, by omega, by omega, by rw [HM2.out, ← HMM], by go_num, rfl⟩
    · obtain rfl : i = l.length := by omega
      have hlt' : ¬ (l.length : Int) < (l.length : Int) := by omega
      rw [HW.out]
      go_wp2_with fail
      go_ret
      exact ⟨rfl, rfl⟩
end Go.Proofs.Ytclpmmbclgihbaa
namespace Go.Proofs.Ytclpmmbclgihbaa
open Go.RowKit

/-- a world behind w0: what was there is as it was -/
structure Aft (w0 : World) where
  w : World
  bel : Below w0.heap.size w0 w
instance (w0 : World) : Nonempty (Aft w0) := ⟨⟨w0, Below.refl _ _⟩⟩
theorem aft_cell {w0 : World} {p : Addr} {v : Value} (h : w0.cell? p = some v) : ∀ x : Aft w0, x.w.cell? p = some v := fun x => (x.bel.cell (lt_of_cell h)).trans h
theorem wp_region_after {P : Program} {id : Nat} {Q : Exit → Act → World → Prop} {a : Act} {w0 : World} {l : List Oper} (hm : P.follows .mixedOrders = true) (hB : Region.lexB .any l.toArray = true)
    (h : wpQuiet P l.toArray (fun w' => ∃ x : Aft w0, w' = x.w) (fun a' => ∀ w', (∃ x : Aft w0, w' = x.w) → Q .normal a' w') l a) : (Code.region id l.toArray true).wp P Q a w0 :=
  wp_region_quiet (C := fun w' => ∃ x : Aft w0, w' = x.w) hm hB ⟨⟨_, (Below.refl _ w0).drew⟩, rfl⟩ (by simpa using h)
theorem Calls.after {P : Program} {f : FuncId} {args : Array Value} {w0 : World} {x : Aft w0} {v : Value} (h : Calls P f args x.w fun e w' => e = .returned v ∧ Below x.w.heap.size x.w w') :
    Calls P f args x.w fun e w'' => e = .returned v ∧ ∃ y : Aft w0, w'' = y.w :=
  h.mono fun _ w'' ⟨he, hb⟩ => ⟨he, ⟨w'', x.bel.trans (hb.mono x.bel.size)⟩, rfl⟩
end Go.Proofs.Ytclpmmbclgihbaa
namespace Go.Proofs.Ytclpmmbclgihbaa
open Go.RowKit
namespace Df

def badRowB (x : Dfa) (r : List Int) : Bool := decide (r.length = 0) || decide (r.length ≠ x.width)
def startB (x : Dfa) : Bool := decide (x.start < 0) || decide ((x.next.length : Int) ≤ x.start)
def rowB (x : Dfa) (r : List Int) : Bool := r.any fun v => decide (v < -1) || decide ((x.next.length : Int) ≤ v)
def accB (x : Dfa) : Bool := x.acc.any fun v => decide (v < -1)
theorem ragged_iff (x : Dfa) : raggedD x ↔ x.next.any (badRowB x) = true := by
  unfold raggedD badRowB
  rw [List.any_eq_true]
  refine exists_congr fun r => and_congr_right fun _ => ?_
  simp
theorem badD_iff (x : Dfa) : badD x ↔ (startB x || accB x || x.next.any (rowB x)) = true := by
  unfold badD startB accB rowB
  simp only [Bool.or_eq_true, List.any_eq_true, decide_eq_true_eq, or_assoc]
theorem dfaErr_one {x : Dfa} (h1 : 200 < x.next.length) : dfaErr x = 2 := by unfold dfaErr; rw [if_pos h1]
theorem dfaErr_two {x : Dfa} (h1 : ¬ 200 < x.next.length) (h2 : x.next.length = 0 ∨ x.acc.length ≠ x.next.length) : dfaErr x = 3 := by unfold dfaErr; rw [if_neg h1, if_pos h2]
theorem dfaErr_three {x : Dfa} (h1 : ¬ 200 < x.next.length) (h2 : ¬ (x.next.length = 0 ∨ x.acc.length ≠ x.next.length)) (h3 : 16 < x.width) : dfaErr x = 2 := by unfold dfaErr; rw [if_neg h1, if_neg h2, if_pos h3]
theorem dfaErr_four {x : Dfa} (h1 : ¬ 200 < x.next.length) (h2 : ¬ (x.next.length = 0 ∨ x.acc.length ≠ x.next.length)) (h3 : ¬ 16 < x.width) (h4 : x.next.any (badRowB x) = true) : dfaErr x = 3 := by unfold dfaErr; rw [if_neg h1, if_neg h2, if_neg h3, if_pos ((ragged_iff x).2 h4)]
theorem dfaErr_five {x : Dfa} (h1 : ¬ 200 < x.next.length) (h2 : ¬ (x.next.length = 0 ∨ x.acc.length ≠ x.next.length)) (h3 : ¬ 16 < x.width) (h4 : x.next.any (badRowB x) = false) : dfaErr x = if (startB x || accB x || x.next.any (rowB x)) = true then 1 else 0 := by
  unfold dfaErr
  rw [if_neg h1, if_neg h2, if_neg h3, if_neg (by rw [ragged_iff, h4]; simp)]
  by_cases h : badD x
  · rw [if_pos h, if_pos ((badD_iff x).1 h)]
  · rw [if_neg h, if_neg (fun e => h ((badD_iff x).2 e))]
theorem any_step {α : Type} (p : α → Bool) {l : List α} {i : Nat} (h : i < l.length) : (l.take (i + 1)).any p = ((l.take i).any p || p l[i]) := by
  rw [List.take_succ_eq_append_getElem h, List.any_append]
  simp
theorem any_at {α : Type} {p : α → Bool} {l : List α} {i : Nat} (h : i < l.length) (hp : p l[i] = true) : l.any p = true := List.any_eq_true.2 ⟨_, List.getElem_mem h, hp⟩
theorem rowB_min {x : Dfa} {r : List Int} (h0 : 0 < r.length) : rowB x r = (decide (minL r < -1) || decide ((x.next.length : Int) ≤ maxL r)) := by
  rw [Bool.eq_iff_iff]
  unfold rowB
  simp only [List.any_eq_true, Bool.or_eq_true, decide_eq_true_eq, minL_lt h0, maxL_le h0]
  constructor
  · rintro ⟨v, hv, h | h⟩
    · exact .inl ⟨v, hv, h⟩
    · exact .inr ⟨v, hv, h⟩
  · rintro (⟨v, hv, h⟩ | ⟨v, hv, h⟩)
    · exact ⟨v, hv, .inl h⟩
    · exact ⟨v, hv, .inr h⟩
theorem accB_min {x : Dfa} (h0 : 0 < x.acc.length) : accB x = decide (minL x.acc < -1) := by
  rw [Bool.eq_iff_iff]
  unfold accB
  simp only [List.any_eq_true, decide_eq_true_eq, minL_lt h0]

set_option maxHeartbeats 4000000 in
theorem checkE (x : Dfa) (aa an : Option Addr) (ca cn : Nat) (w : World) (hA : Sl w (.slice aa x.acc.length ca) (ints x.acc)) (hN : Rd AnyB w (.sl (x.next.map D.ints)) [.slice an x.next.length cn]) :
    Calls Try.prog 26 #[.agg #[.int .i64 x.start, .slice aa x.acc.length ca, .slice an x.next.length cn]] w fun e w' => e = .returned (.int .i64 (dfaErr x)) ∧ Below w.heap.size w w' := by
  obtain ⟨w0, HW0⟩ := nameIt (w.alloc (.cells #[.int .i64 x.start, .slice aa x.acc.length ca, .slice an x.next.length cn] 25))
  have hb0 : Below w.heap.size w w0 := by rw [← HW0.out]; exact (Below.refl _ _).alloc (Nat.le_refl _) _
  have HB0 := Lib.hid hb0
  have X0 : w0.heap[w.heap.size]? = some (.cells #[.int .i64 x.start, .slice aa x.acc.length ca, .slice an x.next.length cn] 25 (0, 0)) := by rw [← HW0.out]; exact bx_new _ _ _ rfl
  obtain ⟨x0, x1, x2⟩ := bx_cells3 X0
  have HA := Lib.hid (hA.keep hb0)
  have HNX := Lib.hid (hN.below hb0)
  clear hA hN hb0 X0
  have HS0 : Hid (startB x = (decide (x.start < 0) || decide ((x.next.length : Int) ≤ x.start))) := rfl
  obtain ⟨sB, HSB⟩ := nameIt (startB x)
  obtain ⟨R, HR⟩ := nameIt (dfaErr x)
  have HL0 : Hid (List.map D.ints x.next = x.next.map D.ints) := rfl
  obtain ⟨n, HN⟩ := nameIt x.next.length
  obtain ⟨la, HLA⟩ := nameIt x.acc.length
  obtain ⟨st, HST⟩ := nameIt x.start
  have HNB : Hid (n ≤ maxLen) := by
    have := Rd.form HNX.out
    obtain ⟨a, cap, L, e, h1, h2, h3⟩ := HNX.out
    show n ≤ maxLen
    rw [List.length_map] at h1
    rw [← HN.out]; omega
  rw [HN.out] at x2
  rw [HLA.out] at x1
  rw [HST.out] at x0
  rw [HN.out, HLA.out, HST.out] at HW0
  rw [HSB.out, HN.out, HST.out] at HS0
  have HAA := HA.out
  rw [HLA.out] at HAA
  have HNN := HNX.out
  rw [HN.out] at HNN
  replace HAA := Lib.hid HAA
  replace HNN := Lib.hid HNN
  rw [HN.out, HLA.out, HST.out, HR.out]
  by_cases h1 : 200 < n
  · have HE : Hid (R = 2) := by show _ = _; rw [← HR.out]; exact dfaErr_one (by rw [HN.out]; exact h1)
    have h1' : (200 : Int) < (n : Int) := by omega
    go_enter Try.func26, Try.ntmps26
    go_upto_region 1 with fail
    rw [HW0.out]
    go_wp2_with fail
    go_ret
    exact ⟨by rw [HE.out]; rfl, HB0.out⟩
  have h1' : ¬ (200 : Int) < (n : Int) := by omega
  by_cases h2 : n = 0 ∨ la ≠ n
  · have HE : Hid (R = 3) := by show _ = _; rw [← HR.out]; exact dfaErr_two (by rw [HN.out]; exact h1) (by rw [HN.out, HLA.out]; exact h2)
    by_cases h20 : n = 0
    · have h2' : (n : Int) = 0 := by omega
      clear h2 h20
      go_enter Try.func26, Try.ntmps26
      go_upto_region 1 with fail
      rw [HW0.out]
      go_wp2_with fail
      go_ret
      exact ⟨by rw [HE.out]; rfl, HB0.out⟩
    · have h2' : ¬ (n : Int) = 0 := by omega
      have h3' : ((la : Int) != (n : Int)) = true := by rw [bne_iff_ne]; omega
      clear h2 h20
      go_enter Try.func26, Try.ntmps26
      go_upto_region 1 with fail
      rw [HW0.out]
      go_wp2_with fail
      go_ret
      exact ⟨by rw [HE.out]; rfl, HB0.out⟩
  have hn0 : 0 < n := by omega
  obtain rfl : n = la := by omega
  have hni : ¬ (n : Int) = 0 := by omega
  have hni0 : (0 : Int) < (n : Int) := by omega
  have hn0x : 0 < x.next.length := by rw [HN.out]; exact hn0
  have H2 : Hid (¬ (x.next.length = 0 ∨ x.acc.length ≠ x.next.length)) := by show ¬ _; rw [HN.out, HLA.out]; exact h2
  have H1 : Hid (¬ 200 < x.next.length) := by show ¬ _; rw [HN.out]; exact h1
  obtain ⟨b, off, vr, hae, c0, hsl⟩ := Rd.rowI_at HNN.out hn0x
  obtain ⟨a0, k0, rfl⟩ := hsl.form
  rw [ints_len, width_at hn0x, Nat.add_zero] at c0
  clear hsl
  obtain ⟨m, HM⟩ := nameIt x.width
  rw [HM.out] at c0
  subst hae
  by_cases h3 : 16 < m
  · have HE : Hid (R = 2) := by show _ = _; rw [← HR.out]; exact dfaErr_three H1.out H2.out (by rw [HM.out]; exact h3)
    have h3' : (16 : Int) < (m : Int) := by omega
    clear h2 h1
    go_enter Try.func26, Try.ntmps26
    go_upto_region 1 with fail
    rw [HW0.out]
    go_wp2_with fail
    go_ret
    exact ⟨by rw [HE.out]; rfl, HB0.out⟩
  have h3' : ¬ (16 : Int) < (m : Int) := by omega
  have H3 : Hid (¬ 16 < x.width) := by show ¬ _; rw [HM.out]; exact h3
  clear h2 h1 h3
  go_enter Try.func26, Try.ntmps26
  go_upto_region 1 with fail
  rw [HW0.out]
  go_wp2_with fail
  go_loopg [5, 35] n (fun gg v5 v35 wr => ∃ i : Nat, i ≤ n ∧ n - i ≤ gg ∧ v35 = .int .i64 i ∧ w0 = wr ∧ Hid ((x.next.take i).any (badRowB x) = false))
  case atStart => exact ⟨0, by omega, by omega, rfl, rfl, rfl⟩
  case round =>
    obtain ⟨i, hi, hg, rfl, rfl, HI⟩ := hrel
    by_cases hlt : i < n
    · have hlt' : (i : Int) < (n : Int) := by omega
      have hi0 : (0 : Int) ≤ (i : Int) := by omega
      have hltx : i < x.next.length := by rw [HN.out]; exact hlt
      obtain ⟨b', off', vi, hae, ci, hsl⟩ := Rd.rowI_at HNN.out hltx
      obtain ⟨ai, ki, rfl⟩ := hsl.form
      rw [ints_len] at ci
      cases hae
      clear hsl
      have HBR : Hid (badRowB x x.next[i] = (decide (x.next[i].length = 0) || decide (x.next[i].length ≠ x.width))) := rfl
      have HST' := Lib.hid (any_step (badRowB x) hltx)
      have HAT := Lib.hid (fun h => any_at (p := badRowB x) hltx h)
      obtain ⟨br, HBRN⟩ := nameIt (badRowB x x.next[i])
      obtain ⟨rl, HRL⟩ := nameIt x.next[i].length
      rw [HRL.out] at ci
      rw [HBRN.out, HRL.out, HM.out] at HBR
      rw [HBRN.out] at HST' HAT
      by_cases hr : rl = 0
      · have HE : Hid (R = 3) := by
          show _ = _; rw [← HR.out]; exact dfaErr_four H1.out H2.out H3.out (HAT.out (by rw [HBR.out]; simp [hr]))
        have hri : (rl : Int) = 0 := by omega
        clear hr
        go_wp2_with fail
        go_ret
        exact ⟨by rw [HE.out]; rfl, HB0.out⟩
      · have hri : ¬ (rl : Int) = 0 := by omega
        have HRN := Lib.hid hr
        clear hr
        by_cases hm : rl = m
        · have hmi : (rl : Int) = (m : Int) := by omega
          have HI2 : Hid ((x.next.take (i + 1)).any (badRowB x) = false) := by
            show _ = _; rw [HST'.out, HI.out, HBR.out]; simp [hm]; have := HRN.out; omega
          subst hm
          go_wp2_with fail
          go_roundg (n - (i + 1))
          case measure => omega
          case rel => exact ⟨i + 1, by omega, by omega, by go_num, rfl, HI2⟩
        · have HE : Hid (R = 3) := by
            show _ = _; rw [← HR.out]; exact dfaErr_four H1.out H2.out H3.out (HAT.out (by rw [HBR.out]; simp [hm]))
          have hmi : ((rl : Int) != (m : Int)) = true := by rw [bne_iff_ne]; omega
          have hrb : ((rl : Int) == 0) = false := by simpa using hri
          go_wp2_with fail
          go_ret
          exact ⟨by rw [HE.out]; rfl, HB0.out⟩
    · obtain rfl : i = n := by omega
      have hlt' : ¬ (i : Int) < (i : Int) := by omega
      have H4 : Hid (x.next.any (badRowB x) = false) := by
        have := HI.out
        rw [← HN.out, List.take_length] at this
        exact this
      have H5 := Lib.hid (dfaErr_five H1.out H2.out H3.out H4.out)
      have HAC := Lib.hid (accB_min (x := x) (by rw [HLA.out]; exact hn0))
      have HME := Lib.hid (minE x.acc (by rw [HLA.out]; exact hn0) aa ca)
      rw [HLA.out] at HME
      obtain ⟨aB, HAB⟩ := nameIt (accB x)
      obtain ⟨mA, HMA⟩ := nameIt (minL x.acc)
      rw [HMA.out] at HME
      rw [HAB.out, HMA.out] at HAC
      rw [HAB.out, HSB.out, HR.out] at H5
      have HMC : Hid (∀ W, Below w0.heap.size w0 W → Calls Try.prog 35 #[.slice aa i ca] W fun e w' => e = .returned (.int .i64 mA) ∧ Below W.heap.size W w') := fun W hb =>
        (HME.out W (HAA.out.keep hb)).mono fun _ _ ⟨he, hw⟩ => ⟨he, by rw [hw]; exact Below.refl _ _⟩
      obtain ⟨b0, HB0'⟩ := nameIt (sB || aB)
      clear HME HLA HNX HA HI HAA
      go_upto_region 14 with fail
      go_cut [6] (fun t6 wx => t6 = .bool b0 ∧ Hid (Below w0.heap.size w0 wx))
      case first =>
        by_cases hs1 : st < 0
        · have hd1 : decide (st < 0) = true := by simpa using hs1
          have HV : Hid (b0 = true) := by show _ = _; rw [← HB0'.out, HS0.out, hd1]; rfl
          clear hs1
          go_wp2_with fail
          go_meet
          exact ⟨by rw [HV.out], Below.refl _ _⟩
        · have hd1 : decide (st < 0) = false := by simpa using hs1
          by_cases hs2 : (i : Int) ≤ st
          · have hd2 : decide ((i : Int) ≤ st) = true := by simpa using hs2
            have HV : Hid (b0 = true) := by show _ = _; rw [← HB0'.out, HS0.out, hd2]; simp
            clear hs1 hs2
            go_wp2_with fail
            go_meet
            exact ⟨by rw [HV.out], Below.refl _ _⟩
          · have hd2 : decide ((i : Int) ≤ st) = false := by simpa using hs2
            have HV : Hid (b0 = decide (mA < -1)) := by show _ = _; rw [← HB0'.out, HS0.out, hd1, hd2, HAC.out]; rfl
            clear hs1 hs2
            go_wp2_with fail
            refine (HMC.out _ (Below.refl _ _)).mono ?_
            rintro e w7 ⟨rfl, hb7⟩
            have HB7 := Lib.hid hb7
            clear hb7
            go_wp2_with fail
            go_meet
            exact ⟨by rw [HV.out], HB7⟩
      case rest =>
        obtain ⟨rfl, HB7⟩ := hcut
        obtain ⟨w7, rfl⟩ : ∃ ww : World, ww = wc := ⟨_, rfl⟩
        have k2 := (HB7.out.cell (lt_of_cell x2)).trans x2
        clear x0 x1 x2 c0
        go_wp2_with fail
        obtain ⟨B, HBn⟩ := nameIt (fun j => b0 || (x.next.take j).any (rowB x))
        have HB00 : Hid (B 0 = b0) := by show _ = _; rw [← HBn.out]; simp
        have HBS : Hid (∀ j (h : j < x.next.length), B (j + 1) = (B j || rowB x x.next[j])) := by
          intro j h; rw [← HBn.out]; show (b0 || _) = ((b0 || _) || _); rw [any_step (rowB x) h, Bool.or_assoc]
        have HBE : Hid (R = if B i = true then 1 else 0) := by
          show _ = _; rw [H5.out, HB0'.out, ← HBn.out]
          show _ = if (b0 || (x.next.take i).any (rowB x)) = true then 1 else 0
          rw [← HN.out, List.take_length]
        go_loopg [6, 8, 71] i (fun gg v6 v8 v71 wr => ∃ j : Nat, j ≤ i ∧ i - j ≤ gg ∧ v6 = .bool (B j) ∧ v71 = .int .i64 j ∧ Hid (Below w0.heap.size w0 wr))
        case atStart => exact ⟨0, by omega, by omega, by rw [HB00.out], rfl, HB7⟩
        case round =>
          obtain ⟨j, hj, hg, rfl, rfl, HBr⟩ := hrel
          by_cases hlt : j < i
          · have hlt' : (j : Int) < (i : Int) := by omega
            have hj0 : (0 : Int) ≤ (j : Int) := by omega
            have hltx : j < x.next.length := by rw [HN.out]; exact hlt
            obtain ⟨b', off', vi, hae, cj, hsl⟩ := Rd.rowI_at HNN.out hltx
            obtain ⟨ai, ki, rfl⟩ := hsl.form
            rw [ints_len] at cj hsl
            cases hae
            have ck := (HBr.out.cell (lt_of_cell cj)).trans cj
            have hrl : 0 < x.next[j].length := by
              have h1 : badRowB x x.next[j] = false := by
                cases e : badRowB x x.next[j] with
                | false => rfl
                | true => exact absurd (any_at hltx e) (by rw [H4.out]; simp)
              unfold badRowB at h1
              simp at h1
              have := h1.1
              exact List.length_pos_iff.2 this
            have HS1 := Lib.hid (HBS.out j hltx)
            have HRM := rowB_min (x := x) hrl
            have HMI : Hid (∀ W, Below w0.heap.size w0 W → Calls Try.prog 35 #[.slice ai x.next[j].length ki] W fun e w' => e = .returned (.int .i64 (minL x.next[j])) ∧ Below W.heap.size W w') := fun W hb =>
              (minE _ hrl ai ki W (hsl.keep hb)).mono fun _ _ ⟨he, hw⟩ => ⟨he, by rw [hw]; exact Below.refl _ _⟩
            have HMA' : Hid (∀ W, Below w0.heap.size w0 W → Calls Try.prog 36 #[.slice ai x.next[j].length ki] W fun e w' => e = .returned (.int .i64 (maxL x.next[j])) ∧ Below W.heap.size W w') := fun W hb =>
              (maxE _ hrl ai ki W (hsl.keep hb)).mono fun _ _ ⟨he, hw⟩ => ⟨he, by rw [hw]; exact Below.refl _ _⟩
            obtain ⟨rb, HRB⟩ := nameIt (rowB x x.next[j])
            obtain ⟨m1, HM1⟩ := nameIt (minL x.next[j])
            obtain ⟨m2, HM2⟩ := nameIt (maxL x.next[j])
            obtain ⟨rl, HRL⟩ := nameIt x.next[j].length
            rw [HRB.out, HM1.out, HM2.out, HN.out] at HRM
            rw [HRL.out, HM1.out] at HMI
            rw [HRL.out, HM2.out] at HMA'
            rw [HRB.out] at HS1
            rw [HRL.out] at ck
            have HRM' := Lib.hid HRM
            obtain ⟨Bj, HBj⟩ := nameIt (B j)
            obtain ⟨Bk, HBk⟩ := nameIt (B (j + 1))
            rw [HBj.out, HBk.out] at HS1
            rw [HBj.out]
            clear hsl HRM hrl cj
            cases Bj with
            | true =>
              have HV : Hid (Bk = true) := by show _ = _; rw [HS1.out]; rfl
              go_wp2_with fail
              go_roundg (i - (j + 1))
              case measure => omega
              case rel => exact ⟨j + 1, by omega, by omega, by rw [HBk.out, HV.out], by go_num, HBr⟩
            | false =>
              go_wp2_with fail
              refine (HMI.out _ HBr.out).mono ?_
              rintro e w8 ⟨rfl, hb8⟩
              have HB8 := Lib.hid (HBr.out.trans (hb8.mono HBr.out.size))
              clear hb8
              by_cases h1 : m1 < -1
              · have hd1 : decide (m1 < -1) = true := by simpa using h1
                have HV : Hid (Bk = true) := by show _ = _; rw [HS1.out, HRM'.out, hd1]; rfl
                clear h1
                go_wp2_with fail
                go_roundg (i - (j + 1))
                case measure => omega
                case rel => exact ⟨j + 1, by omega, by omega, by rw [HBk.out, HV.out], by go_num, HB8⟩
              · have hd1 : decide (m1 < -1) = false := by simpa using h1
                have HV : Hid (Bk = decide ((i : Int) ≤ m2)) := by show _ = _; rw [HS1.out, HRM'.out, hd1]; simp
                clear h1
                go_wp2_with fail
                refine (HMA'.out _ HB8.out).mono ?_
                rintro e w9 ⟨rfl, hb9⟩
                have HB9 := Lib.hid (HB8.out.trans (hb9.mono HB8.out.size))
                clear hb9
                go_wp2_with fail
                go_roundg (i - (j + 1))
                case measure => omega
                case rel => exact ⟨j + 1, by omega, by omega, by rw [HBk.out, HV.out], by go_num, HB9⟩
          · obtain rfl : j = i := by omega
            have hlt' : ¬ (j : Int) < (j : Int) := by omega
            obtain ⟨Bj, HBj⟩ := nameIt (B j)
            rw [HBj.out] at HBE ⊢
            cases Bj with
            | true =>
              have HE : Hid (R = 1) := HBE.out
              go_wp2_with fail
              go_ret
              exact ⟨by rw [HE.out]; rfl, HB0.out.trans (HBr.out.mono HB0.out.size)⟩
            | false =>
              have HE : Hid (R = 0) := HBE.out
              go_wp2_with fail
              go_ret
              exact ⟨by rw [HE.out]; rfl, HB0.out.trans (HBr.out.mono HB0.out.size)⟩
end Df
end Go.Proofs.Ytclpmmbclgihbaa
namespace Go.Proofs.Ytclpmmbclgihbaa
open Go.RowKit
namespace Df

def plainD (x : Dfa) : Dfa := ⟨x.start, x.acc.map (min · 0), x.next⟩
theorem elIntsP : ElemT Try.prog 23 22 1 24 := ElemT.mk' (z := .slice none 0 0) (by kernel_rfl) (by kernel_rfl) rfl (by decide)
/-- behind an append to another row -/
theorem own_otherP {w w' : World} {B : Nat} {e : TypeId} {s : Nat} {v : Value} {n : Nat} {xs : List Value} {row : Option Nat} (h : w.ownsRow B e s v n xs) (hg : w.grownBy w' row) (hne : ∀ k, v.ownBlock = some k → row ≠ some k) : w'.ownsRow B e s v n xs := by
  have hlt := h.lt
  obtain ⟨h1, h2⟩ := h
  refine ⟨h1, ?_⟩
  rcases h2 with h2 | ⟨g, cap, cur, rfl, hg', hh, r⟩
  · exact .inl h2
  · exact .inr ⟨g, cap, cur, rfl, hg', (hg.block g (hlt g rfl).2 (fun e => hne g rfl e.symm)).trans hh, r⟩
/-- the blocks where the rows' elements lie -/
def PT (B : Nat) (vR vA : Value) : Nat → Prop := fun k => B ≤ k ∧ vR.ownBlock ≠ some k ∧ vA.ownBlock ≠ some k
structure PS (B : Nat) (w1 : World) (r : List Int) (m : Int) (LR : List (List Int)) (LA : List Int) (vR vA : Value) (oc : Option Value) (ob oa : Option Nat) (W : World) : Prop where
  bel : Below B w1 W
  le : B ≤ w1.heap.size
  rows : ∃ xs, W.ownsRow B 22 1 vR LR.length xs ∧ RdAll (PT B vR vA) W (LR.map D.ints) xs
  acc : W.ownsRow B 3 1 vA LA.length (ints LA)
  apart : ∀ k, vR.ownBlock = some k → vA.ownBlock ≠ some k
  cl : ∀ v, oc = some v → Rd (PT B vR vA) W (D.ints r) [v]
  bB : ∀ g, ob = some g → PT B vR vA g ∧ ∃ v, oc = some v ∧ W.heap[g]? = some (.cells #[v] 22 (0, 0))
  bA : ∀ g, oa = some g → PT B vR vA g ∧ W.heap[g]? = some (.cells #[.int .i64 m] 3 (0, 0))
section
variable {B : Nat} {w1 : World} {r : List Int} {m : Int} {LR : List (List Int)} {LA : List Int} {vR vA : Value} {oc : Option Value} {ob oa : Option Nat} {W W' : World}
theorem PS.keep (h : PS B w1 r m LR LA vR vA oc ob oa W) (hb : Below W.heap.size W W') : PS B w1 r m LR LA vR vA oc ob oa W' := by
  obtain ⟨h1, h2, ⟨xs, h3, h4⟩, h5, h6, h7, h8, h9⟩ := h
  exact ⟨h1.trans (hb.mono (Nat.le_trans h2 h1.size)), h2, ⟨xs, own_keep h3 hb, h4.below hb⟩, own_keep h5 hb, h6, fun v e => (h7 v e).below hb, fun g e => by
    obtain ⟨k1, v, k2, k3⟩ := h8 g e
    exact ⟨k1, v, k2, bx_keep k3 hb⟩, fun g e => ⟨(h9 g e).1, bx_keep (h9 g e).2 hb⟩⟩
theorem PS.size (h : PS B w1 r m LR LA vR vA oc ob oa W) : B ≤ W.heap.size := Nat.le_trans h.le h.bel.size
theorem PS.fresh (h : PS B w1 r m LR LA vR vA oc ob oa W) {g : Nat} (hg : W.heap.size ≤ g) : PT B vR vA g := by
  obtain ⟨xs, h3, _⟩ := h.rows
  refine ⟨Nat.le_trans h.size hg, fun e => ?_, fun e => ?_⟩
  · have := (h3.lt g e).2; omega
  · have := (h.acc.lt g e).2; omega
theorem PS.call {v : Value} {n : Nat} (h : PS B w1 r m LR LA vR vA oc none oa W) (hb : Below W.heap.size W W') (ho : W'.ownsRow W.heap.size 3 1 v n (ints r)) (hn : n = r.length) : PS B w1 r m LR LA vR vA (some v) none oa W' := by
  have hk := h.keep hb
  refine { hk with cl := fun v' e => ?_, bB := fun g e => by cases e }
  cases e
  exact rd_of_own ho ((rdAll_ints r _).2 rfl) (by simpa using hn.symm) (fun k e => h.fresh (ho.lt k e).1)
theorem PS.bltB {v : Value} {g : Nat} (h : PS B w1 r m LR LA vR vA (some v) none oa W) (hg : g = W.heap.size) : PS B w1 r m LR LA vR vA (some v) (some g) oa (W.alloc (.cells #[v] 22)) := by
  have hk := h.keep (W' := W.alloc (.cells #[v] 22)) ((Below.refl _ _).alloc (Nat.le_refl _) _)
  subst hg
  exact { hk with bB := fun g e => by cases e; exact ⟨h.fresh (Nat.le_refl _), v, rfl, bx_new _ _ _ rfl⟩ }
theorem PS.bltA {g : Nat} (h : PS B w1 r m LR LA vR vA oc ob none W) (hg : g = W.heap.size) : PS B w1 r m LR LA vR vA oc ob (some g) (W.alloc (.cells #[.int .i64 m] 3)) := by
  have hk := h.keep (W' := W.alloc (.cells #[.int .i64 m] 3)) ((Below.refl _ _).alloc (Nat.le_refl _) _)
  subst hg
  exact { hk with bA := fun g e => by cases e; exact ⟨h.fresh (Nat.le_refl _), bx_new _ _ _ rfl⟩ }
theorem PS.appR {v v' : Value} {xs : List Value} {g : Nat} {N : List (List Int)} (h : PS B w1 r m LR LA vR vA (some v) (some g) oa W) (hxs : RdAll (PT B vR vA) W (LR.map D.ints) xs) (ho : W'.ownsRow B 22 1 v' (LR.length + 1) (xs ++ [v])) (hg : W.grownBy W' vR.ownBlock) (hat : v'.ownBlock = vR.ownBlock ∨ ∃ k, v'.ownBlock = some k ∧ W.heap.size ≤ k) (hN : N = LR ++ [r]) :
    PS B w1 r m N LA v' vA none none oa W' := by
  subst hN
  obtain ⟨h1, h2, ⟨xs0, h3, h4⟩, h5, h6, h7, h8, h9⟩ := h
  have hlt := h5.lt
  have hT : ∀ k, PT B vR vA k → k < W.heap.size → PT B v' vA k ∧ W'.heap[k]? = W.heap[k]? := by
    rintro k ⟨a1, a2, a3⟩ hk
    refine ⟨⟨a1, ?_, a3⟩, hg.block k hk (fun e => a2 e.symm)⟩
    rcases hat with e | ⟨j, e, hj⟩
    · rw [e]; exact a2
    · rw [e]; intro e; cases e; omega
  refine ⟨h1.grown hg (Nat.le_trans h2 h1.size) (fun k e => (h3.lt k e).1), h2, ⟨xs ++ [v], by rw [List.length_append]; exact ho, ?_⟩, own_otherP h5 hg (fun k e e' => h6 k e' e), ?_, (fun _ e => by cases e), (fun _ e => by cases e), fun g' e => ?_⟩
  · rw [List.map_append]
    exact RdAll.append (RdAll.keep hT _ _ hxs) (RdAll.one (Rd.keep hT _ _ (h7 v rfl)))
  · intro k e
    rcases hat with e' | ⟨j, e', hj⟩
    · exact h6 k (e'.symm.trans e)
    · rw [e'] at e; cases e
      intro e; have := (hlt k e).2; omega
  · obtain ⟨k1, k2⟩ := h9 g' e
    have hgl := (Array.getElem?_eq_some_iff.1 k2).1
    obtain ⟨k3, k4⟩ := hT g' k1 hgl
    exact ⟨k3, k4.trans k2⟩
theorem PS.appA {v' : Value} {g : Nat} {N : List Int} (h : PS B w1 r m LR LA vR vA oc ob (some g) W) (ho : W'.ownsRow B 3 1 v' (LA.length + 1) (ints LA ++ [.int .i64 m])) (hg : W.grownBy W' vA.ownBlock) (hat : v'.ownBlock = vA.ownBlock ∨ ∃ k, v'.ownBlock = some k ∧ W.heap.size ≤ k) (hN : N = LA ++ [m]) :
    PS B w1 r m LR N vR v' oc ob none W' := by
  subst hN
  obtain ⟨h1, h2, ⟨xs0, h3, h4⟩, h5, h6, h7, h8, h9⟩ := h
  have hlt := h3.lt
  have hT : ∀ k, PT B vR vA k → k < W.heap.size → PT B vR v' k ∧ W'.heap[k]? = W.heap[k]? := by
    rintro k ⟨a1, a2, a3⟩ hk
    refine ⟨⟨a1, a2, ?_⟩, hg.block k hk (fun e => a3 e.symm)⟩
    rcases hat with e | ⟨j, e, hj⟩
    · rw [e]; exact a3
    · rw [e]; intro e; cases e; omega
  refine ⟨h1.grown hg (Nat.le_trans h2 h1.size) (fun k e => (h5.lt k e).1), h2, ⟨xs0, own_otherP h3 hg (fun k e e' => h6 k e e'), RdAll.keep hT _ _ h4⟩, ?_, ?_, fun v e => Rd.keep hT _ _ (h7 v e), fun g' e => ?_, (fun _ e => by cases e)⟩
  · rw [List.length_append]; simpa [ints] using ho
  · intro k e
    rcases hat with e' | ⟨j, e', hj⟩
    · rw [e']; exact h6 k e
    · rw [e']; intro e2; cases e2; have := (hlt k e).2; omega
  · obtain ⟨k1, v, k0, k2⟩ := h8 g' e
    have hgl := (Array.getElem?_eq_some_iff.1 k2).1
    obtain ⟨k3, k4⟩ := hT g' k1 hgl
    exact ⟨k3, v, k0, k4.trans k2⟩
theorem PS.nil (B : Nat) (w1 : World) (r : List Int) (m : Int) (h : B ≤ w1.heap.size) : PS B w1 r m [] [] (.slice none 0 0) (.slice none 0 0) none none none w1 :=
  ⟨Below.refl _ _, h, ⟨[], World.ownsRow_nil _ _ _ _, by simp [RdAll]⟩, by simpa [ints] using World.ownsRow_nil w1 B 3 1, (fun _ e => by cases e), (fun _ e => by cases e), (fun _ e => by cases e), (fun _ e => by cases e)⟩
/-- behind a store into a box below the rows -/
theorem PS.store (h : PS B w1 r m LR LA vR vA oc ob oa W) {b : Nat} (hg : W.grownBy W' (some b)) (hb : b < B) (r' : List Int) (m' : Int) : PS B W' r' m' LR LA vR vA none none none W' := by
  obtain ⟨h1, h2, ⟨xs, h3, h4⟩, h5, h6, h7, h8, h9⟩ := h
  refine ⟨Below.refl _ _, Nat.le_trans (Nat.le_trans h2 h1.size) hg.size, ⟨xs, own_otherP h3 hg (fun k e e' => ?_), RdAll.keep (fun k hk hlt => ⟨hk, hg.block k hlt (fun e => ?_)⟩) _ _ h4⟩, own_otherP h5 hg (fun k e e' => ?_), h6, (fun _ e => by cases e), (fun _ e => by cases e), (fun _ e => by cases e)⟩
  · cases e'; have := (h3.lt _ e).1; omega
  · cases e; have := hk.1; omega
  · cases e'; have := (h5.lt _ e).1; omega
theorem PS.next (h : PS B w1 r m LR LA vR vA none none none W) (w2 : World) (r' : List Int) (m' : Int) : PS B W r' m' LR LA vR vA none none none W := by
  obtain ⟨h1, h2, h3, h5, h6, h7, h8, h9⟩ := h
  exact ⟨Below.refl _ _, Nat.le_trans h2 h1.size, h3, h5, h6, (fun _ e => by cases e), (fun _ e => by cases e), (fun _ e => by cases e)⟩
end
end Df
end Go.Proofs.Ytclpmmbclgihbaa
namespace Go.Proofs.Ytclpmmbclgihbaa
open Go.RowKit
namespace Df

/-- the blocks where the rows' elements lie -/
def PTX (X : Nat → Prop) (B : Nat) (vR vA : Value) : Nat → Prop := fun k => B ≤ k ∧ ¬ X k ∧ vR.ownBlock ≠ some k ∧ vA.ownBlock ≠ some k
structure PX (X : Nat → Prop) (B : Nat) (w1 : World) (r : List Int) (m : Int) (LR : List (List Int)) (LA : List Int) (vR vA : Value) (oc : Option Value) (ob oa : Option Nat) (W : World) : Prop where
  bel : Below B w1 W
  le : B ≤ w1.heap.size
  rows : ∃ xs, W.ownsRow B 22 1 vR LR.length xs ∧ RdAll (PTX X B vR vA) W (LR.map D.ints) xs
  acc : W.ownsRow B 3 1 vA LA.length (ints LA)
  apart : ∀ k, vR.ownBlock = some k → vA.ownBlock ≠ some k
  xr : ∀ k, vR.ownBlock = some k → ¬ X k
  xa : ∀ k, vA.ownBlock = some k → ¬ X k
  px : ∀ k, X k → k < w1.heap.size ∧ W.heap[k]? = w1.heap[k]?
  cl : ∀ v, oc = some v → Rd (PTX X B vR vA) W (D.ints r) [v]
  bB : ∀ g, ob = some g → PTX X B vR vA g ∧ ∃ v, oc = some v ∧ W.heap[g]? = some (.cells #[v] 22 (0, 0))
  bA : ∀ g, oa = some g → PTX X B vR vA g ∧ W.heap[g]? = some (.cells #[.int .i64 m] 3 (0, 0))
section
variable {X : Nat → Prop} {B : Nat} {w1 : World} {r : List Int} {m : Int} {LR : List (List Int)} {LA : List Int} {vR vA : Value} {oc : Option Value} {ob oa : Option Nat} {W W' : World}
theorem PX.size (h : PX X B w1 r m LR LA vR vA oc ob oa W) : B ≤ W.heap.size := Nat.le_trans h.le h.bel.size
theorem PX.xlt (h : PX X B w1 r m LR LA vR vA oc ob oa W) {k : Nat} (hk : X k) : k < W.heap.size := Nat.lt_of_lt_of_le (h.px k hk).1 h.bel.size
theorem PX.keep (h : PX X B w1 r m LR LA vR vA oc ob oa W) (hb : Below W.heap.size W W') : PX X B w1 r m LR LA vR vA oc ob oa W' := by
  have hx := fun k hk => h.xlt (k := k) hk
  obtain ⟨h1, h2, ⟨xs, h3, h4⟩, h5, h6, h10, h11, h12, h7, h8, h9⟩ := h
  exact ⟨h1.trans (hb.mono (Nat.le_trans h2 h1.size)), h2, ⟨xs, own_keep h3 hb, h4.below hb⟩, own_keep h5 hb, h6, h10, h11, fun k hk => ⟨(h12 k hk).1, (hb.block k (hx k hk)).trans (h12 k hk).2⟩, fun v e => (h7 v e).below hb, fun g e => by
    obtain ⟨k1, v, k2, k3⟩ := h8 g e
    exact ⟨k1, v, k2, bx_keep k3 hb⟩, fun g e => ⟨(h9 g e).1, bx_keep (h9 g e).2 hb⟩⟩
theorem PX.fresh (h : PX X B w1 r m LR LA vR vA oc ob oa W) {g : Nat} (hg : W.heap.size ≤ g) : PTX X B vR vA g := by
  have hx := fun hk => h.xlt (k := g) hk
  obtain ⟨xs, h3, _⟩ := h.rows
  refine ⟨Nat.le_trans h.size hg, fun e => ?_, fun e => ?_, fun e => ?_⟩
  · have := hx e; omega
  · have := (h3.lt g e).2; omega
  · have := (h.acc.lt g e).2; omega
/-- the row of this round, read in W -/
theorem PX.call {v : Value} (h : PX X B w1 r m LR LA vR vA none none none W) (hv : Rd (PTX X B vR vA) W (D.ints r) [v]) : PX X B w1 r m LR LA vR vA (some v) none none W :=
  { h with cl := fun v' e => by cases e; exact hv, bB := fun g e => by cases e }
theorem PX.bltB {v : Value} {g : Nat} (h : PX X B w1 r m LR LA vR vA (some v) none oa W) (hg : g = W.heap.size) : PX X B w1 r m LR LA vR vA (some v) (some g) oa (W.alloc (.cells #[v] 22)) := by
  have hk := h.keep (W' := W.alloc (.cells #[v] 22)) ((Below.refl _ _).alloc (Nat.le_refl _) _)
  subst hg
  exact { hk with bB := fun g e => by cases e; exact ⟨h.fresh (Nat.le_refl _), v, rfl, bx_new _ _ _ rfl⟩ }
theorem PX.bltA {g : Nat} (h : PX X B w1 r m LR LA vR vA oc ob none W) (hg : g = W.heap.size) : PX X B w1 r m LR LA vR vA oc ob (some g) (W.alloc (.cells #[.int .i64 m] 3)) := by
  have hk := h.keep (W' := W.alloc (.cells #[.int .i64 m] 3)) ((Below.refl _ _).alloc (Nat.le_refl _) _)
  subst hg
  exact { hk with bA := fun g e => by cases e; exact ⟨h.fresh (Nat.le_refl _), bx_new _ _ _ rfl⟩ }
theorem PX.appR {v v' : Value} {xs : List Value} {g : Nat} {N : List (List Int)} (h : PX X B w1 r m LR LA vR vA (some v) (some g) oa W) (hxs : RdAll (PTX X B vR vA) W (LR.map D.ints) xs) (ho : W'.ownsRow B 22 1 v' (LR.length + 1) (xs ++ [v])) (hg : W.grownBy W' vR.ownBlock) (hat : v'.ownBlock = vR.ownBlock ∨ ∃ k, v'.ownBlock = some k ∧ W.heap.size ≤ k) (hN : N = LR ++ [r]) :
    PX X B w1 r m N LA v' vA none none oa W' := by
  subst hN
  have hx := fun k hk => h.xlt (k := k) hk
  obtain ⟨h1, h2, ⟨xs0, h3, h4⟩, h5, h6, h10, h11, h12, h7, h8, h9⟩ := h
  have hlt := h5.lt
  have hT : ∀ k, PTX X B vR vA k → k < W.heap.size → PTX X B v' vA k ∧ W'.heap[k]? = W.heap[k]? := by
    rintro k ⟨a1, a0, a2, a3⟩ hk
    refine ⟨⟨a1, a0, ?_, a3⟩, hg.block k hk (fun e => a2 e.symm)⟩
    rcases hat with e | ⟨j, e, hj⟩
    · rw [e]; exact a2
    · rw [e]; intro e; cases e; omega
  refine ⟨h1.grown hg (Nat.le_trans h2 h1.size) (fun k e => (h3.lt k e).1), h2, ⟨xs ++ [v], by rw [List.length_append]; exact ho, ?_⟩, own_otherP h5 hg (fun k e e' => h6 k e' e), ?_, ?_, h11, fun k hk => ⟨(h12 k hk).1, (hg.block k (hx k hk) (fun e => h10 k e.symm hk)).trans (h12 k hk).2⟩, (fun _ e => by cases e), (fun _ e => by cases e), fun g' e => ?_⟩
  · rw [List.map_append]
    exact RdAll.append (RdAll.keep hT _ _ hxs) (RdAll.one (Rd.keep hT _ _ (h7 v rfl)))
  · intro k e
    rcases hat with e' | ⟨j, e', hj⟩
    · exact h6 k (e'.symm.trans e)
    · rw [e'] at e; cases e
      intro e; have := (hlt k e).2; omega
  · intro k e
    rcases hat with e' | ⟨j, e', hj⟩
    · exact h10 k (e'.symm.trans e)
    · rw [e'] at e; cases e
      intro e; have := hx k e; omega
  · obtain ⟨k1, k2⟩ := h9 g' e
    have hgl := (Array.getElem?_eq_some_iff.1 k2).1
    obtain ⟨k3, k4⟩ := hT g' k1 hgl
    exact ⟨k3, k4.trans k2⟩
theorem PX.appA {v' : Value} {g : Nat} {N : List Int} (h : PX X B w1 r m LR LA vR vA oc ob (some g) W) (ho : W'.ownsRow B 3 1 v' (LA.length + 1) (ints LA ++ [.int .i64 m])) (hg : W.grownBy W' vA.ownBlock) (hat : v'.ownBlock = vA.ownBlock ∨ ∃ k, v'.ownBlock = some k ∧ W.heap.size ≤ k) (hN : N = LA ++ [m]) :
    PX X B w1 r m LR N vR v' oc ob none W' := by
  subst hN
  have hx := fun k hk => h.xlt (k := k) hk
  obtain ⟨h1, h2, ⟨xs0, h3, h4⟩, h5, h6, h10, h11, h12, h7, h8, h9⟩ := h
  have hlt := h3.lt
  have hT : ∀ k, PTX X B vR vA k → k < W.heap.size → PTX X B vR v' k ∧ W'.heap[k]? = W.heap[k]? := by
    rintro k ⟨a1, a0, a2, a3⟩ hk
    refine ⟨⟨a1, a0, a2, ?_⟩, hg.block k hk (fun e => a3 e.symm)⟩
    rcases hat with e | ⟨j, e, hj⟩
    · rw [e]; exact a3
    · rw [e]; intro e; cases e; omega
  refine ⟨h1.grown hg (Nat.le_trans h2 h1.size) (fun k e => (h5.lt k e).1), h2, ⟨xs0, own_otherP h3 hg (fun k e e' => h6 k e e'), RdAll.keep hT _ _ h4⟩, ?_, ?_, h10, ?_, fun k hk => ⟨(h12 k hk).1, (hg.block k (hx k hk) (fun e => h11 k e.symm hk)).trans (h12 k hk).2⟩, fun v e => Rd.keep hT _ _ (h7 v e), fun g' e => ?_, (fun _ e => by cases e)⟩
  · rw [List.length_append]; simpa [ints] using ho
  · intro k e
    rcases hat with e' | ⟨j, e', hj⟩
    · rw [e']; exact h6 k e
    · rw [e']; intro e2; cases e2; have := (hlt k e).2; omega
  · intro k e
    rcases hat with e' | ⟨j, e', hj⟩
    · exact h11 k (e'.symm.trans e)
    · rw [e'] at e; cases e
      intro e; have := hx k e; omega
  · obtain ⟨k1, v, k0, k2⟩ := h8 g' e
    have hgl := (Array.getElem?_eq_some_iff.1 k2).1
    obtain ⟨k3, k4⟩ := hT g' k1 hgl
    exact ⟨k3, v, k0, k4.trans k2⟩
theorem PX.nil (X : Nat → Prop) (B : Nat) (w1 : World) (r : List Int) (m : Int) (h : B ≤ w1.heap.size) (hX : ∀ k, X k → k < w1.heap.size) : PX X B w1 r m [] [] (.slice none 0 0) (.slice none 0 0) none none none w1 :=
  ⟨Below.refl _ _, h, ⟨[], World.ownsRow_nil _ _ _ _, by simp [RdAll]⟩, by simpa [ints] using World.ownsRow_nil w1 B 3 1, (fun _ e => by cases e), (fun _ e => by cases e), (fun _ e => by cases e), fun k hk => ⟨hX k hk, rfl⟩, (fun _ e => by cases e), (fun _ e => by cases e), (fun _ e => by cases e)⟩
/-- the base world anew -/
theorem PX.base (h : PX X B w1 r m LR LA vR vA none none none W) (r' : List Int) (m' : Int) : PX X B W r' m' LR LA vR vA none none none W := by
  have hx := fun k hk => h.xlt (k := k) hk
  obtain ⟨h1, h2, h3, h5, h6, h10, h11, h12, h7, h8, h9⟩ := h
  exact ⟨Below.refl _ _, Nat.le_trans h2 h1.size, h3, h5, h6, h10, h11, fun k hk => ⟨hx k hk, rfl⟩, (fun _ e => by cases e), (fun _ e => by cases e), (fun _ e => by cases e)⟩
/-- behind a change of one block that none of the rows has: below B, or one of X, or a new one -/
theorem PX.other (h : PX X B w1 r m LR LA vR vA none none none W) {X' : Nat → Prop} {row : Option Nat} (hg : W.grownBy W' row) (hb : ∀ k, row = some k → k < B ∨ X k ∨ W.heap.size ≤ k) (hX : ∀ k, X' k → X k ∨ (W.heap.size ≤ k ∧ k < W'.heap.size)) (r' : List Int) (m' : Int) : PX X' B W' r' m' LR LA vR vA none none none W' := by
  have hx := fun k hk => h.xlt (k := k) hk
  obtain ⟨h1, h2, ⟨xs, h3, h4⟩, h5, h6, h10, h11, h12, h7, h8, h9⟩ := h
  have hl3 := h3.lt
  have hl5 := h5.lt
  have hz := hg.size
  have q1 : ∀ k, vR.ownBlock = some k → row ≠ some k := by
    intro k e e'
    have := hl3 k e
    rcases hb k e' with h | h | h
    · omega
    · exact h10 k e h
    · omega
  have q2 : ∀ k, vA.ownBlock = some k → row ≠ some k := by
    intro k e e'
    have := hl5 k e
    rcases hb k e' with h | h | h
    · omega
    · exact h11 k e h
    · omega
  have q3 : ∀ k, PTX X B vR vA k → k < W.heap.size → PTX X' B vR vA k ∧ W'.heap[k]? = W.heap[k]? := by
    rintro k ⟨a1, a2, a3, a4⟩ hlt
    refine ⟨⟨a1, fun e => ?_, a3, a4⟩, hg.block k hlt (fun e => ?_)⟩
    · rcases hX k e with h | h
      · exact a2 h
      · omega
    · rcases hb k e.symm with h | h | h
      · omega
      · exact a2 h
      · omega
  have q4 : ∀ k, vR.ownBlock = some k → ¬ X' k := by
    intro k e e'
    have := hl3 k e
    rcases hX k e' with h | h
    · exact h10 k e h
    · omega
  have q5 : ∀ k, vA.ownBlock = some k → ¬ X' k := by
    intro k e e'
    have := hl5 k e
    rcases hX k e' with h | h
    · exact h11 k e h
    · omega
  have q6 : ∀ k, X' k → k < W'.heap.size := by
    intro k hk
    rcases hX k hk with h | h
    · have := hx k h; omega
    · exact h.2
  exact ⟨Below.refl _ _, Nat.le_trans (Nat.le_trans h2 h1.size) hz, ⟨xs, own_otherP h3 hg q1, RdAll.keep q3 _ _ h4⟩, own_otherP h5 hg q2, h6, q4, q5, fun k hk => ⟨q6 k hk, rfl⟩, (fun _ e => by cases e), (fun _ e => by cases e), (fun _ e => by cases e)⟩
end
end Df
end Go.Proofs.Ytclpmmbclgihbaa
namespace Go.Proofs.Ytclpmmbclgihbaa
open Go.RowKit
namespace Df
open Km

theorem kmap_blk {k e : TypeId} {b c : Nat} {F : Lit → Option Lit} {w w' : World} (h : KMap k e b F c w) (hb : w'.heap[b]? = w.heap[b]?) : KMap k e b F c w' := by
  obtain ⟨D, ⟨es, ck, h1, h2⟩, h3⟩ := h
  exact ⟨D, ⟨es, ck, hb.trans h1, h2⟩, h3⟩
theorem cellBlk {w w' : World} {b o : Nat} {v : Value} (h : w'.heap[b]? = w.heap[b]?) (hv : w.cell? ⟨b, o, none⟩ = some v) : w'.cell? ⟨b, o, none⟩ = some v := by
  rw [← hv]; simp [World.cell?, h]
theorem intKc : Go.Maps.Keyed Try.prog 3 := Go.Maps.int_keyed Try.underlying3
theorem keyIc {v : Int} (h : 0 ≤ v ∧ v ≤ 1000) : keyOf Try.prog 3 (.int .i64 v) = some (.int .i64 v) := Go.Maps.keyOf_int_mk Try.underlying3 (by simp [Lit.wf, IntKind.min, IntKind.max, IntKind.signed, IntKind.bits]; omega)
/-- what the map of numbers has -/
def FC (P : Nat → Int) (S : List Nat) : Lit → Option Lit
  | .int .i64 v => if v ∈ S.map P then some (.int .i64 ((S.map P).idxOf v : Int)) else none
  | _ => none
theorem fC_nil (P : Nat → Int) : FC P [] = fun _ => none := by
  funext l
  cases l with
  | int q v => cases q <;> simp [FC]
  | _ => rfl
theorem fC_put {P : Nat → Int} {S : List Nat} {t : Nat} (h : P t ∉ S.map P) (l : Lit) : put (FC P S) (.int .i64 (P t)) (.int .i64 (S.length : Int)) l = FC P (S ++ [t]) l := by
  by_cases e : l = .int .i64 (P t)
  · subst e
    rw [put_same]
    simp only [FC]
    rw [if_pos (by simp), List.map_append, List.idxOf_append, if_neg h]
    simp
  · rw [put_other _ _ e]
    cases l with
    | int q v =>
      cases q with
      | i64 =>
        have hne : v ≠ P t := fun h => e (by rw [h])
        simp only [FC]
        by_cases h2 : v ∈ S.map P
        · rw [if_pos h2, if_pos (by rw [List.map_append]; exact List.mem_append.2 (.inl h2)), List.map_append, List.idxOf_append, if_pos h2]
        · rw [if_neg h2, if_neg (by rw [List.map_append]; simp only [List.mem_append, List.map_cons, List.map_nil, List.mem_singleton]; rintro (h3 | h3); exact h2 h3; exact hne h3)]
      | _ => rfl
    | _ => rfl
def nats (S : List Nat) : List Int := S.map fun (s : Nat) => (s : Int)
theorem nats_len (S : List Nat) : (nats S).length = S.length := by simp [nats]
/-- while the states come up -/
structure CnI (n : Nat) (P : Nat → Int) (w0 : World) (pg mb : Nat) (sv : Value) (S : List Nat) (wr : World) : Prop where
  bel : Below w0.heap.size w0 wr
  lo : w0.heap.size ≤ pg ∧ pg < mb
  prt : Vrow 3 pg n (fun s => .int .i64 (P s)) wr
  kmp : KMap 3 3 mb (FC P S) S.length wr
  st : wr.ownsRow (mb + 1) 3 1 sv S.length (ints (nats S))
section
variable {n : Nat} {P : Nat → Int} {w0 : World} {pg mb : Nat} {sv : Value} {S : List Nat} {wr w' : World}
theorem CnI.grown {row : Option Nat} (h : CnI n P w0 pg mb sv S wr) (hg : wr.grownBy w' row) (hr : ∀ k, row = some k → mb - 1 ≤ k ∧ k ≠ mb ∧ k ≠ pg ∧ sv.ownBlock ≠ some k) : CnI n P w0 pg mb sv S w' := by
  obtain ⟨h1, h2, h3, h4, h5⟩ := h
  refine ⟨h1.grown hg h1.size (fun k e => by have := (hr k e).1; omega), h2, h3.grown hg (fun e => (hr pg e).2.2.1 rfl), h4.kept hg (fun e => (hr mb e.symm).2.1 rfl), own_blk h5 fun g e => hg.block g (h5.lt g e).2 (fun e2 => (hr g e2.symm).2.2.2 e)⟩
theorem CnI.keep (h : CnI n P w0 pg mb sv S wr) (hb : Below wr.heap.size wr w') : CnI n P w0 pg mb sv S w' := h.grown (grown_below hb none) (fun k e => by cases e)
theorem CnI.cell (h : CnI n P w0 pg mb sv S wr) {g : Nat} (hg1 : mb - 1 ≤ g) (hg2 : g ≠ mb) (hg3 : g ≠ pg) (hg4 : sv.ownBlock ≠ some g) (j : Nat) (v : Value) : CnI n P w0 pg mb sv S (wr.setCell ⟨g, j, none⟩ v) :=
  h.grown (grown_cell wr ⟨g, j, none⟩ v) (fun k e => by cases e; exact ⟨hg1, hg2, hg3, hg4⟩)
/-- a new state: the map's entry and the append behind it -/
theorem CnI.add (h : CnI n P w0 pg mb sv S wr) {w1 w2 : World} {t : Nat} {sv' : Value} (hP : P t ∉ S.map P) (hk : KMap 3 3 mb (put (FC P S) (.int .i64 (P t)) (.int .i64 (S.length : Int))) (S.length + 1) w1) (hg1 : wr.grownBy w1 (some mb))
    (ho : w2.ownsRow (mb + 1) 3 1 sv' (S.length + 1) (ints (nats S) ++ [.int .i64 (t : Int)])) (hg2 : w1.grownBy w2 sv.ownBlock) : CnI n P w0 pg mb sv' (S ++ [t]) w2 := by
  obtain ⟨h1, h2, h3, h4, h5⟩ := h
  have hl := h5.lt
  have hz := hg1.size
  refine ⟨(h1.grown hg1 h1.size (fun k e => by cases e; omega)).grown hg2 (by have := h1.size; omega) (fun k e => by have := (hl k e).1; omega), h2, (h3.grown hg1 (fun e => by cases e; omega)).grown hg2 (fun e => by have := (hl pg e).1; omega), ?_, ?_⟩
  · rw [List.length_append]
    exact (hk.kept hg2 (fun e => by have := (hl mb e.symm).1; omega)).eq fun l => fC_put hP l
  · rw [List.length_append, show nats (S ++ [t]) = nats S ++ [(t : Int)] by simp [nats], ints_append]
    exact ho
end

/-- the new row is all one value -/
theorem sl_lit1 {w : World} {b : Nat} {v : Value} {T : TypeId} (h : w.heap[b]? = some (.cells #[v] T (0, 0))) : Sl w (.slice (some ⟨b, 0, none⟩) 1 1) [v] := by
  refine ⟨some ⟨b, 0, none⟩, 1, rfl, by simp, by simp [maxLen], (fun h => by cases h), fun i hi => ⟨_, rfl, ?_⟩⟩
  have h0 : i = 0 := by simp at hi; omega
  subst h0
  rw [add_at]
  simpa using bx_cells1 h
theorem rd_lit1 {S : Nat → Prop} {w : World} {b : Nat} {v : Value} {T : TypeId} {d : D} (h : w.heap[b]? = some (.cells #[v] T (0, 0))) (hb : S b) (hd : Rd S w d [v]) : Rd S w (.sl [d]) [.slice (some ⟨b, 0, none⟩) 1 1] := by
  refine ⟨some ⟨b, 0, none⟩, 1, [v], rfl, by simp, by simp [maxLen], (fun h => by cases h), fun i hi => ⟨_, rfl, hb, ?_⟩, RdAll.one hd⟩
  have h0 : i = 0 := by simp at hi; omega
  subst h0
  rw [add_at]
  simpa using bx_cells1 h
theorem rd_vrow {S : Nat → Prop} {w : World} {g m : Nat} {A : Nat → Value} {l : List Int} (h : Vrow 3 g m A w) (hl : l.length = m) (hm : m ≤ maxLen) (hS : S g) (hA : ∀ q (hq : q < l.length), A q = .int .i64 l[q]) : Rd S w (D.ints l) [.slice (some ⟨g, 0, none⟩) m m] := by
  subst hl
  refine ⟨some ⟨g, 0, none⟩, l.length, ints l, by simp, by simp, hm, (fun h => by cases h), fun i hi => ⟨_, rfl, hS, ?_⟩, (rdAll_ints l _).2 rfl⟩
  rw [ints_len] at hi
  rw [add_at, Nat.zero_add]
  have := h.cell hi
  rw [hA i hi] at this
  rw [ints_get]
  exact this
theorem disc_ok {x : Dfa} {P : Nat → Int} {n : Nat} (hP : ∀ k, k < n → P k < n) (h0 : DiscOk x P n [x.start.toNat]) (hr : ∀ s, ∀ t ∈ x.next.getD s [], t < n) : ∀ i, DiscOk x P n (disc x P i)
  | 0 => h0
  | i + 1 => by
    show DiscOk x P n (match (disc x P i)[i]? with | none => _ | some s => _)
    cases (disc x P i)[i]? with
    | none => exact disc_ok hP h0 hr i
    | some s => exact foldS_ok hP _ _ (hr s) (disc_ok hP h0 hr i)
/-- the states behind c symbols of a row -/
def sT (P : Nat → Int) (r : List Int) (S0 : List Nat) (c : Nat) : List Nat := (r.take c).foldl (stepS P) S0
theorem sT_next {P : Nat → Int} {r : List Int} {S0 : List Nat} {c : Nat} (h : c < r.length) : sT P r S0 (c + 1) = stepS P (sT P r S0 c) r[c] := by
  unfold sT
  rw [List.take_succ_eq_append_getElem h, List.foldl_append]
  rfl
theorem sT_prefix {P : Nat → Int} {r : List Int} {S0 : List Nat} {c : Nat} (h : c < r.length) : sT P r S0 c <+: sT P r S0 (c + 1) := by rw [sT_next h]; exact stepS_prefix _ _ _
theorem sT_known {P : Nat → Int} {r : List Int} {S0 : List Nat} {c q : Nat} (h : q < c) (hc : c ≤ r.length) : known P (sT P r S0 c) (r.getD q 0) := by
  have hq : q < r.length := by omega
  rw [List.getD_eq_getElem?_getD, List.getElem?_eq_getElem hq]
  exact known_fold P _ _ _ (List.mem_take_iff_getElem.2 ⟨q, by omega, rfl⟩)
def rowV (P : Nat → Int) (S : List Nat) (r : List Int) (c : Nat) (q : Nat) : Value := .int .i64 (if q < c then valS P S (r.getD q 0) else 0)
theorem rowV_prefix {P : Nat → Int} {r : List Int} {S0 : List Nat} {c q : Nat} (hc : c < r.length) (hq : q ≠ c) : rowV P (sT P r S0 (c + 1)) r (c + 1) q = rowV P (sT P r S0 c) r c q := by
  unfold rowV
  by_cases h : q < c
  · rw [if_pos h, if_pos (by omega), valS_prefix (sT_prefix hc) (sT_known h (by omega))]
  · rw [if_neg h, if_neg (by omega)]
/-- a row is being made: c symbols are done, the states are S -/
structure RwM (n : Nat) (P : Nat → Int) (w0 : World) (pg ob g9 k : Nat) (r : List Int) (S0 : List Nat) (LR : List (List Int)) (LA : List Int) (vR vA : Value) (c : Nat) (z : Int) (S : List Nat) (sv : Value) (wr : World) : Prop where
  cn : CnI n P w0 pg (ob + 1) sv S wr
  bx : wr.heap[ob]? = some (.cells #[.int .i64 0, vA, vR] 25 (0, 0))
  row : Vrow 3 g9 k (fun q => if q = c then .int .i64 z else rowV P (sT P r S0 c) r c q) wr
  px : PX (fun q => sv.ownBlock = some q ∨ q = g9) (ob + 1 + 1) wr [] 0 LR LA vR vA none none none wr
  lo : ob + 1 + 1 ≤ g9 ∧ sv.ownBlock ≠ some g9 ∧ pg < ob
def RwI (n : Nat) (P : Nat → Int) (w0 : World) (pg ob g9 k : Nat) (r : List Int) (S0 : List Nat) (LR : List (List Int)) (LA : List Int) (vR vA : Value) (c : Nat) (sv : Value) (wr : World) : Prop := RwM n P w0 pg ob g9 k r S0 LR LA vR vA c 0 (sT P r S0 c) sv wr
section
variable {n : Nat} {P : Nat → Int} {w0 : World} {pg ob g9 k : Nat} {r : List Int} {S0 : List Nat} {LR : List (List Int)} {LA : List Int} {vR vA : Value} {c : Nat} {z : Int} {S : List Nat} {sv : Value} {wr w1 w2 : World}
theorem RwM.keep (h : RwM n P w0 pg ob g9 k r S0 LR LA vR vA c z S sv wr) (hb : Below wr.heap.size wr w1) : RwM n P w0 pg ob g9 k r S0 LR LA vR vA c z S sv w1 := by
  obtain ⟨h1, h2, h3, h4, h5⟩ := h
  exact ⟨h1.keep hb, bx_keep h2 hb, h3.keep hb, h4.other (row := none) (grown_below hb none) (fun q e => by cases e) (fun q e => .inl e) [] 0, h5⟩
theorem RwM.store (h : RwM n P w0 pg ob g9 k r S0 LR LA vR vA c z S sv wr) (hc : c < k) (z' : Int) : RwM n P w0 pg ob g9 k r S0 LR LA vR vA c z' S sv (wr.setCell ⟨g9, c, none⟩ (.int .i64 z')) := by
  obtain ⟨h1, h2, h3, h4, h5, h6, h7⟩ := h
  have hlt := h1.lo.2
  refine ⟨h1.cell (by omega) (by omega) (by omega) h6 _ _, bx_other h2 (by omega) _ _, h3.set hc fun q _ => ?_, h4.other (row := some g9) (grown_cell _ ⟨g9, c, none⟩ _) (fun q e => by cases e; exact .inr (.inl (.inr rfl))) (fun q e => .inl e) [] 0, h5, h6, h7⟩
  by_cases e : q = c
  · simp [e]
  · simp [e]
/-- a state more: the map's entry, then the append -/
theorem RwM.add (h : RwM n P w0 pg ob g9 k r S0 LR LA vR vA c z S sv wr) {t : Nat} {sv' : Value} (hP : P t ∉ S.map P) (hk : KMap 3 3 (ob + 1) (put (FC P S) (.int .i64 (P t)) (.int .i64 (S.length : Int))) (S.length + 1) w1) (hg1 : wr.grownBy w1 (some (ob + 1)))
    (ho : w2.ownsRow (ob + 1 + 1) 3 1 sv' (S.length + 1) (ints (nats S) ++ [.int .i64 (t : Int)])) (hg2 : w1.grownBy w2 sv.ownBlock) (hat : sv'.ownBlock = sv.ownBlock ∨ ∃ q, sv'.ownBlock = some q ∧ w1.heap.size ≤ q) : RwM n P w0 pg ob g9 k r S0 LR LA vR vA c z (S ++ [t]) sv' w2 := by
  obtain ⟨h1, h2, h3, h4, h5, h6, h7⟩ := h
  have hl := h1.st.lt
  have hg9 : g9 < w1.heap.size := Nat.lt_of_lt_of_le h3.lt hg1.size
  have hl2 := ho.lt
  refine ⟨h1.add hP hk hg1 ho hg2, ?_, (h3.grown hg1 (fun e => by cases e; omega)).grown hg2 h6, ?_, h5, ?_, h7⟩
  · have hbl := (Array.getElem?_eq_some_iff.1 h2).1
    rw [hg2.block ob (Nat.lt_of_lt_of_le hbl hg1.size) (fun e => by have := (hl ob e.symm).1; omega), hg1.block ob hbl (by simp)]
    exact h2
  · have k1 := h4.other (X' := fun q => sv.ownBlock = some q ∨ q = g9) hg1 (fun q e => by cases e; left; omega) (fun q e => .inl e) [] 0
    refine k1.other hg2 (fun q e => .inr (.inl (.inl e))) (fun q e => ?_) [] 0
    rcases e with e | e
    · rcases hat with h | ⟨q', e', hq'⟩
      · exact .inl (.inl (h ▸ e))
      · rw [e'] at e; cases e
        exact .inr ⟨hq', (hl2 _ e').2⟩
    · exact .inl (.inr e)
  · rcases hat with h | ⟨q', e', hq'⟩
    · rw [h]; exact h6
    · rw [e']; intro e; cases e; omega
/-- the symbol is done -/
theorem RwM.fin (h : RwM n P w0 pg ob g9 k r S0 LR LA vR vA c z S sv wr) (hc : c < k) (hk : r.length = k) (hS : S = sT P r S0 (c + 1)) (hz : z = valS P S (r.getD c 0)) : RwI n P w0 pg ob g9 k r S0 LR LA vR vA (c + 1) sv wr := by
  subst hS hz
  obtain ⟨h1, h2, h3, h4, h5⟩ := h
  refine ⟨h1, h2, h3.eq fun q hq => ?_, h4, h5⟩
  by_cases e : q = c
  · subst e
    rw [if_pos rfl, if_neg (by omega)]
    unfold rowV
    rw [if_pos (by omega)]
  · rw [if_neg e, rowV_prefix (by omega) e]
    by_cases e2 : q = c + 1
    · subst e2
      rw [if_pos rfl]
      unfold rowV
      rw [if_neg (by omega)]
    · rw [if_neg e2]
theorem RwI.at (h : RwI n P w0 pg ob g9 k r S0 LR LA vR vA c sv wr) (hc : c < k) : wr.cell? ⟨g9, c, none⟩ = some (.int .i64 0) ∧ wr.frozen? ⟨g9, c, none⟩ = false := by
  have h1 := h.row.cell hc
  rw [if_pos rfl] at h1
  exact ⟨h1, h.row.free c⟩
theorem RwM.at (h : RwM n P w0 pg ob g9 k r S0 LR LA vR vA c z S sv wr) (hc : c < k) : wr.cell? ⟨g9, c, none⟩ = some (.int .i64 z) ∧ wr.frozen? ⟨g9, c, none⟩ = false := by
  have h1 := h.row.cell hc
  rw [if_pos rfl] at h1
  exact ⟨h1, h.row.free c⟩
/-- the row is whole -/
theorem RwI.whole (h : RwI n P w0 pg ob g9 k r S0 LR LA vR vA k sv wr) (hk : r.length = k) (hm : k ≤ maxLen) (m : Int) : PX (fun q => sv.ownBlock = some q) (ob + 1 + 1) wr (r.map (valS P (sT P r S0 k))) m LR LA vR vA (some (.slice (some ⟨g9, 0, none⟩) k k)) none none wr := by
  obtain ⟨h1, h2, h3, h4, h5, h6, h7⟩ := h
  have hl := h1.st.lt
  have k1 := h4.other (X' := fun q => sv.ownBlock = some q) (row := none) (grown_below (Below.refl _ _) none) (fun q e => by cases e) (fun q e => .inl (.inl e)) (r.map (valS P (sT P r S0 k))) m
  refine k1.call (rd_vrow h3 (by rw [List.length_map]; exact hk) hm ⟨h5, h6, fun e => h4.xr _ e (.inr rfl), fun e => h4.xa _ e (.inr rfl)⟩ fun q hq => ?_)
  rw [List.length_map] at hq
  rw [if_neg (by omega), List.getElem_map]
  unfold rowV
  rw [if_pos (by omega), List.getD_eq_getElem?_getD, List.getElem?_eq_getElem hq]
  rfl
end
/-- what the rounds keep -/
structure CanI (x : Dfa) (n : Nat) (P : Nat → Int) (w0 : World) (pg ob : Nat) (i : Nat) (sv vR vA : Value) (wr : World) : Prop where
  cn : CnI n P w0 pg (ob + 1) sv (disc x P i) wr
  bx : wr.heap[ob]? = some (.cells #[.int .i64 0, vA, vR] 25 (0, 0))
  px : PX (fun q => sv.ownBlock = some q) (ob + 1 + 1) wr [] 0 (rowsC x P i) (accsC x P i) vR vA none none none wr
  lo : pg < ob
section
variable {x : Dfa} {n : Nat} {P : Nat → Int} {w0 : World} {pg ob g9 k : Nat} {r : List Int} {vR vA vR' vA' : Value} {i s : Nat} {sv : Value} {wr w1 w2 : World}
theorem CanI.begin (h : CanI x n P w0 pg ob i sv vR vA wr) (hg : g9 = wr.heap.size) (k : Nat) (r : List Int) : RwI n P w0 pg ob g9 k r (disc x P i) (rowsC x P i) (accsC x P i) vR vA 0 sv (wr.alloc (.cells (madeCells #[.int .i64 0] k) 3)) := by
  obtain ⟨h1, h2, h3, h4⟩ := h
  have hb : Below wr.heap.size wr (wr.alloc (.cells (madeCells #[.int .i64 0] k) 3)) := (Below.refl _ _).alloc (Nat.le_refl _) _
  have hl := h1.st.lt
  have hm := h1.kmp.lt
  subst hg
  refine ⟨h1.keep hb, bx_keep h2 hb, (vrow_new wr _ _ k rfl).eq fun q _ => ?_, h3.other (row := none) (grown_below hb none) (fun q e => by cases e) (fun q e => ?_) [] 0, by omega, fun e => ?_, h4⟩
  · unfold rowV; simp
  · rcases e with e | e
    · exact .inl e
    · refine .inr ⟨by omega, by subst e; simp⟩
  · have := (hl _ e).2; omega
theorem CanI.next (h : RwI n P w0 pg ob g9 k r (disc x P i) (rowsC x P i) (accsC x P i) vR vA k sv w1) (hs : (disc x P i)[i]? = some s) (hr : x.next.getD s [] = r) (hk : r.length = k) (hal : ∀ q, q < i → q < (disc x P q).length)
    {m : Int} {r' : List Int} (hp : PX (fun q => sv.ownBlock = some q) (ob + 1 + 1) w1 r' m (rowsC x P i ++ [r.map (valS P (sT P r (disc x P i) k))]) (accsC x P i ++ [x.acc.getD s 0]) vR' vA' none none none w2) :
    CanI x n P w0 pg ob (i + 1) sv vR' vA' ((w2.setCell ⟨ob, 2, none⟩ vR').setCell ⟨ob, 1, none⟩ vA') := by
  have e0 : disc x P (i + 1) = sT P r (disc x P i) k := by
    show (match (disc x P i)[i]? with | none => _ | some s => _) = _
    rw [hs]
    show (x.next.getD s []).foldl _ _ = _
    rw [hr]
    unfold sT
    rw [← hk, List.take_length]
  have e1 : rowsC x P (i + 1) = rowsC x P i ++ [r.map (valS P (sT P r (disc x P i) k))] := by
    rw [rowsC_next hal hs]
    unfold rowC
    rw [hr, e0]
  have e2 := accsC_next hs
  obtain ⟨h1, h2, h3, h4, h5, h6, h7⟩ := h
  have hl := h1.st.lt
  have hlo := h1.lo
  have hz := hp.bel.size
  have hle := hp.le
  have hne : sv.ownBlock ≠ some ob := fun e => by have := (hl ob e).1; omega
  have c2 : CnI n P w0 pg (ob + 1) sv (disc x P (i + 1)) w2 := by
    rw [e0]
    obtain ⟨a1, a2, a3, a4, a5⟩ := h1
    refine ⟨a1.trans (hp.bel.mono ?_), a2, ?_, ?_, own_blk a5 fun g e => (hp.px g e).2⟩
    · omega
    · obtain ⟨cs, b1, b2⟩ := a3
      exact ⟨cs, (hp.bel.block pg (by omega)).trans b1, b2⟩
    · exact kmap_blk a4 (hp.bel.block (ob + 1) (by omega))
  have b2 : w2.heap[ob]? = some (.cells #[.int .i64 0, vA, vR] 25 (0, 0)) := (hp.bel.block ob (by omega)).trans h2
  refine ⟨(c2.cell (g := ob) (by omega) (by omega) (by omega) hne 2 vR').cell (g := ob) (by omega) (by omega) (by omega) hne 1 vA', ?_, ?_, h7⟩
  · have := bx_set (bx_set b2 2 vR') 1 vA'
    simpa using this
  · rw [e1, e2]
    exact (hp.other (X' := fun q => sv.ownBlock = some q) (row := some ob) (grown_cell w2 ⟨ob, 2, none⟩ vR') (fun q e => by cases e; left; omega) (fun q e => .inl e) [] 0).other (X' := fun q => sv.ownBlock = some q) (row := some ob) (grown_cell _ ⟨ob, 1, none⟩ vA') (fun q e => by cases e; left; omega) (fun q e => .inl e) [] 0
end
end Df
end Go.Proofs.Ytclpmmbclgihbaa
namespace Go.Proofs.Ytclpmmbclgihbaa
open Go.RowKit
namespace Df

section
variable {x : Dfa} {M : Nat → Bool} {P : Nat → Int}
/-- one part: one language -/
theorem Stb.sound (hx : Right x) (h : Stb x M P) : ∀ (u : List Nat) (a b : Int), a < x.next.length → b < x.next.length → Bf.over x.width u → nb P a = nb P b → lg x a u = lg x b u
  | u, a, b, ha, hb, hu, he => by
    have hdead : ∀ (c : Int), c < x.next.length → nb P c < 0 → lg x c u = false := by
      intro c hc hn
      by_cases h0 : c < 0
      · exact lg_dead x h0 u
      · cases hl : lg x c u with
        | false => rfl
        | true =>
          have hlv := lg_liv hx u c.toNat (by omega) hu (by rw [show ((c.toNat : Nat) : Int) = c by omega]; exact hl)
          unfold nb at hn
          rw [if_neg h0] at hn
          exact absurd hlv ((h.dead c.toNat (by omega)).1 hn)
    by_cases hn : nb P a < 0
    · rw [hdead a ha hn, hdead b hb (he ▸ hn)]
    · have ha0 : ¬ a < 0 := fun e => hn (by unfold nb; rw [if_pos e]; decide)
      have hb0 : ¬ b < 0 := fun e => hn (by rw [he]; unfold nb; rw [if_pos e]; decide)
      obtain ⟨s, hs⟩ : ∃ s : Nat, a = (s : Int) := ⟨a.toNat, by omega⟩
      obtain ⟨t, ht⟩ : ∃ t : Nat, b = (t : Int) := ⟨b.toNat, by omega⟩
      subst hs ht
      unfold nb at hn he
      rw [if_neg ha0, Int.toNat_natCast] at hn he
      rw [if_neg hb0, Int.toNat_natCast] at he
      have hsl : s < x.next.length := by omega
      have htl : t < x.next.length := by omega
      cases u with
      | nil =>
        have hac := h.acc s t hsl htl (by omega) he
        show goodS x (s : Int) = goodS x (t : Int)
        unfold goodS
        have e1 : ∀ q, q < x.next.length → x.acc[q]?.getD (-1) = x.acc.getD q 0 := fun q hq => by
          have hq2 : q < x.acc.length := by rw [hx.accs]; exact hq
          rw [List.getD_eq_getElem?_getD, List.getElem?_eq_getElem hq2]; rfl
        rw [Int.toNat_natCast, Int.toNat_natCast, e1 s hsl, e1 t htl, hac]
        simp
      | cons c u =>
        rw [lg_cons, lg_cons]
        have hc := hu c List.mem_cons_self
        exact Stb.sound hx h u _ _ (toS_in hx (s : Int) c).2 (toS_in hx (t : Int) c).2 (fun d hd => hu d (List.mem_cons_of_mem _ hd)) (h.nxt s t c hsl htl (by omega) he hc)
/-- one language: one part -/
theorem part_of_lang {n : Nat} (hx : Right x) (hf : Flat x) (hnn : x.next.length = n) (hM : ∀ s, M s = true ↔ Liv x s) : ∀ (i : Nat) (s t : Nat), s < n → t < n → M s = true → M t = true → SameL x x (s : Int) (t : Int) → ptK x M n i s = ptK x M n i t
  | 0, s, t, hs, ht, hms, hmt, hl => by
    have h0 := hl [] (fun c hc => (by cases hc))
    have e1 : ∀ q, q < n → goodS x (q : Int) = decide (x.acc.getD q 0 = 0) := fun q hq => by
      have hq2 : q < x.acc.length := by rw [hx.accs, hnn]; exact hq
      have h1 := hx.acc _ (List.getElem_mem hq2)
      have h2 := hf _ (List.getElem_mem hq2)
      unfold goodS
      rw [Int.toNat_natCast, List.getD_eq_getElem?_getD, List.getElem?_eq_getElem hq2]
      simp
      omega
    have h1 : goodS x (s : Int) = goodS x (t : Int) := h0
    rw [e1 s hs, e1 t ht] at h1
    have e2 : ∀ q, q < n → x.acc.getD q 0 = 0 ∨ x.acc.getD q 0 = -1 := fun q hq => by
      have hq2 : q < x.acc.length := by rw [hx.accs, hnn]; exact hq
      have h1 := hx.acc _ (List.getElem_mem hq2)
      have h2 := hf _ (List.getElem_mem hq2)
      rw [List.getD_eq_getElem?_getD, List.getElem?_eq_getElem hq2]
      show x.acc[q] = 0 ∨ x.acc[q] = -1
      omega
    have h3 : x.acc.getD s 0 = x.acc.getD t 0 := by
      have h4 := decide_eq_decide.1 h1
      rcases e2 s hs with h | h <;> rcases e2 t ht with h' | h' <;> omega
    show u8b (b4 _) = u8b (b4 _)
    rw [h3]
  | i + 1, s, t, hs, ht, hms, hmt, hl => by
    have hsx : s < x.next.length := by rw [hnn]; exact hs
    have htx : t < x.next.length := by rw [hnn]; exact ht
    have e1 : ∀ q (hq : q < x.next.length), x.next.getD q [] = x.next[q] := fun q hq => by rw [List.getD_eq_getElem?_getD, List.getElem?_eq_getElem hq]; rfl
    show u8b (kkB x _ s) = u8b (kkB x _ t)
    unfold kkB keyTo
    rw [List.take_length, List.take_length, e1 s hsx, e1 t htx]
    have h1 : numP M (ptK x M n i) n s = numP M (ptK x M n i) n t := (numP_eq hs ht hms hmt).2 (part_of_lang hx hf hnn hM i s t hs ht hms hmt hl)
    have hls := hx.rows _ (List.getElem_mem hsx)
    have hlt := hx.rows _ (List.getElem_mem htx)
    have h2 : x.next[s].map (nb (numP M (ptK x M n i) n)) = x.next[t].map (nb (numP M (ptK x M n i) n)) := by
      refine List.ext_getElem (by rw [List.length_map, List.length_map, hls, hlt]) fun c hc1 hc2 => ?_
      rw [List.length_map] at hc1 hc2
      rw [List.getElem_map, List.getElem_map]
      have hcw : c < x.width := by omega
      have v1 := toS_edge (edge_at hsx hc1)
      have v2 := toS_edge (edge_at htx hc2)
      have hlc : SameL x x (x.next[s][c]) (x.next[t][c]) := by
        intro u hu
        rw [← v1, ← v2]
        have := hl (c :: u) (fun d hd => by rcases List.mem_cons.1 hd with rfl | hd; exact hcw; exact hu d hd)
        rw [lg_cons, lg_cons] at this
        exact this
      have b1 := hx.next _ (List.getElem_mem hsx) _ (List.getElem_mem hc1)
      have b2 := hx.next _ (List.getElem_mem htx) _ (List.getElem_mem hc2)
      rw [hnn] at b1 b2
      generalize x.next[s][c] = v at *
      generalize x.next[t][c] = u at *
      have hlive : ∀ (a b : Int), a < n → SameL x x a b → ¬ a < 0 → M a.toNat = true → ¬ b < 0 ∧ (b < n → M b.toNat = true) := by
        intro a b ha hab ha0 hma
        obtain ⟨q, hq, hq2⟩ := liv_lg hx ((hM _).1 hma)
        rw [show ((a.toNat : Nat) : Int) = a by omega, hab q hq] at hq2
        have hb0 : ¬ b < 0 := fun e => by rw [lg_dead x e] at hq2; cases hq2
        refine ⟨hb0, fun hb => (hM _).2 (lg_liv hx q b.toNat (by omega) hq (by rw [show ((b.toNat : Nat) : Int) = b by omega]; exact hq2))⟩
      have hsym : SameL x x u v := fun q hq => (hlc q hq).symm
      unfold nb
      by_cases hv0 : v < 0
      · rw [if_pos hv0]
        by_cases hu0 : u < 0
        · rw [if_pos hu0]
        · rw [if_neg hu0]
          cases hmu : M u.toNat with
          | false => exact (numP_m1 hmu).symm
          | true => exact absurd hv0 (hlive u v b2.2 hsym hu0 hmu).1
      · rw [if_neg hv0]
        cases hmv : M v.toNat with
        | true =>
          obtain ⟨k1, k2⟩ := hlive v u b1.2 hlc hv0 hmv
          rw [if_neg k1]
          have hmu := k2 b2.2
          refine (numP_eq (by omega) (by omega) hmv hmu).2 (part_of_lang hx hf hnn hM i v.toNat u.toNat (by omega) (by omega) hmv hmu ?_)
          rw [show ((v.toNat : Nat) : Int) = v by omega, show ((u.toNat : Nat) : Int) = u by omega]
          exact hlc
        | false =>
          rw [numP_m1 hmv]
          by_cases hu0 : u < 0
          · rw [if_pos hu0]
          · rw [if_neg hu0]
            cases hmu : M u.toNat with
            | false => exact (numP_m1 hmu).symm
            | true =>
              obtain ⟨k1, k2⟩ := hlive u v b2.2 hsym hu0 hmu
              have := k2 b1.2
              rw [hmv] at this; cases this
    rw [h1]
    have h3 : ∀ l q : List Int, l.map (nb (numP M (ptK x M n i) n)) = q.map (nb (numP M (ptK x M n i) n)) → l.flatMap (fun t => b4 (nb (numP M (ptK x M n i) n) t)) = q.flatMap (fun t => b4 (nb (numP M (ptK x M n i) n) t)) := by
      intro l q h
      have e : ∀ l : List Int, l.flatMap (fun t => b4 (nb (numP M (ptK x M n i) n) t)) = (l.map (nb (numP M (ptK x M n i) n))).flatMap b4 := fun l => by rw [List.flatMap_map]
      rw [e, e, h]
    unfold u8b
    rw [List.map_append, List.map_append, h3 _ _ h2]
end
/-- the numbers of the parts, by the language alone -/
structure Num (x : Dfa) (P : Nat → Int) : Prop where
  rng : ∀ s, s < x.next.length → -1 ≤ P s ∧ P s < x.next.length
  dead : ∀ s, s < x.next.length → (P s < 0 ↔ ∀ u, Bf.over x.width u → lg x (s : Int) u = false)
  eq : ∀ s t, s < x.next.length → t < x.next.length → 0 ≤ P s → 0 ≤ P t → (P s = P t ↔ SameL x x (s : Int) (t : Int))
theorem num_of {x : Dfa} {M : Nat → Bool} {n j : Nat} (hx : Right x) (hf : Flat x) (hnn : x.next.length = n) (hM : ∀ s, M s = true ↔ Liv x s) (hst : ptC x M n (j + 1) = ptC x M n j) : Num x (ptI x M n (j + 1)) := by
  have hS := stb_of hx hf hnn hM hst
  refine ⟨fun s hs => by rw [hnn] at hs ⊢; exact numP_range hs, fun s hs => ?_, fun s t hs ht h0 h1 => ⟨fun h u hu => ?_, fun h => ?_⟩⟩
  · rw [hS.dead s hs]
    constructor
    · intro h u hu
      cases hl : lg x (s : Int) u with
      | false => rfl
      | true => exact absurd (lg_liv hx u s hs hu hl) h
    · intro h hl
      obtain ⟨u, hu, h2⟩ := liv_lg hx hl
      rw [h u hu] at h2; cases h2
  · refine hS.sound hx u _ _ (by omega) (by omega) hu ?_
    unfold nb
    rw [if_neg (by omega), if_neg (by omega), Int.toNat_natCast, Int.toNat_natCast]
    exact h
  · rw [hnn] at hs ht
    have hl : ∀ s, 0 ≤ ptI x M n (j + 1) s → M s = true := fun s h => by
      cases hm : M s with
      | true => rfl
      | false =>
        have := numP_m1 (n := n) (k := ptK x M n (j + 1)) hm
        unfold ptI at h; omega
    exact (numP_eq hs ht (hl s h0) (hl t h1)).2 (part_of_lang hx hf hnn hM _ s t hs ht (hl s h0) (hl t h1) h)
end Df
end Go.Proofs.Ytclpmmbclgihbaa
