/- The closures of the reference's Apart: there the dead state is the number of states. Plain: the table of the reference's Apart. The walk of the reference's Apart. The contract of the reference's DfaFault: dfaErr. -/
import Derived.Test.YtclpmmbclgihbaaJLearnTellsRow3
import Derived.Test.YtclpmmbclgihbaaJLearnTellsRow9
import Derived.Test.YtclpmmbclgihbaaJLearnTellsRow10
import Derived.Test.YtclpmmbclgihbaaJLearnTellsRow4
namespace Go.Proofs.Ytclpmmbclgihbaa
open Go.RowKit
namespace Df

def encS (x : Dfa) (s : Int) : Int := if s < 0 then x.next.length else s

set_option maxHeartbeats 1000000 in
theorem goodE (x : Dfa) (hx : Right x) (s : Int) (hs : inS x s) (aa an : Option Addr) (ca cn : Nat) (w : World) (hA : Sl w (.slice aa x.acc.length ca) (ints x.acc)) :
    Calls Try.prog 22 #[.agg #[.int .i64 x.start, .slice aa x.acc.length ca, .slice an x.next.length cn], .int .i64 (encS x s)] w fun e w' => e = .returned (.bool (goodS x s)) ∧ Below w.heap.size w w' := by
  obtain ⟨w0, HW0⟩ := nameIt (w.alloc (.cells #[.int .i64 x.start, .slice aa x.acc.length ca, .slice an x.next.length cn] 25))
  have hb0 : Below w.heap.size w w0 := by rw [← HW0.out]; exact (Below.refl _ _).alloc (Nat.le_refl _) _
  have HB0 := Lib.hid hb0
  have X0 : w0.heap[w.heap.size]? = some (.cells #[.int .i64 x.start, .slice aa x.acc.length ca, .slice an x.next.length cn] 25 (0, 0)) := by rw [← HW0.out]; exact bx_new _ _ _ rfl
  obtain ⟨x0, x1, x2⟩ := bx_cells3 X0
  by_cases h0 : s < 0
  · have he : encS x s = (x.next.length : Int) := by unfold encS; rw [if_pos h0]
    have hg : Hid (goodS x s = false) := by show _ = _; rw [goodS_at]; unfold atS; rw [if_pos h0]; rfl
    rw [he]
    obtain ⟨R, HR⟩ := nameIt (goodS x s)
    rw [HR.out] at hg ⊢
    obtain ⟨n, HN⟩ := nameIt x.next.length
    rw [HN.out] at HW0 x2 ⊢
    have hd : decide ((n : Int) < (n : Int)) = false := by simp
    clear X0 he hb0 hA
    go_enter Try.func22, Try.ntmps22
    go_upto_region 1 with fail
    rw [HW0.out]
    go_wp2_with fail
    go_ret
    exact ⟨by rw [hg.out]; rfl, HB0.out⟩
  · have he : encS x s = s := by unfold encS; rw [if_neg h0]
    have hac := hx.accs
    have hsn := hs.2
    have hlt : s.toNat < x.acc.length := by omega
    obtain ⟨b, off, hae, hca⟩ := (hA.keep hb0).at hlt
    have c0 := hca s.toNat (by rw [ints_len]; exact hlt)
    rw [ints_get] at c0
    have hg : goodS x s = decide (0 ≤ x.acc[s.toNat]) := by
      rw [goodS_at]; unfold atS; rw [if_neg h0, List.getElem?_eq_getElem hlt, Option.getD_some]
    obtain ⟨a, HAV⟩ := nameIt (x.acc[s.toNat]'hlt)
    rw [HAV.out] at c0 hg
    have HG := Lib.hid hg
    rw [he]
    obtain ⟨R, HR⟩ := nameIt (goodS x s)
    rw [HR.out] at HG ⊢
    have hs0 : 0 ≤ s := by omega
    have hs1 : s < (x.acc.length : Int) := by omega
    have hd : decide (s < (x.next.length : Int)) = true := by simpa using hsn
    obtain ⟨m, HM⟩ := nameIt x.acc.length
    obtain ⟨n, HN⟩ := nameIt x.next.length
    rw [HM.out, HN.out] at HW0
    rw [HM.out] at x1 hs1
    rw [HN.out] at x2 hd hsn
    rw [HM.out, HN.out]
    subst hae
    clear X0 he hb0 hA hca hg hac
    go_enter Try.func22, Try.ntmps22
    go_upto_region 1 with fail
    rw [HW0.out]
    go_wp2_with fail
    go_ret
    exact ⟨by rw [HG.out]; rfl, HB0.out⟩

set_option maxHeartbeats 1000000 in
theorem goE (x : Dfa) (hx : Right x) (s : Int) (hs : inS x s) (c : Nat) (hc : c < x.width) (va : Value) (an : Option Addr) (cn : Nat) (w : World) (hN : Rd AnyB w (.sl (x.next.map D.ints)) [.slice an x.next.length cn]) :
    Calls Try.prog 23 #[.agg #[.int .i64 x.start, va, .slice an x.next.length cn], .int .i64 (encS x s), .int .i64 (c : Int)] w fun e w' => e = .returned (.int .i64 (encS x (toS x s c))) ∧ Below w.heap.size w w' := by
  obtain ⟨w0, HW0⟩ := nameIt (w.alloc (.cells #[.int .i64 x.start, va, .slice an x.next.length cn] 25))
  have hb0 : Below w.heap.size w w0 := by rw [← HW0.out]; exact (Below.refl _ _).alloc (Nat.le_refl _) _
  have HB0 := Lib.hid hb0
  have X0 : w0.heap[w.heap.size]? = some (.cells #[.int .i64 x.start, va, .slice an x.next.length cn] 25 (0, 0)) := by rw [← HW0.out]; exact bx_new _ _ _ rfl
  obtain ⟨x0, x1, x2⟩ := bx_cells3 X0
  by_cases h0 : s < 0
  · have he : encS x s = (x.next.length : Int) := by unfold encS; rw [if_pos h0]
    have hg : Hid (encS x (toS x s c) = (x.next.length : Int)) := by show _ = _; rw [toS_dead x h0]; unfold encS; rw [if_pos (by decide)]
    rw [he]
    obtain ⟨R, HR⟩ := nameIt (encS x (toS x s c))
    rw [HR.out] at hg ⊢
    obtain ⟨n, HN⟩ := nameIt x.next.length
    rw [HN.out] at HW0 x2 hg ⊢
    have hd : decide ((n : Int) < (n : Int)) = false := by simp
    clear X0 he hb0 hN
    go_enter Try.func23, Try.ntmps23
    go_upto_region 1 with fail
    rw [HW0.out]
    go_wp2_with fail
    go_ret
    exact ⟨by rw [hg.out]; rfl, HB0.out⟩
  · have he : encS x s = s := by unfold encS; rw [if_neg h0]
    obtain ⟨r, v, hr, hv, het, hrl⟩ := toS_at hx (show 0 ≤ s by omega) hs.2 hc
    have hlt : s.toNat < x.next.length := by have := hs.2; omega
    obtain ⟨b, off, vr, hae, c0, hsl⟩ := Rd.rowI_at (hN.below hb0) hlt
    obtain ⟨ar, cr, rfl⟩ := hsl.form
    have hrr : x.next[s.toNat] = r := by
      rw [List.getElem?_eq_getElem hlt] at hr
      exact Option.some.inj hr
    rw [hrr, ints_len] at hsl c0
    have hcl : c < r.length := by omega
    obtain ⟨br, or, har, hca⟩ := hsl.at hcl
    have c1 := hca c (by rw [ints_len]; exact hcl)
    rw [ints_get] at c1
    have hvv : r[c] = v := by
      have h1 : r[c]? = some v := hv
      rw [List.getElem?_eq_getElem hcl] at h1
      exact Option.some.inj h1
    rw [hvv] at c1
    rw [het, he]
    have HE : Hid (encS x v = if v < 0 then (x.next.length : Int) else v) := rfl
    obtain ⟨R, HR⟩ := nameIt (encS x v)
    rw [HR.out] at HE ⊢
    have hs0 : 0 ≤ s := by omega
    have hs1 : s < (x.next.length : Int) := hs.2
    have hc0 : (0 : Int) ≤ (c : Int) := by omega
    obtain ⟨nr, HNR⟩ := nameIt r.length
    rw [HNR.out] at c0
    have hcn : (c : Int) < (nr : Int) := by have := HNR.out; omega
    obtain ⟨n, HN⟩ := nameIt x.next.length
    rw [HN.out] at HW0 x2 hs1 HE ⊢
    have hd : decide (s < (n : Int)) = true := by simpa using hs1
    subst hae har
    clear X0 he hb0 hN hca hvv hsl hv hr het hrl
    by_cases hv0 : v < 0
    · have hd2 : decide (0 ≤ v) = false := by simpa using hv0
      have HE2 : Hid (R = (n : Int)) := by show _ = _; rw [HE.out, if_pos hv0]
      clear HE
      go_enter Try.func23, Try.ntmps23
      go_upto_region 1 with fail
      rw [HW0.out]
      go_wp2_with fail
      go_ret
      exact ⟨by rw [HE2.out]; rfl, HB0.out⟩
    · have hv1 : 0 ≤ v := by omega
      have hd2 : decide (0 ≤ v) = true := by simpa using hv1
      have HE2 : Hid (R = v) := by show _ = _; rw [HE.out, if_neg hv0]
      clear HE
      go_enter Try.func23, Try.ntmps23
      go_upto_region 1 with fail
      rw [HW0.out]
      go_wp2_with fail
      go_ret
      exact ⟨by rw [HE2.out]; rfl, HB0.out⟩
end Df
end Go.Proofs.Ytclpmmbclgihbaa
namespace Go.Proofs.Ytclpmmbclgihbaa
open Go.RowKit
namespace Df

def inf : Nat := 1099511627776
def encN (x : Dfa) (s : Int) : Nat := if 0 ≤ s ∧ s < x.next.length then s.toNat else x.next.length
def decS (x : Dfa) (a : Nat) : Int := if a = x.next.length then -1 else a
theorem encN_le (x : Dfa) (s : Int) : encN x s ≤ x.next.length := by unfold encN; split <;> omega
theorem decS_in {x : Dfa} {a : Nat} (h : a ≤ x.next.length) : inS x (decS x a) := by unfold decS inS; split <;> omega
theorem encN_dec {x : Dfa} {a : Nat} (h : a ≤ x.next.length) : encN x (decS x a) = a := by
  unfold encN decS
  by_cases e : a = x.next.length
  · rw [if_pos e, if_neg (by omega)]; exact e.symm
  · rw [if_neg e, if_pos (by omega)]; simp
theorem encS_N {x : Dfa} {s : Int} (h : inS x s) : encS x s = (encN x s : Int) := by
  unfold inS at h
  unfold encS encN
  by_cases e : s < 0
  · rw [if_pos e, if_neg (by omega)]
  · rw [if_neg e, if_pos (by omega)]; omega
theorem encS_dec {x : Dfa} {a : Nat} (h : a ≤ x.next.length) : encS x (decS x a) = (a : Int) := by rw [encS_N (decS_in h), encN_dec h]
theorem toS_dec {x : Dfa} (hx : Right x) (s : Int) (c : Nat) : toS x (decS x (encN x s)) c = toS x s c := by
  by_cases h : 0 ≤ s ∧ s < x.next.length
  · unfold encN decS
    rw [if_pos h, if_neg (by omega)]
    congr 1; omega
  · unfold encN decS
    rw [if_neg h, if_pos rfl]
    rw [toS_dead x (by decide)]
    unfold toS
    by_cases e : s < 0
    · rw [if_pos e]
    · have h1 : x.next[s.toNat]? = none := List.getElem?_eq_none (by omega)
      rw [if_neg e, h1]; rfl
theorem goodS_dec {x : Dfa} (hx : Right x) (s : Int) : goodS x (decS x (encN x s)) = goodS x s := by
  by_cases h : 0 ≤ s ∧ s < x.next.length
  · unfold encN decS
    rw [if_pos h, if_neg (by omega)]
    congr 1; omega
  · unfold encN decS
    rw [if_neg h, if_pos rfl]
    unfold goodS
    have h1 : decide ((0 : Int) ≤ -1) = false := by decide
    rw [h1, Bool.false_and]
    by_cases e : 0 ≤ s
    · rw [List.getElem?_eq_none (by have := hx.accs; omega)]; simp
    · have : decide (0 ≤ s) = false := by simpa using e
      rw [this]; rfl
def dec2 (x y : Dfa) (a b : Nat) : Int × Int := (decS x a, decS y b)
def farP (x y : Dfa) (F : Nat → Nat → Nat) (p : Int × Int) : Nat := F (encN x p.1) (encN y p.2)
def nxA (x : Dfa) (a c : Nat) : Nat := encN x (toS x (decS x a) c)
theorem nxA_le (x : Dfa) (a c : Nat) : nxA x a c ≤ x.next.length := encN_le _ _
structure Ap (x y : Dfa) (F : Nat → Nat → Nat) : Prop where
  le : ∀ a b, a ≤ x.next.length → b ≤ y.next.length → F a b ≤ inf
  word : ∀ a b, a ≤ x.next.length → b ≤ y.next.length → F a b < inf → ∃ u, Bf.over x.width u ∧ u.length = F a b ∧ badP x y (Bf.run (stepP x y) (dec2 x y a b) u) = true
  zero : ∀ a b, a ≤ x.next.length → b ≤ y.next.length → badP x y (dec2 x y a b) = true → F a b = 0
def Chk (x y : Dfa) (F : Nat → Nat → Nat) (a b c : Nat) : Prop := F a b ≤ F (nxA x a c) (nxA y b c) + 1
def upd (F : Nat → Nat → Nat) (a b v : Nat) : Nat → Nat → Nat := fun k l => if k = a ∧ l = b then v else F k l
theorem badP_dec {x y : Dfa} (hx : Right x) (hy : Right y) (p : Int × Int) : badP x y (dec2 x y (encN x p.1) (encN y p.2)) = badP x y p := by
  unfold badP dec2
  rw [goodS_dec hx, goodS_dec hy]
theorem step_dec {x y : Dfa} (hx : Right x) (hy : Right y) (p : Int × Int) (c : Nat) : stepP x y (dec2 x y (encN x p.1) (encN y p.2)) c = stepP x y p c := by
  unfold stepP dec2
  rw [toS_dec hx, toS_dec hy]
theorem run_dec {x y : Dfa} (hx : Right x) (hy : Right y) (p : Int × Int) : ∀ u : List Nat, badP x y (Bf.run (stepP x y) (dec2 x y (encN x p.1) (encN y p.2)) u) = badP x y (Bf.run (stepP x y) p u)
  | [] => badP_dec hx hy p
  | c :: u => by rw [Bf.run_cons, Bf.run_cons, step_dec hx hy]
theorem Ap.upd {x y : Dfa} (hx : Right x) (hy : Right y) {F : Nat → Nat → Nat} (h : Ap x y F) {a b c v : Nat} (ha : a ≤ x.next.length) (hb : b ≤ y.next.length) (hc : c < x.width) (hv : v = F (nxA x a c) (nxA y b c) + 1) (hlt : v < F a b) : Ap x y (upd F a b v) := by
  have hab := h.le a b ha hb
  refine ⟨fun k l hk hl => ?_, fun k l hk hl hkl => ?_, fun k l hk hl hkl => ?_⟩
  · unfold Df.upd
    split
    · omega
    · exact h.le k l hk hl
  · unfold Df.upd at hkl ⊢
    by_cases e : k = a ∧ l = b
    · rw [if_pos e] at hkl ⊢
      obtain ⟨rfl, rfl⟩ := e
      obtain ⟨u, h1, h2, h3⟩ := h.word _ _ (nxA_le x k c) (nxA_le y l c) (by omega)
      refine ⟨c :: u, fun s hs => ?_, by rw [List.length_cons, h2, hv], ?_⟩
      · rcases List.mem_cons.1 hs with rfl | hs
        · exact hc
        · exact h1 s hs
      · rw [Bf.run_cons, ← h3]
        exact (run_dec hx hy (stepP x y (dec2 x y k l) c) u).symm
    · rw [if_neg e] at hkl ⊢
      exact h.word k l hk hl hkl
  · unfold Df.upd
    by_cases e : k = a ∧ l = b
    · obtain ⟨rfl, rfl⟩ := e
      have := h.zero k l hk hl hkl
      omega
    · rw [if_neg e]
      exact h.zero k l hk hl hkl
theorem Ap.start (x y : Dfa) : Ap x y (fun a b => if badP x y (dec2 x y a b) = true then 0 else inf) := by
  refine ⟨fun a b _ _ => by split <;> omega, fun a b _ _ h => ?_, fun a b _ _ h => by rw [if_pos h]⟩
  by_cases e : badP x y (dec2 x y a b) = true
  · rw [if_pos e]
    exact ⟨[], (fun _ hs => by cases hs), rfl, e⟩
  · rw [if_neg e] at h
    exact absurd h (Nat.lt_irrefl _)
theorem Ap.far {x y : Dfa} (hx : Right x) (hy : Right y) {F : Nat → Nat → Nat} (h : Ap x y F) (hs : ∀ a b c, a ≤ x.next.length → b ≤ y.next.length → c < x.width → Chk x y F a b c) : Bf.Far (stepP x y) x.width (badP x y) inf (farP x y F) := by
  refine ⟨fun p hp => ?_, fun p hp => ?_, fun p c hc => ?_⟩
  · obtain ⟨u, h1, h2, h3⟩ := h.word _ _ (encN_le x p.1) (encN_le y p.2) hp
    exact ⟨u, h1, h2, by rw [← run_dec hx hy p u]; exact h3⟩
  · exact h.zero _ _ (encN_le x p.1) (encN_le y p.2) (by rw [badP_dec hx hy]; exact hp)
  · have := hs _ _ c (encN_le x p.1) (encN_le y p.2) hc
    unfold Chk nxA at this
    rw [toS_dec hx, toS_dec hy] at this
    exact this
def sumN (f : Nat → Nat) : Nat → Nat
  | 0 => 0
  | n + 1 => sumN f n + f n
theorem sumN_le {f g : Nat → Nat} : ∀ (n : Nat), (∀ i, i < n → f i ≤ g i) → sumN f n ≤ sumN g n
  | 0, _ => Nat.le_refl _
  | n + 1, h => Nat.add_le_add (sumN_le n fun i hi => h i (by omega)) (h n (by omega))
theorem sumN_lt {f g : Nat → Nat} : ∀ (n : Nat), (∀ i, i < n → f i ≤ g i) → (∃ i, i < n ∧ f i < g i) → sumN f n < sumN g n
  | 0, _, ⟨i, hi, _⟩ => absurd hi (Nat.not_lt_zero _)
  | n + 1, h, ⟨i, hi, hlt⟩ => by
    have h1 := sumN_le n fun i hi => h i (Nat.lt_succ_of_lt hi)
    have h2 := h n (Nat.lt_succ_self n)
    by_cases e : i = n
    · subst e
      show sumN f i + f i < sumN g i + g i
      omega
    · have h3 := sumN_lt n (fun i hi => h i (Nat.lt_succ_of_lt hi)) ⟨i, by omega, hlt⟩
      show sumN f n + f n < sumN g n + g n
      omega
def tot (n m : Nat) (F : Nat → Nat → Nat) : Nat := sumN (fun a => sumN (F a) m) n
theorem tot_upd {n m a b v : Nat} {F : Nat → Nat → Nat} (ha : a < n) (hb : b < m) (h : v < F a b) : tot n m (upd F a b v) < tot n m F := by
  refine sumN_lt n (fun i _ => sumN_le m fun j _ => ?_) ⟨a, ha, sumN_lt m (fun j _ => ?_) ⟨b, hb, ?_⟩⟩
  · unfold upd
    by_cases e : i = a ∧ j = b
    · rw [if_pos e, e.1, e.2]; omega
    · rw [if_neg e]; exact Nat.le_refl _
  · unfold upd
    by_cases e : a = a ∧ j = b
    · rw [if_pos e, e.2]; omega
    · rw [if_neg e]; exact Nat.le_refl _
  · unfold upd
    rw [if_pos ⟨rfl, rfl⟩]
    exact h
/-- in the midst of a pass over the table; T0: the sum when it began -/
structure Pas (x y : Dfa) (T0 : Nat) (ag : Bool) (F : Nat → Nat → Nat) (a b c : Nat) : Prop where
  ap : Ap x y F
  same : ag = false → ∀ a' b' c', a' ≤ x.next.length → b' ≤ y.next.length → c' < x.width → (a' < a ∨ (a' = a ∧ (b' < b ∨ (b' = b ∧ c' < c)))) → Chk x y F a' b' c'
  less : ag = true → tot (x.next.length + 1) (y.next.length + 1) F < T0
  le : tot (x.next.length + 1) (y.next.length + 1) F ≤ T0
section
variable {x y : Dfa} {T0 : Nat} {ag : Bool} {F : Nat → Nat → Nat} {a b c : Nat}
theorem Pas.start (h : Ap x y F) : Pas x y (tot (x.next.length + 1) (y.next.length + 1) F) false F 0 0 0 :=
  ⟨h, (fun _ a' b' c' _ _ _ h => by omega), (fun e => by cases e), Nat.le_refl _⟩
theorem Pas.no (h : Pas x y T0 ag F a b c) (hc : Chk x y F a b c) : Pas x y T0 ag F a b (c + 1) := by
  refine ⟨h.ap, fun e a' b' c' h1 h2 h3 h4 => ?_, h.less, h.le⟩
  by_cases e1 : a' = a ∧ b' = b ∧ c' = c
  · obtain ⟨rfl, rfl, rfl⟩ := e1; exact hc
  · exact h.same e a' b' c' h1 h2 h3 (by omega)
theorem Pas.yes (hx : Right x) (hy : Right y) (h : Pas x y T0 ag F a b c) (ha : a ≤ x.next.length) (hb : b ≤ y.next.length) (hc : c < x.width) {v : Nat} (hv : v = F (nxA x a c) (nxA y b c) + 1) (hlt : v < F a b) : Pas x y T0 true (upd F a b v) a b (c + 1) := by
  have ht := tot_upd (n := x.next.length + 1) (m := y.next.length + 1) (F := F) (show a < x.next.length + 1 by omega) (show b < y.next.length + 1 by omega) hlt
  have := h.le
  exact ⟨h.ap.upd hx hy ha hb hc hv hlt, (fun e => by cases e), (fun _ => by omega), by omega⟩
theorem Pas.row (h : Pas x y T0 ag F a b x.width) : Pas x y T0 ag F a (b + 1) 0 := by
  refine ⟨h.ap, fun e a' b' c' h1 h2 h3 h4 => h.same e a' b' c' h1 h2 h3 (by omega), h.less, h.le⟩
theorem Pas.down (h : Pas x y T0 ag F a (y.next.length + 1) 0) : Pas x y T0 ag F (a + 1) 0 0 := by
  refine ⟨h.ap, fun e a' b' c' h1 h2 h3 h4 => h.same e a' b' c' h1 h2 h3 (by omega), h.less, h.le⟩
theorem Pas.fin (hx : Right x) (hy : Right y) (h : Pas x y T0 false F (x.next.length + 1) 0 0) : Bf.Far (stepP x y) x.width (badP x y) inf (farP x y F) :=
  h.ap.far hx hy fun a b c h1 h2 h3 => h.same rfl a b c h1 h2 h3 (by omega)
end
theorem greedy_dec {x y : Dfa} (hx : Right x) (hy : Right y) (F : Nat → Nat → Nat) (p : Int × Int) (u : List Nat) (h : Bf.Greedy (stepP x y) x.width (farP x y F) (dec2 x y (encN x p.1) (encN y p.2)) u) : Bf.Greedy (stepP x y) x.width (farP x y F) p u := by
  have e : farP x y F (dec2 x y (encN x p.1) (encN y p.2)) = farP x y F p := by
    unfold farP dec2
    rw [encN_dec (encN_le x p.1), encN_dec (encN_le y p.2)]
  cases h with
  | here h => exact .here (by rw [← e]; exact h)
  | there hc h1 h2 h3 =>
    rw [step_dec hx hy, e] at h1
    rw [step_dec hx hy] at h3
    exact .there hc h1 (fun c' hc' => by have := h2 c' hc'; rw [step_dec hx hy, e] at this; exact this) h3
def ApartPost (x y : Dfa) (w : World) (e : Ending) (w' : World) : Prop :=
  Below w.heap.size w w' ∧ ((∃ u a n cap, LeastW x y u ∧ e = .returned (.tuple #[.slice a n cap, .bool true]) ∧ Sl w' (.slice a n cap) (ints (List.map (fun (n : Nat) => (n : Int)) u))) ∨ ((∀ u, Bf.over x.width u → badP x y (Bf.run (stepP x y) (x.start, y.start) u) = true → inf ≤ u.length) ∧ e = .returned (.tuple #[.slice none 0 0, .bool false])))
end Df
end Go.Proofs.Ytclpmmbclgihbaa
namespace Go.Proofs.Ytclpmmbclgihbaa
open Go.RowKit
namespace Df

/-- the table of distances -/
structure GI (wA : World) (bt N M : Nat) (rb : Nat → Nat) (F : Nat → Nat → Nat) (wr : World) : Prop where
  tab : Grd 22 3 wA.heap.size bt N M N rb (fun a b => .int .i64 (F a b : Int)) wr
  bel : Below wA.heap.size wA wr
section
variable {wA : World} {bt N M : Nat} {rb : Nat → Nat} {F : Nat → Nat → Nat} {wr W : World}
theorem GI.keep (h : GI wA bt N M rb F wr) (hb : Below wr.heap.size wr W) : GI wA bt N M rb F W := ⟨h.tab.keep hb, h.bel.trans (hb.mono h.bel.size)⟩
theorem GI.set (h : GI wA bt N M rb F wr) {a b : Nat} (ha : a < N) (hb : b < M) (v : Nat) : GI wA bt N M rb (upd F a b v) (wr.setCell ⟨rb a, b, none⟩ (.int .i64 (v : Int))) := by
  refine ⟨(h.tab.set ha ha hb (.int .i64 (v : Int))).eq (fun k l _ _ _ => ?_), h.bel.setCell (p := ⟨rb a, b, none⟩) (h.tab.ne a ha ha).2 _⟩
  show (if k = a ∧ l = b then _ else _) = _
  unfold upd
  split <;> rfl
theorem GI.eq {F' : Nat → Nat → Nat} (h : GI wA bt N M rb F wr) (he : ∀ k l, k < N → l < M → F k l = F' k l) : GI wA bt N M rb F' wr := ⟨h.tab.eq fun k l hk _ hl => by rw [he k l hk hl], h.bel⟩
end
theorem grown_of_below {B : Nat} {w w' : World} (h : Below B w w') (hB : w.heap.size ≤ B) : w.grownBy w' none := ⟨h.os, h.tape, h.output, h.size, fun k hk _ => h.block k (Nat.lt_of_lt_of_le hk hB)⟩
def part (F : Nat → Nat → Nat) (a b : Nat) : Nat → Nat → Nat := fun k l => if k < a ∨ (k = a ∧ l < b) then F k l else 0
theorem part_row (F : Nat → Nat → Nat) (a M : Nat) (k l : Nat) (h : l < M) : part F a M k l = part F (a + 1) 0 k l := by
  unfold part
  by_cases e : k < a ∨ (k = a ∧ l < M)
  · rw [if_pos e, if_pos (by omega)]
  · rw [if_neg e, if_neg (by omega)]
theorem part_inf (F : Nat → Nat → Nat) (a b v : Nat) (h : F a b = v) (k l : Nat) : upd (part F a b) a b v k l = part F a (b + 1) k l := by
  unfold upd part
  by_cases e : k = a ∧ l = b
  · rw [if_pos e, if_pos (by omega), e.1, e.2, h]
  · rw [if_neg e]
    by_cases e2 : k < a ∨ (k = a ∧ l < b)
    · rw [if_pos e2, if_pos (by omega)]
    · rw [if_neg e2, if_neg (by omega)]
theorem upd_upd (F : Nat → Nat → Nat) (a b v v' : Nat) (k l : Nat) : upd (upd F a b v) a b v' k l = upd F a b v' k l := by
  unfold upd
  by_cases e : k = a ∧ l = b
  · rw [if_pos e, if_pos e]
  · rw [if_neg e, if_neg e, if_neg e]
set_option maxHeartbeats 16000000 in
set_option maxRecDepth 100000 in
theorem apartE (x y : Dfa) (hx : Right x) (hy : Right y) (hwd : x.width = y.width) (aa an ba bn : Option Addr) (ca cn da dn : Nat) (w : World) (hX : DfA x aa an ca cn w) (hY : DfA y ba bn da dn w) :
    Calls Try.prog 7 #[.agg #[.int .i64 x.start, .slice aa x.acc.length ca, .slice an x.next.length cn], .agg #[.int .i64 y.start, .slice ba y.acc.length da, .slice bn y.next.length dn]] w (ApartPost x y w) := by
  obtain ⟨w0, HW0⟩ := nameIt ((w.alloc (.cells #[.int .i64 x.start, .slice aa x.acc.length ca, .slice an x.next.length cn] 25)).alloc (.cells #[.int .i64 y.start, .slice ba y.acc.length da, .slice bn y.next.length dn] 25))
  have hb0 : Below w.heap.size w w0 := by rw [← HW0.out]; exact ((Below.refl _ _).alloc (Nat.le_refl _) _).alloc (by simp) _
  have HB0 := Lib.hid hb0
  have hsz0 : w0.heap.size = w.heap.size + 2 := by rw [← HW0.out]; simp
  have X0 : Hid (w0.heap[w.heap.size]? = some (.cells #[.int .i64 x.start, .slice aa x.acc.length ca, .slice an x.next.length cn] 25 (0, 0))) := by
    rw [← HW0.out]; exact bx_keep (bx_new _ _ _ rfl) ((Below.refl _ _).alloc (Nat.le_refl _) _)
  have Y0 : Hid (w0.heap[w.heap.size + 1]? = some (.cells #[.int .i64 y.start, .slice ba y.acc.length da, .slice bn y.next.length dn] 25 (0, 0))) := by
    rw [← HW0.out]; exact bx_new _ _ _ (by simp)
  have HX := Lib.hid (hX.below hb0)
  have HY := Lib.hid (hY.below hb0)
  have HGX : Hid (∀ W, Below w0.heap.size w0 W → ∀ a : Nat, a ≤ x.next.length → Calls Try.prog 22 #[.agg #[.int .i64 x.start, .slice aa x.acc.length ca, .slice an x.next.length cn], .int .i64 (a : Int)] W fun e w' => e = .returned (.bool (goodS x (decS x a))) ∧ Below W.heap.size W w') := fun W hb a ha => by
    have := goodE x hx (decS x a) (decS_in ha) aa an ca cn W (HX.out.below hb).A
    rw [encS_dec ha] at this
    exact this
  have HGY : Hid (∀ W, Below w0.heap.size w0 W → ∀ a : Nat, a ≤ y.next.length → Calls Try.prog 22 #[.agg #[.int .i64 y.start, .slice ba y.acc.length da, .slice bn y.next.length dn], .int .i64 (a : Int)] W fun e w' => e = .returned (.bool (goodS y (decS y a))) ∧ Below W.heap.size W w') := fun W hb a ha => by
    have := goodE y hy (decS y a) (decS_in ha) ba bn da dn W (HY.out.below hb).A
    rw [encS_dec ha] at this
    exact this
  have HNX : Hid (∀ W, Below w0.heap.size w0 W → ∀ a : Nat, a ≤ x.next.length → ∀ c : Nat, c < x.width → Calls Try.prog 23 #[.agg #[.int .i64 x.start, .slice aa x.acc.length ca, .slice an x.next.length cn], .int .i64 (a : Int), .int .i64 (c : Int)] W fun e w' => e = .returned (.int .i64 (nxA x a c : Int)) ∧ Below W.heap.size W w') := fun W hb a ha c hc => by
    have := goE x hx (decS x a) (decS_in ha) c hc (.slice aa x.acc.length ca) an cn W (HX.out.below hb).N
    rw [encS_dec ha, encS_N (toS_in hx _ c)] at this
    exact this
  have HNY : Hid (∀ W, Below w0.heap.size w0 W → ∀ a : Nat, a ≤ y.next.length → ∀ c : Nat, c < x.width → Calls Try.prog 23 #[.agg #[.int .i64 y.start, .slice ba y.acc.length da, .slice bn y.next.length dn], .int .i64 (a : Int), .int .i64 (c : Int)] W fun e w' => e = .returned (.int .i64 (nxA y a c : Int)) ∧ Below W.heap.size W w') := fun W hb a ha c hc => by
    have := goE y hy (decS y a) (decS_in ha) c (by rw [← hwd]; exact hc) (.slice ba y.acc.length da) bn dn W (HY.out.below hb).N
    rw [encS_dec ha, encS_N (toS_in hy _ c)] at this
    exact this
  have HBP : Hid (∀ a b, (goodS x (decS x a) != goodS y (decS y b)) = badP x y (dec2 x y a b)) := fun _ _ => rfl
  obtain ⟨F0, HF0⟩ := nameIt (fun a b => if badP x y (dec2 x y a b) = true then 0 else inf)
  have HFT : Hid (∀ a b, badP x y (dec2 x y a b) = true → F0 a b = 0) := by intro a b h; rw [← HF0.out]; exact if_pos h
  have HFF : Hid (∀ a b, badP x y (dec2 x y a b) = false → F0 a b = inf) := by intro a b h; rw [← HF0.out]; exact if_neg (by rw [h]; simp)
  have HAP0 : Hid (Ap x y F0) := by show Ap x y F0; rw [← HF0.out]; exact Ap.start x y
  have HXL : Hid (∀ a c, nxA x a c ≤ x.next.length) := fun a c => nxA_le x a c
  have HYL : Hid (∀ a c, nxA y a c ≤ y.next.length) := fun a c => nxA_le y a c
  have HPS : Hid (∀ F, Ap x y F → Pas x y (tot (x.next.length + 1) (y.next.length + 1) F) false F 0 0 0) := fun F h => Pas.start h
  have HPY : Hid (∀ T0 ag F a b c, Pas x y T0 ag F a b c → a ≤ x.next.length → b ≤ y.next.length → c < x.width → F (nxA x a c) (nxA y b c) + 1 < F a b → Pas x y T0 true (upd F a b (F (nxA x a c) (nxA y b c) + 1)) a b (c + 1)) := fun T0 ag F a b c h h1 h2 h3 h4 => Pas.yes hx hy h h1 h2 h3 rfl h4
  have HPN : Hid (∀ T0 ag F a b c, Pas x y T0 ag F a b c → ¬ F (nxA x a c) (nxA y b c) + 1 < F a b → Pas x y T0 ag F a b (c + 1)) := fun T0 ag F a b c h h1 => Pas.no h (Nat.le_of_not_lt h1)
  have HPR : Hid (∀ T0 ag F a b, Pas x y T0 ag F a b x.width → Pas x y T0 ag F a (b + 1) 0) := fun T0 ag F a b h => Pas.row h
  have HPD : Hid (∀ T0 ag F a, Pas x y T0 ag F a (y.next.length + 1) 0 → Pas x y T0 ag F (a + 1) 0 0) := fun T0 ag F a h => Pas.down h
  have HPF : Hid (∀ T0 F, Pas x y T0 false F (x.next.length + 1) 0 0 → Bf.Far (stepP x y) x.width (badP x y) inf (farP x y F)) := fun T0 F h => Pas.fin hx hy h
  have HLE : Hid (∀ F a b, Ap x y F → a ≤ x.next.length → b ≤ y.next.length → F a b ≤ 1099511627776) := fun F a b h h1 h2 => h.le a b h1 h2
  have hnx := hx.states.1
  have hny := hy.states.1
  have hnx2 := hx.states.2
  have hny2 := hy.states.2
  have hm16 := hx.syms.2
  obtain ⟨a0, hsx⟩ : ∃ a0 : Nat, x.start = (a0 : Int) := ⟨x.start.toNat, by have := hx.start.1; omega⟩
  obtain ⟨b0, hsy⟩ : ∃ b0 : Nat, y.start = (b0 : Int) := ⟨y.start.toNat, by have := hy.start.1; omega⟩
  have ha0 : a0 < x.next.length := by have := hx.start.2; omega
  have hb0' : b0 < y.next.length := by have := hy.start.2; omega
  have HD0 : Hid (dec2 x y a0 b0 = (x.start, y.start)) := by
    show _ = _
    unfold dec2 decS
    rw [if_neg (by omega), if_neg (by omega), hsx, hsy]
  have HFP : Hid (∀ F a b, a ≤ x.next.length → b ≤ y.next.length → farP x y F (dec2 x y a b) = F a b) := fun F a b h1 h2 => by unfold farP dec2; rw [encN_dec h1, encN_dec h2]
  have HST2 : Hid (∀ F a b c, farP x y F (stepP x y (dec2 x y a b) c) = F (nxA x a c) (nxA y b c)) := fun F a b c => rfl
  have HGS : Hid (∀ F a b c u, Bf.Greedy (stepP x y) x.width (farP x y F) (dec2 x y (nxA x a c) (nxA y b c)) u → Bf.Greedy (stepP x y) x.width (farP x y F) (stepP x y (dec2 x y a b) c) u) := fun F a b c u h => greedy_dec hx hy F (stepP x y (dec2 x y a b) c) u h
  have HLT : Hid (∀ F u, Bf.Far (stepP x y) x.width (badP x y) inf (farP x y F) → Bf.Greedy (stepP x y) x.width (farP x y F) (dec2 x y a0 b0) u → F a0 b0 < inf → LeastW x y u) := by
    intro F u h1 h2 h3
    have h4 := HFP.out F a0 b0 (by omega) (by omega)
    rw [HD0.out] at h2 h4
    exact leastW_table h1 h2 (by rw [h4]; exact h3)
  have HNO : Hid (∀ F, Bf.Far (stepP x y) x.width (badP x y) inf (farP x y F) → inf ≤ F a0 b0 → ∀ u, Bf.over x.width u → badP x y (Bf.run (stepP x y) (x.start, y.start) u) = true → inf ≤ u.length) := by
    intro F h1 h2 u h3 h4
    have h5 := h1.low u (x.start, y.start) h3 h4
    have h6 := HFP.out F a0 b0 (by omega) (by omega)
    rw [HD0.out] at h6
    omega
  have HPOST : Hid (∀ (v : Value) (W : World), Below w0.heap.size w0 W → (∃ u a n cap, LeastW x y u ∧ v = (.tuple #[.slice a n cap, .bool true]) ∧ Sl W (.slice a n cap) (ints (List.map (fun (n : Nat) => (n : Int)) u))) ∨ ((∀ u, Bf.over x.width u → badP x y (Bf.run (stepP x y) (x.start, y.start) u) = true → inf ≤ u.length) ∧ v = (.tuple #[.slice none 0 0, .bool false])) → ApartPost x y w (.returned v) W) := by
    intro v W hb h
    refine ⟨HB0.out.trans (hb.mono HB0.out.size), ?_⟩
    rcases h with ⟨u, a, n, cap, h1, h2, h3⟩ | ⟨h1, h2⟩
    · exact .inl ⟨u, a, n, cap, h1, by rw [h2], h3⟩
    · exact .inr ⟨h1, by rw [h2]⟩
  obtain ⟨PST, HP⟩ := nameIt (ApartPost x y w)
  rw [HP.out] at HPOST ⊢
  obtain ⟨b, off, vr, hae, c0, hsl⟩ := Rd.rowI_at HX.out.N hnx
  obtain ⟨r0, k0, rfl⟩ := hsl.form
  rw [ints_len, width_at hnx, Nat.add_zero] at c0
  have HIN : Hid (inf = 1099511627776) := rfl
  obtain ⟨P2, HP2⟩ := nameIt (fun a b => badP x y (dec2 x y a b))
  obtain ⟨n, HN⟩ := nameIt x.next.length
  obtain ⟨n', HN'⟩ := nameIt y.next.length
  obtain ⟨m, HM⟩ := nameIt x.width
  obtain ⟨la, HLA⟩ := nameIt x.acc.length
  obtain ⟨la', HLA'⟩ := nameIt y.acc.length
  simp only [HN.out, HN'.out, HM.out, HLA.out, HLA'.out, hsx, hsy] at HW0 X0 Y0 HGX HGY HNX HNY HXL HYL HPS HPY HPN HPR HPD HPF HLE hnx hny hnx2 hny2 hm16 ha0 hb0' HFP HGS HLT HNO HPOST c0 HD0
  rw [HN.out, HN'.out, HLA.out, HLA'.out, hsx, hsy]
  have hn0 : (0 : Int) < (n : Int) := by omega
  subst hae
  obtain ⟨x0, x1, x2⟩ := bx_cells3 X0.out
  obtain ⟨y0, y1, y2⟩ := bx_cells3 Y0.out
  have hgrid := fun W => gridI (n + 1) (n' + 1) W ⟨by omega, by omega⟩ ⟨by omega, by omega⟩
  have HGRID : Hid (∀ W, Calls Try.prog 24 #[.int .i64 ((n : Int) + 1), .int .i64 ((n' : Int) + 1)] W (GridIPost (n + 1) (n' + 1) W)) := by
    intro W; have := hgrid W; simpa using this
  clear hX hY hx hy hb0 hsl hwd hgrid hsx hsy
  go_enter Try.func7, Try.ntmps7
  go_upto_region 1 with fail
  rw [HW0.out]
  go_quiet (fail)
  clear x0 x1 x2 y0 y1 y2
  obtain ⟨wA, HWA⟩ := nameIt (w0.drewN nq)
  have HBA : Hid (Below w0.heap.size w0 wA) := by rw [← HWA.out]; exact below_drewN _ _
  rw [HWA.out]
  clear HWA
  go_wp2_with fail
  refine (HGRID.out wA).mono ?_
  rintro e w1 ⟨bt, rb, rfl, hgrd, hb1⟩
  have HG0 : Hid (GI wA bt (n + 1) (n' + 1) rb (part F0 0 0) w1) := by
    refine ⟨hgrd.eq fun k l _ _ _ => ?_, hb1⟩
    unfold part
    rw [if_neg (by omega)]; rfl
  clear hgrd hb1
  obtain ⟨N, HNN⟩ := nameIt (n + 1)
  obtain ⟨M, HMM⟩ := nameIt (n' + 1)
  have hNn : N = n + 1 := HNN.out.symm
  have hMn : M = n' + 1 := HMM.out.symm
  have hN1 : n < N := by omega
  have hN2 : N ≤ 201 := by omega
  have hM1 : n' < M := by omega
  have hM2 : M ≤ 201 := by omega
  have HNn := Lib.hid hNn
  have HMn := Lib.hid hMn
  rw [HNN.out, HMM.out] at HG0
  rw [HNN.out]
  simp only [HNN.out, HMM.out] at HPS HPD HPF
  clear hNn hMn HGRID
  have HKX : Hid (∀ (F : Nat → Nat → Nat) wr, GI wA bt N M rb F wr → wr.heap[w.heap.size]? = some (.cells #[.int .i64 (a0 : Int), .slice aa la ca, .slice (some ⟨b, off, none⟩) n cn] 25 (0, 0)) ∧ wr.heap[w.heap.size + 1]? = some (.cells #[.int .i64 (b0 : Int), .slice ba la' da, .slice bn n' dn] 25 (0, 0)) ∧ wr.cell? ⟨b, off, none⟩ = some (.slice r0 m k0) ∧ Below w0.heap.size w0 wr) := by
    intro F wr h
    have hb : Below w0.heap.size w0 wr := HBA.out.trans (h.bel.mono HBA.out.size)
    exact ⟨bx_keep X0.out hb, bx_keep Y0.out hb, (hb.cell (lt_of_cell c0)).trans c0, hb⟩

  go_wp2_with fail
  go_loopg [37] N (fun gg v37 wr => ∃ a : Nat, a ≤ N ∧ N - a ≤ gg ∧ v37 = .int .i64 a ∧ Hid (GI wA bt N M rb (part F0 a 0) wr))
  case atStart => exact ⟨0, by omega, by omega, rfl, HG0⟩
  case round =>
    clear HG0
    obtain ⟨a, ha, hg, rfl, HG⟩ := hrel
    obtain ⟨w2, rfl⟩ : ∃ ww : World, ww = wr := ⟨_, rfl⟩
    by_cases hlt : a < N
    · have hlt' : (a : Int) < (N : Int) := by omega
      have ha0' : (0 : Int) ≤ (a : Int) := by omega
      have han : a ≤ n := by have := HNn.out; omega
      have h0 := HG.out.tab.hdr hlt hlt
      go_wp2_with fail
      clear h0
      go_loopg [45] M (fun gg v45 wr => ∃ b : Nat, b ≤ M ∧ M - b ≤ gg ∧ v45 = .int .i64 b ∧ Hid (GI wA bt N M rb (part F0 a b) wr))
      case atStart => exact ⟨0, by omega, by omega, rfl, HG⟩
      case round =>
        clear HG
        obtain ⟨bb, hbb, hg2, rfl, HG⟩ := hrel
        obtain ⟨w3, rfl⟩ : ∃ ww : World, ww = wr := ⟨_, rfl⟩
        by_cases hltb : bb < M
        · have hltb' : (bb : Int) < (M : Int) := by omega
          have hb0'' : (0 : Int) ≤ (bb : Int) := by omega
          have hbn : bb ≤ n' := by have := HMn.out; omega
          have h0 := HG.out.tab.hdr hlt hlt
          have h1 := HG.out.tab.cell hlt hlt hltb
          have f1 := HG.out.tab.free hlt hlt bb
          have hG2 := HG.out.set hlt hltb 1099511627776
          obtain ⟨w4, HW4⟩ := nameIt (w3.setCell ⟨rb a, bb, none⟩ (.int .i64 (1099511627776 : Nat)))
          rw [HW4.out] at hG2
          have HW4' : Hid (w3.setCell ⟨rb a, bb, none⟩ (.int .i64 1099511627776) = w4) := HW4.out
          have HG2 := Lib.hid hG2
          clear hG2
          go_upto_region 12 with fail
          rw [HW4'.out]
          clear h0 h1 f1
          obtain ⟨kx, ky, -, hbk⟩ := HKX.out _ _ HG2.out
          have HGX4 := Lib.hid (fun W (hb : Below w4.heap.size w4 W) => HGX.out W (hbk.trans (hb.mono hbk.size)) a han)
          have HGY4 := Lib.hid (fun W (hb : Below w4.heap.size w4 W) => HGY.out W (hbk.trans (hb.mono hbk.size)) bb hbn)
          have hbp := HBP.out a bb
          obtain ⟨g1, HG1⟩ := nameIt (goodS x (decS x a))
          obtain ⟨g2, HG2'⟩ := nameIt (goodS y (decS y bb))
          rw [HG1.out] at HGX4 hbp
          rw [HG2'.out] at HGY4 hbp
          have HFT1 := Lib.hid (HFT.out a bb)
          have HFF1 := Lib.hid (HFF.out a bb)
          obtain ⟨bd, HBD⟩ := nameIt (badP x y (dec2 x y a bb))
          rw [HBD.out] at hbp HFT1 HFF1
          have k0' := aft_cell (bx_cells3 kx).1
          have k1' := aft_cell (bx_cells3 kx).2.1
          have k2' := aft_cell (bx_cells3 kx).2.2
          have k3' := aft_cell (bx_cells3 ky).1
          have k4' := aft_cell (bx_cells3 ky).2.1
          have k5' := aft_cell (bx_cells3 ky).2.2
          clear kx ky hbk
          cases g1 with
          | true =>
            cases g2 with
            | true =>
              obtain rfl : false = bd := hbp
              refine wp_region_after (by kernel_rfl) (by kernel_rfl) ?_
              repeat (go_big_quiet_step (with_reducible exact Calls.after (HGX4.out _ (Aft.bel _))))
              repeat (go_big_quiet_step (with_reducible exact Calls.after (HGY4.out _ (Aft.bel _))))
              refine wpQuiet_nil ?_
              rintro w7 ⟨⟨_, hb7⟩, rfl⟩
              clear k0' k1' k2' k3' k4' k5'
              have HG7 := Lib.hid (HG2.out.keep hb7)
              clear hb7
              have hz := HFF1.out rfl
              rw [HIN.out] at hz
              have HG9 := Lib.hid (HG7.out.eq (F' := part F0 a (bb + 1)) (fun k l _ _ => part_inf F0 a bb _ hz k l))
              clear hz
              go_wp2_with fail
              go_roundg (M - (bb + 1))
              case measure => omega
              case rel => exact ⟨bb + 1, by omega, by omega, by go_num, HG9⟩
            | false =>
              obtain rfl : true = bd := hbp
              refine wp_region_after (by kernel_rfl) (by kernel_rfl) ?_
              repeat (go_big_quiet_step (with_reducible exact Calls.after (HGX4.out _ (Aft.bel _))))
              repeat (go_big_quiet_step (with_reducible exact Calls.after (HGY4.out _ (Aft.bel _))))
              refine wpQuiet_nil ?_
              rintro w7 ⟨⟨_, hb7⟩, rfl⟩
              clear k0' k1' k2' k3' k4' k5'
              have HG7 := Lib.hid (HG2.out.keep hb7)
              clear hb7
              have hz := HFT1.out rfl
              have h0 := HG7.out.tab.hdr hlt hlt
              have h1 := HG7.out.tab.cell hlt hlt hltb
              have f1 := HG7.out.tab.free hlt hlt bb
              have hG9 := (HG7.out.set hlt hltb 0).eq (F' := part F0 a (bb + 1)) (fun k l _ _ => by rw [upd_upd]; exact part_inf F0 a bb 0 hz k l)
              have HG9 := Lib.hid hG9
              clear hG9 hz
              go_wp2_with fail
              go_roundg (M - (bb + 1))
              case measure => omega
              case rel => exact ⟨bb + 1, by omega, by omega, by go_num, HG9⟩
          | false =>
            cases g2 with
            | true =>
              obtain rfl : true = bd := hbp
              refine wp_region_after (by kernel_rfl) (by kernel_rfl) ?_
              repeat (go_big_quiet_step (with_reducible exact Calls.after (HGX4.out _ (Aft.bel _))))
              repeat (go_big_quiet_step (with_reducible exact Calls.after (HGY4.out _ (Aft.bel _))))
              refine wpQuiet_nil ?_
              rintro w7 ⟨⟨_, hb7⟩, rfl⟩
              clear k0' k1' k2' k3' k4' k5'
              have HG7 := Lib.hid (HG2.out.keep hb7)
              clear hb7
              have hz := HFT1.out rfl
              have h0 := HG7.out.tab.hdr hlt hlt
              have h1 := HG7.out.tab.cell hlt hlt hltb
              have f1 := HG7.out.tab.free hlt hlt bb
              have hG9 := (HG7.out.set hlt hltb 0).eq (F' := part F0 a (bb + 1)) (fun k l _ _ => by rw [upd_upd]; exact part_inf F0 a bb 0 hz k l)
              have HG9 := Lib.hid hG9
              clear hG9 hz
              go_wp2_with fail
              go_roundg (M - (bb + 1))
              case measure => omega
              case rel => exact ⟨bb + 1, by omega, by omega, by go_num, HG9⟩
            | false =>
              obtain rfl : false = bd := hbp
              refine wp_region_after (by kernel_rfl) (by kernel_rfl) ?_
              repeat (go_big_quiet_step (with_reducible exact Calls.after (HGX4.out _ (Aft.bel _))))
              repeat (go_big_quiet_step (with_reducible exact Calls.after (HGY4.out _ (Aft.bel _))))
              refine wpQuiet_nil ?_
              rintro w7 ⟨⟨_, hb7⟩, rfl⟩
              clear k0' k1' k2' k3' k4' k5'
              have HG7 := Lib.hid (HG2.out.keep hb7)
              clear hb7
              have hz := HFF1.out rfl
              rw [HIN.out] at hz
              have HG9 := Lib.hid (HG7.out.eq (F' := part F0 a (bb + 1)) (fun k l _ _ => part_inf F0 a bb _ hz k l))
              clear hz
              go_wp2_with fail
              go_roundg (M - (bb + 1))
              case measure => omega
              case rel => exact ⟨bb + 1, by omega, by omega, by go_num, HG9⟩
        · have hltb' : ¬ (bb : Int) < (M : Int) := by omega
          obtain rfl : bb = M := by omega
          have HG9 := Lib.hid (HG.out.eq (F' := part F0 (a + 1) 0) (fun k l _ hl => part_row F0 a bb k l hl))
          go_wp2_with fail
          go_roundg (N - (a + 1))
          case measure => omega
          case rel => exact ⟨a + 1, by omega, by omega, by go_num, HG9⟩
    · have hlt' : ¬ (a : Int) < (N : Int) := by omega
      obtain rfl : a = N := by omega
      have HG1 := Lib.hid (HG.out.eq (F' := F0) (fun k l hk hl => by unfold part; rw [if_pos (by omega)]))
      clear HG
      go_wp2_with fail
      go_loopg [13] (tot a M F0 + 1) (fun gg v13 wr => ∃ (ag : Bool) (F : Nat → Nat → Nat), v13 = .bool ag ∧ (ag = true → tot a M F + 1 ≤ gg) ∧ Hid (GI wA bt a M rb F wr) ∧ Hid (Ap x y F) ∧ Hid (ag = false → Bf.Far (stepP x y) m (badP x y) inf (farP x y F)))
      case atStart => exact ⟨true, F0, rfl, (fun _ => Nat.le_refl _), HG1, HAP0, (fun e => by cases e)⟩
      case round =>
        clear HG1 HAP0
        obtain ⟨ag, F, rfl, hgg, HG, HAP, HFR⟩ := hrel
        obtain ⟨w2, rfl⟩ : ∃ ww : World, ww = wr := ⟨_, rfl⟩
        cases ag with
        | true =>
          have hgg' := hgg rfl
          have HPS0 := Lib.hid (HPS.out F HAP.out)
          obtain ⟨T0, HT0⟩ := nameIt (tot a M F)
          rw [HT0.out] at HPS0 hgg'
          clear hgg HFR HAP
          go_wp2_with fail
          go_loopg [13, 74] a (fun gg v13 v74 wr => ∃ (k : Nat) (ag : Bool) (F : Nat → Nat → Nat), k ≤ a ∧ a - k ≤ gg ∧ v13 = .bool ag ∧ v74 = .int .i64 k ∧ Hid (GI wA bt a M rb F wr) ∧ Hid (Pas x y T0 ag F k 0 0))
          case atStart => exact ⟨0, false, F, by omega, by omega, rfl, rfl, HG, HPS0⟩
          case round =>
            clear HG HPS0
            obtain ⟨k, ag, F1, hk, hg3, rfl, rfl, HG, HPA⟩ := hrel
            obtain ⟨w3, rfl⟩ : ∃ ww : World, ww = wr := ⟨_, rfl⟩
            by_cases hkl : k < a
            · have hkl' : (k : Int) < (a : Int) := by omega
              have hk0 : (0 : Int) ≤ (k : Int) := by omega
              have hkn : k ≤ n := by have := HNn.out; omega
              have h0 := HG.out.tab.hdr hkl hkl
              go_wp2_with fail
              clear h0
              go_loopg [13, 82] M (fun gg v13 v82 wr => ∃ (l : Nat) (ag : Bool) (F : Nat → Nat → Nat), l ≤ M ∧ M - l ≤ gg ∧ v13 = .bool ag ∧ v82 = .int .i64 l ∧ Hid (GI wA bt a M rb F wr) ∧ Hid (Pas x y T0 ag F k l 0))
              case atStart => exact ⟨0, ag, F1, by omega, by omega, rfl, rfl, HG, HPA⟩
              case round =>
                clear HG HPA
                obtain ⟨l, ag, F2, hl, hg4, rfl, rfl, HG, HPA⟩ := hrel
                obtain ⟨w4, rfl⟩ : ∃ ww : World, ww = wr := ⟨_, rfl⟩
                by_cases hll : l < M
                · have hll' : (l : Int) < (M : Int) := by omega
                  have hl0 : (0 : Int) ≤ (l : Int) := by omega
                  have hln : l ≤ n' := by have := HMn.out; omega
                  obtain ⟨kx, -, hc0, -⟩ := HKX.out _ _ HG.out
                  obtain ⟨x0, x1, x2⟩ := bx_cells3 kx
                  clear kx
                  go_wp2_with fail
                  clear x0 x1 x2 hc0
                  go_loopg [13, 90] m (fun gg v13 v90 wr => ∃ (c : Nat) (ag : Bool) (F : Nat → Nat → Nat), c ≤ m ∧ m - c ≤ gg ∧ v13 = .bool ag ∧ v90 = .int .i64 c ∧ Hid (GI wA bt a M rb F wr) ∧ Hid (Pas x y T0 ag F k l c))
                  case atStart => exact ⟨0, ag, F2, by omega, by omega, rfl, rfl, HG, HPA⟩
                  case round =>
                    clear HG HPA
                    obtain ⟨c, ag, F3, hc, hg5, rfl, rfl, HG, HPA⟩ := hrel
                    obtain ⟨w5, rfl⟩ : ∃ ww : World, ww = wr := ⟨_, rfl⟩
                    by_cases hcm : c < m
                    · have hcm' : (c : Int) < (m : Int) := by omega
                      obtain ⟨kx, ky, -, hbk⟩ := HKX.out _ _ HG.out
                      have HNX5 := Lib.hid (fun W (hb : Below w5.heap.size w5 W) => HNX.out W (hbk.trans (hb.mono hbk.size)) k hkn c hcm)
                      have HNY5 := Lib.hid (fun W (hb : Below w5.heap.size w5 W) => HNY.out W (hbk.trans (hb.mono hbk.size)) l hln c hcm)
                      have hp1 := HXL.out k c
                      have hp2 := HYL.out l c
                      have HPYY := Lib.hid (fun h4 => HPY.out T0 ag F3 k l c HPA.out hkn hln hcm h4)
                      have HPNN := Lib.hid (fun h4 => HPN.out T0 ag F3 k l c HPA.out h4)
                      have hle1 := HLE.out F3 _ _ HPA.out.ap hp1 hp2
                      have hle2 := HLE.out F3 k l HPA.out.ap hkn hln
                      obtain ⟨p, HPE⟩ := nameIt (nxA x k c)
                      obtain ⟨q, HQE⟩ := nameIt (nxA y l c)
                      rw [HPE.out] at HNX5 hp1 hle1
                      rw [HQE.out] at HNY5 hp2 hle1
                      rw [HPE.out, HQE.out] at HPYY HPNN
                      have hpa : p < a := by have := HNn.out; omega
                      have hqM : q < M := by have := HMn.out; omega
                      have hpa' : (p : Int) < (a : Int) := by omega
                      have hqM' : (q : Int) < (M : Int) := by omega
                      have hp0 : (0 : Int) ≤ (p : Int) := by omega
                      have hq0 : (0 : Int) ≤ (q : Int) := by omega
                      have g0 := HG.out.tab.hdr hpa hpa
                      have g1 := HG.out.tab.cell hpa hpa hqM
                      obtain ⟨f1, HF1⟩ := nameIt (F3 p q)
                      obtain ⟨f2, HF2⟩ := nameIt (F3 k l)
                      rw [HF1.out] at hle1 g1 HPYY HPNN
                      rw [HF2.out] at hle2 HPYY HPNN
                      have k0' := aft_cell (bx_cells3 kx).1
                      have k1' := aft_cell (bx_cells3 kx).2.1
                      have k2' := aft_cell (bx_cells3 kx).2.2
                      have k3' := aft_cell (bx_cells3 ky).1
                      have k4' := aft_cell (bx_cells3 ky).2.1
                      have k5' := aft_cell (bx_cells3 ky).2.2
                      have k6' := aft_cell g0
                      have k7' := aft_cell g1
                      have hwr : IntKind.i64.wrap ((f1 : Int) + 1) = ((f1 + 1 : Nat) : Int) := by rw [IntWalk.i64_in _ (by omega)]; omega
                      clear kx ky hbk g0 g1
                      obtain ⟨v, HVV⟩ := nameIt (f1 + 1)
                      rw [HVV.out] at hwr HPYY HPNN
                      go_upto_region 28 with fail
                      refine wp_region_after (by kernel_rfl) (by kernel_rfl) ?_
                      repeat (go_big_quiet_step (with_reducible exact Calls.after (HNX5.out _ (Aft.bel _))))
                      repeat (go_big_quiet_step (with_reducible exact Calls.after (HNY5.out _ (Aft.bel _))))
                      refine wpQuiet_nil ?_
                      rintro w7 ⟨⟨_, hb7⟩, rfl⟩
                      clear k0' k1' k2' k3' k4' k5' k6' k7'
                      have HG7 := Lib.hid (HG.out.keep hb7)
                      clear hb7 HG
                      have g2 := HG7.out.tab.hdr hkl hkl
                      have g3 := HG7.out.tab.cell hkl hkl hll
                      rw [HF2.out] at g3
                      have ff := HG7.out.tab.free hkl hkl l
                      by_cases hvl : v < f2
                      · have hvl' : (v : Int) < (f2 : Int) := by omega
                        have HG9 := Lib.hid (HG7.out.set hkl hll v)
                        have HP9 := Lib.hid (HPYY.out hvl)
                        clear hwr
                        go_wp2_with fail
                        go_roundg (m - (c + 1))
                        case measure => omega
                        case rel => exact ⟨c + 1, true, _, by omega, by omega, rfl, by go_num, HG9, HP9⟩
                      · have hvl' : ¬ (v : Int) < (f2 : Int) := by omega
                        have HP9 := Lib.hid (HPNN.out hvl)
                        clear hwr
                        go_wp2_with fail
                        go_roundg (m - (c + 1))
                        case measure => omega
                        case rel => exact ⟨c + 1, ag, F3, by omega, by omega, rfl, by go_num, HG7, HP9⟩
                    · have hcm' : ¬ (c : Int) < (m : Int) := by omega
                      obtain rfl : c = m := by omega
                      have HP9 := Lib.hid (HPR.out T0 ag F3 k l HPA.out)
                      go_wp2_with fail
                      go_roundg (M - (l + 1))
                      case measure => omega
                      case rel => exact ⟨l + 1, ag, F3, by omega, by omega, rfl, by go_num, HG, HP9⟩
                · have hll' : ¬ (l : Int) < (M : Int) := by omega
                  obtain rfl : l = M := by omega
                  have HP9 := Lib.hid (HPD.out T0 ag F2 k HPA.out)
                  go_wp2_with fail
                  go_roundg (a - (k + 1))
                  case measure => omega
                  case rel => exact ⟨k + 1, ag, F2, by omega, by omega, rfl, by go_num, HG, HP9⟩
            · have hkl' : ¬ (k : Int) < (a : Int) := by omega
              obtain rfl : k = a := by omega
              have HAP9 : Hid (Ap x y F1) := HPA.out.ap
              have HFR9 : Hid (ag = false → Bf.Far (stepP x y) m (badP x y) inf (farP x y F1)) := by
                intro e; subst e; exact HPF.out T0 F1 HPA.out
              have HLS9 : Hid (ag = true → tot k M F1 < T0) := by
                intro e
                have := HPA.out.less e
                rw [HN.out, HN'.out, HNN.out, HMM.out] at this
                exact this
              go_wp2_with fail
              go_roundg T0
              case measure => omega
              case rel => exact ⟨ag, F1, rfl, (fun e => HLS9.out e), HG, HAP9, HFR9⟩
        | false =>
          have HFAR := Lib.hid (HFR.out rfl)
          clear hgg HFR
          obtain ⟨kx, ky, -, -⟩ := HKX.out _ _ HG.out
          obtain ⟨x0, x1, x2⟩ := bx_cells3 kx
          obtain ⟨y0, y1, y2⟩ := bx_cells3 ky
          clear kx ky
          go_wp2_with fail
          go_quiet (fail)
          clear x0 x1 x2 y0 y1 y2
          obtain ⟨wB, HWB⟩ := nameIt (w2.drewN nq)
          have HGB : Hid (GI wA bt a M rb F wB) := by rw [← HWB.out]; exact HG.out.keep (below_drewN _ _)
          rw [HWB.out]
          clear HWB HG
          have haa : a0 < a := by have := HNn.out; omega
          have hbM : b0 < M := by have := HMn.out; omega
          have haa' : (a0 : Int) < (a : Int) := by omega
          have hbM' : (b0 : Int) < (M : Int) := by omega
          have h0 := HGB.out.tab.hdr haa haa
          have h1 := HGB.out.tab.cell haa haa hbM
          obtain ⟨-, -, -, hbB⟩ := HKX.out _ _ HGB.out
          have HBB := Lib.hid hbB
          have HLT1 := Lib.hid (fun u h2 h3 => HLT.out F u HFAR.out h2 h3)
          have HNO1 := Lib.hid (HNO.out F HFAR.out)
          rw [HIN.out] at HLT1 HNO1
          have HNEAR : Hid (∀ k l, k ≤ n → l ≤ n' → F k l < 1099511627776 → 0 < F k l → ∃ c, c < m ∧ F (nxA x k c) (nxA y l c) + 1 = F k l) := by
            intro k l hk hl h3 h4
            have h5 := HFP.out F k l hk hl
            obtain ⟨c, h6, h7⟩ := HFAR.out.near (n := dec2 x y k l) (by rw [h5, HIN.out]; exact h3) (by rw [h5]; exact h4)
            rw [h5, HST2.out] at h7
            exact ⟨c, h6, h7⟩
          have HGR0 : Hid (∀ k l, k ≤ n → l ≤ n' → F k l = 0 → Bf.Greedy (stepP x y) m (farP x y F) (dec2 x y k l) []) := by
            intro k l hk hl h3
            exact .here (by rw [HFP.out F k l hk hl]; exact h3)
          have HGRS : Hid (∀ k l c u, k ≤ n → l ≤ n' → c < m → F (nxA x k c) (nxA y l c) + 1 = F k l → (∀ c', c' < c → F (nxA x k c') (nxA y l c') + 1 ≠ F k l) → Bf.Greedy (stepP x y) m (farP x y F) (dec2 x y (nxA x k c) (nxA y l c)) u → Bf.Greedy (stepP x y) m (farP x y F) (dec2 x y k l) (c :: u)) := by
            intro k l c u hk hl hc h3 h4 h5
            refine .there hc (by rw [HST2.out, HFP.out F k l hk hl]; exact h3) (fun c' hc' => by rw [HST2.out, HFP.out F k l hk hl]; exact h4 c' hc') (HGS.out F k l c u h5)
          obtain ⟨f0, HF0'⟩ := nameIt (F a0 b0)
          rw [HF0'.out] at h1 HLT1 HNO1
          by_cases hf : 1099511627776 ≤ f0
          · have hf' : (1099511627776 : Int) ≤ (f0 : Int) := by omega
            have HF := Lib.hid (HPOST.out _ wB HBB.out (.inr ⟨by rw [HIN.out]; exact HNO1.out hf, rfl⟩))
            go_wp2_with fail
            first | exact HF.out | (refine bodyPost_ret (results_tmp2 Try.results7 _ _ _) rfl ?_; exact HF.out)
          · have hf' : ¬ (1099511627776 : Int) ≤ (f0 : Int) := by omega
            have hf2 : f0 < 1099511627776 := by omega
            have ha0n : a0 ≤ n := by omega
            have hb0n : b0 ≤ n' := by omega
            go_wp2_with fail
            clear h0 h1
            go_loopg [18, 19, 20] (f0 + 1) (fun gg v18 v19 v20 wr => ∃ (k l : Nat) (out : List Nat), k ≤ n ∧ l ≤ n' ∧ F k l + 1 ≤ gg ∧ v18 = .int .i64 k ∧ v19 = .int .i64 l ∧ Hid (F k l < 1099511627776) ∧ Hid (out.length + F k l ≤ 1099511627776) ∧ Hid (∀ u, Bf.Greedy (stepP x y) m (farP x y F) (dec2 x y k l) u → Bf.Greedy (stepP x y) m (farP x y F) (dec2 x y a0 b0) (out ++ u)) ∧ Hid (wr.ownsRow wB.heap.size 3 1 v20 out.length (ints (List.map (fun (n : Nat) => (n : Int)) out))) ∧ Hid (Below wB.heap.size wB wr))
            case atStart =>
              refine ⟨a0, b0, [], ha0n, hb0n, by rw [HF0'.out]; exact Nat.le_refl _, rfl, rfl, by show _ < _; rw [HF0'.out]; exact hf2, by show _ ≤ _; rw [HF0'.out]; simp; omega, fun u h => h, ?_, Below.refl _ _⟩
              show World.ownsRow wB _ _ _ _ _ _
              simpa [ints] using World.ownsRow_nil wB wB.heap.size 3 1
            case round =>
              obtain ⟨k, l, out, hk, hl, hgg, rfl, rfl, HFL, HOL, HGG, HO, HB⟩ := hrel
              obtain ⟨w3, rfl⟩ : ∃ ww : World, ww = wr := ⟨_, rfl⟩
              have HG3 := Lib.hid (show GI wA bt a M rb F w3 from ⟨HGB.out.tab.grown (grown_of_below HB.out (Nat.le_refl _)) (fun k e => by cases e), HGB.out.bel.trans (HB.out.mono HGB.out.bel.size)⟩)
              have hka : k < a := by have := HNn.out; omega
              have hlM : l < M := by have := HMn.out; omega
              have hka' : (k : Int) < (a : Int) := by omega
              have hlM' : (l : Int) < (M : Int) := by omega
              have hk0 : (0 : Int) ≤ (k : Int) := by omega
              have hl0 : (0 : Int) ≤ (l : Int) := by omega
              have h0 := HG3.out.tab.hdr hka hka
              have h1 := HG3.out.tab.cell hka hka hlM
              obtain ⟨oa, oc, rfl, hoc, hoc2⟩ := own_len HO.out
              obtain ⟨ol, HOLN⟩ := nameIt out.length
              rw [HOLN.out] at HO HOL
              rw [HOLN.out]
              have HNR := Lib.hid (HNEAR.out k l hk hl HFL.out)
              have HGRZ := Lib.hid (HGR0.out k l hk hl)
              have HGRT := Lib.hid (fun c u => HGRS.out k l c u hk hl)
              obtain ⟨f2, HF2⟩ := nameIt (F k l)
              have hfl := HFL.out
              have hol := HOL.out
              rw [HF2.out] at h1 hgg HNR HGRZ HGRT hfl hol
              clear HFL HOL
              by_cases hpos : 0 < f2
              · have hpos' : (0 : Int) < (f2 : Int) := by omega
                obtain ⟨kx, ky, hc0, hbk⟩ := HKX.out _ _ HG3.out
                obtain ⟨x0, x1, x2⟩ := bx_cells3 kx
                clear kx ky hbk
                go_wp2_with fail
                clear h0 h1 x0 x1 x2 hc0
                obtain ⟨vO, HVO⟩ := nameIt (Value.slice oa ol oc)
                go_loopg [18, 19, 20, 153] m (fun gg v18 v19 v20 v153 wr => ∃ c : Nat, c ≤ m ∧ m - c ≤ gg ∧ v18 = .int .i64 k ∧ v19 = .int .i64 l ∧ v20 = .slice oa ol oc ∧ v153 = .int .i64 c ∧ Hid (∀ c', c' < c → F (nxA x k c') (nxA y l c') + 1 ≠ f2) ∧ Hid (Below w3.heap.size w3 wr))
                case atStart => exact ⟨0, by omega, by omega, rfl, rfl, rfl, rfl, (fun c' h => by omega), Below.refl _ _⟩
                case round =>
                  obtain ⟨c, hc, hg6, rfl, rfl, rfl, rfl, HNC, HB3⟩ := hrel
                  obtain ⟨w4, rfl⟩ : ∃ ww : World, ww = wr := ⟨_, rfl⟩
                  by_cases hcm : c < m
                  · have hcm' : (c : Int) < (m : Int) := by omega
                    have HG4 := Lib.hid (HG3.out.keep HB3.out)
                    obtain ⟨kx, ky, -, hbk⟩ := HKX.out _ _ HG4.out
                    have HNX5 := Lib.hid (fun W (hb : Below w4.heap.size w4 W) => HNX.out W (hbk.trans (hb.mono hbk.size)) k hk c hcm)
                    have HNY5 := Lib.hid (fun W (hb : Below w4.heap.size w4 W) => HNY.out W (hbk.trans (hb.mono hbk.size)) l hl c hcm)
                    have hp1 := HXL.out k c
                    have hp2 := HYL.out l c
                    have HGTT := Lib.hid (fun u => HGRT.out c u hcm)
                    have HNC1 : Hid (F (nxA x k c) (nxA y l c) + 1 ≠ f2 → ∀ c', c' < c + 1 → F (nxA x k c') (nxA y l c') + 1 ≠ f2) := by
                      intro h c' hc'
                      by_cases e : c' = c
                      · subst e; exact h
                      · exact HNC.out c' (by omega)
                    obtain ⟨p, HPE⟩ := nameIt (nxA x k c)
                    obtain ⟨q, HQE⟩ := nameIt (nxA y l c)
                    rw [HPE.out] at HNX5 hp1
                    rw [HQE.out] at HNY5 hp2
                    rw [HPE.out, HQE.out] at HGTT HNC1
                    have hpa : p < a := by have := HNn.out; omega
                    have hqM : q < M := by have := HMn.out; omega
                    have hpa' : (p : Int) < (a : Int) := by omega
                    have hqM' : (q : Int) < (M : Int) := by omega
                    have hp0 : (0 : Int) ≤ (p : Int) := by omega
                    have hq0 : (0 : Int) ≤ (q : Int) := by omega
                    have k0' := aft_cell (bx_cells3 kx).1
                    have k1' := aft_cell (bx_cells3 kx).2.1
                    have k2' := aft_cell (bx_cells3 kx).2.2
                    have k3' := aft_cell (bx_cells3 ky).1
                    have k4' := aft_cell (bx_cells3 ky).2.1
                    have k5' := aft_cell (bx_cells3 ky).2.2
                    have hwr : IntKind.i64.wrap ((f2 : Int) - 1) = (f2 : Int) - 1 := IntWalk.i64_in _ (by omega)
                    clear kx ky hbk
                    go_upto_region 42 with fail
                    refine wp_region_after (by kernel_rfl) (by kernel_rfl) ?_
                    repeat (go_big_quiet_step (with_reducible exact Calls.after (HNX5.out _ (Aft.bel _))))
                    repeat (go_big_quiet_step (with_reducible exact Calls.after (HNY5.out _ (Aft.bel _))))
                    refine wpQuiet_nil ?_
                    rintro w7 ⟨⟨_, hb7⟩, rfl⟩
                    clear k0' k1' k2' k3' k4' k5'
                    have HB7 := Lib.hid (HB3.out.trans (hb7.mono HB3.out.size))
                    have HG7 := Lib.hid (HG4.out.keep hb7)
                    clear hb7
                    have g0 := HG7.out.tab.hdr hpa hpa
                    have g1 := HG7.out.tab.cell hpa hpa hqM
                    have g2 := HG7.out.tab.hdr hka hka
                    have g3 := HG7.out.tab.cell hka hka hlM
                    rw [HF2.out] at g3
                    obtain ⟨f1, HF1⟩ := nameIt (F p q)
                    rw [HF1.out] at g1 HGTT HNC1
                    by_cases he : f1 + 1 = f2
                    · have heq : ((f1 : Int) == (f2 : Int) - 1) = true := by rw [beq_iff_eq]; omega
                      have HEQ := Lib.hid he
                      clear he
                      go_wp2_with fail
                      go_quiet (fail)
                      obtain ⟨w8, HW8⟩ := nameIt (w7.drewN nq)
                      have HB8 : Hid (Below w3.heap.size w3 w8) := by rw [← HW8.out]; exact HB7.out.trans ((below_drewN _ _).mono HB7.out.size)
                      rw [HW8.out]
                      clear g0 g1 g2 g3 HW8
                      have HB8B : Hid (Below wB.heap.size wB w8) := HB.out.trans (HB8.out.mono HB.out.size)
                      have HO8 := Lib.hid (own_keep HO.out HB8.out)
                      go_wp2_with (at_builtin; refine wp_app1at elInt rfl _ _ rfl HO8.out rfl rfl rfl rfl rfl (by omega) (by unfold maxLen; omega) HB8B.out.size ?_)
                      intro v9 w9 ho9 hg9 hat9
                      have HO9 : Hid (w9.ownsRow wB.heap.size 3 1 v9 (out ++ [c]).length (ints (List.map (fun (n : Nat) => (n : Int)) (out ++ [c])))) := by
                        rw [List.length_append, HOLN.out]
                        show World.ownsRow w9 _ _ _ _ _ _
                        simpa [ints] using ho9
                      have HB9 : Hid (Below wB.heap.size wB w9) := HB8B.out.grown hg9 HB8B.out.size (fun k e => (HO8.out.lt k e).1)
                      have HGG9 : Hid (∀ u, Bf.Greedy (stepP x y) m (farP x y F) (dec2 x y p q) u → Bf.Greedy (stepP x y) m (farP x y F) (dec2 x y a0 b0) ((out ++ [c]) ++ u)) := by
                        intro u hu
                        rw [List.append_assoc]
                        exact HGG.out _ (HGTT.out u HEQ.out HNC.out hu)
                      have hq9 := HEQ.out
                      have HFL9 : Hid (F p q < 1099511627776) := by show _ < _; rw [HF1.out]; omega
                      have HOL9 : Hid ((out ++ [c]).length + F p q ≤ 1099511627776) := by show _ ≤ _; rw [List.length_append, HOLN.out, HF1.out]; simp; omega
                      clear ho9 hg9 hat9 hq9 hwr
                      go_wp2_with fail
                      go_roundg (F p q + 1)
                      case measure => rw [HF1.out]; have := HEQ.out; omega
                      case rel => exact ⟨p, q, out ++ [c], hp1, hp2, Nat.le_refl _, rfl, rfl, HFL9, HOL9, HGG9, HO9, HB9⟩
                    · have heq : ((f1 : Int) == (f2 : Int) - 1) = false := by rw [beq_eq_false_iff_ne]; omega
                      have HNC9 := Lib.hid (HNC1.out he)
                      clear he
                      go_wp2_with fail
                      go_quiet (fail)
                      obtain ⟨w8, HW8⟩ := nameIt (w7.drewN nq)
                      have HB8 : Hid (Below w3.heap.size w3 w8) := by rw [← HW8.out]; exact HB7.out.trans ((below_drewN _ _).mono HB7.out.size)
                      rw [HW8.out]
                      clear g0 g1 g2 g3 HW8 hwr
                      go_wp2_with fail
                      go_roundg (m - (c + 1))
                      case measure => omega
                      case rel => exact ⟨c + 1, by omega, by omega, rfl, rfl, rfl, by go_num, HNC9, HB8⟩
                  · exfalso
                    obtain rfl : c = m := by omega
                    obtain ⟨c', h1, h2⟩ := HNR.out hpos
                    exact HNC.out c' h1 h2
              · have hpos' : ¬ (0 : Int) < (f2 : Int) := by omega
                have hz : f2 = 0 := by omega
                have HGF := Lib.hid (HGG.out [] (HGRZ.out hz))
                have HLW := Lib.hid (HLT1.out (out ++ []) HGF.out hf2)
                rw [List.append_nil] at HLW
                have HSL := Lib.hid (sl_of_own HO.out)
                have HF := Lib.hid (HPOST.out _ w3 (HBB.out.trans (HB.out.mono HBB.out.size)) (.inl ⟨out, oa, ol, oc, HLW.out, rfl, HSL.out⟩))
                clear hz
                go_wp2_with fail
                first | exact HF.out | (refine bodyPost_ret (results_tmp2 Try.results7 _ _ _) rfl ?_; exact HF.out)

end Df
end Go.Proofs.Ytclpmmbclgihbaa
namespace Go.Proofs.Ytclpmmbclgihbaa
open Go.RowKit
namespace Df

set_option maxHeartbeats 4000000 in
set_option maxRecDepth 100000 in
theorem faultE (x : Dfa) (aa an : Option Addr) (ca cn : Nat) (w : World) (hA : Sl w (.slice aa x.acc.length ca) (ints x.acc)) (hN : Rd AnyB w (.sl (x.next.map D.ints)) [.slice an x.next.length cn]) :
    Calls Try.prog 25 #[.agg #[.int .i64 x.start, .slice aa x.acc.length ca, .slice an x.next.length cn]] w fun e w' => e = .returned (.int .i64 (dfaErr x)) ∧ Below w.heap.size w w' := by
  obtain ⟨w0, HW0⟩ := nameIt (w.alloc (.cells #[.int .i64 x.start, .slice aa x.acc.length ca, .slice an x.next.length cn] 25))
  have hb0 : Below w.heap.size w w0 := by rw [← HW0.out]; exact (Below.refl _ _).alloc (Nat.le_refl _) _
  have HB0 := Lib.hid hb0
  have X0 : w0.heap[w.heap.size]? = some (.cells #[.int .i64 x.start, .slice aa x.acc.length ca, .slice an x.next.length cn] 25 (0, 0)) := by rw [← HW0.out]; exact bx_new _ _ _ rfl
  obtain ⟨x0, x1, x2⟩ := bx_cells3 X0
  have HA := Lib.hid (hA.keep hb0)
  have HNX := Lib.hid (hN.below hb0)
  clear hA hN hb0 X0
  have HS0 : Hid (startB x = (decide (x.start < 0) || decide ((x.next.length : Int) ≤ x.start))) := rfl
  obtain ⟨sB, HSB⟩ := nameIt (startB x)
  obtain ⟨R, HR⟩ := nameIt (dfaErr x)
  have HL0 : Hid (List.map D.ints x.next = x.next.map D.ints) := rfl
  obtain ⟨n, HN⟩ := nameIt x.next.length
  obtain ⟨la, HLA⟩ := nameIt x.acc.length
  obtain ⟨st, HST⟩ := nameIt x.start
  have HNB : Hid (n ≤ maxLen) := by
    have := Rd.form HNX.out
    obtain ⟨a, cap, L, e, h1, h2, h3⟩ := HNX.out
    show n ≤ maxLen
    rw [List.length_map] at h1
    rw [← HN.out]; omega
  rw [HN.out] at x2
  rw [HLA.out] at x1
  rw [HST.out] at x0
  rw [HN.out, HLA.out, HST.out] at HW0
  rw [HSB.out, HN.out, HST.out] at HS0
  have HAA := HA.out
  rw [HLA.out] at HAA
  have HNN := HNX.out
  rw [HN.out] at HNN
  replace HAA := Lib.hid HAA
  replace HNN := Lib.hid HNN
  rw [HN.out, HLA.out, HST.out, HR.out]
  by_cases h1 : 200 < n
  · have HE : Hid (R = 2) := by show _ = _; rw [← HR.out]; exact dfaErr_one (by rw [HN.out]; exact h1)
    have h1' : (200 : Int) < (n : Int) := by omega
    go_enter Try.func25, Try.ntmps25
    go_upto_region 1 with fail
    rw [HW0.out]
    go_wp2_with fail
    go_ret
    exact ⟨by rw [HE.out]; rfl, HB0.out⟩
  have h1' : ¬ (200 : Int) < (n : Int) := by omega
  by_cases h2 : n = 0 ∨ la ≠ n
  · have HE : Hid (R = 3) := by show _ = _; rw [← HR.out]; exact dfaErr_two (by rw [HN.out]; exact h1) (by rw [HN.out, HLA.out]; exact h2)
    by_cases h20 : n = 0
    · have h2' : (n : Int) = 0 := by omega
      clear h2 h20
      go_enter Try.func25, Try.ntmps25
      go_upto_region 1 with fail
      rw [HW0.out]
      go_wp2_with fail
      go_ret
      exact ⟨by rw [HE.out]; rfl, HB0.out⟩
    · have h2' : ¬ (n : Int) = 0 := by omega
      have h3' : ((la : Int) != (n : Int)) = true := by rw [bne_iff_ne]; omega
      clear h2 h20
      go_enter Try.func25, Try.ntmps25
      go_upto_region 1 with fail
      rw [HW0.out]
      go_wp2_with fail
      go_ret
      exact ⟨by rw [HE.out]; rfl, HB0.out⟩
  have hn0 : 0 < n := by omega
  obtain rfl : n = la := by omega
  have hni : ¬ (n : Int) = 0 := by omega
  have hni0 : (0 : Int) < (n : Int) := by omega
  have hn0x : 0 < x.next.length := by rw [HN.out]; exact hn0
  have H2 : Hid (¬ (x.next.length = 0 ∨ x.acc.length ≠ x.next.length)) := by show ¬ _; rw [HN.out, HLA.out]; exact h2
  have H1 : Hid (¬ 200 < x.next.length) := by show ¬ _; rw [HN.out]; exact h1
  obtain ⟨b, off, vr, hae, c0, hsl⟩ := Rd.rowI_at HNN.out hn0x
  obtain ⟨a0, k0, rfl⟩ := hsl.form
  rw [ints_len, width_at hn0x, Nat.add_zero] at c0
  clear hsl
  obtain ⟨m, HM⟩ := nameIt x.width
  rw [HM.out] at c0
  subst hae
  by_cases h3 : 16 < m
  · have HE : Hid (R = 2) := by show _ = _; rw [← HR.out]; exact dfaErr_three H1.out H2.out (by rw [HM.out]; exact h3)
    have h3' : (16 : Int) < (m : Int) := by omega
    clear h2 h1
    go_enter Try.func25, Try.ntmps25
    go_upto_region 1 with fail
    rw [HW0.out]
    go_wp2_with fail
    go_ret
    exact ⟨by rw [HE.out]; rfl, HB0.out⟩
  have h3' : ¬ (16 : Int) < (m : Int) := by omega
  have H3 : Hid (¬ 16 < x.width) := by show ¬ _; rw [HM.out]; exact h3
  clear h2 h1 h3
  obtain ⟨p, HP⟩ := nameIt (fun v : Int => decide (v < -1))
  obtain ⟨q, HQ⟩ := nameIt (fun v : Int => decide (v < -1) || decide ((n : Int) ≤ v))
  obtain ⟨B, HBn⟩ := nameIt (fun j => sB || ((x.acc.take j).any p || (x.next.take j).any (rowB x)))
  have HB00 : Hid (B 0 = sB) := by show _ = _; rw [← HBn.out]; simp
  have HBS : Hid (∀ j (h : j < x.acc.length) (h' : j < x.next.length), B (j + 1) = ((B j || p x.acc[j]) || rowB x x.next[j])) := by
    intro j h h'; rw [← HBn.out]; show (sB || (_ || _)) = (((sB || (_ || _)) || _) || _); rw [any_step (rowB x) h', any_step p h]
    cases sB <;> cases (x.acc.take j).any p <;> cases (x.next.take j).any (rowB x) <;> cases p x.acc[j] <;> rfl
  have HBE : Hid (x.next.any (badRowB x) = false → R = if B n = true then 1 else 0) := by
    intro H4
    have h5 := dfaErr_five H1.out H2.out H3.out H4
    rw [HSB.out, HR.out] at h5
    rw [h5, ← HBn.out]
    show _ = if (sB || ((x.acc.take n).any p || (x.next.take n).any (rowB x))) = true then 1 else 0
    have e1 : x.acc.take n = x.acc := by rw [← HLA.out]; exact List.take_length
    have e2 : x.next.take n = x.next := by rw [← HN.out]; exact List.take_length
    rw [e1, e2, ← HP.out, Bool.or_assoc]
    rfl
  have HQR : Hid (∀ r, rowB x r = r.any q) := by intro r; rw [← HQ.out, ← HN.out]; rfl
  have HACA : Hid (∀ j (h : j < n), ∃ ba oa, aa = some ⟨ba, oa, none⟩ ∧ w0.cell? ⟨ba, oa + j, none⟩ = some (.int .i64 (x.acc[j]'(by rw [HLA.out]; exact h)))) := by
    intro j h
    obtain ⟨ba, oa, hae, hca⟩ := HAA.out.at h
    have c1 := hca j (by rw [ints_len, HLA.out]; exact h)
    rw [ints_get] at c1
    exact ⟨ba, oa, hae, c1⟩
  have HS1 : Hid (sB = true ∨ (decide (st < 0) = false ∧ decide ((n : Int) ≤ st) = false)) := by
    show _ ∨ _
    rw [HS0.out]
    cases decide (st < 0) <;> cases decide ((n : Int) ≤ st) <;> simp
  have hnb : ((n : Int) == 0) = false := by rw [beq_eq_false_iff_ne]; exact hni
  go_enter Try.func25, Try.ntmps25
  go_upto_region 1 with fail
  rw [HW0.out]
  go_upto_region 7 with fail
  go_cut [3] (fun t3 wx => t3 = .bool sB ∧ w0 = wx)
  case first =>
    by_cases hs1 : st < 0
    · have hd1 : decide (st < 0) = true := by simpa using hs1
      have HV : Hid (sB = true) := by show _ = _; rw [HS0.out, hd1]; rfl
      clear hs1
      go_wp2_with fail
      go_meet
      exact ⟨by rw [HV.out], rfl⟩
    · have hd1 : decide (st < 0) = false := by simpa using hs1
      have HV : Hid (sB = decide ((n : Int) ≤ st)) := by show _ = _; rw [HS0.out, hd1]; rfl
      clear hs1
      go_wp2_with fail
      go_meet
      exact ⟨by rw [HV.out], rfl⟩
  case rest =>
  obtain ⟨rfl, rfl⟩ := hcut
  go_wp2_with fail
  go_loopg [3, 4, 5, 7, 48] n (fun gg v3 v4 v5 v7 v48 wr => ∃ i : Nat, i ≤ n ∧ n - i ≤ gg ∧ v3 = .bool (B i) ∧ v48 = .int .i64 i ∧ w0 = wr ∧ Hid ((x.next.take i).any (badRowB x) = false))
  case atStart => exact ⟨0, by omega, by omega, by rw [HB00.out], rfl, rfl, rfl⟩
  case round =>
    obtain ⟨i, hi, hg, rfl, rfl, rfl, HI⟩ := hrel
    by_cases hlt : i < n
    · have hlt' : (i : Int) < (n : Int) := by omega
      have hi0 : (0 : Int) ≤ (i : Int) := by omega
      have hltx : i < x.next.length := by rw [HN.out]; exact hlt
      obtain ⟨b', off', vi, hae, ci, hsl⟩ := Rd.rowI_at HNN.out hltx
      obtain ⟨ai, ki, rfl⟩ := hsl.form
      rw [ints_len] at ci hsl
      cases hae
      have HSL := Lib.hid hsl
      clear hsl
      have HBR : Hid (badRowB x x.next[i] = (decide (x.next[i].length = 0) || decide (x.next[i].length ≠ x.width))) := rfl
      have HST' := Lib.hid (any_step (badRowB x) hltx)
      have HAT := Lib.hid (fun h => any_at (p := badRowB x) hltx h)
      have HBB := Lib.hid (HBS.out i (by rw [HLA.out]; exact hlt) hltx)
      rw [HQR.out] at HBB
      obtain ⟨ro, HRO⟩ := nameIt x.next[i]
      rw [HRO.out] at HST' HAT HBR HBB HSL ci
      obtain ⟨br, HBRN⟩ := nameIt (badRowB x ro)
      obtain ⟨rl, HRL⟩ := nameIt ro.length
      rw [HRL.out] at ci
      rw [HBRN.out, HRL.out, HM.out] at HBR
      rw [HBRN.out] at HST' HAT
      by_cases hm : rl = m
      · by_cases hr : rl = 0
        · have HE : Hid (R = 3) := by
            show _ = _; rw [← HR.out]; exact dfaErr_four H1.out H2.out H3.out (HAT.out (by rw [HBR.out]; simp [hr]))
          have hri : ((rl : Int) == 0) = true := by simpa using hr
          subst hm
          clear hr
          go_wp2_with fail
          go_ret
          exact ⟨by rw [HE.out]; rfl, HB0.out⟩
        · have HI2 : Hid ((x.next.take (i + 1)).any (badRowB x) = false) := by
            show _ = _; rw [HST'.out, HI.out, HBR.out]; simp [hm]; omega
          have hri : ((rl : Int) == 0) = false := by rw [beq_eq_false_iff_ne]; omega
          have HRN := Lib.hid hr
          obtain ⟨ba, oa, hae, ca0⟩ := HACA.out i hlt
          have haix : i < x.acc.length := by rw [HLA.out]; exact hlt
          obtain ⟨av, HAV⟩ := nameIt (x.acc[i]'haix)
          rw [HAV.out] at HBB ca0
          obtain ⟨Bi, HBi⟩ := nameIt (B i)
          obtain ⟨Bj, HBj⟩ := nameIt (B (i + 1))
          rw [HBi.out, HBj.out] at HBB
          rw [HBi.out]
          subst hae hm
          clear hr
          have HPA : Hid (p av = decide (av < -1)) := by rw [← HP.out]; rfl
          rw [HPA.out] at HBB
          go_upto_region 13 with fail
          obtain ⟨b1, Hb1⟩ := nameIt (Bi || decide (av < -1))
          rw [Hb1.out] at HBB
          go_cut [3] (fun t3 wx => t3 = .bool b1 ∧ w0 = wx)
          case first =>
            cases Bi with
            | true =>
              have HV : Hid (b1 = true) := by show _ = _; rw [← Hb1.out]; rfl
              go_wp2_with fail
              go_meet
              exact ⟨by rw [HV.out], rfl⟩
            | false =>
              have HV : Hid (b1 = decide (av < -1)) := by show _ = _; rw [← Hb1.out]; rfl
              go_wp2_with fail
              go_meet
              exact ⟨by rw [HV.out], rfl⟩
          case rest =>
            obtain ⟨rfl, rfl⟩ := hcut
            clear ca0
            go_wp2_with fail
            obtain ⟨G, HG⟩ := nameIt (fun j => b1 || (ro.take j).any q)
            have HG0 : Hid (G 0 = b1) := by show _ = _; rw [← HG.out]; simp
            have HGS : Hid (∀ j (h : j < ro.length), G (j + 1) = (G j || q ro[j])) := by
              intro j h; rw [← HG.out]; show (b1 || _) = ((b1 || _) || _); rw [any_step q h, Bool.or_assoc]
            have HGE : Hid (G rl = Bj) := by
              show _ = _; rw [HBB.out, ← HG.out]
              show (b1 || (ro.take rl).any q) = _
              rw [← HRL.out, List.take_length]
            go_loopg [3, 7, 77] rl (fun gg v3 v7 v77 wr => ∃ j : Nat, j ≤ rl ∧ rl - j ≤ gg ∧ v3 = .bool (G j) ∧ v77 = .int .i64 j ∧ w0 = wr)
            case atStart => exact ⟨0, by omega, by omega, by rw [HG0.out], rfl, rfl⟩
            case round =>
              obtain ⟨j, hj, hg2, rfl, rfl, rfl⟩ := hrel
              by_cases hlt2 : j < rl
              · have hlt2' : (j : Int) < (rl : Int) := by omega
                have hj0 : (0 : Int) ≤ (j : Int) := by omega
                have hjr : j < ro.length := by rw [HRL.out]; exact hlt2
                have hsl := HSL.out
                rw [HRL.out] at hsl
                obtain ⟨br', or', hae, hcr⟩ := hsl.at hlt2
                have cr := hcr j (by rw [ints_len]; exact hjr)
                rw [ints_get] at cr
                subst hae
                have HGJ := Lib.hid (HGS.out j hjr)
                obtain ⟨v, HV⟩ := nameIt (ro[j]'hjr)
                have HQV : Hid (q v = (decide (v < -1) || decide ((n : Int) ≤ v))) := by rw [← HQ.out]; rfl
                rw [HV.out] at cr HGJ
                rw [HQV.out] at HGJ
                obtain ⟨Gj, HGj⟩ := nameIt (G j)
                obtain ⟨Gk, HGk⟩ := nameIt (G (j + 1))
                rw [HGj.out, HGk.out] at HGJ
                rw [HGj.out]
                clear hcr hsl
                cases Gj with
                | true =>
                  have HVV : Hid (Gk = true) := by show _ = _; rw [HGJ.out]; rfl
                  go_wp2_with fail
                  go_roundg (rl - (j + 1))
                  case measure => omega
                  case rel => exact ⟨j + 1, by omega, by omega, by rw [HGk.out, HVV.out], by go_num, rfl⟩
                | false =>
                  by_cases hs1 : v < -1
                  · have hd1 : decide (v < -1) = true := by simpa using hs1
                    have HVV : Hid (Gk = true) := by show _ = _; rw [HGJ.out, hd1]; rfl
                    clear hs1
                    go_wp2_with fail
                    go_roundg (rl - (j + 1))
                    case measure => omega
                    case rel => exact ⟨j + 1, by omega, by omega, by rw [HGk.out, HVV.out], by go_num, rfl⟩
                  · have hd1 : decide (v < -1) = false := by simpa using hs1
                    have HVV : Hid (Gk = decide ((n : Int) ≤ v)) := by show _ = _; rw [HGJ.out, hd1]; simp
                    clear hs1
                    go_wp2_with fail
                    go_roundg (rl - (j + 1))
                    case measure => omega
                    case rel => exact ⟨j + 1, by omega, by omega, by rw [HGk.out, HVV.out], by go_num, rfl⟩
              · obtain rfl : j = rl := by omega
                have hlt2' : ¬ (j : Int) < (j : Int) := by omega
                rw [HGE.out]
                go_wp2_with fail
                go_roundg (n - (i + 1))
                case measure => omega
                case rel => exact ⟨i + 1, by omega, by omega, by rw [HBj.out], by go_num, rfl, HI2⟩
      · have HE : Hid (R = 3) := by
          show _ = _; rw [← HR.out]; exact dfaErr_four H1.out H2.out H3.out (HAT.out (by rw [HBR.out]; simp [hm]))
        have hmi : ((rl : Int) != (m : Int)) = true := by rw [bne_iff_ne]; omega
        go_wp2_with fail
        go_ret
        exact ⟨by rw [HE.out]; rfl, HB0.out⟩
    · obtain rfl : i = n := by omega
      have hlt' : ¬ (i : Int) < (i : Int) := by omega
      have H4 : x.next.any (badRowB x) = false := by
        have := HI.out
        rw [← HN.out, List.take_length] at this
        exact this
      have HB9 := Lib.hid (HBE.out H4)
      clear H4
      obtain ⟨Bj, HBj⟩ := nameIt (B i)
      rw [HBj.out] at HB9 ⊢
      cases Bj with
      | true =>
        have HE : Hid (R = 1) := HB9.out
        go_wp2_with fail
        go_ret
        exact ⟨by rw [HE.out]; rfl, HB0.out⟩
      | false =>
        have HE : Hid (R = 0) := HB9.out
        go_wp2_with fail
        go_ret
        exact ⟨by rw [HE.out]; rfl, HB0.out⟩
end Df
end Go.Proofs.Ytclpmmbclgihbaa
