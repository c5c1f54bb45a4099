/- Plain: the table of the reference's Apart. -/
import Derived.Test.YtenkhjmedolknaaDfaApart
import Derived.Test.YtenkhjmedolknaaSameP
namespace Go.Proofs.Ytenkhjmedolknaa
open Go.RowKit
namespace Df

def inf : Nat := 1099511627776
def encN (x : Dfa) (s : Int) : Nat := if 0 ≤ s ∧ s < x.next.length then s.toNat else x.next.length
def decS (x : Dfa) (a : Nat) : Int := if a = x.next.length then -1 else a
theorem encN_le (x : Dfa) (s : Int) : encN x s ≤ x.next.length := by unfold encN; split <;> omega
theorem decS_in {x : Dfa} {a : Nat} (h : a ≤ x.next.length) : inS x (decS x a) := by unfold decS inS; split <;> omega
theorem encN_dec {x : Dfa} {a : Nat} (h : a ≤ x.next.length) : encN x (decS x a) = a := by
  unfold encN decS
  by_cases e : a = x.next.length
  · rw [if_pos e, if_neg (by omega)]; exact e.symm
  · rw [if_neg e, if_pos (by omega)]; simp
theorem encS_N {x : Dfa} {s : Int} (h : inS x s) : encS x s = (encN x s : Int) := by
  unfold inS at h
  unfold encS encN
  by_cases e : s < 0
  · rw [if_pos e, if_neg (by omega)]
  · rw [if_neg e, if_pos (by omega)]; omega
theorem encS_dec {x : Dfa} {a : Nat} (h : a ≤ x.next.length) : encS x (decS x a) = (a : Int) := by rw [encS_N (decS_in h), encN_dec h]
theorem toS_dec {x : Dfa} (hx : Right x) (s : Int) (c : Nat) : toS x (decS x (encN x s)) c = toS x s c := by
  by_cases h : 0 ≤ s ∧ s < x.next.length
  · unfold encN decS
    rw [if_pos h, if_neg (by omega)]
    congr 1; omega
  · unfold encN decS
    rw [if_neg h, if_pos rfl]
    rw [toS_dead x (by decide)]
    unfold toS
    by_cases e : s < 0
    · rw [if_pos e]
    · have h1 : x.next[s.toNat]? = none := List.getElem?_eq_none (by omega)
      rw [if_neg e, h1]; rfl
theorem goodS_dec {x : Dfa} (hx : Right x) (s : Int) : goodS x (decS x (encN x s)) = goodS x s := by
  by_cases h : 0 ≤ s ∧ s < x.next.length
  · unfold encN decS
    rw [if_pos h, if_neg (by omega)]
    congr 1; omega
  · unfold encN decS
    rw [if_neg h, if_pos rfl]
    unfold goodS
    have h1 : decide ((0 : Int) ≤ -1) = false := by decide
    rw [h1, Bool.false_and]
    by_cases e : 0 ≤ s
    · rw [List.getElem?_eq_none (by have := hx.accs; omega)]; simp
    · have : decide (0 ≤ s) = false := by simpa using e
      rw [this]; rfl
def dec2 (x y : Dfa) (a b : Nat) : Int × Int := (decS x a, decS y b)
def farP (x y : Dfa) (F : Nat → Nat → Nat) (p : Int × Int) : Nat := F (encN x p.1) (encN y p.2)
def nxA (x : Dfa) (a c : Nat) : Nat := encN x (toS x (decS x a) c)
theorem nxA_le (x : Dfa) (a c : Nat) : nxA x a c ≤ x.next.length := encN_le _ _
structure Ap (x y : Dfa) (F : Nat → Nat → Nat) : Prop where
  le : ∀ a b, a ≤ x.next.length → b ≤ y.next.length → F a b ≤ inf
  word : ∀ a b, a ≤ x.next.length → b ≤ y.next.length → F a b < inf → ∃ u, Bf.over x.width u ∧ u.length = F a b ∧ badP x y (Bf.run (stepP x y) (dec2 x y a b) u) = true
  zero : ∀ a b, a ≤ x.next.length → b ≤ y.next.length → badP x y (dec2 x y a b) = true → F a b = 0
def Chk (x y : Dfa) (F : Nat → Nat → Nat) (a b c : Nat) : Prop := F a b ≤ F (nxA x a c) (nxA y b c) + 1
def upd (F : Nat → Nat → Nat) (a b v : Nat) : Nat → Nat → Nat := fun k l => if k = a ∧ l = b then v else F k l
theorem badP_dec {x y : Dfa} (hx : Right x) (hy : Right y) (p : Int × Int) : badP x y (dec2 x y (encN x p.1) (encN y p.2)) = badP x y p := by
  unfold badP dec2
  rw [goodS_dec hx, goodS_dec hy]
theorem step_dec {x y : Dfa} (hx : Right x) (hy : Right y) (p : Int × Int) (c : Nat) : stepP x y (dec2 x y (encN x p.1) (encN y p.2)) c = stepP x y p c := by
  unfold stepP dec2
  rw [toS_dec hx, toS_dec hy]
theorem run_dec {x y : Dfa} (hx : Right x) (hy : Right y) (p : Int × Int) : ∀ u : List Nat, badP x y (Bf.run (stepP x y) (dec2 x y (encN x p.1) (encN y p.2)) u) = badP x y (Bf.run (stepP x y) p u)
  | [] => badP_dec hx hy p
  | c :: u => by rw [Bf.run_cons, Bf.run_cons, step_dec hx hy]
theorem Ap.upd {x y : Dfa} (hx : Right x) (hy : Right y) {F : Nat → Nat → Nat} (h : Ap x y F) {a b c v : Nat} (ha : a ≤ x.next.length) (hb : b ≤ y.next.length) (hc : c < x.width) (hv : v = F (nxA x a c) (nxA y b c) + 1) (hlt : v < F a b) : Ap x y (upd F a b v) := by
  have hab := h.le a b ha hb
  refine ⟨fun k l hk hl => ?_, fun k l hk hl hkl => ?_, fun k l hk hl hkl => ?_⟩
  · unfold Df.upd
    split
    · omega
    · exact h.le k l hk hl
  · unfold Df.upd at hkl ⊢
    by_cases e : k = a ∧ l = b
    · rw [if_pos e] at hkl ⊢
      obtain ⟨rfl, rfl⟩ := e
      obtain ⟨u, h1, h2, h3⟩ := h.word _ _ (nxA_le x k c) (nxA_le y l c) (by omega)
      refine ⟨c :: u, fun s hs => ?_, by rw [List.length_cons, h2, hv], ?_⟩
      · rcases List.mem_cons.1 hs with rfl | hs
        · exact hc
        · exact h1 s hs
      · rw [Bf.run_cons, ← h3]
        exact (run_dec hx hy (stepP x y (dec2 x y k l) c) u).symm
    · rw [if_neg e] at hkl ⊢
      exact h.word k l hk hl hkl
  · unfold Df.upd
    by_cases e : k = a ∧ l = b
    · obtain ⟨rfl, rfl⟩ := e
      have := h.zero k l hk hl hkl
      omega
    · rw [if_neg e]
      exact h.zero k l hk hl hkl
theorem Ap.start (x y : Dfa) : Ap x y (fun a b => if badP x y (dec2 x y a b) = true then 0 else inf) := by
  refine ⟨fun a b _ _ => by split <;> omega, fun a b _ _ h => ?_, fun a b _ _ h => by rw [if_pos h]⟩
  by_cases e : badP x y (dec2 x y a b) = true
  · rw [if_pos e]
    exact ⟨[], (fun _ hs => by cases hs), rfl, e⟩
  · rw [if_neg e] at h
    exact absurd h (Nat.lt_irrefl _)
theorem Ap.far {x y : Dfa} (hx : Right x) (hy : Right y) {F : Nat → Nat → Nat} (h : Ap x y F) (hs : ∀ a b c, a ≤ x.next.length → b ≤ y.next.length → c < x.width → Chk x y F a b c) : Bf.Far (stepP x y) x.width (badP x y) inf (farP x y F) := by
  refine ⟨fun p hp => ?_, fun p hp => ?_, fun p c hc => ?_⟩
  · obtain ⟨u, h1, h2, h3⟩ := h.word _ _ (encN_le x p.1) (encN_le y p.2) hp
    exact ⟨u, h1, h2, by rw [← run_dec hx hy p u]; exact h3⟩
  · exact h.zero _ _ (encN_le x p.1) (encN_le y p.2) (by rw [badP_dec hx hy]; exact hp)
  · have := hs _ _ c (encN_le x p.1) (encN_le y p.2) hc
    unfold Chk nxA at this
    rw [toS_dec hx, toS_dec hy] at this
    exact this
def sumN (f : Nat → Nat) : Nat → Nat
  | 0 => 0
  | n + 1 => sumN f n + f n
theorem sumN_le {f g : Nat → Nat} : ∀ (n : Nat), (∀ i, i < n → f i ≤ g i) → sumN f n ≤ sumN g n
  | 0, _ => Nat.le_refl _
  | n + 1, h => Nat.add_le_add (sumN_le n fun i hi => h i (by omega)) (h n (by omega))
theorem sumN_lt {f g : Nat → Nat} : ∀ (n : Nat), (∀ i, i < n → f i ≤ g i) → (∃ i, i < n ∧ f i < g i) → sumN f n < sumN g n
  | 0, _, ⟨i, hi, _⟩ => absurd hi (Nat.not_lt_zero _)
  | n + 1, h, ⟨i, hi, hlt⟩ => by
    have h1 := sumN_le n fun i hi => h i (Nat.lt_succ_of_lt hi)
    have h2 := h n (Nat.lt_succ_self n)
    by_cases e : i = n
    · subst e
      show sumN f i + f i < sumN g i + g i
      omega
    · have h3 := sumN_lt n (fun i hi => h i (Nat.lt_succ_of_lt hi)) ⟨i, by omega, hlt⟩
      show sumN f n + f n < sumN g n + g n
      omega
def tot (n m : Nat) (F : Nat → Nat → Nat) : Nat := sumN (fun a => sumN (F a) m) n
theorem tot_upd {n m a b v : Nat} {F : Nat → Nat → Nat} (ha : a < n) (hb : b < m) (h : v < F a b) : tot n m (upd F a b v) < tot n m F := by
  refine sumN_lt n (fun i _ => sumN_le m fun j _ => ?_) ⟨a, ha, sumN_lt m (fun j _ => ?_) ⟨b, hb, ?_⟩⟩
  · unfold upd
    by_cases e : i = a ∧ j = b
    · rw [if_pos e, e.1, e.2]; omega
    · rw [if_neg e]; exact Nat.le_refl _
  · unfold upd
    by_cases e : a = a ∧ j = b
    · rw [if_pos e, e.2]; omega
    · rw [if_neg e]; exact Nat.le_refl _
  · unfold upd
    rw [if_pos ⟨rfl, rfl⟩]
    exact h
/-- in the midst of a pass over the table; T0: the sum when it began -/
structure Pas (x y : Dfa) (T0 : Nat) (ag : Bool) (F : Nat → Nat → Nat) (a b c : Nat) : Prop where
  ap : Ap x y F
  same : ag = false → ∀ a' b' c', a' ≤ x.next.length → b' ≤ y.next.length → c' < x.width → (a' < a ∨ (a' = a ∧ (b' < b ∨ (b' = b ∧ c' < c)))) → Chk x y F a' b' c'
  less : ag = true → tot (x.next.length + 1) (y.next.length + 1) F < T0
  le : tot (x.next.length + 1) (y.next.length + 1) F ≤ T0
section
variable {x y : Dfa} {T0 : Nat} {ag : Bool} {F : Nat → Nat → Nat} {a b c : Nat}
theorem Pas.start (h : Ap x y F) : Pas x y (tot (x.next.length + 1) (y.next.length + 1) F) false F 0 0 0 :=
  ⟨h, (fun _ a' b' c' _ _ _ h => by omega), (fun e => by cases e), Nat.le_refl _⟩
theorem Pas.no (h : Pas x y T0 ag F a b c) (hc : Chk x y F a b c) : Pas x y T0 ag F a b (c + 1) := by
  refine ⟨h.ap, fun e a' b' c' h1 h2 h3 h4 => ?_, h.less, h.le⟩
  by_cases e1 : a' = a ∧ b' = b ∧ c' = c
  · obtain ⟨rfl, rfl, rfl⟩ := e1; exact hc
  · exact h.same e a' b' c' h1 h2 h3 (by omega)
theorem Pas.yes (hx : Right x) (hy : Right y) (h : Pas x y T0 ag F a b c) (ha : a ≤ x.next.length) (hb : b ≤ y.next.length) (hc : c < x.width) {v : Nat} (hv : v = F (nxA x a c) (nxA y b c) + 1) (hlt : v < F a b) : Pas x y T0 true (upd F a b v) a b (c + 1) := by
  have ht := tot_upd (n := x.next.length + 1) (m := y.next.length + 1) (F := F) (show a < x.next.length + 1 by omega) (show b < y.next.length + 1 by omega) hlt
  have := h.le
  exact ⟨h.ap.upd hx hy ha hb hc hv hlt, (fun e => by cases e), (fun _ => by omega), by omega⟩
theorem Pas.row (h : Pas x y T0 ag F a b x.width) : Pas x y T0 ag F a (b + 1) 0 := by
  refine ⟨h.ap, fun e a' b' c' h1 h2 h3 h4 => h.same e a' b' c' h1 h2 h3 (by omega), h.less, h.le⟩
theorem Pas.down (h : Pas x y T0 ag F a (y.next.length + 1) 0) : Pas x y T0 ag F (a + 1) 0 0 := by
  refine ⟨h.ap, fun e a' b' c' h1 h2 h3 h4 => h.same e a' b' c' h1 h2 h3 (by omega), h.less, h.le⟩
theorem Pas.fin (hx : Right x) (hy : Right y) (h : Pas x y T0 false F (x.next.length + 1) 0 0) : Bf.Far (stepP x y) x.width (badP x y) inf (farP x y F) :=
  h.ap.far hx hy fun a b c h1 h2 h3 => h.same rfl a b c h1 h2 h3 (by omega)
end
theorem greedy_dec {x y : Dfa} (hx : Right x) (hy : Right y) (F : Nat → Nat → Nat) (p : Int × Int) (u : List Nat) (h : Bf.Greedy (stepP x y) x.width (farP x y F) (dec2 x y (encN x p.1) (encN y p.2)) u) : Bf.Greedy (stepP x y) x.width (farP x y F) p u := by
  have e : farP x y F (dec2 x y (encN x p.1) (encN y p.2)) = farP x y F p := by
    unfold farP dec2
    rw [encN_dec (encN_le x p.1), encN_dec (encN_le y p.2)]
  cases h with
  | here h => exact .here (by rw [← e]; exact h)
  | there hc h1 h2 h3 =>
    rw [step_dec hx hy, e] at h1
    rw [step_dec hx hy] at h3
    exact .there hc h1 (fun c' hc' => by have := h2 c' hc'; rw [step_dec hx hy, e] at this; exact this) h3
def ApartPost (x y : Dfa) (w : World) (e : Ending) (w' : World) : Prop :=
  Below w.heap.size w w' ∧ ((∃ u a n cap, LeastW x y u ∧ e = .returned (.tuple #[.slice a n cap, .bool true]) ∧ Sl w' (.slice a n cap) (ints (List.map (fun (n : Nat) => (n : Int)) u))) ∨ ((∀ u, Bf.over x.width u → badP x y (Bf.run (stepP x y) (x.start, y.start) u) = true → inf ≤ u.length) ∧ e = .returned (.tuple #[.slice none 0 0, .bool false])))
end Df
end Go.Proofs.Ytenkhjmedolknaa
