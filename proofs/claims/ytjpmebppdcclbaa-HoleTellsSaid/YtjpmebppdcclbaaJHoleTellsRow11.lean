/- Plain: what has infinitely many trees has trees of many levels, and the other way round. What rank.numberer.tree and list answer. rank.numberer.tree. rank.numberer.list. rank.Tree. Plain: the two ways to count agree: by what leads to itself, and by the levels of trees. Plain: the numbers of a census are those by levels. Plain: least lengths. Plain: tables of least lengths. Plain: a value of a table of least lengths is set. Plain: the measure of the rounds of useful.lengths; a least value is found (parlref5.Shortest). The least lengths and words of useful are the values of Shortest. The words that useful.words finds, in plain Lean: the values of Shortest. The contract of grid, of whole numbers. What parlref5.heights.row keeps. parlref5.heights in memory. copy between slices of elements of several cells, into a block that is known whole. slices.Repeat of one number, few times. -/
import Derived.Test.YtjpmebppdcclbaaJHoleTellsRow10
import Derived.Test.YtjpmebppdcclbaaJHoleTellsRow9
import Derived.Test.YtjpmebppdcclbaaJHoleTellsRow1
import Derived.Test.YtjpmebppdcclbaaJHoleTellsRow3
import Derived.Test.YtjpmebppdcclbaaJHoleTellsRow2
import Derived.BigQuiet
import Derived.Test.YtjpmebppdcclbaaJHoleTellsRow5
import Derived.Deep.LoopGhost
import Derived.Deep.DeepCutAuto
import Derived.Test.YtjpmebppdcclbaaJHoleTellsRow4
import Derived.Laws.CopyRow
import Derived.Lib.Overlaps
import Derived.StillTailTactics
namespace Go.Proofs.Ytjpmebppdcclbaa
open Go.RowKit
namespace Cs
section
variable {rules : List Rule} {S : Nat → Nat → Bool} {N n : Nat}
variable (hclo : ∀ r ∈ rules, ∀ k, k ≤ n → canK S r.right k = true → S r.left.toNat k = true)
include hclo
end
end Cs
end Go.Proofs.Ytjpmebppdcclbaa
namespace Go.Proofs.Ytjpmebppdcclbaa
open Go.RowKit
namespace Cs
def SE (g : Gram) (S : Nat → Nat → Bool) (N n : Nat) : Sym → Nat → List Tree := symE S (EN g.rules S (sizeK N n))
def GdN (g : Gram) (S : Nat → Nat → Bool) (N n f : Nat) : Nat → Nat → Prop := Gd (MK g.rules S N n) (clK g.rules S N n) N n (sizeK N n) f
section
variable {g : Gram} {vr : Value} {N n : Nat} {d : Cid} {S : Nat → Nat → Bool} {w1 W W' w0 Wc w' : World}
theorem CntR.keepB {B : Nat} (h : CntR g vr N n d S w1 W) (hb : Below B W W') (hB : d.cb < B) : CntR g vr N n d S w1 W' := by
  obtain ⟨C, hc⟩ := h
  exact ⟨C, hc.keepB hb hB⟩
theorem CntR.rlt (h : CntR g vr N n d S w1 W) {B : Nat} (hB : d.cb < B) : ∀ a, a < N → d.rc a < B := by
  obtain ⟨C, hc⟩ := h
  exact hc.rlt hB
end
end Cs
end Go.Proofs.Ytjpmebppdcclbaa
namespace Go.Proofs.Ytjpmebppdcclbaa
open Go.RowKit
namespace Cs
end Cs
end Go.Proofs.Ytjpmebppdcclbaa
namespace Go.Proofs.Ytjpmebppdcclbaa
open Go.RowKit
namespace Cs
structure NxQ (g : Gram) (N n : Nat) (S : Nat → Nat → Bool) (w1 : World) (f : Nat) (l : List Sym) (ks : List Tree) (p k q y : Nat) (al : Option Addr) (cl : Nat) (t : Tree) : Prop where
  kn : k - q ≤ n
  fine : Fine S (GdN g S N n f) (l.drop (p + 1)) (k - q)
  at' : (enL S (SE g S N n) (l.drop (p + 1)) (k - q))[y]? = some (ks.drop (p + 1))
  lt : (enL S (SE g S N n) (l.drop (p + 1)) (k - q)).length < 1000000000
  rd : Rd AnyB w1 (.sl ((l.drop (p + 1)).map Sym.d)) [.slice al (l.length - (p + 1)) cl]
  tk : ks.take (p + 1) = ks.take p ++ [t]
  pk : p + 1 ≤ ks.length
section
variable {g : Gram} {vr : Value} {N n : Nat} {d : Cid} {S : Nat → Nat → Bool} {w1 : World} {f : Nat} {l : List Sym} {ks : List Tree} {w0 : World} {p k i q y : Nat} {al al' : Option Addr} {cl cl' : Nat} {vo : Value} {W W0 W1 : World} {t : Tree}
end
end Cs
end Go.Proofs.Ytjpmebppdcclbaa
namespace Go.Proofs.Ytjpmebppdcclbaa
open Go.RowKit
namespace Cs
end Cs
end Go.Proofs.Ytjpmebppdcclbaa
namespace Go.Proofs.Ytjpmebppdcclbaa
open Go.RowKit
namespace Cs
section
variable {g : Gram} {N n : Nat} {S : Nat → Nat → Bool}
end
end Cs
end Go.Proofs.Ytjpmebppdcclbaa
namespace Go.Proofs.Ytjpmebppdcclbaa
open Go.RowKit
namespace Cs
section
variable {g : Gram} {N n : Nat} {S : Nat → Nat → Bool}
end
end Cs
end Go.Proofs.Ytjpmebppdcclbaa
namespace Go.Proofs.Ytjpmebppdcclbaa
open Go.RowKit
namespace Cs
def Dv (rules : List Rule) (A k : Nat) : Prop := ∃ h, 0 < cnt rules h A k
def Ds (rules : List Rule) (s : Sym) (k : Nat) : Prop := if s.term then k = 1 else Dv rules s.n.toNat k
def Dl (rules : List Rule) : List Sym → Nat → Prop
  | [], k => k = 0
  | s :: l, k => ∃ i j, k = i + j ∧ Ds rules s i ∧ Dl rules l j
section
variable {rules : List Rule}
theorem oN_up {h h' k : Nat} (hh : h ≤ h') {s : Sym} : oN (cnt rules h) s k ≤ oN (cnt rules h') s k := oN_mono (fun A i => cnt_mono hh A i) s k
theorem dl_cN : ∀ (l : List Sym) (k : Nat), Dl rules l k → ∃ h, 0 < cN (oN (cnt rules h)) l k
  | [], k, hp => ⟨0, by rw [cN, if_pos (show k = 0 from hp)]; omega⟩
  | s :: l, k, ⟨i, j, e, h1, h2⟩ => by
    obtain ⟨h, hh⟩ := dl_cN l j h2
    have h3 : ∃ h', 0 < oN (cnt rules h') s i := by
      unfold Ds at h1
      unfold oN
      by_cases e : s.term = true
      · rw [if_pos e] at h1
        exact ⟨0, by rw [if_pos e, if_pos h1]; omega⟩
      · rw [if_neg e] at h1
        obtain ⟨h', hd⟩ := h1
        exact ⟨h', by rw [if_neg e]; exact hd⟩
    obtain ⟨h', hh'⟩ := h3
    refine ⟨max h h', ?_⟩
    rw [cN]
    refine sumN_pos_iff.2 ⟨i, by omega, ?_⟩
    have p1 := Nat.lt_of_lt_of_le hh' (oN_up (rules := rules) (k := i) (s := s) (Nat.le_max_right h h'))
    have p2 := Nat.lt_of_lt_of_le hh (cN_mono (fun s i => oN_up (rules := rules) (k := i) (s := s) (Nat.le_max_left h h')) l j)
    rw [show k - i = j by omega]
    exact Nat.mul_pos p1 p2
theorem cR_posI {o : Sym → Nat → Nat} {A : Int} {k : Nat} : ∀ rs : List Rule, 0 < cR o A k rs ↔ ∃ r ∈ rs, r.left = A ∧ 0 < cN o r.right k
  | [] => by simp [cR]
  | r :: rs => by
    rw [cR]
    have ih := cR_posI (o := o) (A := A) (k := k) rs
    constructor
    · intro h
      by_cases e : r.left = A ∧ 0 < cN o r.right k
      · exact ⟨r, List.mem_cons_self, e⟩
      · have : 0 < cR o A k rs := by
          by_cases e2 : r.left = A
          · rw [if_pos e2] at h
            have : ¬ 0 < cN o r.right k := fun h => e ⟨e2, h⟩
            omega
          · rw [if_neg e2] at h; omega
        obtain ⟨r', h1, h2⟩ := ih.1 this
        exact ⟨r', List.mem_cons_of_mem _ h1, h2⟩
    · rintro ⟨r', h1, h2, h3⟩
      rcases List.mem_cons.1 h1 with rfl | h1
      · rw [if_pos h2]; omega
      · have := ih.2 ⟨r', h1, h2, h3⟩
        omega
theorem dv_rule {r : Rule} (hr : r ∈ rules) {A k : Nat} (hl : r.left = (A : Int)) (h : Dl rules r.right k) : Dv rules A k := by
  obtain ⟨h', hp⟩ := dl_cN _ _ h
  exact ⟨h' + 1, by rw [cnt]; exact (cR_posI _).2 ⟨r, hr, hl, hp⟩⟩
end
end Cs
end Go.Proofs.Ytjpmebppdcclbaa
namespace Go.Proofs.Ytjpmebppdcclbaa
open Go.RowKit
namespace Cs
def stepV (X : Nat → Int) (acc : Int) (s : Sym) : Int := if 0 ≤ acc then (if s.term then acc + 1 else if 0 ≤ X s.n.toNat then acc + X s.n.toNat else -1) else -1
def sumV (X : Nat → Int) (l : List Sym) : Int := l.foldl (stepV X) 0
def SoundV (rules : List Rule) (X : Nat → Int) : Prop := ∀ A, -1 ≤ X A ∧ (0 ≤ X A → Dv rules A (X A).toNat)
def ClosedV (rules : List Rule) (X : Nat → Int) : Prop := ∀ r ∈ rules, 0 ≤ sumV X r.right → 0 ≤ X r.left.toNat ∧ X r.left.toNat ≤ sumV X r.right
def LeastV (rules : List Rule) (N : Nat) (X : Nat → Int) : Prop := ∀ A, A < N → -1 ≤ X A ∧ (0 ≤ X A → Dv rules A (X A).toNat) ∧ ∀ k, Dv rules A k → 0 ≤ X A ∧ X A ≤ (k : Int)
theorem stepV_snoc {X : Nat → Int} {l : List Sym} {s : Sym} : sumV X (l ++ [s]) = stepV X (sumV X l) s := by unfold sumV; rw [List.foldl_append]; rfl
section
variable {rules : List Rule} {X : Nat → Int}
theorem fold_neg : ∀ (l : List Sym) (a : Int), a < 0 → l.foldl (stepV X) a < 0
  | [], _, h => h
  | s :: l, a, h => by
    rw [List.foldl_cons]
    refine fold_neg l _ ?_
    unfold stepV
    rw [if_neg (by omega)]; omega
theorem fold_dl (hs : SoundV rules X) : ∀ (l : List Sym) (a : Int), 0 ≤ a → 0 ≤ l.foldl (stepV X) a → a ≤ l.foldl (stepV X) a ∧ Dl rules l (l.foldl (stepV X) a - a).toNat
  | [], a, _, _ => by
    rw [List.foldl_nil]
    exact ⟨Int.le_refl _, by show (a - a).toNat = 0; omega⟩
  | s :: l, a, ha, h => by
    rw [List.foldl_cons] at h ⊢
    by_cases hb : 0 ≤ stepV X a s
    · obtain ⟨h1, h2⟩ := fold_dl hs l _ hb h
      have hst : a ≤ stepV X a s ∧ Ds rules s (stepV X a s - a).toNat := by
        unfold stepV at hb ⊢
        unfold Ds
        rw [if_pos ha] at hb ⊢
        by_cases e : s.term = true
        · rw [if_pos e, if_pos e]; omega
        · rw [if_neg e] at hb
          rw [if_neg e, if_neg e]
          by_cases e2 : 0 ≤ X s.n.toNat
          · rw [if_pos e2]
            refine ⟨by omega, ?_⟩
            have := (hs s.n.toNat).2 e2
            rwa [show a + X s.n.toNat - a = X s.n.toNat by omega]
          · rw [if_neg e2] at hb; omega
      refine ⟨by omega, ?_⟩
      exact ⟨(stepV X a s - a).toNat, (l.foldl (stepV X) (stepV X a s) - stepV X a s).toNat, by omega, hst.2, h2⟩
    · have hn := fold_neg (X := X) l (stepV X a s) (by omega)
      omega
theorem sum_dl (hs : SoundV rules X) {l : List Sym} (h : 0 ≤ sumV X l) : Dl rules l (sumV X l).toNat := by
  have := (fold_dl hs l 0 (Int.le_refl _) h).2
  rwa [Int.sub_zero] at this
theorem fold_le {h : Nat} (hle : ∀ A k, 0 < cnt rules h A k → 0 ≤ X A ∧ X A ≤ (k : Int)) : ∀ (l : List Sym) (k : Nat) (a : Int), 0 ≤ a → 0 < cN (oN (cnt rules h)) l k → 0 ≤ l.foldl (stepV X) a ∧ l.foldl (stepV X) a ≤ a + k
  | [], k, a, ha, hp => by
    rw [List.foldl_nil]; omega
  | s :: l, k, a, ha, hp => by
    rw [cN] at hp
    obtain ⟨i, hi, hpi⟩ := sumN_pos_iff.1 hp
    have h1 : 0 < oN (cnt rules h) s i := Nat.pos_of_mul_pos_right hpi
    have h2 : 0 < cN (oN (cnt rules h)) l (k - i) := Nat.pos_of_mul_pos_left hpi
    have hst : 0 ≤ stepV X a s ∧ stepV X a s ≤ a + i := by
      unfold stepV
      unfold oN at h1
      rw [if_pos ha]
      by_cases e : s.term = true
      · rw [if_pos e] at h1 ⊢
        by_cases e2 : i = 1
        · omega
        · rw [if_neg e2] at h1; omega
      · rw [if_neg e] at h1 ⊢
        have := hle _ _ h1
        rw [if_pos this.1]; omega
    rw [List.foldl_cons]
    have := fold_le hle l (k - i) _ hst.1 h2
    omega
theorem closed_least (hs : SoundV rules X) (hl : ∀ r ∈ rules, 0 ≤ r.left) (hc : ClosedV rules X) (N : Nat) : LeastV rules N X := by
  have key : ∀ h A k, 0 < cnt rules h A k → 0 ≤ X A ∧ X A ≤ (k : Int) := by
    intro h
    induction h with
    | zero => intro A k hp; exact absurd hp (Nat.lt_irrefl _)
    | succ h ih =>
      intro A k hp
      rw [cnt] at hp
      obtain ⟨r, hr, he, h2⟩ := (cR_posI _).1 hp
      have h3 := fold_le ih r.right k 0 (Int.le_refl _) h2
      have h4 := hc r hr h3.1
      have : r.left.toNat = A := by rw [he]; simp
      rw [this] at h4
      have h5 : sumV X r.right ≤ 0 + k := h3.2
      omega
  intro A _
  exact ⟨(hs A).1, (hs A).2, fun k ⟨h, hp⟩ => key h A k hp⟩
end
end Cs
end Go.Proofs.Ytjpmebppdcclbaa
namespace Go.Proofs.Ytjpmebppdcclbaa
open Go.RowKit
namespace Cs
def setV (X : Nat → Int) (A : Nat) (v : Int) : Nat → Int := fun B => if B = A then v else X B
def nset (X : Nat → Int) (N : Nat) : Nat := sumN (fun A => if 0 ≤ X A then 1 else 0) N
def BdV (X : Nat → Int) (N : Nat) : Prop := (∀ A, X A ≤ ((4 ^ nset X N : Nat) : Int)) ∧ ∀ A, N ≤ A → X A = -1
section
variable {rules : List Rule} {X : Nat → Int} {N A : Nat} {v : Int}
theorem setV_sound (hs : SoundV rules X) (h0 : 0 ≤ v) (hd : Dv rules A v.toNat) : SoundV rules (setV X A v) := by
  intro B
  unfold setV
  by_cases e : B = A
  · subst e; rw [if_pos rfl]; exact ⟨by omega, fun _ => hd⟩
  · rw [if_neg e]; exact hs B
theorem nset_le : nset X N ≤ N := by
  unfold nset
  have h : ∀ n, sumN (fun A => if 0 ≤ X A then 1 else 0) n ≤ n := by
    intro n
    induction n with
    | zero => exact Nat.le_refl _
    | succ n ih =>
      show sumN _ n + (if 0 ≤ X n then 1 else 0) ≤ n + 1
      split <;> omega
  exact h N
theorem nset_set (hA : A < N) (h0 : 0 ≤ v) : nset X N ≤ nset (setV X A v) N ∧ (X A < 0 → nset X N + 1 ≤ nset (setV X A v) N) := by
  unfold nset
  have hle : ∀ i, i < N → (if 0 ≤ X i then 1 else 0) ≤ (if 0 ≤ setV X A v i then 1 else 0) := by
    intro i _
    unfold setV
    by_cases e : i = A
    · rw [if_pos e, if_pos h0]; split <;> omega
    · rw [if_neg e]; exact Nat.le_refl _
  refine ⟨sumN_le _ hle, fun hx => ?_⟩
  refine sumN_lt_iff hle |>.2 ⟨A, hA, ?_⟩
  rw [if_neg (by omega)]
  unfold setV
  rw [if_pos rfl, if_pos h0]; omega
theorem fold_bd {M : Int} (hM : 1 ≤ M) (hX : ∀ A, X A ≤ M) : ∀ (l : List Sym) (a : Int), l.foldl (stepV X) a ≤ (if 0 ≤ a then a else 0) + M * l.length
  | [], a => by
    rw [List.foldl_nil]
    split <;> simp <;> omega
  | s :: l, a => by
    rw [List.foldl_cons]
    have ih := fold_bd hM hX l (stepV X a s)
    have h2 : (if 0 ≤ stepV X a s then stepV X a s else 0) ≤ (if 0 ≤ a then a else 0) + M := by
      unfold stepV
      have := hX s.n.toNat
      repeat (any_goals split)
      all_goals omega
    have h3 : M * ((s :: l).length : Int) = M * l.length + M := by rw [List.length_cons]; push_cast; rw [Int.mul_add, Int.mul_one]
    rw [h3]
    omega
theorem bdV_set (hb : BdV X N) (hA : A < N) (h0 : 0 ≤ v) (hv : v < X A ∨ (X A < 0 ∧ v ≤ 4 * ((4 ^ nset X N : Nat) : Int))) : BdV (setV X A v) N := by
  obtain ⟨h1, h2⟩ := hb
  obtain ⟨n1, n2⟩ := nset_set (X := X) hA h0
  have hp : ((4 ^ nset X N : Nat) : Int) ≤ ((4 ^ nset (setV X A v) N : Nat) : Int) := by exact_mod_cast Nat.pow_le_pow_right (by decide) n1
  refine ⟨fun B => ?_, fun B hB => ?_⟩
  · unfold setV
    by_cases e : B = A
    · rw [if_pos e]
      rcases hv with hv | ⟨hx, hv⟩
      · have := h1 A
        unfold setV at hp
        omega
      · have h4 : 4 ^ (nset X N + 1) ≤ 4 ^ nset (setV X A v) N := Nat.pow_le_pow_right (by decide) (n2 hx)
        rw [Nat.pow_succ] at h4
        unfold setV at h4
        omega
    · rw [if_neg e]
      have := h1 B
      unfold setV at hp
      omega
  · unfold setV
    rw [if_neg (by omega)]; exact h2 B hB
end
end Cs
end Go.Proofs.Ytjpmebppdcclbaa
namespace Go.Proofs.Ytjpmebppdcclbaa
open Go.RowKit
namespace Cs
def muV (X : Nat → Int) (N : Nat) : Nat := sumN (fun A => if 0 ≤ X A then (X A).toNat else 2000000) N
section
variable {rules : List Rule} {X : Nat → Int} {N A : Nat} {v : Int}
theorem pow10 {m : Nat} (h : m ≤ 10) : 4 ^ m ≤ 1048576 := Nat.le_trans (Nat.pow_le_pow_right (by decide) h) (by decide)
theorem BdV.le (hb : BdV X N) (hN : N ≤ 10) (A : Nat) : X A ≤ 1048576 := by
  have h1 := hb.1 A
  have h2 := pow10 (m := nset X N) (Nat.le_trans nset_le hN)
  omega
theorem foldV_ge : ∀ (l : List Sym) (a : Int), -1 ≤ a → -1 ≤ l.foldl (stepV X) a
  | [], _, h => h
  | s :: l, a, h => by
    rw [List.foldl_cons]
    refine foldV_ge l _ ?_
    unfold stepV
    repeat (any_goals split)
    all_goals omega
theorem sum_ge (l : List Sym) : -1 ≤ sumV X l := foldV_ge l 0 (by omega)
theorem sum_bd (hb : BdV X N) {l : List Sym} (hl : l.length ≤ 4) : sumV X l ≤ 4 * ((4 ^ nset X N : Nat) : Int) := by
  have h1 : 1 ≤ 4 ^ nset X N := Nat.one_le_pow _ _ (by decide)
  have h2 := fold_bd (X := X) (M := ((4 ^ nset X N : Nat) : Int)) (by omega) hb.1 l 0
  unfold sumV
  have h3 : ((4 ^ nset X N : Nat) : Int) * (l.length : Int) ≤ ((4 ^ nset X N : Nat) : Int) * 4 := Int.mul_le_mul_of_nonneg_left (by omega) (by omega)
  have h4 : (if (0 : Int) ≤ 0 then (0 : Int) else 0) = 0 := rfl
  rw [h4] at h2
  omega
theorem sum_le (hb : BdV X N) (hN : N ≤ 10) {l : List Sym} (hl : l.length ≤ 4) : sumV X l ≤ 4194304 := by
  have h1 := sum_bd hb hl
  have h2 := pow10 (m := nset X N) (Nat.le_trans nset_le hN)
  omega
theorem mu_set (hN : N ≤ 10) (hA : A < N) (h0 : 0 ≤ v) (hv : v < X A ∨ (X A < 0 ∧ v ≤ 4 * ((4 ^ nset X N : Nat) : Int))) : muV (setV X A v) N < muV X N := by
  have hv2 : X A < 0 → v ≤ 1048576 := by
    intro hx
    have h1 := (nset_set (X := X) (N := N) hA h0).2 hx
    have h2 : nset (setV X A v) N ≤ N := nset_le
    have h3 := pow10 (m := nset X N + 1) (by omega)
    rw [Nat.pow_succ] at h3
    omega
  unfold muV
  have hs : ∀ i, i < N → (if 0 ≤ setV X A v i then (setV X A v i).toNat else 2000000) ≤ (if 0 ≤ X i then (X i).toNat else 2000000) := by
    intro i _
    unfold setV
    by_cases e : i = A
    · subst e
      rw [if_pos rfl, if_pos h0]
      by_cases hx : 0 ≤ X i
      · rw [if_pos hx]; omega
      · rw [if_neg hx]; have := hv2 (by omega); omega
    · rw [if_neg e]; exact Nat.le_refl _
  refine (sumN_lt_iff hs).2 ⟨A, hA, ?_⟩
  unfold setV
  rw [if_pos rfl, if_pos h0]
  by_cases hx : 0 ≤ X A
  · rw [if_pos hx]; omega
  · rw [if_neg hx]; have := hv2 (by omega); omega
theorem sound_start : SoundV rules (fun _ => -1) := fun _ => ⟨Int.le_refl _, fun h => absurd h (by show ¬ (0 : Int) ≤ -1; omega)⟩
theorem bd_start : BdV (fun _ => -1) N := ⟨fun _ => by show (-1 : Int) ≤ _; have : (0 : Int) ≤ ((4 ^ nset (fun _ => -1) N : Nat) : Int) := Int.natCast_nonneg _; omega, fun _ _ => rfl⟩
end
end Cs
end Go.Proofs.Ytjpmebppdcclbaa
namespace Go.Proofs.Ytjpmebppdcclbaa
namespace Hl
open Rp
structure LeastX (K : List Rule) (N : Nat) (X : Nat → Int) : Prop where
  ge : ∀ A, A < N → -1 ≤ X A
  ex : ∀ A, A < N → 0 ≤ X A → ∃ v, DrG leafS emS 0 K ⟨false, (A : Int)⟩ 0 0 v ∧ (v.n : Int) = X A
  le : ∀ (A : Nat) v, A < N → DrG leafS emS 0 K ⟨false, (A : Int)⟩ 0 0 v → 0 ≤ X A ∧ X A ≤ (v.n : Int)
theorem clL_S {s : Sym} {v : Val} : clL leafS 0 s 0 0 = some v ↔ s.term = true ∧ v = ⟨0, 1, [s.n]⟩ := by
  unfold clL leafS
  rw [if_pos ⟨Nat.le_refl _, Nat.le_refl _⟩]
  cases s.term with
  | true => simp [eq_comm]
  | false => simp
section
variable {K : List Rule} {N tm : Nat}
theorem dr_term {h : Nat} {s : Sym} (ht : s.term = true) {v : Val} (hd : Dr K (clL leafS 0) (clE emS 0) h s 0 0 v) : v = ⟨0, 1, [s.n]⟩ := by
  cases h with
  | zero => exact (clL_S.1 hd).2
  | succ h =>
    rcases hd with hd | ⟨h1, _⟩
    · exact (clL_S.1 hd).2
    · rw [ht] at h1; cases h1
theorem dr_bnd {leaf : Sym → Nat → Nat → Option Val} {em : Nat → Nat → Option Val} {n : Nat} {K : List Rule} : ∀ (h : Nat) {s : Sym} {i j : Nat} {v : Val}, Dr K (clL leaf n) (clE em n) h s i j v → i ≤ j ∧ j ≤ n := by
  have hl : ∀ {s i j v}, clL leaf n s i j = some v → i ≤ j ∧ j ≤ n := by
    intro s i j v e
    unfold clL at e
    split at e
    · rename_i h; exact h
    · cases e
  have he : ∀ {i j v}, clE em n i j = some v → i ≤ j ∧ j ≤ n := by
    intro i j v e
    unfold clE at e
    split at e
    · rename_i h; exact h
    · cases e
  have hr : ∀ {P : Sym → Nat → Nat → Val → Prop} {l : List Sym}, (∀ s i j v, P s i j v → i ≤ j ∧ j ≤ n) → ∀ {i j v}, Row P l i j v → i ≤ j ∧ j ≤ n := by
    intro P l hP
    induction l with
    | nil => intro i j v h; exact h.elim
    | cons s l ih =>
      intro i j v h
      cases l with
      | nil => exact hP _ _ _ _ h
      | cons t l =>
        obtain ⟨m, a, b, h1, h2, h3, h4, _⟩ := h
        exact ⟨by omega, (ih h4).2⟩
  intro h
  induction h with
  | zero => intro s i j v hd; exact hl hd
  | succ h ih =>
    intro s i j v hd
    rcases hd with hd | ⟨_, r, _, _, ⟨_, hd⟩ | hd⟩
    · exact hl hd
    · exact he hd
    · exact hr (fun s i j v hp => ih hp) hd
theorem row0_of {h : Nat} {l : List Sym} {v : Val} (hw : ∀ s i j v, Dr K (clL leafS 0) (clE emS 0) h s i j v → Wf v) (hne : l ≠ []) : Row (Dr K (clL leafS 0) (clE emS 0) h) l 0 0 v ↔ Row0 (Dr K (clL leafS 0) (clE emS 0) h) l 0 0 v :=
  row_row0 (fun s i j v hp => ⟨(dr_bnd h hp).1, hw s i j v hp⟩) hne
theorem dr_wf : ∀ (h : Nat) (s : Sym) (i j : Nat) (v : Val), Dr K (clL leafS 0) (clE emS 0) h s i j v → Wf v ∧ v.c = 0 := by
  have hl : ∀ {s i j v}, clL leafS 0 s i j = some v → Wf v ∧ v.c = 0 := by
    intro s i j v e
    unfold clL at e
    split at e
    · unfold leafS at e
      split at e
      · cases e; exact ⟨.inl ⟨by simp [maxL], rfl⟩, rfl⟩
      · cases e
    · cases e
  have he : ∀ {i j v}, clE emS 0 i j = some v → Wf v ∧ v.c = 0 := by
    intro i j v e
    unfold clE at e
    split at e
    · cases e; exact ⟨wf_zero, rfl⟩
    · cases e
  have hr : ∀ {P : Sym → Nat → Nat → Val → Prop} {l : List Sym}, (∀ s i j v, P s i j v → Wf v ∧ v.c = 0) → ∀ {i j v}, Row P l i j v → Wf v ∧ v.c = 0 := by
    intro P l hP
    induction l with
    | nil => intro i j v h; exact h.elim
    | cons s l ih =>
      intro i j v h
      cases l with
      | nil => exact hP _ _ _ _ h
      | cons t l =>
        obtain ⟨m, a, b, h1, h2, h3, h4, rfl⟩ := h
        obtain ⟨q1, q2⟩ := hP _ _ _ _ h3
        obtain ⟨q3, q4⟩ := ih h4
        exact ⟨wf_thn q1 q3, by show a.c + b.c = 0; omega⟩
  intro h
  induction h with
  | zero => intro s i j v hd; exact hl hd
  | succ h ih =>
    intro s i j v hd
    rcases hd with hd | ⟨_, r, _, _, ⟨_, hd⟩ | hd⟩
    · exact hl hd
    · exact he hd
    · exact hr (fun s i j v hp => ih s i j v hp) hd
theorem dr_rule {h : Nat} {r : Rule} (hr : r ∈ K) {v : Val} (hv : Row0 (Dr K (clL leafS 0) (clE emS 0) h) r.right 0 0 v) : Dr K (clL leafS 0) (clE emS 0) (h + 1) ⟨false, r.left⟩ 0 0 v := by
  by_cases hre : r.right = []
  · rw [hre] at hv
    obtain ⟨_, rfl⟩ := hv
    exact .inr ⟨rfl, r, hr, rfl, .inl ⟨hre, by unfold clE; rw [if_pos ⟨Nat.le_refl _, Nat.le_refl _⟩]; rfl⟩⟩
  · exact .inr ⟨rfl, r, hr, rfl, .inr ((row0_of (fun s i j v hp => (dr_wf h s i j v hp).1) hre).2 hv)⟩
theorem dr_inv {h : Nat} {A : Int} {v : Val} (hd : Dr K (clL leafS 0) (clE emS 0) (h + 1) ⟨false, A⟩ 0 0 v) : ∃ r ∈ K, r.left = A ∧ Row0 (Dr K (clL leafS 0) (clE emS 0) h) r.right 0 0 v := by
  rcases hd with hd | ⟨_, r, hr, hl, ⟨hre, hd⟩ | hd⟩
  · exact absurd (clL_S.1 hd).1 (by simp)
  · refine ⟨r, hr, hl, ?_⟩
    unfold clE at hd
    rw [if_pos ⟨Nat.le_refl _, Nat.le_refl _⟩] at hd
    cases hd
    rw [hre]; exact ⟨rfl, rfl⟩
  · refine ⟨r, hr, hl, ?_⟩
    by_cases hre : r.right = []
    · rw [hre] at hd; exact hd.elim
    · exact (row0_of (fun s i j v hp => (dr_wf h s i j v hp).1) hre).1 hd
theorem row_cn {h : Nat} (ih : ∀ (s : Sym) (k : Nat), 0 < Cs.oN (Cs.cnt K h) s k → (s.term = false → 0 ≤ s.n) → ∃ h' v, Dr K (clL leafS 0) (clE emS 0) h' s 0 0 v ∧ v.n = k) : ∀ (l : List Sym) (k : Nat), (∀ s ∈ l, s.term = false → 0 ≤ s.n) → 0 < Cs.cN (Cs.oN (Cs.cnt K h)) l k → ∃ h' v, Row0 (Dr K (clL leafS 0) (clE emS 0) h') l 0 0 v ∧ v.n = k
  | [], k, _, hp => by
    rw [Cs.cN] at hp
    by_cases e : k = 0
    · exact ⟨0, zero, ⟨rfl, rfl⟩, e.symm⟩
    · rw [if_neg e] at hp; omega
  | s :: l, k, hs, hp => by
    rw [Cs.cN] at hp
    obtain ⟨i, hi, hpi⟩ := Cs.sumN_pos_iff.1 hp
    obtain ⟨h1, a, ha, ea⟩ := ih s i (Nat.pos_of_mul_pos_right hpi) (hs s (by simp))
    obtain ⟨h2, b, hb, eb⟩ := row_cn ih l (k - i) (fun s hs' => hs s (by simp [hs'])) (Nat.pos_of_mul_pos_left hpi)
    refine ⟨max h1 h2, thn a b, ⟨0, a, b, Nat.le_refl _, Nat.le_refl _, dr_le (Nat.le_max_left _ _) ha, ?_, rfl⟩, by show a.n + b.n = k; omega⟩
    have : ∀ {l : List Sym} {i j : Nat} {v : Val}, Row0 (Dr K (clL leafS 0) (clE emS 0) h2) l i j v → Row0 (Dr K (clL leafS 0) (clE emS 0) (max h1 h2)) l i j v := by
      intro l
      induction l with
      | nil => intro i j v h; exact h
      | cons s l ih =>
        intro i j v h
        obtain ⟨m, a, b, q1, q2, q3, q4, q5⟩ := h
        exact ⟨m, a, b, q1, q2, dr_le (Nat.le_max_right _ _) q3, ih q4, q5⟩
    exact this hb
theorem cnt_dr (hK : ∀ r ∈ K, ∀ s ∈ r.right, s.term = false → 0 ≤ s.n) : ∀ (h A k : Nat), 0 < Cs.cnt K h A k → ∃ h' v, Dr K (clL leafS 0) (clE emS 0) h' ⟨false, (A : Int)⟩ 0 0 v ∧ v.n = k := by
  intro h
  induction h with
  | zero => intro A k hp; exact absurd hp (Nat.lt_irrefl _)
  | succ h ih =>
    intro A k hp
    rw [Cs.cnt] at hp
    obtain ⟨r, hr, hl, hc⟩ := (Cs.cR_posI _).1 hp
    obtain ⟨h', v, hv, e⟩ := row_cn (h := h) (fun s k hp hs => by
      unfold Cs.oN at hp
      by_cases ht : s.term = true
      · rw [if_pos ht] at hp
        by_cases e : k = 1
        · exact ⟨0, ⟨0, 1, [s.n]⟩, clL_S.2 ⟨ht, rfl⟩, e.symm⟩
        · rw [if_neg e] at hp; omega
      · rw [if_neg ht] at hp
        have ht' : s.term = false := by simpa using ht
        have := ih _ _ hp
        rw [show ((s.n.toNat : Nat) : Int) = s.n by have := hs ht'; omega] at this
        have es : s = ⟨false, s.n⟩ := by obtain ⟨a, b⟩ := s; simp at ht'; rw [ht']
        rw [es]; exact this) r.right k (hK r hr) hc
    exact ⟨h' + 1, v, by rw [← hl]; exact dr_rule hr hv, e⟩
theorem dr_row {h : Nat} (ih : ∀ (s : Sym) v, Dr K (clL leafS 0) (clE emS 0) h s 0 0 v → (s.term = false → 0 ≤ s.n) → 0 < Cs.oN (Cs.cnt K h) s v.n) : ∀ (l : List Sym) (v : Val), (∀ s ∈ l, s.term = false → 0 ≤ s.n) → Row0 (Dr K (clL leafS 0) (clE emS 0) h) l 0 0 v → 0 < Cs.cN (Cs.oN (Cs.cnt K h)) l v.n
  | [], v, _, hv => by
    obtain ⟨_, rfl⟩ := hv
    rw [Cs.cN]; show 0 < if (0 : Nat) = 0 then 1 else 0; simp
  | s :: l, v, hs, hv => by
    obtain ⟨m, a, b, h1, h2, h3, h4, rfl⟩ := hv
    obtain rfl : m = 0 := by omega
    have q1 := ih s a h3 (hs s (by simp))
    have q2 := dr_row ih l b (fun s hs' => hs s (by simp [hs'])) h4
    rw [Cs.cN]
    refine Cs.sumN_pos_iff.2 ⟨a.n, by show a.n < a.n + b.n + 1; omega, ?_⟩
    rw [show (thn a b).n - a.n = b.n by show a.n + b.n - a.n = b.n; omega]
    exact Nat.mul_pos q1 q2
theorem dr_cnt (hK : ∀ r ∈ K, ∀ s ∈ r.right, s.term = false → 0 ≤ s.n) : ∀ (h A : Nat) (v : Val), Dr K (clL leafS 0) (clE emS 0) h ⟨false, (A : Int)⟩ 0 0 v → 0 < Cs.cnt K h A v.n := by
  intro h
  induction h with
  | zero => intro A v hd; exact absurd (clL_S.1 hd).1 (by simp)
  | succ h ih =>
    intro A v hd
    obtain ⟨r, hr, hl, hv⟩ := dr_inv hd
    rw [Cs.cnt]
    refine (Cs.cR_posI _).2 ⟨r, hr, hl, dr_row (fun s v hd hs => ?_) r.right v (hK r hr) hv⟩
    unfold Cs.oN
    by_cases ht : s.term = true
    · rw [if_pos ht, dr_term ht hd]; show 0 < if (1 : Nat) = 1 then 1 else 0; simp
    · rw [if_neg ht]
      have ht' : s.term = false := by simpa using ht
      refine ih s.n.toNat v ?_
      rw [show ((s.n.toNat : Nat) : Int) = s.n by have := hs ht'; omega]
      have es : s = ⟨false, s.n⟩ := by obtain ⟨a, b⟩ := s; simp at ht'; rw [ht']
      rw [← es]; exact hd
theorem leastX (hK : KG N K (okS N tm)) {X : Nat → Int} (h : Cs.LeastV K N X) : LeastX K N X := by
  have hK' : ∀ r ∈ K, ∀ s ∈ r.right, s.term = false → 0 ≤ s.n := fun r hr s hs _ => ((hK r hr).2.2 s hs).1
  refine ⟨fun A hA => (h A hA).1, fun A hA h0 => ?_, fun A v hA hd => ?_⟩
  · obtain ⟨k, hk⟩ := (h A hA).2.1 h0
    obtain ⟨h', v, hv, e⟩ := cnt_dr hK' _ _ _ hk
    exact ⟨v, ⟨h', hv⟩, by omega⟩
  · obtain ⟨k, hk⟩ := hd
    exact (h A hA).2.2 v.n ⟨k, dr_cnt hK' k A v hk⟩
end
end Hl
end Go.Proofs.Ytjpmebppdcclbaa
namespace Go.Proofs.Ytjpmebppdcclbaa
namespace Hl
open Rp
def tv (w : List Int) : Val := ⟨0, w.length, w⟩
def symW (Tw : Nat → Option (List Int)) (s : Sym) : Option (List Int) := if s.term then some [s.n] else Tw s.n.toNat
def stepW (Tw : Nat → Option (List Int)) (lim : Nat) (o : Option (List Int)) (s : Sym) : Option (List Int) :=
  match o with
  | none => none
  | some w => match symW Tw s with
    | none => none
    | some u => if (w ++ u).length ≤ lim then some (w ++ u) else none
def foldW (Tw : Nat → Option (List Int)) (lim : Nat) (l : List Sym) (o : Option (List Int)) : Option (List Int) := l.foldl (stepW Tw lim) o
def rwW (X : Nat → Int) (Tw : Nat → Option (List Int)) (r : Rule) : Option (List Int) := if 0 ≤ X r.left.toNat ∧ X r.left.toNat ≤ 2000 then foldW Tw (X r.left.toNat).toNat r.right (some []) else none
def betW (X : Nat → Int) (Tw : Nat → Option (List Int)) (r : Rule) : Bool := lessB ((rwW X Tw r).map tv) ((Tw r.left.toNat).map tv)
def updW (Tw : Nat → Option (List Int)) (a : Nat) (w : List Int) : Nat → Option (List Int) := fun b => if b = a then some w else Tw b
def WInv (K : List Rule) (N tm : Nat) (X : Nat → Int) (Tw : Nat → Option (List Int)) : Prop :=
  ∀ A w, Tw A = some w → A < N ∧ X A = (w.length : Int) ∧ w.length ≤ 2000 ∧ ltrs tm (tv w) ∧ DrG leafS emS 0 K ⟨false, (A : Int)⟩ 0 0 (tv w)
def ClosedW (K : List Rule) (X : Nat → Int) (Tw : Nat → Option (List Int)) : Prop := ∀ r ∈ K, betW X Tw r = false
theorem foldW_none (Tw : Nat → Option (List Int)) (lim : Nat) : ∀ l, foldW Tw lim l none = none
  | [] => rfl
  | _ :: l => foldW_none Tw lim l
theorem foldW_snoc (Tw : Nat → Option (List Int)) (lim : Nat) (l : List Sym) (s : Sym) (o : Option (List Int)) : foldW Tw lim (l ++ [s]) o = stepW Tw lim (foldW Tw lim l o) s := by
  unfold foldW; rw [List.foldl_append]; rfl
theorem wf_tv {w : List Int} (h : w.length ≤ 2000) : Wf (tv w) := .inl ⟨h, rfl⟩
def VW (Tw : Nat → Option (List Int)) (s : Sym) (i j : Nat) : Option Val := if s.term then leafS s i j else if 0 ≤ s.n then (Tw s.n.toNat).map tv else none
section
variable {K : List Rule} {N tm lim : Nat} {X : Nat → Int} {Tw : Nat → Option (List Int)}
theorem vw_sym {s : Sym} (hs : okS N tm s) : VW Tw s 0 0 = (symW Tw s).map tv := by
  unfold VW symW
  by_cases ht : s.term = true
  · rw [if_pos ht, if_pos ht]; unfold leafS; rw [if_pos ht]; rfl
  · rw [if_neg ht, if_neg ht, if_pos hs.1]
theorem vw_vo (hW : WInv K N tm X Tw) : VO leafS emS 0 K (okS N tm) (GS tm) (VW Tw) := by
  have key : ∀ s i j v, VW Tw s i j = some v → (Wf v ∧ v.c = 0) ∧ ((i = 0 ∧ j = 0) → DrG leafS emS 0 K s i j v) ∧ (okS N tm s → ltrs tm v) := by
    intro s i j v e
    unfold VW at e
    by_cases ht : s.term = true
    · rw [if_pos ht] at e
      have e2 := e
      unfold leafS at e
      rw [if_pos ht] at e
      cases e
      refine ⟨⟨.inl ⟨by simp [maxL], rfl⟩, rfl⟩, fun ⟨h1, h2⟩ => ⟨0, ?_⟩, fun hs t h => ?_⟩
      · show clL leafS 0 s i j = _
        unfold clL
        rw [if_pos ⟨by omega, by omega⟩]; exact e2
      · simp at h
        subst h
        exact ⟨hs.1, hs.2.1 ht⟩
    · rw [if_neg ht] at e
      split at e
      · rename_i h0
        cases e3 : Tw s.n.toNat with
        | none => rw [e3] at e; cases e
        | some w =>
          rw [e3] at e
          cases e
          obtain ⟨q1, q2, q3, q4, q5⟩ := hW _ _ e3
          have es : s = ⟨false, (s.n.toNat : Int)⟩ := by
            obtain ⟨a, b⟩ := s
            simp at ht h0
            simp only [ht, Sym.mk.injEq, true_and]
            omega
          refine ⟨⟨wf_tv q3, rfl⟩, fun ⟨h1, h2⟩ => ?_, fun _ => q4⟩
          rw [h1, h2]
          rw [es]; exact q5
      · cases e
  refine ⟨fun s i j v e => (key s i j v e).1.1, fun s i j v h1 h2 e => ⟨(key s i j v e).2.1 (by omega), fun hs => ⟨(key s i j v e).1.1, (key s i j v e).1.2, (key s i j v e).2.2 hs⟩⟩⟩
theorem dr_of_row0 (hK : KG N K (okS N tm)) {V : Sym → Nat → Nat → Option Val} (hV : VO leafS emS 0 K (okS N tm) (GS tm) V) {r : Rule} (hr : r ∈ K) {v : Val} (h : Row0 (VP V 0) r.right 0 0 v) : GS tm v 0 0 ∧ DrG leafS emS 0 K ⟨false, r.left⟩ 0 0 v := by
  refine ⟨(good_row0 (gokS N tm) (Nat.le_refl 0) (fun s hs i j v h1 h2 h3 => (hV.2 s i j v h1 h2 h3).2 ((hK r hr).2.2 s hs)) h).2, ?_⟩
  by_cases hre : r.right = []
  · rw [hre] at h
    obtain ⟨_, rfl⟩ := h
    exact ⟨1, .inr ⟨rfl, r, hr, rfl, .inl ⟨hre, by unfold clE; rw [if_pos ⟨Nat.le_refl _, Nat.le_refl _⟩]; rfl⟩⟩⟩
  · have h2 := (row_row0 (vp_ok (fun s i j _ _ => hV.1 s i j)) hre).2 h
    have h3 : Row (fun s i j v => ∃ k, Dr K (clL leafS 0) (clE emS 0) k s i j v) r.right 0 0 v := row_mem (fun s hs i j v hp => (hV.2 s i j v hp.1 hp.2.1 hp.2.2).1) h2
    obtain ⟨k, hk⟩ := row_ex h3
    exact ⟨k + 1, .inr ⟨rfl, r, hr, rfl, .inr hk⟩⟩
theorem fold_row (hlim : lim ≤ 2000) : ∀ (l : List Sym) (w0 w : List Int), (∀ s ∈ l, okS N tm s) → w0.length ≤ lim → foldW Tw lim l (some w0) = some w → ∃ u, w = w0 ++ u ∧ w.length ≤ lim ∧ Row0 (VP (VW Tw) 0) l 0 0 (tv u)
  | [], w0, w, _, h0, e => by
    cases e
    exact ⟨[], by simp, h0, rfl, rfl⟩
  | s :: l, w0, w, hs, h0, e => by
    have e' : foldW Tw lim l (stepW Tw lim (some w0) s) = some w := e
    unfold stepW at e'
    cases ex : symW Tw s with
    | none => rw [ex] at e'; simp only at e'; rw [foldW_none] at e'; cases e'
    | some x =>
      rw [ex] at e'
      simp only at e'
      by_cases hl : (w0 ++ x).length ≤ lim
      · rw [if_pos hl] at e'
        obtain ⟨u, h1, h2, h3⟩ := fold_row hlim l (w0 ++ x) w (fun s hs' => hs s (by simp [hs'])) hl e'
        refine ⟨x ++ u, by rw [h1, List.append_assoc], h2, 0, tv x, tv u, Nat.le_refl _, Nat.le_refl _, ⟨Nat.le_refl _, Nat.le_refl _, ?_⟩, h3, ?_⟩
        · rw [vw_sym (hs s (by simp)), ex]; rfl
        · have hn : x.length + u.length ≤ 2000 := by rw [h1] at h2; simp at h2; omega
          unfold tv thn
          simp only [Val.mk.injEq]
          refine ⟨trivial, by simp, ?_⟩
          rw [if_pos (show x.length + u.length ≤ maxL from hn)]
      · rw [if_neg hl, foldW_none] at e'; cases e'
theorem row_fold (hlim : lim ≤ 2000) : ∀ (l : List Sym) (w0 : List Int) (v : Val), (∀ s ∈ l, okS N tm s) → Row0 (VP (VW Tw) 0) l 0 0 v → w0.length + v.n ≤ lim → foldW Tw lim l (some w0) = some (w0 ++ v.w)
  | [], w0, v, _, h, _ => by
    obtain ⟨_, rfl⟩ := h
    show some w0 = some (w0 ++ [])
    simp
  | s :: l, w0, v, hs, ⟨m, a, b, h1, h2, h3, h4, e⟩, hl => by
    subst e
    obtain rfl : m = 0 := by omega
    have hsv := h3.2.2
    rw [vw_sym (hs s (by simp))] at hsv
    cases ex : symW Tw s with
    | none => rw [ex] at hsv; cases hsv
    | some x =>
      rw [ex] at hsv
      have ea : tv x = a := by simpa using hsv
      subst ea
      have hl' : w0.length + (x.length + b.n) ≤ lim := hl
      show foldW Tw lim l (stepW Tw lim (some w0) s) = _
      unfold stepW
      rw [ex]
      simp only
      rw [if_pos (by simp; omega), row_fold hlim l (w0 ++ x) b (fun s hs' => hs s (by simp [hs'])) h4 (by simp; omega)]
      have hn : (tv x).n + b.n ≤ 2000 := by show x.length + b.n ≤ 2000; omega
      rw [thn_w, if_pos hn]
      show some (w0 ++ x ++ b.w) = some (w0 ++ (x ++ b.w))
      rw [List.append_assoc]
theorem rw_good (hK : KG N K (okS N tm)) (hW : WInv K N tm X Tw) {r : Rule} (hr : r ∈ K) {w : List Int} (e : rwW X Tw r = some w) : (w.length : Int) ≤ X r.left.toNat ∧ w.length ≤ 2000 ∧ ltrs tm (tv w) ∧ DrG leafS emS 0 K ⟨false, r.left⟩ 0 0 (tv w) := by
  unfold rwW at e
  split at e
  · rename_i h
    obtain ⟨u, h1, h2, h3⟩ := fold_row (N := N) (tm := tm) (by omega) r.right [] w (hK r hr).2.2 (by simp) e
    simp at h1
    subst h1
    obtain ⟨h4, h5⟩ := dr_of_row0 hK (vw_vo hW) hr h3
    exact ⟨by omega, by omega, h4.2.2, h5⟩
  · cases e
theorem w_upd (hK : KG N K (okS N tm)) (hL : LeastX K N X) (hW : WInv K N tm X Tw) {r : Rule} (hr : r ∈ K) {w : List Int} (e : rwW X Tw r = some w) : WInv K N tm X (updW Tw r.left.toNat w) := by
  intro A u eu
  unfold updW at eu
  split at eu
  · rename_i ea
    cases eu
    obtain ⟨h1, h2, h3, h4⟩ := rw_good hK hW hr e
    obtain ⟨q1, q2, _⟩ := hK r hr
    have el : ((r.left.toNat : Nat) : Int) = r.left := by omega
    have h5 := hL.le r.left.toNat (tv w) (by omega) (by rw [el]; exact h4)
    have h6 : X r.left.toNat ≤ (w.length : Int) := h5.2
    rw [ea]
    refine ⟨by omega, by omega, h2, h3, ?_⟩
    rw [el]; exact h4
  · exact hW A u eu
theorem w_none : WInv K N tm X (fun _ => none) := fun A w e => by cases e
noncomputable def muW (tm N : Nat) (Tw : Nat → Option (List Int)) : Nat := ((List.range N).map fun a => rank (valsU tm 0 2000) ((Tw a).map tv)).sum
theorem muW_lt {a : Nat} (ha : a < N) {w : List Int} (hl : w.length ≤ 2000) (hx : ltrs tm (tv w)) (hW : WInv K N tm X Tw) (hb : lessB (some (tv w)) ((Tw a).map tv) = true) : muW tm N (updW Tw a w) < muW tm N Tw := by
  have hr := rank_lt (U := valsU tm 0 2000) (v := tv w) (o := (Tw a).map tv) (mem_valsU (Nat.le_refl _) hl (wf_tv hl) hx) (wf_tv hl) (fun v e => by
    cases e2 : Tw a with
    | none => rw [e2] at e; cases e
    | some u => rw [e2] at e; cases e; exact wf_tv (hW a u e2).2.2.1) hb
  unfold muW
  refine sum_lt _ _ _ (fun p => ?_) ⟨a, by simpa using ha, ?_⟩
  · unfold updW
    by_cases e : p = a
    · rw [if_pos e, e]; exact Nat.le_of_lt hr
    · rw [if_neg e]; exact Nat.le_refl _
  · unfold updW
    rw [if_pos rfl]; exact hr
/-! what is left at the end -/
def xs (X : Nat → Int) (s : Sym) : Nat := if s.term then 1 else (X s.n.toNat).toNat
def XL (X : Nat → Int) : List Sym → Nat
  | [] => 0
  | s :: l => xs X s + XL X l
theorem sz_ge (hL : LeastX K N X) {h : Nat} {s : Sym} (hs : okS N tm s) {v : Val} (hd : Dr K (clL leafS 0) (clE emS 0) h s 0 0 v) : (s.term = false → 0 ≤ X s.n.toNat) ∧ xs X s ≤ v.n := by
  unfold xs
  by_cases ht : s.term = true
  · rw [if_pos ht, dr_term ht hd]
    exact ⟨(fun e => by rw [ht] at e; cases e), Nat.le_refl _⟩
  · rw [if_neg ht]
    have ht' : s.term = false := by simpa using ht
    have h1 := hs.2.2 ht'
    have h0 := hs.1
    have es : s = ⟨false, (s.n.toNat : Int)⟩ := by
      obtain ⟨a, b⟩ := s
      simp at ht' h0
      simp only [ht', Sym.mk.injEq, true_and]
      omega
    have := hL.le s.n.toNat v (by omega) ⟨h, by rw [← es]; exact hd⟩
    exact ⟨fun _ => this.1, by omega⟩
theorem XL_le (hL : LeastX K N X) {h : Nat} : ∀ (l : List Sym) (v : Val), (∀ s ∈ l, okS N tm s) → Row0 (Dr K (clL leafS 0) (clE emS 0) h) l 0 0 v → (∀ s ∈ l, s.term = false → 0 ≤ X s.n.toNat) ∧ XL X l ≤ v.n
  | [], v, _, hv => ⟨(fun s hs => by cases hs), Nat.zero_le _⟩
  | s :: l, v, hs, ⟨m, a, b, h1, h2, h3, h4, e⟩ => by
    subst e
    obtain rfl : m = 0 := by omega
    obtain ⟨q1, q2⟩ := sz_ge hL (hs s (by simp)) h3
    obtain ⟨q3, q4⟩ := XL_le hL l b (fun s hs' => hs s (by simp [hs'])) h4
    refine ⟨fun t ht => ?_, ?_⟩
    · rcases List.mem_cons.1 ht with rfl | ht
      · exact q1
      · exact q3 t ht
    · show xs X s + XL X l ≤ a.n + b.n
      omega
theorem XL_dr (hL : LeastX K N X) : ∀ (l : List Sym), (∀ s ∈ l, okS N tm s) → (∀ s ∈ l, s.term = false → 0 ≤ X s.n.toNat) → ∃ h v, Row0 (Dr K (clL leafS 0) (clE emS 0) h) l 0 0 v ∧ v.n = XL X l
  | [], _, _ => ⟨0, zero, ⟨rfl, rfl⟩, rfl⟩
  | s :: l, hs, hx => by
    obtain ⟨h2, b, hb, eb⟩ := XL_dr hL l (fun s hs' => hs s (by simp [hs'])) (fun s hs' => hx s (by simp [hs']))
    have ha : ∃ h a, Dr K (clL leafS 0) (clE emS 0) h s 0 0 a ∧ a.n = xs X s := by
      unfold xs
      by_cases ht : s.term = true
      · rw [if_pos ht]
        exact ⟨0, ⟨0, 1, [s.n]⟩, clL_S.2 ⟨ht, rfl⟩, rfl⟩
      · rw [if_neg ht]
        have ht' : s.term = false := by simpa using ht
        have h1 := (hs s (by simp)).2.2 ht'
        have h0 := (hs s (by simp)).1
        have hx0 := hx s (by simp) ht'
        have es : s = ⟨false, (s.n.toNat : Int)⟩ := by
          obtain ⟨a, b⟩ := s
          simp at ht' h0
          simp only [ht', Sym.mk.injEq, true_and]
          omega
        obtain ⟨v, ⟨h, hd⟩, ev⟩ := hL.ex s.n.toNat (by omega) hx0
        exact ⟨h, v, by rw [es]; exact hd, by omega⟩
    obtain ⟨h1, a, ha, ea⟩ := ha
    refine ⟨max h1 h2, thn a b, ⟨0, a, b, Nat.le_refl _, Nat.le_refl _, dr_le (Nat.le_max_left _ _) ha, ?_, rfl⟩, by show a.n + b.n = xs X s + XL X l; omega⟩
    have : ∀ {l : List Sym} {i j : Nat} {v : Val}, Row0 (Dr K (clL leafS 0) (clE emS 0) h2) l i j v → Row0 (Dr K (clL leafS 0) (clE emS 0) (max h1 h2)) l i j v := by
      intro l
      induction l with
      | nil => intro i j v h; exact h
      | cons s l ih =>
        intro i j v h
        obtain ⟨m, a, b, q1, q2, q3, q4, q5⟩ := h
        exact ⟨m, a, b, q1, q2, dr_le (Nat.le_max_right _ _) q3, ih q4, q5⟩
    exact this hb
theorem XL_eq (hL : LeastX K N X) {h : Nat} : ∀ (l : List Sym) (v : Val), (∀ s ∈ l, okS N tm s) → Row0 (Dr K (clL leafS 0) (clE emS 0) h) l 0 0 v → v.n ≤ XL X l → ∀ s ∈ l, s.term = false → ∃ a, Dr K (clL leafS 0) (clE emS 0) h s 0 0 a ∧ (a.n : Int) = X s.n.toNat
  | [], v, _, _, _, s, hs => by cases hs
  | t :: l, v, hs, ⟨m, a, b, h1, h2, h3, h4, e⟩, hle, s, hm => by
    subst e
    obtain rfl : m = 0 := by omega
    have q1 := sz_ge hL (hs t (by simp)) h3
    have q2 := XL_le hL l b (fun s hs' => hs s (by simp [hs'])) h4
    have hle' : a.n + b.n ≤ xs X t + XL X l := hle
    intro ht
    rcases List.mem_cons.1 hm with e | hm
    · subst e
      refine ⟨a, h3, ?_⟩
      have q3 := q1.1 ht
      have q4 := q1.2
      have hx : xs X s = (X s.n.toNat).toNat := by unfold xs; rw [if_neg (by rw [ht]; simp)]
      have q5 := q2.2
      rw [hx] at q4 hle'
      omega
    · exact XL_eq hL l b (fun s hs' => hs s (by simp [hs'])) h4 (by have := q1.2; omega) s hm ht
theorem known_row (hW : WInv K N tm X Tw) : ∀ (l : List Sym), (∀ s ∈ l, okS N tm s) → (∀ s ∈ l, s.term = false → ∃ w, Tw s.n.toNat = some w) → ∃ v, Row0 (VP (VW Tw) 0) l 0 0 v ∧ v.n = XL X l
  | [], _, _ => ⟨zero, ⟨rfl, rfl⟩, rfl⟩
  | s :: l, hs, hk => by
    obtain ⟨b, hb, eb⟩ := known_row hW l (fun s hs' => hs s (by simp [hs'])) (fun s hs' => hk s (by simp [hs']))
    have ha : ∃ a, VW Tw s 0 0 = some a ∧ a.n = xs X s := by
      rw [vw_sym (hs s (by simp))]
      unfold symW xs
      by_cases ht : s.term = true
      · rw [if_pos ht, if_pos ht]; exact ⟨_, rfl, rfl⟩
      · rw [if_neg ht, if_neg ht]
        obtain ⟨w, hw⟩ := hk s (by simp) (by simpa using ht)
        have := (hW _ _ hw).2.1
        rw [hw]
        exact ⟨tv w, rfl, by show w.length = _; omega⟩
    obtain ⟨a, ha, ea⟩ := ha
    exact ⟨thn a b, ⟨0, a, b, Nat.le_refl _, Nat.le_refl _, ⟨Nat.le_refl _, Nat.le_refl _, ha⟩, hb, rfl⟩, by show a.n + b.n = xs X s + XL X l; omega⟩
theorem rule_le (hL : LeastX K N X) (hK : KG N K (okS N tm)) {r : Rule} (hr : r ∈ K) (hx : ∀ s ∈ r.right, s.term = false → 0 ≤ X s.n.toNat) : 0 ≤ X r.left.toNat ∧ X r.left.toNat ≤ (XL X r.right : Int) := by
  obtain ⟨q1, q2, q3⟩ := hK r hr
  obtain ⟨h, v, hv, e⟩ := XL_dr hL r.right q3 hx
  have := hL.le r.left.toNat v (by omega) ⟨h + 1, by rw [show ((r.left.toNat : Nat) : Int) = r.left by omega]; exact dr_rule hr hv⟩
  omega
theorem known_all (hL : LeastX K N X) (hK : KG N K (okS N tm)) (hW : WInv K N tm X Tw) (hc : ClosedW K X Tw) : ∀ (h A : Nat) (v : Val), A < N → Dr K (clL leafS 0) (clE emS 0) h ⟨false, (A : Int)⟩ 0 0 v → (v.n : Int) = X A → X A ≤ 2000 → ∃ w, Tw A = some w := by
  intro h
  induction h with
  | zero => intro A v _ hd; exact absurd (clL_S.1 hd).1 (by simp)
  | succ h ih =>
    intro A v hA hd hv hx
    obtain ⟨r, hr, hl, hrow⟩ := dr_inv hd
    obtain ⟨q1, q2, q3⟩ := hK r hr
    have eA : r.left.toNat = A := by rw [hl]; simp
    obtain ⟨h1, h2⟩ := XL_le hL r.right v q3 hrow
    have h3 := rule_le hL hK hr h1
    rw [eA] at h3
    have hkn := XL_eq hL r.right v q3 hrow (by omega)
    obtain ⟨v', hv', e'⟩ := known_row hW r.right q3 (fun s hs ht => by
      obtain ⟨a, ha, ea⟩ := hkn s hs ht
      have h0 := (q3 s hs).1
      have h5 := (q3 s hs).2.2 ht
      have es : s = ⟨false, (s.n.toNat : Int)⟩ := by
        obtain ⟨x, y⟩ := s
        simp at ht h0
        simp only [ht, Sym.mk.injEq, true_and]
        omega
      have h6 : xs X s ≤ XL X r.right := by
        have : ∀ (l : List Sym), s ∈ l → xs X s ≤ XL X l := by
          intro l
          induction l with
          | nil => intro h; cases h
          | cons t l ih2 =>
            intro h
            show xs X s ≤ xs X t + XL X l
            rcases List.mem_cons.1 h with rfl | h
            · omega
            · have := ih2 h; omega
        exact this _ hs
      have hx' : xs X s = (X s.n.toNat).toNat := by unfold xs; rw [if_neg (by rw [ht]; simp)]
      exact ih s.n.toNat a (by omega) (by rw [← es]; exact ha) ea (by omega))
    have hf := row_fold (N := N) (tm := tm) (Tw := Tw) (lim := (X r.left.toNat).toNat) (by rw [eA]; omega) r.right [] v' q3 hv' (by rw [eA]; simp; omega)
    have hb := hc r hr
    unfold betW rwW at hb
    rw [if_pos (by rw [eA]; exact ⟨h3.1, hx⟩), hf, eA] at hb
    cases e : Tw A with
    | none => rw [e] at hb; cases hb
    | some w => exact ⟨w, rfl⟩
def VU (N : Nat) (X : Nat → Int) (Tw : Nat → Option (List Int)) (s : Sym) (i j : Nat) : Option Val :=
  if s.term then leafS s i j else if 0 ≤ s.n ∧ s.n < (N : Int) ∧ 0 ≤ X s.n.toNat then some ⟨0, (X s.n.toNat).toNat, if X s.n.toNat ≤ 2000 then (Tw s.n.toNat).getD [] else []⟩ else none
theorem vu_vo (hL : LeastX K N X) (hK : KG N K (okS N tm)) (hW : WInv K N tm X Tw) (hc : ClosedW K X Tw) : VO leafS emS 0 K (okS N tm) (GS tm) (VU N X Tw) := by
  have key : ∀ s i j v, VU N X Tw s i j = some v → (Wf v ∧ v.c = 0) ∧ ((i = 0 ∧ j = 0) → DrG leafS emS 0 K s i j v) ∧ (okS N tm s → ltrs tm v) := by
    intro s i j v e
    unfold VU at e
    by_cases ht : s.term = true
    · rw [if_pos ht] at e
      have h1 := (vw_vo hW).1 s i j v (by unfold VW; rw [if_pos ht]; exact e)
      have e2 := e
      unfold leafS at e
      rw [if_pos ht] at e
      cases e
      refine ⟨⟨h1, rfl⟩, fun ⟨h1, h2⟩ => ⟨0, ?_⟩, fun hs t h => ?_⟩
      · show clL leafS 0 s i j = _
        unfold clL
        rw [if_pos ⟨by omega, by omega⟩]; exact e2
      · simp at h
        subst h
        exact ⟨hs.1, hs.2.1 ht⟩
    · rw [if_neg ht] at e
      split at e
      · rename_i h0
        obtain ⟨h0, h1, h2⟩ := h0
        have es : s = ⟨false, (s.n.toNat : Int)⟩ := by
          obtain ⟨a, b⟩ := s
          simp at ht h0
          simp only [ht, Sym.mk.injEq, true_and]
          omega
        obtain ⟨u, ⟨k, hd⟩, eu⟩ := hL.ex s.n.toNat (by omega) h2
        obtain ⟨wu, cu⟩ := dr_wf k _ _ _ _ hd
        by_cases hb : X s.n.toNat ≤ 2000
        · obtain ⟨w, hw⟩ := known_all hL hK hW hc k s.n.toNat u (by omega) hd eu hb
          obtain ⟨q1, q2, q3, q4, q5⟩ := hW _ _ hw
          rw [if_pos hb, hw] at e
          have ev : tv w = v := by
            have := Option.some.inj e
            rw [← this]
            unfold tv
            simp only [Option.getD_some, Val.mk.injEq, true_and, and_true]
            omega
          subst ev
          refine ⟨⟨wf_tv q3, rfl⟩, fun ⟨h3, h4⟩ => ?_, fun _ => q4⟩
          rw [h3, h4, es]; exact q5
        · rw [if_neg hb] at e
          have ev : u = v := by
            have := Option.some.inj e
            rw [← this]
            obtain ⟨c, n, w⟩ := u
            simp only at cu eu
            rcases wu with ⟨h3, _⟩ | ⟨_, h3⟩
            · unfold maxL at h3; simp only at h3; omega
            · simp only at h3
              simp only [Val.mk.injEq]
              exact ⟨cu, by omega, h3⟩
          subst ev
          refine ⟨⟨wu, cu⟩, fun ⟨h3, h4⟩ => ?_, fun _ => ?_⟩
          · rw [h3, h4, es]; exact ⟨k, hd⟩
          · rcases wu with ⟨h3, _⟩ | ⟨_, h3⟩
            · unfold maxL at h3; omega
            · intro t h; rw [h3] at h; cases h
      · cases e
  refine ⟨fun s i j v e => (key s i j v e).1.1, fun s i j v h1 h2 e => ⟨(key s i j v e).2.1 (by omega), fun hs => ⟨(key s i j v e).1.1, (key s i j v e).1.2, (key s i j v e).2.2 hs⟩⟩⟩
theorem vu_vw (hL : LeastX K N X) (hK : KG N K (okS N tm)) (hW : WInv K N tm X Tw) (hc : ClosedW K X Tw) : ∀ (l : List Sym) (v : Val), (∀ s ∈ l, okS N tm s) → Row0 (VP (VU N X Tw) 0) l 0 0 v → v.n ≤ 2000 → Row0 (VP (VW Tw) 0) l 0 0 v
  | [], v, _, h, _ => h
  | s :: l, v, hs, ⟨m, a, b, h1, h2, h3, h4, e⟩, hn => by
    subst e
    obtain rfl : m = 0 := by omega
    have hn' : a.n + b.n ≤ 2000 := hn
    refine ⟨0, a, b, h1, h2, ⟨Nat.le_refl _, Nat.le_refl _, ?_⟩, vu_vw hL hK hW hc l b (fun s hs' => hs s (by simp [hs'])) h4 (by omega), rfl⟩
    have e := h3.2.2
    unfold VU at e
    unfold VW
    by_cases ht : s.term = true
    · rw [if_pos ht] at e ⊢; exact e
    · rw [if_neg ht] at e ⊢
      split at e
      · rename_i h0
        obtain ⟨h0, h1, h2⟩ := h0
        have ha : a.n = (X s.n.toNat).toNat := by rw [← Option.some.inj e]
        obtain ⟨u, ⟨k, hd⟩, eu⟩ := hL.ex s.n.toNat (by omega) h2
        obtain ⟨w, hw⟩ := known_all hL hK hW hc k s.n.toNat u (by omega) hd eu (by omega)
        obtain ⟨q1, q2, q3, q4, q5⟩ := hW _ _ hw
        rw [if_pos h0, hw, ← e, if_pos (by omega), hw]
        unfold tv
        simp only [Option.map_some, Option.getD_some, Option.some.injEq, Val.mk.injEq, true_and, and_true]
        omega
      · cases e
theorem vu_closed (hL : LeastX K N X) (hK : KG N K (okS N tm)) (hW : WInv K N tm X Tw) (hc : ClosedW K X Tw) : Closed K (clL leafS 0) (clE emS 0) (clV 0 (VU N X Tw)) := by
  have hvo := vu_vo hL hK hW hc
  refine cl_closed (gokS N tm) hvo.1 (fun y i j v _ _ e => ?_) (fun r hr i j v hij hj e => ?_)
  · refine ⟨v, ?_, le_refl _⟩
    unfold VU
    by_cases ht : y.term = true
    · rw [if_pos ht]; exact e
    · unfold leafS at e; rw [if_neg ht] at e; cases e
  · obtain rfl : j = 0 := by omega
    obtain rfl : i = 0 := by omega
    obtain ⟨q1, q2, q3⟩ := hK r hr
    obtain ⟨hg, hd⟩ := good_rv (gokS N tm) hK hvo hr (Nat.le_refl 0) (Nat.le_refl 0) e
    have el : ((r.left.toNat : Nat) : Int) = r.left := by omega
    obtain ⟨h1, h2⟩ := hL.le r.left.toNat v (by omega) (by rw [el]; exact hd)
    have hrow : Row0 (VP (VU N X Tw) 0) r.right 0 0 v := by
      unfold rvV at e
      by_cases hre : r.right = []
      · rw [if_pos hre] at e
        cases e
        rw [hre]; exact ⟨rfl, rfl⟩
      · rw [if_neg hre] at e
        have hb := (best_lstV (V := VU N X Tw) (n := 0) hre (fun s _ i j _ _ => hvo.1 s i j) (Nat.le_refl 0) (Nat.le_refl 0)).2
        rw [e] at hb
        exact hb.1
    have hu : VU N X Tw ⟨false, r.left⟩ 0 0 = some ⟨0, (X r.left.toNat).toNat, if X r.left.toNat ≤ 2000 then (Tw r.left.toNat).getD [] else []⟩ := by
      unfold VU
      simp only [Bool.false_eq_true, if_false]
      rw [if_pos ⟨q1, q2, h1⟩]
    refine ⟨_, hu, ?_⟩
    by_cases hlt : X r.left.toNat < (v.n : Int)
    · refine .inr (lt_iff.2 (.inr ⟨hg.2.1.symm, .inl ?_⟩))
      show (X r.left.toNat).toNat < v.n
      omega
    · have hx : X r.left.toNat = (v.n : Int) := by omega
      by_cases hb : X r.left.toNat ≤ 2000
      · have hrow2 := vu_vw hL hK hW hc r.right v q3 hrow (by omega)
        have hf := row_fold (N := N) (tm := tm) (Tw := Tw) (lim := (X r.left.toNat).toNat) (by omega) r.right [] v q3 hrow2 (by simp; omega)
        have hbt := hc r hr
        unfold betW rwW at hbt
        rw [if_pos ⟨h1, hb⟩, hf] at hbt
        simp only [List.nil_append, Option.map_some] at hbt
        have hvw : v.w.length = v.n := by
          rcases hg.1 with ⟨_, h⟩ | ⟨h, _⟩
          · exact h
          · unfold maxL at h; omega
        have ev : tv v.w = v := by
          obtain ⟨c, n, w⟩ := v
          have hcc : c = 0 := hg.2.1
          simp only at hvw
          unfold tv
          simp only [Val.mk.injEq, and_true]
          exact ⟨hcc.symm, hvw⟩
        rw [ev] at hbt
        obtain ⟨u, h3, h4⟩ := not_better (fun z ez => by
          cases e2 : Tw r.left.toNat with
          | none => rw [e2] at ez; cases ez
          | some w => rw [e2] at ez; cases ez; exact wf_tv (hW _ _ e2).2.2.1) hg.1 hbt
        cases e2 : Tw r.left.toNat with
        | none => rw [e2] at h3; cases h3
        | some w =>
          rw [e2] at h3
          have := (hW _ _ e2).2.1
          rw [if_pos hb]
          have eu : u = ⟨0, (X r.left.toNat).toNat, (some w).getD []⟩ := by
            rw [← Option.some.inj h3]
            unfold tv
            simp only [Option.getD_some, Val.mk.injEq, true_and, and_true]
            omega
          rw [← eu]; exact h4
      · refine .inl ?_
        rw [if_neg hb]
        obtain ⟨c, n, w⟩ := v
        have hcc : c = 0 := hg.2.1
        simp only at hx
        rcases hg.1 with ⟨h, _⟩ | ⟨_, h⟩
        · unfold maxL at h; simp only at h; omega
        · simp only at h
          simp only [Val.mk.injEq]
          exact ⟨hcc.symm, by omega, h.symm⟩
theorem sv_words (hL : LeastX K N X) (hK : KG N K (okS N tm)) (hW : WInv K N tm X Tw) (hc : ClosedW K X Tw) {V : Sym → Nat → Nat → Option Val} (hV : VO leafS emS 0 K (okS N tm) (GS tm) V) (hVc : Closed K (clL leafS 0) (clE emS 0) (clV 0 V)) (y : Sym) : V y 0 0 = VU N X Tw y 0 0 :=
  one_table (gokS N tm) hV hVc (vu_vo hL hK hW hc) (vu_closed hL hK hW hc) y (Nat.le_refl 0) (Nat.le_refl 0)
theorem sv_len (hL : LeastX K N X) {V : Sym → Nat → Nat → Option Val} (hV : VO leafS emS 0 K (okS N tm) (GS tm) V) (hVc : Closed K (clL leafS 0) (clE emS 0) (clV 0 V)) {A : Nat} (hA : A < N) : (match V ⟨false, (A : Int)⟩ 0 0 with | none => -1 | some v => (v.n : Int)) = X A := by
  cases e : V ⟨false, (A : Int)⟩ 0 0 with
  | none =>
    show (-1 : Int) = X A
    have h1 := hL.ge A hA
    by_cases h0 : 0 ≤ X A
    · obtain ⟨v, ⟨k, hd⟩, _⟩ := hL.ex A hA h0
      obtain ⟨_, u, h2, _⟩ := closed_le (fun y i j v e => hV.1 _ _ _ _ (cl_vp.1 e).2.2) (fun y i j v e => by unfold clL at e; split at e; exact wf_leafS _ e; cases e) (fun i j v e => by unfold clE at e; split at e; (cases e; exact wf_zero); cases e) hVc k _ _ _ _ hd
      have h3 := (cl_vp.1 h2).2.2
      rw [e] at h3; cases h3
    · omega
  | some v =>
    show (v.n : Int) = X A
    have h1 := (hV.2 _ 0 0 v (Nat.le_refl _) (Nat.le_refl _) e).1
    obtain ⟨h2, h3⟩ := hL.le A v hA h1
    obtain ⟨u, ⟨k, hd⟩, eu⟩ := hL.ex A hA h2
    have hu := (dr_wf k _ _ _ _ hd).2
    obtain ⟨_, x, h4, h5, h6⟩ := closed_le (fun y i j v e => hV.1 _ _ _ _ (cl_vp.1 e).2.2) (fun y i j v e => by unfold clL at e; split at e; exact wf_leafS _ e; cases e) (fun i j v e => by unfold clE at e; split at e; (cases e; exact wf_zero); cases e) hVc k _ _ _ _ hd
    have h7 := (cl_vp.1 h4).2.2
    rw [e] at h7
    cases h7
    rcases h6 with h6 | h6
    · rw [h6]; exact eu
    · rw [lt_iff] at h6
      have : v.n ≤ u.n := by
        rcases h6 with h | ⟨_, h | ⟨h, _⟩⟩
        · omega
        · omega
        · omega
      omega
end
end Hl
end Go.Proofs.Ytjpmebppdcclbaa
namespace Go.Proofs.Ytjpmebppdcclbaa
open Go.RowKit
namespace Df
end Df
end Go.Proofs.Ytjpmebppdcclbaa
namespace Go.Proofs.Ytjpmebppdcclbaa
open Go.RowKit
namespace Cs
def cap9 (x : Nat) : Int := min (x : Int) 1000000000
def cp (X Y z : Nat) : Nat := min (z + 1) X + (if X ≤ z ∧ z < X + Y then 1 else 0)
def ps (o : Sym → Nat → Nat) (l : List Sym) (s : Sym) (X Y z : Nat) : Nat := sumN (fun x => cN o l x * o s (z - x)) (cp X Y z)
structure R3 (B p1 p2 p3 m : Nat) (V1 : Nat → Int) (V2 V3 : Nat → Bool) (W : World) : Prop where
  r1 : Vrow 3 p1 m (fun k => .int .i64 (V1 k)) W
  r2 : Ln.Brow p2 m V2 W
  r3 : Ln.Brow p3 m V3 W
  lo : B ≤ p1 ∧ B ≤ p2 ∧ B ≤ p3
  ne : p1 ≠ p2 ∧ p1 ≠ p3 ∧ p2 ≠ p3
section
variable {B p1 p2 p3 m : Nat} {V1 V1' : Nat → Int} {V2 V3 V2' V3' : Nat → Bool} {W W' : World}
theorem R3.keep (h : R3 B p1 p2 p3 m V1 V2 V3 W) (hb : Below W.heap.size W W') : R3 B p1 p2 p3 m V1 V2 V3 W' := ⟨h.r1.keep hb, h.r2.keep hb, h.r3.keep hb, h.lo, h.ne⟩
theorem R3.other (h : R3 B p1 p2 p3 m V1 V2 V3 W) {q : Nat} (h1 : p1 ≠ q) (h2 : p2 ≠ q) (h3 : p3 ≠ q) (j : Nat) (v : Value) : R3 B p1 p2 p3 m V1 V2 V3 (W.setCell ⟨q, j, none⟩ v) := ⟨h.r1.other h1 j v, h.r2.other h2 j v, h.r3.other h3 j v, h.lo, h.ne⟩
theorem R3.eq (h : R3 B p1 p2 p3 m V1 V2 V3 W) (h1 : ∀ k, k < m → V1 k = V1' k) (h2 : ∀ k, k < m → V2 k = V2' k) (h3 : ∀ k, k < m → V3 k = V3' k) : R3 B p1 p2 p3 m V1' V2' V3' W := ⟨h.r1.eq fun k hk => by rw [h1 k hk], h.r2.eq h2, h.r3.eq h3, h.lo, h.ne⟩
theorem R3.set2 (h : R3 B p1 p2 p3 m V1 V2 V3 W) {j : Nat} {x : Bool} (hj : j < m) (he : ∀ k, k < m → V2' k = if k = j then x else V2 k) : R3 B p1 p2 p3 m V1 V2' V3 (W.setCell ⟨p2, j, none⟩ (.bool x)) :=
  ⟨h.r1.other h.ne.1 _ _, Brow.setV h.r2 hj he, h.r3.other (fun e => h.ne.2.2 e.symm) _ _, h.lo, h.ne⟩
end
end Cs
end Go.Proofs.Ytjpmebppdcclbaa
namespace Go.Proofs.Ytjpmebppdcclbaa
open Go.RowKit
namespace Cs
section
variable {P : Program} {ops : Array Oper} {md : Region.Mode} {Q : Exit → Act → World → Prop} {S : World → Prop} {n : Nat}
end
structure Hs where
  hb : Nat
  tm : Nat
  ta : Nat
  tj : Nat
  rm : Nat → Nat
  ra : Nat → Nat
  rj : Nat → Nat
  lo : Nat
  hi : Nat
structure RX (W : World) (sx : Nat) (SB : Array Value) (p1 p2 p3 g1 g2 g3 m : Nat) (V1 : Nat → Int) (V2 V3 : Nat → Bool) (U1 : Nat → Int) (U2 U3 : Nat → Bool) (wr : World) : Prop where
  bel : Below W.heap.size W wr
  sbox : wr.heap[sx]? = some (.cells SB 44 (0, 0))
  pr : R3 W.heap.size p1 p2 p3 m V1 V2 V3 wr
  gr : R3 (sx + 1) g1 g2 g3 m U1 U2 U3 wr
  ps : p1 < sx ∧ p2 < sx ∧ p3 < sx ∧ W.heap.size ≤ sx
section
variable {W : World} {sx : Nat} {SB : Array Value} {p1 p2 p3 g1 g2 g3 m : Nat} {V1 : Nat → Int} {V2 V3 : Nat → Bool} {U1 U1' : Nat → Int} {U2 U3 U2' U3' : Nat → Bool} {wr w' : World}
theorem RX.eq (h : RX W sx SB p1 p2 p3 g1 g2 g3 m V1 V2 V3 U1 U2 U3 wr) (h1 : ∀ k, k < m → U1 k = U1' k) (h2 : ∀ k, k < m → U2 k = U2' k) (h3 : ∀ k, k < m → U3 k = U3' k) : RX W sx SB p1 p2 p3 g1 g2 g3 m V1 V2 V3 U1' U2' U3' wr := ⟨h.bel, h.sbox, h.pr, h.gr.eq h1 h2 h3, h.ps⟩
theorem RX.keep (h : RX W sx SB p1 p2 p3 g1 g2 g3 m V1 V2 V3 U1 U2 U3 wr) (hb : Below wr.heap.size wr w') : RX W sx SB p1 p2 p3 g1 g2 g3 m V1 V2 V3 U1 U2 U3 w' := ⟨h.bel.trans (hb.mono h.bel.size), bx_keep h.sbox hb, h.pr.keep hb, h.gr.keep hb, h.ps⟩
theorem RX.set2 (h : RX W sx SB p1 p2 p3 g1 g2 g3 m V1 V2 V3 U1 U2 U3 wr) {j : Nat} {x : Bool} (hj : j < m) (he : ∀ k, k < m → U2' k = if k = j then x else U2 k) : RX W sx SB p1 p2 p3 g1 g2 g3 m V1 V2 V3 U1 U2' U3 (wr.setCell ⟨g2, j, none⟩ (.bool x)) := by
  obtain ⟨h1, h2, h3, h4, h5⟩ := h
  have hl := h4.lo
  exact ⟨h1.setCell (p := ⟨g2, j, none⟩) (by show W.heap.size ≤ g2; omega) _, bx_other h2 (by omega) _ _, h3.other (by omega) (by omega) (by omega) _ _, h4.set2 hj he, h5⟩
end
def u1 (c : Nat → Nat → Nat) (l : List Sym) (s : Sym) (X Y z : Nat) : Int := cap9 (ps (oN c) l s X Y z)
def u2 (c : Nat → Nat → Nat) (l : List Sym) (s : Sym) (X Y z : Nat) : Bool := decide (0 < ps (oN c) l s X Y z)
def u3 (c c' : Nat → Nat → Nat) (l : List Sym) (s : Sym) (X Y z : Nat) : Bool := decide (ps (oN c') l s X Y z < ps (oN c) l s X Y z)
def v1 (c : Nat → Nat → Nat) (l : List Sym) (z : Nat) : Int := cap9 (cN (oN c) l z)
def v2 (c : Nat → Nat → Nat) (l : List Sym) (z : Nat) : Bool := decide (0 < cN (oN c) l z)
def v3 (c c' : Nat → Nat → Nat) (l : List Sym) (z : Nat) : Bool := decide (cN (oN c') l z < cN (oN c) l z)
end Cs
end Go.Proofs.Ytjpmebppdcclbaa
namespace Go.Proofs.Ytjpmebppdcclbaa
open Go.RowKit
theorem wp_copyK {P : Program} (w : World) {o : Oper} {a : Act} {K : Act → World → Prop} {Q : Exit → Act → World → Prop} (d s : Operand) (t t' : TypeId)
    (ho : o.op = .call { callee := .builtin .copy, args := #[d, s], argTypes := #[t, t'] }) {v u v' : Value} {w' : World} (hd : a.eval d = v) (hs : a.eval s = u)
    (hr : (Builtin.copy_ #[t, t'] o.type #[v, u]).run P w = .ok v' w') (h : K (a.put o.dst v') w') : o.wp P a w K Q := by
  unfold Oper.wp execOp
  simp only [ho, resolve, invoke, builtin, Sem.run_bind, Sem.run_pure, Result.andThen_ok, List.map_toArray, List.map_cons, List.map_nil, hd, hs, hr]
  exact h
theorem wpl_copyK {P : Program} (w : World) {ops : Array Oper} {rest : List Oper} {o : Oper} {a : Act} {Q : Exit → Act → World → Prop} (hgd : o.guard = none) (d s : Operand) (t t' : TypeId)
    (ho : o.op = .call { callee := .builtin .copy, args := #[d, s], argTypes := #[t, t'] }) {v u v' : Value} {w' : World} (hd : a.eval d = v) (hs : a.eval s = u)
    (hr : (Builtin.copy_ #[t, t'] o.type #[v, u]).run P w = .ok v' w') (h : wpList P ops Q rest (a.put o.dst v') w') : wpList P ops Q (o :: rest) a w :=
  wpList_plain hgd fun _ hK => wp_copyK w d s t t' ho hd hs hr (hK _ _ h)
theorem step_copyK {P : Program} {ops : Array Oper} {o : Oper} {a : Act} {w : World} {K : Act → World → Prop} {Q : Exit → Act → World → Prop} {E : Prop} (hg : o.guard = none) (d x : Operand) (dT sT : TypeId)
    (hop : o.op = .call { callee := .builtin .copy, args := #[d, x], argTypes := #[dT, sT] }) {v u v' : Value} {w' : World} (hd : a.eval d = v) (hx : a.eval x = u)
    (hr : (Builtin.copy_ #[dT, sT] o.type #[v, u]).run P w = .ok v' w') (hK : K (a.put o.dst v') w') : if Region.wanted o (yielded ops a.tmps) = true then Oper.wp P o a w K Q else E := by
  have hw : Region.wanted o (yielded ops a.tmps) = true := by simp [Region.wanted, hg]
  rw [if_pos hw]
  exact wp_copyK w d x dT sT hop hd hx hr hK
theorem setRow_block (w : World) (g : Nat) (cs : Array Value) {k : Nat} (h : k ≠ g) : (w.setRow g cs).heap[k]? = w.heap[k]? := by
  unfold World.setRow
  simp [Array.getElem?_modify, show ¬ g = k from fun e => h e.symm]
theorem grown_setRow (w : World) (g : Nat) (cs : Array Value) : w.grownBy (w.setRow g cs) (some g) :=
  ⟨rfl, rfl, rfl, by simp [World.setRow], fun k _ hn => setRow_block w g cs (fun e => hn (by rw [e]))⟩
end Go.Proofs.Ytjpmebppdcclbaa
namespace Go.Proofs.Ytjpmebppdcclbaa
open Go.RowKit
namespace Cs
set_option maxHeartbeats 4000000 in
theorem mul64E (N : Nat) (h1 : 1 ≤ N) (h2 : N ≤ 16) (W : World) : Calls Try.prog 119 #[.int .u64 1, .int .u64 (N : Int)] W fun e w' => e = .returned (.tuple #[.int .u64 0, .int .u64 (N : Int)]) ∧ W = w' := by
  have h : N = 1 ∨ N = 2 ∨ N = 3 ∨ N = 4 ∨ N = 5 ∨ N = 6 ∨ N = 7 ∨ N = 8 ∨ N = 9 ∨ N = 10 ∨ N = 11 ∨ N = 12 ∨ N = 13 ∨ N = 14 ∨ N = 15 ∨ N = 16 := by omega
  rcases h with rfl | rfl | rfl | rfl | rfl | rfl | rfl | rfl | rfl | rfl | rfl | rfl | rfl | rfl | rfl | rfl <;> (
    go_enter Try.func119, Try.ntmps119
    go_wp2_with fail
    refine bodyPost_ret (results_tmp2 Try.results119 _ _ _) rfl ?_
    exact ⟨rfl, rfl⟩)
set_option maxHeartbeats 4000000 in
theorem mulE (N : Nat) (h1 : 1 ≤ N) (h2 : N ≤ 16) (W : World) : Calls Try.prog 117 #[.int .u64 1, .int .u64 (N : Int)] W fun e w' => e = .returned (.tuple #[.int .u64 0, .int .u64 (N : Int)]) ∧ W = w' := by
  have HM := Lib.hid (mul64E N h1 h2)
  go_enter Try.func117, Try.ntmps117
  go_wp2_with fail
  with_reducible refine (HM.out _).mono ?_
  rintro e w1 ⟨rfl, rfl⟩
  go_wp2_with fail
  refine bodyPost_ret (results_tmp2 Try.results117 _ _ _) rfl ?_
  exact ⟨rfl, rfl⟩
theorem vrow_cells {e : TypeId} {p m : Nat} {x : Value} : ∀ (k o : Nat) (A : Nat → Value) (w : World), o + k ≤ m → Vrow e p m A w → Vrow e p m (fun j => if o ≤ j ∧ j < o + k then x else A j) (w.setCells p o (List.replicate k x))
  | 0, o, A, w, _, h => h.eq (fun j _ => by rw [if_neg (by omega)])
  | k + 1, o, A, w, hk, h => by
    rw [List.replicate_succ]
    show Vrow e p m _ ((w.setCell ⟨p, o, none⟩ x).setCells p (o + 1) (List.replicate k x))
    have h1 := h.set (A' := fun j => if j = o then x else A j) (j := o) (x := x) (by omega) (fun j _ => rfl)
    refine (vrow_cells k (o + 1) _ _ (by omega) h1).eq (fun j _ => ?_)
    by_cases e1 : o + 1 ≤ j ∧ j < o + 1 + k
    · rw [if_pos e1, if_pos (by omega)]
    · rw [if_neg e1]
      by_cases e2 : j = o
      · rw [if_pos e2, if_pos (by omega)]
      · rw [if_neg e2, if_neg (by omega)]
theorem below_cells {B p : Nat} {w0 : World} (hp : B ≤ p) : ∀ (l : List Value) (o : Nat) (w : World), Below B w0 w → Below B w0 (w.setCells p o l)
  | [], _, _, h => h
  | x :: l, o, w, h => below_cells hp l (o + 1) _ (h.setCell (p := ⟨p, o, none⟩) hp x)
set_option maxHeartbeats 4000000 in
set_option maxRecDepth 100000 in
theorem repE (N : Nat) (h1 : 1 ≤ N) (h2 : N ≤ 16) (x : Int) (a : Option Addr) (c : Nat) (W : World) (hs : Sl W (.slice a 1 c) (ints [x])) :
    Calls Try.prog 113 #[.slice a 1 c, .int .i64 (N : Int)] W fun e w' => ∃ p, e = .returned (.slice (some ⟨p, 0, none⟩) N N) ∧ Vrow 3 p N (fun _ => .int .i64 x) w' ∧ W.heap.size ≤ p ∧ Below W.heap.size W w' := by
  obtain ⟨PST, HP⟩ := nameIt (fun (e : Ending) (w' : World) => ∃ p, e = .returned (.slice (some ⟨p, 0, none⟩) N N) ∧ Vrow 3 p N (fun _ => .int .i64 x) w' ∧ W.heap.size ≤ p ∧ Below W.heap.size W w')
  rw [HP.out]
  have HFIN : Hid (∀ p w', Vrow 3 p N (fun _ => .int .i64 x) w' → W.heap.size ≤ p → Below W.heap.size W w' → PST (.returned (.slice (some ⟨p, 0, none⟩) N N)) w') := by
    intro p w' q1 q2 q3; rw [← HP.out]; exact ⟨p, rfl, q1, q2, q3⟩
  have HMU := Lib.hid (mulE N h1 h2)
  obtain ⟨bx, ox, hae, hcx⟩ := hs.at (k := 0) (by simp [ints])
  subst hae
  have hc0 : W.cell? ⟨bx, ox, none⟩ = some (.int .i64 x) := by simpa [ints] using hcx 0 (by simp [ints])
  have hmk : ∀ W : World, (Instr.makeSlice 25 (.int .i64 (N : Int)) (.int .i64 (N : Int))).run Try.prog W = .ok (.slice (some ⟨W.heap.size, 0, none⟩) N N) (W.alloc (.cells (madeCells #[.int .i64 0] N) 3)) := fun W => by
    have := run_make_row' (P := Try.prog) 25 3 (.int .i64 0) 8 Try.underlying25 (by kernel_rfl) rfl .i64 .i64 N (by omega) (by omega) W
    simpa using this
  have hn0 : decide ((N : Int) < 0) = false := by simp
  have hn1 : decide ((9223372036854775807 : Int) < (N : Int)) = false := by simp; omega
  clear hcx hs HP
  go_enter Try.func113, Try.ntmps113
  have hinf : (Try.prog.info? 3).map (·.size) = some 1 := by kernel_rfl
  have HINF := Lib.hid hinf
  clear hinf
  obtain ⟨z, HZ⟩ := nameIt (Value.int .i64 x)
  have HZ1 : Hid (z.oneCell' = true) := by rw [← HZ.out]; rfl
  rw [HZ.out] at hc0
  simp only [HZ.out] at HFIN
  have hg1 : decide (0 < (0 : Int)) = false := rfl
  have hg2 : decide ((9223372036854775807 : Int) < (N : Int)) = false := hn1
  go_wp2_with fail
  with_reducible refine (HMU.out _).mono ?_
  rintro e w1 ⟨rfl, rfl⟩
  go_upto_region 6 with fail
  obtain ⟨w2, HW2⟩ := nameIt (W.alloc (.cells (madeCells #[.int .i64 0] N) 3))
  obtain ⟨p, HPN⟩ := nameIt W.heap.size
  have hv2 : Vrow 3 p N (fun _ => .int .i64 0) w2 := by rw [← HW2.out]; exact vrow_new W _ _ N HPN.out.symm
  have hb2 : Below W.heap.size W w2 := by rw [← HW2.out]; exact (Below.refl _ _).alloc (Nat.le_refl _) _
  have hbxl : bx < W.heap.size := lt_of_cell hc0
  have hc2 := (hb2.cell (p := ⟨bx, ox, none⟩) hbxl).trans hc0
  have hpp : W.heap.size ≤ p := by have := HPN.out; omega
  have hcp1 : ∀ ty, (Builtin.copy_ #[25, 25] ty #[.slice (some ⟨p, 0, none⟩) N N, .slice (some ⟨bx, ox, none⟩) 1 c]).run Try.prog w2 = .ok (goInt 1) (w2.setCells p 0 [z]) := by
    intro ty
    have h := run_copy_cells (P := Try.prog) w2 25 25 ty 3 p 0 N N ⟨bx, ox, none⟩ 1 c [z] Try.underlying25 HINF.out (by show 1 = min 1 N; omega)
      (fun j v hj => by
        obtain rfl : j = 0 := by
          have := (List.getElem?_eq_some_iff.1 hj).1
          simp at this; exact this
        simp at hj; subst hj
        simpa [Addr.add] using hc2)
      (fun j hj => by rw [hv2.cell (k := 0 + j) (by simp at hj; omega)]; rfl) (fun j _ => hv2.free _) (fun v hv => by simp at hv; subst hv; exact HZ1.out)
    simpa using h
  have hv3 := vrow_cells (x := z) 1 0 _ w2 (by omega) hv2
  have hb3 := below_cells (B := W.heap.size) hpp (List.replicate 1 z) 0 w2 hb2
  rw [show List.replicate 1 z = [z] from rfl] at hv3 hb3
  obtain ⟨w3, HW3⟩ := nameIt (w2.setCells p 0 [z])
  rw [HW3.out] at hcp1 hv3 hb3
  have HV3 : Hid (Vrow 3 p N (fun j => if j < 1 then z else .int .i64 0) w3) := hv3.eq (fun k _ => by
    by_cases h : k < 1
    · rw [if_pos (by omega), if_pos h]
    · rw [if_neg (by omega), if_neg h])
  have HB3 := Lib.hid hb3
  have HPW := Lib.hid hpp
  clear hv2 hv3 hb3 hb2 hc2 hbxl
  go_upto_region 7 with fail
  rw [HW2.out, HPN.out]
  go_wp2_with (at_builtin; refine wpl_copyK _ rfl _ _ 25 25 rfl rfl rfl (hcp1 _) ?_)
  clear hcp1 hc0
  go_loopg [8] N (fun gg v8 wr => ∃ k : Nat, 1 ≤ k ∧ k ≤ N ∧ N - k ≤ gg ∧ v8 = .int .i64 k ∧ Hid (Vrow 3 p N (fun j => if j < k then z else .int .i64 0) wr) ∧ Hid (Below W.heap.size W wr))
  case atStart => exact ⟨1, by omega, by omega, by omega, rfl, HV3, HB3⟩
  case round =>
    clear HV3 HB3
    obtain ⟨k, hk1, hkN, hgk, rfl, HV, HB⟩ := hrel
    obtain ⟨w5, rfl⟩ : ∃ ww : World, ww = wr := ⟨_, rfl⟩
    by_cases hlt : k < N
    · have hlt' : (k : Int) < (N : Int) := by omega
      obtain ⟨m, HM⟩ := nameIt (min k (N - k))
      have hm1 : 1 ≤ m ∧ m ≤ k ∧ k + m ≤ N := by have := HM.out; omega
      have hcp2 : ∀ ty dc sc, (Builtin.copy_ #[25, 25] ty #[.slice (some ⟨p, k, none⟩) (N - k) dc, .slice (some ⟨p, 0, none⟩) k sc]).run Try.prog w5.drew = .ok (goInt (m : Int)) (w5.drew.setCells p k (List.replicate m z)) := by
        intro ty dc sc
        have hv5 := HV.out.keep ((Below.refl _ _).drew)
        have h := run_copy_cells (P := Try.prog) w5.drew 25 25 ty 3 p k (N - k) dc ⟨p, 0, none⟩ k sc (List.replicate m z) Try.underlying25 HINF.out (by rw [List.length_replicate]; exact HM.out.symm)
          (fun j v hj => by
            have hjm : j < m := by have := (List.getElem?_eq_some_iff.1 hj).1; simpa using this
            have hvz : v = z := by rw [List.getElem?_replicate, if_pos hjm] at hj; exact (Option.some.inj hj).symm
            have := hv5.cell (k := j) (by omega)
            rw [if_pos (by omega)] at this
            rw [hvz]
            have e : (⟨p, 0, none⟩ : Addr).add j = ⟨p, j, none⟩ := by unfold Addr.add; by_cases e : j = 0 <;> simp [e]
            rw [e]; exact this)
          (fun j hj => by rw [hv5.cell (k := k + j) (by simp at hj; omega)]; rfl) (fun j _ => hv5.free _) (fun v hv => by rw [List.eq_of_mem_replicate hv]; exact HZ1.out)
        simpa using h
      have hv6 := vrow_cells (x := z) m k _ w5.drew (by omega) (HV.out.keep ((Below.refl _ _).drew))
      have hb6 := below_cells (B := W.heap.size) HPW.out (List.replicate m z) k w5.drew HB.out.drew
      obtain ⟨w6, HW6⟩ := nameIt (w5.drew.setCells p k (List.replicate m z))
      rw [HW6.out] at hcp2 hv6 hb6
      have HV6 : Hid (Vrow 3 p N (fun j => if j < k + m then z else .int .i64 0) w6) := hv6.eq (fun j _ => by
        by_cases h : k ≤ j ∧ j < k + m
        · rw [if_pos h, if_pos h.2]
        · rw [if_neg h]
          by_cases h2 : j < k
          · rw [if_pos h2, if_pos (by omega)]
          · rw [if_neg h2, if_neg (by omega)])
      have HB6 := Lib.hid hb6
      have hk0 : (0 : Int) ≤ (k : Int) := by omega
      have hkN' : (k : Int) ≤ (N : Int) := by omega
      obtain ⟨km, HKM⟩ := nameIt (k + m)
      have hw : IntKind.i64.wrap ((k : Int) + (m : Int)) = (km : Int) := by rw [IntWalk.i64_in _ (by omega), ← HKM.out]; omega
      have hne : ¬ N = k := by omega
      rw [HKM.out] at HV6
      have hkm : 1 ≤ km ∧ km ≤ N ∧ k < km := by have := HKM.out; omega
      clear hv6 hb6 HV HB HM HKM
      go_upto_region 9 with fail
      go_region_law (refine step_copyK rfl _ _ 25 25 rfl (by simp [Act.eval, Act.put]; try rfl) (by simp [Act.eval, Act.put]; try rfl) (hcp2 _ _ _) ?_)
      all_goals first | (go_wp2_with fail
                         go_roundg (N - km)
                         case measure => omega
                         case rel => exact ⟨km, by omega, by omega, by omega, by go_num, HV6, HB6⟩) | fail
    · have hlt' : ¬ (k : Int) < (N : Int) := by omega
      have hke : k = N := by omega
      subst hke
      have HE := Lib.hid (HFIN.out p w5 (HV.out.eq (fun j hj => by rw [if_pos hj])) HPW.out HB.out)
      go_wp2_with fail
      exact HE.out
end Cs
end Go.Proofs.Ytjpmebppdcclbaa
