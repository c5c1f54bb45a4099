/- Keys of rules, as RuleFault makes them: plain law. -/
import Derived.Test.YtgpikophndbmeaaCheckG
import Derived.Test.YtgpikophndbmeaaSetM
namespace Go.Proofs.Ytgpikophndbmeaa
open Go.RowKit

def symB (s : Sym) : List UInt8 := [if s.term then 116 else 110, UInt8.ofNat s.n.toNat]
def keyB (l : Int) (ss : List Sym) : List UInt8 := UInt8.ofNat l.toNat :: ss.flatMap symB
def small (n : Int) : Prop := 0 ≤ n ∧ n < 10
theorem byte_inj {a b : Int} (ha : small a) (hb : small b) (h : UInt8.ofNat a.toNat = UInt8.ofNat b.toNat) : a = b := by
  have h2 := congrArg UInt8.toNat h
  simp at h2
  obtain ⟨a0, a1⟩ := ha
  obtain ⟨b0, b1⟩ := hb
  rw [Nat.mod_eq_of_lt (by omega), Nat.mod_eq_of_lt (by omega)] at h2
  omega
theorem syms_inj : ∀ {l m : List Sym}, (∀ s ∈ l, small s.n) → (∀ s ∈ m, small s.n) → l.flatMap symB = m.flatMap symB → l = m
  | [], [], _, _, _ => rfl
  | [], y :: m, _, _, h => by simp [symB] at h
  | x :: l, [], _, _, h => by simp [symB] at h
  | x :: l, y :: m, hl, hm, h => by
    simp only [List.flatMap_cons, symB, List.cons_append, List.nil_append, List.cons.injEq] at h
    obtain ⟨h1, h2, h3⟩ := h
    have e1 := syms_inj (fun s hs => hl s (List.mem_cons_of_mem _ hs)) (fun s hs => hm s (List.mem_cons_of_mem _ hs)) h3
    have e2 := byte_inj (hl x List.mem_cons_self) (hm y List.mem_cons_self) h2
    have e3 : x.term = y.term := by
      cases hx : x.term <;> cases hy : y.term <;> simp_all
    obtain ⟨xt, xn⟩ := x
    obtain ⟨yt, yn⟩ := y
    simp at e2 e3
    subst e1 e2 e3
    rfl
def okR (r : Rule) : Prop := small r.left ∧ ∀ s ∈ r.right, small s.n
theorem keyB_inj {r q : Rule} (hr : okR r) (hq : okR q) (h : keyB r.left r.right = keyB q.left q.right) : r = q := by
  simp only [keyB, List.cons.injEq] at h
  have e1 := byte_inj hr.1 hq.1 h.1
  have e2 := syms_inj hr.2 hq.2 h.2
  obtain ⟨_, _⟩ := r
  obtain ⟨_, _⟩ := q
  simp_all
/-- the keys of rules -/
def keysOf (l : List Rule) : Lit → Bool
  | .string b => l.any fun r => keyB r.left r.right == b
  | _ => false
theorem keysOf_same {l : List Rule} {r : Rule} (hl : ∀ x ∈ l, okR x) (hr : okR r) : keysOf l (.string (keyB r.left r.right)) = l.any fun x => cmpR x r == 0 := by
  simp only [keysOf]
  induction l with
  | nil => rfl
  | cons x l ih =>
    simp only [List.any_cons]
    rw [ih fun y hy => hl y (List.mem_cons_of_mem _ hy)]
    have e1 : (keyB x.left x.right == keyB r.left r.right) = (cmpR x r == 0) := by
     by_cases e : x = r
     · subst e
       have : cmpR x x = 0 := cmpR_zero.2 rfl
       simp [this]
     · have h1 : ¬ keyB x.left x.right = keyB r.left r.right := fun h => e (keyB_inj (hl x List.mem_cons_self) hr h)
       have h2 : ¬ cmpR x r = 0 := fun h => e (cmpR_zero.1 h)
       rw [beq_eq_false_iff_ne.2 h1, beq_eq_false_iff_ne.2 h2]
    rw [e1]
theorem keysOf_add {l : List Rule} {r : Rule} : keysOf (l ++ [r]) (.string (keyB r.left r.right)) = true := by simp [keysOf]
theorem keysOf_other {l : List Rule} {r : Rule} {x : Lit} (h : x ≠ .string (keyB r.left r.right)) : keysOf (l ++ [r]) x = keysOf l x := by
  cases x <;> simp [keysOf] at h ⊢
  intro h2
  exact absurd h2.symm h
theorem enc_small {n : Int} (h : small n) : Utf8.encode n = ⟨#[UInt8.ofNat n.toNat]⟩ := by
  obtain ⟨h0, h1⟩ := h
  have hv : Utf8.valid n = true := by simp [Utf8.valid]; omega
  simp only [Utf8.encode, hv, if_true]
  rw [if_pos (by omega)]
/-- a string's bytes -/
def Bts (s : ByteArray) (l : List UInt8) : Prop := s.data.toList = l
theorem Bts.app {s t : ByteArray} {l m : List UInt8} (h : Bts s l) (k : Bts t m) : Bts (s ++ t) (l ++ m) := by
  unfold Bts at *
  rw [ByteArray.data_append, Array.toList_append, h, k]
theorem bts_enc {n : Int} (h : small n) : Bts (Utf8.encode n) [UInt8.ofNat n.toNat] := by rw [enc_small h]; rfl
theorem Bts.size {s : ByteArray} {l : List UInt8} (h : Bts s l) : s.size = l.length := by
  unfold Bts at h
  rw [← h]; rfl
theorem keyB_take {l : Int} {ss : List Sym} {q : Nat} (h : q < ss.length) : keyB l (ss.take (q + 1)) = keyB l (ss.take q) ++ [if ss[q].term then 116 else 110] ++ [UInt8.ofNat ss[q].n.toNat] := by
  unfold keyB
  rw [List.take_succ_eq_append_getElem h, List.flatMap_append]
  simp only [List.flatMap_cons, List.flatMap_nil, symB, List.append_nil, List.cons_append, List.append_assoc, List.nil_append]
theorem keyB_len {l : Int} {ss : List Sym} : (keyB l ss).length = 1 + 2 * ss.length := by
  simp only [keyB, List.length_cons]
  induction ss with
  | nil => rfl
  | cons x ss ih => simp only [List.flatMap_cons, List.length_append, symB, List.length_cons, List.length_nil] at ih ⊢; omega
theorem key_string (s : ByteArray) (l : List UInt8) (h : Bts s l) (hs : s.size ≤ maxLen) : keyOf Try.prog 9 (.string s) = some (.string l) := by
  unfold Bts at h
  subst h
  simp [keyOf, Try.underlying9, mapKey, hs]
end Go.Proofs.Ytgpikophndbmeaa
