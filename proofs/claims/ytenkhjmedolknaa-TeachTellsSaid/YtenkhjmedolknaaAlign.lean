/- Aligned words, in plain Lean: the distance by a table, and by all ways; the operations. -/
import Derived.WalkKit
namespace Go.Proofs.Ytenkhjmedolknaa
namespace Al

/-- the least cost, all ways tried -/
def wl (c0 c1 c2 : Int) : List Int → List Int → Int
  | [], [] => 0
  | _ :: w, [] => min (((w.length : Int) + 1) * c1) (wl c0 c1 c2 w [] + c1)
  | [], _ :: v => min (((v.length : Int) + 1) * c0) (wl c0 c1 c2 [] v + c0)
  | x :: w, y :: v => min (min (min (((w.length : Int) + 1) * c1 + ((v.length : Int) + 1) * c0) (wl c0 c1 c2 w (y :: v) + c1)) (wl c0 c1 c2 (x :: w) v + c0)) (wl c0 c1 c2 w v + if x = y then 0 else c2)
termination_by w v => w.length + v.length
/-- the least cost, as the table has it -/
def al (c0 c1 c2 : Int) : List Int → List Int → Int
  | [], v => (v.length : Int) * c0
  | _ :: w, [] => ((w.length : Int) + 1) * c1
  | x :: w, y :: v => if x = y then al c0 c1 c2 w v else min (min (al c0 c1 c2 w v + c2) (al c0 c1 c2 w (y :: v) + c1)) (al c0 c1 c2 (x :: w) v + c0)
termination_by w v => w.length + v.length

section
variable {c0 c1 c2 : Int}
theorem wl_cc (x y : Int) (w v : List Int) : wl c0 c1 c2 (x :: w) (y :: v) = min (min (min (((w.length : Int) + 1) * c1 + ((v.length : Int) + 1) * c0) (wl c0 c1 c2 w (y :: v) + c1)) (wl c0 c1 c2 (x :: w) v + c0)) (wl c0 c1 c2 w v + if x = y then 0 else c2) := by rw [wl]
theorem wl_nl : ∀ v : List Int, wl c0 c1 c2 [] v = (v.length : Int) * c0
  | [] => by rw [wl]; simp
  | y :: v => by
    rw [wl, wl_nl v]
    simp only [List.length_cons, Int.natCast_add, Int.natCast_one, Int.add_mul, Int.one_mul]
    omega
theorem wl_nr : ∀ w : List Int, wl c0 c1 c2 w [] = (w.length : Int) * c1
  | [] => by rw [wl]; simp
  | y :: v => by
    rw [wl, wl_nr v]
    simp only [List.length_cons, Int.natCast_add, Int.natCast_one, Int.add_mul, Int.one_mul]
    omega
theorem wl_base : ∀ w v : List Int, wl c0 c1 c2 w v ≤ (w.length : Int) * c1 + (v.length : Int) * c0
  | [], v => by rw [wl_nl]; simp
  | x :: w, [] => by rw [wl_nr]; simp
  | x :: w, y :: v => by
    rw [wl_cc]
    simp only [List.length_cons, Int.natCast_add, Int.natCast_one]
    omega
theorem wl_del (x : Int) (w v : List Int) : wl c0 c1 c2 (x :: w) v ≤ wl c0 c1 c2 w v + c1 := by
  cases v with
  | nil =>
    rw [wl_nr, wl_nr]
    simp only [List.length_cons, Int.natCast_add, Int.natCast_one, Int.add_mul, Int.one_mul]
    omega
  | cons y v => rw [wl_cc]; omega
theorem wl_ins (y : Int) (w v : List Int) : wl c0 c1 c2 w (y :: v) ≤ wl c0 c1 c2 w v + c0 := by
  cases w with
  | nil =>
    rw [wl_nl, wl_nl]
    simp only [List.length_cons, Int.natCast_add, Int.natCast_one, Int.add_mul, Int.one_mul]
    omega
  | cons x w => rw [wl_cc]; omega
theorem mul_nn (n : Nat) {c : Int} (h : 0 ≤ c) : 0 ≤ (n : Int) * c := Int.mul_nonneg (by omega) h
theorem wl_A (h0 : 1 ≤ c0) (h1 : 1 ≤ c1) (h2 : 1 ≤ c2) (y : Int) (v : List Int) : ∀ w : List Int, wl c0 c1 c2 w v ≤ wl c0 c1 c2 w (y :: v) + c1
  | [] => by
    rw [wl_nl, wl_nl]
    simp only [List.length_cons, Int.natCast_add, Int.natCast_one, Int.add_mul, Int.one_mul]
    omega
  | x :: w => by
    have ih := wl_A h0 h1 h2 y v w
    have hd := wl_del (c0 := c0) (c1 := c1) (c2 := c2) x w v
    have hb := wl_base (c0 := c0) (c1 := c1) (c2 := c2) (x :: w) v
    rw [wl_cc]
    simp only [List.length_cons, Int.natCast_add, Int.natCast_one, Int.add_mul, Int.one_mul] at hb ⊢
    split <;> omega
theorem wl_B (h0 : 1 ≤ c0) (h1 : 1 ≤ c1) (h2 : 1 ≤ c2) (x : Int) (w : List Int) : ∀ v : List Int, wl c0 c1 c2 w v ≤ wl c0 c1 c2 (x :: w) v + c0
  | [] => by
    rw [wl_nr, wl_nr]
    simp only [List.length_cons, Int.natCast_add, Int.natCast_one, Int.add_mul, Int.one_mul]
    omega
  | y :: v => by
    have ih := wl_B h0 h1 h2 x w v
    have hd := wl_ins (c0 := c0) (c1 := c1) (c2 := c2) y w v
    have hb := wl_base (c0 := c0) (c1 := c1) (c2 := c2) w (y :: v)
    rw [wl_cc]
    simp only [List.length_cons, Int.natCast_add, Int.natCast_one, Int.add_mul, Int.one_mul] at hb ⊢
    split <;> omega
theorem al_wl (h0 : 1 ≤ c0) (h1 : 1 ≤ c1) (h2 : 1 ≤ c2) : ∀ w v : List Int, al c0 c1 c2 w v = wl c0 c1 c2 w v
  | [], v => by rw [al, wl_nl]
  | x :: w, [] => by rw [al, wl_nr]; simp
  | x :: w, y :: v => by
    rw [al, al_wl h0 h1 h2 w v]
    by_cases h : x = y
    · rw [if_pos h]
      have hA := wl_A h0 h1 h2 y v w
      have hB := wl_B h0 h1 h2 x w v
      have hb := wl_base (c0 := c0) (c1 := c1) (c2 := c2) w v
      rw [wl_cc, if_pos h]
      simp only [Int.add_mul, Int.one_mul]
      omega
    · rw [if_neg h, al_wl h0 h1 h2 w (y :: v), al_wl h0 h1 h2 (x :: w) v]
      have hb := wl_base (c0 := c0) (c1 := c1) (c2 := c2) w (y :: v)
      rw [wl_cc, if_neg h]
      simp only [List.length_cons, Int.natCast_add, Int.natCast_one, Int.add_mul, Int.one_mul] at hb ⊢
      omega
termination_by w v => w.length + v.length
theorem al_bd (h0 : 1 ≤ c0) (h1 : 1 ≤ c1) (h2 : 1 ≤ c2) (k0 : c0 ≤ 100) (k1 : c1 ≤ 100) : ∀ w v : List Int, 0 ≤ al c0 c1 c2 w v ∧ al c0 c1 c2 w v ≤ (w.length : Int) * 100 + (v.length : Int) * 100
  | [], v => by
    rw [al]
    have a1 := mul_nn v.length (show 0 ≤ c0 by omega)
    have a2 : (v.length : Int) * c0 ≤ (v.length : Int) * 100 := Int.mul_le_mul_of_nonneg_left k0 (by omega)
    simp; omega
  | x :: w, [] => by
    rw [al]
    have a1 := mul_nn (w.length + 1) (show 0 ≤ c1 by omega)
    have a2 : ((w.length + 1 : Nat) : Int) * c1 ≤ ((w.length + 1 : Nat) : Int) * 100 := Int.mul_le_mul_of_nonneg_left k1 (by omega)
    simp only [List.length_cons, Int.natCast_add, Int.natCast_one] at a1 a2 ⊢
    simp; omega
  | x :: w, y :: v => by
    rw [al]
    have i1 := al_bd h0 h1 h2 k0 k1 w v
    have i2 := al_bd h0 h1 h2 k0 k1 w (y :: v)
    have i3 := al_bd h0 h1 h2 k0 k1 (x :: w) v
    simp only [List.length_cons, Int.natCast_add, Int.natCast_one] at i2 i3 ⊢
    split <;> omega
termination_by w v => w.length + v.length
end

/-- an operation: kind, at, term -/
structure Op where
  kind : Int
  at' : Int
  term : Int
  deriving DecidableEq
def ops (c0 c1 c2 : Int) : Nat → List Int → List Int → List Op
  | _, [], [] => []
  | i, x :: w, [] => ⟨2, i, x⟩ :: ops c0 c1 c2 (i + 1) w []
  | i, [], y :: v => ⟨1, i, y⟩ :: ops c0 c1 c2 i [] v
  | i, x :: w, y :: v => if x = y then ⟨0, i, x⟩ :: ops c0 c1 c2 (i + 1) w v
    else if al c0 c1 c2 w v + c2 = al c0 c1 c2 (x :: w) (y :: v) then ⟨3, i, y⟩ :: ops c0 c1 c2 (i + 1) w v
    else if al c0 c1 c2 w (y :: v) + c1 = al c0 c1 c2 (x :: w) (y :: v) then ⟨2, i, x⟩ :: ops c0 c1 c2 (i + 1) w (y :: v)
    else ⟨1, i, y⟩ :: ops c0 c1 c2 i (x :: w) v
termination_by _ w v => w.length + v.length
theorem ops_len {c0 c1 c2 : Int} : ∀ (i : Nat) (w v : List Int), (ops c0 c1 c2 i w v).length ≤ w.length + v.length
  | _, [], [] => by simp [ops]
  | i, x :: w, [] => by have := ops_len (c0 := c0) (c1 := c1) (c2 := c2) (i + 1) w []; simp [ops] at this ⊢; omega
  | i, [], y :: v => by have := ops_len (c0 := c0) (c1 := c1) (c2 := c2) i [] v; simp [ops] at this ⊢; omega
  | i, x :: w, y :: v => by
    have h1 := ops_len (c0 := c0) (c1 := c1) (c2 := c2) (i + 1) w v
    have h2 := ops_len (c0 := c0) (c1 := c1) (c2 := c2) (i + 1) w (y :: v)
    have h3 := ops_len (c0 := c0) (c1 := c1) (c2 := c2) i (x :: w) v
    rw [ops]
    simp only [List.length_cons] at h2 h3 ⊢
    split
    · simp; omega
    · split
      · simp; omega
      · split
        · simp; omega
        · simp; omega
termination_by _ w v => w.length + v.length

/-- operations performed on what is left of a word -/
def run : List Int → Nat → List Op → Option (List Int)
  | rest, _, [] => if rest = [] then some [] else none
  | rest, i, o :: l => if o.at' ≠ i ∨ o.kind < 0 ∨ 3 < o.kind ∨ (o.kind ≠ 1 ∧ rest = []) then none
    else if o.kind = 1 then (run rest i l).map fun t => o.term :: t
    else match rest with
      | [] => none
      | x :: r => (run r (i + 1) l).map fun t => (if o.kind = 0 then [x] else if o.kind = 3 then [o.term] else []) ++ t

theorem nodup_le {α : Type} [BEq α] [LawfulBEq α] : ∀ (l m : List α), l.Nodup → (∀ x ∈ l, x ∈ m) → l.length ≤ m.length
  | [], m, _, _ => by simp
  | a :: l, m, hn, hs => by
    have ha := hs a List.mem_cons_self
    rw [List.nodup_cons] at hn
    have := nodup_le l (m.erase a) hn.2 fun x hx => by
      have hne : x ≠ a := fun e => hn.1 (e ▸ hx)
      exact (List.mem_erase_of_ne hne).2 (hs x (List.mem_cons_of_mem _ hx))
    rw [List.length_erase_of_mem ha] at this
    have : 0 < m.length := List.length_pos_of_mem ha
    simp; omega
end Al
end Go.Proofs.Ytenkhjmedolknaa
