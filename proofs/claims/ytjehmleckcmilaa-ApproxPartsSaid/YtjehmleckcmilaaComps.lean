/- Components of nonterminals, in plain Lean. -/
import Derived.Test.YtjehmleckcmilaaReach
namespace Go.Proofs.Ytjehmleckcmilaa
open Go.RowKit

def inL (l : List Int) (x : Int) : Bool := l.any fun y => x == y
theorem inL_iff {l : List Int} {x : Int} : inL l x = true ↔ x ∈ l := by
  unfold inL
  rw [List.any_eq_true]
  constructor
  · rintro ⟨y, hy, h⟩
    simp at h; subst h; exact hy
  · intro h; exact ⟨x, h, by simp⟩
/-- symbol i of a right side is none of the component's, or stands at a place -/
def okAt (l : List Int) (p : Nat → Nat → Bool) (R : List Sym) (i : Nat) : Bool :=
  match R[i]? with
  | some s => !(!s.term && inL l s.n) || p i R.length
  | none => true
theorem okAt_eq {l : List Int} {p : Nat → Nat → Bool} {R : List Sym} {i : Nat} (h : i < R.length) : okAt l p R i = (!(!R[i].term && inL l R[i].n) || p i R.length) := by
  unfold okAt; rw [List.getElem?_eq_getElem h]
def fitRule (l : List Int) (p : Nat → Nat → Bool) (r : Rule) : Bool := !inL l r.left || (List.range r.right.length).all (okAt l p r.right)
def onlyB (K : List Rule) (l : List Int) (p : Nat → Nat → Bool) : Bool := K.all (fitRule l p)
def pLast (i n : Nat) : Bool := decide (i + 1 = n)
def pFirst (i _ : Nat) : Bool := decide (i = 0)
def kindOf (K : List Rule) (l : List Int) : Int := if onlyB K l pLast then 0 else if onlyB K l pFirst then 1 else 2
structure Comp where
  kind : Int
  nons : List Int
/-- the component of a -/
def mutB (E : List (Nat × Nat)) (N a b : Nat) : Bool := b == a || (fw E N a b && fw E N b a)
def clsTo (E : List (Nat × Nat)) (N a k : Nat) : List Int := ((List.range k).filter (mutB E N a)).map Int.ofNat
def clsOf (E : List (Nat × Nat)) (N a : Nat) : List Int := clsTo E N a N
theorem clsTo_next (E : List (Nat × Nat)) (N a k : Nat) : clsTo E N a (k + 1) = if mutB E N a k then clsTo E N a k ++ [(k : Int)] else clsTo E N a k := by
  unfold clsTo
  rw [List.range_succ, List.filter_append, List.map_append]
  cases h : mutB E N a k <;> simp [h]
def compsN (K : List Rule) (E : List (Nat × Nat)) (N : Nat) : Nat → List Comp
  | 0 => []
  | a + 1 => if (compsN K E N a).any (fun c => inL c.nons a) then compsN K E N a else compsN K E N a ++ [⟨kindOf K (clsOf E N a), clsOf E N a⟩]
theorem cls_mem {E : List (Nat × Nat)} {N : Nat} {a : Nat} {x : Int} : x ∈ clsOf E N a ↔ ∃ b : Nat, b < N ∧ x = b ∧ mutB E N a b = true := by
  unfold clsOf clsTo
  simp only [List.mem_map, List.mem_filter, List.mem_range]
  constructor
  · rintro ⟨b, ⟨h1, h2⟩, rfl⟩; exact ⟨b, h1, rfl, h2⟩
  · rintro ⟨b, h1, rfl, h2⟩; exact ⟨b, ⟨h1, h2⟩, rfl⟩
/-- the least one of the component stands first -/
theorem cls_head {E : List (Nat × Nat)} {N : Nat} {a : Nat} (ha : a < N) : ∃ b : Nat, b ≤ a ∧ (clsOf E N a).head? = some (b : Int) ∧ mutB E N a b = true ∧ ∀ c, c < b → mutB E N a c = false := by
  have key : ∀ k, (∀ c, c < k → mutB E N a c = false) ∨ ∃ b : Nat, b < k ∧ (clsTo E N a k).head? = some (b : Int) ∧ mutB E N a b = true ∧ ∀ c, c < b → mutB E N a c = false := by
    intro k
    induction k with
    | zero => exact .inl fun c hc => by omega
    | succ k ih =>
      rw [clsTo_next]
      rcases ih with h | ⟨b, h1, h2, h3, h4⟩
      · cases hk : mutB E N a k with
        | false =>
          left
          intro c hc
          by_cases e : c = k
          · subst e; exact hk
          · exact h c (by omega)
        | true =>
          right
          have hn : clsTo E N a k = [] := by
            unfold clsTo
            rw [List.map_eq_nil_iff, List.filter_eq_nil_iff]
            intro c hc
            rw [h c (by simpa using hc)]; decide
          refine ⟨k, by omega, ?_, hk, h⟩
          rw [hn]; simp
      · right
        refine ⟨b, by omega, ?_, h3, h4⟩
        split
        · rw [List.head?_append, h2]; rfl
        · exact h2
  rcases key N with h | ⟨b, h1, h2, h3, h4⟩
  · have := h a ha
    rw [show mutB E N a a = true by simp [mutB]] at this
    cases this
  · refine ⟨b, ?_, h2, h3, h4⟩
    by_cases hb : b ≤ a
    · exact hb
    · have := h4 a (by omega)
      rw [show mutB E N a a = true by simp [mutB]] at this
      cases this
section
variable {E : List (Nat × Nat)} {N : Nat} (hE : ∀ e ∈ E, e.1 < N ∧ e.2 < N)
include hE
theorem mutB_iff {a b : Nat} : mutB E N a b = true ↔ b = a ∨ (Pth E a b ∧ Pth E b a) := by
  unfold mutB
  simp [fw_iff hE]
theorem und_mut {a b : Nat} (ha : a < N) (hb : b < N) : (rnds E N (single a) b && rnds E N (single b) a) = mutB E N a b := by
  rw [Bool.eq_iff_iff, Bool.and_eq_true, und_iff hE ha, und_iff hE hb, mutB_iff hE]
  constructor
  · rintro ⟨h1 | h1, h2 | h2⟩
    · exact .inl h1
    · exact .inl h1
    · exact .inl h2.symm
    · exact .inr ⟨h1, h2⟩
  · rintro (h | ⟨h1, h2⟩)
    · exact ⟨.inl h, .inl h.symm⟩
    · exact ⟨.inr h1, .inr h2⟩
theorem mut_symm {a b : Nat} (h : mutB E N a b = true) : mutB E N b a = true := by
  rw [mutB_iff hE] at h ⊢
  rcases h with h | ⟨h1, h2⟩
  · exact .inl h.symm
  · exact .inr ⟨h2, h1⟩
theorem mut_trans {a b c : Nat} (h : mutB E N a b = true) (k : mutB E N b c = true) : mutB E N a c = true := by
  rw [mutB_iff hE] at h k ⊢
  rcases h with rfl | ⟨h1, h2⟩
  · exact k
  · rcases k with rfl | ⟨k1, k2⟩
    · exact .inr ⟨h1, h2⟩
    · exact .inr ⟨h1.trans k1, k2.trans h2⟩
theorem comps_mem (K : List Rule) : ∀ (a : Nat), a ≤ N → ∀ c, c ∈ compsN K E N a ↔ ∃ x : Nat, x < a ∧ c = ⟨kindOf K (clsOf E N x), clsOf E N x⟩ ∧ ∀ y, y < x → mutB E N x y = false
  | 0, _, c => by simp [compsN]
  | a + 1, ha, c => by
    have ih := comps_mem K a (by omega)
    have hany : (compsN K E N a).any (fun c => inL c.nons a) = true ↔ ∃ y, y < a ∧ mutB E N a y = true := by
      rw [List.any_eq_true]
      constructor
      · rintro ⟨c, hc, h⟩
        obtain ⟨x, hx, rfl, _⟩ := (ih c).1 hc
        rw [inL_iff, cls_mem] at h
        obtain ⟨b, _, h1, h2⟩ := h
        obtain rfl : a = b := by omega
        exact ⟨x, hx, mut_symm hE h2⟩
      · rintro ⟨y, hy, h⟩
        obtain ⟨b, hb, _, h3, h4⟩ := cls_head (E := E) (N := N) (a := a) (by omega)
        have hba : b ≤ y := by
          by_cases e : b ≤ y
          · exact e
          · rw [h4 y (by omega)] at h; cases h
        refine ⟨_, (ih ⟨kindOf K (clsOf E N b), clsOf E N b⟩).2 ⟨b, by omega, rfl, fun z hz => ?_⟩, ?_⟩
        · cases e : mutB E N b z with
          | false => rfl
          | true =>
            have := mut_trans hE h3 e
            rw [h4 z hz] at this; cases this
        · rw [inL_iff, cls_mem]
          exact ⟨a, by omega, rfl, mut_symm hE h3⟩
    rw [compsN]
    by_cases h : (compsN K E N a).any (fun c => inL c.nons a) = true
    · rw [if_pos h, ih]
      obtain ⟨y, hy, hm⟩ := hany.1 h
      constructor
      · rintro ⟨x, hx, h1, h2⟩; exact ⟨x, by omega, h1, h2⟩
      · rintro ⟨x, hx, h1, h2⟩
        refine ⟨x, ?_, h1, h2⟩
        by_cases e : x = a
        · subst e; rw [h2 y hy] at hm; cases hm
        · omega
    · rw [if_neg h]
      have hno : ∀ y, y < a → mutB E N a y = false := fun y hy => by
        cases e : mutB E N a y with
        | false => rfl
        | true => exact absurd (hany.2 ⟨y, hy, e⟩) h
      simp only [List.mem_append, List.mem_singleton, ih]
      constructor
      · rintro (⟨x, hx, h1, h2⟩ | h1)
        · exact ⟨x, by omega, h1, h2⟩
        · exact ⟨a, by omega, h1, hno⟩
      · rintro ⟨x, hx, h1, h2⟩
        by_cases e : x = a
        · subst e; exact .inr h1
        · exact .inl ⟨x, by omega, h1, h2⟩
/-- a new component begins where a is its least one -/
theorem comps_new (K : List Rule) {a : Nat} (ha : a < N) : (compsN K E N a).any (fun c => inL c.nons a) = !decide ((clsOf E N a).head? = some (a : Int)) := by
  obtain ⟨b, hb, h2, h3, h4⟩ := cls_head ha
  rw [Bool.eq_iff_iff, List.any_eq_true, h2]
  simp only [Bool.not_eq_true', decide_eq_false_iff_not, Option.some.injEq]
  constructor
  · rintro ⟨c, hc, h⟩ e
    obtain ⟨x, hx, rfl, hmin⟩ := (comps_mem hE K a (by omega) c).1 hc
    rw [inL_iff, cls_mem] at h
    obtain ⟨d, _, h5, h6⟩ := h
    obtain rfl : a = d := by omega
    obtain rfl : b = a := by omega
    have := mut_symm hE h6
    rw [h4 x hx] at this; cases this
  · intro hne
    have hlt : b < a := by omega
    refine ⟨_, (comps_mem hE K a (by omega) ⟨kindOf K (clsOf E N b), clsOf E N b⟩).2 ⟨b, hlt, rfl, fun z hz => ?_⟩, ?_⟩
    · cases e : mutB E N b z with
      | false => rfl
      | true =>
        have := mut_trans hE h3 e
        rw [h4 z hz] at this; cases this
    · rw [inL_iff, cls_mem]
      exact ⟨a, ha, rfl, mut_symm hE h3⟩
end
end Go.Proofs.Ytjehmleckcmilaa
