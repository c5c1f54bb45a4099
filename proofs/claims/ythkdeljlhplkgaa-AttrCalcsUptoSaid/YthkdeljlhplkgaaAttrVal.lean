/- Values of expressions, in plain Lean; functions of occurrences. -/
import Derived.Test.YthkdeljlhplkgaaAttr
import Derived.Test.YthkdeljlhplkgaaAttrRd
namespace Go.Proofs.Ythkdeljlhplkgaa
open Go.RowKit
namespace At

def inM (v : Int) : Prop := 0 ≤ v ∧ v < 1000003
def maxF (vs : List Int) : Int := vs.foldl max (vs.headD 0)
def comb (k n g : Int) (vs : List Int) : Int :=
  if k = 1 then g else if k = 2 then vs.sum % 1000003 else if k = 3 then vs.foldl (fun a v => a * v % 1000003) 1 else if k = 4 then maxF vs
  else if k = 5 then (if vs[0]?.getD 0 < vs[1]?.getD 0 then 1 else 0) else if k = 6 then (if vs[0]?.getD 0 ≠ 0 then vs[1]?.getD 0 else vs[2]?.getD 0) else n
theorem comb_0 (n g : Int) (vs : List Int) : comb 0 n g vs = n := by simp [comb]
theorem comb_1 (n g : Int) (vs : List Int) : comb 1 n g vs = g := by simp [comb]
theorem comb_2 (n g : Int) (vs : List Int) : comb 2 n g vs = vs.sum % 1000003 := by simp [comb]
theorem comb_3 (n g : Int) (vs : List Int) : comb 3 n g vs = vs.foldl (fun a v => a * v % 1000003) 1 := by simp [comb]
theorem comb_4 (n g : Int) (vs : List Int) : comb 4 n g vs = maxF vs := by simp [comb]
theorem comb_5 (n g : Int) (vs : List Int) : comb 5 n g vs = if vs[0]?.getD 0 < vs[1]?.getD 0 then 1 else 0 := by simp [comb]
theorem comb_6 (n g : Int) (vs : List Int) : comb 6 n g vs = if vs[0]?.getD 0 ≠ 0 then vs[1]?.getD 0 else vs[2]?.getD 0 := by simp [comb]
mutual
def worth (get : Ref → Int) : Expr → Int
  | .node k n r l => comb k n (get r) (worthL get l)
def worthL (get : Ref → Int) : List Expr → List Int
  | [] => []
  | x :: l => worth get x :: worthL get l
end
theorem worth_eq (get : Ref → Int) (x : Expr) : worth get x = comb x.kind x.n (get x.ref) (worthL get x.args) := by cases x; simp [worth, Expr.kind, Expr.n, Expr.ref, Expr.args]
theorem worthL_map (get : Ref → Int) : ∀ l, worthL get l = l.map (worth get)
  | [] => rfl
  | x :: l => by simp [worthL, worthL_map get l]
def okRefV (r : Ref) : Prop := 0 ≤ r.at' ∧ r.at' ≤ 1000 ∧ 0 ≤ r.attr ∧ r.attr ≤ 2000000
def okV (y : Expr) : Prop := okArgs y.kind y.args.length = true ∧ (y.kind = 0 → inM y.n) ∧ (y.kind = 1 → okRefV y.ref)
def okX (x : Expr) : Prop := ∀ y ∈ enodes x, okV y
theorem okX.self {x : Expr} (h : okX x) : okV x := h x (by rw [enodes_eq]; exact List.mem_cons_self)
theorem mem_enodesL {l : List Expr} {x : Expr} (hx : x ∈ l) {y : Expr} (hy : y ∈ enodes x) : y ∈ enodesL l := by
  induction l with
  | nil => cases hx
  | cons a l ih =>
    rw [enodesL]
    rcases List.mem_cons.1 hx with rfl | hx
    · exact List.mem_append_left _ hy
    · exact List.mem_append_right _ (ih hx)
theorem okX.kid {x y : Expr} (h : okX x) (hy : y ∈ x.args) : okX y := fun z hz => h z (by rw [enodes_eq]; exact List.mem_cons_of_mem _ (mem_enodesL hy hz))
theorem emod_inM (a : Int) : inM (a % 1000003) := ⟨Int.emod_nonneg _ (by decide), Int.emod_lt_of_pos _ (by decide)⟩
theorem fold_mul_inM : ∀ (vs : List Int) (a : Int), inM a → (∀ v ∈ vs, inM v) → inM (vs.foldl (fun a v => a * v % 1000003) a)
  | [], a, h, _ => h
  | v :: vs, a, h, hv => fold_mul_inM vs _ (emod_inM _) (fun u hu => hv u (List.mem_cons_of_mem _ hu))
theorem fold_max_inM : ∀ (vs : List Int) (a : Int), inM a → (∀ v ∈ vs, inM v) → inM (vs.foldl max a)
  | [], a, h, _ => h
  | v :: vs, a, h, hv => fold_max_inM vs _ (by
    have := hv v List.mem_cons_self
    unfold inM at *
    rw [Int.max_def]
    split <;> omega) (fun u hu => hv u (List.mem_cons_of_mem _ hu))
theorem getD_inM {vs : List Int} (h : ∀ v ∈ vs, inM v) (i : Nat) : inM (vs[i]?.getD 0) := by
  rcases Nat.lt_or_ge i vs.length with hi | hi
  · rw [List.getElem?_eq_getElem hi]; exact h _ (List.getElem_mem hi)
  · rw [List.getElem?_eq_none hi]; exact ⟨by decide, by decide⟩
theorem comb_inM {k n g : Int} {vs : List Int} (hk : okArgs k vs.length = true) (hn : k = 0 → inM n) (hg : k = 1 → inM g) (hv : ∀ v ∈ vs, inM v) : inM (comb k n g vs) := by
  unfold comb
  by_cases h1 : k = 1
  · rw [if_pos h1]; exact hg h1
  rw [if_neg h1]
  by_cases h2 : k = 2
  · rw [if_pos h2]; exact emod_inM _
  rw [if_neg h2]
  by_cases h3 : k = 3
  · rw [if_pos h3]; exact fold_mul_inM _ _ ⟨by decide, by decide⟩ hv
  rw [if_neg h3]
  by_cases h4 : k = 4
  · rw [if_pos h4]
    unfold maxF
    cases vs with
    | nil => exact ⟨by decide, by decide⟩
    | cons v vs => exact fold_max_inM _ _ (hv v List.mem_cons_self) hv
  rw [if_neg h4]
  by_cases h5 : k = 5
  · rw [if_pos h5]; split <;> exact ⟨by decide, by decide⟩
  rw [if_neg h5]
  by_cases h6 : k = 6
  · rw [if_pos h6]; split <;> exact getD_inM hv _
  rw [if_neg h6]
  by_cases h0 : k = 0
  · exact hn h0
  · exfalso
    unfold okArgs at hk
    rw [if_neg (by omega), if_neg (by omega), if_neg h4, if_neg h5, if_neg h6] at hk
    cases hk
theorem worth_inM {get : Ref → Int} (hg : ∀ r, okRefV r → inM (get r)) : ∀ (m : Nat) (x : Expr), x.size ≤ m → okX x → inM (worth get x) := by
  intro m
  induction m with
  | zero => intro x hm; have := x.size_pos; omega
  | succ m ih =>
    intro x hm hx
    rw [worth_eq]
    obtain ⟨h1, h2, h3⟩ := hx.self
    refine comb_inM (by rw [worthL_map, List.length_map]; exact h1) h2 (fun h => hg _ (h3 h)) ?_
    rw [worthL_map]
    intro v hv
    obtain ⟨y, hy, rfl⟩ := List.mem_map.1 hv
    obtain ⟨i, hi, rfl⟩ := List.getElem_of_mem hy
    have := sizeL_kid hi
    rw [Expr.size_eq] at hm
    exact ih _ (by omega) (hx.kid (List.getElem_mem hi))
theorem worthL_inM {get : Ref → Int} (hg : ∀ r, okRefV r → inM (get r)) {x : Expr} (hx : okX x) : ∀ v ∈ worthL get x.args, inM v := by
  rw [worthL_map]
  intro v hv
  obtain ⟨y, hy, rfl⟩ := List.mem_map.1 hv
  exact worth_inM hg y.size y (Nat.le_refl _) (hx.kid hy)
/-- a function of occurrences, as a function value -/
def GetAt (g : Nat) (lb : Array Value) (get : Ref → Int) (w : World) : Prop :=
  ∀ (W : World) (r : Ref), okRefV r → Below w.heap.size w W → Calls Try.prog g (#[.agg #[.int .i64 r.at', .int .i64 r.attr]] ++ lb) W fun e w' => e = .returned (.int .i64 (get r)) ∧ Below W.heap.size W w'
theorem GetAt.below {g : Nat} {lb : Array Value} {get : Ref → Int} {w w' : World} (h : GetAt g lb get w) (hb : Below w.heap.size w w') : GetAt g lb get w' := fun W r hr hW => h W r hr (hb.trans (hW.mono hb.size))
/-- the sums, the products, as the code reckons them -/
theorem sum_take {vs : List Int} {i : Nat} (h : i < vs.length) : (vs.take (i + 1)).sum = (vs.take i).sum + vs[i] := by
  rw [List.take_succ_eq_append_getElem h, List.sum_append]; simp
theorem sum_range {vs : List Int} (h : ∀ v ∈ vs, inM v) (i : Nat) (hi : i ≤ vs.length) : 0 ≤ (vs.take i).sum ∧ (vs.take i).sum ≤ i * 1000003 := by
  induction i with
  | zero => simp
  | succ i ih =>
    have h1 := ih (by omega)
    rw [sum_take (by omega)]
    have h2 := h _ (List.getElem_mem (show i < vs.length by omega))
    unfold inM at h2
    omega
theorem fold_take {β : Type} {f : β → Int → β} {vs : List Int} {i : Nat} {a : β} (h : i < vs.length) : (vs.take (i + 1)).foldl f a = f ((vs.take i).foldl f a) vs[i] := by
  rw [List.take_succ_eq_append_getElem h, List.foldl_append]; rfl
theorem tmod_nn {a : Int} (h : 0 ≤ a) : a.tmod 1000003 = a % 1000003 := Int.tmod_eq_emod_of_nonneg h
end At
end Go.Proofs.Ythkdeljlhplkgaa
