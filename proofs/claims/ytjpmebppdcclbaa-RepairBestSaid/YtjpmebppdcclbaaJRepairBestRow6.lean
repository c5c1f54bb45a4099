/- A measure of tables of corrections: the ranks of the cells. Tables of corrections: each value comes from a derivation, and its size is bounded by its cost. Tables of corrections: costs are bounded; a nonterminal is found in all parts or in none. parlref4.solve. The plans of parlref4.solve and of repair.Best for corrections. The tables of parlref4.solve and of repair.Best are the same. The fixed call of RepairBest: the least correction of 0 0 1 is 0 1, at cost 1. -/
import Derived.Test.YtjpmebppdcclbaaJRepairBestRow4
import Derived.Test.YtjpmebppdcclbaaJRepairBestRow5
import Derived.Test.YtjpmebppdcclbaaJRepairBestRow2
namespace Go.Proofs.Ytjpmebppdcclbaa
namespace Rp

/-- all words over 0 .. t - 1, at most L long -/
def wordsU (t : Nat) : Nat → List (List Int)
  | 0 => [[]]
  | L + 1 => [] :: (wordsU t L).flatMap fun w => (List.range t).map fun (x : Nat) => (x : Int) :: w
theorem mem_wordsU (t : Nat) : ∀ (L : Nat) (w : List Int), w.length ≤ L → (∀ x ∈ w, 0 ≤ x ∧ x < (t : Int)) → w ∈ wordsU t L
  | 0, w, h, _ => by
    have : w = [] := List.eq_nil_of_length_eq_zero (by omega)
    simp [wordsU, this]
  | L + 1, [], _, _ => by simp [wordsU]
  | L + 1, x :: w, h, hx => by
    simp only [wordsU, List.mem_cons, List.mem_flatMap, List.mem_map, List.mem_range]
    right
    have := hx x (by simp)
    exact ⟨w, mem_wordsU t L w (by simp at h; omega) (fun y hy => hx y (by simp [hy])), x.toNat, by omega, by rw [show ((x.toNat : Nat) : Int) = x by omega]⟩
/-- all values with costs up to C, sizes up to S -/
def valsU (t C S : Nat) : List Val := (List.range (C + 1)).flatMap fun c => (List.range (S + 1)).flatMap fun n => (wordsU t 2000).map fun w => ⟨c, n, w⟩
theorem mem_valsU {t C S : Nat} {v : Val} (hc : v.c ≤ C) (hn : v.n ≤ S) (hw : Wf v) (hx : ∀ x ∈ v.w, 0 ≤ x ∧ x < (t : Int)) : v ∈ valsU t C S := by
  unfold valsU
  rw [List.mem_flatMap]
  refine ⟨v.c, by simp; omega, ?_⟩
  rw [List.mem_flatMap]
  refine ⟨v.n, by simp; omega, ?_⟩
  rw [List.mem_map]
  refine ⟨v.w, mem_wordsU t 2000 v.w ?_ hx, rfl⟩
  rcases hw with ⟨h1, h2⟩ | ⟨_, h2⟩
  · unfold maxL at h1; omega
  · rw [h2]; simp
noncomputable def ltd (u v : Val) : Bool := @decide (lt u v) (Classical.propDecidable _)
theorem ltd_iff {u v : Val} : ltd u v = true ↔ lt u v := @decide_eq_true_iff _ (Classical.propDecidable _)
noncomputable def rank (U : List Val) : Option Val → Nat
  | none => U.length + 1
  | some v => (U.filter fun u => ltd u v).length
theorem filter_lt {α : Type} (p q : α → Bool) : ∀ (l : List α), (∀ x, p x = true → q x = true) → (∃ x ∈ l, p x = false ∧ q x = true) → (l.filter p).length < (l.filter q).length
  | [], _, ⟨x, hx, _⟩ => by cases hx
  | y :: l, h, ⟨x, hx, h1, h2⟩ => by
    have hle : ∀ l : List α, (l.filter p).length ≤ (l.filter q).length := by
      intro l
      induction l with
      | nil => simp
      | cons z l ih =>
        simp only [List.filter_cons]
        by_cases hp : p z = true
        · rw [if_pos hp, if_pos (h z hp)]; simp; omega
        · rw [if_neg hp]
          split
          · simp only [List.length_cons]; omega
          · omega
    simp only [List.filter_cons]
    rcases List.mem_cons.1 hx with rfl | hx
    · rw [if_neg (by rw [h1]; simp), if_pos h2]
      have := hle l
      simp; omega
    · have := filter_lt p q l h ⟨x, hx, h1, h2⟩
      by_cases hp : p y = true
      · rw [if_pos hp, if_pos (h y hp)]; simp; omega
      · rw [if_neg hp]
        split
        · simp only [List.length_cons]; omega
        · omega
theorem rank_lt {U : List Val} {v : Val} {o : Option Val} (hv : v ∈ U) (hwv : Wf v) (ho : WfO o) (h : lessB (some v) o = true) : rank U (some v) < rank U o := by
  cases o with
  | none =>
    have := List.length_filter_le (fun u => ltd u v) U
    show (U.filter fun u => ltd u v).length < U.length + 1
    omega
  | some a =>
    have hlt := (less_some hwv (ho a rfl)).1 h
    refine filter_lt _ _ U (fun x hx => ?_) ⟨v, hv, ?_, ?_⟩
    · exact ltd_iff.2 (lt_trans (ltd_iff.1 hx) hlt)
    · cases e : ltd v v with
      | false => rfl
      | true => exact absurd (ltd_iff.1 e) (lt_irr v)
    · exact ltd_iff.2 hlt
def cellsU (N n : Nat) : List (Nat × Nat × Nat) := (List.range N).flatMap fun a => (List.range (n + 1)).flatMap fun x => (List.range (n + 1)).map fun y => (a, x, y)
noncomputable def muU (U : List Val) (N n : Nat) (T : Tb) : Nat := ((cellsU N n).map fun p => rank U (T (p.1 : Int) p.2.1 p.2.2)).sum
theorem mem_cellsU {N n a x y : Nat} (ha : a < N) (hx : x ≤ n) (hy : y ≤ n) : (a, x, y) ∈ cellsU N n := by
  unfold cellsU
  rw [List.mem_flatMap]
  refine ⟨a, by simpa using ha, ?_⟩
  rw [List.mem_flatMap]
  refine ⟨x, by simp; omega, ?_⟩
  rw [List.mem_map]
  exact ⟨y, by simp; omega, rfl⟩
theorem sum_lt {α : Type} (f g : α → Nat) : ∀ (l : List α), (∀ p, f p ≤ g p) → (∃ p ∈ l, f p < g p) → (l.map f).sum < (l.map g).sum
  | [], _, ⟨p, hp, _⟩ => by cases hp
  | q :: l, h, ⟨p, hp, h1⟩ => by
    have hle : ∀ l : List α, (l.map f).sum ≤ (l.map g).sum := by
      intro l
      induction l with
      | nil => simp
      | cons z l ih => have := h z; simp; omega
    simp only [List.map_cons, List.sum_cons]
    rcases List.mem_cons.1 hp with rfl | hp
    · have := hle l; omega
    · have := sum_lt f g l h ⟨p, hp, h1⟩
      have := h q
      omega
theorem mu_upd {U : List Val} {N n a i j : Nat} {T : Tb} {v : Val} (ha : a < N) (hi : i ≤ n) (hj : j ≤ n) (hv : v ∈ U) (hwv : Wf v) (ho : WfO (T (a : Int) i j)) (h : lessB (some v) (T (a : Int) i j) = true) : muU U N n (upd T (a : Int) i j (some v)) < muU U N n T := by
  have hr := rank_lt hv hwv ho h
  unfold muU
  refine sum_lt _ _ _ (fun p => ?_) ⟨(a, i, j), mem_cellsU ha hi hj, ?_⟩
  · unfold upd
    split
    · rename_i e
      obtain ⟨e1, e2, e3⟩ := e
      rw [e1, e2, e3]
      exact Nat.le_of_lt hr
    · exact Nat.le_refl _
  · unfold upd
    rw [if_pos ⟨rfl, rfl, rfl⟩]
    exact hr
end Rp
end Go.Proofs.Ytjpmebppdcclbaa
namespace Go.Proofs.Ytjpmebppdcclbaa
namespace Rp

section
variable (c : Co) (w : List Int) (n N tm : Nat) (K : List Rule)
def okS (s : Sym) : Prop := 0 ≤ s.n ∧ (s.term = true → s.n < (tm : Int)) ∧ (s.term = false → s.n < (N : Int))
def leafC (y : Sym) (i j : Nat) : Option Val := if i ≤ j ∧ j ≤ n then leafR c w y i j else none
def emC (i j : Nat) : Option Val := if i ≤ j ∧ j ≤ n then emR c i j else none
def Good (v : Val) (i j : Nat) : Prop := Wf v ∧ v.n ≤ v.c + (j - i) ∧ ∀ t ∈ v.w, 0 ≤ t ∧ t < (tm : Int)
def DrE (y : Sym) (i j : Nat) (v : Val) : Prop := ∃ h, Dr K (leafC c w n) (emC c n) h y i j v
def CF (T : Tb) : Prop := ∀ A x y v, T A x y = some v → x ≤ y ∧ y ≤ n ∧ 0 ≤ A ∧ A < (N : Int) ∧ Good tm v x y ∧ DrE c w n K ⟨false, A⟩ x y v
/-- what is known of the rules -/
def KOk : Prop := ∀ r ∈ K, 0 ≤ r.left ∧ r.left < (N : Int) ∧ r.right.length ≤ 4 ∧ ∀ s ∈ r.right, okS N tm s
end
section
variable {c : Co} {w : List Int} {n N tm : Nat} {K : List Rule}
theorem good_thn {a b : Val} {i m j : Nat} (ha : Good tm a i m) (hb : Good tm b m j) (h1 : i ≤ m) (h2 : m ≤ j) : Good tm (thn a b) i j := by
  obtain ⟨a1, a2, a3⟩ := ha
  obtain ⟨b1, b2, b3⟩ := hb
  refine ⟨wf_thn a1 b1, ?_, ?_⟩
  · show a.n + b.n ≤ a.c + b.c + (j - i)
    omega
  · rw [thn_w]
    split
    · intro t ht
      rcases List.mem_append.1 ht with ht | ht
      · exact a3 t ht
      · exact b3 t ht
    · intro t ht; cases ht
theorem good_zero (i : Nat) : Good tm zero i i := ⟨wf_zero, Nat.zero_le _, fun t ht => by cases ht⟩
theorem wf_leafR {y : Sym} {i j : Nat} : WfO (leafR c w y i j) := by
  intro v e
  unfold leafR at e
  split at e
  · cases e; exact .inl ⟨by simp [maxL], rfl⟩
  · cases e
theorem good_leafR (hc : c.ok) {y : Sym} (hy : okS N tm y) {i j : Nat} {v : Val} (e : leafR c w y i j = some v) : Good tm v i j := by
  have hw := wf_leafR v e
  unfold leafR at e
  split at e
  · rename_i ht
    cases e
    refine ⟨hw, ?_, ?_⟩
    · show 1 ≤ oneC c w y.n i j + (j - i)
      by_cases h : j - i = 0
      · have : oneC c w y.n i j = c.c0 := by
          unfold oneC oneB
          rw [h]; simp
        have := hc.1
        omega
      · omega
    · intro t ht'
      simp at ht'
      subst ht'
      exact ⟨hy.1, hy.2.1 ht⟩
  · cases e
theorem row_ex {leaf : Sym → Nat → Nat → Option Val} {em : Nat → Nat → Option Val} : ∀ {l : List Sym} {i j : Nat} {v : Val}, Row (fun s i j v => ∃ h, Dr K leaf em h s i j v) l i j v → ∃ h, Row (Dr K leaf em h) l i j v
  | [], _, _, _, h => h.elim
  | [s], _, _, _, ⟨h, hd⟩ => ⟨h, hd⟩
  | s :: t :: l, i, j, v, ⟨m, a, b, h1, h2, ⟨ha, hda⟩, hb, e⟩ => by
    obtain ⟨k, hk⟩ := row_ex hb
    exact ⟨max ha k, m, a, b, h1, h2, dr_le (Nat.le_max_left _ _) hda, hk.mono (fun _ _ _ _ => dr_le (Nat.le_max_right _ _)), e⟩
theorem cf_V (hc : c.ok) {T : Tb} (h : CF c w n N tm K T) {s : Sym} (hs : okS N tm s) {i j : Nat} (hij : i ≤ j) (hj : j ≤ n) {v : Val} (e : ofT (leafR c w) T s i j = some v) : Good tm v i j ∧ DrE c w n K s i j v := by
  rw [of_leafR] at e
  by_cases ht : s.term = true
  · rw [if_pos ht] at e
    have e' : leafR c w s i j = some v := by unfold leafR; rw [if_pos ht]; exact e
    refine ⟨good_leafR hc hs e', 0, ?_⟩
    show leafC c w n s i j = some v
    unfold leafC
    rw [if_pos ⟨hij, hj⟩]; exact e'
  · rw [if_neg ht] at e
    obtain ⟨_, _, _, _, h5, h6⟩ := h _ _ _ _ e
    have : s = ⟨false, s.n⟩ := by obtain ⟨a, b⟩ := s; simp at ht; rw [ht]
    rw [this]
    exact ⟨h5, h6⟩
theorem cf_wf {T : Tb} (h : CF c w n N tm K T) (s : Sym) (i j : Nat) : WfO (ofT (leafR c w) T s i j) := by
  intro v e
  rw [of_leafR] at e
  split at e
  · cases e; exact .inl ⟨by simp [maxL], rfl⟩
  · exact (h _ _ _ _ e).2.2.2.2.1.1
theorem good_row0 {V : Sym → Nat → Nat → Option Val} : ∀ {l : List Sym} {i j : Nat} {v : Val}, (∀ s ∈ l, ∀ i j v, i ≤ j → j ≤ n → V s i j = some v → Good tm v i j) → Row0 (VP V n) l i j v → Good tm v i j
  | [], i, j, v, _, h => by obtain ⟨rfl, rfl⟩ := h; exact good_zero i
  | s :: l, i, j, v, hV, ⟨m, a, b, h1, h2, h3, h4, e⟩ => by
    subst e
    exact good_thn (hV s (by simp) i m a h3.1 h3.2.1 h3.2.2) (good_row0 (fun s hs => hV s (by simp [hs])) h4) h1 h2
theorem row_mem {P Q : Sym → Nat → Nat → Val → Prop} : ∀ {l : List Sym} {i j : Nat} {v : Val}, (∀ s ∈ l, ∀ i j v, P s i j v → Q s i j v) → Row P l i j v → Row Q l i j v
  | [], _, _, _, _, h => h.elim
  | [s], _, _, _, hPQ, h => hPQ s (by simp) _ _ _ h
  | s :: t :: l, _, _, _, hPQ, ⟨m, a, b, h1, h2, h3, h4, e⟩ => ⟨m, a, b, h1, h2, hPQ s (by simp) _ _ _ h3, row_mem (fun s hs => hPQ s (by simp [List.mem_cons] at hs ⊢; exact .inr hs)) h4, e⟩
theorem cf_rv (hc : c.ok) (hK : KOk N tm K) {T : Tb} (h : CF c w n N tm K T) {r : Rule} (hr : r ∈ K) {i j : Nat} (hij : i ≤ j) (hj : j ≤ n) {v : Val} (e : rvT (leafR c w) (emR c) T r i j = some v) : Good tm v i j ∧ DrE c w n K ⟨false, r.left⟩ i j v := by
  obtain ⟨_, _, _, hrs⟩ := hK r hr
  unfold rvT at e
  by_cases hre : r.right = []
  · rw [if_pos hre] at e
    have e2 := e
    unfold emR at e
    cases e
    refine ⟨⟨.inl ⟨by simp, rfl⟩, Nat.zero_le _, fun t ht => by cases ht⟩, 1, .inr ⟨rfl, r, hr, rfl, .inl ⟨hre, ?_⟩⟩⟩
    unfold emC
    rw [if_pos ⟨hij, hj⟩]; exact e2
  · rw [if_neg hre] at e
    have hb := (best_lstV (V := ofT (leafR c w) T) (n := n) hre (fun s _ i j _ _ => cf_wf h s i j) hij hj).2
    rw [e] at hb
    have hrow := hb.1
    refine ⟨good_row0 (fun s hs i j v h1 h2 h3 => (cf_V hc h (hrs s hs) h1 h2 h3).1) hrow, ?_⟩
    have h2 := (row_row0 (vp_ok (fun s i j _ _ => cf_wf h s i j)) hre).2 hrow
    have h3 : Row (fun s i j v => ∃ k, Dr K (leafC c w n) (emC c n) k s i j v) r.right i j v := row_mem (fun s hs i j v hp => (cf_V hc h (hrs s hs) hp.1 hp.2.1 hp.2.2).2) h2
    obtain ⟨k, hk⟩ := row_ex h3
    exact ⟨k + 1, .inr ⟨rfl, r, hr, rfl, .inr hk⟩⟩
theorem cf_upd (hK : KOk N tm K) {T : Tb} (h : CF c w n N tm K T) {r : Rule} (hr : r ∈ K) {i j : Nat} (hij : i ≤ j) (hj : j ≤ n) {v : Val} (hg : Good tm v i j ∧ DrE c w n K ⟨false, r.left⟩ i j v) : CF c w n N tm K (upd T r.left i j (some v)) := by
  intro A x y u e
  unfold upd at e
  split at e
  · rename_i e2
    obtain ⟨rfl, rfl, rfl⟩ := e2
    cases e
    obtain ⟨h1, h2, _, _⟩ := hK r hr
    exact ⟨hij, hj, h1, h2, hg⟩
  · exact h A x y u e
theorem cf_none : CF c w n N tm K (fun _ _ _ => none) := fun A x y v e => by cases e
end
end Rp
end Go.Proofs.Ytjpmebppdcclbaa
namespace Go.Proofs.Ytjpmebppdcclbaa
namespace Rp

def Mf : Nat → Nat
  | 0 => 1300
  | f + 1 => 4 * Mf f + 1300
theorem Mf_ge (f : Nat) : 1300 ≤ Mf f := by cases f <;> simp [Mf]
theorem Mf_le {f f' : Nat} (h : f ≤ f') : Mf f ≤ Mf f' := by
  induction h with
  | refl => exact Nat.le_refl _
  | step _ ih => simp only [Mf]; omega
section
variable (n N : Nat)
def AN (T : Tb) (a : Nat) : Prop := ∀ x y, x ≤ y → y ≤ n → T (a : Int) x y = none
def AS (T : Tb) (a m : Nat) : Prop := ∀ x y, x ≤ y → y ≤ n → ∃ v, T (a : Int) x y = some v ∧ v.c ≤ m
/-- F: the found ones -/
def FOk (F : List Nat) : Prop := F.Nodup ∧ ∀ a ∈ F, a < N
def GS (F : List Nat) (T : Tb) : Prop := FOk N F ∧ ∀ a, a < N → (a ∈ F → AS n T a (Mf F.length)) ∧ (a ∉ F → AN n T a)
def blk (F : List Nat) (r : Rule) : Prop := ∃ s ∈ r.right, s.term = false ∧ s.n.toNat ∉ F
structure NEW (F : List Nat) (r : Rule) (la : Nat) (vis : Nat → Nat → Prop) (T : Tb) : Prop where
  fok : FOk N F
  no : la ∉ F
  old : ∀ a, a < N → a ≠ la → (a ∈ F → AS n T a (Mf F.length)) ∧ (a ∉ F → AN n T a)
  rt : ∀ s ∈ r.right, s.term = false → s.n.toNat ∈ F
  yes : ∀ x y, x ≤ y → y ≤ n → vis x y → ∃ v, T (la : Int) x y = some v ∧ v.c ≤ Mf (F.length + 1)
  non : ∀ x y, x ≤ y → y ≤ n → ¬ vis x y → T (la : Int) x y = none
/-- while the rule r is being applied -/
def RS (r : Rule) (la : Nat) (vis : Nat → Nat → Prop) (T : Tb) : Prop := ∃ F, (GS n N F T ∧ (la ∈ F ∨ blk F r)) ∨ NEW n N F r la vis T
end
section
variable {c : Co} {w : List Int} {n N tm : Nat} {K : List Rule}
theorem fok_le {F : List Nat} (h : FOk N F) : F.length ≤ N := by
  have := Al.nodup_le F (List.range N) h.1 (fun x hx => by simpa using h.2 x hx)
  simpa using this
theorem fok_lt {F : List Nat} {la : Nat} (h : FOk N F) (hl : la < N) (hn : la ∉ F) : F.length + 1 ≤ N := by
  have := fok_le (N := N) (F := la :: F) ⟨List.nodup_cons.2 ⟨hn, h.1⟩, fun a ha => by
    rcases List.mem_cons.1 ha with rfl | ha
    · exact hl
    · exact h.2 a ha⟩
  simpa using this
theorem rs_start {T : Tb} {F : List Nat} {r : Rule} {la : Nat} (hla : la < N) (h : GS n N F T) {vis : Nat → Nat → Prop} (hv : ∀ x y, x ≤ y → y ≤ n → ¬ vis x y) : RS n N r la vis T := by
  refine ⟨F, ?_⟩
  by_cases h1 : la ∈ F
  · exact .inl ⟨h, .inl h1⟩
  · by_cases h2 : blk F r
    · exact .inl ⟨h, .inr h2⟩
    · refine .inr ⟨h.1, h1, fun a ha _ => h.2 a ha, fun s hs ht => ?_, fun x y h3 h4 h5 => absurd h5 (hv x y h3 h4), fun x y h3 h4 _ => (h.2 la hla).2 h1 x y h3 h4⟩
      exact Classical.byContradiction fun h3 => h2 ⟨s, hs, ht, h3⟩
theorem rs_end {T : Tb} {r : Rule} {la : Nat} (hla : la < N) {vis : Nat → Nat → Prop} (hv : ∀ x y, x ≤ y → y ≤ n → vis x y) (h : RS n N r la vis T) : ∃ F, GS n N F T := by
  obtain ⟨F, ⟨h, _⟩ | h⟩ := h
  · exact ⟨F, h⟩
  · refine ⟨la :: F, ⟨List.nodup_cons.2 ⟨h.no, h.fok.1⟩, fun a ha => ?_⟩, fun a ha => ⟨fun hm => ?_, fun hm => ?_⟩⟩
    · rcases List.mem_cons.1 ha with rfl | ha
      · exact hla
      · exact h.fok.2 a ha
    · by_cases e : a = la
      · subst e
        exact fun x y h1 h2 => h.yes x y h1 h2 (hv x y h1 h2)
      · have hm' : a ∈ F := by
          rcases List.mem_cons.1 hm with h1 | h1
          · exact absurd h1 e
          · exact h1
        intro x y h1 h2
        obtain ⟨v, h3, h4⟩ := (h.old a ha e).1 hm' x y h1 h2
        exact ⟨v, h3, Nat.le_trans h4 (Mf_le (by simp))⟩
    · exact (h.old a ha (fun e => hm (by simp [e]))).2 (fun h1 => hm (by simp [h1]))
theorem row0_ex {V : Sym → Nat → Nat → Option Val} : ∀ {l : List Sym} {i j : Nat}, l ≠ [] → (∀ s ∈ l, ∀ i j, i ≤ j → j ≤ n → ∃ v, V s i j = some v) → i ≤ j → j ≤ n → ∃ v, Row0 (VP V n) l i j v
  | [], _, _, h, _, _, _ => absurd rfl h
  | [s], i, j, _, hV, hij, hj => by
    obtain ⟨a, ha⟩ := hV s (by simp) i j hij hj
    exact ⟨_, j, a, zero, hij, Nat.le_refl _, ⟨hij, hj, ha⟩, ⟨rfl, rfl⟩, rfl⟩
  | s :: t :: l, i, j, _, hV, hij, hj => by
    obtain ⟨a, ha⟩ := hV s (by simp) i j hij hj
    obtain ⟨b, hb⟩ := row0_ex (l := t :: l) (i := j) (j := j) (by simp) (fun s hs => hV s (by simp [List.mem_cons] at hs ⊢; exact .inr hs)) (Nat.le_refl _) hj
    exact ⟨_, j, a, b, hij, Nat.le_refl _, ⟨hij, hj, ha⟩, hb, rfl⟩
theorem row0_all {V : Sym → Nat → Nat → Option Val} : ∀ {l : List Sym} {i j : Nat} {v : Val}, Row0 (VP V n) l i j v → ∀ s ∈ l, ∃ x y u, x ≤ y ∧ y ≤ n ∧ V s x y = some u
  | [], _, _, _, _, s, hs => by cases hs
  | t :: l, i, j, v, ⟨m, a, b, h1, h2, h3, h4, e⟩, s, hs => by
    rcases List.mem_cons.1 hs with rfl | hs
    · exact ⟨i, m, a, h3.1, h3.2.1, h3.2.2⟩
    · exact row0_all h4 s hs
/-- a rule whose right side is found gives a value -/
theorem rv_new (hc : c.ok) (hn : n ≤ 12) {T : Tb} (hcf : CF c w n N tm K T) {r : Rule} (hr4 : r.right.length ≤ 4) {m : Nat} (hm : 1300 ≤ m) (hrs : ∀ s ∈ r.right, okS N tm s) (hV : ∀ s ∈ r.right, s.term = false → ∀ i j, i ≤ j → j ≤ n → ∃ v, T s.n i j = some v ∧ v.c ≤ m) {i j : Nat} (hij : i ≤ j) (hj : j ≤ n) :
    ∃ v, rvT (leafR c w) (emR c) T r i j = some v ∧ v.c ≤ 4 * m + 1300 := by
  obtain ⟨q1, q2, q3, q4, q5, q6⟩ := hc
  unfold rvT
  by_cases hre : r.right = []
  · rw [if_pos hre]
    refine ⟨_, rfl, ?_⟩
    show (j - i) * c.c1 ≤ _
    have : (j - i) * c.c1 ≤ 12 * 100 := Nat.mul_le_mul (by omega) q4
    omega
  · rw [if_neg hre]
    have hone : ∀ (t : Int) i j, i ≤ j → j ≤ n → oneC c w t i j ≤ 1300 := by
      intro t i j h1 h2
      have h3 : (j - i) * c.c1 ≤ 12 * 100 := Nat.mul_le_mul (by omega) q4
      have h4 : oneB c (j - i) ≤ 1300 := by
        unfold oneB
        split <;> omega
      unfold oneC
      split <;> omega
    have hVs : ∀ s ∈ r.right, ∀ i j, i ≤ j → j ≤ n → ∃ v, ofT (leafR c w) T s i j = some v ∧ v.c ≤ m ∧ v.n ≤ m + 12 := by
      intro s hs i j h1 h2
      rw [of_leafR]
      by_cases ht : s.term = true
      · rw [if_pos ht]
        have := hone s.n i j h1 h2
        exact ⟨_, rfl, by show oneC c w s.n i j ≤ m; omega, by show 1 ≤ m + 12; omega⟩
      · rw [if_neg ht]
        obtain ⟨v, h3, h4⟩ := hV s hs (by simpa using ht) i j h1 h2
        obtain ⟨_, _, _, _, h5, _⟩ := hcf _ _ _ _ h3
        have := h5.2.1
        exact ⟨v, h3, h4, by omega⟩
    have hbd := bd_lst (V := ofT (leafR c w) T) (M := m + 12) (N := n) (l := r.right) (fun s hs i j h1 h2 => by
      obtain ⟨v, h3, h4, h5⟩ := hVs s hs i j h1 h2
      refine ⟨cf_wf hcf s i j, ?_, ?_⟩
      · rw [h3]; show v.c ≤ m + 12; omega
      · rw [h3]; exact h5) hij hj
    have hbest := (best_lstV (V := ofT (leafR c w) T) (n := n) hre (fun s _ i j _ _ => cf_wf hcf s i j) hij hj).2
    cases e : lstV (ofT (leafR c w) T) r.right i j with
    | none =>
      rw [e] at hbest
      obtain ⟨v, hv⟩ := row0_ex (V := ofT (leafR c w) T) hre (fun s hs i j h1 h2 => by obtain ⟨v, h3, _⟩ := hVs s hs i j h1 h2; exact ⟨v, h3⟩) hij hj
      exact absurd hv (hbest v)
    | some v =>
      rw [e] at hbd
      have h1 : v.c ≤ r.right.length * (m + 12) := hbd.2.1
      have h2 : r.right.length * (m + 12) ≤ 4 * (m + 12) := Nat.mul_le_mul_right _ hr4
      exact ⟨v, rfl, by omega⟩
/-- a rule that is blocked gives none -/
theorem rv_blk {T : Tb} (hcf : CF c w n N tm K T) {F : List Nat} (hg : GS n N F T) {r : Rule} (hrs : ∀ s ∈ r.right, okS N tm s) (hb : blk F r) {i j : Nat} (hij : i ≤ j) (hj : j ≤ n) : rvT (leafR c w) (emR c) T r i j = none := by
  obtain ⟨s, hs, ht, hF⟩ := hb
  have hre : r.right ≠ [] := fun e => by rw [e] at hs; cases hs
  unfold rvT
  rw [if_neg hre]
  have hbest := (best_lstV (V := ofT (leafR c w) T) (n := n) hre (fun s _ i j _ _ => cf_wf hcf s i j) hij hj).2
  cases e : lstV (ofT (leafR c w) T) r.right i j with
  | none => rfl
  | some v =>
    rw [e] at hbest
    obtain ⟨x, y, u, h1, h2, h3⟩ := row0_all hbest.1 s hs
    rw [of_leafR, if_neg (by rw [ht]; simp)] at h3
    obtain ⟨h4, _, h5⟩ := hrs s hs
    have h6 : ((s.n.toNat : Nat) : Int) = s.n := by omega
    have := (hg.2 s.n.toNat (by have := h5 ht; omega)).2 hF x y h1 h2
    rw [h6] at this
    rw [this] at h3
    cases h3
/-- better values keep what is found -/
theorem gs_better {T T' : Tb} {F : List Nat} {la : Nat} (hl : la ∈ F) (hwf : ∀ A x y, WfO (T A x y)) (hT : ∀ A x y, T' A x y = T A x y ∨ (A = (la : Int) ∧ ∃ v, T' A x y = some v ∧ Wf v ∧ lessB (some v) (T A x y) = true)) (h : GS n N F T) : GS n N F T' := by
  refine ⟨h.1, fun a ha => ⟨fun hm x y h1 h2 => ?_, fun hm x y h1 h2 => ?_⟩⟩
  · obtain ⟨v, h3, h4⟩ := (h.2 a ha).1 hm x y h1 h2
    rcases hT (a : Int) x y with h5 | ⟨_, u, h5, h6, h7⟩
    · exact ⟨v, by rw [h5]; exact h3, h4⟩
    · rw [h3] at h7
      have := (less_some h6 (hwf _ _ _ v h3)).1 h7
      rw [lt_iff] at this
      exact ⟨u, h5, by omega⟩
  · rcases hT (a : Int) x y with h5 | ⟨h6, _⟩
    · rw [h5]; exact (h.2 a ha).2 hm x y h1 h2
    · have : a = la := by omega
      exact absurd (this ▸ hl) hm
theorem new_step {T T' : Tb} {F : List Nat} {r : Rule} {la : Nat} {vis vis' : Nat → Nat → Prop} (h : NEW n N F r la vis T) (hsame : ∀ A x y, ¬ (A = (la : Int) ∧ vis' x y ∧ ¬ vis x y) → T' A x y = T A x y) (hup : ∀ x y, vis x y → vis' x y)
    (hnew : ∀ x y, x ≤ y → y ≤ n → vis' x y → ¬ vis x y → ∃ v, T' (la : Int) x y = some v ∧ v.c ≤ Mf (F.length + 1)) : NEW n N F r la vis' T' := by
  refine ⟨h.fok, h.no, fun a ha hne => ⟨fun hm x y h1 h2 => ?_, fun hm x y h1 h2 => ?_⟩, h.rt, fun x y h1 h2 h3 => ?_, fun x y h1 h2 h3 => ?_⟩
  · rw [hsame _ _ _ (fun e => hne (by omega))]; exact (h.old a ha hne).1 hm x y h1 h2
  · rw [hsame _ _ _ (fun e => hne (by omega))]; exact (h.old a ha hne).2 hm x y h1 h2
  · by_cases h4 : vis x y
    · rw [hsame _ _ _ (fun e => e.2.2 h4)]; exact h.yes x y h1 h2 h4
    · exact hnew x y h1 h2 h3 h4
  · rw [hsame _ _ _ (fun e => h3 e.2.1)]; exact h.non x y h1 h2 (fun h4 => h3 (hup x y h4))
end
end Rp
end Go.Proofs.Ytjpmebppdcclbaa
namespace Go.Proofs.Ytjpmebppdcclbaa
open Go.RowKit
namespace Rp

/-- a function value that answers for the empty rule -/
def EmpFn (en : Nat) (eb : Array Value) (emF : Nat → Nat → Option Val) (n : Nat) (P : Nat → Prop) (w : World) : Prop :=
  ∀ W (i j : Nat), i ≤ j → j ≤ n → Below w.heap.size w W → Calls Try.prog en (#[.int .i64 (i : Nat), .int .i64 (j : Nat)] ++ eb) W fun e w' => ∃ x, e = .returned x ∧ VR (fun k => P k ∨ W.heap.size ≤ k) w' x (emF i j) ∧ Below W.heap.size W w'
/-- the grid in memory -/
structure SM (P : Nat → Prop) (W : World) (gt gn gs : Int) (gr fv ev : Value) (n : Nat) (T : Tb) (wr : World) : Prop where
  bel : Below W.heap.size W wr
  sz : W.heap.size + 3 ≤ wr.heap.size
  gbox : wr.heap[W.heap.size]? = some (.cells #[.int .i64 gt, .int .i64 gn, .int .i64 gs, gr] 24 (0, 0))
  grid : wr.heap[W.heap.size + 2]? = some (.cells #[.int .i64 gt, .int .i64 gn, .int .i64 gs, gr, .int .i64 (n : Int), fv, ev, .map (some (W.heap.size + 1))] 122 (0, 0))
  map : RMap (fun k => P k ∨ W.heap.size + 3 ≤ k) (W.heap.size + 1) T wr
theorem bx_cells8r {w : World} {b : Nat} {x0 x1 x2 x3 x4 x5 x6 x7 : Value} {T : TypeId} (h : w.heap[b]? = some (.cells #[x0, x1, x2, x3, x4, x5, x6, x7] T (0, 0))) :
    w.cell? ⟨b, 0, none⟩ = some x0 ∧ w.cell? ⟨b, 0 + 1, none⟩ = some x1 ∧ w.cell? ⟨b, 0 + 2, none⟩ = some x2 ∧ w.cell? ⟨b, 0 + 3, none⟩ = some x3 ∧ w.cell? ⟨b, 0 + 4, none⟩ = some x4 ∧ w.cell? ⟨b, 0 + 5, none⟩ = some x5 ∧ w.cell? ⟨b, 0 + 6, none⟩ = some x6 ∧ w.cell? ⟨b, 0 + 7, none⟩ = some x7 := by
  refine ⟨?_, ?_, ?_, ?_, ?_, ?_, ?_, ?_⟩ <;> simp [World.cell?, h]
theorem SM.keep {P : Nat → Prop} {W : World} {gt gn gs : Int} {gr fv ev : Value} {n : Nat} {T : Tb} {wr w' : World} (h : SM P W gt gn gs gr fv ev n T wr) (hb : Below wr.heap.size wr w') : SM P W gt gn gs gr fv ev n T w' :=
  ⟨h.bel.trans (hb.mono h.bel.size), Nat.le_trans h.sz hb.size, bx_keep h.gbox hb, bx_keep h.grid hb, h.map.keep hb⟩
theorem LeafFn.mono {fn : Nat} {lb : Array Value} {leafF : Sym → Nat → Nat → Option Val} {ok : Sym → Prop} {N : Nat} {P P' : Nat → Prop} {w : World} (h : LeafFn fn lb leafF ok N P w) (hp : ∀ k, P k → P' k) : LeafFn fn lb leafF ok N P' w := by
  intro W y i j h1 h2 h3 h4
  refine (h W y i j h1 h2 h3 h4).mono ?_
  rintro e w' ⟨x, h5, h6, h7⟩
  exact ⟨x, h5, h6.mono fun k hk _ => hk.imp (hp k) id, h7⟩
theorem lessB_some {o p : Option Val} (h : lessB o p = true) : ∃ v, o = some v := by
  cases o with
  | none => cases p <;> simp [lessB, lessX] at h
  | some v => exact ⟨v, rfl⟩
theorem SM.ofFn {P : Nat → Prop} {W : World} {gt gn gs : Int} {gr ev : Value} {n : Nat} {T : Tb} {wr : World} {fn : Nat} {lb : Array Value} {leafF : Sym → Nat → Nat → Option Val} {ok : Sym → Prop} (h : SM P W gt gn gs gr (.func (.func fn) #[] lb) ev n T wr) (eg : ∀ args w, (callFunc fn args).run Try.prog w = .ok (.enter fn args) w) (hf : LeafFn fn lb leafF ok n P W) (hP : ∀ k, P k → k < W.heap.size) (hn : n ≤ 100) (hok : ∀ s, ok s → okN s.n) :
    OfFn (W.heap.size + 2) (ofT leafF T) ok n (fun k => (P k ∨ W.heap.size + 3 ≤ k) ∧ k < wr.heap.size) wr := by
  intro W' y i j hy hij hjn hb
  have hPw : ∀ k, P k → k < wr.heap.size := fun k hk => Nat.lt_of_lt_of_le (hP k hk) h.bel.size
  exact ofE fn lb leafF ok n _ W eg (hf.mono fun k hk => ⟨.inl hk, hPw k hk⟩) _ _ _ _ _ _ _ _ T y i j hy ⟨hok y hy, by omega, by omega⟩ hij hjn W' (h.bel.trans (hb.mono h.bel.size)) (fun k hk => Nat.lt_of_lt_of_le hk.2 hb.size) (bx_keep h.grid hb) ((h.map.mono fun k hk hl => ⟨hk, hl⟩).keep hb)
set_option maxHeartbeats 8000000 in
set_option maxRecDepth 100000 in
theorem solveE (fn : Nat) (lb : Array Value) (leafF : Sym → Nat → Nat → Option Val) (en : Nat) (eb : Array Value) (emF : Nat → Nat → Option Val) (ok : Sym → Prop) (n M : Nat) (P : Nat → Prop) (W : World)
    (eg : ∀ args w, (callFunc fn args).run Try.prog w = .ok (.enter fn args) w) (eg2 : ∀ args w, (callFunc en args).run Try.prog w = .ok (.enter en args) w) (hf : LeafFn fn lb leafF ok n P W) (he : EmpFn en eb emF n P W) (hP : ∀ k, P k → k < W.heap.size) (hn : n ≤ 100) (hM : M ≤ 288230376151711744)
    (K : List Rule) (gt gn gs : Int) (gr : Value) (hgr : Rd AnyB W (.sl (K.map Rule.d)) [gr]) (hK : ∀ r ∈ K, okN r.left ∧ r.right.length ≤ 4 ∧ ∀ s ∈ r.right, ok s) (hok : ∀ s, ok s → okN s.n) (Inv : Nat → Nat → Nat → Tb → Prop) (mu : Tb → Nat) (PL : Plan K leafF emF n ok M Inv mu) :
    Calls Try.prog 41 #[.agg #[.int .i64 gt, .int .i64 gn, .int .i64 gs, gr], .int .i64 (n : Nat), .func (.func fn) #[] lb, .func (.func en) #[] eb] W fun e w' =>
      ∃ T, e = .returned (.pointer (some ⟨W.heap.size + 2, 0, none⟩)) ∧ Inv 0 0 0 T ∧ ClosedT K leafF emF n T ∧ SM P W gt gn gs gr (.func (.func fn) #[] lb) (.func (.func en) #[] eb) n T w' := by
  obtain ⟨ga, gcap, hgf, hgc1, hgc2⟩ := hgr.form
  rw [List.length_map] at hgf hgc1
  subst hgf
  obtain ⟨kn, HKN⟩ := nameIt K.length
  rw [HKN.out] at hgr hgc1 ⊢
  unfold maxLen at hgc2
  have hmk : ∀ W : World, (Instr.makeMap 120 none).run Try.prog W = .ok (.map (some W.heap.size)) (W.alloc (.map #[] 0)) := fun W => by
    simp [Instr.makeMap, run_underlying Try.underlying120]; try rfl
  obtain ⟨PST, HP⟩ := nameIt (fun (e : Ending) (w' : World) => ∃ T, e = .returned (.pointer (some ⟨W.heap.size + 2, 0, none⟩)) ∧ Inv 0 0 0 T ∧ ClosedT K leafF emF n T ∧ SM P W gt gn gs (.slice ga kn gcap) (.func (.func fn) #[] lb) (.func (.func en) #[] eb) n T w')
  have HFIN : Hid (∀ T w', Inv 0 0 0 T → ClosedT K leafF emF n T → SM P W gt gn gs (.slice ga kn gcap) (.func (.func fn) #[] lb) (.func (.func en) #[] eb) n T w' → PST (.returned (.pointer (some ⟨W.heap.size + 2, 0, none⟩))) w') := by
    intro T w' h1 h2 h3; rw [← HP.out]; exact ⟨T, rfl, h1, h2, h3⟩
  rw [HP.out]
  clear HP
  have hn' : (n : Int) ≤ 100 := by omega
  obtain ⟨w1, HW1⟩ := nameIt (((W.alloc (.cells #[.int .i64 gt, .int .i64 gn, .int .i64 gs, .slice ga kn gcap] 24)).alloc (.map #[] 0)).alloc (.cells #[.int .i64 gt, .int .i64 gn, .int .i64 gs, .slice ga kn gcap, .int .i64 (n : Int), .func (.func fn) #[] lb, .func (.func en) #[] eb, .map (some (W.heap.size + 1))] 122))
  have HSM0 : Hid (SM P W gt gn gs (.slice ga kn gcap) (.func (.func fn) #[] lb) (.func (.func en) #[] eb) n (fun _ _ _ => none) w1) := by
    rw [← HW1.out]
    refine ⟨(((Below.refl _ _).alloc (Nat.le_refl _) _).alloc (by simp) _).alloc (by simp; omega) _, by simp, ?_, ?_, ?_⟩
    · exact bx_keep (bx_keep (bx_new _ _ _ rfl) ((Below.refl _ _).alloc (Nat.le_refl _) _)) ((Below.refl _ _).alloc (Nat.le_refl _) _)
    · exact bx_new _ _ _ (by simp)
    · exact (RMap.start _ _ (by simp)).keep ((Below.refl _ _).alloc (Nat.le_refl _) _)
  have HGR := Lib.hid (hgr.mono (S' := fun k => k < W.heap.size) (fun k _ hl => hl))
  have HKK := Lib.hid hK
  have HPL := Lib.hid PL
  have HF := Lib.hid hf
  have HE := Lib.hid he
  have HOK := Lib.hid hok
  have HPP := Lib.hid hP
  have HEG := Lib.hid eg
  have HMM := Lib.hid hM
  obtain ⟨fuel, HFU⟩ := nameIt (mu (fun _ _ _ => none))
  clear hgr hK PL hf he hok hP hM eg
  go_enter Try.func41, Try.ntmps41
  go_wp2_with fail
  rw [HW1.out]
  clear hmk HW1
  go_loopg [10, 12, 13, 14, 15, 16] (fuel + 1) (fun gg v10 v12 v13 v14 v15 v16 wr => ∃ (b : Bool) (T : Tb), v10 = .bool b ∧ Hid (SM P W gt gn gs (.slice ga kn gcap) (.func (.func fn) #[] lb) (.func (.func en) #[] eb) n T wr) ∧ Hid (Inv 0 0 0 T) ∧ Hid (b = true → mu T + 1 ≤ gg) ∧ Hid (b = false → ClosedT K leafF emF n T))
  case atStart => exact ⟨true, _, rfl, HSM0, HPL.out.start, fun _ => by rw [HFU.out]; exact Nat.le_refl _, fun e => by cases e⟩
  case round =>
    clear HSM0 HFU fuel
    obtain ⟨b, T0, rfl, HSM, HIN, HLE, HCL⟩ := hrel
    obtain ⟨wo, rfl⟩ : ∃ wo : World, wo = wr := ⟨_, rfl⟩
    cases b with
    | false =>
      have HFI := Lib.hid (HFIN.out T0 wo HIN.out (HCL.out rfl) HSM.out)
      go_wp2_with fail
      exact HFI.out
    | true =>
      obtain ⟨m0, HM0⟩ := nameIt (mu T0)
      have hgg : m0 + 1 ≤ gk := by have := HLE.out rfl; rw [HM0.out] at this; exact this
      have HST0 : Hid (St K leafF emF n Inv mu m0 0 0 0 false T0) := by rw [← HM0.out]; exact St.begin HIN.out
      obtain ⟨g0, g1, g2, g3⟩ := bx_cells4 HSM.out.gbox
      clear HLE HCL HIN HM0
      go_wp2_with fail
      go_loopg [10, 12, 13, 14, 15, 16, 28] kn (fun gg v10 v12 v13 v14 v15 v16 v28 wr => ∃ (a : Nat) (b : Bool) (T : Tb), a ≤ kn ∧ kn - a ≤ gg ∧ v10 = .bool b ∧ v28 = .int .i64 (a : Nat) ∧ Hid (St K leafF emF n Inv mu m0 a 0 0 b T) ∧ Hid (SM P W gt gn gs (.slice ga kn gcap) (.func (.func fn) #[] lb) (.func (.func en) #[] eb) n T wr))
      case atStart => exact ⟨0, false, T0, by omega, by omega, rfl, rfl, HST0, HSM⟩
      case round =>
        clear HSM HST0 g0 g1 g2 g3 T0 wo
        obtain ⟨a, b, T0, hakn, hgg2, rfl, rfl, HST, HSM⟩ := hrel
        obtain ⟨w0, rfl⟩ : ∃ wo : World, wo = wr := ⟨_, rfl⟩
        by_cases hlt : a < kn
        · have haK : a < K.length := by rw [HKN.out]; exact hlt
          have hlt' : (a : Int) < (kn : Int) := by omega
          obtain ⟨r, HR⟩ := nameIt (K[a]'haK)
          have HRA : Hid (K[a]? = some r) := by show _ = _; rw [List.getElem?_eq_getElem haK, HR.out]
          have hrm : r ∈ K := by rw [← HR.out]; exact List.getElem_mem haK
          obtain ⟨hrl, hr4, hrs⟩ := HKK.out r hrm
          obtain ⟨gb0, go0, rsv, hga, -, -, c0, c1, hrr⟩ := (HGR.out.below HSM.out.bel).rule_at haK
          rw [HR.out] at c0 hrr
          obtain ⟨ra, rk, hrf, hrc1, hrc2⟩ := hrr.form
          rw [List.length_map] at hrf hrc1
          subst hrf hga
          obtain ⟨rn, HRN⟩ := nameIt r.right.length
          obtain ⟨rl, HRL⟩ := nameIt r.left
          rw [HRN.out] at hrr hrc1 c1 hr4
          rw [HRL.out] at c0 hrl
          have HRL2 := Lib.hid hrl
          have HRS := Lib.hid hrs
          unfold maxLen at hrc2
          obtain ⟨w3, HW3⟩ := nameIt (w0.alloc (.cells #[.int .i64 rl, .slice ra rn rk] 69))
          have hw3 : Below w0.heap.size w0 w3 := by rw [← HW3.out]; exact (Below.refl _ _).alloc (Nat.le_refl _) _
          have HRB0 : Hid (w3.heap[w0.heap.size]? = some (.cells #[.int .i64 rl, .slice ra rn rk] 69 (0, 0))) := by rw [← HW3.out]; exact bx_new _ _ _ rfl
          have HRR0 := Lib.hid (hrr.below hw3)
          have HSM3 := Lib.hid (HSM.out.keep hw3)
          have HSZ0 := Lib.hid HSM.out.sz
          have HB03 := Lib.hid hw3
          clear hrl hrs hw3 hrm hrr
          go_wp2_with fail
          rw [HW3.out]
          clear HW3 c0 c1
          obtain ⟨b12, HB12⟩ := nameIt w0.heap.size
          rw [HB12.out] at HRB0 HSZ0 ⊢
          go_loopg [10, 13, 14, 15, 16] (n + 1) (fun gg v10 v13 v14 v15 v16 wr => ∃ (i : Nat) (b : Bool) (T : Tb), i ≤ n + 1 ∧ n + 1 - i ≤ gg ∧ v10 = .bool b ∧ v13 = .int .i64 (i : Nat) ∧ Hid (St K leafF emF n Inv mu m0 a i i b T) ∧ Hid (SM P W gt gn gs (.slice (some ⟨gb0, go0, none⟩) kn gcap) (.func (.func fn) #[] lb) (.func (.func en) #[] eb) n T wr) ∧ Hid (wr.heap[b12]? = some (.cells #[.int .i64 rl, .slice ra rn rk] 69 (0, 0))) ∧ Hid (Rd (fun k => k < W.heap.size) wr (.sl (r.right.map Sym.d)) [.slice ra rn rk]))
          case atStart => exact ⟨0, b, T0, by omega, by omega, rfl, rfl, HST, HSM3, HRB0, HRR0⟩
          case round =>
            clear HST HSM HSM3 HRB0 HRR0 HB03 HB12 w3 w0 T0 b
            obtain ⟨i, b, T0, hin1, hgg3, rfl, rfl, HST, HSM, HRB, HRR⟩ := hrel
            obtain ⟨w0, rfl⟩ : ∃ wo : World, wo = wr := ⟨_, rfl⟩
            by_cases hin : i ≤ n
            · have hin' : (i : Int) ≤ (n : Int) := by omega
              go_wp2_with fail
              go_loopg [10, 14, 15, 16] (n + 1 - i) (fun gg v10 v14 v15 v16 wr => ∃ (j : Nat) (b : Bool) (T : Tb), i ≤ j ∧ j ≤ n + 1 ∧ n + 1 - j ≤ gg ∧ v10 = .bool b ∧ v14 = .int .i64 (j : Nat) ∧ Hid (St K leafF emF n Inv mu m0 a i j b T) ∧ Hid (SM P W gt gn gs (.slice (some ⟨gb0, go0, none⟩) kn gcap) (.func (.func fn) #[] lb) (.func (.func en) #[] eb) n T wr) ∧ Hid (wr.heap[b12]? = some (.cells #[.int .i64 rl, .slice ra rn rk] 69 (0, 0))) ∧ Hid (Rd (fun k => k < W.heap.size) wr (.sl (r.right.map Sym.d)) [.slice ra rn rk]))
              case atStart => exact ⟨i, b, T0, by omega, by omega, by omega, rfl, rfl, HST, HSM, HRB, HRR⟩
              case round =>
                clear HST HSM HRB HRR w0 T0 b
                obtain ⟨j, b, T, hij, hjn1, hgg4, rfl, rfl, HST, HSM, HRB, HRR⟩ := hrel
                obtain ⟨wi, rfl⟩ : ∃ wo : World, wo = wr := ⟨_, rfl⟩
                by_cases hjn : j ≤ n
                · have hjn' : (j : Int) ≤ (n : Int) := by omega
                  have HHO := Lib.hid (HSM.out.ofFn HEG.out HF.out HPP.out hn HOK.out)
                  have HBJ := Lib.hid HSM.out.bel
                  have HSZJ := Lib.hid HSM.out.sz
                  have HMJ := Lib.hid (HSM.out.map.mono (P' := fun k => (P k ∨ W.heap.size + 3 ≤ k) ∧ k < wi.heap.size) (fun k hk hl => ⟨hk, hl⟩))
                  have HBTR : Hid (∀ q, q = rvT leafF emF T r i j → better leafF emF T r i j = lessB q (T rl i j)) := by
                    intro q e
                    rw [e, ← HRL.out]; rfl
                  obtain ⟨rv, HRV⟩ := nameIt (rvT leafF emF T r i j)
                  have hb12 : W.heap.size + 3 ≤ b12 := HSZ0.out
                  have hb12l : b12 < wi.heap.size := (Array.getElem?_eq_some_iff.1 HRB.out).1
                  obtain ⟨x0, x1, x2, x3, x4, x5, x6, x7⟩ := bx_cells8r HSM.out.grid
                  go_wp2_with fail
                  refine (HE.out wi i j hij hjn HBJ.out).mono ?_
                  rintro e w4 ⟨x, rfl, hv, hb4⟩
                  obtain ⟨a1, m1, k1, rfl, hrd⟩ := vr_form hv
                  obtain ⟨o, HO⟩ := nameIt (emF i j)
                  rw [HO.out] at hrd ⊢
                  obtain ⟨w5, HW5⟩ := nameIt (w4.alloc (.cells #[.bool o.isSome, .int .i64 (oC o), .int .i64 (oN o), .slice a1 m1 k1] 36))
                  have hw5 : Below w4.heap.size w4 w5 := by rw [← HW5.out]; exact (Below.refl _ _).alloc (Nat.le_refl _) _
                  have hz4 := hb4.size
                  have HN5 : Hid (NV wi (fun k => P k ∨ W.heap.size + 3 ≤ k) w4.heap.size o w5) := by
                    refine ⟨hb4.trans (hw5.mono hz4), hz4, _, ?_, (hrd.mono (fun k hk hl => ⟨hk.imp id (fun h => by have := HSZJ.out; omega), by omega⟩)).below hw5⟩
                    rw [← HW5.out]; exact bx_new _ _ _ rfl
                  obtain ⟨b15, HB15⟩ := nameIt w4.heap.size
                  rw [HB15.out] at HN5 hz4
                  have HRB5 := Lib.hid (bx_keep HRB.out HN5.out.1)
                  obtain ⟨y0, y1⟩ := bx_cells2 HRB5.out
                  clear hv hb4 hrd hw5 x0 x1 x2 x3 x4 x5 x6 x7
                  go_upto_region 15 with fail
                  rw [HW5.out, HB15.out]
                  clear HW5 HB15
                  have hrn : rn ≤ 4 := hr4
                  go_upto_if 53 with fail
                  go_cut [] (fun wx => Hid (NV wi (fun k => P k ∨ W.heap.size + 3 ≤ k) b15 rv wx))
                  case first =>
                    by_cases h0 : rn = 0
                    · have hre : r.right = [] := List.eq_nil_of_length_eq_zero (by rw [HRN.out]; exact h0)
                      have HNV : Hid (NV wi (fun k => P k ∨ W.heap.size + 3 ≤ k) b15 rv w5) := by
                        have e : rv = o := by rw [← HRV.out, ← HO.out]; unfold rvT; rw [if_pos hre]
                        rw [e]; exact HN5.out
                      have hd : decide ((0 : Int) < (rn : Int)) = false := by simp; omega
                      clear hre
                      go_wp2_with fail
                      go_meet
                      exact HNV
                    · have hre : r.right ≠ [] := fun e => h0 (by rw [← HRN.out, e]; rfl)
                      have hd : decide ((0 : Int) < (rn : Int)) = true := by simp; omega
                      have hd' : (0 : Int) < (rn : Int) := by omega
                      have hli := listE (W.heap.size + 2) (ofT leafF T) ok n M _ wi HHO.out (fun k hk => hk.2) hn HMM.out (HPL.out.bd a i j T HST.out.inv) r.right hre (by rw [HRN.out]; omega) HRS.out i j hij hjn w5 HN5.out.1 (.slice ra rn rk) (HRR.out.below HN5.out.1).any
                      have HLI := Lib.hid hli
                      have erv : lstV (ofT leafF T) r.right i j = rv := by rw [← HRV.out]; unfold rvT; rw [if_neg hre]
                      rw [erv] at HLI
                      clear hli erv hre
                      obtain ⟨u5, hx5, -⟩ := HN5.out.vr
                      have HX5 := Lib.hid hx5
                      clear hx5
                      go_wp2_with fail
                      refine HLI.out.mono ?_
                      rintro e w6 ⟨x6, rfl, hv6, hb6⟩
                      obtain ⟨a6, m6, k6, rfl, hrd6⟩ := vr_form hv6
                      have HX6 := Lib.hid (bx_keep HX5.out hb6)
                      obtain ⟨f0, f1, f2, f3⟩ := bx_free4 HX6.out
                      obtain ⟨e0, e1, e2, e3⟩ := bx_cells4 HX6.out
                      have hz5 := HN5.out.1.size
                      have hl5 := HN5.out.lt
                      have HNV : Hid (NV wi (fun k => P k ∨ W.heap.size + 3 ≤ k) b15 rv ((((w6.setCell ⟨b15, 0, none⟩ (.bool rv.isSome)).setCell ⟨b15, 0 + 1, none⟩ (.int .i64 (oC rv))).setCell ⟨b15, 0 + 2, none⟩ (.int .i64 (oN rv))).setCell ⟨b15, 0 + 3, none⟩ (.slice a6 m6 k6))) := by
                        refine nv_mk (HN5.out.1.trans (hb6.mono hz5)) hz4 HX6.out (hrd6.mono (fun k hk hl => ?_))
                        rcases hk with hk | hk
                        · exact ⟨hk.1, by have := hk.2; omega⟩
                        · have hk2 : w5.heap.size ≤ k := hk
                          have := HSZJ.out
                          exact ⟨.inr (by omega), by omega⟩
                      clear hv6 hrd6 hb6
                      go_wp2_with fail
                      go_meet
                      exact HNV
                  case rest =>
                    obtain ⟨w6, HW6⟩ := nameIt wc
                    rw [HW6.out] at hcut ⊢
                    clear HW6
                    have HN6 := hcut
                    clear hcut
                    obtain ⟨w7, HW7⟩ := nameIt (w6.alloc (.cells #[.bool false, .int .i64 rl, .int .i64 (i : Nat), .int .i64 (j : Nat)] 125))
                    have hw7 : Below w6.heap.size w6 w7 := by rw [← HW7.out]; exact (Below.refl _ _).alloc (Nat.le_refl _) _
                    have hx16 : w7.heap[w6.heap.size]? = some (.cells #[.bool false, .int .i64 rl, .int .i64 (i : Nat), .int .i64 (j : Nat)] 125 (0, 0)) := by rw [← HW7.out]; exact bx_new _ _ _ rfl
                    have HN7 := Lib.hid (HN6.out.keep hw7)
                    obtain ⟨b16, HB16⟩ := nameIt w6.heap.size
                    rw [HB16.out] at hx16
                    have HB16L : Hid (W.heap.size + 3 ≤ b16) := by
                      show _ ≤ _
                      rw [← HB16.out]
                      have h1 := HN6.out.1.size
                      have := HSZJ.out
                      omega
                    have HX16 := Lib.hid hx16
                    obtain ⟨y0, y1⟩ := bx_cells2 (bx_keep HRB.out HN6.out.1)
                    go_upto_region 18 with fail
                    rw [HW7.out, HB16.out]
                    clear HW7 HB16 hw7 hx16 y0 y1 HN5 HRB5
                    have HSM7 := Lib.hid (HSM.out.keep HN7.out.1)
                    have HM7 := Lib.hid (HMJ.out.keep HN7.out.1)
                    have hkP : okP rl i j := ⟨HRL2.out, by omega, by omega⟩
                    obtain ⟨xq, hlk, hvq⟩ := HM7.out.looks (b := false) hkP
                    simp only [Bool.false_eq_true, if_false] at hvq
                    obtain ⟨q, HQ⟩ := nameIt (T rl i j)
                    rw [HQ.out] at hvq HBTR
                    obtain ⟨aq, mq, kq, rfl, hrq⟩ := vr_form hvq
                    obtain ⟨a15, m15, k15, hx15, hv15⟩ := nv_form HN7.out
                    have HX15 := Lib.hid hx15
                    have HV15 := Lib.hid hv15
                    have HVQ := Lib.hid hvq
                    have HLK := Lib.hid hlk
                    have HBQ := Lib.hid (HBTR.out rv HRV.out.symm)
                    obtain ⟨bb, HBB⟩ := nameIt (lessB rv q)
                    rw [HBB.out] at HBQ
                    have HCS : Hid (∀ w', Below w7.heap.size w7 w' → w'.cell? ⟨W.heap.size + 2, 0 + 7, none⟩ = some (.map (some (W.heap.size + 1))) ∧ w'.cell? ⟨b15, 0, none⟩ = some (.bool rv.isSome) ∧ w'.cell? ⟨b15, 0 + 1, none⟩ = some (.int .i64 (oC rv)) ∧ w'.cell? ⟨b15, 0 + 2, none⟩ = some (.int .i64 (oN rv)) ∧ w'.cell? ⟨b15, 0 + 3, none⟩ = some (.slice a15 m15 k15) ∧
                        w'.cell? ⟨b16, 0, none⟩ = some (.bool false) ∧ w'.cell? ⟨b16, 0 + 1, none⟩ = some (.int .i64 rl) ∧ w'.cell? ⟨b16, 0 + 2, none⟩ = some (.int .i64 (i : Nat)) ∧ w'.cell? ⟨b16, 0 + 3, none⟩ = some (.int .i64 (j : Nat)) ∧
                        (Instr.lookup 120 (.map (some (W.heap.size + 1))) (.agg #[.bool false, .int .i64 rl, .int .i64 (i : Nat), .int .i64 (j : Nat)]) false).run Try.prog w' = .ok (.agg #[.bool q.isSome, .int .i64 (oC q), .int .i64 (oN q), .slice aq mq kq]) w') := by
                      intro w' hb'
                      obtain ⟨h1, h2, h3, h4⟩ := bx_cells4 (bx_keep HX15.out hb')
                      obtain ⟨h5, h6, h7, h8⟩ := bx_cells4 (bx_keep HX16.out hb')
                      exact ⟨(bx_cells8r (bx_keep HSM7.out.grid hb')).2.2.2.2.2.2.2, h1, h2, h3, h4, h5, h6, h7, h8, HLK.out w' hb'⟩
                    clear hx15 hv15 hvq hlk hrq
                    refine wp_region_U (S := (fun w' => w'.cell? ⟨W.heap.size + 2, 0 + 7, none⟩ = some (.map (some (W.heap.size + 1))) ∧ w'.cell? ⟨b15, 0, none⟩ = some (.bool rv.isSome) ∧ w'.cell? ⟨b15, 0 + 1, none⟩ = some (.int .i64 (oC rv)) ∧ w'.cell? ⟨b15, 0 + 2, none⟩ = some (.int .i64 (oN rv)) ∧ w'.cell? ⟨b15, 0 + 3, none⟩ = some (.slice a15 m15 k15) ∧ w'.cell? ⟨b16, 0, none⟩ = some (.bool false) ∧ w'.cell? ⟨b16, 0 + 1, none⟩ = some (.int .i64 rl) ∧ w'.cell? ⟨b16, 0 + 2, none⟩ = some (.int .i64 (i : Nat)) ∧ w'.cell? ⟨b16, 0 + 3, none⟩ = some (.int .i64 (j : Nat)) ∧ (Instr.lookup 120 (.map (some (W.heap.size + 1))) (.agg #[.bool false, .int .i64 rl, .int .i64 (i : Nat), .int .i64 (j : Nat)]) false).run Try.prog w' = .ok (.agg #[.bool q.isSome, .int .i64 (oC q), .int .i64 (oN q), .slice aq mq kq]) w')) 7 (by kernel_rfl) (fun inv => ?_)
                    refine wpU_take (i := 0) (v := .agg #[.bool rv.isSome, .int .i64 (oC rv), .int .i64 (oN rv), .slice a15 m15 k15]) rfl inv (by kernel_rfl) (by kernel_rfl) (by decide) (by decide) (by kernel_rfl) (by kernel_rfl) (by kernel_rfl) (fun _ _ _ h => h) (Or.inl ⟨by rfl, fun w' hw' => ?_⟩) (HCS.out _ (Below.refl _ _).drew) (fun inv => ?_)
                    · obtain ⟨h0, h1, h2, h3, h4, h5, h6, h7, h8, h9⟩ := hw'
                      go_simp
                    try simp only [Act.put, List.setIfInBounds_toArray, List.set_cons_zero, List.set_cons_succ]
                    refine wpU_take (i := 1) (v := .pointer (some ⟨W.heap.size + 2, 0, none⟩)) rfl inv (by kernel_rfl) (by kernel_rfl) (by decide) (by decide) (by kernel_rfl) (by kernel_rfl) (by kernel_rfl) (fun _ _ _ h => h) (Or.inl ⟨by rfl, fun w' hw' => ?_⟩) (HCS.out _ (Below.refl _ _).drew) (fun inv => ?_)
                    · obtain ⟨h0, h1, h2, h3, h4, h5, h6, h7, h8, h9⟩ := hw'
                      go_simp
                    try simp only [Act.put, List.setIfInBounds_toArray, List.set_cons_zero, List.set_cons_succ]
                    refine wpU_take (i := 2) (v := .pointer (some ⟨W.heap.size + 2, 0, none⟩)) rfl inv (by kernel_rfl) (by kernel_rfl) (by decide) (by decide) (by kernel_rfl) (by kernel_rfl) (by kernel_rfl) (fun _ _ _ h => h) (Or.inl ⟨by rfl, fun w' hw' => ?_⟩) (HCS.out _ (Below.refl _ _).drew) (fun inv => ?_)
                    · obtain ⟨h0, h1, h2, h3, h4, h5, h6, h7, h8, h9⟩ := hw'
                      go_simp
                    try simp only [Act.put, List.setIfInBounds_toArray, List.set_cons_zero, List.set_cons_succ]
                    refine wpU_take (i := 3) (v := .pointer (some ⟨W.heap.size + 2, 0 + 7, none⟩)) rfl inv (by kernel_rfl) (by kernel_rfl) (by decide) (by decide) (by kernel_rfl) (by kernel_rfl) (by kernel_rfl) (fun _ _ _ h => h) (Or.inl ⟨by rfl, fun w' hw' => ?_⟩) (HCS.out _ (Below.refl _ _).drew) (fun inv => ?_)
                    · obtain ⟨h0, h1, h2, h3, h4, h5, h6, h7, h8, h9⟩ := hw'
                      go_simp
                    try simp only [Act.put, List.setIfInBounds_toArray, List.set_cons_zero, List.set_cons_succ]
                    refine wpU_take (i := 4) (v := .map (some (W.heap.size + 1))) rfl inv (by kernel_rfl) (by kernel_rfl) (by decide) (by decide) (by kernel_rfl) (by kernel_rfl) (by kernel_rfl) (fun _ _ _ h => h) (Or.inl ⟨by rfl, fun w' hw' => ?_⟩) (HCS.out _ (Below.refl _ _).drew) (fun inv => ?_)
                    · obtain ⟨h0, h1, h2, h3, h4, h5, h6, h7, h8, h9⟩ := hw'
                      go_simp
                    try simp only [Act.put, List.setIfInBounds_toArray, List.set_cons_zero, List.set_cons_succ]
                    refine wpU_take (i := 5) (v := .agg #[.bool false, .int .i64 rl, .int .i64 (i : Nat), .int .i64 (j : Nat)]) rfl inv (by kernel_rfl) (by kernel_rfl) (by decide) (by decide) (by kernel_rfl) (by kernel_rfl) (by kernel_rfl) (fun _ _ _ h => h) (Or.inl ⟨by rfl, fun w' hw' => ?_⟩) (HCS.out _ (Below.refl _ _).drew) (fun inv => ?_)
                    · obtain ⟨h0, h1, h2, h3, h4, h5, h6, h7, h8, h9⟩ := hw'
                      go_simp
                    try simp only [Act.put, List.setIfInBounds_toArray, List.set_cons_zero, List.set_cons_succ]
                    refine wpU_take (i := 6) (v := .agg #[.bool q.isSome, .int .i64 (oC q), .int .i64 (oN q), .slice aq mq kq]) rfl inv (by kernel_rfl) (by kernel_rfl) (by decide) (by decide) (by kernel_rfl) (by kernel_rfl) (by kernel_rfl) (fun _ _ _ h => h) (Or.inl ⟨by rfl, fun w' hw' => ?_⟩) (HCS.out _ (Below.refl _ _).drew) (fun inv => ?_)
                    · obtain ⟨h0, h1, h2, h3, h4, h5, h6, h7, h8, h9⟩ := hw'
                      go_simp
                    try simp only [Act.put, List.setIfInBounds_toArray, List.set_cons_zero, List.set_cons_succ]
                    refine wpU_one (i := 7) (by kernel_rfl) rfl (fun K hK => ?_)
                    go_simp
                    refine (lessE _ _ rv q _ _ _ (HV15.out.below (Below.refl w7.heap.size w7).drew) (HVQ.out.below (Below.refl w7.heap.size w7).drew)).mono ?_
                    rintro e w8 ⟨rfl, hb8⟩
                    have HB8 : Hid (Below w7.heap.size w7 w8) := (Below.refl w7.heap.size w7).drew.trans hb8
                    clear hb8
                    rw [HBB.out]
                    refine hK.out _ _ (fun h => absurd (show true = false from h) (by decide)) ?_
                    clear hK K
                    try simp only [Act.put, List.setIfInBounds_toArray, List.set_cons_zero, List.set_cons_succ]
                    refine wpU_done (by kernel_rfl) ?_ _
                    have hb08 : Below wi.heap.size wi w8 := HN7.out.1.trans (HB8.out.mono HN7.out.1.size)
                    have HB08 := Lib.hid hb08
                    have HSM8 := Lib.hid (HSM.out.keep hb08)
                    have HRB8 := Lib.hid (bx_keep HRB.out hb08)
                    have HRR8 := Lib.hid (HRR.out.below hb08)
                    clear hb08 HCS
                    cases bb with
                    | false =>
                      have HST8 := Lib.hid (HST.out.no HPL.out HRA.out hij hjn HBQ.out)
                      clear HST
                      go_wp2_with fail
                      go_roundg (n + 1 - (j + 1))
                      case measure => omega
                      case rel => exact ⟨j + 1, b, T, by omega, by omega, by omega, rfl, by go_num, HST8, HSM8, HRB8, HRR8⟩
                    | true =>
                      obtain ⟨v, hv⟩ := lessB_some HBB.out
                      have HST8 := HST.out.yes HPL.out HRA.out hij hjn HBQ.out
                      rw [HRV.out, HRL.out, hv] at HST8
                      have HST8 := Lib.hid HST8
                      have hx8 := bx_keep HX15.out HB8.out
                      have hx88 := bx_keep HX16.out HB8.out
                      have hnm : ¬ (P (W.heap.size + 1) ∨ W.heap.size + 3 ≤ W.heap.size + 1) := by
                        rintro (h | h)
                        · have := HPP.out _ h; omega
                        · omega
                      obtain ⟨v0, st, w9, hme, hg9, hst⟩ := (HSM8.out.map.keep (Below.refl w8.heap.size w8).drew).entry hkP hnm
                      have hvr : VR (fun k => P k ∨ W.heap.size + 3 ≤ k) w8.drew (.agg #[.bool rv.isSome, .int .i64 (oC rv), .int .i64 (oN rv), .slice a15 m15 k15]) (some v) := by
                        have := (HV15.out.below HB8.out).mono (P' := fun k => P k ∨ W.heap.size + 3 ≤ k) (fun k hk _ => hk.1)
                        rw [hv] at this ⊢
                        exact this.below (Below.refl w8.heap.size w8).drew
                      obtain ⟨w10, hes, hm10, hg10⟩ := hst _ v hvr
                      have hd8 : Below w8.heap.size w8 w8.drew := (Below.refl w8.heap.size w8).drew
                      have HME := Lib.hid hme
                      have HES := Lib.hid hes
                      have HSM10 : Hid (SM P W gt gn gs (.slice (some ⟨gb0, go0, none⟩) kn gcap) (.func (.func fn) #[] lb) (.func (.func en) #[] eb) n (upd T rl i j (some v)) w10) := by
                        have h8 := HSM8.out.keep hd8
                        refine ⟨h8.bel.grown hg10 h8.bel.size (fun k e => by cases e; omega), Nat.le_trans h8.sz hg10.size, ?_, ?_, hm10⟩
                        · exact (hg10.block _ (by have := h8.sz; omega) (by simp)).trans h8.gbox
                        · exact (hg10.block _ (by have := h8.sz; omega) (by simp)).trans h8.grid
                      have hz8 := HB08.out.size
                      have HRB10 : Hid (w10.heap[b12]? = some (.cells #[.int .i64 rl, .slice ra rn rk] 69 (0, 0))) := (hg10.block b12 (by show b12 < w8.heap.size; omega) (by simp; omega)).trans HRB8.out
                      have HRR10 : Hid (Rd (fun k => k < W.heap.size) w10 (.sl (r.right.map Sym.d)) [.slice ra rn rk]) := rd_grown (HRR8.out.below (Below.refl w8.heap.size w8).drew) hg10 (fun k e h => by cases e; have h2 : W.heap.size + 1 < W.heap.size := h; omega)
                      have HCS9 : Hid (∀ w', (Below w8.heap.size w8 w' ∨ w' = w9) → w'.cell? ⟨W.heap.size + 2, 0 + 7, none⟩ = some (.map (some (W.heap.size + 1))) ∧ w'.cell? ⟨b15, 0, none⟩ = some (.bool rv.isSome) ∧ w'.cell? ⟨b15, 0 + 1, none⟩ = some (.int .i64 (oC rv)) ∧ w'.cell? ⟨b15, 0 + 2, none⟩ = some (.int .i64 (oN rv)) ∧ w'.cell? ⟨b15, 0 + 3, none⟩ = some (.slice a15 m15 k15) ∧
                          w'.cell? ⟨b16, 0, none⟩ = some (.bool false) ∧ w'.cell? ⟨b16, 0 + 1, none⟩ = some (.int .i64 rl) ∧ w'.cell? ⟨b16, 0 + 2, none⟩ = some (.int .i64 (i : Nat)) ∧ w'.cell? ⟨b16, 0 + 3, none⟩ = some (.int .i64 (j : Nat))) := by
                        have hb15 : W.heap.size + 3 ≤ b15 := by have := HN7.out.2.1; have := HSZJ.out; omega
                        have hb16 : W.heap.size + 3 ≤ b16 := HB16L.out
                        have hblk : ∀ w', (Below w8.heap.size w8 w' ∨ w' = w9) → ∀ b o, b ≠ W.heap.size + 1 → w8.heap[b]? = some o → w'.heap[b]? = some o := by
                          rintro w' (hb | rfl) b o hne ho
                          · exact bx_keep ho hb
                          · exact (hg9.block b (Array.getElem?_eq_some_iff.1 ho).1 (by simpa using hne)).trans ho
                        intro w' hw'
                        obtain ⟨h1, h2, h3, h4⟩ := bx_cells4 (hblk w' hw' _ _ (by omega) hx8)
                        obtain ⟨h5, h6, h7, h8⟩ := bx_cells4 (hblk w' hw' _ _ (by omega) hx88)
                        exact ⟨(bx_cells8r (hblk w' hw' _ _ (by omega) HSM8.out.grid)).2.2.2.2.2.2.2, h1, h2, h3, h4, h5, h6, h7, h8⟩
                      clear HST hv hme hg9 hst hvr hes hm10 hg10 hx8 hx88 hnm hd8
                      go_upto_region 19 with fail
                      refine wp_region_U (S := (fun w' => w'.cell? ⟨W.heap.size + 2, 0 + 7, none⟩ = some (.map (some (W.heap.size + 1))) ∧ w'.cell? ⟨b15, 0, none⟩ = some (.bool rv.isSome) ∧ w'.cell? ⟨b15, 0 + 1, none⟩ = some (.int .i64 (oC rv)) ∧ w'.cell? ⟨b15, 0 + 2, none⟩ = some (.int .i64 (oN rv)) ∧ w'.cell? ⟨b15, 0 + 3, none⟩ = some (.slice a15 m15 k15) ∧ w'.cell? ⟨b16, 0, none⟩ = some (.bool false) ∧ w'.cell? ⟨b16, 0 + 1, none⟩ = some (.int .i64 rl) ∧ w'.cell? ⟨b16, 0 + 2, none⟩ = some (.int .i64 (i : Nat)) ∧ w'.cell? ⟨b16, 0 + 3, none⟩ = some (.int .i64 (j : Nat)))) 8 (by kernel_rfl) (fun inv => ?_)
                      refine wpU_take (i := 0) (v := .pointer (some ⟨W.heap.size + 2, 0, none⟩)) rfl inv (by kernel_rfl) (by kernel_rfl) (by decide) (by decide) (by kernel_rfl) (by kernel_rfl) (by kernel_rfl) (fun _ _ _ h => h) (Or.inl ⟨by rfl, fun w' hw' => ?_⟩) (HCS9.out _ (.inl (Below.refl _ _).drew)) (fun inv => ?_)
                      · obtain ⟨h0, h1, h2, h3, h4, h5, h6, h7, h8⟩ := hw'
                        go_simp
                      try simp only [Act.put, List.setIfInBounds_toArray, List.set_cons_zero, List.set_cons_succ]
                      refine wpU_take (i := 1) (v := .pointer (some ⟨W.heap.size + 2, 0, none⟩)) rfl inv (by kernel_rfl) (by kernel_rfl) (by decide) (by decide) (by kernel_rfl) (by kernel_rfl) (by kernel_rfl) (fun _ _ _ h => h) (Or.inl ⟨by rfl, fun w' hw' => ?_⟩) (HCS9.out _ (.inl (Below.refl _ _).drew)) (fun inv => ?_)
                      · obtain ⟨h0, h1, h2, h3, h4, h5, h6, h7, h8⟩ := hw'
                        go_simp
                      try simp only [Act.put, List.setIfInBounds_toArray, List.set_cons_zero, List.set_cons_succ]
                      refine wpU_take (i := 2) (v := .pointer (some ⟨W.heap.size + 2, 0 + 7, none⟩)) rfl inv (by kernel_rfl) (by kernel_rfl) (by decide) (by decide) (by kernel_rfl) (by kernel_rfl) (by kernel_rfl) (fun _ _ _ h => h) (Or.inl ⟨by rfl, fun w' hw' => ?_⟩) (HCS9.out _ (.inl (Below.refl _ _).drew)) (fun inv => ?_)
                      · obtain ⟨h0, h1, h2, h3, h4, h5, h6, h7, h8⟩ := hw'
                        go_simp
                      try simp only [Act.put, List.setIfInBounds_toArray, List.set_cons_zero, List.set_cons_succ]
                      refine wpU_take (i := 3) (v := .map (some (W.heap.size + 1))) rfl inv (by kernel_rfl) (by kernel_rfl) (by decide) (by decide) (by kernel_rfl) (by kernel_rfl) (by kernel_rfl) (fun _ _ _ h => h) (Or.inl ⟨by rfl, fun w' hw' => ?_⟩) (HCS9.out _ (.inl (Below.refl _ _).drew)) (fun inv => ?_)
                      · obtain ⟨h0, h1, h2, h3, h4, h5, h6, h7, h8⟩ := hw'
                        go_simp
                      try simp only [Act.put, List.setIfInBounds_toArray, List.set_cons_zero, List.set_cons_succ]
                      refine wpU_take (i := 4) (v := .agg #[.bool false, .int .i64 rl, .int .i64 (i : Nat), .int .i64 (j : Nat)]) rfl inv (by kernel_rfl) (by kernel_rfl) (by decide) (by decide) (by kernel_rfl) (by kernel_rfl) (by kernel_rfl) (fun _ _ _ h => h) (Or.inl ⟨by rfl, fun w' hw' => ?_⟩) (HCS9.out _ (.inl (Below.refl _ _).drew)) (fun inv => ?_)
                      · obtain ⟨h0, h1, h2, h3, h4, h5, h6, h7, h8⟩ := hw'
                        go_simp
                      try simp only [Act.put, List.setIfInBounds_toArray, List.set_cons_zero, List.set_cons_succ]
                      refine wpU_take (i := 5) (v := .agg #[.bool rv.isSome, .int .i64 (oC rv), .int .i64 (oN rv), .slice a15 m15 k15]) rfl inv (by kernel_rfl) (by kernel_rfl) (by decide) (by decide) (by kernel_rfl) (by kernel_rfl) (by kernel_rfl) (fun _ _ _ h => h) (Or.inl ⟨by rfl, fun w' hw' => ?_⟩) (HCS9.out _ (.inl (Below.refl _ _).drew)) (fun inv => ?_)
                      · obtain ⟨h0, h1, h2, h3, h4, h5, h6, h7, h8⟩ := hw'
                        go_simp
                      try simp only [Act.put, List.setIfInBounds_toArray, List.set_cons_zero, List.set_cons_succ]
                      refine wpU_one (i := 6) (by kernel_rfl) rfl (fun K hK => ?_)
                      replace inv := inv_setc (i := 6) inv (by kernel_rfl) (by decide)
                      have hme := HME.out
                      unfold ptV at hme
                      go_simp
                      refine hK.out _ _ (fun _ => HCS9.out _ (.inr rfl)) ?_
                      clear hK K
                      try simp only [Act.put, List.setIfInBounds_toArray, List.set_cons_zero, List.set_cons_succ]
                      refine wpU_one (i := 7) (by kernel_rfl) rfl (fun K hK => ?_)
                      replace inv := inv_setc (i := 7) inv (by kernel_rfl) (by decide)
                      go_simp
                      refine hK.out _ _ (fun _ => HCS9.out _ (.inr rfl)) ?_
                      clear hK K
                      try simp only [Act.put, List.setIfInBounds_toArray, List.set_cons_zero, List.set_cons_succ]
                      refine wpU_one (i := 8) (by kernel_rfl) rfl (fun K hK => ?_)
                      have hes := HES.out
                      go_simp
                      refine hK.out _ _ (fun h => absurd (show true = false from h) (by decide)) ?_
                      clear hK K
                      try simp only [Act.put, List.setIfInBounds_toArray, List.set_cons_zero, List.set_cons_succ]
                      refine wpU_one (i := 9) (by kernel_rfl) rfl (fun K hK => ?_)
                      go_simp
                      refine hK.out _ _ (fun h => absurd (show true = false from h) (by decide)) ?_
                      clear hK K
                      try simp only [Act.put, List.setIfInBounds_toArray, List.set_cons_zero, List.set_cons_succ]
                      refine wpU_done (by kernel_rfl) ?_ _
                      go_wp2_with fail
                      go_roundg (n + 1 - (j + 1))
                      case measure => omega
                      case rel => exact ⟨j + 1, true, _, by omega, by omega, by omega, rfl, by go_num, HST8, HSM10, HRB10, HRR10⟩
                · have hjn' : ¬ (j : Int) ≤ (n : Int) := by omega
                  obtain rfl : j = n + 1 := by omega
                  have HST2 := Lib.hid (HST.out.row HPL.out hin)
                  clear HST
                  go_wp2_with fail
                  go_roundg (n + 1 - (i + 1))
                  case measure => omega
                  case rel => exact ⟨i + 1, b, T, by omega, by omega, rfl, by go_num, HST2, HSM, HRB, HRR⟩
            · have hin' : ¬ (i : Int) ≤ (n : Int) := by omega
              obtain rfl : i = n + 1 := by omega
              have HST2 := Lib.hid (HST.out.rule HPL.out)
              clear HST
              go_wp2_with fail
              go_roundg (kn - (a + 1))
              case measure => omega
              case rel => exact ⟨a + 1, b, T0, by omega, by omega, rfl, by go_num, HST2, HSM⟩
        · have hlt' : ¬ (a : Int) < (kn : Int) := by omega
          have hae : a = K.length := by have := HKN.out; omega
          have HST2 : Hid (St K leafF emF n Inv mu m0 K.length 0 0 b T0) := by rw [← hae]; exact HST.out
          clear HST hae
          cases b with
          | true =>
            have hml := HST2.out.lt rfl
            go_wp2_with fail
            go_roundg (mu T0 + 1)
            case measure => omega
            case rel => exact ⟨true, T0, rfl, HSM, HST2.out.again HPL.out, fun _ => Nat.le_refl _, fun e => by cases e⟩
          | false =>
            go_wp2_with fail
            go_roundg 0
            case measure => omega
            case rel => exact ⟨false, T0, rfl, HSM, HST2.out.again HPL.out, (fun e => by cases e), fun _ => HST2.out.closed⟩
end Rp
end Go.Proofs.Ytjpmebppdcclbaa
namespace Go.Proofs.Ytjpmebppdcclbaa
namespace Rp

section
variable {c : Co} {w : List Int} {n N tm : Nat} {K : List Rule}
def visL (i j x y : Nat) : Prop := x < i ∨ (x = i ∧ y < j)
def InvS (c : Co) (w : List Int) (n N tm : Nat) (K : List Rule) (vis : Nat → Nat → Prop) (a : Nat) (T : Tb) : Prop :=
  CF c w n N tm K T ∧ ∀ r, (K[a]? = some r → RS n N r r.left.toNat vis T) ∧ (K[a]? = none → ∃ F, GS n N F T)
theorem RS.congr {r : Rule} {la : Nat} {vis vis' : Nat → Nat → Prop} {T : Tb} (hv : ∀ x y, x ≤ y → y ≤ n → (vis x y ↔ vis' x y)) (h : RS n N r la vis T) : RS n N r la vis' T := by
  obtain ⟨F, h | h⟩ := h
  · exact ⟨F, .inl h⟩
  · exact ⟨F, .inr ⟨h.fok, h.no, h.old, h.rt, fun x y h1 h2 h3 => h.yes x y h1 h2 ((hv x y h1 h2).2 h3), fun x y h1 h2 h3 => h.non x y h1 h2 (fun h4 => h3 ((hv x y h1 h2).1 h4))⟩⟩
theorem gs_c {T : Tb} (hcf : CF c w n N tm K T) {F : List Nat} (h : GS n N F T) {A : Int} {x y : Nat} {v : Val} (e : T A x y = some v) : v.c ≤ Mf N := by
  obtain ⟨h1, h2, h3, h4, _⟩ := hcf A x y v e
  have hA : ((A.toNat : Nat) : Int) = A := by omega
  by_cases hm : A.toNat ∈ F
  · obtain ⟨u, h5, h6⟩ := (h.2 A.toNat (by omega)).1 hm x y h1 h2
    rw [hA, e] at h5
    cases h5
    exact Nat.le_trans h6 (Mf_le (fok_le h.1))
  · have := (h.2 A.toNat (by omega)).2 hm x y h1 h2
    rw [hA, e] at this
    cases this
theorem rs_c {T : Tb} (hcf : CF c w n N tm K T) {r : Rule} {la : Nat} (hla : la < N) {vis : Nat → Nat → Prop} (h : RS n N r la vis T) {A : Int} {x y : Nat} {v : Val} (e : T A x y = some v) : v.c ≤ Mf N := by
  obtain ⟨F, ⟨h, _⟩ | h⟩ := h
  · exact gs_c hcf h e
  · obtain ⟨h1, h2, h3, h4, _⟩ := hcf A x y v e
    have hA : ((A.toNat : Nat) : Int) = A := by omega
    by_cases hl : A.toNat = la
    · by_cases hv : vis x y
      · obtain ⟨u, h5, h6⟩ := h.yes x y h1 h2 hv
        rw [← hl, hA, e] at h5
        cases h5
        exact Nat.le_trans h6 (Mf_le (fok_lt h.fok hla h.no))
      · have := h.non x y h1 h2 hv
        rw [← hl, hA, e] at this
        cases this
    · by_cases hm : A.toNat ∈ F
      · obtain ⟨u, h5, h6⟩ := (h.old A.toNat (by omega) hl).1 hm x y h1 h2
        rw [hA, e] at h5
        cases h5
        exact Nat.le_trans h6 (Mf_le (fok_le h.fok))
      · have := (h.old A.toNat (by omega) hl).2 hm x y h1 h2
        rw [hA, e] at this
        cases this
theorem inv_c (hK : KOk N tm K) {vis : Nat → Nat → Prop} {a : Nat} {T : Tb} (h : InvS c w n N tm K vis a T) {A : Int} {x y : Nat} {v : Val} (e : T A x y = some v) : v.c ≤ Mf N := by
  cases hk : K[a]? with
  | none => obtain ⟨F, hF⟩ := (h.2 ⟨0, []⟩).2 hk; exact gs_c h.1 hF e
  | some r =>
    obtain ⟨h1, h2, _⟩ := hK r (List.mem_of_getElem? hk)
    exact rs_c h.1 (by omega) ((h.2 r).1 hk) e
theorem inv_bd (hc : c.ok) (hn : n ≤ 12) (hK : KOk N tm K) {vis : Nat → Nat → Prop} {a : Nat} {T : Tb} (h : InvS c w n N tm K vis a T) (s : Sym) (i j : Nat) (hij : i ≤ j) (hj : j ≤ n) : Bd (Mf N + 12) (ofT (leafR c w) T s i j) := by
  have hge := Mf_ge N
  refine ⟨cf_wf h.1 s i j, ?_, ?_⟩
  all_goals
    cases e : ofT (leafR c w) T s i j with
    | none => exact Nat.zero_le _
    | some v =>
      have e2 := e
      rw [of_leafR] at e2
      split at e2
      · cases e2
        obtain ⟨q1, q2, q3, q4, q5, q6⟩ := hc
        have h3 : (j - i) * c.c1 ≤ 12 * 100 := Nat.mul_le_mul (by omega) q4
        have h5 : (j - i - 1) * c.c1 ≤ 12 * 100 := Nat.mul_le_mul (by omega) q4
        have h4 : oneB c (j - i) ≤ 1300 := by
          unfold oneB
          split <;> omega
        have h6 : oneC c w s.n i j ≤ 1300 := by
          unfold oneC
          split <;> omega
        first
          | (show oneC c w s.n i j ≤ _; omega)
          | (show 1 ≤ _; omega)
      · have h1 := inv_c hK h e2
        obtain ⟨_, _, _, _, h5, _⟩ := h.1 _ _ _ _ e2
        have h6 := h5.2.1
        first
          | (show v.c ≤ _; omega)
          | (show v.n ≤ _; omega)
theorem inv_next {vis vis' : Nat → Nat → Prop} (hK : KOk N tm K) {a a' : Nat} {T : Tb} (hv : ∀ x y, x ≤ y → y ≤ n → vis x y) (hv' : ∀ x y, x ≤ y → y ≤ n → ¬ vis' x y) (h : InvS c w n N tm K vis a T) : InvS c w n N tm K vis' a' T := by
  have hg : ∃ F, GS n N F T := by
    cases hk : K[a]? with
    | none => exact (h.2 ⟨0, []⟩).2 hk
    | some r =>
      obtain ⟨h1, h2, _⟩ := hK r (List.mem_of_getElem? hk)
      exact rs_end (by omega) hv ((h.2 r).1 hk)
  obtain ⟨F, hF⟩ := hg
  refine ⟨h.1, fun r => ⟨fun hk => ?_, fun _ => ⟨F, hF⟩⟩⟩
  obtain ⟨h1, h2, _⟩ := hK r (List.mem_of_getElem? hk)
  exact rs_start (by omega) hF hv'
theorem inv_start {vis : Nat → Nat → Prop} (hK : KOk N tm K) (hv : ∀ x y, x ≤ y → y ≤ n → ¬ vis x y) (a : Nat) : InvS c w n N tm K vis a (fun _ _ _ => none) := by
  have hF : GS n N [] (fun _ _ _ => none) := ⟨⟨List.nodup_nil, fun a h => (by cases h)⟩, fun a _ => ⟨fun h => (by cases h), fun _ _ _ _ _ => rfl⟩⟩
  refine ⟨cf_none, fun r => ⟨fun hk => ?_, fun _ => ⟨[], hF⟩⟩⟩
  obtain ⟨h1, h2, _⟩ := hK r (List.mem_of_getElem? hk)
  exact rs_start (by omega) hF hv
theorem mem_U {v : Val} {i j : Nat} (hg : Good tm v i j) (hj : j ≤ 12) (hc : v.c ≤ Mf N) : v ∈ valsU tm (Mf N) (Mf N + 12) := by
  obtain ⟨h1, h2, h3⟩ := hg
  exact mem_valsU hc (by omega) h1 h3
theorem planS (hc : c.ok) (hn : n ≤ 12) (hK : KOk N tm K) (ok : Sym → Prop) : Plan K (leafR c w) (emR c) n ok (Mf N + 12) (fun a i j T => InvS c w n N tm K (visL i j) a T) (muU (valsU tm (Mf N) (Mf N + 12)) N n) := by
  refine ⟨inv_start hK (fun x y _ _ h => by unfold visL at h; omega) 0, ?_, ?_, ?_, ?_, ?_, fun a i j T h s _ i' j' h1 h2 => inv_bd hc hn hK h s i' j' h1 h2⟩
  · intro a i j T r hk hij hj h hb
    refine ⟨h.1, fun r' => ⟨fun hk' => ?_, (h.2 r').2⟩⟩
    rw [hk] at hk'
    cases hk'
    obtain ⟨h1, h2, h3, h4⟩ := hK r (List.mem_of_getElem? hk)
    obtain ⟨F, hg | hnw⟩ := (h.2 r).1 hk
    · exact ⟨F, .inl hg⟩
    · exfalso
      obtain ⟨v, h5, _⟩ := rv_new hc hn h.1 h3 (Mf_ge F.length) h4 (fun s hs ht i j h6 h7 => by
        obtain ⟨q1, _, q2⟩ := h4 s hs
        have q3 := q2 ht
        have hF := hnw.rt s hs ht
        have := (hnw.old s.n.toNat (by omega) (fun e => hnw.no (e ▸ hF))).1 hF i j h6 h7
        rw [show ((s.n.toNat : Nat) : Int) = s.n by omega] at this
        exact this) hij hj
      have h6 := hnw.non i j hij hj (by unfold visL; omega)
      rw [show ((r.left.toNat : Nat) : Int) = r.left by omega] at h6
      unfold better at hb
      rw [h5, h6] at hb
      cases hb
  · intro a i j T r hk hij hj h hb
    have hrm := List.mem_of_getElem? hk
    obtain ⟨h1, h2, h3, h4⟩ := hK r hrm
    have hla : ((r.left.toNat : Nat) : Int) = r.left := by omega
    have hb0 := hb
    unfold better at hb
    obtain ⟨v, hv⟩ := lessB_some hb
    rw [hv] at hb ⊢
    have hgd := cf_rv hc hK h.1 hrm hij hj hv
    have hcf := cf_upd hK h.1 hrm hij hj hgd
    have hwfT : ∀ A x y, WfO (T A x y) := fun A x y u e => (h.1 A x y u e).2.2.2.2.1.1
    have hrs : RS n N r r.left.toNat (visL i (j + 1)) (upd T r.left i j (some v)) := by
      obtain ⟨F, ⟨hg, hor⟩ | hnw⟩ := (h.2 r).1 hk
      · rcases hor with hl | hbk
        · refine ⟨F, .inl ⟨gs_better hl hwfT (fun A x y => ?_) hg, .inl hl⟩⟩
          unfold upd
          split
          · rename_i e
            obtain ⟨rfl, rfl, rfl⟩ := e
            exact .inr ⟨hla.symm, v, rfl, hgd.1.1, hb⟩
          · exact .inl rfl
        · rw [rv_blk h.1 hg h4 hbk hij hj] at hv
          cases hv
      · obtain ⟨v', h5, h6⟩ := rv_new hc hn h.1 h3 (Mf_ge F.length) h4 (fun s hs ht i j h6 h7 => by
          obtain ⟨q1, _, q2⟩ := h4 s hs
          have q3 := q2 ht
          have hF := hnw.rt s hs ht
          have := (hnw.old s.n.toNat (by omega) (fun e => hnw.no (e ▸ hF))).1 hF i j h6 h7
          rw [show ((s.n.toNat : Nat) : Int) = s.n by omega] at this
          exact this) hij hj
        rw [hv] at h5
        cases h5
        refine ⟨F, .inr (new_step hnw (fun A x y hne => ?_) (fun x y h7 => ?_) (fun x y h7 h8 h9 h10 => ?_))⟩
        · unfold upd
          rw [if_neg (fun e => hne ⟨by omega, by unfold visL; omega, by unfold visL; omega⟩)]
        · unfold visL at h7 ⊢; omega
        · unfold visL at h9 h10
          have e1 : x = i := by omega
          have e2 : y = j := by omega
          subst e1 e2
          refine ⟨v, ?_, h6⟩
          unfold upd
          rw [if_pos ⟨hla, rfl, rfl⟩]
    have hi : InvS c w n N tm K (visL i (j + 1)) a (upd T r.left i j (some v)) := ⟨hcf, fun r' => ⟨fun hk' => by rw [hk] at hk'; cases hk'; exact hrs, fun hk' => by rw [hk] at hk'; cases hk'⟩⟩
    refine ⟨hi, ?_⟩
    have hvc : v.c ≤ Mf N := inv_c hK hi (A := r.left) (x := i) (y := j) (by unfold upd; rw [if_pos ⟨rfl, rfl, rfl⟩])
    have := mu_upd (U := valsU tm (Mf N) (Mf N + 12)) (N := N) (n := n) (a := r.left.toNat) (i := i) (j := j) (T := T) (v := v) (by omega) (by omega) hj (mem_U hgd.1 (by omega) hvc) hgd.1.1 (hwfT _ _ _) (by rw [hla]; exact hb)
    rw [hla] at this
    exact this
  · intro a i T hi h
    refine ⟨h.1, fun r => ⟨fun hk => ((h.2 r).1 hk).congr (fun x y h1 h2 => by unfold visL; omega), (h.2 r).2⟩⟩
  · intro a T h
    exact inv_next hK (fun x y h1 h2 => by unfold visL; omega) (fun x y _ _ h => by unfold visL at h; omega) h
  · intro T h
    refine ⟨h.1, fun r => ?_⟩
    have hnone : K[K.length]? = none := List.getElem?_eq_none (Nat.le_refl _)
    obtain ⟨F, hF⟩ := (h.2 r).2 hnone
    refine ⟨fun hk => ?_, fun _ => ⟨F, hF⟩⟩
    obtain ⟨h1, h2, _⟩ := hK r (List.mem_of_getElem? hk)
    exact rs_start (by omega) hF (fun x y _ _ h => by unfold visL at h; omega)
theorem symF_lt {V : Sym → Nat → Nat → Option Val} {s : Sym} {at' : Nat → Option Val} {i j : Nat} (h : j < i) : ∀ m, symF V s at' i m j = none
  | 0 => rfl
  | m + 1 => by
    show stepK V s at' (i + m) (symF V s at' i m) j = none
    rw [stepK_lt (by omega)]
    exact symF_lt h m
theorem foldF_lt {V : Sym → Nat → Nat → Option Val} {i n j : Nat} (h : j < i) : ∀ (l : List Sym) (at' : Nat → Option Val), at' j = none → foldF V i n l at' j = none
  | [], _, e => e
  | s :: l, at', _ => foldF_lt h l _ (symF_lt h _)
theorem ruleF_lt {V : Sym → Nat → Nat → Option Val} {c : Co} {r : Rule} {i n j : Nat} (h : j < i) : ruleF V c r i n j = none := by
  unfold ruleF
  split
  · rw [if_neg (by omega)]
  · refine foldF_lt h _ _ ?_
    unfold startF
    rw [if_neg (by omega)]
theorem bet_lt {T : Tb} {r : Rule} {i j : Nat} (h : j < i) : betR c w n T r i j = false := by
  unfold betR
  rw [ruleF_lt h]
  cases T r.left i j <;> rfl
theorem plan2 (hc : c.ok) (hn : n ≤ 12) (hK : KOk N tm K) (ok : Sym → Prop) : Plan2 K c w n ok (Mf N + 12) (fun a i T => InvS c w n N tm K (fun x _ => x < i) a T) (muU (valsU tm (Mf N) (Mf N + 12)) N n) := by
  have hV : ∀ {T : Tb}, CF c w n N tm K T → ∀ s i j, i ≤ j → j ≤ n → WfO (ofT (leafR c w) T s i j) := fun h s i j _ _ => cf_wf h s i j
  -- the values of a row
  have hval : ∀ {T : Tb} {r : Rule} {i j : Nat}, CF c w n N tm K T → r ∈ K → i ≤ n → j ≤ n → betR c w n T r i j = true → i ≤ j ∧ ∃ v, ruleF (ofT (leafR c w) T) c r i n j = some v ∧ rvT (leafR c w) (emR c) T r i j = some v ∧ (Good tm v i j ∧ DrE c w n K ⟨false, r.left⟩ i j v) := by
    intro T r i j h hr hi hj hb
    have hij : i ≤ j := by
      rcases Nat.lt_or_ge j i with h1 | h1
      · rw [bet_lt h1] at hb; cases hb
      · exact h1
    obtain ⟨v, hv⟩ := lessB_some hb
    have hrv : rvT (leafR c w) (emR c) T r i j = some v := by rw [← ruleF_rvT (hV h) hij hj]; exact hv
    exact ⟨hij, v, hv, hrv, cf_rv hc hK h hr hij hj hrv⟩
  have hcfr : ∀ {T : Tb} {r : Rule} {i : Nat}, CF c w n N tm K T → r ∈ K → i ≤ n → ∀ j, j ≤ n + 1 → CF c w n N tm K (rowU c w n T r i j) := by
    intro T r i h hr hi j
    induction j with
    | zero => intro _; rw [rowU_zero]; exact h
    | succ j ih =>
      intro hj
      cases hb : betR c w n T r i j with
      | false => rw [rowU_no hb]; exact ih (by omega)
      | true =>
        obtain ⟨hij, v, hv, _, hg⟩ := hval h hr hi (by omega) hb
        rw [rowU_yes hb, hv]
        exact cf_upd hK (ih (by omega)) hr hij (by omega) hg
  have hstep : ∀ a i T r, K[a]? = some r → i ≤ n → InvS c w n N tm K (fun x _ => x < i) a T → InvS c w n N tm K (fun x _ => x < i + 1) a (rowU c w n T r i (n + 1)) := by
    intro a i T r hk hi h
    have hrm := List.mem_of_getElem? hk
    obtain ⟨h1, h2, h3, h4⟩ := hK r hrm
    have hla : ((r.left.toNat : Nat) : Int) = r.left := by omega
    have hwfT : ∀ A x y, WfO (T A x y) := fun A x y u e => (h.1 A x y u e).2.2.2.2.1.1
    refine ⟨hcfr h.1 hrm hi (n + 1) (Nat.le_refl _), fun r' => ⟨fun hk' => ?_, fun hk' => by rw [hk] at hk'; cases hk'⟩⟩
    rw [hk] at hk'
    cases hk'
    obtain ⟨F, ⟨hg, hor⟩ | hnw⟩ := (h.2 r).1 hk
    · rcases hor with hl | hbk
      · refine ⟨F, .inl ⟨gs_better hl hwfT (fun A x y => ?_) hg, .inl hl⟩⟩
        unfold rowU
        split
        · rename_i e
          obtain ⟨rfl, rfl, e3, e4⟩ := e
          obtain ⟨_, v, hv, _, hgd⟩ := hval h.1 hrm hi (by omega) e4
          rw [hv]
          unfold betR at e4
          rw [hv] at e4
          exact .inr ⟨hla.symm, v, rfl, hgd.1.1, e4⟩
        · exact .inl rfl
      · have e1 : rowU c w n T r i (n + 1) = T := by
          funext A x y
          unfold rowU
          rw [if_neg]
          rintro ⟨rfl, rfl, e3, e4⟩
          obtain ⟨hij, v, _, hrv, _⟩ := hval h.1 hrm hi (by omega) e4
          rw [rv_blk h.1 hg h4 hbk hij (by omega)] at hrv
          cases hrv
        rw [e1]
        exact ⟨F, .inl ⟨hg, .inr hbk⟩⟩
    · refine ⟨F, .inr (new_step hnw (fun A x y hne => ?_) (fun x y h7 => by omega) (fun x y h7 h8 h9 h10 => ?_))⟩
      · unfold rowU
        rw [if_neg (fun e => hne ⟨by omega, by omega, by omega⟩)]
      · have e1 : x = i := by omega
        subst e1
        obtain ⟨v, h5, h6⟩ := rv_new hc hn h.1 h3 (Mf_ge F.length) h4 (fun s hs ht i j h6 h7 => by
          obtain ⟨q1, _, q2⟩ := h4 s hs
          have q3 := q2 ht
          have hF := hnw.rt s hs ht
          have := (hnw.old s.n.toNat (by omega) (fun e => hnw.no (e ▸ hF))).1 hF i j h6 h7
          rw [show ((s.n.toNat : Nat) : Int) = s.n by omega] at this
          exact this) h7 h8
        have hnone := hnw.non x y h7 h8 (by omega)
        rw [hla] at hnone
        have hru : ruleF (ofT (leafR c w) T) c r x n y = some v := by rw [ruleF_rvT (hV h.1) h7 h8]; exact h5
        refine ⟨v, ?_, h6⟩
        unfold rowU
        rw [hla, if_pos ⟨rfl, rfl, by omega, by unfold betR; rw [hru, hnone]; rfl⟩]
        exact hru
  refine ⟨inv_start hK (fun x y _ _ h => by omega) 0, hstep, ?_, ?_, ?_, fun a i T h s _ i' j' h1 h2 => inv_bd hc hn hK h s i' j' h1 h2, fun a i T h A x y u e => (h.1 A x y u e).2.2.2.2.1.1⟩
  · intro a i j T r hk hi hj h hb
    have hrm := List.mem_of_getElem? hk
    obtain ⟨h1, h2, h3, h4⟩ := hK r hrm
    have hla : ((r.left.toNat : Nat) : Int) = r.left := by omega
    obtain ⟨hij, v, hv, hrv, hgd⟩ := hval h.1 hrm hi hj hb
    have hi2 := hstep a i T r hk hi h
    have hvc : v.c ≤ Mf N := inv_c hK hi2 (A := r.left) (x := i) (y := j) (by
      unfold rowU
      rw [if_pos ⟨rfl, rfl, by omega, hb⟩]; exact hv)
    have hb' : lessB (some v) (rowU c w n T r i j r.left i j) = true := by
      rw [rowU_at]
      unfold betR at hb
      rw [hv] at hb
      exact hb
    have hwf2 : WfO (rowU c w n T r i j r.left i j) := fun u e => ((hcfr h.1 hrm hi j (by omega)) _ _ _ u e).2.2.2.2.1.1
    have := mu_upd (U := valsU tm (Mf N) (Mf N + 12)) (N := N) (n := n) (a := r.left.toNat) (i := i) (j := j) (T := rowU c w n T r i j) (v := v) (by omega) hi hj (mem_U hgd.1 (by omega) hvc) hgd.1.1 (by rw [hla]; exact hwf2) (by rw [hla]; exact hb')
    rw [hla] at this
    rw [rowU_yes hb, hv]
    exact this
  · intro a T h
    exact inv_next hK (fun x y h1 h2 => by omega) (fun x y _ _ h => by omega) h
  · intro T h
    refine ⟨h.1, fun r => ?_⟩
    have hnone : K[K.length]? = none := List.getElem?_eq_none (Nat.le_refl _)
    obtain ⟨F, hF⟩ := (h.2 r).2 hnone
    refine ⟨fun hk => ?_, fun _ => ⟨F, hF⟩⟩
    obtain ⟨h1, h2, _⟩ := hK r (List.mem_of_getElem? hk)
    exact rs_start (by omega) hF (fun x y _ _ h => by omega)
/-- the table at the end is the only one -/
def VT (c : Co) (w : List Int) (n : Nat) (T : Tb) (y : Sym) (i j : Nat) : Option Val := if i ≤ j ∧ j ≤ n then ofT (leafR c w) T y i j else none
end
end Rp
end Go.Proofs.Ytjpmebppdcclbaa
namespace Go.Proofs.Ytjpmebppdcclbaa
namespace Rp

section
variable {c : Co} {w : List Int} {n N tm : Nat} {K : List Rule}
theorem row_bnd {V : Sym → Nat → Nat → Option Val} : ∀ {l : List Sym} {i j : Nat} {v : Val}, Row (VP V n) l i j v → i ≤ j ∧ j ≤ n
  | [], _, _, _, h => h.elim
  | [s], i, j, v, h => ⟨h.1, h.2.1⟩
  | s :: t :: l, i, j, v, ⟨m, a, b, h1, h2, h3, h4, _⟩ => ⟨by omega, (row_bnd h4).2⟩
theorem vt_vp {T : Tb} {s : Sym} {i j : Nat} {v : Val} : VT c w n T s i j = some v ↔ VP (ofT (leafR c w) T) n s i j v := by
  unfold VT VP
  by_cases h : i ≤ j ∧ j ≤ n
  · rw [if_pos h]; exact ⟨fun e => ⟨h.1, h.2, e⟩, fun e => e.2.2⟩
  · rw [if_neg h]; exact ⟨fun e => (by cases e), fun e => absurd ⟨e.1, e.2.1⟩ h⟩
theorem vt_left {T : Tb} {A : Int} {i j : Nat} (hij : i ≤ j) (hj : j ≤ n) : VT c w n T ⟨false, A⟩ i j = T A i j := by
  unfold VT
  rw [if_pos ⟨hij, hj⟩, of_leafR]; simp
theorem sound_T {T : Tb} (h : CF c w n N tm K T) : Sound K (leafC c w n) (emC c n) (VT c w n T) := by
  intro y i j v e
  obtain ⟨h1, h2, h3⟩ := vt_vp.1 e
  rw [of_leafR] at h3
  by_cases ht : y.term = true
  · rw [if_pos ht] at h3
    have h4 : leafR c w y i j = some v := by unfold leafR; rw [if_pos ht]; exact h3
    refine ⟨wf_leafR v h4, 0, ?_⟩
    show leafC c w n y i j = some v
    unfold leafC
    rw [if_pos ⟨h1, h2⟩]; exact h4
  · rw [if_neg ht] at h3
    obtain ⟨_, _, _, _, h5, h6⟩ := h _ _ _ _ h3
    have : y = ⟨false, y.n⟩ := by obtain ⟨a, b⟩ := y; simp at ht; rw [ht]
    rw [this]
    exact ⟨h5.1, h6⟩
/-- what is not better leaves a value at most that -/
theorem wf_ofT {T : Tb} (hw : ∀ A x y, WfO (T A x y)) (s : Sym) (i j : Nat) : WfO (ofT (leafR c w) T s i j) := by
  intro v e
  rw [of_leafR] at e
  split at e
  · cases e; exact .inl ⟨by simp [maxL], rfl⟩
  · exact hw _ _ _ v e
theorem not_better {T : Tb} (hw : ∀ A x y, WfO (T A x y)) {A : Int} {i j : Nat} {b : Val} (hwb : Wf b) (hb : lessB (some b) (T A i j) = false) : ∃ u, T A i j = some u ∧ le u b := by
  cases e : T A i j with
  | none => rw [e] at hb; cases hb
  | some u =>
    refine ⟨u, rfl, le_of_not (fun hlt => ?_)⟩
    rw [e] at hb
    have := (less_some hwb (hw _ _ _ _ e)).2 hlt
    rw [this] at hb
    cases hb
theorem closed_T {T : Tb} (hw : ∀ A x y, WfO (T A x y)) (hcl : ClosedT K (leafR c w) (emR c) n T) : Closed K (leafC c w n) (emC c n) (VT c w n T) := by
  refine ⟨fun y i j v e => ?_, fun r hr hre i j v e => ?_, fun r hr i j v hrow => ?_⟩
  · unfold leafC at e
    split at e
    · rename_i hij
      refine ⟨v, ?_, le_refl _⟩
      rw [vt_vp]
      refine ⟨hij.1, hij.2, ?_⟩
      rw [of_leafR]
      unfold leafR at e
      split at e
      · rename_i ht; rw [if_pos ht]; exact e
      · cases e
    · cases e
  · unfold emC at e
    split at e
    · rename_i hij
      have hb := hcl r hr i j hij.1 hij.2
      unfold better rvT at hb
      rw [if_pos hre, e] at hb
      have hwv : Wf v := by unfold emR at e; cases e; exact .inl ⟨by simp, rfl⟩
      obtain ⟨u, h1, h2⟩ := not_better hw hwv hb
      exact ⟨u, by rw [vt_left hij.1 hij.2]; exact h1, h2⟩
    · cases e
  · have hre : r.right ≠ [] := fun e => by rw [e] at hrow; exact hrow.elim
    have hrow2 : Row (VP (ofT (leafR c w) T) n) r.right i j v := hrow.mono (fun s i j v e => vt_vp.1 e)
    obtain ⟨hij, hj⟩ := row_bnd hrow2
    have hbest := best_lstV (V := ofT (leafR c w) T) (n := n) hre (fun s _ i j _ _ => wf_ofT hw s i j) hij hj
    have hr0 := (row_row0 (vp_ok (fun s i j _ _ => wf_ofT hw s i j)) hre).1 hrow2
    have hb := hcl r hr i j hij hj
    unfold better rvT at hb
    rw [if_neg hre] at hb
    cases e : lstV (ofT (leafR c w) T) r.right i j with
    | none =>
      rw [e] at hbest
      exact absurd hr0 (hbest.2 v)
    | some b =>
      rw [e] at hbest hb
      obtain ⟨u, h1, h2⟩ := not_better hw (hbest.1 b rfl) hb
      exact ⟨u, by rw [vt_left hij hj]; exact h1, le_trans h2 (hbest.2.2 v hr0)⟩
theorem cf_wfT {T : Tb} (h : CF c w n N tm K T) : ∀ A x y, WfO (T A x y) := fun A x y u e => (h A x y u e).2.2.2.2.1.1
theorem closed_R {T : Tb} (h : CF c w n N tm K T) (hcl : ClosedR K c w n T) : ClosedT K (leafR c w) (emR c) n T := by
  intro r hr i j hij hj
  have := hcl r hr i j (by omega) hj
  unfold betR at this
  rw [ruleF_rvT (fun s i j _ _ => cf_wf h s i j) hij hj] at this
  exact this
end
end Rp
end Go.Proofs.Ytjpmebppdcclbaa
namespace Go.Proofs.Ytjpmebppdcclbaa
namespace Rp

def pK : List Rule := [⟨0, [⟨true, 0⟩, ⟨false, 0⟩, ⟨true, 1⟩]⟩, ⟨0, [⟨true, 0⟩, ⟨true, 1⟩]⟩]
def pC : Co := ⟨1, 1, 1⟩
def pW : List Int := [0, 0, 1]
def pV : Val := ⟨1, 2, [0, 1]⟩
def pN : Nat → Nat → Option Nat
  | 0, 0 => some 2
  | 0, 1 => some 1
  | 0, 2 => some 1
  | 0, 3 => some 1
  | 1, 1 => some 2
  | 1, 2 => some 1
  | 1, 3 => some 0
  | 2, 2 => some 2
  | 2, 3 => some 1
  | 3, 3 => some 2
  | _, _ => none
def pT : Tb := fun A i j => if A = 0 then (pN i j).map fun c => ⟨c, 2, [0, 1]⟩ else none
def pChk : Bool := pK.all fun r => (List.range 4).all fun i => (List.range 4).all fun j => !decide (i ≤ j) || !better (leafR pC pW) (emR pC) pT r i j
theorem pChk_ok : pChk = true := by kernel_rfl
theorem pT_wf : ∀ A x y, WfO (pT A x y) := by
  intro A x y v e
  unfold pT at e
  split at e
  · cases h : pN x y with
    | none => rw [h] at e; cases e
    | some c => rw [h] at e; cases e; exact .inl ⟨by simp [maxL], rfl⟩
  · cases e
theorem pT_closed : ClosedT pK (leafR pC pW) (emR pC) 3 pT := by
  intro r hr i j hij hj
  have h := pChk_ok
  unfold pChk at h
  have h1 := List.all_eq_true.1 h r hr
  have h2 := List.all_eq_true.1 h1 i (List.mem_range.2 (by omega))
  have h3 := List.all_eq_true.1 h2 j (List.mem_range.2 (by omega))
  rw [show decide (i ≤ j) = true by simpa using hij] at h3
  simpa using h3
theorem pDr : Dr pK (leafC pC pW 3) (emC pC 3) 1 ⟨false, 0⟩ 0 3 pV := by
  refine .inr ⟨rfl, ⟨0, [⟨true, 0⟩, ⟨true, 1⟩]⟩, by simp [pK], rfl, .inr ?_⟩
  refine ⟨2, ⟨1, 1, [0]⟩, ⟨0, 1, [1]⟩, by omega, by omega, ?_, ?_, ?_⟩
  · show leafC pC pW 3 ⟨true, 0⟩ 0 2 = some ⟨1, 1, [0]⟩
    rfl
  · show leafC pC pW 3 ⟨true, 1⟩ 2 3 = some ⟨0, 1, [1]⟩
    rfl
  · rfl
theorem wfLeaf {c : Co} {w : List Int} {n : Nat} : ∀ y i j v, leafC c w n y i j = some v → Wf v := by
  intro y i j v e
  unfold leafC at e
  split at e
  · exact wf_leafR v e
  · cases e
theorem wfEm {c : Co} {n : Nat} : ∀ i j v, emC c n i j = some v → Wf v := by
  intro i j v e
  unfold emC at e
  split at e
  · unfold emR at e; cases e; exact .inl ⟨by simp, rfl⟩
  · cases e
theorem wfVT {c : Co} {w : List Int} {n : Nat} {T : Tb} (hw : ∀ A x y, WfO (T A x y)) : ∀ y i j v, VT c w n T y i j = some v → Wf v := by
  intro y i j v e
  exact wf_ofT hw y i j v (vt_vp.1 e).2.2
theorem pairs_val {N tm : Nat} {T : Tb} (h : CF pC pW 3 N tm pK T) (hcl : ClosedT pK (leafR pC pW) (emR pC) 3 T) : T 0 0 3 = some pV := by
  obtain ⟨_, u, h1, _, h2⟩ := closed_le (wfVT (cf_wfT h)) wfLeaf wfEm (closed_T (cf_wfT h) hcl) 1 ⟨false, 0⟩ 0 3 pV pDr
  obtain ⟨_, k, hd⟩ := sound_T h _ _ _ _ h1
  obtain ⟨_, u0, h3, _, h4⟩ := closed_le (wfVT pT_wf) wfLeaf wfEm (closed_T pT_wf pT_closed) k ⟨false, 0⟩ 0 3 u hd
  rw [vt_left (by omega) (by omega)] at h1 h3
  have h5 : pT 0 0 3 = some pV := rfl
  rw [h5] at h3
  cases h3
  rw [h1, le_anti h2 h4]
end Rp
end Go.Proofs.Ytjpmebppdcclbaa
