/- Maps of one-cell values in memory, by what they have at a key: strings or numbers as keys. -/
import Derived.Test.YtgpikophndbmeaaKeyR
namespace Go.Proofs.Ytgpikophndbmeaa
open Go.RowKit
namespace Km

theorem zInt (w : World) : (zeroValue 3).run Try.prog w = .ok (.int .i64 0) w := by
  obtain ⟨i, hi, hz, _⟩ := info_parts (show (Try.prog.info? 3).map (fun i => (i.zero, i.size, i.bytes)) = some (some (.int .i64 0), 1, 8) by kernel_rfl)
  simp [zeroValue, typeInfo, hi, hz]
/-- block b is a map: at the key l it has F l; it has c keys -/
def KMap (k e : TypeId) (b : Nat) (F : Lit → Option Lit) (c : Nat) (w : World) : Prop :=
  ∃ D : DataW Unit, w.ownsMap Try.prog k (plainElem Try.prog e) b c D ∧ Maps.size D = c ∧ (∀ l, Maps.has D l = (F l).isSome) ∧ ∀ l x, F l = some x → ∀ zd, D.atKey l zd = .lit x
open Classical in
noncomputable def put (F : Lit → Option Lit) (l x : Lit) : Lit → Option Lit := fun l' => if l' = l then some x else F l'
theorem put_same (F : Lit → Option Lit) (l x : Lit) : put F l x l = some x := by unfold put; rw [if_pos rfl]
theorem put_other (F : Lit → Option Lit) {l l' : Lit} (x : Lit) (h : l' ≠ l) : put F l x l' = F l' := by unfold put; rw [if_neg h]
section
variable {k e t : TypeId} {b c : Nat} {F F' : Lit → Option Lit} {w w' : World}
theorem KMap.kept {row : Option Nat} (h : KMap k e b F c w) (hg : w.grownBy w' row) (hne : some b ≠ row) : KMap k e b F c w' := by
  obtain ⟨D, h1, h2⟩ := h
  exact ⟨D, h1.kept hg hne, h2⟩
theorem KMap.keep (h : KMap k e b F c w) (hb : Below w.heap.size w w') : KMap k e b F c w' := h.kept (grown_below hb none) (by simp)
theorem KMap.setCell (h : KMap k e b F c w) {a : Addr} (ha : b ≠ a.block) (u : Value) : KMap k e b F c (w.setCell a u) := by
  obtain ⟨D, h1, h2⟩ := h
  exact ⟨D, h1.setCell ha u, h2⟩
theorem KMap.lt (h : KMap k e b F c w) : b < w.heap.size := by obtain ⟨D, h1, _⟩ := h; exact h1.lt
theorem KMap.eq (h : KMap k e b F c w) (e1 : ∀ l, F l = F' l) : KMap k e b F' c w := by rw [show F' = F from funext fun l => (e1 l).symm]; exact h
theorem KMap.start (w : World) {b : Nat} (hb : b = w.heap.size) : KMap k e b (fun _ => none) 0 (w.alloc (.map #[] 0)) := by
  subst hb
  exact ⟨.map [], World.ownsMap_made w _ _ _, rfl, fun l => by simp [Maps.has], fun l x h => by cases h⟩
theorem KMap.len (h : KMap k e b F c w) (ht : Try.prog.underlying t = some (.map k e)) (ty : TypeId) : (Builtin.len_ #[t] ty #[.map (some b)]).run Try.prog w = .ok (.int .i64 c) w := by
  obtain ⟨D, h1, h2, _⟩ := h
  have := h1.len ht ty
  rw [h2] at this
  exact this
/-- v, ok := m[k]: whole numbers -/
theorem KMap.look (h : KMap k 3 b F c w) (hK : Maps.Keyed Try.prog k) (ht : Try.prog.underlying t = some (.map k 3)) {key : Value} {l : Lit} (hkey : keyOf Try.prog k key = some l) :
    (∀ x : Int, F l = some (.int .i64 x) → (Instr.lookup t (.map (some b)) key true).run Try.prog w = .ok (.tuple #[.int .i64 x, .bool true]) w ∧ (Instr.lookup t (.map (some b)) key false).run Try.prog w = .ok (.int .i64 x) w) ∧
    (F l = none → (Instr.lookup t (.map (some b)) key true).run Try.prog w = .ok (.tuple #[.int .i64 0, .bool false]) w) := by
  obtain ⟨D, h1, h2, h3, h4⟩ := h
  obtain ⟨v, ps, hrun, hv⟩ := h1.look_ok hK ht (zInt w) (plainElem_int Try.underlying3 (by decide)) hkey
  obtain ⟨v', ps', hrun', hv'⟩ := h1.lookup hK ht (zInt w) (plainElem_int Try.underlying3 (by decide)) hkey
  obtain ⟨n, rfl, hn, _⟩ := plainElem_int_inv Try.underlying3 hv
  obtain ⟨n', rfl, hn', _⟩ := plainElem_int_inv Try.underlying3 hv'
  rw [h3 l] at hrun
  constructor
  · intro x hx
    rw [hx] at hrun
    rw [h4 l _ hx] at hn hn'
    simp at hn hn'
    rw [← hn.1] at hrun
    rw [← hn'.1] at hrun'
    exact ⟨hrun, hrun'⟩
  · intro hx
    rw [hx] at hrun
    have hh : Maps.has D l = false := by rw [h3, hx]; rfl
    rw [Maps.atKey_of_not_has hh] at hn
    simp at hn
    rw [← hn.1] at hrun
    exact hrun
/-- v, ok := m[k]: Bools -/
theorem KMap.lookB (h : KMap k 4 b F c w) (hK : Maps.Keyed Try.prog k) (ht : Try.prog.underlying t = some (.map k 4)) {key : Value} {l : Lit} (hkey : keyOf Try.prog k key = some l) :
    (∀ x : Bool, F l = some (.bool x) → (Instr.lookup t (.map (some b)) key true).run Try.prog w = .ok (.tuple #[.bool x, .bool true]) w) ∧
    (F l = none → (Instr.lookup t (.map (some b)) key true).run Try.prog w = .ok (.tuple #[.bool false, .bool false]) w) := by
  obtain ⟨D, h1, h2, h3, h4⟩ := h
  have hz : (zeroValue 4).run Try.prog w = .ok (.bool false) w := by
    obtain ⟨i, hi, hz, _⟩ := info_parts (show (Try.prog.info? 4).map (fun i => (i.zero, i.size, i.bytes)) = some (some (.bool false), 1, 1) by kernel_rfl)
    simp [zeroValue, typeInfo, hi, hz]
  obtain ⟨v, ps, hrun, hv⟩ := h1.look_ok hK ht hz (plainElem_bool Try.underlying4 false) hkey
  obtain ⟨n, rfl, hn⟩ := plainElem_bool_inv Try.underlying4 hv
  rw [h3 l] at hrun
  constructor
  · intro x hx
    rw [hx] at hrun
    rw [h4 l _ hx] at hn
    simp at hn
    rw [← hn.1] at hrun
    exact hrun
  · intro hx
    rw [hx] at hrun
    have hh : Maps.has D l = false := by rw [h3, hx]; rfl
    rw [Maps.atKey_of_not_has hh] at hn
    simp at hn
    rw [hn.1] at hrun
    exact hrun
/-- m[k] = v -/
theorem KMap.store (h : KMap k e b F c w) (hK : Maps.Keyed Try.prog k) (ht : Try.prog.underlying t = some (.map k e)) (hc : c < maxLen) {key v : Value} {l x : Lit} (hkey : keyOf Try.prog k key = some l) (hv : plainElem (H := Unit) Try.prog e v = some (.lit x, [])) :
    ∃ w', (Instr.mapUpdate t (.map (some b)) key v).run Try.prog w = .ok () w' ∧ KMap k e b (put F l x) (if (F l).isSome then c else c + 1) w' ∧ w.grownBy w' (some b) := by
  obtain ⟨D, h1, h2, h3, h4⟩ := h
  obtain ⟨w', hrun, ho, htn⟩ := h1.store hK ht hc hkey hv
  have hm := h1.isMap
  have hkk := hK.key hkey
  have hty := h1.tidy hK
  have hsz := Maps.size_put (k := l) hty (.lit x)
  rw [h3 l, h2] at hsz
  refine ⟨w', hrun, ⟨_, ?_, hsz, fun l' => ?_, fun l' y hy zd => ?_⟩, htn.grown⟩
  · obtain ⟨es, ck, a1, a2, a3, a4⟩ := ho
    refine ⟨es, ck, a1, a2, ?_, a4⟩
    rw [← hsz, a4]
    show es.size ≤ _
    rw [Maps.size_eq, length_read]; exact Nat.le_refl _
  · by_cases el : l' = l
    · subst el
      rw [Maps.has_put_same hm hkk, put_same]; rfl
    · rw [Maps.has_put_other el, h3, put_other _ _ el]
  · by_cases el : l' = l
    · subst el
      rw [put_same] at hy
      cases hy
      exact Maps.atKey_put_same hm hkk _ _
    · rw [put_other _ _ el] at hy
      rw [Maps.atKey_put_other el]
      exact h4 l' y hy zd
end
theorem velInt {n : Int} (h : (Lit.int .i64 n).wf = true) : plainElem (H := Unit) Try.prog 3 (.int .i64 n) = some (.lit (.int .i64 n), []) := plainElem_int Try.underlying3 h
theorem velBool (x : Bool) : plainElem (H := Unit) Try.prog 4 (.bool x) = some (.lit (.bool x), []) := plainElem_bool Try.underlying4 x
end Km
end Go.Proofs.Ytgpikophndbmeaa
