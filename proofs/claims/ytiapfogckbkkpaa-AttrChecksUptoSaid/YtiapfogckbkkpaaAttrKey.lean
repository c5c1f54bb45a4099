/- Places of rules as keys of a map. -/
import Derived.Test.YtiapfogckbkkpaaAttr
import Derived.Test.YtiapfogckbkkpaaSetM
import Derived.Test.YtiapfogckbkkpaaOpen
import Derived.DeepKeys4
namespace Go.Proofs.Ytiapfogckbkkpaa
open Go.RowKit
namespace At

theorem plLaid : laidOutB Try.prog = true := by kernel_rfl
theorem plRow : (55 : TypeId) < Try.prog.types.size := of_decide_eq_true (by kernel_rfl)
theorem plWide : (match Try.prog.underlying 55 with | some (.array _ _) | some (.struct _) => true | _ => false) = true := by kernel_rfl
theorem plAt : Try.prog.keyTypeAt 3 55 = true := by kernel_rfl
set_option maxRecDepth 100000 in
theorem plLaw : WideMaps.KeyLaw Try.prog 55 := deep_law_laid plLaid (m := 3) (by omega) plRow plAt plWide
theorem plK : Go.Maps.Keyed Try.prog 55 := .of_law plLaw
def plL (a b c : Int) : Lit := .string (keyBytes [.int .i64 a, .int .i64 b, .int .i64 c])
def wfI (i : Int) : Prop := (Lit.int .i64 i).wf = true
theorem wfI_of {i : Int} (h : i64 i) : wfI i := by
  unfold wfI
  simp [i64, Lit.wf, IntKind.min, IntKind.max, IntKind.signed, IntKind.bits] at *; omega
theorem plKey {a b c : Int} (ha : i64 a) (hb : i64 b) (hc : i64 c) : keyOf Try.prog 55 (.agg #[.int .i64 a, .int .i64 b, .int .i64 c]) = some (plL a b c) := by
  have ha := wfI_of ha
  have hb := wfI_of hb
  have hc := wfI_of hc
  unfold wfI at ha hb hc
  have h1 : Try.prog.keyType 55 = true := by kernel_rfl
  have h3 : Try.prog.cellsOf 55 = 3 := by kernel_rfl
  have h4 : Try.prog.cellsOf 3 = 1 := by kernel_rfl
  have h6 : Try.prog.cellsOf 30 = 2 := by kernel_rfl
  have h2 : (Value.agg #[Value.int .i64 a, Value.int .i64 b, Value.int .i64 c]).formed Try.prog 55 = true := by simp [Value.formed, Try.underlying55, h3]
  obtain ⟨m, hm⟩ : ∃ m, Try.prog.types.size = m + 1 + 1 := ⟨Try.prog.types.size - 2, by have h : 1 < Try.prog.types.size := of_decide_eq_true (by kernel_rfl); omega⟩
  have h5 : Try.prog.keyLits (Try.prog.types.size + 1) 55 [.int .i64 a, .int .i64 b, .int .i64 c] = some [.int .i64 a, .int .i64 b, .int .i64 c] := by
    rw [hm]
    simp [Program.keyLits, Try.underlying55, Try.underlying30, h3, h4, h6, Try.underlying3, ha, hb, hc]
    rw [if_pos (fun i x => by match i, x with | 0, _ => simp | 1, _ => simp | n + 2, h => exact absurd h (by omega))]
    rfl
  unfold keyOf
  simp only [Try.underlying55, h1, h2, Bool.and_self, if_true]
  show Option.map _ (Try.prog.keyLits _ _ [.int .i64 a, .int .i64 b, .int .i64 c]) = _
  rw [h5]
  rfl
theorem plL_inj {a b c a' b' c' : Int} (ha : i64 a) (hb : i64 b) (hc : i64 c) (ha' : i64 a') (hb' : i64 b') (hc' : i64 c') (h : plL a b c = plL a' b' c') : a = a' ∧ b = b' ∧ c = c' := by
  have h1 := plKey ha hb hc
  have h2 := plKey ha' hb' hc'
  rw [← h] at h2
  have := plK.inj h1 h2
  simpa using this
def keyE (q : Eqn) : Lit := plL q.rule q.to'.at' q.to'.attr
def okRefI (r : Ref) : Prop := i64 r.at' ∧ i64 r.attr
def okEqK (q : Eqn) : Prop := i64 q.rule ∧ okRefI q.to'
open Classical in
noncomputable def inSetE (es : List Eqn) (l : Lit) : Bool := es.any fun q => decide (keyE q = l)
theorem inSetE_at {es : List Eqn} {rule : Int} {x : Ref} (h : ∀ q ∈ es, okEqK q) (hr : i64 rule) (hx : okRefI x) : inSetE es (plL rule x.at' x.attr) = had es rule x := by
  unfold inSetE had
  rw [Bool.eq_iff_iff, List.any_eq_true, List.any_eq_true]
  constructor
  · rintro ⟨q, hq, he⟩
    obtain ⟨h1, h2, h3⟩ := h q hq
    refine ⟨q, hq, ?_⟩
    simp only [decide_eq_true_eq] at he ⊢
    obtain ⟨e1, e2, e3⟩ := plL_inj h1 h2 h3 hr hx.1 hx.2 he
    refine ⟨e1, ?_⟩
    cases hq' : q.to' with
    | mk u v => cases x with | mk u' v' => rw [hq'] at e2 e3; simp at e2 e3; rw [e2, e3]
  · rintro ⟨q, hq, he⟩
    refine ⟨q, hq, ?_⟩
    simp only [decide_eq_true_eq] at he ⊢
    unfold keyE
    rw [he.1, he.2]
theorem inSetE_add {es : List Eqn} {q : Eqn} : inSetE (es ++ [q]) (keyE q) = true := by
  unfold inSetE
  simp
theorem inSetE_other {es : List Eqn} {q : Eqn} {l : Lit} (h : l ≠ keyE q) : inSetE (es ++ [q]) l = inSetE es l := by
  unfold inSetE
  rw [List.any_append]
  simp [show ¬ keyE q = l from fun e => h e.symm]
end At
end Go.Proofs.Ytiapfogckbkkpaa
