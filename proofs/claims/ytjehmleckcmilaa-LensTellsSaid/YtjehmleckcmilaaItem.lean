/- Items as keys of a map. -/
import Derived.Test.YtjehmleckcmilaaSetM
import Derived.Test.YtjehmleckcmilaaRuleFault
import Derived.DeepKeys4
namespace Go.Proofs.Ytjehmleckcmilaa
open Go.RowKit
namespace Ln

theorem itemLaid : laidOutB Try.prog = true := by kernel_rfl
theorem itemRow : (271 : TypeId) < Try.prog.types.size := of_decide_eq_true (by kernel_rfl)
theorem itemWide : (match Try.prog.underlying 271 with | some (.array _ _) | some (.struct _) => true | _ => false) = true := by kernel_rfl
theorem itemAt : Try.prog.keyTypeAt 2 271 = true := by kernel_rfl
set_option maxRecDepth 100000 in
theorem itemLaw : WideMaps.KeyLaw Try.prog 271 := deep_law_laid itemLaid (m := 2) (by omega) itemRow itemAt itemWide
theorem itemK : Go.Maps.Keyed Try.prog 271 := .of_law itemLaw
def itL (a b c : Nat) : Lit := .string (keyBytes [.int .i64 a, .int .i64 b, .int .i64 c])
theorem wf_small3 {i : Nat} (h : i ≤ 1000) : (Lit.int .i64 (i : Int)).wf = true := by
  simp [Lit.wf, IntKind.min, IntKind.max, IntKind.signed, IntKind.bits]; omega
theorem keyLits_int (d : Nat) {x : Int} (h : (Lit.int .i64 x).wf = true) : Try.prog.keyLits (d + 1) 3 [.int .i64 x] = some [.int .i64 x] := by
  simp [Program.keyLits, Try.underlying3, h]
theorem itemKey {a b c : Nat} (ha : a ≤ 1000) (hb : b ≤ 1000) (hc : c ≤ 1000) : keyOf Try.prog 271 (.agg #[.int .i64 a, .int .i64 b, .int .i64 c]) = some (itL a b c) := by
  have h1 : Try.prog.keyType 271 = true := by kernel_rfl
  have h3 : Try.prog.cellsOf 271 = 3 := by kernel_rfl
  have h4 : Try.prog.cellsOf 3 = 1 := by kernel_rfl
  have h2 : (Value.agg #[.int .i64 a, .int .i64 b, .int .i64 c]).formed Try.prog 271 = true := by simp [Value.formed, Try.underlying271, h3]
  obtain ⟨m, hm⟩ : ∃ m, Try.prog.types.size = m + 1 := ⟨Try.prog.types.size - 1, by have h : 0 < Try.prog.types.size := of_decide_eq_true (by kernel_rfl); omega⟩
  have h5 : Try.prog.keyLits (Try.prog.types.size + 1) 271 [.int .i64 a, .int .i64 b, .int .i64 c] = some [.int .i64 a, .int .i64 b, .int .i64 c] := by
    rw [hm]
    simp [Program.keyLits, Try.underlying271, h3, h4, Try.underlying3, wf_small3 ha, wf_small3 hb, wf_small3 hc]
  unfold keyOf
  simp only [Try.underlying271, h1, h2, Bool.and_self, if_true]
  show Option.map _ (Try.prog.keyLits _ _ [.int .i64 a, .int .i64 b, .int .i64 c]) = _
  rw [h5]
  rfl
theorem itL_inj {a b c a' b' c' : Nat} (ha : a ≤ 1000) (hb : b ≤ 1000) (hc : c ≤ 1000) (ha' : a' ≤ 1000) (hb' : b' ≤ 1000) (hc' : c' ≤ 1000) (h : itL a b c = itL a' b' c') : a = a' ∧ b = b' ∧ c = c' := by
  have h1 := itemKey ha hb hc
  have h2 := itemKey ha' hb' hc'
  rw [← h] at h2
  have := itemK.inj h1 h2
  simp at this
  omega
end Ln
end Go.Proofs.Ytjehmleckcmilaa
