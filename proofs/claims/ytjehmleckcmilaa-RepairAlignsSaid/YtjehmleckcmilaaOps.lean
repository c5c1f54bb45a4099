/- Operations of repair: how they read; their steps; small contracts. -/
import Derived.Test.YtjehmleckcmilaaDistWalk
import Derived.Test.YtjehmleckcmilaaRowD
import Derived.Test.YtjehmleckcmilaaPreds
import Derived.Laws.StructEq
import Derived.Deep.QuietTactic
import Derived.BigQuiet
namespace Go.Proofs.Ytjehmleckcmilaa
open Go.RowKit
namespace Al

def Op.d (o : Op) : D := .agg [.int o.kind, .int o.at', .int o.term]
theorem ops_cells (l : List Op) : ∀ d ∈ l.map Op.d, d.cells = 3 := by
  intro d hd
  simp at hd
  obtain ⟨t, _, rfl⟩ := hd
  simp [Op.d, D.cells, D.cellsAll]
theorem Rd.op {S : Nat → Prop} {w : World} {o : Op} {cs : List Value} (h : Rd S w o.d cs) : cs = [.int .i64 o.kind, .int .i64 o.at', .int .i64 o.term] := by
  obtain ⟨c1, c2, rfl, h1, c3, c4, rfl, h2, h3⟩ := h
  rw [RdAll.one_iff] at h3
  simp [Rd] at h1 h2 h3
  subst h1 h2 h3
  rfl
theorem rd_op {S : Nat → Prop} {w : World} (o : Op) : Rd S w o.d [.int .i64 o.kind, .int .i64 o.at', .int .i64 o.term] := ⟨[.int .i64 o.kind], _, rfl, rfl, [.int .i64 o.at'], [.int .i64 o.term], rfl, rfl, RdAll.one rfl⟩
theorem Rd.op_at {S : Nat → Prop} {w : World} {l : List Op} {a : Option Addr} {n cap i : Nat} (h : Rd S w (.sl (l.map Op.d)) [.slice a n cap]) (hi : i < l.length) :
    ∃ b off, a = some ⟨b, off, none⟩ ∧ S b ∧ b < w.heap.size ∧ w.cell? ⟨b, off + i * 3, none⟩ = some (.int .i64 l[i].kind) ∧ w.cell? ⟨b, off + i * 3 + 1, none⟩ = some (.int .i64 l[i].at') ∧ w.cell? ⟨b, off + i * 3 + 2, none⟩ = some (.int .i64 l[i].term) := by
  obtain ⟨b, off, cs, ha, hS, hlt, hr, hl, hc⟩ := h.at (ops_cells l) (by decide) (i := i) (by simpa using hi)
  simp at hr
  obtain rfl := Rd.op hr
  exact ⟨b, off, ha, hS, hlt, by simpa using hc 0 (by simp), by simpa [Nat.add_assoc] using hc 1 (by simp), by simpa [Nat.add_assoc] using hc 2 (by simp)⟩
theorem elOp : ElemT Try.prog 24 33 3 24 := ElemT.mk' (z := .agg #[.int .i64 0, .int .i64 0, .int .i64 0]) Try.underlying24 (by kernel_rfl) rfl (by decide)

section
variable {c0 c1 c2 : Int} {l r : List Int} {i j : Nat}
def opsAt (c0 c1 c2 : Int) (l r : List Int) (i j : Nat) : List Op := ops c0 c1 c2 i (l.drop i) (r.drop j)
theorem o_keep (hi : i < l.length) (hj : j < r.length) (h : l[i] = r[j]) : opsAt c0 c1 c2 l r i j = ⟨0, i, l[i]⟩ :: opsAt c0 c1 c2 l r (i + 1) (j + 1) := by
  unfold opsAt; rw [List.drop_eq_getElem_cons hi, List.drop_eq_getElem_cons hj, ops, if_pos h]
theorem o_both (hi : i < l.length) (hj : j < r.length) (h : ¬ l[i] = r[j]) : opsAt c0 c1 c2 l r i j = if dAt c0 c1 c2 l r (i + 1) (j + 1) + c2 = dAt c0 c1 c2 l r i j then ⟨3, i, r[j]⟩ :: opsAt c0 c1 c2 l r (i + 1) (j + 1)
    else if dAt c0 c1 c2 l r (i + 1) j + c1 = dAt c0 c1 c2 l r i j then ⟨2, i, l[i]⟩ :: opsAt c0 c1 c2 l r (i + 1) j else ⟨1, i, r[j]⟩ :: opsAt c0 c1 c2 l r i (j + 1) := by
  unfold opsAt dAt
  rw [List.drop_eq_getElem_cons hi, List.drop_eq_getElem_cons hj, ops, if_neg h]
theorem o_del (hi : i < l.length) (hj : r.length ≤ j) : opsAt c0 c1 c2 l r i j = ⟨2, i, l[i]⟩ :: opsAt c0 c1 c2 l r (i + 1) j := by
  unfold opsAt; rw [List.drop_eq_getElem_cons hi, List.drop_of_length_le hj, ops]
theorem o_ins (hi : l.length ≤ i) (hj : j < r.length) : opsAt c0 c1 c2 l r i j = ⟨1, i, r[j]⟩ :: opsAt c0 c1 c2 l r i (j + 1) := by
  unfold opsAt; rw [List.drop_eq_getElem_cons hj, List.drop_of_length_le hi, ops]
theorem o_end (hi : l.length ≤ i) (hj : r.length ≤ j) : opsAt c0 c1 c2 l r i j = [] := by
  unfold opsAt; rw [List.drop_of_length_le hi, List.drop_of_length_le hj, ops]
theorem d_del (hi : i < l.length) (hj : r.length ≤ j) : dAt c0 c1 c2 l r (i + 1) j + c1 = dAt c0 c1 c2 l r i j := by
  rw [dAt_last hi hj]
  by_cases h : i + 1 < l.length
  · rw [dAt_last h hj, show l.length - i = (l.length - (i + 1)) + 1 by omega, Int.natCast_add, Int.add_mul]; simp
  · rw [dAt_end (by omega), show l.length - i = 1 by omega, show r.length - j = 0 by omega]; simp
end
def badC (x : Int) : Bool := decide (x < 1) || decide (100 < x)
theorem badE (x : Int) (w : World) : Calls Try.prog 96 #[.int .i64 x] w fun e w' => e = .returned (.bool (badC x)) ∧ Below w.heap.size w w' := by
  by_cases h : x < 1
  · have h1 : decide (x < 1) = true := by simpa using h
    go_enter Try.func96, Try.ntmps96
    go_wp2
    go_ret
    exact ⟨by simp [badC, h], Below.refl _ _⟩
  · have h1 : decide (x < 1) = false := by simpa using h
    go_enter Try.func96, Try.ntmps96
    go_wp2
    go_ret
    exact ⟨by rw [show badC x = decide (100 < x) by unfold badC; rw [h1]; simp]; rfl, Below.refl _ _⟩
theorem good_c {c0 c1 c2 : Int} (h : [c0, c1, c2].any badC = false) : 1 ≤ c0 ∧ c0 ≤ 100 ∧ 1 ≤ c1 ∧ c1 ≤ 100 ∧ 1 ≤ c2 ∧ c2 ≤ 100 := by
  simp [badC] at h; omega

set_option maxHeartbeats 1000000 in
theorem costsE (c0 c1 c2 : Int) (w : World) : Calls Try.prog 16 #[.agg #[.int .i64 c0, .int .i64 c1, .int .i64 c2]] w fun e w' => e = .returned (.bool (!([c0, c1, c2].any badC))) ∧ Below w.heap.size w w' := by
  obtain ⟨B, HB⟩ := nameIt (!([c0, c1, c2].any badC))
  obtain ⟨mn, hmn⟩ : ∃ x : Int, x = min (min c0 c1) c2 := ⟨_, rfl⟩
  obtain ⟨mx, hmx⟩ : ∃ x : Int, x = max (max c0 c1) c2 := ⟨_, rfl⟩
  have h1 : ∀ W : World, (Builtin.min_ #[3, 3, 3] 3 #[.int .i64 c0, .int .i64 c1, .int .i64 c2]).run Try.prog W = .ok (.int .i64 mn) W := fun W => by
    rw [run_min_int3, hmn, Int.min_def, Int.min_def]; congr 2
    split <;> split <;> split <;> omega
  have h2 : ∀ W : World, (Builtin.max_ #[3, 3, 3] 3 #[.int .i64 c0, .int .i64 c1, .int .i64 c2]).run Try.prog W = .ok (.int .i64 mx) W := fun W => by
    rw [run_max_int3, hmx, Int.max_def, Int.max_def]; congr 2
    split <;> split <;> split <;> omega
  have hB : B = (decide (1 ≤ mn) && decide (mx ≤ 100)) := by
    rw [← HB.out, Bool.eq_iff_iff]; simp [badC]; omega
  have HBV := Lib.hid hB
  rw [HB.out]
  clear hB hmn hmx
  by_cases hm : 1 ≤ mn
  · have b1 : decide (1 ≤ mn) = true := by simpa using hm
    clear hm
    go_enter Try.func16, Try.ntmps16
    go_wp2
    go_ret
    exact ⟨by rw [HBV.out, b1]; rfl, (Below.refl _ _).alloc (Nat.le_refl _) _⟩
  · have b1 : decide (1 ≤ mn) = false := by simpa using hm
    clear hm
    go_enter Try.func16, Try.ntmps16
    go_wp2
    go_ret
    exact ⟨by rw [HBV.out, b1]; rfl, (Below.refl _ _).alloc (Nat.le_refl _) _⟩

theorem opNe (a b c : Int) (w : World) : (binOp .neq 33 (.agg #[.int .i64 a, .int .i64 b, .int .i64 c]) (.agg #[.int .i64 a, .int .i64 b, .int .i64 c])).run Try.prog w = .ok (.bool false) w := by
  have h1 : Try.prog.underlying 33 = some (.struct (Try.prog.fieldsOf 33)) := by kernel_rfl
  have h2 : Try.prog.stoodInHeld 33 = false := by kernel_rfl
  have h3 := Try.underlying33
  have h5 := Try.underlying3
  rw [run_neq_struct, run_equalIn_agg (d := 9999) _ _ _ _ h1 h2]
  simp only [Program.fieldsOf, h3]
  simp [go_sem, Op.eqFields, h5]
end Al
end Go.Proofs.Ytjehmleckcmilaa
