/- The contracts of slices.IndexFunc and ContainsFunc of expressions and equations. -/
import Derived.Test.YthkdeljlhplkgaaAttrRd
import Derived.Test.YthkdeljlhplkgaaCheckWalk
namespace Go.Proofs.Ythkdeljlhplkgaa
open Go.RowKit
namespace At

theorem Rd.eqn_at {S : Nat → Prop} {w : World} {l : List Eqn} {a : Option Addr} {n cap i : Nat} (h : Rd S w (.sl (l.map Eqn.d)) [.slice a n cap]) (hi : i < l.length) :
    ∃ b off v, a = some ⟨b, off, none⟩ ∧ S b ∧ b < w.heap.size ∧ w.cell? ⟨b, off + i * 8, none⟩ = some (.int .i64 l[i].rule) ∧ w.cell? ⟨b, off + i * 8 + 1, none⟩ = some (.int .i64 l[i].to'.at') ∧ w.cell? ⟨b, off + i * 8 + 2, none⟩ = some (.int .i64 l[i].to'.attr) ∧ w.cell? ⟨b, off + i * 8 + 3, none⟩ = some (.int .i64 l[i].is'.kind) ∧ w.cell? ⟨b, off + i * 8 + 4, none⟩ = some (.int .i64 l[i].is'.n) ∧ w.cell? ⟨b, off + i * 8 + 5, none⟩ = some (.int .i64 l[i].is'.ref.at') ∧ w.cell? ⟨b, off + i * 8 + 6, none⟩ = some (.int .i64 l[i].is'.ref.attr) ∧ w.cell? ⟨b, off + i * 8 + 7, none⟩ = some v ∧ Rd S w (.sl (l[i].is'.args.map Expr.d)) [v] := by
  obtain ⟨b, off, cs, ha, hS, hlt, hr, hl, hc⟩ := h.at (eqs_cells l) (by decide) (i := i) (by simpa using hi)
  simp at hr
  obtain ⟨c1, c2, rfl, h1, c3, c4, rfl, h2, h3⟩ := hr
  rw [RdAll.one_iff] at h3
  have h2' := Rd.ref h2
  obtain ⟨v, rfl, hk⟩ := Rd.expr h3
  simp [Rd] at h1
  subst h1 h2'
  exact ⟨b, off, v, ha, hS, hlt, by simpa using hc 0 (by simp), by simpa [Nat.add_assoc] using hc 1 (by simp), by simpa [Nat.add_assoc] using hc 2 (by simp), by simpa [Nat.add_assoc] using hc 3 (by simp), by simpa [Nat.add_assoc] using hc 4 (by simp), by simpa [Nat.add_assoc] using hc 5 (by simp), by simpa [Nat.add_assoc] using hc 6 (by simp), by simpa [Nat.add_assoc] using hc 7 (by simp), hk⟩

def PredExpr (g : Nat) (lb : Array Value) (l : List Expr) (p : Expr → Bool) (w : World) : Prop :=
  ∀ (W : World) (x : Expr) (v : Value), x ∈ l → Below w.heap.size w W → Rd AnyB W (.sl (x.args.map Expr.d)) [v] → Calls Try.prog g (#[.agg #[.int .i64 x.kind, .int .i64 x.n, .int .i64 x.ref.at', .int .i64 x.ref.attr, v]] ++ lb) W fun e w' => e = .returned (.bool (p x)) ∧ Below W.heap.size W w'

def PredEqn (g : Nat) (lb : Array Value) (l : List Eqn) (p : Eqn → Bool) (w : World) : Prop :=
  ∀ (W : World) (x : Eqn) (v : Value), x ∈ l → Below w.heap.size w W → Rd AnyB W (.sl (x.is'.args.map Expr.d)) [v] → Calls Try.prog g (#[.agg #[.int .i64 x.rule, .int .i64 x.to'.at', .int .i64 x.to'.attr, .int .i64 x.is'.kind, .int .i64 x.is'.n, .int .i64 x.is'.ref.at', .int .i64 x.is'.ref.attr, v]] ++ lb) W fun e w' => e = .returned (.bool (p x)) ∧ Below W.heap.size W w'

set_option maxHeartbeats 1000000 in
theorem indexFuncEqn (g : Nat) (lb : Array Value) (p : Eqn → Bool) (a : Option Addr) (cap : Nat) (l : List Eqn) (w : World) (eg : ∀ args w, (callFunc g args).run Try.prog w = .ok (.enter g args) w)
    (hf : PredEqn g lb l p w) (hl : Rd AnyB w (.sl (l.map Eqn.d)) [.slice a l.length cap]) :
    Calls Try.prog 55 #[.slice a l.length cap, .func (.func g) #[] lb] w fun e w' => e = .returned (.int .i64 (idxG p l)) ∧ Below w.heap.size w w' := by
  have HL := Lib.hid hl
  have HF := Lib.hid hf
  have hc := hl.bounds.2
  unfold maxLen at hc
  obtain ⟨hc1, hc2⟩ := hc
  clear hl hf
  go_enter Try.func55, Try.ntmps55
  go_wp2
  go_loopg [8] l.length (fun gg v8 wr => ∃ i : Nat, i ≤ l.length ∧ l.length - i ≤ gg ∧ v8 = .int .i64 i ∧ Hid (Below w.heap.size w wr) ∧ Hid (∀ j (h : j < l.length), j < i → p l[j] = false))
  case atStart => exact ⟨0, by omega, by omega, rfl, Below.refl _ _, fun j _ hj => by omega⟩
  case round =>
    obtain ⟨i, hi, hg, rfl, HB, HN⟩ := hrel
    by_cases hlt : i < l.length
    · have hlt' : (i : Int) < (l.length : Int) := by omega
      obtain ⟨b, off, vr, hae, -, -, c0, c1, c2, c3, c4, c5, c6, c7, hkr⟩ := Rd.eqn_at (HL.out.below HB.out) hlt
      obtain ⟨ar, cr, rfl, -, -⟩ := hkr.form
      rw [List.length_map] at c7 hkr
      obtain ⟨x, HX⟩ := nameIt (l[i]'hlt)
      rw [HX.out] at c0 c1 c2 c3 c4 c5 c6 c7 hkr
      have hcall := HF.out wr x _ (by rw [← HX.out]; exact List.getElem_mem hlt) HB.out hkr
      obtain ⟨q0, HQ0⟩ := nameIt x.rule
      rw [HQ0.out] at c0 hcall
      obtain ⟨q1, HQ1⟩ := nameIt x.to'.at'
      rw [HQ1.out] at c1 hcall
      obtain ⟨q2, HQ2⟩ := nameIt x.to'.attr
      rw [HQ2.out] at c2 hcall
      obtain ⟨q3, HQ3⟩ := nameIt x.is'.kind
      rw [HQ3.out] at c3 hcall
      obtain ⟨q4, HQ4⟩ := nameIt x.is'.n
      rw [HQ4.out] at c4 hcall
      obtain ⟨q5, HQ5⟩ := nameIt x.is'.ref.at'
      rw [HQ5.out] at c5 hcall
      obtain ⟨q6, HQ6⟩ := nameIt x.is'.ref.attr
      rw [HQ6.out] at c6 hcall
      obtain ⟨qn, HQN⟩ := nameIt x.is'.args.length
      rw [HQN.out] at c7 hcall
      have HC := Lib.hid hcall
      clear hcall hkr
      subst hae
      go_wp2_with fail
      refine HC.out.mono ?_
      rintro e w6 ⟨rfl, hb6⟩
      have HB6 := Lib.hid (HB.out.trans (hb6.mono HB.out.size))
      clear hb6 c0 c1 c2 c3 c4 c5 c6 c7
      cases hp : p x with
      | true =>
        have HE : Hid (idxG p l = i) := idxG_hit hlt (by rw [HX.out]; exact hp) HN.out
        clear hp
        go_wp2
        go_ret
        exact ⟨by rw [HE.out]; rfl, HB6.out⟩
      | false =>
        have HN2 : Hid (∀ j (h : j < l.length), j < i + 1 → p l[j] = false) := by
          intro j h hj
          by_cases e : j = i
          · subst e; rw [HX.out]; exact hp
          · exact HN.out j h (by omega)
        clear hp
        go_wp2
        go_roundg (l.length - (i + 1))
        case measure => omega
        case rel => exact ⟨i + 1, by omega, by omega, by go_num, HB6, HN2⟩
    · have hlt' : ¬ (i : Int) < (l.length : Int) := by omega
      have HE : Hid (idxG p l = -1) := idxG_none fun j hj => HN.out j hj (by omega)
      go_wp2
      go_ret
      exact ⟨by rw [HE.out]; rfl, HB.out⟩

set_option maxHeartbeats 1000000 in
theorem containsFuncEqn (g : Nat) (lb : Array Value) (p : Eqn → Bool) (a : Option Addr) (cap : Nat) (l : List Eqn) (w : World) (eg : ∀ args w, (callFunc g args).run Try.prog w = .ok (.enter g args) w)
    (hf : PredEqn g lb l p w) (hl : Rd AnyB w (.sl (l.map Eqn.d)) [.slice a l.length cap]) :
    Calls Try.prog 35 #[.slice a l.length cap, .func (.func g) #[] lb] w fun e w' => e = .returned (.bool (l.any p)) ∧ Below w.heap.size w w' := by
  have HL := Lib.hid hl
  have HF := Lib.hid hf
  have HG := Lib.hid eg
  clear hl hf eg
  go_enter Try.func35, Try.ntmps35
  go_wp2_with fail
  refine (indexFuncEqn g lb p a cap l w HG.out HF.out HL.out).mono ?_
  rintro e w1 ⟨rfl, hb⟩
  have HB := Lib.hid hb
  clear hb
  go_wp2
  go_ret
  exact ⟨by rw [idxG_ge]; rfl, HB.out⟩
end At
end Go.Proofs.Ythkdeljlhplkgaa
