/- How attribute systems read in memory; the contract of attr.size. -/
import Derived.Test.YtiapfogckbkkpaaAttr
import Derived.Deep.DeepCutAuto
namespace Go.Proofs.Ytiapfogckbkkpaa
open Go.RowKit
namespace At

theorem bx_cells5 {w : World} {b : Nat} {x0 x1 x2 x3 x4 : Value} {T : TypeId} (h : w.heap[b]? = some (.cells #[x0, x1, x2, x3, x4] T (0, 0))) :
    w.cell? ⟨b, 0, none⟩ = some x0 ∧ w.cell? ⟨b, 0 + 1, none⟩ = some x1 ∧ w.cell? ⟨b, 0 + 2, none⟩ = some x2 ∧ w.cell? ⟨b, 0 + 3, none⟩ = some x3 ∧ w.cell? ⟨b, 0 + 4, none⟩ = some x4 := by
  refine ⟨?_, ?_, ?_, ?_, ?_⟩ <;> simp [World.cell?, h]
theorem rd_ref {S : Nat → Prop} {w : World} (r : Ref) : Rd S w r.d [.int .i64 r.at', .int .i64 r.attr] := ⟨[.int .i64 r.at'], [.int .i64 r.attr], rfl, rfl, RdAll.one rfl⟩
theorem Rd.ref {S : Nat → Prop} {w : World} {r : Ref} {cs : List Value} (h : Rd S w r.d cs) : cs = [.int .i64 r.at', .int .i64 r.attr] := by
  obtain ⟨c1, c2, rfl, h1, h2⟩ := h
  rw [RdAll.one_iff] at h2
  simp [Rd] at h1 h2
  subst h1 h2
  rfl
theorem Rd.expr {S : Nat → Prop} {w : World} {x : Expr} {cs : List Value} (h : Rd S w x.d cs) : ∃ v, cs = [.int .i64 x.kind, .int .i64 x.n, .int .i64 x.ref.at', .int .i64 x.ref.attr, v] ∧ Rd S w (.sl (x.args.map Expr.d)) [v] := by
  rw [Expr.d_eq] at h
  obtain ⟨c1, c2, rfl, h1, c3, c4, rfl, h2, c5, c6, rfl, h3, h4⟩ := h
  rw [RdAll.one_iff] at h4
  have h3' := Rd.ref h3
  simp [Rd] at h1 h2
  subst h1 h2 h3'
  have h5 := h4
  obtain ⟨a, cap, L, e, _⟩ := h4
  subst e
  exact ⟨_, rfl, h5⟩
theorem rd_expr {S : Nat → Prop} {w : World} {x : Expr} {v : Value} (h : Rd S w (.sl (x.args.map Expr.d)) [v]) : Rd S w x.d [.int .i64 x.kind, .int .i64 x.n, .int .i64 x.ref.at', .int .i64 x.ref.attr, v] := by
  rw [Expr.d_eq]
  exact ⟨[_], [_, _, _, v], rfl, rfl, [_], [_, _, v], rfl, rfl, [_, _], [v], rfl, rd_ref _, RdAll.one h⟩
theorem Rd.arg {S : Nat → Prop} {w : World} {l : List Expr} {a : Option Addr} {n cap i : Nat} (h : Rd S w (.sl (l.map Expr.d)) [.slice a n cap]) (hi : i < l.length) :
    ∃ b off v, a = some ⟨b, off, none⟩ ∧ S b ∧ b < w.heap.size ∧ w.cell? ⟨b, off + i * 5, none⟩ = some (.int .i64 l[i].kind) ∧ w.cell? ⟨b, off + i * 5 + 1, none⟩ = some (.int .i64 l[i].n) ∧ w.cell? ⟨b, off + i * 5 + 2, none⟩ = some (.int .i64 l[i].ref.at') ∧ w.cell? ⟨b, off + i * 5 + 3, none⟩ = some (.int .i64 l[i].ref.attr) ∧ w.cell? ⟨b, off + i * 5 + 4, none⟩ = some v ∧ Rd S w (.sl (l[i].args.map Expr.d)) [v] := by
  obtain ⟨b, off, cs, ha, hS, hlt, hr, hl, hc⟩ := h.at (exprs_cells l) (by decide) (i := i) (by simpa using hi)
  simp at hr
  obtain ⟨v, rfl, hk⟩ := Rd.expr hr
  exact ⟨b, off, v, ha, hS, hlt, by simpa using hc 0 (by simp), by simpa [Nat.add_assoc] using hc 1 (by simp), by simpa [Nat.add_assoc] using hc 2 (by simp), by simpa [Nat.add_assoc] using hc 3 (by simp), by simpa [Nat.add_assoc] using hc 4 (by simp), hk⟩

def SizePost (x : Expr) (w : World) (e : Ending) (w' : World) : Prop := e = .returned (.int .i64 (min x.size 31 : Nat)) ∧ Below w.heap.size w w'
set_option maxHeartbeats 2000000 in
set_option maxRecDepth 100000 in
theorem sizeE : ∀ (m : Nat) (x : Expr) (v : Value) (w : World), x.size ≤ m → Rd AnyB w (.sl (x.args.map Expr.d)) [v] →
    Calls Try.prog 12 #[.agg #[.int .i64 x.kind, .int .i64 x.n, .int .i64 x.ref.at', .int .i64 x.ref.attr, v]] w (SizePost x w) := by
  intro m
  induction m with
  | zero => intro x v w hm; have := x.size_pos; omega
  | succ m ih =>
  intro x v w hm hv
  obtain ⟨a, cap, rfl, hc1, hc2⟩ := hv.form
  have HV := Lib.hid hv
  have HM := Lib.hid hm
  have IH := Lib.hid ih
  have HSZ := Lib.hid x.size_eq
  have HFIN : Hid (∀ z W, (min x.size 31 : Nat) = z → Below w.heap.size w W → SizePost x w (.returned (.int .i64 (z : Nat))) W) := fun z W h1 h2 => ⟨by rw [h1], h2⟩
  obtain ⟨q0, HQ0⟩ := nameIt x.kind
  obtain ⟨q1, HQ1⟩ := nameIt x.n
  obtain ⟨q2, HQ2⟩ := nameIt x.ref.at'
  obtain ⟨q3, HQ3⟩ := nameIt x.ref.attr
  obtain ⟨K, HKN⟩ := nameIt x.args
  rw [List.length_map, HKN.out] at hc1 HV
  rw [HKN.out] at HSZ
  rw [HQ0.out, HQ1.out, HQ2.out, HQ3.out, List.length_map, HKN.out]
  unfold maxLen at hc2
  clear hv hm ih
  obtain ⟨w0, HW0⟩ := nameIt (w.alloc (.cells #[.int .i64 q0, .int .i64 q1, .int .i64 q2, .int .i64 q3, .slice a K.length cap] 39))
  have HB0 : Hid (Below w.heap.size w w0) := by rw [← HW0.out]; exact (Below.refl _ _).alloc (Nat.le_refl _) _
  have X0 : Hid (w0.heap[w.heap.size]? = some (.cells #[.int .i64 q0, .int .i64 q1, .int .i64 q2, .int .i64 q3, .slice a K.length cap] 39 (0, 0))) := by rw [← HW0.out]; exact bx_new _ _ _ rfl
  obtain ⟨x0, x1, x2, x3, x4⟩ := bx_cells5 X0.out
  go_enter Try.func12, Try.ntmps12
  go_upto_region 1 with fail
  rw [HW0.out]
  go_wp2_with fail
  clear x0 x1 x2 x3 x4
  go_loopg [3, 9] K.length (fun gg v3 v9 wr => ∃ (i s : Nat), i ≤ K.length ∧ K.length - i ≤ gg ∧ v9 = .int .i64 i ∧ v3 = .int .i64 s ∧ s ≤ 30 ∧ Hid (s = 1 + sizeL (K.take i)) ∧ Hid (Below w.heap.size w wr))
  case atStart => exact ⟨0, 1, by omega, by omega, rfl, rfl, by omega, Lib.hid (by simp [sizeL]), HB0⟩
  case round =>
    obtain ⟨i, s, hi, hg, rfl, rfl, hs30, HS, HB⟩ := hrel
    by_cases hlt : i < K.length
    · have hlt' : (i : Int) < (K.length : Int) := by omega
      obtain ⟨b, off, v, hae, -, hbl, e0, e1, e2, e3, e4, hkid⟩ := Rd.arg (HV.out.below HB.out) hlt
      obtain ⟨av, cv, rfl, -, -⟩ := hkid.form
      obtain ⟨nv, HNV⟩ := nameIt (K[i].args.map Expr.d).length
      rw [HNV.out] at e4 hkid
      have hms : K[i].size ≤ m := by
        have h1 := HM.out
        rw [HSZ.out] at h1
        have := sizeL_kid hlt
        omega
      have HTK := Lib.hid (sizeL_take hlt)
      have HKID := Lib.hid (sizeL_kid hlt)
      obtain ⟨w1, HW1⟩ := nameIt (wr.alloc (.cells #[.int .i64 K[i].kind, .int .i64 K[i].n, .int .i64 K[i].ref.at', .int .i64 K[i].ref.attr, .slice av nv cv] 39))
      have hb1 : Below wr.heap.size wr w1 := by rw [← HW1.out]; exact (Below.refl _ _).alloc (Nat.le_refl _) _
      have X1 : Hid (w1.heap[wr.heap.size]? = some (.cells #[.int .i64 K[i].kind, .int .i64 K[i].n, .int .i64 K[i].ref.at', .int .i64 K[i].ref.attr, .slice av nv cv] 39 (0, 0))) := by rw [← HW1.out]; exact bx_new _ _ _ rfl
      have hih := IH.out K[i] _ w1 hms (hkid.below hb1)
      obtain ⟨kid, HKI⟩ := nameIt (K[i]'hlt)
      rw [HKI.out] at e0 e1 e2 e3 hih HTK HKID X1 HW1
      obtain ⟨p0, HP0⟩ := nameIt kid.kind
      obtain ⟨p1, HP1⟩ := nameIt kid.n
      obtain ⟨p2, HP2⟩ := nameIt kid.ref.at'
      obtain ⟨p3, HP3⟩ := nameIt kid.ref.attr
      rw [HP0.out] at e0 hih X1 HW1
      rw [HP1.out] at e1 hih X1 HW1
      rw [HP2.out] at e2 hih X1 HW1
      rw [HP3.out] at e3 hih X1 HW1
      have HC : Hid (Calls Try.prog 12 #[.agg #[.int .i64 p0, .int .i64 p1, .int .i64 p2, .int .i64 p3, .slice av nv cv]] w1 (fun e w' => ∃ z : Nat, e = .returned (.int .i64 z) ∧ z ≤ 31 ∧ Hid (z = min kid.size 31) ∧ Below w1.heap.size w1 w')) := hih.mono fun e w' h => ⟨_, h.1, by omega, rfl, h.2⟩
      have HB1 : Hid (Below w.heap.size w w1) := HB.out.trans (hb1.mono HB.out.size)
      obtain ⟨y0, y1, y2, y3, y4⟩ := bx_cells5 X1.out
      subst hae
      clear hih hkid hms hb1
      go_upto_region 5 with fail
      rw [HW1.out]
      clear e0 e1 e2 e3 e4
      go_wp2_with fail
      refine HC.out.mono ?_
      rintro e w2 ⟨z, rfl, hz31, HZ, hb2⟩
      have HB2 : Hid (Below w.heap.size w w2) := HB1.out.trans (hb2.mono HB1.out.size)
      clear hb2 y0 y1 y2 y3 y4
      by_cases hbig : 30 < s + z
      · have hbig' : (30 : Int) < (s : Int) + (z : Int) := by omega
        have HE : Hid ((min x.size 31 : Nat) = 31) := by
          show _ = _
          have h1 := HS.out
          have h2 := HZ.out
          have h3 := HKID.out
          have h4 := HSZ.out
          omega
        go_wp2_with fail
        go_ret
        exact HFIN.out 31 _ HE.out HB2.out
      · have hbig' : ¬ (30 : Int) < (s : Int) + (z : Int) := by omega
        have HS2 : Hid (s + z = 1 + sizeL (K.take (i + 1))) := by
          show _ = _
          have h1 := HS.out
          have h2 := HZ.out
          have h3 := HTK.out
          omega
        go_wp2_with fail
        go_roundg (K.length - (i + 1))
        case measure => omega
        case rel => exact ⟨i + 1, s + z, by omega, by omega, by go_num, by go_num, by omega, HS2, HB2⟩
    · have hlt' : ¬ (i : Int) < (K.length : Int) := by omega
      have HE : Hid ((min x.size 31 : Nat) = s) := by
        show _ = _
        have h1 := HS.out
        rw [List.take_of_length_le (by omega)] at h1
        have h4 := HSZ.out
        omega
      go_wp2_with fail
      go_ret
      exact HFIN.out s _ HE.out HB.out
end At
end Go.Proofs.Ytiapfogckbkkpaa
