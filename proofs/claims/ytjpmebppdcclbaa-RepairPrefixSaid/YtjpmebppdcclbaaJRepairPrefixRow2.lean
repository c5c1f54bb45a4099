/- parlref4.both. Maps that are sets: only 'true' is stored. Grammars, in plain Lean: which are valid. Keys of rules, as RuleFault makes them: plain law. Maps of one-cell values in memory, by what they have at a key: strings or numbers as keys. Aligned words, in plain Lean: the distance by a table, and by all ways; the operations. A map of corrections by symbols and ranges (parlref4.grid.now). The values of parlref4.grid: (*grid).of. What parlref4.list reckons out of values of symbols, in plain Lean; bounds. repair.less, repair.hopeless, repair.then. A row of one-cell values in memory, written in place. Rows of ways in memory, written in place. -/
import Derived.Test.YtjpmebppdcclbaaJRepairPrefixRow1
import Derived.Maps.OwnSet
import Derived.Maps.Views
import Derived.WalkKit
import Derived.DeepKeys4
import Derived.WideKeyEntry
import Derived.Deep.LoopGhost
import Derived.Deep.DeepCutAuto
import Derived.Deep.Cut
import Derived.Deep.OwnRows
namespace Go.Proofs.Ytjpmebppdcclbaa
open Go.RowKit
namespace Rp
theorem step_appS {P : Program} {ops : Array Oper} {o : Oper} {a : Act} {K : Act → World → Prop} {Q : Exit → Act → World → Prop} {E' : Prop} {w : World} {t e : TypeId} {bytes : Nat} (E : ElemT P t e 1 bytes)
    (hgd : o.guard = none) (s x : Operand) (ho : o.op = .call { callee := .builtin .append, args := #[s, x], argTypes := #[t, t] })
    {B : Nat} {v u : Value} {n : Nat} {xs L : List Value} (hown : w.ownsRow B e 1 v n xs) (hs : a.eval s = v) (hsl : Sl w u L) (hx : a.eval x = u) (h1 : ∀ z ∈ L, z.oneCell' = true)
    (hb : (n + L.length) * bytes ≤ 140737488355328) (hm : n + L.length ≤ maxLen) (hB : B ≤ w.heap.size)
    (h : ∀ a' cap w', w'.ownsRow B e 1 (.slice a' (n + L.length) cap) (n + L.length) (xs ++ L) → w.grownBy w' v.ownBlock → K (a.put o.dst (.slice a' (n + L.length) cap)) w') :
    if Region.wanted o (yielded ops a.tmps) = true then Oper.wp P o a w K Q else E' := by
  have hw : Region.wanted o (yielded ops a.tmps) = true := by simp [Region.wanted, hgd]
  rw [if_pos hw]
  obtain ⟨hu, ⟨i, z, hi, hz, hsz, hby, hzs⟩, hp⟩ := E
  obtain ⟨a', cap, rfl, hl, hc, hn, hcell⟩ := hsl
  cases a' with
  | none =>
    obtain rfl : cap = 0 := hn rfl
    have hL : L = [] := List.eq_nil_of_length_eq_zero (by omega)
    subst hL
    have hr := run_append_owned_none (P := P) (w := w) B t o.type e i 1 hu hi v n xs hown
    obtain ⟨a2, c2, rfl, _, _⟩ := own_len hown
    unfold Oper.wp execOp
    simp only [ho, resolve, invoke, builtin, Sem.run_bind, Sem.run_pure, Result.andThen_ok, List.map_toArray, List.map_cons, List.map_nil, hs, hx]
    simp only [List.length_nil, hr]
    exact h a2 c2 w (by simpa using hown) ⟨rfl, rfl, rfl, Nat.le_refl _, fun _ _ _ => rfl⟩
  | some ad =>
    obtain ⟨v', w', hr, h2, h3, h4, h5⟩ := run_append_own_at (P := P) w B t o.type e i z 1 bytes hu hi hz hsz hby hzs hp v n xs hown ad L.length cap L (by simp) (by
      intro j y hj
      obtain ⟨hj1, hj2⟩ := List.getElem?_eq_some_iff.1 hj
      obtain ⟨y', hy, h2⟩ := hcell j hj1
      cases hy
      rw [h2, hj2]) h1 hm hb hB
    obtain ⟨a2, c2, rfl, _, _⟩ := own_len h2
    unfold Oper.wp execOp
    simp only [ho, resolve, invoke, builtin, Sem.run_bind, Sem.run_pure, Result.andThen_ok, List.map_toArray, List.map_cons, List.map_nil, hs, hx, hr]
    exact h a2 c2 w' h2 h3
theorem inv_setc {md : Region.Mode} {ops : Array Oper} {n i : Nat} {listed : Array Bool} (inv : HeadInv md ops n listed) (hr : (Region.ready md ops listed).contains i = true) (hin : i < n) : HeadInv md ops n (listed.setIfInBounds i true) := inv.set (by simpa using hr) hin
theorem grown_cell4 (w : World) (b : Nat) (v0 v1 v2 v3 : Value) : w.grownBy ((((w.setCell ⟨b, 0, none⟩ v0).setCell ⟨b, 0 + 1, none⟩ v1).setCell ⟨b, 0 + 2, none⟩ v2).setCell ⟨b, 0 + 3, none⟩ v3) (some b) := by
  refine ⟨rfl, rfl, rfl, by simp [World.setCell], fun k _ hn => ?_⟩
  have hne : ¬ k = b := fun e => hn (by rw [e])
  rw [Below.heap_setCell _ _ _ _ hne, Below.heap_setCell _ _ _ _ hne, Below.heap_setCell _ _ _ _ hne, Below.heap_setCell _ _ _ _ hne]
theorem thn_w {v v' : Val} : (thn v v').w = if v.n + v'.n ≤ 2000 then v.w ++ v'.w else [] := rfl
def bothO : Option Val → Option Val → Option Val
  | some a, some b => some (thn a b)
  | _, _ => none
theorem rd_own {w : World} {B : Nat} {v : Value} {l : List Int} {n : Nat} (hn : n = l.length) (h : w.ownsRow B 3 1 v n (ints l)) : Rd (fun k => B ≤ k) w (D.ints l) [v] :=
  rd_of_own h ((rdAll_ints l _).2 rfl) (by rw [List.length_map]; exact hn.symm) (fun k e => (h.lt k e).1)
set_option maxHeartbeats 2000000 in
set_option maxRecDepth 100000 in
theorem bothE (x y : Value) (o p : Option Val) (P Q : Nat → Prop) (W : World) (hx : VR P W x o) (hy : VR Q W y p) (hc : oC o + oC p ≤ 4611686018427387904) (hn : oN o + oN p ≤ 4611686018427387904) (hl : (oW o).length ≤ 2000) (hl' : (oW p).length ≤ 2000) :
    Calls Try.prog 99 #[x, y] W fun e w' => ∃ z, e = .returned z ∧ VR (fun k => W.heap.size ≤ k) w' z (bothO o p) ∧ Below W.heap.size W w' := by
  obtain ⟨u, rfl, hu⟩ := hx
  obtain ⟨u', rfl, hu'⟩ := hy
  have hu := sl_rd hu
  have hu' := sl_rd hu'
  obtain ⟨a1, k1, rfl⟩ := hu.form
  obtain ⟨a2, k2, rfl⟩ := hu'.form
  obtain ⟨m1, HM1⟩ := nameIt (ints (oW o)).length
  obtain ⟨m2, HM2⟩ := nameIt (ints (oW p)).length
  rw [HM1.out] at hu ⊢
  rw [HM2.out] at hu' ⊢
  obtain ⟨r, HR⟩ := nameIt (bothO o p)
  have hr := HR.out
  rw [HR.out]
  clear HR
  cases o with
  | none =>
    simp only [Option.isSome, oC, oN]
    have : r = none := by rw [← hr]; rfl
    subst this
    clear hu hu' hr hc hn hl hl'
    cases p.isSome <;>
    · generalize oC p = cp
      generalize oN p = np
      go_enter Try.func99, Try.ntmps99
      go_wp2
      all_goals refine bodyPost_ret (v := .agg #[.bool false, .int .i64 0, .int .i64 0, .slice none 0 0]) (by simp [results, Try.results99, go_sem]) rfl ?_
      all_goals exact ⟨_, rfl, VR.none _ _, (((Below.refl _ _).alloc (Nat.le_refl _) _).alloc (by simp) _).alloc (by simp; omega) _⟩
  | some v =>
  cases p with
  | none =>
    simp only [Option.isSome, oC, oN]
    have : r = none := by rw [← hr]; rfl
    subst this
    clear hu hu' hr hc hn hl hl'
    go_enter Try.func99, Try.ntmps99
    go_wp2
    all_goals refine bodyPost_ret (v := .agg #[.bool false, .int .i64 0, .int .i64 0, .slice none 0 0]) (by simp [results, Try.results99, go_sem]) rfl ?_
    all_goals exact ⟨_, rfl, VR.none _ _, (((Below.refl _ _).alloc (Nat.le_refl _) _).alloc (by simp) _).alloc (by simp; omega) _⟩
  | some v' =>
    simp only [Option.isSome, oC, oN, oW] at *
    have : r = some (thn v v') := by rw [← hr]; rfl
    subst this
    obtain ⟨l, HL⟩ := nameIt v.w
    obtain ⟨l', HL'⟩ := nameIt v'.w
    obtain ⟨c, HC⟩ := nameIt v.c
    obtain ⟨c', HC'⟩ := nameIt v'.c
    obtain ⟨n, HN⟩ := nameIt v.n
    obtain ⟨n', HN'⟩ := nameIt v'.n
    rw [HL.out] at hu hl
    rw [HL'.out] at hu' hl'
    rw [HC.out, HC'.out] at hc
    rw [HN.out, HN'.out] at hn
    rw [HC.out, HC'.out, HN.out, HN'.out]
    have HU := Lib.hid hu
    have HU' := Lib.hid hu'
    clear hu hu' hr
    by_cases hb : n + n' ≤ 2000
    · have hb' : (n : Int) + (n' : Int) ≤ 2000 := by omega
      go_enter Try.func99, Try.ntmps99
      go_wp2_with fail
      obtain ⟨w0, HW⟩ := nameIt ((((W.alloc (.cells #[.bool true, .int .i64 c, .int .i64 n, .slice a1 m1 k1] 36)).alloc (.cells #[.bool true, .int .i64 c', .int .i64 n', .slice a2 m2 k2] 36)).alloc (.cells #[.bool false, .int .i64 0, .int .i64 0, .slice none 0 0] 36)).alloc (.cells #[.bool true, .int .i64 (c + c'), .int .i64 (n + n'), .slice none 0 0] 36))
      have hw0 : Below W.heap.size W w0 := by
        rw [← HW.out]
        exact ((((Below.refl _ _).alloc (Nat.le_refl _) _).alloc (by simp) _).alloc (by simp; omega) _).alloc (by simp; omega) _
      have hsz : w0.heap.size = W.heap.size + 1 + 1 + 1 + 1 := by rw [← HW.out]; simp
      have HSZ := Lib.hid hsz
      have HX0 : Hid (w0.heap[W.heap.size + 1 + 1 + 1]? = some (.cells #[.bool true, .int .i64 (c + c'), .int .i64 (n + n'), .slice none 0 0] 36 (0, 0))) := by
        rw [← HW.out]; exact bx_new _ _ _ (by simp)
      have HZ0 : Hid (w0.heap[W.heap.size + 1 + 1]? = some (.cells #[.bool false, .int .i64 0, .int .i64 0, .slice none 0 0] 36 (0, 0))) := by
        rw [← HW.out]; exact bx_keep (bx_new _ _ _ (by simp)) ((Below.refl _ _).alloc (Nat.le_refl _) _)
      have HCS : Hid (∀ w', Below w0.heap.size w0 w' → w'.cell? ⟨W.heap.size, 0 + 3, none⟩ = some (.slice a1 m1 k1) ∧ w'.cell? ⟨W.heap.size + 1, 0 + 3, none⟩ = some (.slice a2 m2 k2)) := by
        intro w' hb'
        have g1 : w0.heap[W.heap.size]? = some (.cells #[.bool true, .int .i64 c, .int .i64 n, .slice a1 m1 k1] 36 (0, 0)) := by
          rw [← HW.out]
          exact bx_keep (bx_keep (bx_keep (bx_new _ _ _ rfl) ((Below.refl _ _).alloc (Nat.le_refl _) _)) ((Below.refl _ _).alloc (Nat.le_refl _) _)) ((Below.refl _ _).alloc (Nat.le_refl _) _)
        have g2 : w0.heap[W.heap.size + 1]? = some (.cells #[.bool true, .int .i64 c', .int .i64 n', .slice a2 m2 k2] 36 (0, 0)) := by
          rw [← HW.out]
          exact bx_keep (bx_keep (bx_new _ _ _ (by simp)) ((Below.refl _ _).alloc (Nat.le_refl _) _)) ((Below.refl _ _).alloc (Nat.le_refl _) _)
        exact ⟨(bx_cells4 (bx_keep g1 hb')).2.2.2, (bx_cells4 (bx_keep g2 hb')).2.2.2⟩
      rw [HW.out]
      have HW0 := Lib.hid hw0
      clear hw0 hsz HW
      -- R5
      refine wp_region_U (S := (fun w' => w'.cell? ⟨W.heap.size, 0 + 3, none⟩ = some (.slice a1 m1 k1) ∧ w'.cell? ⟨W.heap.size + 1, 0 + 3, none⟩ = some (.slice a2 m2 k2))) 5 (by kernel_rfl) (fun inv => ?_)
      refine wpU_take (i := 0) (v := .pointer (some ⟨W.heap.size, 0 + 3, none⟩)) rfl inv (by kernel_rfl) (by kernel_rfl) (by decide) (by decide) (by kernel_rfl) (by kernel_rfl) (by kernel_rfl) (fun _ _ _ h => h) (Or.inl ⟨by rfl, fun w' hw' => ?_⟩) (HCS.out _ (Below.refl _ _).drew) (fun inv => ?_)
      · obtain ⟨h0, h1⟩ := hw'
        go_simp
      try simp only [Act.put, List.setIfInBounds_toArray, List.set_cons_zero, List.set_cons_succ]
      refine wpU_take (i := 1) (v := .slice a1 m1 k1) rfl inv (by kernel_rfl) (by kernel_rfl) (by decide) (by decide) (by kernel_rfl) (by kernel_rfl) (by kernel_rfl) (fun _ _ _ h => h) (Or.inl ⟨by rfl, fun w' hw' => ?_⟩) (HCS.out _ (Below.refl _ _).drew) (fun inv => ?_)
      · obtain ⟨h0, h1⟩ := hw'
        go_simp
      try simp only [Act.put, List.setIfInBounds_toArray, List.set_cons_zero, List.set_cons_succ]
      refine wpU_take (i := 3) (v := .pointer (some ⟨W.heap.size + 1, 0 + 3, none⟩)) rfl inv (by kernel_rfl) (by kernel_rfl) (by decide) (by decide) (by kernel_rfl) (by kernel_rfl) (by kernel_rfl) (fun _ _ _ h => h) (Or.inl ⟨by rfl, fun w' hw' => ?_⟩) (HCS.out _ (Below.refl _ _).drew) (fun inv => ?_)
      · obtain ⟨h0, h1⟩ := hw'
        go_simp
      try simp only [Act.put, List.setIfInBounds_toArray, List.set_cons_zero, List.set_cons_succ]
      refine wpU_take (i := 4) (v := .slice a2 m2 k2) rfl inv (by kernel_rfl) (by kernel_rfl) (by decide) (by decide) (by kernel_rfl) (by kernel_rfl) (by kernel_rfl) (fun _ _ _ h => h) (Or.inl ⟨by rfl, fun w' hw' => ?_⟩) (HCS.out _ (Below.refl _ _).drew) (fun inv => ?_)
      · obtain ⟨h0, h1⟩ := hw'
        go_simp
      try simp only [Act.put, List.setIfInBounds_toArray, List.set_cons_zero, List.set_cons_succ]
      refine wpU_one (i := 2) (by kernel_rfl) rfl (fun K hK => ?_)
      replace inv := inv_setc (i := 2) inv (by kernel_rfl) (by decide)
      refine step_appS elInt (by rfl) _ _ (by rfl) (World.ownsRow_nil _ w0.heap.size _ _) (by rfl) (HU.out.keep (HW0.out.trans ((Below.refl _ _).drew.mono HW0.out.size))) (by rfl) (ints_one _) (by rw [ints_len]; omega) (by rw [ints_len]; unfold maxLen; omega) (Nat.le_refl _) ?_
      intro a3 c3 w3 ho3 hg3
      have HB3 : Hid (Below w0.heap.size w0 w3) := (Below.refl w0.heap.size w0).drew.grown hg3 (Nat.le_refl _) (fun k e => by cases e)
      have HO3 := Lib.hid ho3
      clear ho3 hg3
      refine hK.out _ _ (fun _ => HCS.out _ HB3.out) ?_
      clear hK K
      try simp only [Act.put, List.setIfInBounds_toArray, List.set_cons_zero, List.set_cons_succ]
      refine wpU_one (i := 5) (by kernel_rfl) rfl (fun K hK => ?_)
      refine step_appS elInt (by rfl) _ _ (by rfl) HO3.out (by rfl) (HU'.out.keep (HW0.out.trans (HB3.out.mono HW0.out.size))) (by rfl) (ints_one _) (by rw [ints_len, ints_len]; omega) (by rw [ints_len, ints_len]; unfold maxLen; omega) HB3.out.size ?_
      intro a4 c4 w4 ho4 hg4
      have HB4 : Hid (Below w0.heap.size w0 w4) := HB3.out.grown hg4 HB3.out.size (fun k e => (HO3.out.lt k e).1)
      have HO4 := Lib.hid ho4
      have HX4 := Lib.hid (bx_keep HX0.out HB4.out)
      clear ho4 hg4
      obtain ⟨n4, HN4⟩ := nameIt (0 + (ints l).length + (ints l').length)
      rw [HN4.out] at HO4
      simp only [HN4.out]
      refine hK.out _ _ (fun h => absurd (show true = false from h) (by decide)) ?_
      clear hK K
      try simp only [Act.put, List.setIfInBounds_toArray, List.set_cons_zero, List.set_cons_succ]
      refine wpU_one (i := 6) (by kernel_rfl) rfl (fun K hK => ?_)
      go_simp
      refine hK.out _ _ (fun h => absurd (show true = false from h) (by decide)) ?_
      clear hK K
      try simp only [Act.put, List.setIfInBounds_toArray, List.set_cons_zero, List.set_cons_succ]
      refine wpU_one (i := 7) (by kernel_rfl) rfl (fun K hK => ?_)
      obtain ⟨f0, f1, f2, f3⟩ := bx_free4 HX4.out
      obtain ⟨e0, e1, e2, e3⟩ := bx_cells4 HX4.out
      go_simp
      refine hK.out _ _ (fun h => absurd (show true = false from h) (by decide)) ?_
      clear hK K
      try simp only [Act.put, List.setIfInBounds_toArray, List.set_cons_zero, List.set_cons_succ]
      refine wpU_done (by kernel_rfl) ?_ _
      -- R5END
      have HF5 : Hid ((w4.setCell ⟨W.heap.size + 1 + 1 + 1, 0 + 3, none⟩ (.slice a4 n4 c4)).heap[W.heap.size + 1 + 1 + 1]? = some (.cells #[.bool true, .int .i64 (c + c'), .int .i64 (n + n'), .slice a4 n4 c4] 36 (0, 0))) := by
        show _ = _
        have := bx_set HX4.out 3 (.slice a4 n4 c4)
        simpa using this
      have HG5 : Hid ((w4.setCell ⟨W.heap.size + 1 + 1 + 1, 0 + 3, none⟩ (.slice a4 n4 c4)).heap[W.heap.size + 1 + 1]? = some (.cells #[.bool false, .int .i64 0, .int .i64 0, .slice none 0 0] 36 (0, 0))) := bx_other (bx_keep HZ0.out HB4.out) (by omega) _ _
      have HB5 : Hid (Below W.heap.size W (w4.setCell ⟨W.heap.size + 1 + 1 + 1, 0 + 3, none⟩ (.slice a4 n4 c4))) := (HW0.out.trans (HB4.out.mono HW0.out.size)).setCell (p := ⟨W.heap.size + 1 + 1 + 1, 0 + 3, none⟩) (by show _ ≤ W.heap.size + 1 + 1 + 1; omega) _
      have HR5 : Hid (Rd (fun k => w0.heap.size ≤ k) (w4.setCell ⟨W.heap.size + 1 + 1 + 1, 0 + 3, none⟩ (.slice a4 n4 c4)) (D.ints (l ++ l')) [.slice a4 n4 c4]) := by
        have h1 : w4.ownsRow w0.heap.size 3 1 (.slice a4 n4 c4) n4 (ints (l ++ l')) := by have := HO4.out; simpa [ints] using this
        refine rd_grown (rd_own (by rw [← HN4.out]; simp [ints]) h1) (grown_cell _ _ _) ?_
        intro k e h
        have e2 : W.heap.size + 1 + 1 + 1 = k := by simpa using e
        have h2 : w0.heap.size ≤ k := h
        have := HSZ.out
        omega
      obtain ⟨w5, HW5⟩ := nameIt (w4.setCell ⟨W.heap.size + 1 + 1 + 1, 0 + 3, none⟩ (.slice a4 n4 c4))
      rw [HW5.out] at HF5 HG5 HB5 HR5
      simp only [HW5.out]
      have e1 := bx_cells4 HF5.out
      have e2 := bx_free4 HG5.out
      have e3 := bx_cells4 HG5.out
      obtain ⟨p0, p1, p2, p3⟩ := e1
      obtain ⟨q0, q1, q2, q3⟩ := e2
      obtain ⟨r0, r1, r2, r3⟩ := e3
      go_wp2
      refine bodyPost_ret (v := .agg #[.bool true, .int .i64 (c + c'), .int .i64 (n + n'), .slice a4 n4 c4]) (by simp [results, Try.results99, go_sem, r0, r1, r2, r3]) rfl ?_
      have hg := grown_cell4 w5 (W.heap.size + 1 + 1) (.bool true) (.int .i64 (c + c')) (.int .i64 (n + n')) (.slice a4 n4 c4)
      have hW : oW (some (thn v v')) = l ++ l' := by
        show (thn v v').w = _
        rw [thn_w, HN.out, HN'.out, if_pos hb, HL.out, HL'.out]
      have hs5 := HB5.out.size
      have hsw := HSZ.out
      refine ⟨_, rfl, ⟨.slice a4 n4 c4, ?_, ?_⟩, HB5.out.grown hg (by omega) ?_⟩
      · simp [oC, oN, thn, HC.out, HC'.out, HN.out, HN'.out]
      · rw [hW]
        refine (rd_grown HR5.out hg ?_).mono ?_
        · intro k e h
          have e2 : W.heap.size + 1 + 1 = k := by simpa using e
          have h2 : w0.heap.size ≤ k := h
          omega
        · intro k h _
          have h2 : w0.heap.size ≤ k := h
          show W.heap.size ≤ k
          omega
      · intro k e
        have e2 : W.heap.size + 1 + 1 = k := by simpa using e
        omega
    · have hb' : ¬ (n : Int) + (n' : Int) ≤ 2000 := by omega
      go_enter Try.func99, Try.ntmps99
      go_wp2
      refine bodyPost_ret (v := .agg #[.bool true, .int .i64 (c + c'), .int .i64 (n + n'), .slice none 0 0]) (by simp [results, Try.results99, go_sem]) rfl ?_
      refine ⟨_, rfl, ⟨.slice none 0 0, ?_, ?_⟩, ?_⟩
      · simp [oC, oN, thn, HC.out, HC'.out, HN.out, HN'.out]
      · have hW : oW (some (thn v v')) = [] := by
          show (thn v v').w = _
          rw [thn_w, HN.out, HN'.out, if_neg hb]
        rw [hW]
        exact ⟨none, 0, [], rfl, Nat.le_refl _, by simp, fun _ => rfl, fun i hi => by simp at hi, by simp [RdAll]⟩
      · exact ((((Below.refl _ _).alloc (Nat.le_refl _) _).alloc (by simp) _).alloc (by simp; omega) _).alloc (by simp; omega) _
end Rp
end Go.Proofs.Ytjpmebppdcclbaa
namespace Go.Proofs.Ytjpmebppdcclbaa
open Go.RowKit
def SetM (P : Program) (k e : TypeId) (b c : Nat) (S : Lit → Bool) (w : World) : Prop :=
  ∃ D : DataW Unit, w.ownsMap P k (plainElem P e) b c D ∧ ∀ (key : Value) (l : Lit), keyOf P k key = some l → D.atKey l (.lit (.bool false)) = .lit (.bool (S l))
section
variable {P : Program} {k e t : TypeId} {b c : Nat} {S : Lit → Bool} {w w' : World}
theorem SetM.kept {row : Option Nat} (h : SetM P k e b c S w) (hg : w.grownBy w' row) (hne : some b ≠ row) : SetM P k e b c S w' := by
  obtain ⟨D, h1, h2⟩ := h
  exact ⟨D, h1.kept hg hne, h2⟩
theorem SetM.keep (h : SetM P k e b c S w) (hb : Below w.heap.size w w') : SetM P k e b c S w' := h.kept (grown_below hb none) (by simp)
theorem SetM.lt (h : SetM P k e b c S w) : b < w.heap.size := by obtain ⟨D, h1, h2⟩ := h; exact h1.lt
theorem SetM.start (P : Program) (k e : TypeId) (w : World) {b : Nat} (hb : b = w.heap.size) {S : Lit → Bool} (hS : ∀ l, S l = false) : SetM P k e b 0 S (w.alloc (.map #[] 0)) := by
  subst hb
  exact ⟨.map [], World.ownsMap_made w _ _ _, fun _ l _ => by simp [DataW.atKey, hS l]⟩
theorem plainElem_bool_inv (he : P.underlying e = some .bool) {v : Value} {z : DataW Unit × List MemPlace} (h : plainElem P e v = some z) : ∃ x, v = .bool x ∧ z = (.lit (.bool x), []) := by
  unfold plainElem at h
  rw [he] at h
  split at h
  · rename_i x _
    cases h
    exact ⟨_, rfl, rfl⟩
  · rename_i h1; cases h1
  · rename_i h1; cases h1
  · cases h
theorem SetM.look (h : SetM P k e b c S w) (hK : Maps.Keyed P k) (ht : P.underlying t = some (.map k e)) (he : P.underlying e = some .bool) (hz : (zeroValue e).run P w = .ok (.bool false) w) {key : Value} {l : Lit} (hkey : keyOf P k key = some l) :
    (Instr.lookup t (.map (some b)) key false).run P w = .ok (.bool (S l)) w := by
  obtain ⟨D, h1, h2⟩ := h
  obtain ⟨v, ps, hrun, hv⟩ := h1.lookup hK ht hz (plainElem_bool he false) hkey
  rw [h2 key l hkey] at hv
  obtain ⟨x, rfl, hx⟩ := plainElem_bool_inv he hv
  simp at hx
  rw [hrun, ← hx.1]
theorem SetM.add (h : SetM P k e b c S w) (hK : Maps.Keyed P k) (ht : P.underlying t = some (.map k e)) (he : P.underlying e = some .bool) (hc : c < maxLen) {key : Value} {l : Lit} (hkey : keyOf P k key = some l) {S' : Lit → Bool} (hS : S' l = true) (hO : ∀ l', l' ≠ l → S' l' = S l') :
    ∃ w', (Instr.mapUpdate t (.map (some b)) key (.bool true)).run P w = .ok () w' ∧ SetM P k e b (c + 1) S' w' ∧ w.grownBy w' (some b) := by
  obtain ⟨D, h1, h2⟩ := h
  obtain ⟨w', hrun, ho, ht'⟩ := h1.store hK ht hc hkey (plainElem_bool he true)
  refine ⟨w', hrun, ⟨_, ho, fun key' l' hk' => ?_⟩, ht'.grown⟩
  by_cases el : l' = l
  · subst el
    rw [Go.Maps.atKey_put_same h1.isMap (hK.key hkey), hS]
  · rw [Go.Maps.atKey_put_other el, h2 key' l' hk', hO l' el]
end
end Go.Proofs.Ytjpmebppdcclbaa
namespace Go.Proofs.Ytjpmebppdcclbaa
open Go.RowKit
structure Gram where
  terms : Int
  nons : Int
  start : Int
  rules : List Rule
  deriving DecidableEq
def Gram.d (g : Gram) : D := .agg [.int g.terms, .int g.nons, .int g.start, .sl (g.rules.map Rule.d)]
def hasS (g : Gram) (s : Sym) : Bool := decide (0 ≤ s.n) && (s.term && decide (s.n < g.terms) || !s.term && decide (s.n < g.nons))
def ordS (a b : Sym) : Int := if a.term = b.term then cmp3 a.n b.n else if a.term then -1 else 1
def cmpS : List Sym → List Sym → Int
  | [], [] => 0
  | [], _ :: _ => -1
  | _ :: _, [] => 1
  | x :: l, y :: m => if ordS x y = 0 then cmpS l m else ordS x y
def cmpR (a b : Rule) : Int := orL [cmp3 a.left b.left, cmpS a.right b.right]
def faultR (g : Gram) (i : Nat) (r : Rule) : Int :=
  if r.left < 0 ∨ g.nons ≤ r.left then 3 else if 4 < r.right.length then 2 else if r.right.any (fun s => !hasS g s) then 3 else if (g.rules.take i).any (fun x => cmpR x r == 0) then 6 else 0
def faultsFrom (g : Gram) : Nat → List Rule → Int
  | _, [] => 0
  | i, r :: l => if faultR g i r = 0 then faultsFrom g (i + 1) l else faultR g i r
def badHead (g : Gram) : Bool := decide (g.terms < 1) || decide (8 < g.terms) || decide (g.nons < 1) || decide (10 < g.nons) || decide (g.start < 0) || decide (g.nons ≤ g.start)
def checkG (g : Gram) : Int := if badHead g then 1 else if 32 < g.rules.length then 2 else faultsFrom g 0 g.rules
theorem faultsFrom_at {g : Gram} {i : Nat} (h : i < g.rules.length) : faultsFrom g i (g.rules.drop i) = if faultR g i g.rules[i] = 0 then faultsFrom g (i + 1) (g.rules.drop (i + 1)) else faultR g i g.rules[i] := by
  rw [List.drop_eq_getElem_cons h, faultsFrom]
theorem faultsFrom_zero {g : Gram} : ∀ {l : List Rule} {i : Nat}, faultsFrom g i l = 0 → ∀ r ∈ l, 0 ≤ r.left ∧ r.left < g.nons ∧ r.right.length ≤ 4 ∧ ∀ s ∈ r.right, hasS g s = true
  | [], i, _, r, hr => by simp at hr
  | x :: l, i, h, r, hr => by
    rw [faultsFrom] at h
    by_cases h0 : faultR g i x = 0
    · rw [if_pos h0] at h
      rcases List.mem_cons.1 hr with rfl | hr
      · unfold faultR at h0
        by_cases h1 : r.left < 0 ∨ g.nons ≤ r.left
        · rw [if_pos h1] at h0; simp at h0
        · rw [if_neg h1] at h0
          by_cases h2 : 4 < r.right.length
          · rw [if_pos h2] at h0; simp at h0
          · rw [if_neg h2] at h0
            by_cases h3 : r.right.any (fun s => !hasS g s) = true
            · rw [if_pos h3] at h0; simp at h0
            · refine ⟨by omega, by omega, by omega, fun s hs => ?_⟩
              simp at h3
              exact h3 s hs
      · exact faultsFrom_zero h r hr
    · rw [if_neg h0] at h; exact absurd h h0
theorem checkG_zero {g : Gram} (h : checkG g = 0) : (1 ≤ g.terms ∧ g.terms ≤ 8 ∧ 1 ≤ g.nons ∧ g.nons ≤ 10 ∧ 0 ≤ g.start ∧ g.start < g.nons) ∧ g.rules.length ≤ 32 ∧ ∀ r ∈ g.rules, 0 ≤ r.left ∧ r.left < g.nons ∧ r.right.length ≤ 4 ∧ ∀ s ∈ r.right, hasS g s = true := by
  unfold checkG at h
  by_cases h1 : badHead g = true
  · rw [if_pos h1] at h; simp at h
  · rw [if_neg h1] at h
    by_cases h2 : 32 < g.rules.length
    · rw [if_pos h2] at h; simp at h
    · rw [if_neg h2] at h
      refine ⟨?_, by omega, faultsFrom_zero h⟩
      simp [badHead] at h1
      omega
end Go.Proofs.Ytjpmebppdcclbaa
namespace Go.Proofs.Ytjpmebppdcclbaa
open Go.RowKit
def symB (s : Sym) : List UInt8 := [if s.term then 116 else 110, UInt8.ofNat s.n.toNat]
def keyB (l : Int) (ss : List Sym) : List UInt8 := UInt8.ofNat l.toNat :: ss.flatMap symB
def small (n : Int) : Prop := 0 ≤ n ∧ n < 10
def okR (r : Rule) : Prop := small r.left ∧ ∀ s ∈ r.right, small s.n
def keysOf (l : List Rule) : Lit → Bool
  | .string b => l.any fun r => keyB r.left r.right == b
  | _ => false
def Bts (s : ByteArray) (l : List UInt8) : Prop := s.data.toList = l
theorem Bts.app {s t : ByteArray} {l m : List UInt8} (h : Bts s l) (k : Bts t m) : Bts (s ++ t) (l ++ m) := by
  unfold Bts at *
  rw [ByteArray.data_append, Array.toList_append, h, k]
theorem Bts.size {s : ByteArray} {l : List UInt8} (h : Bts s l) : s.size = l.length := by
  unfold Bts at h
  rw [← h]; rfl
end Go.Proofs.Ytjpmebppdcclbaa
namespace Go.Proofs.Ytjpmebppdcclbaa
open Go.RowKit
namespace Km
theorem zInt (w : World) : (zeroValue 3).run Try.prog w = .ok (.int .i64 0) w := by
  obtain ⟨i, hi, hz, _⟩ := info_parts (show (Try.prog.info? 3).map (fun i => (i.zero, i.size, i.bytes)) = some (some (.int .i64 0), 1, 8) by kernel_rfl)
  simp [zeroValue, typeInfo, hi, hz]
def KMap (k e : TypeId) (b : Nat) (F : Lit → Option Lit) (c : Nat) (w : World) : Prop :=
  ∃ D : DataW Unit, w.ownsMap Try.prog k (plainElem Try.prog e) b c D ∧ Maps.size D = c ∧ (∀ l, Maps.has D l = (F l).isSome) ∧ ∀ l x, F l = some x → ∀ zd, D.atKey l zd = .lit x
open Classical in
noncomputable def put (F : Lit → Option Lit) (l x : Lit) : Lit → Option Lit := fun l' => if l' = l then some x else F l'
theorem put_same (F : Lit → Option Lit) (l x : Lit) : put F l x l = some x := by unfold put; rw [if_pos rfl]
theorem put_other (F : Lit → Option Lit) {l l' : Lit} (x : Lit) (h : l' ≠ l) : put F l x l' = F l' := by unfold put; rw [if_neg h]
section
variable {k e t : TypeId} {b c : Nat} {F F' : Lit → Option Lit} {w w' : World}
theorem KMap.kept {row : Option Nat} (h : KMap k e b F c w) (hg : w.grownBy w' row) (hne : some b ≠ row) : KMap k e b F c w' := by
  obtain ⟨D, h1, h2⟩ := h
  exact ⟨D, h1.kept hg hne, h2⟩
theorem KMap.keep (h : KMap k e b F c w) (hb : Below w.heap.size w w') : KMap k e b F c w' := h.kept (grown_below hb none) (by simp)
theorem KMap.setCell (h : KMap k e b F c w) {a : Addr} (ha : b ≠ a.block) (u : Value) : KMap k e b F c (w.setCell a u) := by
  obtain ⟨D, h1, h2⟩ := h
  exact ⟨D, h1.setCell ha u, h2⟩
theorem KMap.lt (h : KMap k e b F c w) : b < w.heap.size := by obtain ⟨D, h1, _⟩ := h; exact h1.lt
theorem KMap.eq (h : KMap k e b F c w) (e1 : ∀ l, F l = F' l) : KMap k e b F' c w := by rw [show F' = F from funext fun l => (e1 l).symm]; exact h
theorem KMap.start (w : World) {b : Nat} (hb : b = w.heap.size) : KMap k e b (fun _ => none) 0 (w.alloc (.map #[] 0)) := by
  subst hb
  exact ⟨.map [], World.ownsMap_made w _ _ _, rfl, fun l => by simp [Maps.has], fun l x h => by cases h⟩
theorem KMap.len (h : KMap k e b F c w) (ht : Try.prog.underlying t = some (.map k e)) (ty : TypeId) : (Builtin.len_ #[t] ty #[.map (some b)]).run Try.prog w = .ok (.int .i64 c) w := by
  obtain ⟨D, h1, h2, _⟩ := h
  have := h1.len ht ty
  rw [h2] at this
  exact this
theorem KMap.look (h : KMap k 3 b F c w) (hK : Maps.Keyed Try.prog k) (ht : Try.prog.underlying t = some (.map k 3)) {key : Value} {l : Lit} (hkey : keyOf Try.prog k key = some l) :
    (∀ x : Int, F l = some (.int .i64 x) → (Instr.lookup t (.map (some b)) key true).run Try.prog w = .ok (.tuple #[.int .i64 x, .bool true]) w ∧ (Instr.lookup t (.map (some b)) key false).run Try.prog w = .ok (.int .i64 x) w) ∧
    (F l = none → (Instr.lookup t (.map (some b)) key true).run Try.prog w = .ok (.tuple #[.int .i64 0, .bool false]) w) := by
  obtain ⟨D, h1, h2, h3, h4⟩ := h
  obtain ⟨v, ps, hrun, hv⟩ := h1.look_ok hK ht (zInt w) (plainElem_int Try.underlying3 (by decide)) hkey
  obtain ⟨v', ps', hrun', hv'⟩ := h1.lookup hK ht (zInt w) (plainElem_int Try.underlying3 (by decide)) hkey
  obtain ⟨n, rfl, hn, _⟩ := plainElem_int_inv Try.underlying3 hv
  obtain ⟨n', rfl, hn', _⟩ := plainElem_int_inv Try.underlying3 hv'
  rw [h3 l] at hrun
  constructor
  · intro x hx
    rw [hx] at hrun
    rw [h4 l _ hx] at hn hn'
    simp at hn hn'
    rw [← hn.1] at hrun
    rw [← hn'.1] at hrun'
    exact ⟨hrun, hrun'⟩
  · intro hx
    rw [hx] at hrun
    have hh : Maps.has D l = false := by rw [h3, hx]; rfl
    rw [Maps.atKey_of_not_has hh] at hn
    simp at hn
    rw [← hn.1] at hrun
    exact hrun
theorem KMap.store (h : KMap k e b F c w) (hK : Maps.Keyed Try.prog k) (ht : Try.prog.underlying t = some (.map k e)) (hc : c < maxLen) {key v : Value} {l x : Lit} (hkey : keyOf Try.prog k key = some l) (hv : plainElem (H := Unit) Try.prog e v = some (.lit x, [])) :
    ∃ w', (Instr.mapUpdate t (.map (some b)) key v).run Try.prog w = .ok () w' ∧ KMap k e b (put F l x) (if (F l).isSome then c else c + 1) w' ∧ w.grownBy w' (some b) := by
  obtain ⟨D, h1, h2, h3, h4⟩ := h
  obtain ⟨w', hrun, ho, htn⟩ := h1.store hK ht hc hkey hv
  have hm := h1.isMap
  have hkk := hK.key hkey
  have hty := h1.tidy hK
  have hsz := Maps.size_put (k := l) hty (.lit x)
  rw [h3 l, h2] at hsz
  refine ⟨w', hrun, ⟨_, ?_, hsz, fun l' => ?_, fun l' y hy zd => ?_⟩, htn.grown⟩
  · obtain ⟨es, ck, a1, a2, a3, a4⟩ := ho
    refine ⟨es, ck, a1, a2, ?_, a4⟩
    rw [← hsz, a4]
    show es.size ≤ _
    rw [Maps.size_eq, length_read]; exact Nat.le_refl _
  · by_cases el : l' = l
    · subst el
      rw [Maps.has_put_same hm hkk, put_same]; rfl
    · rw [Maps.has_put_other el, h3, put_other _ _ el]
  · by_cases el : l' = l
    · subst el
      rw [put_same] at hy
      cases hy
      exact Maps.atKey_put_same hm hkk _ _
    · rw [put_other _ _ el] at hy
      rw [Maps.atKey_put_other el]
      exact h4 l' y hy zd
end
end Km
end Go.Proofs.Ytjpmebppdcclbaa
namespace Go.Proofs.Ytjpmebppdcclbaa
namespace Al
def al (c0 c1 c2 : Int) : List Int → List Int → Int
  | [], v => (v.length : Int) * c0
  | _ :: w, [] => ((w.length : Int) + 1) * c1
  | x :: w, y :: v => if x = y then al c0 c1 c2 w v else min (min (al c0 c1 c2 w v + c2) (al c0 c1 c2 w (y :: v) + c1)) (al c0 c1 c2 (x :: w) v + c0)
termination_by w v => w.length + v.length
section
variable {c0 c1 c2 : Int}
end
structure Op where
  kind : Int
  at' : Int
  term : Int
  deriving DecidableEq
def ops (c0 c1 c2 : Int) : Nat → List Int → List Int → List Op
  | _, [], [] => []
  | i, x :: w, [] => ⟨2, i, x⟩ :: ops c0 c1 c2 (i + 1) w []
  | i, [], y :: v => ⟨1, i, y⟩ :: ops c0 c1 c2 i [] v
  | i, x :: w, y :: v => if x = y then ⟨0, i, x⟩ :: ops c0 c1 c2 (i + 1) w v
    else if al c0 c1 c2 w v + c2 = al c0 c1 c2 (x :: w) (y :: v) then ⟨3, i, y⟩ :: ops c0 c1 c2 (i + 1) w v
    else if al c0 c1 c2 w (y :: v) + c1 = al c0 c1 c2 (x :: w) (y :: v) then ⟨2, i, x⟩ :: ops c0 c1 c2 (i + 1) w (y :: v)
    else ⟨1, i, y⟩ :: ops c0 c1 c2 i (x :: w) v
termination_by _ w v => w.length + v.length
def run : List Int → Nat → List Op → Option (List Int)
  | rest, _, [] => if rest = [] then some [] else none
  | rest, i, o :: l => if o.at' ≠ i ∨ o.kind < 0 ∨ 3 < o.kind ∨ (o.kind ≠ 1 ∧ rest = []) then none
    else if o.kind = 1 then (run rest i l).map fun t => o.term :: t
    else match rest with
      | [] => none
      | x :: r => (run r (i + 1) l).map fun t => (if o.kind = 0 then [x] else if o.kind = 3 then [o.term] else []) ++ t
theorem nodup_le {α : Type} [BEq α] [LawfulBEq α] : ∀ (l m : List α), l.Nodup → (∀ x ∈ l, x ∈ m) → l.length ≤ m.length
  | [], m, _, _ => by simp
  | a :: l, m, hn, hs => by
    have ha := hs a List.mem_cons_self
    rw [List.nodup_cons] at hn
    have := nodup_le l (m.erase a) hn.2 fun x hx => by
      have hne : x ≠ a := fun e => hn.1 (e ▸ hx)
      exact (List.mem_erase_of_ne hne).2 (hs x (List.mem_cons_of_mem _ hx))
    rw [List.length_erase_of_mem ha] at this
    have : 0 < m.length := List.length_pos_of_mem ha
    simp; omega
end Al
end Go.Proofs.Ytjpmebppdcclbaa
namespace Go.Proofs.Ytjpmebppdcclbaa
open Go.RowKit
namespace Rp
theorem ptLaid : laidOutB Try.prog = true := by kernel_rfl
theorem ptRow : (125 : TypeId) < Try.prog.types.size := of_decide_eq_true (by kernel_rfl)
theorem ptWide : (match Try.prog.underlying 125 with | some (.array _ _) | some (.struct _) => true | _ => false) = true := by kernel_rfl
theorem ptAt : Try.prog.keyTypeAt 3 125 = true := by kernel_rfl
set_option maxRecDepth 100000 in
theorem ptLaw : WideMaps.KeyLaw Try.prog 125 := deep_law_laid ptLaid (m := 3) (by omega) ptRow ptAt ptWide
theorem ptK : Go.Maps.Keyed Try.prog 125 := .of_law ptLaw
def ptL (b : Bool) (n : Int) (i j : Nat) : Lit := .string (keyBytes [.bool b, .int .i64 n, .int .i64 i, .int .i64 j])
def okN (n : Int) : Prop := 0 ≤ n ∧ n ≤ 100
def okP (n : Int) (i j : Nat) : Prop := okN n ∧ i ≤ 100 ∧ j ≤ 100
theorem wfN {n : Int} (h : okN n) : (Lit.int .i64 n).wf = true := by
  obtain ⟨h1, h2⟩ := h
  simp [Lit.wf, IntKind.min, IntKind.max, IntKind.signed, IntKind.bits]; omega
theorem wfM {n : Nat} (h : n ≤ 100) : (Lit.int .i64 (n : Int)).wf = true := wfN ⟨by omega, by omega⟩
def ptV (b : Bool) (n : Int) (i j : Nat) : Value := .agg #[.bool b, .int .i64 n, .int .i64 i, .int .i64 j]
theorem ptKey {b : Bool} {n : Int} {i j : Nat} (h : okP n i j) : keyOf Try.prog 125 (ptV b n i j) = some (ptL b n i j) := by
  have hn := wfN h.1
  have hi := wfM h.2.1
  have hj := wfM h.2.2
  have h1 : Try.prog.keyType 125 = true := by kernel_rfl
  have h3 : Try.prog.cellsOf 125 = 4 := by kernel_rfl
  have h4 : Try.prog.cellsOf 3 = 1 := by kernel_rfl
  have h5 : Try.prog.cellsOf 4 = 1 := by kernel_rfl
  have h6 : Try.prog.cellsOf 44 = 2 := by kernel_rfl
  have h2 : (Value.agg #[.bool b, Value.int .i64 n, Value.int .i64 i, Value.int .i64 j]).formed Try.prog 125 = true := by simp [Value.formed, Try.underlying125, h3]
  obtain ⟨m, hm⟩ : ∃ m, Try.prog.types.size = m + 1 + 1 := ⟨Try.prog.types.size - 2, by have h : 1 < Try.prog.types.size := of_decide_eq_true (by kernel_rfl); omega⟩
  have h7 : Try.prog.keyLits (Try.prog.types.size + 1) 125 [.bool b, .int .i64 n, .int .i64 i, .int .i64 j] = some [.bool b, .int .i64 n, .int .i64 i, .int .i64 j] := by
    rw [hm]
    simp [Program.keyLits, Try.underlying125, Try.underlying44, h3, h4, h5, h6, Try.underlying3, Try.underlying4, hn, hi, hj]
    rw [if_pos (fun i x => by match i, x with | 0, _ => simp | 1, _ => simp | n + 2, h => exact absurd h (by omega))]
    rfl
  unfold ptV keyOf
  simp only [Try.underlying125, h1, h2, Bool.and_self, if_true]
  show Option.map _ (Try.prog.keyLits _ _ [.bool b, .int .i64 n, .int .i64 i, .int .i64 j]) = _
  rw [h7]
  rfl
theorem ptL_inj {b b' : Bool} {n n' : Int} {i j i' j' : Nat} (h : okP n i j) (h' : okP n' i' j') (e : ptL b n i j = ptL b' n' i' j') : b = b' ∧ n = n' ∧ i = i' ∧ j = j' := by
  have h1 := ptKey (b := b) h
  have h2 := ptKey (b := b') h'
  rw [← e] at h2
  have := ptK.inj h1 h2
  unfold ptV at this
  simp at this
  obtain ⟨a1, a2, a3, a4⟩ := this
  exact ⟨a1, a2, by omega, by omega⟩
def heldE : Value → Option (DataW Value × List MemPlace) := fun v => some (.held v, [])
def RMap (P : Nat → Prop) (mb : Nat) (T : Int → Nat → Nat → Option Val) (w : World) : Prop :=
  ∃ (D : DataW Value) (K : List (Int × Nat × Nat)), w.ownsMap Try.prog 125 heldE mb K.length D ∧ K.Nodup ∧ (∀ p ∈ K, okP p.1 p.2.1 p.2.2) ∧
    (∀ n i j, okP n i j → ((n, i, j) ∈ K ↔ T n i j ≠ none)) ∧
    (∀ b n i j, okP n i j → Maps.has D (ptL b n i j) = (!b && decide ((n, i, j) ∈ K))) ∧
    (∀ n i j v, okP n i j → T n i j = some v → ∃ x, (∀ zd, D.atKey (ptL false n i j) zd = .held x) ∧ VR P w x (some v))
section
variable {P P' : Nat → Prop} {mb : Nat} {T T' : Int → Nat → Nat → Option Val} {w w' : World}
theorem RMap.lt (h : RMap P mb T w) : mb < w.heap.size := by obtain ⟨D, K, h1, _⟩ := h; exact h1.lt
theorem RMap.kept {row : Option Nat} (h : RMap P mb T w) (hg : w.grownBy w' row) (hne : some mb ≠ row) (hr : ∀ k, row = some k → ¬ P k) : RMap P mb T w' := by
  obtain ⟨D, K, h1, h2, h3, h4, h5, h6⟩ := h
  refine ⟨D, K, h1.kept hg hne, h2, h3, h4, h5, fun n i j v hk hv => ?_⟩
  obtain ⟨x, h7, h8⟩ := h6 n i j v hk hv
  exact ⟨x, h7, h8.grown hg hr⟩
theorem RMap.keep (h : RMap P mb T w) (hb : Below w.heap.size w w') : RMap P mb T w' := h.kept (grown_below hb none) (by simp) (by simp)
theorem RMap.mono (h : RMap P mb T w) (hp : ∀ k, P k → k < w.heap.size → P' k) : RMap P' mb T w := by
  obtain ⟨D, K, h1, h2, h3, h4, h5, h6⟩ := h
  refine ⟨D, K, h1, h2, h3, h4, h5, fun n i j v hk hv => ?_⟩
  obtain ⟨x, h7, h8⟩ := h6 n i j v hk hv
  exact ⟨x, h7, h8.mono hp⟩
theorem RMap.start (P : Nat → Prop) (w : World) {b : Nat} (hb : b = w.heap.size) : RMap P b (fun _ _ _ => none) (w.alloc (.map #[] 0)) := by
  subst hb
  exact ⟨.map [], [], World.ownsMap_made w _ _ _, List.nodup_nil, by simp, by simp, fun b n i j _ => by simp [Maps.has], fun n i j v _ h => by cases h⟩
theorem zeroVal (w : World) : (zeroValue 36).run Try.prog w = .ok (.agg #[.bool false, .int .i64 0, .int .i64 0, .slice none 0 0]) w := by
  obtain ⟨i, hi, hz, _⟩ := info_parts (show (Try.prog.info? 36).map (fun i => (i.zero, i.size, i.bytes)) = some (some (.agg #[.bool false, .int .i64 0, .int .i64 0, .slice none 0 0]), 4, 48) by kernel_rfl)
  simp [zeroValue, typeInfo, hi, hz]
theorem RMap.look (h : RMap P mb T w) {b : Bool} {n : Int} {i j : Nat} (hk : okP n i j) :
    ∃ x, (Instr.lookup 120 (.map (some mb)) (ptV b n i j) false).run Try.prog w = .ok x w ∧ VR P w x (if b then none else T n i j) := by
  obtain ⟨D, K, h1, h2, h3, h4, h5, h6⟩ := h
  obtain ⟨v, ps, hrun, hv⟩ := h1.lookup ptK Try.underlying120 (zeroVal w) (zd := .held (.agg #[.bool false, .int .i64 0, .int .i64 0, .slice none 0 0])) (zp := []) rfl (ptKey (b := b) hk)
  refine ⟨v, hrun, ?_⟩
  have hz : Maps.has D (ptL b n i j) = false → VR P w v none := by
    intro hh
    rw [Maps.atKey_of_not_has hh] at hv
    simp [heldE] at hv
    rw [hv.1]
    exact VR.none _ _
  cases b with
  | true =>
    simp only [if_true]
    exact hz (by rw [h5 _ _ _ _ hk]; rfl)
  | false =>
    simp only [Bool.false_eq_true, if_false]
    cases e : T n i j with
    | none => exact hz (by
        have : (n, i, j) ∉ K := fun hm => (h4 n i j hk).1 hm e
        rw [h5 _ _ _ _ hk]; simp [this])
    | some u =>
      obtain ⟨x, h7, h8⟩ := h6 n i j u hk e
      rw [h7] at hv
      simp [heldE] at hv
      rw [hv.1]
      exact h8
theorem RMap.looks (h : RMap P mb T w) {b : Bool} {n : Int} {i j : Nat} (hk : okP n i j) :
    ∃ x, (∀ w', Below w.heap.size w w' → (Instr.lookup 120 (.map (some mb)) (ptV b n i j) false).run Try.prog w' = .ok x w') ∧ VR P w x (if b then none else T n i j) := by
  have h0 := h
  obtain ⟨x, hx, hv⟩ := h.look (b := b) hk
  refine ⟨x, fun w' hb => ?_, hv⟩
  obtain ⟨D, K, h1, h2, h3, h4, h5, h6⟩ := h0
  obtain ⟨v, ps, hrun, hv1⟩ := h1.lookup ptK Try.underlying120 (zeroVal w) (zd := .held (.agg #[.bool false, .int .i64 0, .int .i64 0, .slice none 0 0])) (zp := []) rfl (ptKey (b := b) hk)
  obtain ⟨v', ps', hrun', hv2⟩ := (h1.kept (grown_below hb none) (by simp)).lookup ptK Try.underlying120 (zeroVal w') (zd := .held (.agg #[.bool false, .int .i64 0, .int .i64 0, .slice none 0 0])) (zp := []) rfl (ptKey (b := b) hk)
  have e1 : v = v' := by
    simp [heldE] at hv1 hv2
    have := hv1.1.trans hv2.1.symm
    simpa using this
  have e2 : x = v := by rw [hx] at hrun; simpa using hrun
  rw [e2, e1]
  exact hrun'
theorem few {K : List (Int × Nat × Nat)} (h2 : K.Nodup) (h3 : ∀ p ∈ K, okP p.1 p.2.1 p.2.2) : K.length ≤ 101 * (101 * 101) := by
  have := Al.nodup_le K ((List.range 101).flatMap fun (a : Nat) => (List.range 101).flatMap fun (i : Nat) => (List.range 101).map fun (j : Nat) => ((a : Int), i, j)) h2 (fun p hp => by
    obtain ⟨⟨q1, q2⟩, q3, q4⟩ := h3 p hp
    obtain ⟨a, i, j⟩ := p
    simp only at q1 q2 q3 q4
    rw [List.mem_flatMap]
    refine ⟨a.toNat, by simp; omega, ?_⟩
    rw [List.mem_flatMap]
    refine ⟨i, by simp; omega, ?_⟩
    rw [List.mem_map]
    exact ⟨j, by simp; omega, by rw [show ((a.toNat : Nat) : Int) = a by omega]⟩)
  refine Nat.le_trans this ?_
  have hl : ∀ (l : List Nat) (g : Nat → List (Int × Nat × Nat)) (c : Nat), (∀ a, (g a).length = c) → (l.flatMap g).length = l.length * c := by
    intro l g c h
    induction l with
    | nil => simp
    | cons a l ih => simp only [List.flatMap_cons, List.length_append, List.length_cons, Nat.add_mul, ih, h]; omega
  rw [hl (List.range 101) _ (101 * 101) (fun a => by rw [hl (List.range 101) _ 101 (fun i => by simp)]; simp)]; simp
open Classical in
noncomputable def upd (T : Int → Nat → Nat → Option Val) (n : Int) (i j : Nat) (o : Option Val) : Int → Nat → Nat → Option Val := fun n' i' j' => if n' = n ∧ i' = i ∧ j' = j then o else T n' i' j'
theorem RMap.store (h : RMap P mb T w) {n : Int} {i j : Nat} (hk : okP n i j) {x : Value} {v : Val} (hx : VR P w x (some v)) (hm : ¬ P mb) :
    ∃ w', (Instr.mapUpdate 120 (.map (some mb)) (ptV false n i j) x).run Try.prog w = .ok () w' ∧ RMap P mb (upd T n i j (some v)) w' ∧ w.grownBy w' (some mb) := by
  obtain ⟨D, K, h1, h2, h3, h4, h5, h6⟩ := h
  have hfew := few h2 h3
  obtain ⟨w', hrun, ho, ht⟩ := h1.store ptK Try.underlying120 (by unfold maxLen; omega) (ptKey (b := false) hk) (val := x) (d := .held x) (ps := []) rfl
  have hM := h1.isMap
  have hkk := ptK.key (ptKey (b := false) hk)
  have hty := h1.tidy ptK
  have hsz := Maps.size_put (k := ptL false n i j) hty (.held x)
  have hsD : Maps.size D ≤ K.length := h1.size_le
  have hg := ht.grown
  have hv' : ∀ y o, VR P w y o → VR P w' y o := fun y o hy => hy.grown hg (fun k e => by cases e; exact hm)
  have hel : ∀ b' n' i' j', okP n' i' j' → ¬ (b' = false ∧ n' = n ∧ i' = i ∧ j' = j) → ptL b' n' i' j' ≠ ptL false n i j := fun b' n' i' j' h1 h2 e => h2 (ptL_inj h1 hk e)
  by_cases hin : (n, i, j) ∈ K
  · refine ⟨w', hrun, ⟨D.put (ptL false n i j) (.held x), K, ?_, h2, h3, fun n' i' j' hk' => ?_, fun b' n' i' j' hk' => ?_, fun n' i' j' v' hk' hv => ?_⟩, hg⟩
    · obtain ⟨es, ck, a1, a2, a3, a4⟩ := ho
      refine ⟨es, ck, a1, a2, ?_, a4⟩
      have hh : Maps.has D (ptL false n i j) = true := by rw [h5 _ _ _ _ hk]; simp [hin]
      rw [hh] at hsz
      have : es.size = Maps.size (D.put (ptL false n i j) (.held x)) := by rw [a4, Maps.size_eq, length_read]
      rw [this, hsz]
      exact hsD
    · unfold upd
      by_cases e : n' = n ∧ i' = i ∧ j' = j
      · obtain ⟨rfl, rfl, rfl⟩ := e
        simp [hin]
      · rw [if_neg e]; exact h4 n' i' j' hk'
    · by_cases e : b' = false ∧ n' = n ∧ i' = i ∧ j' = j
      · obtain ⟨rfl, rfl, rfl, rfl⟩ := e
        rw [Maps.has_put_same hM hkk]; simp [hin]
      · rw [Maps.has_put_other (hel _ _ _ _ hk' e)]; exact h5 _ _ _ _ hk'
    · by_cases e : n' = n ∧ i' = i ∧ j' = j
      · obtain ⟨rfl, rfl, rfl⟩ := e
        unfold upd at hv
        rw [if_pos ⟨rfl, rfl, rfl⟩] at hv
        cases hv
        exact ⟨x, fun zd => Maps.atKey_put_same hM hkk _ _, hv' _ _ hx⟩
      · unfold upd at hv
        rw [if_neg e] at hv
        obtain ⟨y, h7, h8⟩ := h6 n' i' j' v' hk' hv
        exact ⟨y, fun zd => by rw [Maps.atKey_put_other (hel _ _ _ _ hk' (fun h => e h.2))]; exact h7 zd, hv' _ _ h8⟩
  · refine ⟨w', hrun, ⟨D.put (ptL false n i j) (.held x), (n, i, j) :: K, ho, List.nodup_cons.2 ⟨hin, h2⟩, fun p hp => ?_, fun n' i' j' hk' => ?_, fun b' n' i' j' hk' => ?_, fun n' i' j' v' hk' hv => ?_⟩, hg⟩
    · rcases List.mem_cons.1 hp with rfl | hp
      · exact hk
      · exact h3 p hp
    · unfold upd
      by_cases e : n' = n ∧ i' = i ∧ j' = j
      · obtain ⟨rfl, rfl, rfl⟩ := e
        simp
      · rw [if_neg e, List.mem_cons, ← h4 n' i' j' hk']
        constructor
        · rintro (h | h)
          · simp at h; exact absurd h e
          · exact h
        · exact .inr
    · by_cases e : b' = false ∧ n' = n ∧ i' = i ∧ j' = j
      · obtain ⟨rfl, rfl, rfl, rfl⟩ := e
        rw [Maps.has_put_same hM hkk]; simp
      · rw [Maps.has_put_other (hel _ _ _ _ hk' e), h5 _ _ _ _ hk']
        cases b' with
        | true => rfl
        | false =>
          have : ¬ (n' = n ∧ i' = i ∧ j' = j) := fun h => e ⟨rfl, h⟩
          simp [List.mem_cons, this]
    · by_cases e : n' = n ∧ i' = i ∧ j' = j
      · obtain ⟨rfl, rfl, rfl⟩ := e
        unfold upd at hv
        rw [if_pos ⟨rfl, rfl, rfl⟩] at hv
        cases hv
        exact ⟨x, fun zd => Maps.atKey_put_same hM hkk _ _, hv' _ _ hx⟩
      · unfold upd at hv
        rw [if_neg e] at hv
        obtain ⟨y, h7, h8⟩ := h6 n' i' j' v' hk' hv
        exact ⟨y, fun zd => by rw [Maps.atKey_put_other (hel _ _ _ _ hk' (fun h => e h.2))]; exact h7 zd, hv' _ _ h8⟩
theorem setBlock_two (w : World) (b : Nat) (o o' : Obj) : Go.ChangeMaps.setBlock (Go.ChangeMaps.setBlock w b o) b o' = Go.ChangeMaps.setBlock w b o' := by
  unfold Go.ChangeMaps.setBlock
  simp
theorem RMap.entry (h : RMap P mb T w) {n : Int} {i j : Nat} (hk : okP n i j) (hm : ¬ P mb) :
    ∃ v0 st w1, (Instr.mapEntry 120 (.map (some mb)) (ptV false n i j)).run Try.prog w = .ok (.tuple #[v0, .int .i64 st]) w1 ∧ w.grownBy w1 (some mb) ∧
      ∀ x v, VR P w x (some v) → ∃ w', (Instr.entryStore 120 (.map (some mb)) (.int .i64 st) x).run Try.prog w1 = .ok () w' ∧ RMap P mb (upd T n i j (some v)) w' ∧ w.grownBy w' (some mb) := by
  have h0 := h
  obtain ⟨D, K, ⟨es, clock, hb, F, _, _⟩, _⟩ := h
  obtain ⟨v0, st, es1, clock1, he, _, hst⟩ := Go.WideElems.entry_then_store ptLaw Try.underlying120 (fun u => zeroVal u) hb F (ptKey (b := false) hk)
  have hb1 : (Go.ChangeMaps.setBlock w mb (.map es1 clock1)).heap[mb]? = some (.map es1 clock1) := Go.ChangeMaps.heap_setBlock_same hb _
  refine ⟨v0, st, _, he, ⟨rfl, rfl, rfl, by simp [Go.ChangeMaps.setBlock], fun i _ hi => Go.ChangeMaps.heap_setBlock_other hb _ (fun e => hi (by rw [e]))⟩, fun x v hx => ?_⟩
  obtain ⟨w', hrun, h1, h2⟩ := h0.store hk hx hm
  obtain ⟨es', clock', k1, k2⟩ := hst _ x hb1
  rw [setBlock_two] at k1
  rw [hrun] at k2
  obtain rfl : w' = Go.ChangeMaps.setBlock w mb (.map es' clock') := by simpa using k2
  exact ⟨_, k1, h1, h2⟩
end
end Rp
end Go.Proofs.Ytjpmebppdcclbaa
namespace Go.Proofs.Ytjpmebppdcclbaa
open Go.RowKit
namespace Rp
theorem wpU_2 {P : Program} {ops : Array Oper} {Q : Exit → Act → World → Prop} {md : Region.Mode} {S : World → Prop} {n i j : Nat} {o o' : Oper} {f : Nat} {listed : Array Bool} {a : Act} {w : World} (hr : Region.ready md ops listed = [i, j]) (ho : ops[i]? = some o) (ho' : ops[j]? = some o')
    (h : ∀ K : Act → World → Prop, OnU P md ops Q S n f (listed.setIfInBounds i true) K → if Region.wanted o (yielded ops a.tmps) = true then Oper.wp P o a w K Q else K (a.put o.dst undef) w)
    (h' : ∀ K : Act → World → Prop, OnU P md ops Q S n f (listed.setIfInBounds j true) K → if Region.wanted o' (yielded ops a.tmps) = true then Oper.wp P o' a w K Q else K (a.put o'.dst undef) w) : wpU P md ops Q S n (f + 1) listed a w := wpU_two hr ho ho' h h'
def LeafFn (fn : Nat) (lb : Array Value) (leafF : Sym → Nat → Nat → Option Val) (ok : Sym → Prop) (N : Nat) (P : Nat → Prop) (w : World) : Prop :=
  ∀ W (y : Sym) (i j : Nat), ok y → i ≤ j → j ≤ N → Below w.heap.size w W → Calls Try.prog fn (#[.agg #[.bool y.term, .int .i64 y.n], .int .i64 (i : Nat), .int .i64 (j : Nat)] ++ lb) W fun e w' => ∃ x, e = .returned x ∧ VR (fun k => P k ∨ W.heap.size ≤ k) w' x (leafF y i j) ∧ Below W.heap.size W w'
def ofT (leafF : Sym → Nat → Nat → Option Val) (T : Int → Nat → Nat → Option Val) (y : Sym) (i j : Nat) : Option Val :=
  if !y.term && lessB (T y.n i j) (leafF y i j) then T y.n i j else leafF y i j
def NV (w0 : World) (P : Nat → Prop) (b : Nat) (o : Option Val) (w : World) : Prop :=
  Below w0.heap.size w0 w ∧ w0.heap.size ≤ b ∧ ∃ u, w.heap[b]? = some (.cells #[.bool o.isSome, .int .i64 (oC o), .int .i64 (oN o), u] 36 (0, 0)) ∧ Rd (fun k => P k ∧ k ≠ b) w (D.ints (oW o)) [u]
theorem set4 {w : World} {b : Nat} {z0 z1 z2 z3 : Value} {T : TypeId} (h : w.heap[b]? = some (.cells #[z0, z1, z2, z3] T (0, 0))) (v0 v1 v2 v3 : Value) :
    ((((w.setCell ⟨b, 0, none⟩ v0).setCell ⟨b, 0 + 1, none⟩ v1).setCell ⟨b, 0 + 2, none⟩ v2).setCell ⟨b, 0 + 3, none⟩ v3).heap[b]? = some (.cells #[v0, v1, v2, v3] T (0, 0)) := by
  have h0 := bx_set h 0 v0
  have h1 := bx_set h0 (0 + 1) v1
  have h2 := bx_set h1 (0 + 2) v2
  have h3 := bx_set h2 (0 + 3) v3
  simpa using h3
theorem nv_mk {w0 w : World} {P : Nat → Prop} {b : Nat} {o : Option Val} {u z0 z1 z2 z3 : Value} (hb : Below w0.heap.size w0 w) (hbb : w0.heap.size ≤ b) (hz : w.heap[b]? = some (.cells #[z0, z1, z2, z3] 36 (0, 0)))
    (hr : Rd (fun k => P k ∧ k ≠ b) w (D.ints (oW o)) [u]) : NV w0 P b o ((((w.setCell ⟨b, 0, none⟩ (.bool o.isSome)).setCell ⟨b, 0 + 1, none⟩ (.int .i64 (oC o))).setCell ⟨b, 0 + 2, none⟩ (.int .i64 (oN o))).setCell ⟨b, 0 + 3, none⟩ u) := by
  have hg := grown_cell4 w b (.bool o.isSome) (.int .i64 (oC o)) (.int .i64 (oN o)) u
  refine ⟨hb.grown hg hb.size (fun k e => by cases e; exact hbb), hbb, u, set4 hz _ _ _ _, rd_grown hr hg ?_⟩
  intro k e h
  cases e
  exact h.2 rfl
section
variable {w0 w w' : World} {P : Nat → Prop} {b : Nat} {o : Option Val}
theorem NV.keep (h : NV w0 P b o w) (hb : Below w.heap.size w w') : NV w0 P b o w' := by
  obtain ⟨h1, h2, u, h3, h4⟩ := h
  exact ⟨h1.trans (hb.mono h1.size), h2, u, bx_keep h3 hb, h4.below hb⟩
theorem NV.mono {P' : Nat → Prop} (h : NV w0 P b o w) (hp : ∀ k, P k → P' k) : NV w0 P' b o w := by
  obtain ⟨h1, h2, u, h3, h4⟩ := h
  exact ⟨h1, h2, u, h3, h4.mono fun k hk _ => ⟨hp k hk.1, hk.2⟩⟩
theorem NV.vr (h : NV w0 P b o w) : ∃ u, w.heap[b]? = some (.cells #[.bool o.isSome, .int .i64 (oC o), .int .i64 (oN o), u] 36 (0, 0)) ∧ VR (fun k => P k ∧ k ≠ b) w (.agg #[.bool o.isSome, .int .i64 (oC o), .int .i64 (oN o), u]) o := by
  obtain ⟨h1, h2, u, h3, h4⟩ := h
  exact ⟨u, h3, u, rfl, h4⟩
theorem NV.lt (h : NV w0 P b o w) : b < w.heap.size := by
  obtain ⟨h1, h2, u, h3, h4⟩ := h
  exact (Array.getElem?_eq_some_iff.1 h3).1
theorem NV.grown {row : Option Nat} (h : NV w0 P b o w) (hg : w.grownBy w' row) (hr : row ≠ some b) (hp : ∀ k, row = some k → ¬ P k ∧ w0.heap.size ≤ k) : NV w0 P b o w' := by
  have hlt := h.lt
  obtain ⟨h1, h2, u, h3, h4⟩ := h
  exact ⟨h1.grown hg h1.size (fun k e => (hp k e).2), h2, u, (hg.block b hlt (fun e => hr e.symm)).trans h3, rd_grown h4 hg (fun k e hk => (hp k e).1 hk.1)⟩
end
set_option maxHeartbeats 4000000 in
set_option maxRecDepth 100000 in
theorem ofE (fn : Nat) (lb : Array Value) (leafF : Sym → Nat → Nat → Option Val) (ok : Sym → Prop) (N : Nat) (P : Nat → Prop) (w : World) (eg : ∀ args w, (callFunc fn args).run Try.prog w = .ok (.enter fn args) w) (hf : LeafFn fn lb leafF ok N P w) (gb mb : Nat) (gt gn gs gr nv ev : Value) (T : Int → Nat → Nat → Option Val) (y : Sym) (i j : Nat) (hy : ok y) (hk : okP y.n i j) (hij : i ≤ j) (hjn : j ≤ N) (W : World) (hw : Below w.heap.size w W) (hP : ∀ k, P k → k < W.heap.size)
    (hbox : W.heap[gb]? = some (.cells #[gt, gn, gs, gr, nv, .func (.func fn) #[] lb, ev, .map (some mb)] 122 (0, 0))) (hm : RMap P mb T W) :
    Calls Try.prog 42 #[.pointer (some ⟨gb, 0, none⟩), .agg #[.bool y.term, .int .i64 y.n], .int .i64 (i : Nat), .int .i64 (j : Nat)] W fun e w' => ∃ x, e = .returned x ∧ VR (fun k => P k ∨ W.heap.size ≤ k) w' x (ofT leafF T y i j) ∧ Below W.heap.size W w' := by
  obtain ⟨PST, HP⟩ := nameIt (fun (e : Ending) (w' : World) => ∃ x, e = .returned x ∧ VR (fun k => P k ∨ W.heap.size ≤ k) w' x (ofT leafF T y i j) ∧ Below W.heap.size W w')
  obtain ⟨r, HR⟩ := nameIt (ofT leafF T y i j)
  rw [HR.out] at HP
  have HFIN : Hid (∀ x w', VR (fun k => P k ∨ W.heap.size ≤ k) w' x r → Below W.heap.size W w' → PST (.returned x) w') := by
    intro x w' h1 h2; rw [← HP.out]; exact ⟨x, rfl, h1, h2⟩
  rw [HR.out, HP.out]
  clear HP
  have hr := HR.out
  clear HR
  unfold ofT at hr
  obtain ⟨bt, HBT⟩ := nameIt y.term
  obtain ⟨yn, HYN⟩ := nameIt y.n
  have hfl := hf
  unfold LeafFn at hfl
  obtain ⟨o, HO⟩ := nameIt (leafF y i j)
  have HLF : Hid (∀ W', Below W.heap.size W W' → Calls Try.prog fn (#[.agg #[.bool bt, .int .i64 yn], .int .i64 (i : Nat), .int .i64 (j : Nat)] ++ lb) W' fun e w' => ∃ x, e = .returned x ∧ VR (fun k => P k ∨ W'.heap.size ≤ k) w' x o ∧ Below W'.heap.size W' w') := by
    intro W' hb'
    have := hfl W' y i j hy hij hjn (hw.trans (hb'.mono hw.size))
    rw [HO.out, HBT.out, HYN.out] at this
    exact this
  rw [HO.out, HBT.out, HYN.out] at hr
  rw [HYN.out] at hk
  rw [HBT.out, HYN.out]
  obtain ⟨q, HQ⟩ := nameIt (T yn i j)
  rw [HQ.out] at hr
  have HR := Lib.hid hr
  have HK := Lib.hid hk
  have HM := Lib.hid hm
  have HBX := Lib.hid hbox
  have HPL := Lib.hid hP
  have hi' : (i : Int) ≤ 100 := by have := hk.2.1; omega
  have hj' : (j : Int) ≤ 100 := by have := hk.2.2; omega
  clear hr hk hm hbox hP hfl hf hw hy hij hjn HBT HYN HO
  obtain ⟨w0, HW⟩ := nameIt ((W.alloc (.cells #[.bool bt, .int .i64 yn] 44)).alloc (.cells #[.bool false, .int .i64 0, .int .i64 0, .slice none 0 0] 36))
  have hw0 : Below W.heap.size W w0 := by
    rw [← HW.out]
    exact ((Below.refl _ _).alloc (Nat.le_refl _) _).alloc (by simp) _
  have HSZ : Hid (w0.heap.size = W.heap.size + 1 + 1) := by show _ = _; rw [← HW.out]; simp
  have HZ0 : Hid (w0.heap[W.heap.size + 1]? = some (.cells #[.bool false, .int .i64 0, .int .i64 0, .slice none 0 0] 36 (0, 0))) := by
    rw [← HW.out]; exact bx_new _ _ _ (by simp)
  have HY0 : Hid (w0.heap[W.heap.size]? = some (.cells #[.bool bt, .int .i64 yn] 44 (0, 0))) := by
    rw [← HW.out]; exact bx_keep (bx_new _ _ _ rfl) ((Below.refl _ _).alloc (Nat.le_refl _) _)
  have HG0 := Lib.hid (bx_keep HBX.out hw0)
  have HM0 := Lib.hid (HM.out.keep hw0)
  have HB0 := Lib.hid hw0
  have HCS : Hid (∀ w', Below w0.heap.size w0 w' → w'.cell? ⟨gb, 0 + 5, none⟩ = some (.func (.func fn) #[] lb) ∧ w'.cell? ⟨gb, 0 + 7, none⟩ = some (.map (some mb)) ∧ w'.cell? ⟨W.heap.size, 0, none⟩ = some (.bool bt) ∧ w'.cell? ⟨W.heap.size, 0 + 1, none⟩ = some (.int .i64 yn)) := by
    intro w' hb'
    have g1 := bx_keep HG0.out hb'
    have g2 := bx_keep HY0.out hb'
    refine ⟨?_, ?_, ?_, ?_⟩ <;> simp [World.cell?, g1, g2]
  go_enter Try.func42, Try.ntmps42
  go_upto_region 1 with fail
  rw [HW.out]
  clear hw0 HW
  go_cut [9] (fun t wx => ∃ b1, t = .pointer (some ⟨b1, 0, none⟩) ∧ Hid (NV w0 (fun k => P k ∨ w0.heap.size ≤ k) b1 o wx))
  case first =>
    refine wp_region_U (S := (fun w' => w'.cell? ⟨gb, 0 + 5, none⟩ = some (.func (.func fn) #[] lb) ∧ w'.cell? ⟨gb, 0 + 7, none⟩ = some (.map (some mb)) ∧ w'.cell? ⟨W.heap.size, 0, none⟩ = some (.bool bt) ∧ w'.cell? ⟨W.heap.size, 0 + 1, none⟩ = some (.int .i64 yn))) 9 (by kernel_rfl) (fun inv => ?_)
    refine wpU_take (i := 0) (v := .pointer (some ⟨gb, 0, none⟩)) rfl inv (by kernel_rfl) (by kernel_rfl) (by decide) (by decide) (by kernel_rfl) (by kernel_rfl) (by kernel_rfl) (fun _ _ _ h => h) (Or.inl ⟨by rfl, fun w' hw' => ?_⟩) (HCS.out _ (Below.refl _ _).drew) (fun inv => ?_)
    · obtain ⟨h0, h1, h2, h3⟩ := hw'
      go_simp
    try simp only [Act.put, List.setIfInBounds_toArray, List.set_cons_zero, List.set_cons_succ]
    refine wpU_take (i := 1) (v := .pointer (some ⟨gb, 0, none⟩)) rfl inv (by kernel_rfl) (by kernel_rfl) (by decide) (by decide) (by kernel_rfl) (by kernel_rfl) (by kernel_rfl) (fun _ _ _ h => h) (Or.inl ⟨by rfl, fun w' hw' => ?_⟩) (HCS.out _ (Below.refl _ _).drew) (fun inv => ?_)
    · obtain ⟨h0, h1, h2, h3⟩ := hw'
      go_simp
    try simp only [Act.put, List.setIfInBounds_toArray, List.set_cons_zero, List.set_cons_succ]
    refine wpU_take (i := 2) (v := .pointer (some ⟨gb, 0 + 5, none⟩)) rfl inv (by kernel_rfl) (by kernel_rfl) (by decide) (by decide) (by kernel_rfl) (by kernel_rfl) (by kernel_rfl) (fun _ _ _ h => h) (Or.inl ⟨by rfl, fun w' hw' => ?_⟩) (HCS.out _ (Below.refl _ _).drew) (fun inv => ?_)
    · obtain ⟨h0, h1, h2, h3⟩ := hw'
      go_simp
    try simp only [Act.put, List.setIfInBounds_toArray, List.set_cons_zero, List.set_cons_succ]
    refine wpU_take (i := 3) (v := .func (.func fn) #[] lb) rfl inv (by kernel_rfl) (by kernel_rfl) (by decide) (by decide) (by kernel_rfl) (by kernel_rfl) (by kernel_rfl) (fun _ _ _ h => h) (Or.inl ⟨by rfl, fun w' hw' => ?_⟩) (HCS.out _ (Below.refl _ _).drew) (fun inv => ?_)
    · obtain ⟨h0, h1, h2, h3⟩ := hw'
      go_simp
    try simp only [Act.put, List.setIfInBounds_toArray, List.set_cons_zero, List.set_cons_succ]
    refine wpU_take (i := 4) (v := .agg #[.bool bt, .int .i64 yn]) rfl inv (by kernel_rfl) (by kernel_rfl) (by decide) (by decide) (by kernel_rfl) (by kernel_rfl) (by kernel_rfl) (fun _ _ _ h => h) (Or.inl ⟨by rfl, fun w' hw' => ?_⟩) (HCS.out _ (Below.refl _ _).drew) (fun inv => ?_)
    · obtain ⟨h0, h1, h2, h3⟩ := hw'
      go_simp
    try simp only [Act.put, List.setIfInBounds_toArray, List.set_cons_zero, List.set_cons_succ]
    refine wpU_take (i := 5) (v := .int .i64 (i : Nat)) rfl inv (by kernel_rfl) (by kernel_rfl) (by decide) (by decide) (by kernel_rfl) (by kernel_rfl) (by kernel_rfl) (fun _ _ _ h => h) (Or.inl ⟨by rfl, fun w' hw' => ?_⟩) (HCS.out _ (Below.refl _ _).drew) (fun inv => ?_)
    · obtain ⟨h0, h1, h2, h3⟩ := hw'
      go_simp
    try simp only [Act.put, List.setIfInBounds_toArray, List.set_cons_zero, List.set_cons_succ]
    refine wpU_take (i := 6) (v := .int .i64 (j : Nat)) rfl inv (by kernel_rfl) (by kernel_rfl) (by decide) (by decide) (by kernel_rfl) (by kernel_rfl) (by kernel_rfl) (fun _ _ _ h => h) (Or.inl ⟨by rfl, fun w' hw' => ?_⟩) (HCS.out _ (Below.refl _ _).drew) (fun inv => ?_)
    · obtain ⟨h0, h1, h2, h3⟩ := hw'
      go_simp
    try simp only [Act.put, List.setIfInBounds_toArray, List.set_cons_zero, List.set_cons_succ]
    refine wpU_2 (i := 7) (j := 8) (by kernel_rfl) rfl rfl (fun K hK => ?_) (fun K hK => ?_)
    ·
      replace inv := inv_setc (i := 7) inv (by kernel_rfl) (by decide)
      go_simp
      refine (HLF.out _ (HB0.out.trans ((Below.refl _ _).drew.mono HB0.out.size))).mono ?_
      rintro e w1 ⟨x1, rfl, ⟨u1, rfl, hu1⟩, hb1⟩
      have HB1 : Hid (Below w0.heap.size w0 w1) := (Below.refl w0.heap.size w0).drew.trans hb1
      have HU1 := Lib.hid hu1
      clear hu1 hb1
      obtain ⟨au, ku, rfl⟩ := (sl_rd HU1.out).form
      obtain ⟨mu, HMU⟩ := nameIt (ints (oW o)).length
      rw [HMU.out] at HU1 ⊢
      refine hK.out _ _ (fun _ => HCS.out _ HB1.out) ?_
      clear hK K
      try simp only [Act.put, List.setIfInBounds_toArray, List.set_cons_zero, List.set_cons_succ]
      refine wpU_one (i := 8) (by kernel_rfl) rfl (fun K hK => ?_)
      replace inv := inv_setc (i := 8) inv (by kernel_rfl) (by decide)
      go_simp
      have HB2 : Hid (Below w0.heap.size w0 (w1.alloc (.cells #[.bool false, .int .i64 0, .int .i64 0, .slice none 0 0] 36))) := HB1.out.alloc HB1.out.size _
      refine hK.out _ _ (fun _ => HCS.out _ HB2.out) ?_
      clear hK K
      try simp only [Act.put, List.setIfInBounds_toArray, List.set_cons_zero, List.set_cons_succ]
      refine wpU_one (i := 9) (by kernel_rfl) rfl (fun K hK => ?_)
      go_simp
      refine hK.out _ _ (fun h => absurd (show true = false from h) (by decide)) ?_
      clear hK K
      try simp only [Act.put, List.setIfInBounds_toArray, List.set_cons_zero, List.set_cons_succ]
      refine wpU_done (by kernel_rfl) ?_ _
      go_wp2_with fail
      go_meet
      have hs1 := HB1.out.size
      refine ⟨w1.heap.size, rfl, ?_⟩
      show NV _ _ _ _ _
      refine ⟨HB1.out.alloc hs1 _, hs1, _, bx_new w1 _ _ rfl, (HU1.out.mono (fun k hk hl => ⟨hk, ?_⟩)).below ((Below.refl _ _).alloc (Nat.le_refl _) _)⟩
      omega
    ·
      replace inv := inv_setc (i := 8) inv (by kernel_rfl) (by decide)
      go_simp
      have HB1 : Hid (Below w0.heap.size w0 (w0.drew.alloc (.cells #[.bool false, .int .i64 0, .int .i64 0, .slice none 0 0] 36))) := (Below.refl w0.heap.size w0).drew.alloc (Nat.le_refl _) _
      refine hK.out _ _ (fun _ => HCS.out _ HB1.out) ?_
      clear hK K
      try simp only [Act.put, List.setIfInBounds_toArray, List.set_cons_zero, List.set_cons_succ]
      refine wpU_one (i := 7) (by kernel_rfl) rfl (fun K hK => ?_)
      replace inv := inv_setc (i := 7) inv (by kernel_rfl) (by decide)
      go_simp
      refine (HLF.out _ (HB0.out.trans (HB1.out.mono HB0.out.size))).mono ?_
      rintro e w1 ⟨x1, rfl, ⟨u1, rfl, hu1⟩, hb1⟩
      have HB2 : Hid (Below w0.heap.size w0 w1) := HB1.out.trans (hb1.mono HB1.out.size)
      have HU1 := Lib.hid hu1
      have HZ1 : Hid (w1.heap[w0.heap.size]? = some (.cells #[.bool false, .int .i64 0, .int .i64 0, .slice none 0 0] 36 (0, 0))) := bx_keep (bx_new w0.drew _ _ rfl) hb1
      clear hu1 hb1
      obtain ⟨au, ku, rfl⟩ := (sl_rd HU1.out).form
      obtain ⟨mu, HMU⟩ := nameIt (ints (oW o)).length
      rw [HMU.out] at HU1 ⊢
      refine hK.out _ _ (fun _ => HCS.out _ HB2.out) ?_
      clear hK K
      try simp only [Act.put, List.setIfInBounds_toArray, List.set_cons_zero, List.set_cons_succ]
      refine wpU_one (i := 9) (by kernel_rfl) rfl (fun K hK => ?_)
      obtain ⟨f0, f1, f2, f3⟩ := bx_free4 HZ1.out
      obtain ⟨e0, e1, e2, e3⟩ := bx_cells4 HZ1.out
      go_simp
      refine hK.out _ _ (fun h => absurd (show true = false from h) (by decide)) ?_
      clear hK K
      try simp only [Act.put, List.setIfInBounds_toArray, List.set_cons_zero, List.set_cons_succ]
      refine wpU_done (by kernel_rfl) ?_ _
      go_wp2_with fail
      go_meet
      have hs0 := HSZ.out
      refine ⟨w0.heap.size, rfl, ?_⟩
      show NV _ _ _ _ _
      refine nv_mk (o := o) HB2.out (Nat.le_refl _) HZ1.out (HU1.out.mono (fun k hk hl => ?_))
      rcases hk with hk | hk
      · have := HPL.out k hk
        exact ⟨.inl hk, by omega⟩
      · have hk2 : w0.heap.size + 1 ≤ k := by simpa using hk
        exact ⟨.inr (by omega), by omega⟩
  case rest =>
    obtain ⟨b1, rfl, HN1⟩ := hcut
    obtain ⟨w1, HW1⟩ := nameIt wc
    rw [HW1.out] at HN1 ⊢
    clear HW1
    have hb1 := HN1.out.1
    have HB1 := Lib.hid hb1
    have HM1 := Lib.hid (HM0.out.keep hb1)
    obtain ⟨x2, hlk, hvx⟩ := HM1.out.looks (b := bt) HK.out
    have HLK := Lib.hid hlk
    rw [HQ.out] at hvx
    obtain ⟨p, HPP⟩ := nameIt (if bt = true then none else q)
    rw [HPP.out] at hvx
    have HVX := Lib.hid hvx
    clear hb1 hlk hvx
    have HCS2 : Hid (∀ w', Below w1.heap.size w1 w' → w'.cell? ⟨gb, 0 + 7, none⟩ = some (.map (some mb)) ∧ w'.cell? ⟨W.heap.size, 0, none⟩ = some (.bool bt) ∧ w'.cell? ⟨W.heap.size, 0 + 1, none⟩ = some (.int .i64 yn) ∧ (Instr.lookup 120 (.map (some mb)) (.agg #[.bool bt, .int .i64 yn, .int .i64 (i : Nat), .int .i64 (j : Nat)]) false).run Try.prog w' = .ok x2 w') := by
      intro w' hb'
      obtain ⟨h1, h2, h3, h4⟩ := HCS.out w' (HB1.out.trans (hb'.mono HB1.out.size))
      exact ⟨h2, h3, h4, HLK.out w' hb'⟩
    go_upto_region 2 with fail
    go_cut [10] (fun t wx => ∃ b2, t = .pointer (some ⟨b2, 0, none⟩) ∧ Hid (NV w1 P b2 p wx))
    case first =>
      obtain ⟨u2, rfl, hu2⟩ := HVX.out
      have HU2 := Lib.hid hu2
      clear hu2
      obtain ⟨au, ku, rfl⟩ := (sl_rd HU2.out).form
      obtain ⟨mu, HMU⟩ := nameIt (ints (oW p)).length
      rw [HMU.out] at HU2 HCS2
      refine wp_region_U (S := (fun w' => w'.cell? ⟨gb, 0 + 7, none⟩ = some (.map (some mb)) ∧ w'.cell? ⟨W.heap.size, 0, none⟩ = some (.bool bt) ∧ w'.cell? ⟨W.heap.size, 0 + 1, none⟩ = some (.int .i64 yn) ∧ (Instr.lookup 120 (.map (some mb)) (.agg #[.bool bt, .int .i64 yn, .int .i64 (i : Nat), .int .i64 (j : Nat)]) false).run Try.prog w' = .ok (.agg #[.bool p.isSome, .int .i64 (oC p), .int .i64 (oN p), .slice au mu ku]) w')) 10 (by kernel_rfl) (fun inv => ?_)
      refine wpU_take (i := 0) (v := .pointer (some ⟨gb, 0, none⟩)) rfl inv (by kernel_rfl) (by kernel_rfl) (by decide) (by decide) (by kernel_rfl) (by kernel_rfl) (by kernel_rfl) (fun _ _ _ h => h) (Or.inl ⟨by rfl, fun w' hw' => ?_⟩) (HCS2.out _ (Below.refl _ _).drew) (fun inv => ?_)
      · obtain ⟨h0, h1, h2, h3⟩ := hw'
        go_simp
      try simp only [Act.put, List.setIfInBounds_toArray, List.set_cons_zero, List.set_cons_succ]
      refine wpU_take (i := 1) (v := .pointer (some ⟨gb, 0, none⟩)) rfl inv (by kernel_rfl) (by kernel_rfl) (by decide) (by decide) (by kernel_rfl) (by kernel_rfl) (by kernel_rfl) (fun _ _ _ h => h) (Or.inl ⟨by rfl, fun w' hw' => ?_⟩) (HCS2.out _ (Below.refl _ _).drew) (fun inv => ?_)
      · obtain ⟨h0, h1, h2, h3⟩ := hw'
        go_simp
      try simp only [Act.put, List.setIfInBounds_toArray, List.set_cons_zero, List.set_cons_succ]
      refine wpU_take (i := 2) (v := .pointer (some ⟨gb, 0 + 7, none⟩)) rfl inv (by kernel_rfl) (by kernel_rfl) (by decide) (by decide) (by kernel_rfl) (by kernel_rfl) (by kernel_rfl) (fun _ _ _ h => h) (Or.inl ⟨by rfl, fun w' hw' => ?_⟩) (HCS2.out _ (Below.refl _ _).drew) (fun inv => ?_)
      · obtain ⟨h0, h1, h2, h3⟩ := hw'
        go_simp
      try simp only [Act.put, List.setIfInBounds_toArray, List.set_cons_zero, List.set_cons_succ]
      refine wpU_take (i := 3) (v := .map (some mb)) rfl inv (by kernel_rfl) (by kernel_rfl) (by decide) (by decide) (by kernel_rfl) (by kernel_rfl) (by kernel_rfl) (fun _ _ _ h => h) (Or.inl ⟨by rfl, fun w' hw' => ?_⟩) (HCS2.out _ (Below.refl _ _).drew) (fun inv => ?_)
      · obtain ⟨h0, h1, h2, h3⟩ := hw'
        go_simp
      try simp only [Act.put, List.setIfInBounds_toArray, List.set_cons_zero, List.set_cons_succ]
      refine wpU_take (i := 4) (v := .agg #[.bool bt, .int .i64 yn]) rfl inv (by kernel_rfl) (by kernel_rfl) (by decide) (by decide) (by kernel_rfl) (by kernel_rfl) (by kernel_rfl) (fun _ _ _ h => h) (Or.inl ⟨by rfl, fun w' hw' => ?_⟩) (HCS2.out _ (Below.refl _ _).drew) (fun inv => ?_)
      · obtain ⟨h0, h1, h2, h3⟩ := hw'
        go_simp
      try simp only [Act.put, List.setIfInBounds_toArray, List.set_cons_zero, List.set_cons_succ]
      refine wpU_take (i := 5) (v := .int .i64 (i : Nat)) rfl inv (by kernel_rfl) (by kernel_rfl) (by decide) (by decide) (by kernel_rfl) (by kernel_rfl) (by kernel_rfl) (fun _ _ _ h => h) (Or.inl ⟨by rfl, fun w' hw' => ?_⟩) (HCS2.out _ (Below.refl _ _).drew) (fun inv => ?_)
      · obtain ⟨h0, h1, h2, h3⟩ := hw'
        go_simp
      try simp only [Act.put, List.setIfInBounds_toArray, List.set_cons_zero, List.set_cons_succ]
      refine wpU_take (i := 6) (v := .int .i64 (j : Nat)) rfl inv (by kernel_rfl) (by kernel_rfl) (by decide) (by decide) (by kernel_rfl) (by kernel_rfl) (by kernel_rfl) (fun _ _ _ h => h) (Or.inl ⟨by rfl, fun w' hw' => ?_⟩) (HCS2.out _ (Below.refl _ _).drew) (fun inv => ?_)
      · obtain ⟨h0, h1, h2, h3⟩ := hw'
        go_simp
      try simp only [Act.put, List.setIfInBounds_toArray, List.set_cons_zero, List.set_cons_succ]
      refine wpU_take (i := 7) (v := .agg #[.bool bt, .int .i64 yn, .int .i64 (i : Nat), .int .i64 (j : Nat)]) rfl inv (by kernel_rfl) (by kernel_rfl) (by decide) (by decide) (by kernel_rfl) (by kernel_rfl) (by kernel_rfl) (fun _ _ _ h => h) (Or.inl ⟨by rfl, fun w' hw' => ?_⟩) (HCS2.out _ (Below.refl _ _).drew) (fun inv => ?_)
      · obtain ⟨h0, h1, h2, h3⟩ := hw'
        go_simp
      try simp only [Act.put, List.setIfInBounds_toArray, List.set_cons_zero, List.set_cons_succ]
      refine wpU_take (i := 8) (v := .agg #[.bool p.isSome, .int .i64 (oC p), .int .i64 (oN p), .slice au mu ku]) rfl inv (by kernel_rfl) (by kernel_rfl) (by decide) (by decide) (by kernel_rfl) (by kernel_rfl) (by kernel_rfl) (fun _ _ _ h => h) (Or.inl ⟨by rfl, fun w' hw' => ?_⟩) (HCS2.out _ (Below.refl _ _).drew) (fun inv => ?_)
      · obtain ⟨h0, h1, h2, h3⟩ := hw'
        go_simp
      try simp only [Act.put, List.setIfInBounds_toArray, List.set_cons_zero, List.set_cons_succ]
      refine wpU_one (i := 9) (by kernel_rfl) rfl (fun K hK => ?_)
      replace inv := inv_setc (i := 9) inv (by kernel_rfl) (by decide)
      go_simp
      have HB2 : Hid (Below w1.heap.size w1 (w1.drew.alloc (.cells #[.bool false, .int .i64 0, .int .i64 0, .slice none 0 0] 36))) := (Below.refl w1.heap.size w1).drew.alloc (Nat.le_refl _) _
      refine hK.out _ _ (fun _ => HCS2.out _ HB2.out) ?_
      clear hK K
      try simp only [Act.put, List.setIfInBounds_toArray, List.set_cons_zero, List.set_cons_succ]
      refine wpU_one (i := 10) (by kernel_rfl) rfl (fun K hK => ?_)
      go_simp
      refine hK.out _ _ (fun h => absurd (show true = false from h) (by decide)) ?_
      clear hK K
      try simp only [Act.put, List.setIfInBounds_toArray, List.set_cons_zero, List.set_cons_succ]
      refine wpU_done (by kernel_rfl) ?_ _
      go_wp2_with fail
      go_meet
      refine ⟨w1.heap.size, rfl, ?_⟩
      show NV _ _ _ _ _
      refine ⟨(Below.refl w1.heap.size w1).drew.alloc (Nat.le_refl _) _, Nat.le_refl _, _, bx_new w1.drew _ _ rfl, (HU2.out.mono (fun k hk hl => ⟨hk, ?_⟩)).below ((Below.refl w1.heap.size w1).drew.alloc (Nat.le_refl _) _)⟩
      omega
    case rest =>
      obtain ⟨b2, rfl, HN2⟩ := hcut
      obtain ⟨w2, HW2⟩ := nameIt wc
      rw [HW2.out] at HN2 ⊢
      clear HW2
      have hb2 := HN2.out.1
      have hb02 := HB1.out.trans (hb2.mono HB1.out.size)
      have HB2 := Lib.hid hb02
      have HN1b := HN1.out.keep hb2
      obtain ⟨u1, hx1, hv1⟩ := HN1b.vr
      obtain ⟨u2, hx2, hv2⟩ := HN2.out.vr
      have HZ2 := Lib.hid (bx_keep HZ0.out hb02)
      have HY2 := Lib.hid (bx_keep HY0.out hb02)
      have HX1 := Lib.hid hx1
      have HX2 := Lib.hid hx2
      have HV1 : Hid (VR (fun k => (P k ∨ W.heap.size ≤ k) ∧ k ≠ W.heap.size + 1) w2 (.agg #[.bool o.isSome, .int .i64 (oC o), .int .i64 (oN o), u1]) o) := hv1.mono (fun k hk _ => by
        have := HSZ.out
        rcases hk.1 with h | h
        · have := HPL.out k h
          exact ⟨.inl h, by omega⟩
        · exact ⟨.inr (by omega), by omega⟩)
      have HV2 : Hid (VR (fun k => (P k ∨ W.heap.size ≤ k) ∧ k ≠ W.heap.size + 1) w2 (.agg #[.bool p.isSome, .int .i64 (oC p), .int .i64 (oN p), u2]) p) := hv2.mono (fun k hk _ => by
        have := HPL.out k hk.1
        exact ⟨.inl hk.1, by omega⟩)
      have fu : ∀ (o : Option Val) u, VR (fun k => (P k ∨ W.heap.size ≤ k) ∧ k ≠ W.heap.size + 1) w2 (.agg #[.bool o.isSome, .int .i64 (oC o), .int .i64 (oN o), u]) o → ∃ a m k, u = .slice a m k := by
        rintro o u ⟨u', e, h⟩
        simp at e
        subst e
        obtain ⟨a, k, e⟩ := (sl_rd h).form
        exact ⟨_, _, _, e⟩
      obtain ⟨a1, m1, k1, rfl⟩ := fu _ _ HV1.out
      obtain ⟨a2, m2, k2, rfl⟩ := fu _ _ HV2.out
      have HEND : Hid (∀ w3, Below w2.heap.size w2 w3 → ∀ (o : Option Val) u, VR (fun k => (P k ∨ W.heap.size ≤ k) ∧ k ≠ W.heap.size + 1) w2 (.agg #[.bool o.isSome, .int .i64 (oC o), .int .i64 (oN o), u]) o → o = r →
          PST (.returned (.agg #[.bool o.isSome, .int .i64 (oC o), .int .i64 (oN o), u])) ((((w3.setCell ⟨W.heap.size + 1, 0, none⟩ (.bool o.isSome)).setCell ⟨W.heap.size + 1, 0 + 1, none⟩ (.int .i64 (oC o))).setCell ⟨W.heap.size + 1, 0 + 2, none⟩ (.int .i64 (oN o))).setCell ⟨W.heap.size + 1, 0 + 3, none⟩ u)) := by
        intro w3 hb3 o u hv e
        subst e
        have hg := grown_cell4 w3 (W.heap.size + 1) (.bool o.isSome) (.int .i64 (oC o)) (.int .i64 (oN o)) u
        have hB : Below W.heap.size W w3 := HB0.out.trans ((HB2.out.trans (hb3.mono HB2.out.size)).mono HB0.out.size)
        refine HFIN.out _ _ (((hv.below hb3).grown hg ?_).mono (fun k h _ => h.1)) (hB.grown hg hB.size ?_)
        · intro k e h
          cases e
          exact h.2 rfl
        · intro k e
          cases e
          omega
      clear hx1 hx2 hv1 hv2 hb2 hb02 HN1b fu
      obtain ⟨p0, p1, p2, p3⟩ := bx_cells4 HX1.out
      obtain ⟨q0, q1, q2, q3⟩ := bx_cells4 HX2.out
      obtain ⟨z0, z1, z2, z3⟩ := bx_cells4 HZ2.out
      obtain ⟨f0, f1, f2, f3⟩ := bx_free4 HZ2.out
      obtain ⟨y0, y1⟩ := bx_cells2 HY2.out
      cases bt with
      | true =>
        have HRE : Hid (o = r) := by show _ = _; have := HR.out; simpa using this
        go_wp2_with fail
        refine bodyPost_ret (v := .agg #[.bool o.isSome, .int .i64 (oC o), .int .i64 (oN o), .slice a1 m1 k1]) (by simp [results, Try.results42, go_sem, z0, z1, z2, z3]) rfl ?_
        exact HEND.out _ (Below.refl _ _) o _ HV1.out HRE.out
      | false =>
        have HPQ : Hid (q = p) := by show _ = _; have := HPP.out; simpa using this
        go_wp2_with fail
        refine (lessE _ _ p o _ _ _ HV2.out HV1.out).mono ?_
        rintro e w3 ⟨rfl, hb3⟩
        have HB3 := Lib.hid hb3
        obtain ⟨z0, z1, z2, z3⟩ := bx_cells4 (bx_keep HZ2.out hb3)
        obtain ⟨f0, f1, f2, f3⟩ := bx_free4 (bx_keep HZ2.out hb3)
        obtain ⟨p0, p1, p2, p3⟩ := bx_cells4 (bx_keep HX1.out hb3)
        obtain ⟨q0, q1, q2, q3⟩ := bx_cells4 (bx_keep HX2.out hb3)
        obtain ⟨l, HLE⟩ := nameIt (lessB p o)
        rw [HLE.out]
        have HRE : Hid ((if l then p else o) = r) := by
          show _ = _
          have := HR.out
          rw [HPQ.out, HLE.out] at this
          simpa using this
        clear hb3
        cases l with
        | true =>
          have HRE2 : Hid (p = r) := by show _ = _; have := HRE.out; simpa using this
          go_wp2_with fail
          refine bodyPost_ret (v := .agg #[.bool p.isSome, .int .i64 (oC p), .int .i64 (oN p), .slice a2 m2 k2]) (by simp [results, Try.results42, go_sem, z0, z1, z2, z3]) rfl ?_
          exact HEND.out _ HB3.out p _ HV2.out HRE2.out
        | false =>
          have HRE2 : Hid (o = r) := by show _ = _; have := HRE.out; simpa using this
          go_wp2_with fail
          refine bodyPost_ret (v := .agg #[.bool o.isSome, .int .i64 (oC o), .int .i64 (oN o), .slice a1 m1 k1]) (by simp [results, Try.results42, go_sem, z0, z1, z2, z3]) rfl ?_
          exact HEND.out _ HB3.out o _ HV1.out HRE2.out
end Rp
end Go.Proofs.Ytjpmebppdcclbaa
namespace Go.Proofs.Ytjpmebppdcclbaa
namespace Rp
def WfO (o : Option Val) : Prop := ∀ v, o = some v → Wf v
def bestCons (V : Sym → Nat → Nat → Option Val) (s : Sym) (rest : Nat → Option Val) (i : Nat) : Nat → Option Val
  | 0 => none
  | k + 1 => if (V s i (i + k)).isSome && lessB (bothO (V s i (i + k)) (rest (i + k))) (bestCons V s rest i k) then bothO (V s i (i + k)) (rest (i + k)) else bestCons V s rest i k
def lstV (V : Sym → Nat → Nat → Option Val) : List Sym → Nat → Nat → Option Val
  | [], _, _ => none
  | [s], i, j => V s i j
  | s :: t :: l, i, j => bestCons V s (fun m => lstV V (t :: l) m j) i (j + 1 - i)
def Bd (M : Nat) (o : Option Val) : Prop := WfO o ∧ oC o ≤ M ∧ oN o ≤ M
theorem Bd.w {M : Nat} {o : Option Val} (h : Bd M o) : (oW o).length ≤ 2000 := by
  cases o with
  | none => simp [oW]
  | some v =>
    rcases h.1 v rfl with ⟨h1, h2⟩ | ⟨_, h2⟩
    · show v.w.length ≤ 2000
      unfold maxL at h1; omega
    · show v.w.length ≤ 2000
      rw [h2]; simp
theorem Bd.mono {M M' : Nat} {o : Option Val} (h : Bd M o) (hm : M ≤ M') : Bd M' o := ⟨h.1, Nat.le_trans h.2.1 hm, Nat.le_trans h.2.2 hm⟩
theorem bd_none (M : Nat) : Bd M none := ⟨fun v h => (by cases h), Nat.zero_le _, Nat.zero_le _⟩
theorem bd_both {M M' : Nat} {o p : Option Val} (h : Bd M o) (h' : Bd M' p) : Bd (M + M') (bothO o p) := by
  cases o with
  | none => exact bd_none _
  | some a =>
    cases p with
    | none => exact bd_none _
    | some b =>
      refine ⟨fun v e => ?_, ?_, ?_⟩
      · cases e; exact wf_thn (h.1 a rfl) (h'.1 b rfl)
      · exact Nat.add_le_add h.2.1 h'.2.1
      · exact Nat.add_le_add h.2.2 h'.2.2
theorem bd_bestCons {V : Sym → Nat → Nat → Option Val} {s : Sym} {rest : Nat → Option Val} {i M M' : Nat} : ∀ k, (∀ m, i ≤ m → m < i + k → Bd M (V s i m) ∧ Bd M' (rest m)) → Bd (M + M') (bestCons V s rest i k)
  | 0, _ => bd_none _
  | k + 1, h => by
    unfold bestCons
    split
    · exact bd_both (h _ (by omega) (by omega)).1 (h _ (by omega) (by omega)).2
    · exact bd_bestCons k (fun m h1 h2 => h m h1 (by omega))
theorem bd_lst {V : Sym → Nat → Nat → Option Val} {M N : Nat} : ∀ {l : List Sym} {i j : Nat}, (∀ s ∈ l, ∀ i j, i ≤ j → j ≤ N → Bd M (V s i j)) → i ≤ j → j ≤ N → Bd (l.length * M) (lstV V l i j)
  | [], _, _, _, _, _ => bd_none _
  | [s], i, j, h, h1, h2 => (h s (by simp) i j h1 h2).mono (by simp)
  | s :: t :: l, i, j, h, h1, h2 => by
    unfold lstV
    refine (bd_bestCons (M := M) (M' := (t :: l).length * M) _ (fun m h3 h4 => ⟨h s (by simp) _ _ h3 (by omega), bd_lst (fun s hs => h s (by simp [List.mem_cons] at hs ⊢; exact .inr hs)) (by omega) h2⟩)).mono ?_
    simp [Nat.add_mul]; omega
end Rp
end Go.Proofs.Ytjpmebppdcclbaa
namespace Go.Proofs.Ytjpmebppdcclbaa
open Go.RowKit
namespace Rp
def WR (P : Nat → Prop) (W : World) (x : Value) (o : Option Val) : Prop :=
  ∃ u, x = .agg #[.int .i64 (oC o), .int .i64 (oN o), u, .bool o.isSome] ∧ Rd P W (D.ints (oW o)) [u]
theorem WR.below {P : Nat → Prop} {W W' : World} {x : Value} {o : Option Val} (h : WR P W x o) (hb : Below W.heap.size W W') : WR P W' x o := by
  obtain ⟨u, h1, h2⟩ := h; exact ⟨u, h1, h2.below hb⟩
theorem WR.mono {P P' : Nat → Prop} {W : World} {x : Value} {o : Option Val} (h : WR P W x o) (hp : ∀ k, P k → k < W.heap.size → P' k) : WR P' W x o := by
  obtain ⟨u, h1, h2⟩ := h; exact ⟨u, h1, h2.mono hp⟩
theorem WR.grown {P : Nat → Prop} {W W' : World} {x : Value} {o : Option Val} (h : WR P W x o) {row : Option Nat} (hg : W.grownBy W' row) (hr : ∀ k, row = some k → ¬ P k) : WR P W' x o := by
  obtain ⟨u, h1, h2⟩ := h; exact ⟨u, h1, rd_grown h2 hg hr⟩
theorem WR.form {P : Nat → Prop} {w : World} {x : Value} {o : Option Val} (h : WR P w x o) : ∃ a m k, x = .agg #[.int .i64 (oC o), .int .i64 (oN o), .slice a m k, .bool o.isSome] ∧ Rd P w (D.ints (oW o)) [.slice a m k] := by
  obtain ⟨u, rfl, h⟩ := h
  obtain ⟨a, k, rfl⟩ := (sl_rd h).form
  exact ⟨_, _, _, rfl, h⟩
theorem rd_nil (P : Nat → Prop) (W : World) : Rd P W (D.ints []) [.slice none 0 0] := ⟨none, 0, [], rfl, Nat.le_refl _, by simp, fun _ => rfl, fun i hi => by simp at hi, by simp [RdAll]⟩
theorem lessX_tt (c n c' n' : Nat) (l l' : List Int) : lessX true c n l true c' n' l' = if c ≠ c' then decide (c < c') else if n ≠ n' then decide (n < n') else decide (n ≤ 2000) && decide (cmpL l l' < 0) := rfl
end Rp
end Go.Proofs.Ytjpmebppdcclbaa
namespace Go.Proofs.Ytjpmebppdcclbaa
open Go.RowKit
theorem made_atV (z : Value) (n j : Nat) (h : j < n) : (madeCells #[z] n)[j]? = some z := by
  simp [madeCells, h, Nat.mod_one]
def Vrow (e : TypeId) (g m : Nat) (A : Nat → Value) (wr : World) : Prop := ∃ cs, wr.heap[g]? = some (.cells cs e (0, 0)) ∧ cs.size = m ∧ ∀ k, k < m → cs[k]? = some (A k)
section
variable {e : TypeId} {g m : Nat} {A A' : Nat → Value} {wr w' : World}
theorem Vrow.lt (h : Vrow e g m A wr) : g < wr.heap.size := by obtain ⟨cs, h1, _⟩ := h; exact (Array.getElem?_eq_some_iff.1 h1).1
theorem Vrow.keep (h : Vrow e g m A wr) (hb : Below wr.heap.size wr w') : Vrow e g m A w' := by obtain ⟨cs, h1, h2⟩ := h; exact ⟨cs, bx_keep h1 hb, h2⟩
theorem Vrow.grown {row : Option Nat} (h : Vrow e g m A wr) (hg : wr.grownBy w' row) (hr : row ≠ some g) : Vrow e g m A w' := by obtain ⟨cs, h1, h2⟩ := h; exact ⟨cs, (hg.block g (Array.getElem?_eq_some_iff.1 h1).1 (fun e => hr e.symm)).trans h1, h2⟩
theorem Vrow.cell (h : Vrow e g m A wr) {k : Nat} (hk : k < m) : wr.cell? ⟨g, k, none⟩ = some (A k) := by obtain ⟨cs, h1, h2, h3⟩ := h; simp [World.cell?, h1, h3 k hk]
theorem Vrow.free (h : Vrow e g m A wr) (k : Nat) : wr.frozen? ⟨g, k, none⟩ = false := by obtain ⟨cs, h1, h2, h3⟩ := h; simp [World.frozen?, h1]
theorem Vrow.eq (h : Vrow e g m A wr) (he : ∀ k, k < m → A k = A' k) : Vrow e g m A' wr := by obtain ⟨cs, h1, h2, h3⟩ := h; exact ⟨cs, h1, h2, fun k hk => by rw [h3 k hk, he k hk]⟩
theorem Vrow.set (h : Vrow e g m A wr) {j : Nat} {x : Value} (hj : j < m) (he : ∀ k, k < m → A' k = if k = j then x else A k) : Vrow e g m A' (wr.setCell ⟨g, j, none⟩ x) := by
  obtain ⟨cs, h1, h2, h3⟩ := h
  refine ⟨cs.setIfInBounds j x, bx_set h1 _ _, by simpa using h2, fun k hk => ?_⟩
  rw [Array.getElem?_setIfInBounds, he k hk]
  by_cases e : j = k
  · subst e; rw [if_pos rfl, if_pos (by omega)]; simp
  · rw [if_neg e, h3 k hk, if_neg (fun h => e h.symm)]
theorem Vrow.other (h : Vrow e g m A wr) {b : Nat} (hne : g ≠ b) (j : Nat) (v : Value) : Vrow e g m A (wr.setCell ⟨b, j, none⟩ v) := by obtain ⟨cs, h1, h2⟩ := h; exact ⟨cs, bx_other h1 hne _ _, h2⟩
theorem vrow_new (w : World) (e : TypeId) (z : Value) (m : Nat) {g : Nat} (hg : g = w.heap.size) : Vrow e g m (fun _ => z) (w.alloc (.cells (madeCells #[z] m) e)) := by
  subst hg
  exact ⟨_, bx_new _ _ _ rfl, size_madeCells _ _, fun k hk => made_atV _ _ _ hk⟩
end
end Go.Proofs.Ytjpmebppdcclbaa
namespace Go.Proofs.Ytjpmebppdcclbaa
open Go.RowKit
namespace Rp
def wcells (o : Option Val) (u : Value) : List Value := [.int .i64 (oC o), .int .i64 (oN o), u, .bool o.isSome]
def WRow (P : Nat → Prop) (g m : Nat) (A : Nat → Option Val) (w : World) : Prop :=
  ∃ cs, w.heap[g]? = some (.cells cs 72 (0, 0)) ∧ cs.size = m * 4 ∧ ∀ j, j < m → ∃ u, (∀ c (h : c < 4), cs[j * 4 + c]? = some ((wcells (A j) u)[c]'h)) ∧ Rd P w (D.ints (oW (A j))) [u]
section
variable {P P' : Nat → Prop} {g m : Nat} {A A' : Nat → Option Val} {w w' : World}
theorem WRow.lt (h : WRow P g m A w) : g < w.heap.size := by obtain ⟨cs, h1, _⟩ := h; exact (Array.getElem?_eq_some_iff.1 h1).1
theorem WRow.grown {row : Option Nat} (h : WRow P g m A w) (hg : w.grownBy w' row) (hr : row ≠ some g) (hp : ∀ k, row = some k → ¬ P k) : WRow P g m A w' := by
  have hl := h.lt
  obtain ⟨cs, h1, h2, h3⟩ := h
  refine ⟨cs, (hg.block g hl (fun e => hr e.symm)).trans h1, h2, fun j hj => ?_⟩
  obtain ⟨u, h4, h5⟩ := h3 j hj
  exact ⟨u, h4, rd_grown h5 hg hp⟩
theorem WRow.keep (h : WRow P g m A w) (hb : Below w.heap.size w w') : WRow P g m A w' := h.grown (grown_below hb none) (by simp) (by simp)
theorem WRow.mono (h : WRow P g m A w) (hp : ∀ k, P k → k < w.heap.size → P' k) : WRow P' g m A w := by
  obtain ⟨cs, h1, h2, h3⟩ := h
  refine ⟨cs, h1, h2, fun j hj => ?_⟩
  obtain ⟨u, h4, h5⟩ := h3 j hj
  exact ⟨u, h4, h5.mono hp⟩
theorem WRow.eq (h : WRow P g m A w) (e : ∀ j, j < m → A j = A' j) : WRow P g m A' w := by
  obtain ⟨cs, h1, h2, h3⟩ := h
  refine ⟨cs, h1, h2, fun j hj => ?_⟩
  obtain ⟨u, h4, h5⟩ := h3 j hj
  rw [e j hj] at h4 h5
  exact ⟨u, h4, h5⟩
theorem WRow.get (h : WRow P g m A w) {j : Nat} (hj : j < m) : ∃ a l k, (∀ w' : World, w'.heap[g]? = w.heap[g]? → w'.cell? ⟨g, j * 4, none⟩ = some (.int .i64 (oC (A j))) ∧ w'.cell? ⟨g, j * 4 + 1, none⟩ = some (.int .i64 (oN (A j))) ∧ w'.cell? ⟨g, j * 4 + 2, none⟩ = some (.slice a l k) ∧ w'.cell? ⟨g, j * 4 + 3, none⟩ = some (.bool (A j).isSome)) ∧
    WR P w (.agg #[.int .i64 (oC (A j)), .int .i64 (oN (A j)), .slice a l k, .bool (A j).isSome]) (A j) := by
  obtain ⟨cs, h1, h2, h3⟩ := h
  obtain ⟨u, h4, h5⟩ := h3 j hj
  obtain ⟨a, k, rfl⟩ := (sl_rd h5).form
  refine ⟨_, _, _, fun w' hw' => ?_, _, rfl, h5⟩
  rw [h1] at hw'
  have e0 := h4 0 (by omega)
  have e1 := h4 1 (by omega)
  have e2 := h4 2 (by omega)
  have e3 := h4 3 (by omega)
  simp only [Nat.add_zero] at e0
  refine ⟨?_, ?_, ?_, ?_⟩ <;> simp [World.cell?, hw', e0, e1, e2, e3, wcells]
theorem WRow.free (h : WRow P g m A w) (k : Nat) : w.frozen? ⟨g, k, none⟩ = false := by obtain ⟨cs, h1, h2, h3⟩ := h; simp [World.frozen?, h1]
theorem grown_cellsAt (w : World) (b : Nat) (k0 k1 k2 k3 : Nat) (v0 v1 v2 v3 : Value) : w.grownBy ((((w.setCell ⟨b, k0, none⟩ v0).setCell ⟨b, k1, none⟩ v1).setCell ⟨b, k2, none⟩ v2).setCell ⟨b, k3, none⟩ v3) (some b) := by
  refine ⟨rfl, rfl, rfl, by simp [World.setCell], fun k _ hn => ?_⟩
  have hne : ¬ k = b := fun e => hn (by rw [e])
  rw [Below.heap_setCell _ _ _ _ hne, Below.heap_setCell _ _ _ _ hne, Below.heap_setCell _ _ _ _ hne, Below.heap_setCell _ _ _ _ hne]
theorem WRow.set (h : WRow P g m A w) {j : Nat} (hj : j < m) {o : Option Val} {u : Value} (hu : Rd P w (D.ints (oW o)) [u]) (hg : ¬ P g) (he : ∀ k, k < m → A' k = if k = j then o else A k) :
    WRow P g m A' ((((w.setCell ⟨g, j * 4, none⟩ (.int .i64 (oC o))).setCell ⟨g, j * 4 + 1, none⟩ (.int .i64 (oN o))).setCell ⟨g, j * 4 + 2, none⟩ u).setCell ⟨g, j * 4 + 3, none⟩ (.bool o.isSome)) := by
  have hgr := grown_cellsAt w g (j * 4) (j * 4 + 1) (j * 4 + 2) (j * 4 + 3) (.int .i64 (oC o)) (.int .i64 (oN o)) u (.bool o.isSome)
  have hp : ∀ k, some g = some k → ¬ P k := fun k e => by cases e; exact hg
  obtain ⟨cs, h1, h2, h3⟩ := h
  have b0 := bx_set h1 (j * 4) (.int .i64 (oC o))
  have b1 := bx_set b0 (j * 4 + 1) (.int .i64 (oN o))
  have b2 := bx_set b1 (j * 4 + 2) u
  have b3 := bx_set b2 (j * 4 + 3) (.bool o.isSome)
  refine ⟨_, b3, by simpa using h2, fun k hk => ?_⟩
  rw [he k hk]
  by_cases e : k = j
  · subst e
    rw [if_pos rfl]
    refine ⟨u, fun c hc => ?_, rd_grown hu hgr hp⟩
    simp only [Array.getElem?_setIfInBounds, Array.size_setIfInBounds]
    match c, hc with
    | 0, _ => simp [wcells, h2]; omega
    | 1, _ => simp [wcells, h2]; omega
    | 2, _ => simp [wcells, h2]; omega
    | 3, _ => simp [wcells, h2]; omega
  · rw [if_neg e]
    obtain ⟨u', h4, h5⟩ := h3 k hk
    refine ⟨u', fun c hc => ?_, rd_grown h5 hgr hp⟩
    rw [← h4 c hc]
    simp only [Array.getElem?_setIfInBounds, Array.size_setIfInBounds]
    rw [if_neg (by omega), if_neg (by omega), if_neg (by omega), if_neg (by omega)]
theorem made_at4 (z0 z1 z2 z3 : Value) (m j c : Nat) (hj : j < m) (hc : c < 4) : (madeCells #[z0, z1, z2, z3] (m * 4))[j * 4 + c]? = some (#[z0, z1, z2, z3][c]'(by simpa using hc)) := by
  have h1 : j * 4 + c < m * 4 := by omega
  have h2 : (j * 4 + c) % 4 = c := by omega
  simp only [madeCells]
  rw [Array.getElem?_map, Array.getElem?_range, if_pos h1]
  have h3 : (#[z0, z1, z2, z3] : Array Value).size = 4 := rfl
  simp only [Option.map_some, h3, h2]
  match c, hc with
  | 0, _ => rfl
  | 1, _ => rfl
  | 2, _ => rfl
  | 3, _ => rfl
theorem wrow_new (P : Nat → Prop) (w : World) (m : Nat) {g : Nat} (hg : g = w.heap.size) : WRow P g m (fun _ => none) (w.alloc (.cells (madeCells #[.int .i64 0, .int .i64 0, .slice none 0 0, .bool false] (m * 4)) 72)) := by
  subst hg
  refine ⟨_, bx_new _ _ _ rfl, by rw [size_madeCells], fun j hj => ⟨.slice none 0 0, fun c hc => ?_, rd_nil _ _⟩⟩
  rw [made_at4 _ _ _ _ _ _ _ hj hc]
  match c, hc with
  | 0, _ => rfl
  | 1, _ => rfl
  | 2, _ => rfl
  | 3, _ => rfl
end
end Rp
end Go.Proofs.Ytjpmebppdcclbaa
