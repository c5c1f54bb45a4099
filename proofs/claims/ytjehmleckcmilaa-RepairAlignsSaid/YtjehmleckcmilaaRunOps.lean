/- The contracts of repair.Run and of performed. -/
import Derived.Test.YtjehmleckcmilaaOps
import Derived.Deep.DeepCutAuto
namespace Go.Proofs.Ytjehmleckcmilaa
open Go.RowKit
namespace Al

theorem run_end (rest : List Int) (i : Nat) : run rest i [] = if rest = [] then some [] else none := by rw [run]
theorem run_bad {rest : List Int} {i : Nat} {o : Op} {l : List Op} (h : o.at' ≠ i ∨ o.kind < 0 ∨ 3 < o.kind ∨ (o.kind ≠ 1 ∧ rest = [])) : run rest i (o :: l) = none := by
  rw [run.eq_def]
  dsimp only
  exact if_pos h
theorem run_ins {rest : List Int} {i : Nat} {o : Op} {l : List Op} (h : o.at' = i) (hk : o.kind = 1) : run rest i (o :: l) = (run rest i l).map fun t => [o.term] ++ t := by
  cases rest <;> (rw [run.eq_def]; simp only; rw [if_neg (by omega), if_pos hk]; rfl)
theorem run_more {x : Int} {rest : List Int} {i : Nat} {o : Op} {l : List Op} (h : o.at' = i) (h0 : 0 ≤ o.kind) (h3 : o.kind ≤ 3) (hk : o.kind ≠ 1) : run (x :: rest) i (o :: l) = (run rest (i + 1) l).map fun t => (if o.kind = 0 then [x] else if o.kind = 3 then [o.term] else []) ++ t := by
  rw [run, if_neg (by simp; omega), if_neg hk]
def RunIs (L : List Int) (ops : List Op) (i k : Nat) (out : List Int) : Prop := run L 0 ops = (run (L.drop i) i (ops.drop k)).map fun t => out ++ t
theorem RunIs.step {L : List Int} {ops : List Op} {i k i' : Nat} {out pre : List Int} (h : RunIs L ops i k out) (he : run (L.drop i) i (ops.drop k) = (run (L.drop i') i' (ops.drop (k + 1))).map fun t => pre ++ t) : RunIs L ops i' (k + 1) (out ++ pre) := by
  unfold RunIs at *
  rw [h, he]
  cases run (L.drop i') i' (ops.drop (k + 1)) <;> simp
def RunPost (L : List Int) (ops : List Op) (w : World) (e : Ending) (w' : World) : Prop :=
  ∃ v, e = .returned (.tuple #[v, .int .i64 (if (run L 0 ops).isSome then 0 else 1)]) ∧ Sl w' v (ints ((run L 0 ops).getD [])) ∧ Below w.heap.size w w'
def PerfPost (L : List Int) (ops : List Op) (w : World) (e : Ending) (w' : World) : Prop :=
  ∃ v x, e = .returned (.tuple #[v, .bool (run L 0 ops).isSome]) ∧ Sl w' v (ints x) ∧ ((run L 0 ops).isSome = true → (run L 0 ops).getD [] = x) ∧ Below w.heap.size w w'
theorem slNil (w : World) : Sl w (.slice none 0 0) (ints []) := sl_of_own (B := 0) (e := 3) (World.ownsRow_nil _ _ _ _)

set_option maxHeartbeats 4000000 in
set_option maxRecDepth 100000 in
theorem runE (a : Option Addr) (ca : Nat) (L : List Int) (b : Option Addr) (cb : Nat) (ops : List Op) (w : World) (hl : Sl w (.slice a L.length ca) (ints L)) (ho : Rd AnyB w (.sl (ops.map Op.d)) [.slice b ops.length cb]) (hsz : ops.length * 24 ≤ 140737488351232) :
    Calls Try.prog 20 #[.slice a L.length ca, .slice b ops.length cb] w (RunPost L ops w) := by
  have HL := Lib.hid hl
  have HO := Lib.hid ho
  have hc := hl.len.2
  have hco := ho.bounds.2
  unfold maxLen at hc hco
  obtain ⟨hc1, hc2⟩ := hc
  obtain ⟨hco1, hco2⟩ := hco
  obtain ⟨n, HN⟩ := nameIt L.length
  obtain ⟨m, HM⟩ := nameIt ops.length
  rw [HN.out] at hc1 HL
  rw [HM.out] at hco1 hsz HO
  rw [HN.out, HM.out]
  have HR0 : Hid (RunIs L ops 0 0 []) := by show RunIs _ _ _ _ _; unfold RunIs; simp
  clear hl ho
  go_enter Try.func20, Try.ntmps20
  go_wp2_with fail
  go_loopg [6, 7, 12] m (fun gg v6 v7 v12 wr => ∃ (k i : Nat) (out : List Int), k ≤ m ∧ i ≤ n ∧ m - k ≤ gg ∧ v12 = .int .i64 k ∧ v7 = .int .i64 i ∧ out.length ≤ k ∧ Hid (RunIs L ops i k out) ∧ Hid (wr.ownsRow w.heap.size 3 1 v6 out.length (ints out)) ∧ Hid (Below w.heap.size w wr))
  case atStart => exact ⟨0, 0, [], by omega, by omega, by omega, rfl, rfl, by simp, HR0, World.ownsRow_nil _ _ _ _, Below.refl _ _⟩
  case round =>
    obtain ⟨k, i, out, hk, hi, hg, rfl, rfl, hol, HRI, HOW, HB⟩ := hrel

    obtain ⟨ao, co, rfl, ho1, ho2⟩ := own_len HOW.out
    unfold maxLen at ho2
    by_cases hlt : k < m
    · have hlt' : (k : Int) < (m : Int) := by omega
      have hko : k < ops.length := by rw [HM.out]; exact hlt
      obtain ⟨bo, off, hae, -, hbl, e0, e1, e2⟩ := Rd.op_at (HO.out.below HB.out) hko
      have HCO : Hid (ops.drop k = ops[k] :: ops.drop (k + 1)) := List.drop_eq_getElem_cons hko
      obtain ⟨o, HOO⟩ := nameIt (ops[k]'hko)
      rw [HOO.out] at e0 e1 e2 HCO
      obtain ⟨kd, HKD⟩ := nameIt o.kind
      obtain ⟨ta, HTA⟩ := nameIt o.at'
      obtain ⟨tt, HTT⟩ := nameIt o.term
      rw [HKD.out] at e0
      rw [HTA.out] at e1
      rw [HTT.out] at e2
      have HB1 : Hid (Below w.heap.size w (wr.alloc (.cells #[.int .i64 kd, .int .i64 ta, .int .i64 tt] 33))) := HB.out.alloc HB.out.size _
      have HOW1 := Lib.hid (own_keep HOW.out ((Below.refl wr.heap.size wr).alloc (Nat.le_refl _) (.cells #[.int .i64 kd, .int .i64 ta, .int .i64 tt] 33)))
      have hszw := HB.out.size
      have hnn : (0 : Int) ≤ (n : Int) := by omega
      subst hae
      obtain ⟨w1, HW1⟩ := nameIt (wr.alloc (.cells #[.int .i64 kd, .int .i64 ta, .int .i64 tt] 33))
      have X1 : Hid (w1.heap[wr.heap.size]? = some (.cells #[.int .i64 kd, .int .i64 ta, .int .i64 tt] 33 (0, 0))) := by rw [← HW1.out]; exact bx_new _ _ _ rfl
      have hsz1 : wr.heap.size < w1.heap.size := (Array.getElem?_eq_some_iff.1 X1.out).1
      rw [HW1.out] at HB1 HOW1
      by_cases hbad : ta ≠ (i : Int) ∨ kd < 0 ∨ 3 < kd ∨ (kd ≠ 1 ∧ i = n)
      · have HNO : Hid (run L 0 ops = none) := by
          have h := HRI.out
          unfold RunIs at h
          show _ = _
          rw [h, HCO.out, run_bad ?_]; rfl
          rw [HTA.out, HKD.out]
          rcases hbad with h | h | h | ⟨h, h2⟩
          · exact .inl h
          · exact .inr (.inl h)
          · exact .inr (.inr (.inl h))
          · exact .inr (.inr (.inr ⟨h, by rw [List.drop_of_length_le (by rw [HN.out]; omega)]⟩))
        obtain ⟨s0, s1, s2⟩ := bx_cells3 X1.out
        go_upto_region 6 with fail
        rw [HW1.out]
        by_cases b3 : ta = (i : Int)
        · have b3' : (ta != (i : Int)) = false := by simpa using b3
          by_cases b1 : kd < 0
          · have b1' : decide (kd < 0) = true := by simpa using b1
            clear b3
            go_wp2_with fail
            refine bodyPost_ret (results_tmp2 Try.results20 _ _ _) rfl ?_
            exact ⟨.slice none 0 0, by rw [HNO.out]; rfl, by rw [HNO.out]; exact slNil _, HB1.out⟩
          · have b1' : decide (kd < 0) = false := by simpa using b1
            by_cases b2 : 3 < kd
            · have b2' : decide (3 < kd) = true := by simpa using b2
              clear b3
              go_wp2_with fail
              refine bodyPost_ret (results_tmp2 Try.results20 _ _ _) rfl ?_
              exact ⟨.slice none 0 0, by rw [HNO.out]; rfl, by rw [HNO.out]; exact slNil _, HB1.out⟩
            · have b2' : decide (3 < kd) = false := by simpa using b2
              have b4 : (kd != 1) = true := by simp; omega
              obtain rfl : i = n := by omega
              have b5' : ((i : Int) == (i : Int)) = true := by simp
              clear b3 b1 b2 hbad
              go_wp2_with fail
              refine bodyPost_ret (results_tmp2 Try.results20 _ _ _) rfl ?_
              exact ⟨.slice none 0 0, by rw [HNO.out]; rfl, by rw [HNO.out]; exact slNil _, HB1.out⟩
        · have b3' : (ta != (i : Int)) = true := by simpa using b3
          clear b3 hbad
          go_wp2_with fail
          refine bodyPost_ret (results_tmp2 Try.results20 _ _ _) rfl ?_
          exact ⟨.slice none 0 0, by rw [HNO.out]; rfl, by rw [HNO.out]; exact slNil _, HB1.out⟩
      · have hta : ta = (i : Int) := by omega
        subst hta
        have hkd : kd = 1 ∨ ((kd = 0 ∨ kd = 2 ∨ kd = 3) ∧ i < n) := by omega
        have b3' : ((i : Int) != (i : Int)) = false := by simp
        obtain ⟨s0, s1, s2⟩ := bx_cells3 X1.out
        clear hbad
        go_upto_region 6 with fail
        rw [HW1.out]
        rcases hkd with rfl | ⟨hkd, hin⟩
        · have HST : Hid (RunIs L ops i (k + 1) (out ++ [tt])) := by
            refine HRI.out.step ?_
            rw [HCO.out, run_ins HTA.out HKD.out, HTT.out]
          go_wp2_with (at_builtin; refine wp_app1at elInt rfl _ _ rfl HOW1.out rfl rfl (by simp) rfl rfl (by omega) (by unfold maxLen; omega) (by omega) ?_)
          intro v' wz hoz hgz hatz
          have HBZ : Hid (Below w.heap.size w wz) := HB1.out.grown hgz (by omega) (fun k e => (HOW1.out.lt k e).1)
          have HOZ : Hid (wz.ownsRow w.heap.size 3 1 v' (out ++ [tt]).length (ints (out ++ [tt]))) := by
            show World.ownsRow _ _ _ _ _ _ _
            rw [List.length_append]
            simpa [ints] using hoz
          have XZ : Hid (wz.heap[wr.heap.size]? = some (.cells #[.int .i64 1, .int .i64 (i : Int), .int .i64 tt] 33 (0, 0))) := by
            show _ = _
            rw [hgz.block _ hsz1 (fun e => by have := (HOW.out.lt _ e.symm).2; omega)]; exact X1.out
          obtain ⟨az, cz, rfl, -, -⟩ := own_len hoz
          obtain ⟨u0, u1, u2⟩ := bx_cells3 XZ.out
          clear hoz hgz hatz s0 s1 s2
          go_wp2_with fail
          go_roundg (m - (k + 1))
          case measure => omega
          case rel => exact ⟨k + 1, i, _, by omega, by omega, by omega, by go_num, rfl, by simp; omega, HST, HOZ, HBZ⟩
        · have hil : i < L.length := by rw [HN.out]; exact hin
          obtain ⟨x, HX⟩ := nameIt (L[i]'hil)
          have HLD : Hid (L.drop i = x :: L.drop (i + 1)) := by show _ = _; rw [List.drop_eq_getElem_cons hil, HX.out]
          have hin' : ((i : Int) == (n : Int)) = false := by simp; omega
          have hin2 : (i : Int) < (n : Int) := by omega
          have hi0 : (0 : Int) ≤ (i : Int) := by omega
          obtain ⟨bl, ol, hal, hcl⟩ := (HL.out.keep HB1.out).at (k := i) hin
          have ea := hcl i (by rw [ints_len]; exact hil)
          rw [ints_get, HX.out] at ea
          subst hal
          clear hcl
          rcases hkd with rfl | rfl | rfl
          · have HST : Hid (RunIs L ops (i + 1) (k + 1) (out ++ [x])) := by
              refine HRI.out.step ?_
              rw [HCO.out, HLD.out, run_more HTA.out (by rw [HKD.out]; decide) (by rw [HKD.out]; decide) (by rw [HKD.out]; decide), HKD.out]
              rfl
            go_wp2_with (at_builtin; refine wp_app1at elInt rfl _ _ rfl HOW1.out rfl rfl (by simp) rfl rfl (by omega) (by unfold maxLen; omega) (by omega) ?_)
            intro v' wz hoz hgz hatz
            have HBZ : Hid (Below w.heap.size w wz) := HB1.out.grown hgz (by omega) (fun k e => (HOW1.out.lt k e).1)
            have HOZ : Hid (wz.ownsRow w.heap.size 3 1 v' (out ++ [x]).length (ints (out ++ [x]))) := by
              show World.ownsRow _ _ _ _ _ _ _
              rw [List.length_append]
              simpa [ints] using hoz
            have XZ : Hid (wz.heap[wr.heap.size]? = some (.cells #[.int .i64 0, .int .i64 (i : Int), .int .i64 tt] 33 (0, 0))) := by
              show _ = _
              rw [hgz.block _ hsz1 (fun e => by have := (HOW.out.lt _ e.symm).2; omega)]; exact X1.out
            obtain ⟨az, cz, rfl, -, -⟩ := own_len hoz
            obtain ⟨u0, u1, u2⟩ := bx_cells3 XZ.out
            clear hoz hgz hatz s0 s1 s2
            go_wp2_with fail
            go_roundg (m - (k + 1))
            case measure => omega
            case rel => exact ⟨k + 1, i + 1, _, by omega, by omega, by omega, by go_num, by go_num, by simp; omega, HST, HOZ, HBZ⟩
          · have HST : Hid (RunIs L ops (i + 1) (k + 1) (out ++ [])) := by
              refine HRI.out.step ?_
              rw [HCO.out, HLD.out, run_more HTA.out (by rw [HKD.out]; decide) (by rw [HKD.out]; decide) (by rw [HKD.out]; decide), HKD.out]
              rfl
            rw [List.append_nil] at HST
            go_wp2_with fail
            go_roundg (m - (k + 1))
            case measure => omega
            case rel => exact ⟨k + 1, i + 1, out, by omega, by omega, by omega, by go_num, by go_num, by omega, HST, HOW1, HB1⟩
          · have HST : Hid (RunIs L ops (i + 1) (k + 1) (out ++ [tt])) := by
              refine HRI.out.step ?_
              rw [HCO.out, HLD.out, run_more HTA.out (by rw [HKD.out]; decide) (by rw [HKD.out]; decide) (by rw [HKD.out]; decide), HKD.out, HTT.out]
              rfl
            go_wp2_with (at_builtin; refine wp_app1at elInt rfl _ _ rfl HOW1.out rfl rfl (by simp) rfl rfl (by omega) (by unfold maxLen; omega) (by omega) ?_)
            intro v' wz hoz hgz hatz
            have HBZ : Hid (Below w.heap.size w wz) := HB1.out.grown hgz (by omega) (fun k e => (HOW1.out.lt k e).1)
            have HOZ : Hid (wz.ownsRow w.heap.size 3 1 v' (out ++ [tt]).length (ints (out ++ [tt]))) := by
              show World.ownsRow _ _ _ _ _ _ _
              rw [List.length_append]
              simpa [ints] using hoz
            have XZ : Hid (wz.heap[wr.heap.size]? = some (.cells #[.int .i64 3, .int .i64 (i : Int), .int .i64 tt] 33 (0, 0))) := by
              show _ = _
              rw [hgz.block _ hsz1 (fun e => by have := (HOW.out.lt _ e.symm).2; omega)]; exact X1.out
            obtain ⟨az, cz, rfl, -, -⟩ := own_len hoz
            obtain ⟨u0, u1, u2⟩ := bx_cells3 XZ.out
            clear hoz hgz hatz s0 s1 s2
            go_wp2_with fail
            go_roundg (m - (k + 1))
            case measure => omega
            case rel => exact ⟨k + 1, i + 1, _, by omega, by omega, by omega, by go_num, by go_num, by simp; omega, HST, HOZ, HBZ⟩
    · have hlt' : ¬ (k : Int) < (m : Int) := by omega
      have HRU : Hid (run L 0 ops = if L.drop i = [] then some out else none) := by
        have h := HRI.out
        unfold RunIs at h
        show _ = _
        rw [h, List.drop_of_length_le (show ops.length ≤ k by rw [HM.out]; omega), run_end]
        split <;> simp
      by_cases hin : i < n
      · have hin' : (i : Int) < (n : Int) := by omega
        have HNO : Hid (run L 0 ops = none) := by
          show _ = _
          rw [HRU.out, if_neg]
          rw [List.drop_eq_nil_iff, HN.out]; omega
        go_wp2_with fail
        refine bodyPost_ret (results_tmp2 Try.results20 _ _ _) rfl ?_
        exact ⟨.slice none 0 0, by rw [HNO.out]; rfl, by rw [HNO.out]; exact slNil _, HB.out⟩
      · have hin' : ¬ (i : Int) < (n : Int) := by omega
        have HNO : Hid (run L 0 ops = some out) := by
          show _ = _
          rw [HRU.out, if_pos]
          rw [List.drop_eq_nil_iff, HN.out]; omega
        go_wp2_with fail
        refine bodyPost_ret (results_tmp2 Try.results20 _ _ _) rfl ?_
        exact ⟨_, by rw [HNO.out]; rfl, by rw [HNO.out]; exact sl_of_own HOW.out, HB.out⟩
set_option maxHeartbeats 4000000 in
set_option maxRecDepth 100000 in
theorem perfE (a : Option Addr) (ca : Nat) (L : List Int) (b : Option Addr) (cb : Nat) (ops : List Op) (w : World) (hl : Sl w (.slice a L.length ca) (ints L)) (ho : Rd AnyB w (.sl (ops.map Op.d)) [.slice b ops.length cb]) (hsz : ops.length * 24 ≤ 140737488351232) :
    Calls Try.prog 21 #[.slice a L.length ca, .slice b ops.length cb] w (PerfPost L ops w) := by
  have HL := Lib.hid hl
  have HO := Lib.hid ho
  have hc := hl.len.2
  have hco := ho.bounds.2
  unfold maxLen at hc hco
  obtain ⟨hc1, hc2⟩ := hc
  obtain ⟨hco1, hco2⟩ := hco
  obtain ⟨n, HN⟩ := nameIt L.length
  obtain ⟨m, HM⟩ := nameIt ops.length
  rw [HN.out] at hc1 HL
  rw [HM.out] at hco1 hsz HO
  rw [HN.out, HM.out]
  have HR0 : Hid (RunIs L ops 0 0 []) := by show RunIs _ _ _ _ _; unfold RunIs; simp
  clear hl ho
  go_enter Try.func21, Try.ntmps21
  go_wp2_with fail
  go_loopg [6, 7, 13] m (fun gg v6 v7 v13 wr => ∃ (k i : Nat) (out : List Int) (a' : Option Addr) (c' : Nat), k ≤ m ∧ i ≤ n ∧ m - k ≤ gg ∧ v13 = .int .i64 k ∧ v7 = .slice a' (n - i) c' ∧ out.length ≤ k ∧ Hid (Sl w (.slice a' (n - i) c') (ints (L.drop i))) ∧ Hid (RunIs L ops i k out) ∧ Hid (wr.ownsRow w.heap.size 3 1 v6 out.length (ints out)) ∧ Hid (Below w.heap.size w wr))
  case atStart => exact ⟨0, 0, [], a, ca, by omega, by omega, by omega, rfl, rfl, by simp, by show Sl _ _ _; simpa using HL.out, HR0, World.ownsRow_nil _ _ _ _, Below.refl _ _⟩
  case round =>
    obtain ⟨k, i, out, a', c', hk, hi, hg, rfl, rfl, hol, HSL, HRI, HOW, HB⟩ := hrel
    have hc' := HSL.out.len.2
    unfold maxLen at hc'
    obtain ⟨hc1', hc2'⟩ := hc'

    obtain ⟨ao, co, rfl, ho1, ho2⟩ := own_len HOW.out
    unfold maxLen at ho2
    by_cases hlt : k < m
    · have hlt' : (k : Int) < (m : Int) := by omega
      have hko : k < ops.length := by rw [HM.out]; exact hlt
      obtain ⟨bo, off, hae, -, hbl, e0, e1, e2⟩ := Rd.op_at (HO.out.below HB.out) hko
      have HCO : Hid (ops.drop k = ops[k] :: ops.drop (k + 1)) := List.drop_eq_getElem_cons hko
      obtain ⟨o, HOO⟩ := nameIt (ops[k]'hko)
      rw [HOO.out] at e0 e1 e2 HCO
      obtain ⟨kd, HKD⟩ := nameIt o.kind
      obtain ⟨ta, HTA⟩ := nameIt o.at'
      obtain ⟨tt, HTT⟩ := nameIt o.term
      rw [HKD.out] at e0
      rw [HTA.out] at e1
      rw [HTT.out] at e2
      have HB1 : Hid (Below w.heap.size w (wr.alloc (.cells #[.int .i64 kd, .int .i64 ta, .int .i64 tt] 33))) := HB.out.alloc HB.out.size _
      have HOW1 := Lib.hid (own_keep HOW.out ((Below.refl wr.heap.size wr).alloc (Nat.le_refl _) (.cells #[.int .i64 kd, .int .i64 ta, .int .i64 tt] 33)))
      have hszw := HB.out.size
      have hnn : (0 : Int) ≤ (n : Int) := by omega
      subst hae
      obtain ⟨w1, HW1⟩ := nameIt (wr.alloc (.cells #[.int .i64 kd, .int .i64 ta, .int .i64 tt] 33))
      have X1 : Hid (w1.heap[wr.heap.size]? = some (.cells #[.int .i64 kd, .int .i64 ta, .int .i64 tt] 33 (0, 0))) := by rw [← HW1.out]; exact bx_new _ _ _ rfl
      have hsz1 : wr.heap.size < w1.heap.size := (Array.getElem?_eq_some_iff.1 X1.out).1
      rw [HW1.out] at HB1 HOW1
      by_cases hbad : ta ≠ (i : Int) ∨ kd < 0 ∨ 3 < kd ∨ (kd ≠ 1 ∧ i = n)
      · have HNO : Hid (run L 0 ops = none) := by
          have h := HRI.out
          unfold RunIs at h
          show _ = _
          rw [h, HCO.out, run_bad ?_]; rfl
          rw [HTA.out, HKD.out]
          rcases hbad with h | h | h | ⟨h, h2⟩
          · exact .inl h
          · exact .inr (.inl h)
          · exact .inr (.inr (.inl h))
          · exact .inr (.inr (.inr ⟨h, by rw [List.drop_of_length_le (by rw [HN.out]; omega)]⟩))
        obtain ⟨s0, s1, s2⟩ := bx_cells3 X1.out
        obtain ⟨ri, HRIx⟩ : ∃ x : Nat, Hid (n - i = x) := ⟨_, rfl⟩
        rw [HRIx.out] at HSL hc1'
        rw [HRIx.out]
        have hsub : (n : Int) - (ri : Int) = (i : Int) := by rw [← HRIx.out]; omega
        have hsubw : IntKind.i64.wrap ((n : Int) - (ri : Int)) = (i : Int) := by rw [hsub]; exact IntWalk.i64_in _ (by omega)
        go_upto_region 6 with fail
        rw [HW1.out]
        by_cases b1 : kd < 0
        · have b1' : decide (kd < 0) = true := by simpa using b1
          go_wp2_with fail
          refine bodyPost_ret (results_tmp2 Try.results21 _ _ _) rfl ?_
          exact ⟨.slice none 0 0, [], by rw [HNO.out]; rfl, slNil _, by rw [HNO.out]; simp, HB1.out⟩
        · have b1' : decide (kd < 0) = false := by simpa using b1
          by_cases b2 : 3 < kd
          · have b2' : decide (3 < kd) = true := by simpa using b2
            go_wp2_with fail
            refine bodyPost_ret (results_tmp2 Try.results21 _ _ _) rfl ?_
            exact ⟨.slice none 0 0, [], by rw [HNO.out]; rfl, slNil _, by rw [HNO.out]; simp, HB1.out⟩
          · have b2' : decide (3 < kd) = false := by simpa using b2
            by_cases b3 : ta = (i : Int)
            · have b3' : (ta != (i : Int)) = false := by simpa using b3
              have b4 : (kd != 1) = true := by simp; omega
              have b5 : ri = 0 := by rw [← HRIx.out]; omega
              subst b5
              obtain rfl : i = n := by omega
              have b5' : ((0 : Int) == 0) = true := by decide
              clear b3 b1 b2 hbad
              go_wp2_with fail
              refine bodyPost_ret (results_tmp2 Try.results21 _ _ _) rfl ?_
              exact ⟨.slice none 0 0, [], by rw [HNO.out]; rfl, slNil _, by rw [HNO.out]; simp, HB1.out⟩
            · have b3' : (ta != (i : Int)) = true := by simpa using b3
              clear b3 b1 b2 hbad
              go_wp2_with fail
              refine bodyPost_ret (results_tmp2 Try.results21 _ _ _) rfl ?_
              exact ⟨.slice none 0 0, [], by rw [HNO.out]; rfl, slNil _, by rw [HNO.out]; simp, HB1.out⟩
      · have hta : ta = (i : Int) := by omega
        subst hta
        have hkd : kd = 1 ∨ ((kd = 0 ∨ kd = 2 ∨ kd = 3) ∧ i < n) := by omega
        have b3' : ((i : Int) != (i : Int)) = false := by simp
        obtain ⟨s0, s1, s2⟩ := bx_cells3 X1.out
        clear hbad
        go_upto_region 6 with fail
        rw [HW1.out]
        obtain ⟨ri, HRIx⟩ : ∃ x : Nat, Hid (n - i = x) := ⟨_, rfl⟩
        rw [HRIx.out] at HSL hc1'
        rw [HRIx.out]
        have hsub : (n : Int) - (ri : Int) = (i : Int) := by rw [← HRIx.out]; omega
        have hsubw : IntKind.i64.wrap ((n : Int) - (ri : Int)) = (i : Int) := by rw [hsub]; exact IntWalk.i64_in _ (by omega)
        rcases hkd with rfl | ⟨hkd, hin⟩
        · have HST : Hid (RunIs L ops i (k + 1) (out ++ [tt])) := by
            refine HRI.out.step ?_
            rw [HCO.out, run_ins HTA.out HKD.out, HTT.out]
          go_wp2_with (at_builtin; refine wp_app1at elInt rfl _ _ rfl HOW1.out rfl rfl (by simp) rfl rfl (by omega) (by unfold maxLen; omega) (by omega) ?_)
          intro v' wz hoz hgz hatz
          have HBZ : Hid (Below w.heap.size w wz) := HB1.out.grown hgz (by omega) (fun k e => (HOW1.out.lt k e).1)
          have HOZ : Hid (wz.ownsRow w.heap.size 3 1 v' (out ++ [tt]).length (ints (out ++ [tt]))) := by
            show World.ownsRow _ _ _ _ _ _ _
            rw [List.length_append]
            simpa [ints] using hoz
          have XZ : Hid (wz.heap[wr.heap.size]? = some (.cells #[.int .i64 1, .int .i64 (i : Int), .int .i64 tt] 33 (0, 0))) := by
            show _ = _
            rw [hgz.block _ hsz1 (fun e => by have := (HOW.out.lt _ e.symm).2; omega)]; exact X1.out
          obtain ⟨az, cz, rfl, -, -⟩ := own_len hoz
          obtain ⟨u0, u1, u2⟩ := bx_cells3 XZ.out
          clear hoz hgz hatz s0 s1 s2
          go_wp2_with fail
          go_roundg (m - (k + 1))
          case measure => omega
          case rel => exact ⟨k + 1, i, _, a', c', by omega, by omega, by omega, by go_num, by rw [HRIx.out], by simp; omega, by rw [HRIx.out]; exact HSL.out, HST, HOZ, HBZ⟩
        · have hil : i < L.length := by rw [HN.out]; exact hin
          obtain ⟨x, HX⟩ := nameIt (L[i]'hil)
          have HLD : Hid (L.drop i = x :: L.drop (i + 1)) := by show _ = _; rw [List.drop_eq_getElem_cons hil, HX.out]
          obtain ⟨s, rfl⟩ : ∃ s, ri = s + 1 := ⟨ri - 1, by have := HRIx.out; omega⟩
          have HS1 : Hid (n - (i + 1) = s) := by show _ = _; have := HRIx.out; omega
          have hz0 : ((s : Int) + 1 == 0) = false := by simp; omega
          have hz1 : (0 : Int) < (s : Int) + 1 := by omega
          obtain ⟨bl, ol, hal, hcl⟩ := (HSL.out.keep HB1.out).at (k := 0) (by omega)
          have ea := hcl 0 (by rw [ints_len, HLD.out]; simp)
          rw [ints_get] at ea
          simp only [HLD.out, List.getElem_cons_zero, Nat.add_zero] at ea
          have HTL : Hid (Sl w (.slice (some ⟨bl, if c' = 1 then ol else ol + 1, none⟩) s (c' - 1)) (ints (L.drop (i + 1)))) := by
            have h := HSL.out
            rw [hal] at h
            have h2 := h.part (i := 1) (j := s + 1) (by omega) (Nat.le_refl _)
            have e : ((ints (L.drop i)).drop 1).take (s + 1 - 1) = ints (L.drop (i + 1)) := by
              rw [HLD.out]
              have hln : (L.drop (i + 1)).length = s := by rw [List.length_drop, HN.out]; exact HS1.out
              rw [show (ints (x :: L.drop (i + 1))).drop 1 = ints (L.drop (i + 1)) by simp [ints], List.take_of_length_le (by rw [ints_len, hln]; omega)]
            rw [e] at h2
            show Sl _ _ _
            by_cases hc : c' = 1
            · rw [if_pos hc] at h2 ⊢; simpa using h2
            · rw [if_neg hc] at h2 ⊢; simpa [add_at] using h2
          subst hal
          have hcc : (1 : Int) ≤ (c' : Int) := by omega
          have hcs : (1 : Int) ≤ (s : Int) + 1 := by omega
          have hcs2 : (s : Int) + 1 ≤ (c' : Int) := by omega
          clear hcl
          by_cases hct : c' = 1
          all_goals
            first | (rw [if_pos hct] at HTL; subst hct; obtain rfl : s = 0 := (by omega); rw [Nat.sub_self] at HTL) | rw [if_neg hct] at HTL
            rcases hkd with rfl | rfl | rfl
            · have HST : Hid (RunIs L ops (i + 1) (k + 1) (out ++ [x])) := by
                refine HRI.out.step ?_
                rw [HCO.out, HLD.out, run_more HTA.out (by rw [HKD.out]; decide) (by rw [HKD.out]; decide) (by rw [HKD.out]; decide), HKD.out]
                rfl
              go_wp2_with (at_builtin; refine wp_app1at elInt rfl _ _ rfl HOW1.out rfl rfl (by simp) rfl rfl (by omega) (by unfold maxLen; omega) (by omega) ?_)
              intro v' wz hoz hgz hatz
              have HBZ : Hid (Below w.heap.size w wz) := HB1.out.grown hgz (by omega) (fun k e => (HOW1.out.lt k e).1)
              have HOZ : Hid (wz.ownsRow w.heap.size 3 1 v' (out ++ [x]).length (ints (out ++ [x]))) := by
                show World.ownsRow _ _ _ _ _ _ _
                rw [List.length_append]
                simpa [ints] using hoz
              have XZ : Hid (wz.heap[wr.heap.size]? = some (.cells #[.int .i64 0, .int .i64 (i : Int), .int .i64 tt] 33 (0, 0))) := by
                show _ = _
                rw [hgz.block _ hsz1 (fun e => by have := (HOW.out.lt _ e.symm).2; omega)]; exact X1.out
              obtain ⟨az, cz, rfl, -, -⟩ := own_len hoz
              obtain ⟨u0, u1, u2⟩ := bx_cells3 XZ.out
              clear hoz hgz hatz s0 s1 s2
              go_wp2_with fail
              go_roundg (m - (k + 1))
              case measure => omega
              case rel => exact ⟨k + 1, i + 1, _, _, _, by omega, by omega, by omega, by go_num, by rw [HS1.out], by simp; omega, by rw [HS1.out]; exact HTL.out, HST, HOZ, HBZ⟩
            · have HST : Hid (RunIs L ops (i + 1) (k + 1) (out ++ [])) := by
                refine HRI.out.step ?_
                rw [HCO.out, HLD.out, run_more HTA.out (by rw [HKD.out]; decide) (by rw [HKD.out]; decide) (by rw [HKD.out]; decide), HKD.out]
                rfl
              rw [List.append_nil] at HST
              go_wp2_with fail
              go_roundg (m - (k + 1))
              case measure => omega
              case rel => exact ⟨k + 1, i + 1, out, _, _, by omega, by omega, by omega, by go_num, by rw [HS1.out], by omega, by rw [HS1.out]; exact HTL.out, HST, HOW1, HB1⟩
            · have HST : Hid (RunIs L ops (i + 1) (k + 1) (out ++ [tt])) := by
                refine HRI.out.step ?_
                rw [HCO.out, HLD.out, run_more HTA.out (by rw [HKD.out]; decide) (by rw [HKD.out]; decide) (by rw [HKD.out]; decide), HKD.out, HTT.out]
                rfl
              go_wp2_with (at_builtin; refine wp_app1at elInt rfl _ _ rfl HOW1.out rfl rfl (by simp) rfl rfl (by omega) (by unfold maxLen; omega) (by omega) ?_)
              intro v' wz hoz hgz hatz
              have HBZ : Hid (Below w.heap.size w wz) := HB1.out.grown hgz (by omega) (fun k e => (HOW1.out.lt k e).1)
              have HOZ : Hid (wz.ownsRow w.heap.size 3 1 v' (out ++ [tt]).length (ints (out ++ [tt]))) := by
                show World.ownsRow _ _ _ _ _ _ _
                rw [List.length_append]
                simpa [ints] using hoz
              have XZ : Hid (wz.heap[wr.heap.size]? = some (.cells #[.int .i64 3, .int .i64 (i : Int), .int .i64 tt] 33 (0, 0))) := by
                show _ = _
                rw [hgz.block _ hsz1 (fun e => by have := (HOW.out.lt _ e.symm).2; omega)]; exact X1.out
              obtain ⟨az, cz, rfl, -, -⟩ := own_len hoz
              obtain ⟨u0, u1, u2⟩ := bx_cells3 XZ.out
              clear hoz hgz hatz s0 s1 s2
              go_wp2_with fail
              go_roundg (m - (k + 1))
              case measure => omega
              case rel => exact ⟨k + 1, i + 1, _, _, _, by omega, by omega, by omega, by go_num, by rw [HS1.out], by simp; omega, by rw [HS1.out]; exact HTL.out, HST, HOZ, HBZ⟩
    · have hlt' : ¬ (k : Int) < (m : Int) := by omega
      have HRU : Hid (run L 0 ops = if L.drop i = [] then some out else none) := by
        have h := HRI.out
        unfold RunIs at h
        show _ = _
        rw [h, List.drop_of_length_le (show ops.length ≤ k by rw [HM.out]; omega), run_end]
        split <;> simp
      obtain ⟨ri, HRIx⟩ : ∃ x : Nat, Hid (n - i = x) := ⟨_, rfl⟩
      rw [HRIx.out]
      by_cases hin : i < n
      · have hin' : ((ri : Int) == 0) = false := by have := HRIx.out; simp; omega
        have HNO : Hid (run L 0 ops = none) := by
          show _ = _
          rw [HRU.out, if_neg]
          rw [List.drop_eq_nil_iff, HN.out]; omega
        go_wp2_with fail
        refine bodyPost_ret (results_tmp2 Try.results21 _ _ _) rfl ?_
        exact ⟨_, out, by rw [HNO.out]; rfl, sl_of_own HOW.out, by rw [HNO.out]; simp, HB.out⟩
      · have hin' : ((ri : Int) == 0) = true := by have := HRIx.out; simp; omega
        have HNO : Hid (run L 0 ops = some out) := by
          show _ = _
          rw [HRU.out, if_pos]
          rw [List.drop_eq_nil_iff, HN.out]; omega
        go_wp2_with fail
        refine bodyPost_ret (results_tmp2 Try.results21 _ _ _) rfl ?_
        exact ⟨_, out, by rw [HNO.out]; rfl, sl_of_own HOW.out, by rw [HNO.out]; simp, HB.out⟩
end Al
end Go.Proofs.Ytjehmleckcmilaa
