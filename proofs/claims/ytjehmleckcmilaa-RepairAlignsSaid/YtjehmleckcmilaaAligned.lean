/- The contract of aligned. -/
import Derived.Test.YtjehmleckcmilaaOps
import Derived.Test.YtjehmleckcmilaaWeighW
import Derived.Deep.DeepCutAuto
namespace Go.Proofs.Ytjehmleckcmilaa
open Go.RowKit

theorem RowD.grown {S : Nat → Prop} {B : Nat} {e : TypeId} {size : Nat} {ds : List D} {v : Value} {wr w' : World} {c : Nat} (h : RowD S B e size ds v wr) (hg : wr.grownBy w' (some c)) (hc : c < B) (hS : ∀ k, S k → k ≠ c) : RowD S B e size ds v w' := by
  obtain ⟨⟨xs, h1, h2⟩, h3⟩ := h
  refine ⟨⟨xs, h1.kept hg ?_, RdAll.keep (fun k hk hlt => ⟨hk, hg.block k hlt (by simpa using hS k hk.1)⟩) _ _ h2⟩, Nat.le_trans h3 hg.size⟩
  cases e' : v.ownBlock with
  | none => exact .inl rfl
  | some k => exact .inr fun h => by have := (h1.lt k e').1; simp at h; omega
namespace Al
open Wg
/-- the state: the map, the row of operations -/
structure AM (w1 : World) (bm : Nat) (f : Nat → Nat → Int) (ds : List D) (v : Value) (wx : World) : Prop where
  memo : ∃ K, Memo bm f K wx
  gr : w1.grownBy wx (some bm)
  row : RowD (fun k => k ≠ bm) w1.heap.size 33 3 ds v wx
theorem AM.grown {w1 : World} {bm : Nat} {f : Nat → Nat → Int} {ds : List D} {v : Value} {wr w' : World} {K : List (Nat × Nat)} (h : AM w1 bm f ds v wr) (hg : wr.grownBy w' (some bm)) (hm : Memo bm f K w') (hb : bm < w1.heap.size) : AM w1 bm f ds v w' :=
  ⟨⟨K, hm⟩, grown_trans h.gr hg, h.row.grown hg hb (fun _ h => h)⟩
theorem AM.keep {w1 : World} {bm : Nat} {f : Nat → Nat → Int} {ds : List D} {v : Value} {wr w' : World} (h : AM w1 bm f ds v wr) (hb : Below wr.heap.size wr w') (hbm : bm < w1.heap.size) : AM w1 bm f ds v w' := by
  obtain ⟨K, hm⟩ := h.memo
  exact h.grown (grown_below hb _) (hm.keep hb) hbm
theorem AM.step {w1 : World} {bm : Nat} {f : Nat → Nat → Int} {ds : List D} {v v' : Value} {W0 W1 : World} {xs : List Value} {n : Nat} {o : Op} (h : AM w1 bm f ds v W0) (ho : W0.ownsRow w1.heap.size 33 3 v n xs) (hd : RdAll (fun k => k ≠ bm ∧ v.ownBlock ≠ some k) W0 ds xs) (hn : n = ds.length) (hbm : bm < w1.heap.size)
    (ho' : W1.ownsRow w1.heap.size 33 3 v' (n + 1) (xs ++ [.int .i64 o.kind, .int .i64 o.at', .int .i64 o.term])) (hg : W0.grownBy W1 v.ownBlock) (hat : v'.ownBlock = v.ownBlock ∨ ∃ k, v'.ownBlock = some k ∧ W0.heap.size ≤ k) : AM w1 bm f (ds ++ [o.d]) v' W1 := by
  obtain ⟨K, hm⟩ := h.memo
  have hlt : ∀ k, v.ownBlock = some k → w1.heap.size ≤ k := fun k e => (ho.lt k e).1
  refine ⟨⟨K, hm.kept hg (fun e => by have := hlt bm e.symm; omega)⟩, ⟨hg.os.trans h.gr.os, hg.tape.trans h.gr.tape, hg.output.trans h.gr.output, Nat.le_trans h.gr.size hg.size, fun k hk hne => ?_⟩, ?_⟩
  · rw [hg.block k (Nat.lt_of_lt_of_le hk h.gr.size) (fun e => by have := hlt k e.symm; omega), h.gr.block k hk hne]
  · exact RowD.step (T := fun k => k ≠ bm ∧ v.ownBlock ≠ some k) ho hd hn (RdAll.one (rd_op o)) (fun k hk _ => hk) h.row.le ho' hg hat

def AlignedPost (bm : Nat) (f : Nat → Nat → Int) (l : List Op) (w : World) (e : Ending) (w' : World) : Prop :=
  ∃ v K, e = .returned v ∧ Rd AnyB w' (.sl (l.map Op.d)) [v] ∧ Memo bm f K w' ∧ w.grownBy w' (some bm)

set_option maxHeartbeats 8000000 in
set_option maxRecDepth 100000 in
theorem alignedE (a b : Option Addr) (ca cb : Nat) (l r : List Int) (c0 c1 c2 : Int) (mb wb cx vb ob bm : Nat) (K0 : List (Nat × Nat)) (w : World) (hE : Env l r a ca b cb c0 c1 c2 mb wb cx vb ob bm w) (hM : Memo bm (dAt c0 c1 c2 l r) K0 w) (hl2 : l.length ≤ 200) (hr2 : r.length ≤ 200)
    (k0 : 1 ≤ c0) (k0' : c0 ≤ 100) (k1 : 1 ≤ c1) (k1' : c1 ≤ 100) (k2 : 1 ≤ c2) (k2' : c2 ≤ 100) :
    Calls Try.prog 19 #[.slice a l.length ca, .slice b r.length cb, .agg #[.int .i64 c0, .int .i64 c1, .int .i64 c2], .func (.func 98) #[] (lbW mb wb cx vb ob)] w (AlignedPost bm (dAt c0 c1 c2 l r) (opsAt c0 c1 c2 l r 0 0) w) := by
  have hclb := (sl_rd hE.rl).len.2
  have hcrb := (sl_rd hE.rr).len.2
  unfold maxLen at hclb hcrb
  obtain ⟨hcl1, hcl2⟩ := hclb
  obtain ⟨hcr1, hcr2⟩ := hcrb
  have hbm : bm < w.heap.size := hM.lt
  have HDD : Hid (∀ i j, 0 ≤ dAt c0 c1 c2 l r i j ∧ dAt c0 c1 c2 l r i j ≤ 40000) := by
    intro i j
    have h := Al.al_bd (c2 := c2) k0 k1 k2 k0' k1' (l.drop i) (r.drop j)
    unfold dAt
    rw [List.length_drop, List.length_drop] at h
    omega
  have HOF : Hid (∀ (ii jj : Nat) (K : List (Nat × Nat)) (W : World), ii ≤ l.length → jj ≤ r.length → Env l r a ca b cb c0 c1 c2 mb wb cx vb ob bm W → Memo bm (dAt c0 c1 c2 l r) K W → Calls Try.prog 98 #[.int .i64 (ii : Int), .int .i64 (jj : Int), .pointer (some ⟨mb, 0, none⟩), .pointer (some ⟨wb, 0, none⟩), .pointer (some ⟨cx, 0, none⟩), .pointer (some ⟨vb, 0, none⟩), .pointer (some ⟨ob, 0, none⟩)] W (OfPost bm (dAt c0 c1 c2 l r) K ii jj W)) :=
    fun ii jj K W h1 h2 h3 h4 => ofE l r a ca b cb c0 c1 c2 mb wb cx vb ob bm hl2 hr2 k0 k0' k1 k1' k2 k2' _ ii jj K W (Nat.lt_succ_self _) h1 h2 h3 h4
  have HK0 := Lib.hid (fun i j hi hj h => o_keep (c0 := c0) (c1 := c1) (c2 := c2) (l := l) (r := r) (i := i) (j := j) hi hj h)
  have HK1 := Lib.hid (fun i j hi hj h => o_both (c0 := c0) (c1 := c1) (c2 := c2) (l := l) (r := r) (i := i) (j := j) hi hj h)
  have HK2 := Lib.hid (fun i j hi hj => o_del (c0 := c0) (c1 := c1) (c2 := c2) (l := l) (r := r) (i := i) (j := j) hi hj)
  have HK3 := Lib.hid (fun i j hi hj => o_ins (c0 := c0) (c1 := c1) (c2 := c2) (l := l) (r := r) (i := i) (j := j) hi hj)
  have HK4 := Lib.hid (fun i j hi hj => o_end (c0 := c0) (c1 := c1) (c2 := c2) (l := l) (r := r) (i := i) (j := j) hi hj)
  have HK5 := Lib.hid (fun i j hi hj => d_del (c0 := c0) (c1 := c1) (c2 := c2) (l := l) (r := r) (i := i) (j := j) hi hj)
  have HOL : Hid ((opsAt c0 c1 c2 l r 0 0).length ≤ l.length + r.length) := by
    show _ ≤ _
    have := ops_len (c0 := c0) (c1 := c1) (c2 := c2) 0 (l.drop 0) (r.drop 0)
    unfold opsAt; simpa using this
  obtain ⟨D, HDN⟩ := nameIt (dAt c0 c1 c2 l r)
  obtain ⟨OP, HOP⟩ := nameIt (opsAt c0 c1 c2 l r)
  rw [HDN.out] at HDD HOF HK1 HK5 hM
  rw [HOP.out] at HK0 HK1 HK2 HK3 HK4 HOL
  rw [HDN.out, HOP.out]
  obtain ⟨w1, HW1⟩ := nameIt (w.alloc (.cells #[.int .i64 c0, .int .i64 c1, .int .i64 c2] 23))
  have X1 : Hid (w1.heap[w.heap.size]? = some (.cells #[.int .i64 c0, .int .i64 c1, .int .i64 c2] 23 (0, 0))) := by rw [← HW1.out]; exact bx_new _ _ _ rfl
  have HB1 : Hid (Below w.heap.size w w1) := by rw [← HW1.out]; exact (Below.refl _ _).alloc (Nat.le_refl _) _
  have hw1 : w.heap.size < w1.heap.size := (Array.getElem?_eq_some_iff.1 X1.out).1
  have HE1 := Lib.hid (hE.keep HB1.out)
  have HM1 := Lib.hid (hM.keep HB1.out)
  obtain ⟨n, HN⟩ := nameIt l.length
  obtain ⟨m, HM⟩ := nameIt r.length
  rw [HN.out] at hl2 hcl1
  rw [HM.out] at hr2 hcr1
  rw [HN.out, HM.out] at HOL HOF
  rw [HN.out, HM.out]
  have HLW : Hid (∀ W, w1.grownBy W (some bm) → Sl W (.slice a n ca) (ints l)) := fun W hg => by have h := sl_rd (HE1.out.grown hg).rl; rw [HN.out] at h; exact h
  have HRW : Hid (∀ W, w1.grownBy W (some bm) → Sl W (.slice b m cb) (ints r)) := fun W hg => by have h := sl_rd (HE1.out.grown hg).rr; rw [HM.out] at h; exact h
  have HCX : Hid (∀ W, w1.grownBy W (some bm) → W.heap[w.heap.size]? = some (.cells #[.int .i64 c0, .int .i64 c1, .int .i64 c2] 23 (0, 0))) := fun W hg => bx_grown X1.out hg (by omega)
  have HA0 : Hid (AM w1 bm D (([] : List Op).map Op.d) (.slice none 0 0) w1) := ⟨⟨K0, HM1.out⟩, ⟨rfl, rfl, rfl, Nat.le_refl _, fun _ _ _ => rfl⟩, RowD.nil _ _ _ _ _ (Nat.le_refl _)⟩
  have hbm1 : bm < w1.heap.size := by omega
  simp only [lbW]
  have eg : ∀ args w, (callFunc 98 args).run Try.prog w = .ok (.enter 98 args) w := fun _ _ => by kernel_rfl
  clear hE hM
  go_enter Try.func19, Try.ntmps19
  go_upto_region 1 with fail
  rw [HW1.out]
  go_wp2_with fail
  go_loopg [9, 10, 11] (n + m) (fun gg v9 v10 v11 wr => ∃ (i j : Nat) (out : List Op), i ≤ n ∧ j ≤ m ∧ (n - i) + (m - j) ≤ gg ∧ v10 = .int .i64 i ∧ v11 = .int .i64 j ∧ Hid (out ++ OP i j = OP 0 0) ∧ Hid (AM w1 bm D (out.map Op.d) v9 wr))
  case atStart => exact ⟨0, 0, [], by omega, by omega, by omega, rfl, rfl, by show _ = _; simp, HA0⟩
  case round =>
    obtain ⟨wo, rfl⟩ : ∃ wo : World, wo = wr := ⟨_, rfl⟩
    obtain ⟨i, j, out, hi, hj, hg, rfl, rfl, HOUT, HA⟩ := hrel
    obtain ⟨ao, co, rfl, ho1, ho2, ho3⟩ := HA.out.row.form
    unfold maxLen at ho2
    have hno : out.length ≤ 400 := by
      have h := congrArg List.length HOUT.out
      have h2 := HOL.out
      simp at h; omega
    obtain ⟨no, HNO⟩ := nameIt (out.map Op.d).length
    rw [HNO.out] at HA ho1
    rw [HNO.out]
    have hno2 : no ≤ 400 := by have h := HNO.out; rw [List.length_map] at h; omega
    have hl0 : (0 : Int) ≤ (i : Int) := by omega
    have hr0 : (0 : Int) ≤ (j : Int) := by omega
    have HAM0 := HA
    clear ho3
    by_cases hA : i < n
    · by_cases hB : j < m
      · skip
        have hil : i < l.length := by rw [HN.out]; omega
        obtain ⟨p, HPP⟩ := nameIt (l[i]'hil)
        have hi2 : (i : Int) < (n : Int) := by omega
        have hjr : j < r.length := by rw [HM.out]; omega
        obtain ⟨q, HQQ⟩ := nameIt (r[j]'hjr)
        have hj2 : (j : Int) < (m : Int) := by omega
        obtain ⟨i1, HI1⟩ : ∃ i1 : Nat, Hid (i1 = i + 1) := ⟨_, rfl⟩
        have hti : IntKind.i64.wrap ((i : Int) + 1) = (i1 : Int) := by rw [IntWalk.i64_in _ (by omega), HI1.out]; omega
        obtain ⟨d00, HD00⟩ := nameIt (D i j)
        obtain ⟨d10, HD10⟩ := nameIt (D i1 j)
        have hb10 := HDD.out i1 j
        rw [HD10.out] at hb10
        have hs2 : IntKind.i64.wrap (c1 + d10) = c1 + d10 := IntWalk.i64_in _ (by omega)
        obtain ⟨j1, HJ1⟩ : ∃ j1 : Nat, Hid (j1 = j + 1) := ⟨_, rfl⟩
        have htj : IntKind.i64.wrap ((j : Int) + 1) = (j1 : Int) := by rw [IntWalk.i64_in _ (by omega), HJ1.out]; omega
        obtain ⟨d11, HD11⟩ := nameIt (D i1 j1)
        have hb11 := HDD.out i1 j1
        rw [HD11.out] at hb11
        have hs1 : IntKind.i64.wrap (c2 + d11) = c2 + d11 := IntWalk.i64_in _ (by omega)
        obtain ⟨eq, HEQ⟩ := nameIt (p == q)
        have heq := HEQ.out
        obtain ⟨bl, ol, hal, hcl⟩ := (HLW.out _ HAM0.out.gr).at (k := i) (by omega)
        have ea := hcl i (by rw [ints_len, HN.out]; omega)
        rw [ints_get, HPP.out] at ea
        obtain ⟨br, or', har, hcr⟩ := (HRW.out _ HAM0.out.gr).at (k := j) (by omega)
        have eb := hcr j (by rw [ints_len, HM.out]; omega)
        rw [ints_get, HQQ.out] at eb
        subst hal har
        go_upto_region 6 with fail
        go_cut [33] (fun tt wx => tt = .bool eq ∧ Hid (AM w1 bm D (out.map Op.d) (.slice ao no co) wx))
        case first =>
          go_quiet (fail)
          go_wp2_with fail
          go_meet
          exact ⟨rfl, HAM0.out.keep (below_drewN _ _) hbm1⟩
        case rest =>
          obtain ⟨rfl, HAM1⟩ := hcut
          obtain ⟨w1', rfl⟩ : ∃ ww : World, ww = wc := ⟨_, rfl⟩
          clear ea eb hcl hcr
          cases eq with
          | true =>
            have HST := Lib.hid (HK0.out i j hil hjr (by rw [HPP.out, HQQ.out]; simpa using HEQ.out))
            rw [HPP.out] at HST
            obtain ⟨bl, ol, hal, hcl⟩ := (HLW.out _ HAM1.out.gr).at (k := i) (by omega)
            have ea := hcl i (by rw [ints_len, HN.out]; omega)
            rw [ints_get, HPP.out] at ea
            cases hal
            clear hcl
            obtain ⟨xs, hxo, hxd⟩ := HAM1.out.row.own
            rw [HNO.out] at hxo
            have HXO := Lib.hid hxo
            have HXD := Lib.hid hxd
            have hle := HAM1.out.row.le
            clear hxo hxd
            go_wp2_with (at_builtin; refine wp_app1at elOp rfl _ _ rfl HXO.out rfl rfl (by simp) rfl rfl (by omega) (by unfold maxLen; omega) (by omega) ?_)
            intro v' wz hoz hgz hatz
            have HRZ : Hid (AM w1 bm D ((out ++ [(Op.mk 0 i p)]).map Op.d) v' wz) := by
              show AM _ _ _ _ _ _
              rw [List.map_append]
              exact AM.step (o := Op.mk 0 i p) HAM1.out HXO.out HXD.out HNO.out.symm hbm1 hoz hgz hatz
            obtain ⟨az, cz, rfl, -, -⟩ := own_len hoz
            have HOZ : Hid ((out ++ [(Op.mk 0 i p)]) ++ OP (i + 1) (j + 1) = OP 0 0) := by
              show _ = _
              rw [← HOUT.out, HST.out]; simp
            clear hoz hgz hatz
            go_wp2_with fail
            go_roundg ((n - (i + 1)) + (m - (j + 1)))
            case measure => omega
            case rel => exact ⟨(i + 1), (j + 1), out ++ [(Op.mk 0 i p)], by omega, by omega, by omega, by first | go_num | rw [HI1.out], by first | go_num | rw [HJ1.out], HOZ, HRZ⟩
          | false =>
            have HST := Lib.hid (HK1.out i j hil hjr (by rw [HPP.out, HQQ.out]; simpa using HEQ.out))
            rw [HPP.out, HQQ.out, ← HI1.out, ← HJ1.out, HD11.out, HD10.out, HD00.out] at HST
            obtain ⟨rp, HRP⟩ := nameIt (d00 == c2 + d11)
            have hrp := HRP.out
            obtain ⟨Kc, HMc⟩ : ∃ K, Hid (Memo bm D K w1'.drew) := by obtain ⟨K, h⟩ := HAM1.out.memo; exact ⟨K, h.keep (Below.refl _ _).drew⟩
            have HAc : Hid (AM w1 bm D (out.map Op.d) (.slice ao no co) w1'.drew) := HAM1.out.keep (Below.refl _ _).drew hbm1
            have HAd := HAc
            go_upto_region 9 with fail
            go_cut [68] (fun tt wx => tt = .bool rp ∧ Hid (AM w1 bm D (out.map Op.d) (.slice ao no co) wx))
            case first =>
              obtain ⟨y0, y1, y2⟩ := bx_cells3 (HCX.out _ HAM1.out.gr)
              go_region_held3 (fun w' => w'.cell? ⟨w.heap.size, 0 + 2, none⟩ = some (.int .i64 c2))
                (first | exact (bx_cells3 (HCX.out _ HAc.out.gr)).2.2 | exact (bx_cells3 (HCX.out _ HAd.out.gr)).2.2 | fail)
                (first
                  | ((with_reducible refine (HOF.out i j _ _ (by omega) (by omega) (HE1.out.grown HAd.out.gr) HMc.out).mono ?_); rintro e wA ⟨KwA, rfl, hm, hk, hg⟩; rw [HD00.out]; have HAwA : Hid (AM w1 bm D (out.map Op.d) (.slice ao no co) wA) := HAc.out.grown hg hm hbm1; have HMwA := Lib.hid hm; clear HAc hm hk hg; have HAc := HAwA)
                  | ((with_reducible refine (HOF.out i1 j1 _ _ (by have := HI1.out; omega) (by have := HJ1.out; omega) (HE1.out.grown HAwA.out.gr) HMwA.out).mono ?_); rintro e wB ⟨KwB, rfl, hm, hk, hg⟩; rw [HD11.out]; have HAwB : Hid (AM w1 bm D (out.map Op.d) (.slice ao no co) wB) := HAc.out.grown hg hm hbm1; have HMwB := Lib.hid hm; clear HAc hm hk hg; have HAc := HAwB)
                  | ((with_reducible refine (HOF.out i1 j1 _ _ (by have := HI1.out; omega) (by have := HJ1.out; omega) (HE1.out.grown HAd.out.gr) HMc.out).mono ?_); rintro e wA ⟨KwA, rfl, hm, hk, hg⟩; rw [HD11.out]; have HAwA : Hid (AM w1 bm D (out.map Op.d) (.slice ao no co) wA) := HAc.out.grown hg hm hbm1; have HMwA := Lib.hid hm; clear HAc hm hk hg; have HAc := HAwA)
                  | ((with_reducible refine (HOF.out i j _ _ (by omega) (by omega) (HE1.out.grown HAwA.out.gr) HMwA.out).mono ?_); rintro e wB ⟨KwB, rfl, hm, hk, hg⟩; rw [HD00.out]; have HAwB : Hid (AM w1 bm D (out.map Op.d) (.slice ao no co) wB) := HAc.out.grown hg hm hbm1; have HMwB := Lib.hid hm; clear HAc hm hk hg; have HAc := HAwB)
                  | fail)
              all_goals
                go_wp2_with fail
                go_meet
                exact ⟨rfl, HAwB.out⟩
            case rest =>
              obtain ⟨rfl, HAM2⟩ := hcut
              obtain ⟨w2', rfl⟩ : ∃ ww : World, ww = wc := ⟨_, rfl⟩
              cases rp with
              | true =>
                have hst := HST.out
                rw [if_pos (by have h := HRP.out; simp at h; omega), HI1.out, HJ1.out] at hst
                have HS2 := Lib.hid hst
                clear hst
                obtain ⟨br, or', har, hcr⟩ := (HRW.out _ HAM2.out.gr).at (k := j) (by omega)
                have eb := hcr j (by rw [ints_len, HM.out]; omega)
                rw [ints_get, HQQ.out] at eb
                cases har
                clear hcr
                obtain ⟨xs, hxo, hxd⟩ := HAM2.out.row.own
                rw [HNO.out] at hxo
                have HXO := Lib.hid hxo
                have HXD := Lib.hid hxd
                have hle := HAM2.out.row.le
                clear hxo hxd
                go_wp2_with (at_builtin; refine wp_app1at elOp rfl _ _ rfl HXO.out rfl rfl (by simp) rfl rfl (by omega) (by unfold maxLen; omega) (by omega) ?_)
                intro v' wz hoz hgz hatz
                have HRZ : Hid (AM w1 bm D ((out ++ [(Op.mk 3 i q)]).map Op.d) v' wz) := by
                  show AM _ _ _ _ _ _
                  rw [List.map_append]
                  exact AM.step (o := Op.mk 3 i q) HAM2.out HXO.out HXD.out HNO.out.symm hbm1 hoz hgz hatz
                obtain ⟨az, cz, rfl, -, -⟩ := own_len hoz
                have HOZ : Hid ((out ++ [(Op.mk 3 i q)]) ++ OP (i + 1) (j + 1) = OP 0 0) := by
                  show _ = _
                  rw [← HOUT.out, HS2.out]; simp
                clear hoz hgz hatz
                go_wp2_with fail
                go_roundg ((n - (i + 1)) + (m - (j + 1)))
                case measure => omega
                case rel => exact ⟨(i + 1), (j + 1), out ++ [(Op.mk 3 i q)], by omega, by omega, by omega, by first | go_num | rw [HI1.out], by first | go_num | rw [HJ1.out], HOZ, HRZ⟩
              | false =>
                have hst := HST.out
                rw [if_neg (by have h := HRP.out; simp at h; omega)] at hst
                have HS2 := Lib.hid hst
                clear hst
                obtain ⟨dl, HDL⟩ := nameIt (d00 == c1 + d10)
                have hdl := HDL.out
                obtain ⟨Kc, HMc⟩ : ∃ K, Hid (Memo bm D K w2'.drew) := by obtain ⟨K, h⟩ := HAM2.out.memo; exact ⟨K, h.keep (Below.refl _ _).drew⟩
                have HAc : Hid (AM w1 bm D (out.map Op.d) (.slice ao no co) w2'.drew) := HAM2.out.keep (Below.refl _ _).drew hbm1
                have HAd := HAc
                go_upto_region 12 with fail
                go_cut [108] (fun tt wx => tt = .bool dl ∧ Hid (AM w1 bm D (out.map Op.d) (.slice ao no co) wx))
                case first =>
                  obtain ⟨y0, y1, y2⟩ := bx_cells3 (HCX.out _ HAM2.out.gr)
                  go_region_held3 (fun w' => w'.cell? ⟨w.heap.size, 0 + 1, none⟩ = some (.int .i64 c1))
                    (first | exact (bx_cells3 (HCX.out _ HAc.out.gr)).2.1 | exact (bx_cells3 (HCX.out _ HAd.out.gr)).2.1 | fail)
                    (first
                      | ((with_reducible refine (HOF.out i j _ _ (by omega) (by omega) (HE1.out.grown HAd.out.gr) HMc.out).mono ?_); rintro e wA ⟨KwA, rfl, hm, hk, hg⟩; rw [HD00.out]; have HAwA : Hid (AM w1 bm D (out.map Op.d) (.slice ao no co) wA) := HAc.out.grown hg hm hbm1; have HMwA := Lib.hid hm; clear HAc hm hk hg; have HAc := HAwA)
                      | ((with_reducible refine (HOF.out i1 j _ _ (by have := HI1.out; omega) (by omega) (HE1.out.grown HAwA.out.gr) HMwA.out).mono ?_); rintro e wB ⟨KwB, rfl, hm, hk, hg⟩; rw [HD10.out]; have HAwB : Hid (AM w1 bm D (out.map Op.d) (.slice ao no co) wB) := HAc.out.grown hg hm hbm1; have HMwB := Lib.hid hm; clear HAc hm hk hg; have HAc := HAwB)
                      | ((with_reducible refine (HOF.out i1 j _ _ (by have := HI1.out; omega) (by omega) (HE1.out.grown HAd.out.gr) HMc.out).mono ?_); rintro e wA ⟨KwA, rfl, hm, hk, hg⟩; rw [HD10.out]; have HAwA : Hid (AM w1 bm D (out.map Op.d) (.slice ao no co) wA) := HAc.out.grown hg hm hbm1; have HMwA := Lib.hid hm; clear HAc hm hk hg; have HAc := HAwA)
                      | ((with_reducible refine (HOF.out i j _ _ (by omega) (by omega) (HE1.out.grown HAwA.out.gr) HMwA.out).mono ?_); rintro e wB ⟨KwB, rfl, hm, hk, hg⟩; rw [HD00.out]; have HAwB : Hid (AM w1 bm D (out.map Op.d) (.slice ao no co) wB) := HAc.out.grown hg hm hbm1; have HMwB := Lib.hid hm; clear HAc hm hk hg; have HAc := HAwB)
                      | fail)
                  all_goals
                    go_wp2_with fail
                    go_meet
                    exact ⟨rfl, HAwB.out⟩
                case rest =>
                  obtain ⟨rfl, HAM3⟩ := hcut
                  obtain ⟨w3', rfl⟩ : ∃ ww : World, ww = wc := ⟨_, rfl⟩
                  cases dl with
                  | true =>
                    have hst := HS2.out
                    rw [if_pos (by have h := HDL.out; simp at h; omega), HI1.out] at hst
                    have HS3 := Lib.hid hst
                    clear hst
                    obtain ⟨bl, ol, hal, hcl⟩ := (HLW.out _ HAM3.out.gr).at (k := i) (by omega)
                    have ea := hcl i (by rw [ints_len, HN.out]; omega)
                    rw [ints_get, HPP.out] at ea
                    cases hal
                    clear hcl
                    obtain ⟨xs, hxo, hxd⟩ := HAM3.out.row.own
                    rw [HNO.out] at hxo
                    have HXO := Lib.hid hxo
                    have HXD := Lib.hid hxd
                    have hle := HAM3.out.row.le
                    clear hxo hxd
                    go_wp2_with (at_builtin; refine wp_app1at elOp rfl _ _ rfl HXO.out rfl rfl (by simp) rfl rfl (by omega) (by unfold maxLen; omega) (by omega) ?_)
                    intro v' wz hoz hgz hatz
                    have HRZ : Hid (AM w1 bm D ((out ++ [(Op.mk 2 i p)]).map Op.d) v' wz) := by
                      show AM _ _ _ _ _ _
                      rw [List.map_append]
                      exact AM.step (o := Op.mk 2 i p) HAM3.out HXO.out HXD.out HNO.out.symm hbm1 hoz hgz hatz
                    obtain ⟨az, cz, rfl, -, -⟩ := own_len hoz
                    have HOZ : Hid ((out ++ [(Op.mk 2 i p)]) ++ OP (i + 1) j = OP 0 0) := by
                      show _ = _
                      rw [← HOUT.out, HS3.out]; simp
                    clear hoz hgz hatz
                    go_wp2_with fail
                    go_roundg ((n - (i + 1)) + (m - j))
                    case measure => omega
                    case rel => exact ⟨(i + 1), j, out ++ [(Op.mk 2 i p)], by omega, by omega, by omega, by first | go_num | rw [HI1.out], by first | go_num | rw [HJ1.out], HOZ, HRZ⟩
                  | false =>
                    have hst := HS2.out
                    rw [if_neg (by have h := HDL.out; simp at h; omega), HJ1.out] at hst
                    have HS3 := Lib.hid hst
                    clear hst
                    obtain ⟨br, or', har, hcr⟩ := (HRW.out _ HAM3.out.gr).at (k := j) (by omega)
                    have eb := hcr j (by rw [ints_len, HM.out]; omega)
                    rw [ints_get, HQQ.out] at eb
                    cases har
                    clear hcr
                    obtain ⟨xs, hxo, hxd⟩ := HAM3.out.row.own
                    rw [HNO.out] at hxo
                    have HXO := Lib.hid hxo
                    have HXD := Lib.hid hxd
                    have hle := HAM3.out.row.le
                    clear hxo hxd
                    go_wp2_with (at_builtin; refine wp_app1at elOp rfl _ _ rfl HXO.out rfl rfl (by simp) rfl rfl (by omega) (by unfold maxLen; omega) (by omega) ?_)
                    intro v' wz hoz hgz hatz
                    have HRZ : Hid (AM w1 bm D ((out ++ [(Op.mk 1 i q)]).map Op.d) v' wz) := by
                      show AM _ _ _ _ _ _
                      rw [List.map_append]
                      exact AM.step (o := Op.mk 1 i q) HAM3.out HXO.out HXD.out HNO.out.symm hbm1 hoz hgz hatz
                    obtain ⟨az, cz, rfl, -, -⟩ := own_len hoz
                    have HOZ : Hid ((out ++ [(Op.mk 1 i q)]) ++ OP i (j + 1) = OP 0 0) := by
                      show _ = _
                      rw [← HOUT.out, HS3.out]; simp
                    clear hoz hgz hatz
                    go_wp2_with fail
                    go_roundg ((n - i) + (m - (j + 1)))
                    case measure => omega
                    case rel => exact ⟨i, (j + 1), out ++ [(Op.mk 1 i q)], by omega, by omega, by omega, by first | go_num | rw [HI1.out], by first | go_num | rw [HJ1.out], HOZ, HRZ⟩
      · have hjm : m ≤ j := by omega
        have hil : i < l.length := by rw [HN.out]; omega
        obtain ⟨p, HPP⟩ := nameIt (l[i]'hil)
        have hi2 : (i : Int) < (n : Int) := by omega
        have hj2 : ¬ (j : Int) < (m : Int) := by omega
        obtain ⟨i1, HI1⟩ : ∃ i1 : Nat, Hid (i1 = i + 1) := ⟨_, rfl⟩
        have hti : IntKind.i64.wrap ((i : Int) + 1) = (i1 : Int) := by rw [IntWalk.i64_in _ (by omega), HI1.out]; omega
        obtain ⟨d00, HD00⟩ := nameIt (D i j)
        obtain ⟨d10, HD10⟩ := nameIt (D i1 j)
        have hb10 := HDD.out i1 j
        rw [HD10.out] at hb10
        have hs2 : IntKind.i64.wrap (c1 + d10) = c1 + d10 := IntWalk.i64_in _ (by omega)
        go_upto_region 6 with fail
        go_cut [33] (fun tt wx => tt = .bool false ∧ Hid (AM w1 bm D (out.map Op.d) (.slice ao no co) wx))
        case first =>
          go_quiet (fail)
          go_wp2_with fail
          go_meet
          exact ⟨rfl, HAM0.out.keep (below_drewN _ _) hbm1⟩
        case rest =>
          obtain ⟨rfl, HAM1⟩ := hcut
          obtain ⟨w1', rfl⟩ : ∃ ww : World, ww = wc := ⟨_, rfl⟩
          go_upto_region 9 with fail
          go_cut [68] (fun tt wx => tt = .bool false ∧ Hid (AM w1 bm D (out.map Op.d) (.slice ao no co) wx))
          case first =>
            go_quiet (fail)
            go_wp2_with fail
            go_meet
            exact ⟨rfl, HAM1.out.keep (below_drewN _ _) hbm1⟩
          case rest =>
            obtain ⟨rfl, HAM2⟩ := hcut
            obtain ⟨w2', rfl⟩ : ∃ ww : World, ww = wc := ⟨_, rfl⟩
            have HDE := Lib.hid (HK5.out i j hil (by rw [HM.out]; omega))
            rw [← HI1.out, HD10.out, HD00.out] at HDE
            have hdl : (d00 == c1 + d10) = true := by have := HDE.out; simp; omega
            have HST := Lib.hid (HK2.out i j hil (by rw [HM.out]; omega))
            rw [HPP.out] at HST
            obtain ⟨Kc, HMc⟩ : ∃ K, Hid (Memo bm D K w2'.drew) := by obtain ⟨K, h⟩ := HAM2.out.memo; exact ⟨K, h.keep (Below.refl _ _).drew⟩
            have HAc : Hid (AM w1 bm D (out.map Op.d) (.slice ao no co) w2'.drew) := HAM2.out.keep (Below.refl _ _).drew hbm1
            have HAd := HAc
            go_upto_region 12 with fail
            go_cut [108] (fun tt wx => tt = .bool true ∧ Hid (AM w1 bm D (out.map Op.d) (.slice ao no co) wx))
            case first =>
              obtain ⟨y0, y1, y2⟩ := bx_cells3 (HCX.out _ HAM2.out.gr)
              go_region_held3 (fun w' => w'.cell? ⟨w.heap.size, 0 + 1, none⟩ = some (.int .i64 c1))
                (first | exact (bx_cells3 (HCX.out _ HAc.out.gr)).2.1 | exact (bx_cells3 (HCX.out _ HAd.out.gr)).2.1 | fail)
                (first
                  | ((with_reducible refine (HOF.out i j _ _ (by omega) (by omega) (HE1.out.grown HAd.out.gr) HMc.out).mono ?_); rintro e wA ⟨KwA, rfl, hm, hk, hg⟩; rw [HD00.out]; have HAwA : Hid (AM w1 bm D (out.map Op.d) (.slice ao no co) wA) := HAc.out.grown hg hm hbm1; have HMwA := Lib.hid hm; clear HAc hm hk hg; have HAc := HAwA)
                  | ((with_reducible refine (HOF.out i1 j _ _ (by have := HI1.out; omega) (by omega) (HE1.out.grown HAwA.out.gr) HMwA.out).mono ?_); rintro e wB ⟨KwB, rfl, hm, hk, hg⟩; rw [HD10.out]; have HAwB : Hid (AM w1 bm D (out.map Op.d) (.slice ao no co) wB) := HAc.out.grown hg hm hbm1; have HMwB := Lib.hid hm; clear HAc hm hk hg; have HAc := HAwB)
                  | ((with_reducible refine (HOF.out i1 j _ _ (by have := HI1.out; omega) (by omega) (HE1.out.grown HAd.out.gr) HMc.out).mono ?_); rintro e wA ⟨KwA, rfl, hm, hk, hg⟩; rw [HD10.out]; have HAwA : Hid (AM w1 bm D (out.map Op.d) (.slice ao no co) wA) := HAc.out.grown hg hm hbm1; have HMwA := Lib.hid hm; clear HAc hm hk hg; have HAc := HAwA)
                  | ((with_reducible refine (HOF.out i j _ _ (by omega) (by omega) (HE1.out.grown HAwA.out.gr) HMwA.out).mono ?_); rintro e wB ⟨KwB, rfl, hm, hk, hg⟩; rw [HD00.out]; have HAwB : Hid (AM w1 bm D (out.map Op.d) (.slice ao no co) wB) := HAc.out.grown hg hm hbm1; have HMwB := Lib.hid hm; clear HAc hm hk hg; have HAc := HAwB)
                  | fail)
              all_goals
                go_wp2_with fail
                go_meet
                exact ⟨rfl, HAwB.out⟩
            case rest =>
              obtain ⟨rfl, HAM3⟩ := hcut
              obtain ⟨w3', rfl⟩ : ∃ ww : World, ww = wc := ⟨_, rfl⟩
              obtain ⟨bl, ol, hal, hcl⟩ := (HLW.out _ HAM3.out.gr).at (k := i) (by omega)
              have ea := hcl i (by rw [ints_len, HN.out]; omega)
              rw [ints_get, HPP.out] at ea
              cases hal
              clear hcl
              obtain ⟨xs, hxo, hxd⟩ := HAM3.out.row.own
              rw [HNO.out] at hxo
              have HXO := Lib.hid hxo
              have HXD := Lib.hid hxd
              have hle := HAM3.out.row.le
              clear hxo hxd
              go_wp2_with (at_builtin; refine wp_app1at elOp rfl _ _ rfl HXO.out rfl rfl (by simp) rfl rfl (by omega) (by unfold maxLen; omega) (by omega) ?_)
              intro v' wz hoz hgz hatz
              have HRZ : Hid (AM w1 bm D ((out ++ [(Op.mk 2 i p)]).map Op.d) v' wz) := by
                show AM _ _ _ _ _ _
                rw [List.map_append]
                exact AM.step (o := Op.mk 2 i p) HAM3.out HXO.out HXD.out HNO.out.symm hbm1 hoz hgz hatz
              obtain ⟨az, cz, rfl, -, -⟩ := own_len hoz
              have HOZ : Hid ((out ++ [(Op.mk 2 i p)]) ++ OP (i + 1) j = OP 0 0) := by
                show _ = _
                rw [← HOUT.out, HST.out]; simp
              clear hoz hgz hatz
              go_wp2_with fail
              go_roundg ((n - (i + 1)) + (m - j))
              case measure => omega
              case rel => exact ⟨(i + 1), j, out ++ [(Op.mk 2 i p)], by omega, by omega, by omega, by first | go_num | rw [HI1.out], by first | go_num | rw [HJ1.out], HOZ, HRZ⟩
    · by_cases hB : j < m
      · have hin : n ≤ i := by omega
        have hi2 : ¬ (i : Int) < (n : Int) := by omega
        have hjr : j < r.length := by rw [HM.out]; omega
        obtain ⟨q, HQQ⟩ := nameIt (r[j]'hjr)
        have hj2 : (j : Int) < (m : Int) := by omega
        go_upto_region 6 with fail
        go_cut [33] (fun tt wx => tt = .bool false ∧ Hid (AM w1 bm D (out.map Op.d) (.slice ao no co) wx))
        case first =>
          go_quiet (fail)
          go_wp2_with fail
          go_meet
          exact ⟨rfl, HAM0.out.keep (below_drewN _ _) hbm1⟩
        case rest =>
          obtain ⟨rfl, HAM1⟩ := hcut
          obtain ⟨w1', rfl⟩ : ∃ ww : World, ww = wc := ⟨_, rfl⟩
          go_upto_region 9 with fail
          go_cut [68] (fun tt wx => tt = .bool false ∧ Hid (AM w1 bm D (out.map Op.d) (.slice ao no co) wx))
          case first =>
            go_quiet (fail)
            go_wp2_with fail
            go_meet
            exact ⟨rfl, HAM1.out.keep (below_drewN _ _) hbm1⟩
          case rest =>
            obtain ⟨rfl, HAM2⟩ := hcut
            obtain ⟨w2', rfl⟩ : ∃ ww : World, ww = wc := ⟨_, rfl⟩
            have HST := Lib.hid (HK3.out i j (by rw [HN.out]; omega) hjr)
            rw [HQQ.out] at HST
            go_upto_region 12 with fail
            go_cut [108] (fun tt wx => tt = .bool false ∧ Hid (AM w1 bm D (out.map Op.d) (.slice ao no co) wx))
            case first =>
              go_quiet (fail)
              go_wp2_with fail
              go_meet
              exact ⟨rfl, HAM2.out.keep (below_drewN _ _) hbm1⟩
            case rest =>
              obtain ⟨rfl, HAM3⟩ := hcut
              obtain ⟨w3', rfl⟩ : ∃ ww : World, ww = wc := ⟨_, rfl⟩
              obtain ⟨br, or', har, hcr⟩ := (HRW.out _ HAM3.out.gr).at (k := j) (by omega)
              have eb := hcr j (by rw [ints_len, HM.out]; omega)
              rw [ints_get, HQQ.out] at eb
              cases har
              clear hcr
              obtain ⟨xs, hxo, hxd⟩ := HAM3.out.row.own
              rw [HNO.out] at hxo
              have HXO := Lib.hid hxo
              have HXD := Lib.hid hxd
              have hle := HAM3.out.row.le
              clear hxo hxd
              go_wp2_with (at_builtin; refine wp_app1at elOp rfl _ _ rfl HXO.out rfl rfl (by simp) rfl rfl (by omega) (by unfold maxLen; omega) (by omega) ?_)
              intro v' wz hoz hgz hatz
              have HRZ : Hid (AM w1 bm D ((out ++ [(Op.mk 1 i q)]).map Op.d) v' wz) := by
                show AM _ _ _ _ _ _
                rw [List.map_append]
                exact AM.step (o := Op.mk 1 i q) HAM3.out HXO.out HXD.out HNO.out.symm hbm1 hoz hgz hatz
              obtain ⟨az, cz, rfl, -, -⟩ := own_len hoz
              have HOZ : Hid ((out ++ [(Op.mk 1 i q)]) ++ OP i (j + 1) = OP 0 0) := by
                show _ = _
                rw [← HOUT.out, HST.out]; simp
              clear hoz hgz hatz
              go_wp2_with fail
              go_roundg ((n - i) + (m - (j + 1)))
              case measure => omega
              case rel => exact ⟨i, (j + 1), out ++ [(Op.mk 1 i q)], by omega, by omega, by omega, by first | go_num | rw [HI1.out], by first | go_num | rw [HJ1.out], HOZ, HRZ⟩
      · have hi2 : ¬ (i : Int) < (n : Int) := by omega
        have hj2 : ¬ (j : Int) < (m : Int) := by omega
        have HEND := Lib.hid (HK4.out i j (by rw [HN.out]; omega) (by rw [HM.out]; omega))
        have HOO : Hid (OP 0 0 = out) := by
          show _ = _
          rw [← HOUT.out, HEND.out]; simp
        go_wp2_with fail
        go_ret
        obtain ⟨K, hm⟩ := HA.out.memo
        refine ⟨.slice ao no co, K, rfl, ?_, hm, grown_trans (grown_below HB1.out _) HA.out.gr⟩
        rw [HOO.out]
        exact HA.out.row.rd.any
end Al
end Go.Proofs.Ytjehmleckcmilaa
