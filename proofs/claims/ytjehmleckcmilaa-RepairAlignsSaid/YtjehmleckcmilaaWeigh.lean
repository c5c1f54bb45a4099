/- The contract of the function that Weigh makes, and of Weigh. -/
import Derived.Test.YtjehmleckcmilaaMemo
import Derived.Test.YtjehmleckcmilaaDistWalk
import Derived.Laws.EntriesVeiled
import Derived.Lib.MinMax
namespace Go.Proofs.Ytjehmleckcmilaa
open Go.RowKit
namespace Wg

def lbW (mb wb cx vb ob : Nat) : Array Value := #[.pointer (some ⟨mb, 0, none⟩), .pointer (some ⟨wb, 0, none⟩), .pointer (some ⟨cx, 0, none⟩), .pointer (some ⟨vb, 0, none⟩), .pointer (some ⟨ob, 0, none⟩)]
structure Env (l r : List Int) (a : Option Addr) (ca : Nat) (b : Option Addr) (cb : Nat) (c0 c1 c2 : Int) (mb wb cx vb ob bm : Nat) (W : World) : Prop where
  mx : W.heap[mb]? = some (.cells #[.map (some bm)] 174 (0, 0))
  wx : W.heap[wb]? = some (.cells #[.slice a l.length ca] 22 (0, 0))
  cx' : W.heap[cx]? = some (.cells #[.int .i64 c0, .int .i64 c1, .int .i64 c2] 23 (0, 0))
  vx : W.heap[vb]? = some (.cells #[.slice b r.length cb] 22 (0, 0))
  ox : W.heap[ob]? = some (.cells #[.func (.func 98) #[] (lbW mb wb cx vb ob)] 29 (0, 0))
  rl : Rd (fun k => k ≠ bm) W (D.ints l) [.slice a l.length ca]
  rr : Rd (fun k => k ≠ bm) W (D.ints r) [.slice b r.length cb]
  ne : mb ≠ bm ∧ wb ≠ bm ∧ cx ≠ bm ∧ vb ≠ bm ∧ ob ≠ bm
theorem bx_grown {w w' : World} {b c : Nat} {o : Obj} (h : w.heap[b]? = some o) (hg : w.grownBy w' (some c)) (hne : b ≠ c) : w'.heap[b]? = some o := by
  rw [hg.block b (Array.getElem?_eq_some_iff.1 h).1 (by simpa using hne)]; exact h
section
variable {l r : List Int} {a : Option Addr} {ca : Nat} {b : Option Addr} {cb : Nat} {c0 c1 c2 : Int} {mb wb cx vb ob bm : Nat} {W W' : World}
theorem Env.grown (h : Env l r a ca b cb c0 c1 c2 mb wb cx vb ob bm W) (hg : W.grownBy W' (some bm)) : Env l r a ca b cb c0 c1 c2 mb wb cx vb ob bm W' :=
  ⟨bx_grown h.mx hg h.ne.1, bx_grown h.wx hg h.ne.2.1, bx_grown h.cx' hg h.ne.2.2.1, bx_grown h.vx hg h.ne.2.2.2.1, bx_grown h.ox hg h.ne.2.2.2.2,
    Rd.keep (fun k hk hlt => ⟨hk, hg.block k hlt (by simpa using hk)⟩) _ _ h.rl, Rd.keep (fun k hk hlt => ⟨hk, hg.block k hlt (by simpa using hk)⟩) _ _ h.rr, h.ne⟩
theorem Env.keep (h : Env l r a ca b cb c0 c1 c2 mb wb cx vb ob bm W) (hb : Below W.heap.size W W') : Env l r a ca b cb c0 c1 c2 mb wb cx vb ob bm W' := h.grown (grown_below hb _)
end
def OfPost (bm : Nat) (f : Nat → Nat → Int) (K : List (Nat × Nat)) (i j : Nat) (W : World) (e : Ending) (W' : World) : Prop :=
  ∃ K', e = .returned (.int .i64 (f i j)) ∧ Memo bm f K' W' ∧ (∀ p ∈ K', p ∈ K ∨ i + j ≤ p.1 + p.2) ∧ W.grownBy W' (some bm)

section
variable {c0 c1 c2 : Int} {l r : List Int} {i j : Nat}
theorem w_end (h0 : 1 ≤ c0) (h1 : 1 ≤ c1) (h2 : 1 ≤ c2) (hi : l.length ≤ i) (hj : r.length ≤ j) : dAt c0 c1 c2 l r i j = 0 := by
  unfold dAt; rw [List.drop_of_length_le hi, List.drop_of_length_le hj, Al.al]; simp
theorem w_i (h0 : 1 ≤ c0) (h1 : 1 ≤ c1) (h2 : 1 ≤ c2) (hi : i < l.length) (hj : r.length ≤ j) : dAt c0 c1 c2 l r i j = min (((l.length - i : Nat) : Int) * c1) (dAt c0 c1 c2 l r (i + 1) j + c1) := by
  unfold dAt
  rw [Al.al_wl h0 h1 h2, Al.al_wl h0 h1 h2, List.drop_of_length_le hj, List.drop_eq_getElem_cons hi, Al.wl]
  congr 2
  simp; omega
theorem w_j (h0 : 1 ≤ c0) (h1 : 1 ≤ c1) (h2 : 1 ≤ c2) (hi : l.length ≤ i) (hj : j < r.length) : dAt c0 c1 c2 l r i j = min (((r.length - j : Nat) : Int) * c0) (dAt c0 c1 c2 l r i (j + 1) + c0) := by
  unfold dAt
  rw [Al.al_wl h0 h1 h2, Al.al_wl h0 h1 h2, List.drop_of_length_le hi, List.drop_eq_getElem_cons hj, Al.wl]
  congr 2
  simp; omega
theorem w_b (h0 : 1 ≤ c0) (h1 : 1 ≤ c1) (h2 : 1 ≤ c2) (hi : i < l.length) (hj : j < r.length) : dAt c0 c1 c2 l r i j = min (min (min (((l.length - i : Nat) : Int) * c1 + ((r.length - j : Nat) : Int) * c0) (dAt c0 c1 c2 l r (i + 1) j + c1)) (dAt c0 c1 c2 l r i (j + 1) + c0)) (dAt c0 c1 c2 l r (i + 1) (j + 1) + if l[i] = r[j] then 0 else c2) := by
  unfold dAt
  rw [Al.al_wl h0 h1 h2, Al.al_wl h0 h1 h2, Al.al_wl h0 h1 h2, Al.al_wl h0 h1 h2]
  conv => lhs; rw [List.drop_eq_getElem_cons hi, List.drop_eq_getElem_cons hj, Al.wl]
  rw [← List.drop_eq_getElem_cons hi, ← List.drop_eq_getElem_cons hj]
  simp only [List.length_drop]
  congr 5
  · omega
  · omega
end

set_option maxHeartbeats 4000000 in
set_option maxRecDepth 100000 in
theorem ofE (l r : List Int) (a : Option Addr) (ca : Nat) (b : Option Addr) (cb : Nat) (c0 c1 c2 : Int) (mb wb cx vb ob bm : Nat) (hl2 : l.length ≤ 200) (hr2 : r.length ≤ 200)
    (k0 : 1 ≤ c0) (k0' : c0 ≤ 100) (k1 : 1 ≤ c1) (k1' : c1 ≤ 100) (k2 : 1 ≤ c2) (k2' : c2 ≤ 100) : ∀ (s i j : Nat) (K : List (Nat × Nat)) (W : World), (l.length - i) + (r.length - j) < s → i ≤ l.length → j ≤ r.length →
    Env l r a ca b cb c0 c1 c2 mb wb cx vb ob bm W → Memo bm (dAt c0 c1 c2 l r) K W →
    Calls Try.prog 98 (#[.int .i64 (i : Int), .int .i64 (j : Int)] ++ lbW mb wb cx vb ob) W (OfPost bm (dAt c0 c1 c2 l r) K i j W) := by
  intro s
  induction s with
  | zero => intro i j K W h; omega
  | succ s ih =>
  intro i j K W hs hi hj hE hM
  have HDB : Hid (∀ i j, 0 ≤ dAt c0 c1 c2 l r i j ∧ dAt c0 c1 c2 l r i j ≤ 40000) := by
    intro i j
    have h := Al.al_bd (c2 := c2) k0 k1 k2 k0' k1' (l.drop i) (r.drop j)
    unfold dAt
    rw [List.length_drop, List.length_drop] at h
    omega
  have HV0 := Lib.hid (fun h h' => w_end (c0 := c0) (c1 := c1) (c2 := c2) (l := l) (r := r) (i := i) (j := j) k0 k1 k2 h h')
  have HV1 := Lib.hid (fun h h' => w_i (c0 := c0) (c1 := c1) (c2 := c2) (l := l) (r := r) (i := i) (j := j) k0 k1 k2 h h')
  have HV2 := Lib.hid (fun h h' => w_j (c0 := c0) (c1 := c1) (c2 := c2) (l := l) (r := r) (i := i) (j := j) k0 k1 k2 h h')
  have HV3 := Lib.hid (fun h h' => w_b (c0 := c0) (c1 := c1) (c2 := c2) (l := l) (r := r) (i := i) (j := j) k0 k1 k2 h h')
  have IH := Lib.hid ih
  have HS := Lib.hid hs
  obtain ⟨f, HFN⟩ := nameIt (dAt c0 c1 c2 l r)
  rw [HFN.out] at HDB HV0 HV1 HV2 HV3 IH hM
  rw [HFN.out]
  have HIL := Lib.hid hi
  have HJL := Lib.hid hj
  have HE := Lib.hid hE
  have HM := Lib.hid hM
  obtain ⟨n, HN⟩ := nameIt l.length
  obtain ⟨m, HMm⟩ := nameIt r.length
  have hwx := hE.wx
  have hvx := hE.vx
  rw [HN.out] at hwx hi hl2
  rw [HMm.out] at hvx hj hr2
  obtain ⟨W1, HW1⟩ := nameIt (W.alloc (.cells #[.int .i64 (i : Int), .int .i64 (j : Int)] 175))
  have HB1 : Hid (Below W.heap.size W W1) := by rw [← HW1.out]; exact (Below.refl _ _).alloc (Nat.le_refl _) _
  have X1 : Hid (W1.heap[W.heap.size]? = some (.cells #[.int .i64 (i : Int), .int .i64 (j : Int)] 175 (0, 0))) := by rw [← HW1.out]; exact bx_new _ _ _ rfl
  have HE1 := Lib.hid (hE.keep HB1.out)
  have HM1 := Lib.hid (hM.keep HB1.out)
  obtain ⟨cc, hlook, hcc⟩ := HM1.out.look (i := i) (j := j) (by omega) (by omega)
  have HCC := Lib.hid hcc
  obtain ⟨kk, HKK⟩ := nameIt (decide ((i, j) ∈ K))
  rw [HKK.out] at hlook
  have m0 := bx_cells1 HE1.out.mx
  obtain ⟨q0, q1⟩ := bx_cells2 X1.out
  simp only [lbW]
  clear hs ih hE hM hcc
  have eg : ∀ args w, (callFunc 98 args).run Try.prog w = .ok (.enter 98 args) w := fun _ _ => by kernel_rfl
  go_enter Try.func98, Try.ntmps98
  go_upto_region 2 with fail
  rw [HW1.out]
  cases kk with
  | true =>
    have hin : (i, j) ∈ K := by simpa using HKK.out
    have HCE : Hid (cc = f i j) := HCC.out hin
    clear hin HCC
    go_wp2_with fail
    go_ret
    exact ⟨K, by rw [← HCE.out]; rfl, HM1.out, fun p hp => .inl hp, grown_below HB1.out _⟩
  | false =>
    have HNI : Hid ((i, j) ∉ K) := by have h := HKK.out; show ¬ _; simpa using h
    obtain ⟨P1, HP1⟩ : ∃ P1 : Int, Hid (P1 = ((n - i : Nat) : Int) * c1) := ⟨_, rfl⟩
    obtain ⟨P0, HP0⟩ : ∃ P0 : Int, Hid (P0 = ((m - j : Nat) : Int) * c0) := ⟨_, rfl⟩
    have hp1 : ((n : Int) - (i : Int)) * c1 = P1 := by rw [HP1.out]; congr 1; omega
    have hp0 : ((m : Int) - (j : Int)) * c0 = P0 := by rw [HP0.out]; congr 1; omega
    have g1 : 0 ≤ P1 := by rw [HP1.out]; exact Int.mul_nonneg (by omega) (by omega)
    have g0 : 0 ≤ P0 := by rw [HP0.out]; exact Int.mul_nonneg (by omega) (by omega)
    have g1' : P1 ≤ 20000 := by
      have : ((n - i : Nat) : Int) * c1 ≤ 200 * 100 := Int.mul_le_mul (by omega) (by omega) (by omega) (by omega)
      rw [HP1.out]; omega
    have g0' : P0 ≤ 20000 := by
      have : ((m - j : Nat) : Int) * c0 ≤ 200 * 100 := Int.mul_le_mul (by omega) (by omega) (by omega) (by omega)
      rw [HP0.out]; omega
    have w0' := hwx
    have r0 := bx_cells1 (bx_keep hwx HB1.out)
    have r1 := bx_cells1 (bx_keep hvx HB1.out)
    obtain ⟨z0, z1, z2⟩ := bx_cells3 HE1.out.cx'
    obtain ⟨i1, HI1⟩ : ∃ i1 : Nat, Hid (i1 = i + 1) := ⟨_, rfl⟩
    obtain ⟨j1, HJ1⟩ : ∃ j1 : Nat, Hid (j1 = j + 1) := ⟨_, rfl⟩
    have hti : IntKind.i64.wrap (i1 : Int) = (i1 : Int) := IntWalk.i64_in _ (by have := HI1.out; omega)
    have htj : IntKind.i64.wrap (j1 : Int) = (j1 : Int) := IntWalk.i64_in _ (by have := HJ1.out; omega)
    have hti2 : (i : Int) + 1 = (i1 : Int) := by rw [HI1.out]; omega
    have htj2 : (j : Int) + 1 = (j1 : Int) := by rw [HJ1.out]; omega
    have hE10 := HDB.out i1 j
    have hE01 := HDB.out i j1
    have hE11 := HDB.out i1 j1
    obtain ⟨d10, HD10⟩ := nameIt (f i1 j)
    obtain ⟨d01, HD01⟩ := nameIt (f i j1)
    obtain ⟨d11, HD11⟩ := nameIt (f i1 j1)
    rw [HD10.out] at hE10
    rw [HD01.out] at hE01
    rw [HD11.out] at hE11
    have hXb := HDB.out i j
    obtain ⟨x, HX⟩ := nameIt (f i j)
    rw [HX.out] at hXb
    have hwf : (Lit.int .i64 (f i j)).wf = true := by
      rw [HX.out]; simp [Lit.wf, IntKind.min, IntKind.max, IntKind.signed, IntKind.bits]; omega
    have HWF := Lib.hid hwf
    have hkeyb : W.heap.size ≠ bm := by have := HM.out.lt; omega
    have HKB := Lib.hid hkeyb
    clear hwf hkeyb HCC w0' hwx hvx
    by_cases hA : i < n
    · have hA1 : (i : Int) < (n : Int) := by omega
      by_cases hB : j < m
      · have hB1 : (j : Int) < (m : Int) := by omega
        go_upto_region 6 with fail
        clear hlook m0 q0 q1 z0 z1 z2 r0 r1 hp1 hp0
        have HG1 : Hid (W.grownBy W1 (some bm)) := grown_below HB1.out _
        have HXK1 := X1
        have hwx1 := HE1.out.wx
        have hvx1 := HE1.out.vx
        rw [HN.out] at hwx1
        rw [HMm.out] at hvx1
        have r1a := bx_cells1 hwx1
        have r1b := bx_cells1 hvx1
        obtain ⟨z10, z11, z12⟩ := bx_cells3 HE1.out.cx'
        have o1 := bx_cells1 HE1.out.ox
        simp only [lbW] at o1
        clear hwx1 hvx1
        have HC1 : Hid (Calls Try.prog 98 #[.int .i64 (i1 : Int), .int .i64 (j : Int), .pointer (some ⟨mb, 0, none⟩), .pointer (some ⟨wb, 0, none⟩), .pointer (some ⟨cx, 0, none⟩), .pointer (some ⟨vb, 0, none⟩), .pointer (some ⟨ob, 0, none⟩)] W1.drew (OfPost bm f K i1 j W1.drew)) := (IH.out i1 j K W1.drew (by have := HS.out; have := HI1.out; have := HJ1.out; have := HN.out; have := HMm.out; omega) (by have := HI1.out; have := HN.out; omega) (by have := HJ1.out; have := HMm.out; omega) (HE1.out.keep (Below.refl _ _).drew) (HM1.out.keep (Below.refl _ _).drew))
        obtain ⟨e1, he1⟩ : ∃ e : Int, e = min (P1 + P0) (d10 + c1) := ⟨_, rfl⟩
        have hb1 : 0 ≤ e1 := by omega
        have hb1' : e1 ≤ 50000 := by omega
        have hmn1 : min (P1 + P0) (d10 + c1) = e1 := he1.symm
        have HEE1 := Lib.hid he1
        have hw1 : IntKind.i64.wrap (d10 + c1) = d10 + c1 := IntWalk.i64_in _ (by omega)
        clear he1
        go_upto_region 7 with fail
        go_region_held3 (fun w' => w'.cell? ⟨ob, 0, none⟩ = some (.func (.func 98) #[] #[.pointer (some ⟨mb, 0, none⟩), .pointer (some ⟨wb, 0, none⟩), .pointer (some ⟨cx, 0, none⟩), .pointer (some ⟨vb, 0, none⟩), .pointer (some ⟨ob, 0, none⟩)]) ∧ w'.cell? ⟨cx, 0 + 1, none⟩ = some (.int .i64 c1))
          (first | exact ⟨bx_cells1 (HE2.out.ox), (bx_cells3 HE2.out.cx').2.1⟩ | exact ⟨bx_cells1 (HE1.out.keep (Below.refl _ _).drew).ox, (bx_cells3 (HE1.out.keep (Below.refl _ _).drew).cx').2.1⟩ | fail)
          (first
            | ((with_reducible refine HC1.out.mono ?_); rintro e W2 ⟨K1, rfl, hm1, hk1, hg1⟩; rw [HD10.out]; have HM2 := Lib.hid hm1; have HK1 := Lib.hid hk1; have HE2 := Lib.hid ((HE1.out.keep (Below.refl _ _).drew).grown hg1); have HG2 : Hid (W.grownBy W2 (some bm)) := grown_trans (grown_trans HG1.out (grown_drew _ _)) hg1; have HXK2 := Lib.hid (bx_grown (w := W1.drew) HXK1.out hg1 HKB.out); clear hm1 hk1 hg1)
            | fail)
        clear r1a r1b z10 z11 z12 o1
        have hwx2 := HE2.out.wx
        have hvx2 := HE2.out.vx
        rw [HN.out] at hwx2
        rw [HMm.out] at hvx2
        have r2a := bx_cells1 hwx2
        have r2b := bx_cells1 hvx2
        obtain ⟨z20, z21, z22⟩ := bx_cells3 HE2.out.cx'
        have o2 := bx_cells1 HE2.out.ox
        simp only [lbW] at o2
        clear hwx2 hvx2
        have HC2 : Hid (Calls Try.prog 98 #[.int .i64 (i : Int), .int .i64 (j1 : Int), .pointer (some ⟨mb, 0, none⟩), .pointer (some ⟨wb, 0, none⟩), .pointer (some ⟨cx, 0, none⟩), .pointer (some ⟨vb, 0, none⟩), .pointer (some ⟨ob, 0, none⟩)] W2.drew (OfPost bm f K1 i j1 W2.drew)) := (IH.out i j1 K1 W2.drew (by have := HS.out; have := HI1.out; have := HJ1.out; have := HN.out; have := HMm.out; omega) (by have := HI1.out; have := HN.out; omega) (by have := HJ1.out; have := HMm.out; omega) (HE2.out.keep (Below.refl _ _).drew) (HM2.out.keep (Below.refl _ _).drew))
        obtain ⟨e2, he2⟩ : ∃ e : Int, e = min (e1) (d01 + c0) := ⟨_, rfl⟩
        have hb2 : 0 ≤ e2 := by omega
        have hb2' : e2 ≤ 50000 := by omega
        have hmn2 : min (e1) (d01 + c0) = e2 := he2.symm
        have HEE2 := Lib.hid he2
        have hw2 : IntKind.i64.wrap (d01 + c0) = d01 + c0 := IntWalk.i64_in _ (by omega)
        clear he2
        go_upto_region 9 with fail
        go_region_held3 (fun w' => w'.cell? ⟨ob, 0, none⟩ = some (.func (.func 98) #[] #[.pointer (some ⟨mb, 0, none⟩), .pointer (some ⟨wb, 0, none⟩), .pointer (some ⟨cx, 0, none⟩), .pointer (some ⟨vb, 0, none⟩), .pointer (some ⟨ob, 0, none⟩)]) ∧ w'.cell? ⟨cx, 0, none⟩ = some (.int .i64 c0))
          (first | exact ⟨bx_cells1 (HE3.out.ox), (bx_cells3 HE3.out.cx').1⟩ | exact ⟨bx_cells1 (HE2.out.keep (Below.refl _ _).drew).ox, (bx_cells3 (HE2.out.keep (Below.refl _ _).drew).cx').1⟩ | fail)
          (first
            | ((with_reducible refine HC2.out.mono ?_); rintro e W3 ⟨K2, rfl, hm2, hk2, hg2⟩; rw [HD01.out]; have HM3 := Lib.hid hm2; have HK2 := Lib.hid hk2; have HE3 := Lib.hid ((HE2.out.keep (Below.refl _ _).drew).grown hg2); have HG3 : Hid (W.grownBy W3 (some bm)) := grown_trans (grown_trans HG2.out (grown_drew _ _)) hg2; have HXK3 := Lib.hid (bx_grown (w := W2.drew) HXK2.out hg2 HKB.out); clear hm2 hk2 hg2)
            | fail)
        clear r2a r2b z20 z21 z22 o2
        have hwx3 := HE3.out.wx
        have hvx3 := HE3.out.vx
        rw [HN.out] at hwx3
        rw [HMm.out] at hvx3
        have r3a := bx_cells1 hwx3
        have r3b := bx_cells1 hvx3
        obtain ⟨z30, z31, z32⟩ := bx_cells3 HE3.out.cx'
        have o3 := bx_cells1 HE3.out.ox
        simp only [lbW] at o3
        clear hwx3 hvx3
        have hil : i < l.length := by rw [HN.out]; omega
        have hjr : j < r.length := by rw [HMm.out]; omega
        have hrl := sl_rd HE3.out.rl
        have hrr := sl_rd HE3.out.rr
        rw [HN.out] at hrl
        rw [HMm.out] at hrr
        obtain ⟨bl, ol, hal, hcl⟩ := hrl.at (k := i) (by omega)
        obtain ⟨br, or', har, hcr⟩ := hrr.at (k := j) (by omega)
        have ea := hcl i (by rw [ints_len]; exact hil)
        have eb := hcr j (by rw [ints_len]; exact hjr)
        rw [ints_get] at ea eb
        obtain ⟨p, HPP⟩ := nameIt (l[i]'hil)
        obtain ⟨q, HQQ⟩ := nameIt (r[j]'hjr)
        rw [HPP.out] at ea
        rw [HQQ.out] at eb
        obtain ⟨cb', HCB⟩ := nameIt (p == q)
        have hcb := HCB.out
        have hi2 : (i : Int) < (n : Int) := by omega
        have hj2 : (j : Int) < (m : Int) := by omega
        have hi0 : (0 : Int) ≤ (i : Int) := by omega
        have hj0 : (0 : Int) ≤ (j : Int) := by omega
        have hxe := HV3.out hil hjr
        rw [HX.out, HN.out, HMm.out, ← HP1.out, ← HP0.out, ← HI1.out, ← HJ1.out, HD10.out, HD01.out, HD11.out, HPP.out, HQQ.out] at hxe
        have HXE := Lib.hid hxe
        subst hal har
        clear hcl hcr hrl hrr hxe
        go_upto_region 12 with fail
        go_cut [89] (fun tt wx => tt = .bool cb' ∧ Hid (Below W3.heap.size W3 wx))
        case first =>
          go_quiet (fail)
          go_wp2_with fail
          go_meet
          exact ⟨rfl, below_drewN _ _⟩
        case rest =>
          obtain ⟨rfl, HBC⟩ := hcut
          have HE4 := Lib.hid (HE3.out.keep HBC.out)
          have HM4' := Lib.hid (HM3.out.keep HBC.out)
          have HG4' : Hid (W.grownBy wc (some bm)) := grown_trans HG3.out (grown_below HBC.out _)
          have HXK4' := Lib.hid (bx_keep HXK3.out HBC.out)
          have o4 := bx_cells1 HE4.out.ox
          simp only [lbW] at o4
          clear r3a r3b z30 z31 z32 o3 ea eb
          have HC3 : Hid (Calls Try.prog 98 #[.int .i64 (i1 : Int), .int .i64 (j1 : Int), .pointer (some ⟨mb, 0, none⟩), .pointer (some ⟨wb, 0, none⟩), .pointer (some ⟨cx, 0, none⟩), .pointer (some ⟨vb, 0, none⟩), .pointer (some ⟨ob, 0, none⟩)] wc (OfPost bm f K2 i1 j1 wc)) := (IH.out i1 j1 K2 wc (by have := HS.out; have := HI1.out; have := HJ1.out; have := HN.out; have := HMm.out; omega) (by have := HI1.out; have := HN.out; omega) (by have := HJ1.out; have := HMm.out; omega) HE4.out HM4'.out)
          cases cb' with
          | true =>
            have hxe := HXE.out
            rw [if_pos (by simpa using HCB.out)] at hxe
            obtain ⟨e3, he3⟩ : ∃ e : Int, e = min (e2) (d11) := ⟨_, rfl⟩
            have hb3 : 0 ≤ e3 := by omega
            have hb3' : e3 ≤ 50000 := by omega
            have hmn3 : min (e2) (d11) = e3 := he3.symm
            have hxe2 : x = e3 := by have a1 := HEE1.out; have a2 := HEE2.out; omega
            have HXX := Lib.hid hxe2
            clear he3 hxe hxe2
            go_wp2_with fail
            refine HC3.out.mono ?_
            rintro e W4 ⟨K3, rfl, hm3, hk3, hg3⟩
            rw [HD11.out]
            have HM4 := Lib.hid hm3
            have HK3 := Lib.hid hk3
            have HE5 := Lib.hid (HE4.out.grown hg3)
            have HG4 : Hid (W.grownBy W4 (some bm)) := grown_trans HG4'.out hg3
            have HXK4 := Lib.hid (bx_grown HXK4'.out hg3 HKB.out)
            clear HE4
            have HE4 := HE5
            clear hm3 hk3 hg3 o4
            obtain rfl : x = e3 := HXX.out
            have hnk : (i, j) ∉ K3 := by
              intro h
              rcases HK3.out _ h with h | h
              rotate_left
              · have := HI1.out; have := HJ1.out; simp only at h; omega
              rcases HK2.out _ h with h | h
              rotate_left
              · have := HI1.out; have := HJ1.out; simp only at h; omega
              rcases HK1.out _ h with h | h
              rotate_left
              · have := HI1.out; have := HJ1.out; simp only at h; omega
              exact HNI.out h
            obtain ⟨wz, hst, hmz, hgz⟩ := HM4.out.store (i := i) (j := j) (by omega) (by omega) hnk HWF.out
            rw [HX.out] at hst
            have mm := bx_cells1 HE4.out.mx
            obtain ⟨qq0, qq1⟩ := bx_cells2 HXK4.out
            have HMZ := Lib.hid hmz
            have HGZ : Hid (W.grownBy wz (some bm)) := grown_trans HG4.out hgz
            have HKZ : Hid (∀ p ∈ (i, j) :: K3, p ∈ K ∨ i + j ≤ p.1 + p.2) := by
              intro p hp
              rcases List.mem_cons.1 hp with rfl | hp
              · exact .inr (Nat.le_refl _)
              rcases HK3.out _ hp with hp | hp
              rotate_left
              · exact .inr (by have := HI1.out; have := HJ1.out; omega)
              rcases HK2.out _ hp with hp | hp
              rotate_left
              · exact .inr (by have := HI1.out; have := HJ1.out; omega)
              rcases HK1.out _ hp with hp | hp
              rotate_left
              · exact .inr (by have := HI1.out; have := HJ1.out; omega)
              exact .inl hp
            clear hnk hmz hgz
            go_wp2_with fail
            go_ret
            exact ⟨(i, j) :: K3, by rw [HX.out]; rfl, HMZ.out, HKZ.out, HGZ.out⟩
          | false =>
            have hxe := HXE.out
            rw [if_neg (by simpa using HCB.out)] at hxe
            obtain ⟨e3, he3⟩ : ∃ e : Int, e = min (e2) (d11 + c2) := ⟨_, rfl⟩
            have hb3 : 0 ≤ e3 := by omega
            have hb3' : e3 ≤ 50000 := by omega
            have hmn3 : min (e2) (d11 + c2) = e3 := he3.symm
            have hxe2 : x = e3 := by have a1 := HEE1.out; have a2 := HEE2.out; omega
            have HXX := Lib.hid hxe2
            clear he3 hxe hxe2
            go_wp2_with fail
            refine HC3.out.mono ?_
            rintro e W4 ⟨K3, rfl, hm3, hk3, hg3⟩
            rw [HD11.out]
            have HM4 := Lib.hid hm3
            have HK3 := Lib.hid hk3
            have HE5 := Lib.hid (HE4.out.grown hg3)
            have HG4 : Hid (W.grownBy W4 (some bm)) := grown_trans HG4'.out hg3
            have HXK4 := Lib.hid (bx_grown HXK4'.out hg3 HKB.out)
            clear HE4
            have HE4 := HE5
            clear hm3 hk3 hg3 o4
            obtain rfl : x = e3 := HXX.out
            have hnk : (i, j) ∉ K3 := by
              intro h
              rcases HK3.out _ h with h | h
              rotate_left
              · have := HI1.out; have := HJ1.out; simp only at h; omega
              rcases HK2.out _ h with h | h
              rotate_left
              · have := HI1.out; have := HJ1.out; simp only at h; omega
              rcases HK1.out _ h with h | h
              rotate_left
              · have := HI1.out; have := HJ1.out; simp only at h; omega
              exact HNI.out h
            obtain ⟨wz, hst, hmz, hgz⟩ := HM4.out.store (i := i) (j := j) (by omega) (by omega) hnk HWF.out
            rw [HX.out] at hst
            have mm := bx_cells1 HE4.out.mx
            obtain ⟨qq0, qq1⟩ := bx_cells2 HXK4.out
            have HMZ := Lib.hid hmz
            have HGZ : Hid (W.grownBy wz (some bm)) := grown_trans HG4.out hgz
            have HKZ : Hid (∀ p ∈ (i, j) :: K3, p ∈ K ∨ i + j ≤ p.1 + p.2) := by
              intro p hp
              rcases List.mem_cons.1 hp with rfl | hp
              · exact .inr (Nat.le_refl _)
              rcases HK3.out _ hp with hp | hp
              rotate_left
              · exact .inr (by have := HI1.out; have := HJ1.out; omega)
              rcases HK2.out _ hp with hp | hp
              rotate_left
              · exact .inr (by have := HI1.out; have := HJ1.out; omega)
              rcases HK1.out _ hp with hp | hp
              rotate_left
              · exact .inr (by have := HI1.out; have := HJ1.out; omega)
              exact .inl hp
            clear hnk hmz hgz
            go_wp2_with fail
            go_ret
            exact ⟨(i, j) :: K3, by rw [HX.out]; rfl, HMZ.out, HKZ.out, HGZ.out⟩
      · have hB1 : ¬ (j : Int) < (m : Int) := by omega
        go_upto_region 6 with fail
        clear hlook m0 q0 q1 z0 z1 z2 r0 r1 hp1 hp0
        have HG1 : Hid (W.grownBy W1 (some bm)) := grown_below HB1.out _
        have HXK1 := X1
        have hwx1 := HE1.out.wx
        have hvx1 := HE1.out.vx
        rw [HN.out] at hwx1
        rw [HMm.out] at hvx1
        have r1a := bx_cells1 hwx1
        have r1b := bx_cells1 hvx1
        obtain ⟨z10, z11, z12⟩ := bx_cells3 HE1.out.cx'
        have o1 := bx_cells1 HE1.out.ox
        simp only [lbW] at o1
        clear hwx1 hvx1
        have HC1 : Hid (Calls Try.prog 98 #[.int .i64 (i1 : Int), .int .i64 (j : Int), .pointer (some ⟨mb, 0, none⟩), .pointer (some ⟨wb, 0, none⟩), .pointer (some ⟨cx, 0, none⟩), .pointer (some ⟨vb, 0, none⟩), .pointer (some ⟨ob, 0, none⟩)] W1.drew (OfPost bm f K i1 j W1.drew)) := (IH.out i1 j K W1.drew (by have := HS.out; have := HI1.out; have := HJ1.out; have := HN.out; have := HMm.out; omega) (by have := HI1.out; have := HN.out; omega) (by have := HJ1.out; have := HMm.out; omega) (HE1.out.keep (Below.refl _ _).drew) (HM1.out.keep (Below.refl _ _).drew))
        obtain ⟨e1, he1⟩ : ∃ e : Int, e = min (P1 + P0) (d10 + c1) := ⟨_, rfl⟩
        have hb1 : 0 ≤ e1 := by omega
        have hb1' : e1 ≤ 50000 := by omega
        have hmn1 : min (P1 + P0) (d10 + c1) = e1 := he1.symm
        have HEE1 := Lib.hid he1
        have hw1 : IntKind.i64.wrap (d10 + c1) = d10 + c1 := IntWalk.i64_in _ (by omega)
        clear he1
        go_upto_region 7 with fail
        go_region_held3 (fun w' => w'.cell? ⟨ob, 0, none⟩ = some (.func (.func 98) #[] #[.pointer (some ⟨mb, 0, none⟩), .pointer (some ⟨wb, 0, none⟩), .pointer (some ⟨cx, 0, none⟩), .pointer (some ⟨vb, 0, none⟩), .pointer (some ⟨ob, 0, none⟩)]) ∧ w'.cell? ⟨cx, 0 + 1, none⟩ = some (.int .i64 c1))
          (first | exact ⟨bx_cells1 (HE2.out.ox), (bx_cells3 HE2.out.cx').2.1⟩ | exact ⟨bx_cells1 (HE1.out.keep (Below.refl _ _).drew).ox, (bx_cells3 (HE1.out.keep (Below.refl _ _).drew).cx').2.1⟩ | fail)
          (first
            | ((with_reducible refine HC1.out.mono ?_); rintro e W2 ⟨K1, rfl, hm1, hk1, hg1⟩; rw [HD10.out]; have HM2 := Lib.hid hm1; have HK1 := Lib.hid hk1; have HE2 := Lib.hid ((HE1.out.keep (Below.refl _ _).drew).grown hg1); have HG2 : Hid (W.grownBy W2 (some bm)) := grown_trans (grown_trans HG1.out (grown_drew _ _)) hg1; have HXK2 := Lib.hid (bx_grown (w := W1.drew) HXK1.out hg1 HKB.out); clear hm1 hk1 hg1)
            | fail)
        clear r1a r1b z10 z11 z12 o1
        have hwx2 := HE2.out.wx
        have hvx2 := HE2.out.vx
        rw [HN.out] at hwx2
        rw [HMm.out] at hvx2
        have r2a := bx_cells1 hwx2
        have r2b := bx_cells1 hvx2
        obtain ⟨z20, z21, z22⟩ := bx_cells3 HE2.out.cx'
        have o2 := bx_cells1 HE2.out.ox
        simp only [lbW] at o2
        clear hwx2 hvx2
        have hz0 := HP0.out
        rw [show m - j = 0 by omega] at hz0
        simp at hz0
        have hxe := HV1.out (by rw [HN.out]; omega) (by rw [HMm.out]; omega)
        rw [HX.out, HN.out, ← HP1.out, ← HI1.out, HD10.out] at hxe
        obtain rfl : x = e1 := by rw [hxe, HEE1.out, hz0]; simp
        clear hxe hz0
        have hnk : (i, j) ∉ K1 := by
          intro h
          rcases HK1.out _ h with h | h
          rotate_left
          · have := HI1.out; have := HJ1.out; simp only at h; omega
          exact HNI.out h
        obtain ⟨wz, hst, hmz, hgz⟩ := HM2.out.store (i := i) (j := j) (by omega) (by omega) hnk HWF.out
        rw [HX.out] at hst
        have mm := bx_cells1 HE2.out.mx
        obtain ⟨qq0, qq1⟩ := bx_cells2 HXK2.out
        have HMZ := Lib.hid hmz
        have HGZ : Hid (W.grownBy wz (some bm)) := grown_trans HG2.out hgz
        have HKZ : Hid (∀ p ∈ (i, j) :: K1, p ∈ K ∨ i + j ≤ p.1 + p.2) := by
          intro p hp
          rcases List.mem_cons.1 hp with rfl | hp
          · exact .inr (Nat.le_refl _)
          rcases HK1.out _ hp with hp | hp
          rotate_left
          · exact .inr (by have := HI1.out; have := HJ1.out; omega)
          exact .inl hp
        clear hnk hmz hgz
        go_wp2_with fail
        go_ret
        exact ⟨(i, j) :: K1, by rw [HX.out]; rfl, HMZ.out, HKZ.out, HGZ.out⟩
    · have hA1 : ¬ (i : Int) < (n : Int) := by omega
      by_cases hB : j < m
      · have hB1 : (j : Int) < (m : Int) := by omega
        go_upto_region 6 with fail
        clear hlook m0 q0 q1 z0 z1 z2 r0 r1 hp1 hp0
        have HG1 : Hid (W.grownBy W1 (some bm)) := grown_below HB1.out _
        have HXK1 := X1
        have hwx1 := HE1.out.wx
        have hvx1 := HE1.out.vx
        rw [HN.out] at hwx1
        rw [HMm.out] at hvx1
        have r1a := bx_cells1 hwx1
        have r1b := bx_cells1 hvx1
        obtain ⟨z10, z11, z12⟩ := bx_cells3 HE1.out.cx'
        have o1 := bx_cells1 HE1.out.ox
        simp only [lbW] at o1
        clear hwx1 hvx1
        have HC1 : Hid (Calls Try.prog 98 #[.int .i64 (i : Int), .int .i64 (j1 : Int), .pointer (some ⟨mb, 0, none⟩), .pointer (some ⟨wb, 0, none⟩), .pointer (some ⟨cx, 0, none⟩), .pointer (some ⟨vb, 0, none⟩), .pointer (some ⟨ob, 0, none⟩)] W1.drew (OfPost bm f K i j1 W1.drew)) := (IH.out i j1 K W1.drew (by have := HS.out; have := HI1.out; have := HJ1.out; have := HN.out; have := HMm.out; omega) (by have := HI1.out; have := HN.out; omega) (by have := HJ1.out; have := HMm.out; omega) (HE1.out.keep (Below.refl _ _).drew) (HM1.out.keep (Below.refl _ _).drew))
        obtain ⟨e1, he1⟩ : ∃ e : Int, e = min (P1 + P0) (d01 + c0) := ⟨_, rfl⟩
        have hb1 : 0 ≤ e1 := by omega
        have hb1' : e1 ≤ 50000 := by omega
        have hmn1 : min (P1 + P0) (d01 + c0) = e1 := he1.symm
        have HEE1 := Lib.hid he1
        have hw1 : IntKind.i64.wrap (d01 + c0) = d01 + c0 := IntWalk.i64_in _ (by omega)
        clear he1
        go_upto_region 9 with fail
        go_region_held3 (fun w' => w'.cell? ⟨ob, 0, none⟩ = some (.func (.func 98) #[] #[.pointer (some ⟨mb, 0, none⟩), .pointer (some ⟨wb, 0, none⟩), .pointer (some ⟨cx, 0, none⟩), .pointer (some ⟨vb, 0, none⟩), .pointer (some ⟨ob, 0, none⟩)]) ∧ w'.cell? ⟨cx, 0, none⟩ = some (.int .i64 c0))
          (first | exact ⟨bx_cells1 (HE2.out.ox), (bx_cells3 HE2.out.cx').1⟩ | exact ⟨bx_cells1 (HE1.out.keep (Below.refl _ _).drew).ox, (bx_cells3 (HE1.out.keep (Below.refl _ _).drew).cx').1⟩ | fail)
          (first
            | ((with_reducible refine HC1.out.mono ?_); rintro e W2 ⟨K1, rfl, hm1, hk1, hg1⟩; rw [HD01.out]; have HM2 := Lib.hid hm1; have HK1 := Lib.hid hk1; have HE2 := Lib.hid ((HE1.out.keep (Below.refl _ _).drew).grown hg1); have HG2 : Hid (W.grownBy W2 (some bm)) := grown_trans (grown_trans HG1.out (grown_drew _ _)) hg1; have HXK2 := Lib.hid (bx_grown (w := W1.drew) HXK1.out hg1 HKB.out); clear hm1 hk1 hg1)
            | fail)
        clear r1a r1b z10 z11 z12 o1
        have hwx2 := HE2.out.wx
        have hvx2 := HE2.out.vx
        rw [HN.out] at hwx2
        rw [HMm.out] at hvx2
        have r2a := bx_cells1 hwx2
        have r2b := bx_cells1 hvx2
        obtain ⟨z20, z21, z22⟩ := bx_cells3 HE2.out.cx'
        have o2 := bx_cells1 HE2.out.ox
        simp only [lbW] at o2
        clear hwx2 hvx2
        have hz0 := HP1.out
        rw [show n - i = 0 by omega] at hz0
        simp at hz0
        have hxe := HV2.out (by rw [HN.out]; omega) (by rw [HMm.out]; omega)
        rw [HX.out, HMm.out, ← HP0.out, ← HJ1.out, HD01.out] at hxe
        obtain rfl : x = e1 := by rw [hxe, HEE1.out, hz0]; simp
        clear hxe hz0
        have hnk : (i, j) ∉ K1 := by
          intro h
          rcases HK1.out _ h with h | h
          rotate_left
          · have := HI1.out; have := HJ1.out; simp only at h; omega
          exact HNI.out h
        obtain ⟨wz, hst, hmz, hgz⟩ := HM2.out.store (i := i) (j := j) (by omega) (by omega) hnk HWF.out
        rw [HX.out] at hst
        have mm := bx_cells1 HE2.out.mx
        obtain ⟨qq0, qq1⟩ := bx_cells2 HXK2.out
        have HMZ := Lib.hid hmz
        have HGZ : Hid (W.grownBy wz (some bm)) := grown_trans HG2.out hgz
        have HKZ : Hid (∀ p ∈ (i, j) :: K1, p ∈ K ∨ i + j ≤ p.1 + p.2) := by
          intro p hp
          rcases List.mem_cons.1 hp with rfl | hp
          · exact .inr (Nat.le_refl _)
          rcases HK1.out _ hp with hp | hp
          rotate_left
          · exact .inr (by have := HI1.out; have := HJ1.out; omega)
          exact .inl hp
        clear hnk hmz hgz
        go_wp2_with fail
        go_ret
        exact ⟨(i, j) :: K1, by rw [HX.out]; rfl, HMZ.out, HKZ.out, HGZ.out⟩
      · have hB1 : ¬ (j : Int) < (m : Int) := by omega
        have hz1 := HP1.out
        rw [show n - i = 0 by omega] at hz1
        have hz0 := HP0.out
        rw [show m - j = 0 by omega] at hz0
        simp at hz1 hz0
        subst hz1 hz0
        have hxz := HV0.out (by rw [HN.out]; omega) (by rw [HMm.out]; omega)
        rw [HX.out] at hxz
        subst hxz
        go_upto_region 6 with fail
        clear hlook m0 q0 q1 z0 z1 z2 r0 r1 hp1 hp0
        have HG1 : Hid (W.grownBy W1 (some bm)) := grown_below HB1.out _
        have HXK1 := X1
        have hwx1 := HE1.out.wx
        have hvx1 := HE1.out.vx
        rw [HN.out] at hwx1
        rw [HMm.out] at hvx1
        have r1a := bx_cells1 hwx1
        have r1b := bx_cells1 hvx1
        obtain ⟨z10, z11, z12⟩ := bx_cells3 HE1.out.cx'
        have o1 := bx_cells1 HE1.out.ox
        simp only [lbW] at o1
        clear hwx1 hvx1
        skip
        have hnk : (i, j) ∉ K := by
          intro h
          exact HNI.out h
        obtain ⟨wz, hst, hmz, hgz⟩ := HM1.out.store (i := i) (j := j) (by omega) (by omega) hnk HWF.out
        rw [HX.out] at hst
        have mm := bx_cells1 HE1.out.mx
        obtain ⟨qq0, qq1⟩ := bx_cells2 HXK1.out
        have HMZ := Lib.hid hmz
        have HGZ : Hid (W.grownBy wz (some bm)) := grown_trans HG1.out hgz
        have HKZ : Hid (∀ p ∈ (i, j) :: K, p ∈ K ∨ i + j ≤ p.1 + p.2) := by
          intro p hp
          rcases List.mem_cons.1 hp with rfl | hp
          · exact .inr (Nat.le_refl _)
          exact .inl hp
        clear hnk hmz hgz
        go_wp2_with fail
        go_ret
        exact ⟨(i, j) :: K, by rw [HX.out]; rfl, HMZ.out, HKZ.out, HGZ.out⟩
end Wg
end Go.Proofs.Ytjehmleckcmilaa
