/- parlref5.heights in memory. copy between slices of elements of several cells, into a block that is known whole. slices.Repeat of one number, few times. useful.lengths: the least lengths. useful.words. Rows of words of holes in memory, written in place. The table of hole.fill in memory; (*filler).symbol. (*filler).rule of hole. The table of hole.fill while it is made. hole.fill of valid arguments. useful.Least and useful.Lengths, said by the values of Shortest. useful.Ends. slices.Equal over equal rows of truth values; Index, Contains. -/
import Derived.Test.YtjpmebppdcclbaaJRepairPrefixRow12
import Derived.Test.YtjpmebppdcclbaaJRepairPrefixRow4
import Derived.Test.YtjpmebppdcclbaaJRepairPrefixRow1
import Derived.Deep.LoopGhost
import Derived.Deep.DeepCutAuto
import Derived.Laws.CopyRow
import Derived.Lib.Overlaps
import Derived.Test.YtjpmebppdcclbaaJRepairPrefixRow11
import Derived.StillTailTactics
import Derived.Test.YtjpmebppdcclbaaJRepairPrefixRow6
import Derived.Deep.CutBlock
import Derived.Deep.CutRange
import Derived.Test.YtjpmebppdcclbaaJRepairPrefixRow2
import Derived.Test.YtjpmebppdcclbaaJRepairPrefixRow10
import Derived.Test.YtjpmebppdcclbaaJRepairPrefixRow7
namespace Go.Proofs.Ytjpmebppdcclbaa
open Go.RowKit
namespace Cs
section
variable {P : Program} {ops : Array Oper} {md : Region.Mode} {Q : Exit → Act → World → Prop} {S : World → Prop} {n : Nat}
end
structure Hs where
  hb : Nat
  tm : Nat
  ta : Nat
  tj : Nat
  rm : Nat → Nat
  ra : Nat → Nat
  rj : Nat → Nat
  lo : Nat
  hi : Nat
structure RX (W : World) (sx : Nat) (SB : Array Value) (p1 p2 p3 g1 g2 g3 m : Nat) (V1 : Nat → Int) (V2 V3 : Nat → Bool) (U1 : Nat → Int) (U2 U3 : Nat → Bool) (wr : World) : Prop where
  bel : Below W.heap.size W wr
  sbox : wr.heap[sx]? = some (.cells SB 44 (0, 0))
  pr : R3 W.heap.size p1 p2 p3 m V1 V2 V3 wr
  gr : R3 (sx + 1) g1 g2 g3 m U1 U2 U3 wr
  ps : p1 < sx ∧ p2 < sx ∧ p3 < sx ∧ W.heap.size ≤ sx
section
variable {W : World} {sx : Nat} {SB : Array Value} {p1 p2 p3 g1 g2 g3 m : Nat} {V1 : Nat → Int} {V2 V3 : Nat → Bool} {U1 U1' : Nat → Int} {U2 U3 U2' U3' : Nat → Bool} {wr w' : World}
theorem RX.eq (h : RX W sx SB p1 p2 p3 g1 g2 g3 m V1 V2 V3 U1 U2 U3 wr) (h1 : ∀ k, k < m → U1 k = U1' k) (h2 : ∀ k, k < m → U2 k = U2' k) (h3 : ∀ k, k < m → U3 k = U3' k) : RX W sx SB p1 p2 p3 g1 g2 g3 m V1 V2 V3 U1' U2' U3' wr := ⟨h.bel, h.sbox, h.pr, h.gr.eq h1 h2 h3, h.ps⟩
theorem RX.keep (h : RX W sx SB p1 p2 p3 g1 g2 g3 m V1 V2 V3 U1 U2 U3 wr) (hb : Below wr.heap.size wr w') : RX W sx SB p1 p2 p3 g1 g2 g3 m V1 V2 V3 U1 U2 U3 w' := ⟨h.bel.trans (hb.mono h.bel.size), bx_keep h.sbox hb, h.pr.keep hb, h.gr.keep hb, h.ps⟩
end
def u1 (c : Nat → Nat → Nat) (l : List Sym) (s : Sym) (X Y z : Nat) : Int := cap9 (ps (oN c) l s X Y z)
def u2 (c : Nat → Nat → Nat) (l : List Sym) (s : Sym) (X Y z : Nat) : Bool := decide (0 < ps (oN c) l s X Y z)
def u3 (c c' : Nat → Nat → Nat) (l : List Sym) (s : Sym) (X Y z : Nat) : Bool := decide (ps (oN c') l s X Y z < ps (oN c) l s X Y z)
def v1 (c : Nat → Nat → Nat) (l : List Sym) (z : Nat) : Int := cap9 (cN (oN c) l z)
def v2 (c : Nat → Nat → Nat) (l : List Sym) (z : Nat) : Bool := decide (0 < cN (oN c) l z)
def v3 (c c' : Nat → Nat → Nat) (l : List Sym) (z : Nat) : Bool := decide (cN (oN c') l z < cN (oN c) l z)
end Cs
end Go.Proofs.Ytjpmebppdcclbaa
namespace Go.Proofs.Ytjpmebppdcclbaa
open Go.RowKit
theorem wp_copyK {P : Program} (w : World) {o : Oper} {a : Act} {K : Act → World → Prop} {Q : Exit → Act → World → Prop} (d s : Operand) (t t' : TypeId)
    (ho : o.op = .call { callee := .builtin .copy, args := #[d, s], argTypes := #[t, t'] }) {v u v' : Value} {w' : World} (hd : a.eval d = v) (hs : a.eval s = u)
    (hr : (Builtin.copy_ #[t, t'] o.type #[v, u]).run P w = .ok v' w') (h : K (a.put o.dst v') w') : o.wp P a w K Q := by
  unfold Oper.wp execOp
  simp only [ho, resolve, invoke, builtin, Sem.run_bind, Sem.run_pure, Result.andThen_ok, List.map_toArray, List.map_cons, List.map_nil, hd, hs, hr]
  exact h
theorem wpl_copyK {P : Program} (w : World) {ops : Array Oper} {rest : List Oper} {o : Oper} {a : Act} {Q : Exit → Act → World → Prop} (hgd : o.guard = none) (d s : Operand) (t t' : TypeId)
    (ho : o.op = .call { callee := .builtin .copy, args := #[d, s], argTypes := #[t, t'] }) {v u v' : Value} {w' : World} (hd : a.eval d = v) (hs : a.eval s = u)
    (hr : (Builtin.copy_ #[t, t'] o.type #[v, u]).run P w = .ok v' w') (h : wpList P ops Q rest (a.put o.dst v') w') : wpList P ops Q (o :: rest) a w :=
  wpList_plain hgd fun _ hK => wp_copyK w d s t t' ho hd hs hr (hK _ _ h)
theorem step_copyK {P : Program} {ops : Array Oper} {o : Oper} {a : Act} {w : World} {K : Act → World → Prop} {Q : Exit → Act → World → Prop} {E : Prop} (hg : o.guard = none) (d x : Operand) (dT sT : TypeId)
    (hop : o.op = .call { callee := .builtin .copy, args := #[d, x], argTypes := #[dT, sT] }) {v u v' : Value} {w' : World} (hd : a.eval d = v) (hx : a.eval x = u)
    (hr : (Builtin.copy_ #[dT, sT] o.type #[v, u]).run P w = .ok v' w') (hK : K (a.put o.dst v') w') : if Region.wanted o (yielded ops a.tmps) = true then Oper.wp P o a w K Q else E := by
  have hw : Region.wanted o (yielded ops a.tmps) = true := by simp [Region.wanted, hg]
  rw [if_pos hw]
  exact wp_copyK w d x dT sT hop hd hx hr hK
theorem setRow_block (w : World) (g : Nat) (cs : Array Value) {k : Nat} (h : k ≠ g) : (w.setRow g cs).heap[k]? = w.heap[k]? := by
  unfold World.setRow
  simp [Array.getElem?_modify, show ¬ g = k from fun e => h e.symm]
theorem grown_setRow (w : World) (g : Nat) (cs : Array Value) : w.grownBy (w.setRow g cs) (some g) :=
  ⟨rfl, rfl, rfl, by simp [World.setRow], fun k _ hn => setRow_block w g cs (fun e => hn (by rw [e]))⟩
end Go.Proofs.Ytjpmebppdcclbaa
namespace Go.Proofs.Ytjpmebppdcclbaa
open Go.RowKit
namespace Cs
set_option maxHeartbeats 4000000 in
theorem mul64E (N : Nat) (h1 : 1 ≤ N) (h2 : N ≤ 16) (W : World) : Calls Try.prog 119 #[.int .u64 1, .int .u64 (N : Int)] W fun e w' => e = .returned (.tuple #[.int .u64 0, .int .u64 (N : Int)]) ∧ W = w' := by
  have h : N = 1 ∨ N = 2 ∨ N = 3 ∨ N = 4 ∨ N = 5 ∨ N = 6 ∨ N = 7 ∨ N = 8 ∨ N = 9 ∨ N = 10 ∨ N = 11 ∨ N = 12 ∨ N = 13 ∨ N = 14 ∨ N = 15 ∨ N = 16 := by omega
  rcases h with rfl | rfl | rfl | rfl | rfl | rfl | rfl | rfl | rfl | rfl | rfl | rfl | rfl | rfl | rfl | rfl <;> (
    go_enter Try.func119, Try.ntmps119
    go_wp2_with fail
    refine bodyPost_ret (results_tmp2 Try.results119 _ _ _) rfl ?_
    exact ⟨rfl, rfl⟩)
set_option maxHeartbeats 4000000 in
theorem mulE (N : Nat) (h1 : 1 ≤ N) (h2 : N ≤ 16) (W : World) : Calls Try.prog 117 #[.int .u64 1, .int .u64 (N : Int)] W fun e w' => e = .returned (.tuple #[.int .u64 0, .int .u64 (N : Int)]) ∧ W = w' := by
  have HM := Lib.hid (mul64E N h1 h2)
  go_enter Try.func117, Try.ntmps117
  go_wp2_with fail
  with_reducible refine (HM.out _).mono ?_
  rintro e w1 ⟨rfl, rfl⟩
  go_wp2_with fail
  refine bodyPost_ret (results_tmp2 Try.results117 _ _ _) rfl ?_
  exact ⟨rfl, rfl⟩
theorem vrow_cells {e : TypeId} {p m : Nat} {x : Value} : ∀ (k o : Nat) (A : Nat → Value) (w : World), o + k ≤ m → Vrow e p m A w → Vrow e p m (fun j => if o ≤ j ∧ j < o + k then x else A j) (w.setCells p o (List.replicate k x))
  | 0, o, A, w, _, h => h.eq (fun j _ => by rw [if_neg (by omega)])
  | k + 1, o, A, w, hk, h => by
    rw [List.replicate_succ]
    show Vrow e p m _ ((w.setCell ⟨p, o, none⟩ x).setCells p (o + 1) (List.replicate k x))
    have h1 := h.set (A' := fun j => if j = o then x else A j) (j := o) (x := x) (by omega) (fun j _ => rfl)
    refine (vrow_cells k (o + 1) _ _ (by omega) h1).eq (fun j _ => ?_)
    by_cases e1 : o + 1 ≤ j ∧ j < o + 1 + k
    · rw [if_pos e1, if_pos (by omega)]
    · rw [if_neg e1]
      by_cases e2 : j = o
      · rw [if_pos e2, if_pos (by omega)]
      · rw [if_neg e2, if_neg (by omega)]
theorem below_cells {B p : Nat} {w0 : World} (hp : B ≤ p) : ∀ (l : List Value) (o : Nat) (w : World), Below B w0 w → Below B w0 (w.setCells p o l)
  | [], _, _, h => h
  | x :: l, o, w, h => below_cells hp l (o + 1) _ (h.setCell (p := ⟨p, o, none⟩) hp x)
set_option maxHeartbeats 4000000 in
set_option maxRecDepth 100000 in
theorem repE (N : Nat) (h1 : 1 ≤ N) (h2 : N ≤ 16) (x : Int) (a : Option Addr) (c : Nat) (W : World) (hs : Sl W (.slice a 1 c) (ints [x])) :
    Calls Try.prog 113 #[.slice a 1 c, .int .i64 (N : Int)] W fun e w' => ∃ p, e = .returned (.slice (some ⟨p, 0, none⟩) N N) ∧ Vrow 3 p N (fun _ => .int .i64 x) w' ∧ W.heap.size ≤ p ∧ Below W.heap.size W w' := by
  obtain ⟨PST, HP⟩ := nameIt (fun (e : Ending) (w' : World) => ∃ p, e = .returned (.slice (some ⟨p, 0, none⟩) N N) ∧ Vrow 3 p N (fun _ => .int .i64 x) w' ∧ W.heap.size ≤ p ∧ Below W.heap.size W w')
  rw [HP.out]
  have HFIN : Hid (∀ p w', Vrow 3 p N (fun _ => .int .i64 x) w' → W.heap.size ≤ p → Below W.heap.size W w' → PST (.returned (.slice (some ⟨p, 0, none⟩) N N)) w') := by
    intro p w' q1 q2 q3; rw [← HP.out]; exact ⟨p, rfl, q1, q2, q3⟩
  have HMU := Lib.hid (mulE N h1 h2)
  obtain ⟨bx, ox, hae, hcx⟩ := hs.at (k := 0) (by simp [ints])
  subst hae
  have hc0 : W.cell? ⟨bx, ox, none⟩ = some (.int .i64 x) := by simpa [ints] using hcx 0 (by simp [ints])
  have hmk : ∀ W : World, (Instr.makeSlice 25 (.int .i64 (N : Int)) (.int .i64 (N : Int))).run Try.prog W = .ok (.slice (some ⟨W.heap.size, 0, none⟩) N N) (W.alloc (.cells (madeCells #[.int .i64 0] N) 3)) := fun W => by
    have := run_make_row' (P := Try.prog) 25 3 (.int .i64 0) 8 Try.underlying25 (by kernel_rfl) rfl .i64 .i64 N (by omega) (by omega) W
    simpa using this
  have hn0 : decide ((N : Int) < 0) = false := by simp
  have hn1 : decide ((9223372036854775807 : Int) < (N : Int)) = false := by simp; omega
  clear hcx hs HP
  go_enter Try.func113, Try.ntmps113
  have hinf : (Try.prog.info? 3).map (·.size) = some 1 := by kernel_rfl
  have HINF := Lib.hid hinf
  clear hinf
  obtain ⟨z, HZ⟩ := nameIt (Value.int .i64 x)
  have HZ1 : Hid (z.oneCell' = true) := by rw [← HZ.out]; rfl
  rw [HZ.out] at hc0
  simp only [HZ.out] at HFIN
  have hg1 : decide (0 < (0 : Int)) = false := rfl
  have hg2 : decide ((9223372036854775807 : Int) < (N : Int)) = false := hn1
  go_wp2_with fail
  with_reducible refine (HMU.out _).mono ?_
  rintro e w1 ⟨rfl, rfl⟩
  go_upto_region 6 with fail
  obtain ⟨w2, HW2⟩ := nameIt (W.alloc (.cells (madeCells #[.int .i64 0] N) 3))
  obtain ⟨p, HPN⟩ := nameIt W.heap.size
  have hv2 : Vrow 3 p N (fun _ => .int .i64 0) w2 := by rw [← HW2.out]; exact vrow_new W _ _ N HPN.out.symm
  have hb2 : Below W.heap.size W w2 := by rw [← HW2.out]; exact (Below.refl _ _).alloc (Nat.le_refl _) _
  have hbxl : bx < W.heap.size := lt_of_cell hc0
  have hc2 := (hb2.cell (p := ⟨bx, ox, none⟩) hbxl).trans hc0
  have hpp : W.heap.size ≤ p := by have := HPN.out; omega
  have hcp1 : ∀ ty, (Builtin.copy_ #[25, 25] ty #[.slice (some ⟨p, 0, none⟩) N N, .slice (some ⟨bx, ox, none⟩) 1 c]).run Try.prog w2 = .ok (goInt 1) (w2.setCells p 0 [z]) := by
    intro ty
    have h := run_copy_cells (P := Try.prog) w2 25 25 ty 3 p 0 N N ⟨bx, ox, none⟩ 1 c [z] Try.underlying25 HINF.out (by show 1 = min 1 N; omega)
      (fun j v hj => by
        obtain rfl : j = 0 := by
          have := (List.getElem?_eq_some_iff.1 hj).1
          simp at this; exact this
        simp at hj; subst hj
        simpa [Addr.add] using hc2)
      (fun j hj => by rw [hv2.cell (k := 0 + j) (by simp at hj; omega)]; rfl) (fun j _ => hv2.free _) (fun v hv => by simp at hv; subst hv; exact HZ1.out)
    simpa using h
  have hv3 := vrow_cells (x := z) 1 0 _ w2 (by omega) hv2
  have hb3 := below_cells (B := W.heap.size) hpp (List.replicate 1 z) 0 w2 hb2
  rw [show List.replicate 1 z = [z] from rfl] at hv3 hb3
  obtain ⟨w3, HW3⟩ := nameIt (w2.setCells p 0 [z])
  rw [HW3.out] at hcp1 hv3 hb3
  have HV3 : Hid (Vrow 3 p N (fun j => if j < 1 then z else .int .i64 0) w3) := hv3.eq (fun k _ => by
    by_cases h : k < 1
    · rw [if_pos (by omega), if_pos h]
    · rw [if_neg (by omega), if_neg h])
  have HB3 := Lib.hid hb3
  have HPW := Lib.hid hpp
  clear hv2 hv3 hb3 hb2 hc2 hbxl
  go_upto_region 7 with fail
  rw [HW2.out, HPN.out]
  go_wp2_with (at_builtin; refine wpl_copyK _ rfl _ _ 25 25 rfl rfl rfl (hcp1 _) ?_)
  clear hcp1 hc0
  go_loopg [8] N (fun gg v8 wr => ∃ k : Nat, 1 ≤ k ∧ k ≤ N ∧ N - k ≤ gg ∧ v8 = .int .i64 k ∧ Hid (Vrow 3 p N (fun j => if j < k then z else .int .i64 0) wr) ∧ Hid (Below W.heap.size W wr))
  case atStart => exact ⟨1, by omega, by omega, by omega, rfl, HV3, HB3⟩
  case round =>
    clear HV3 HB3
    obtain ⟨k, hk1, hkN, hgk, rfl, HV, HB⟩ := hrel
    obtain ⟨w5, rfl⟩ : ∃ ww : World, ww = wr := ⟨_, rfl⟩
    by_cases hlt : k < N
    · have hlt' : (k : Int) < (N : Int) := by omega
      obtain ⟨m, HM⟩ := nameIt (min k (N - k))
      have hm1 : 1 ≤ m ∧ m ≤ k ∧ k + m ≤ N := by have := HM.out; omega
      have hcp2 : ∀ ty dc sc, (Builtin.copy_ #[25, 25] ty #[.slice (some ⟨p, k, none⟩) (N - k) dc, .slice (some ⟨p, 0, none⟩) k sc]).run Try.prog w5.drew = .ok (goInt (m : Int)) (w5.drew.setCells p k (List.replicate m z)) := by
        intro ty dc sc
        have hv5 := HV.out.keep ((Below.refl _ _).drew)
        have h := run_copy_cells (P := Try.prog) w5.drew 25 25 ty 3 p k (N - k) dc ⟨p, 0, none⟩ k sc (List.replicate m z) Try.underlying25 HINF.out (by rw [List.length_replicate]; exact HM.out.symm)
          (fun j v hj => by
            have hjm : j < m := by have := (List.getElem?_eq_some_iff.1 hj).1; simpa using this
            have hvz : v = z := by rw [List.getElem?_replicate, if_pos hjm] at hj; exact (Option.some.inj hj).symm
            have := hv5.cell (k := j) (by omega)
            rw [if_pos (by omega)] at this
            rw [hvz]
            have e : (⟨p, 0, none⟩ : Addr).add j = ⟨p, j, none⟩ := by unfold Addr.add; by_cases e : j = 0 <;> simp [e]
            rw [e]; exact this)
          (fun j hj => by rw [hv5.cell (k := k + j) (by simp at hj; omega)]; rfl) (fun j _ => hv5.free _) (fun v hv => by rw [List.eq_of_mem_replicate hv]; exact HZ1.out)
        simpa using h
      have hv6 := vrow_cells (x := z) m k _ w5.drew (by omega) (HV.out.keep ((Below.refl _ _).drew))
      have hb6 := below_cells (B := W.heap.size) HPW.out (List.replicate m z) k w5.drew HB.out.drew
      obtain ⟨w6, HW6⟩ := nameIt (w5.drew.setCells p k (List.replicate m z))
      rw [HW6.out] at hcp2 hv6 hb6
      have HV6 : Hid (Vrow 3 p N (fun j => if j < k + m then z else .int .i64 0) w6) := hv6.eq (fun j _ => by
        by_cases h : k ≤ j ∧ j < k + m
        · rw [if_pos h, if_pos h.2]
        · rw [if_neg h]
          by_cases h2 : j < k
          · rw [if_pos h2, if_pos (by omega)]
          · rw [if_neg h2, if_neg (by omega)])
      have HB6 := Lib.hid hb6
      have hk0 : (0 : Int) ≤ (k : Int) := by omega
      have hkN' : (k : Int) ≤ (N : Int) := by omega
      obtain ⟨km, HKM⟩ := nameIt (k + m)
      have hw : IntKind.i64.wrap ((k : Int) + (m : Int)) = (km : Int) := by rw [IntWalk.i64_in _ (by omega), ← HKM.out]; omega
      have hne : ¬ N = k := by omega
      rw [HKM.out] at HV6
      have hkm : 1 ≤ km ∧ km ≤ N ∧ k < km := by have := HKM.out; omega
      clear hv6 hb6 HV HB HM HKM
      go_upto_region 9 with fail
      go_region_law (refine step_copyK rfl _ _ 25 25 rfl (by simp [Act.eval, Act.put]; try rfl) (by simp [Act.eval, Act.put]; try rfl) (hcp2 _ _ _) ?_)
      all_goals first | (go_wp2_with fail
                         go_roundg (N - km)
                         case measure => omega
                         case rel => exact ⟨km, by omega, by omega, by omega, by go_num, HV6, HB6⟩) | fail
    · have hlt' : ¬ (k : Int) < (N : Int) := by omega
      have hke : k = N := by omega
      subst hke
      have HE := Lib.hid (HFIN.out p w5 (HV.out.eq (fun j hj => by rw [if_pos hj])) HPW.out HB.out)
      go_wp2_with fail
      exact HE.out
end Cs
end Go.Proofs.Ytjpmebppdcclbaa
namespace Go.Proofs.Ytjpmebppdcclbaa
open Go.RowKit
namespace Cs
structure LTb (rules : List Rule) (N : Nat) (W0 : World) (p : Nat) (X : Nat → Int) (wr : World) : Prop where
  row : Vrow 3 p N (fun A => .int .i64 (X A)) wr
  snd : SoundV rules X
  bd : BdV X N
  bel : Below W0.heap.size W0 wr
  lo : W0.heap.size ≤ p
section
variable {rules : List Rule} {N p : Nat} {W0 wr w' : World} {X X' : Nat → Int}
theorem LTb.keep (h : LTb rules N W0 p X wr) (hb : Below wr.heap.size wr w') : LTb rules N W0 p X w' := ⟨h.row.keep hb, h.snd, h.bd, h.bel.trans (hb.mono h.bel.size), h.lo⟩
theorem LTb.set (h : LTb rules N W0 p X wr) {A : Nat} {v : Int} (hA : A < N) (hs : SoundV rules (setV X A v)) (hb : BdV (setV X A v) N) : LTb rules N W0 p (setV X A v) (wr.setCell ⟨p, A, none⟩ (.int .i64 v)) :=
  ⟨h.row.set hA (fun k _ => by unfold setV; split <;> rfl), hs, hb, h.bel.setCell (p := ⟨p, A, none⟩) h.lo _, h.lo⟩
def ClosedTo (rules : List Rule) (i : Nat) (X : Nat → Int) : Prop := ∀ r ∈ rules.take i, 0 ≤ sumV X r.right → 0 ≤ X r.left.toNat ∧ X r.left.toNat ≤ sumV X r.right
theorem closedTo_next {i : Nat} (hi : i < rules.length) (h : ClosedTo rules i X) (hr : 0 ≤ sumV X rules[i].right → 0 ≤ X rules[i].left.toNat ∧ X rules[i].left.toNat ≤ sumV X rules[i].right) : ClosedTo rules (i + 1) X := by
  intro r hm
  rw [List.take_succ_eq_append_getElem hi, List.mem_append] at hm
  rcases hm with hm | hm
  · exact h r hm
  · simp at hm; subst hm; exact hr
end
def LnPost (rules : List Rule) (N : Nat) (w : World) (e : Ending) (w' : World) : Prop :=
  ∃ p X, e = .returned (.slice (some ⟨p, 0, none⟩) N N) ∧ Vrow 3 p N (fun A => .int .i64 (X A)) w' ∧ LeastV rules N X ∧ w.heap.size ≤ p ∧ Below w.heap.size w w'
set_option maxHeartbeats 8000000 in
set_option maxRecDepth 100000 in
theorem lengthsE (g : Gram) (N : Nat) (hok : OkC g N) (hr4 : ∀ r ∈ g.rules, r.right.length ≤ 4) (ra : Option Addr) (rcap : Nat) (w : World) (hr : Rd AnyB w (.sl (g.rules.map Rule.d)) [.slice ra g.rules.length rcap]) :
    Calls Try.prog 100 #[.agg #[.int .i64 g.terms, .int .i64 g.nons, .int .i64 g.start, .slice ra g.rules.length rcap]] w (LnPost g.rules N w) := by
  have hN1 := hok.n1
  have hN2 := hok.n2
  have HGR := Lib.hid hok.r
  have HLF := Lib.hid hok.l
  have H4 := Lib.hid hr4
  have HL0 : Hid (∀ r ∈ g.rules, 0 ≤ r.left) := fun r hr => (hok.l r hr).1
  have hnn := hok.nons
  rw [hnn]
  obtain ⟨w0, HW0⟩ := nameIt (w.alloc (.cells #[.int .i64 g.terms, .int .i64 (N : Int), .int .i64 g.start, .slice ra g.rules.length rcap] 24))
  have hb0 : Below w.heap.size w w0 := by rw [← HW0.out]; exact (Below.refl _ _).alloc (Nat.le_refl _) _
  have X0 : Hid (w0.heap[w.heap.size]? = some (.cells #[.int .i64 g.terms, .int .i64 (N : Int), .int .i64 g.start, .slice ra g.rules.length rcap] 24 (0, 0))) := by rw [← HW0.out]; exact bx_new _ _ _ rfl
  have HRD := Lib.hid (hr.below hb0)
  obtain ⟨PST, HP⟩ := nameIt (LnPost g.rules N w)
  rw [HP.out]
  have HFIN : Hid (∀ p X w', LTb g.rules N w0 p X w' → ClosedV g.rules X → PST (.returned (.slice (some ⟨p, 0, none⟩) N N)) w') := by
    intro p X w' h1 h2
    rw [← HP.out]
    exact ⟨p, X, rfl, h1.row, closed_least h1.snd HL0.out h2 N, Nat.le_trans hb0.size h1.lo, hb0.trans (h1.bel.mono hb0.size)⟩
  have hbs := hr.bounds.2
  unfold maxLen at hbs
  obtain ⟨hcv1, hcv2⟩ := hbs
  obtain ⟨gt, HGT⟩ := nameIt g.terms
  obtain ⟨gs, HGS⟩ := nameIt g.start
  obtain ⟨rl, HRL⟩ := nameIt g.rules.length
  rw [HGT.out, HGS.out, HRL.out] at HW0 X0
  rw [HRL.out] at HRD hcv1
  rw [HGT.out, HGS.out, HRL.out]
  have HREP : Hid (∀ W a c, Sl W (.slice a 1 c) (ints [-1]) → Calls Try.prog 113 #[.slice a 1 c, .int .i64 (N : Int)] W fun e w' => ∃ p, e = .returned (.slice (some ⟨p, 0, none⟩) N N) ∧ Vrow 3 p N (fun _ => .int .i64 (-1)) w' ∧ W.heap.size ≤ p ∧ Below W.heap.size W w') := fun W a c h => repE N hN1 (by omega) (-1) a c W h
  obtain ⟨gb, HGBN⟩ := nameIt w.heap.size
  rw [HGBN.out] at X0
  obtain ⟨x0, x1, x2, x3⟩ := bx_cells4 X0.out
  clear hb0 hr HP hok hr4 hnn
  go_enter Try.func100, Try.ntmps100
  go_upto_region 1 with fail
  rw [HW0.out, HGBN.out]
  have hb1 : Below w0.heap.size w0 (w0.alloc (.cells #[.int .i64 (-1)] 3)) := (Below.refl _ _).alloc (Nat.le_refl _) _
  have Z1 : Hid ((w0.alloc (.cells #[.int .i64 (-1)] 3)).heap[w0.heap.size]? = some (.cells #[.int .i64 (-1)] 3 (0, 0))) := bx_new _ _ _ rfl
  have hs1 : Sl (w0.alloc (.cells #[.int .i64 (-1)] 3)) (.slice (some ⟨w0.heap.size, 0, none⟩) 1 1) (ints [-1]) := by
    refine ⟨some ⟨w0.heap.size, 0, none⟩, 1, rfl, by simp [ints], by unfold maxLen; omega, (fun h => by cases h), fun i hi => ⟨_, rfl, ?_⟩⟩
    simp [ints] at hi
    subst hi
    simp [ints, Addr.add]
  have HR1 := Lib.hid (HREP.out _ _ _ hs1)
  obtain ⟨y0, y1, y2, y3⟩ := bx_cells4 (bx_keep X0.out hb1)
  clear x0 x1 x2 x3 hs1 HREP Z1
  go_wp2_with fail
  with_reducible refine HR1.out.mono ?_
  rintro e w2 ⟨p, rfl, hv2, hp2, hb2⟩
  have HB2 : Hid (Below w0.heap.size w0 w2) := hb1.trans (hb2.mono hb1.size)
  have HPL : Hid (w0.heap.size ≤ p) := Nat.le_trans hb1.size hp2
  have HL2 : Hid (LTb g.rules N w0 p (fun _ => -1) w2) := ⟨hv2, sound_start, bd_start, HB2.out, HPL.out⟩
  clear hv2 hp2 hb2 hb1 HR1 y0 y1 y2 y3 HB2
  go_wp2_with fail
  go_loopg [4] (muV (fun _ => -1) N + 1) (fun gg v4 wr => ∃ (ag : Bool) (X : Nat → Int), v4 = .bool ag ∧ (ag = true → muV X N + 1 ≤ gg) ∧ Hid (LTb g.rules N w0 p X wr) ∧ Hid (ag = false → ClosedV g.rules X))
  case atStart => exact ⟨true, fun _ => -1, rfl, (fun _ => Nat.le_refl _), HL2, (fun e => by cases e)⟩
  case round =>
    clear HL2
    obtain ⟨ag, X, rfl, hgg, HL, HAG⟩ := hrel
    obtain ⟨w3, rfl⟩ : ∃ ww : World, ww = wr := ⟨_, rfl⟩
    cases ag with
    | false =>
      have HE := Lib.hid (HFIN.out p X w3 HL.out (HAG.out rfl))
      clear hgg HAG
      go_wp2_with fail
      exact HE.out
    | true =>
      have hgg' := hgg rfl
      obtain ⟨mu, HMU⟩ := nameIt (muV X N)
      rw [HMU.out] at hgg'
      obtain ⟨x0, x1, x2, x3⟩ := bx_cells4 (bx_keep X0.out HL.out.bel)
      have HC0 : Hid (ClosedTo g.rules 0 X) := fun r hr => by simp at hr
      clear hgg HAG
      go_wp2_with fail
      clear x0 x1 x2 x3
      go_loopg [4, 19] rl (fun gg v4 v19 wr => ∃ (i : Nat) (Y : Nat → Int) (b : Bool), i ≤ rl ∧ rl - i ≤ gg ∧ v4 = .bool b ∧ v19 = .int .i64 i ∧ Hid (LTb g.rules N w0 p Y wr) ∧ Hid (b = false → Y = X ∧ ClosedTo g.rules i X) ∧ Hid (b = true → muV Y N < mu))
      case atStart => exact ⟨0, X, false, by omega, by omega, rfl, rfl, HL, (fun _ => ⟨rfl, HC0.out⟩), (fun e => by cases e)⟩
      case round =>
        clear HL HC0
        obtain ⟨i, Y, b, hi, hg2, rfl, rfl, HL, HC, HM⟩ := hrel
        obtain ⟨w4, rfl⟩ : ∃ ww : World, ww = wr := ⟨_, rfl⟩
        by_cases hlt : i < rl
        · have hlt' : (i : Int) < (rl : Int) := by omega
          have hi0 : (0 : Int) ≤ (i : Int) := by omega
          have hix : i < g.rules.length := by rw [HRL.out]; exact hlt
          obtain ⟨rbk, ro, rv, hae, -, hrb, r0, r1, hrr⟩ := HRD.out.rule_at hix
          obtain ⟨ar, cr, rfl, hcr1, hcr2⟩ := hrr.form
          rw [List.length_map] at r1 hrr hcr1
          unfold maxLen at hcr2
          have HRR := Lib.hid hrr
          have t0 := (HL.out.bel.cell (lt_of_cell r0)).trans r0
          have t1 := (HL.out.bel.cell (lt_of_cell r1)).trans r1
          have HOKR := Lib.hid (HGR.out _ (List.getElem_mem hix))
          have HOKL := Lib.hid (HLF.out _ (List.getElem_mem hix))
          have hr4 := H4.out _ (List.getElem_mem hix)
          have HMEM := Lib.hid (List.getElem_mem hix)
          have HNX : Hid (ClosedTo g.rules i X → (0 ≤ sumV X g.rules[i].right → 0 ≤ X g.rules[i].left.toNat ∧ X g.rules[i].left.toNat ≤ sumV X g.rules[i].right) → ClosedTo g.rules (i + 1) X) := fun h1 h2 => closedTo_next hix h1 h2
          obtain ⟨r, HRN⟩ := nameIt (g.rules[i]'hix)
          rw [HRN.out] at t0 t1 HRR HOKR HOKL hcr1 hr4 HMEM HNX
          obtain ⟨rt, HRT⟩ := nameIt r.right
          rw [HRT.out] at t1 HRR HOKR hcr1 hr4 HNX
          obtain ⟨rn, HRNL⟩ := nameIt rt.length
          rw [HRNL.out] at t1 HRR hcr1 hr4
          obtain ⟨A, hA⟩ : ∃ A : Nat, r.left = (A : Int) := ⟨r.left.toNat, by have := HOKL.out.1; omega⟩
          have hAN : A < N := by have := HOKL.out.2; rw [hA] at this; simpa using this
          have HAL : Hid (r.left = (A : Int)) := hA
          rw [hA] at t0
          have HLEFT : Hid (r.left.toNat = A) := by show _ = _; rw [hA]; simp
          rw [HLEFT.out] at HNX
          obtain ⟨w5, HW5⟩ := nameIt (w4.alloc (.cells #[.int .i64 (A : Int), .slice ar rn cr] 69))
          have hb5 : Below w4.heap.size w4 w5 := by rw [← HW5.out]; exact (Below.refl _ _).alloc (Nat.le_refl _) _
          have HL5 := Lib.hid (HL.out.keep hb5)
          have Y5 : Hid (w5.heap[w4.heap.size]? = some (.cells #[.int .i64 (A : Int), .slice ar rn cr] 69 (0, 0))) := by rw [← HW5.out]; exact bx_new _ _ _ rfl
          have HPW : Hid (p < w4.heap.size) := HL.out.row.lt
          obtain ⟨rbx, HRBX⟩ := nameIt w4.heap.size
          rw [HRBX.out] at Y5 HPW
          have HSG : Hid (∀ j, -1 ≤ sumV Y (rt.take j) ∧ sumV Y (rt.take j) ≤ 4194304) := fun j => ⟨sum_ge _, sum_le HL.out.bd hN2 (by rw [List.length_take]; rw [← HRNL.out] at hr4; omega)⟩
          have HXB : Hid (∀ B, -1 ≤ Y B ∧ Y B ≤ 1048576) := fun B => ⟨(HL.out.snd B).1, HL.out.bd.le hN2 B⟩
          subst hae
          clear hrr r0 r1 hA hb5
          go_upto_region 8 with fail
          rw [HW5.out, HRBX.out]
          clear t0 t1 HW5 HRBX HL
          obtain ⟨y0, y1⟩ := bx_cells2 Y5.out
          go_wp2_with fail
          clear y0 y1
          go_loopg [7, 26] rn (fun gg v7 v26 wr => ∃ (j : Nat), j ≤ rn ∧ rn - j ≤ gg ∧ v7 = .int .i64 (sumV Y (rt.take j)) ∧ v26 = .int .i64 j ∧ Hid (LTb g.rules N w0 p Y wr) ∧ Hid (wr.heap[rbx]? = some (.cells #[.int .i64 (A : Int), .slice ar rn cr] 69 (0, 0))))
          case atStart => exact ⟨0, by omega, by omega, rfl, rfl, HL5, Y5⟩
          case round =>
            clear HL5 Y5
            obtain ⟨j, hj, hg3, rfl, rfl, HL5, Y5⟩ := hrel
            obtain ⟨w6, rfl⟩ : ∃ ww : World, ww = wr := ⟨_, rfl⟩
            by_cases hjm : j < rn
            · have hjm' : (j : Int) < (rn : Int) := by omega
              have hj0 : (0 : Int) ≤ (j : Int) := by omega
              have hjx : j < rt.length := by rw [HRNL.out]; exact hjm
              obtain ⟨sb, so, hae, -, hsb, s0, s1⟩ := (show Rd AnyB w0 (.sl (rt.map Sym.d)) [.slice ar rt.length cr] by rw [HRNL.out]; exact HRR.out).sym_at hjx
              have u0 := (HL5.out.bel.cell (lt_of_cell s0)).trans s0
              have u1 := (HL5.out.bel.cell (lt_of_cell s1)).trans s1
              have HSN : Hid (sumV Y (rt.take (j + 1)) = stepV Y (sumV Y (rt.take j)) rt[j]) := by show _ = _; rw [List.take_succ_eq_append_getElem hjx, stepV_snoc]
              have HOS := Lib.hid (HOKR.out _ (List.getElem_mem hjx))
              have hg1 := HSG.out j
              have hg2' := HSG.out (j + 1)
              obtain ⟨⟨st, sn⟩, HSY⟩ := nameIt (rt[j]'hjx)
              rw [HSY.out] at u0 u1 HSN HOS
              obtain ⟨sj, HSJ⟩ := nameIt (sumV Y (rt.take j))
              obtain ⟨sk, HSK⟩ := nameIt (sumV Y (rt.take (j + 1)))
              rw [HSJ.out] at HSN hg1
              rw [HSK.out] at HSN hg2'
              rw [HSJ.out]
              simp only at u0 u1
              obtain ⟨w7, HW7⟩ := nameIt (w6.alloc (.cells #[.bool st, .int .i64 sn] 44))
              have hb7 : Below w6.heap.size w6 w7 := by rw [← HW7.out]; exact (Below.refl _ _).alloc (Nat.le_refl _) _
              have HL7 := Lib.hid (HL5.out.keep hb7)
              have Y7 := Lib.hid (bx_keep Y5.out hb7)
              have S7 : Hid (w7.heap[w6.heap.size]? = some (.cells #[.bool st, .int .i64 sn] 44 (0, 0))) := by rw [← HW7.out]; exact bx_new _ _ _ rfl
              subst hae
              clear s0 s1 hb7
              go_upto_region 13 with fail
              rw [HW7.out]
              clear u0 u1 HW7
              obtain ⟨z0, z1⟩ := bx_cells2 S7.out
              have HFN : Hid (Value.int .i64 sk = .int .i64 (sumV Y (rt.take (j + 1)))) := by show _ = _; rw [HSK.out]
              by_cases hs0 : 0 ≤ sj
              · cases st with
                | true =>
                  have hw : IntKind.i64.wrap (sj + 1) = sk := by
                    have : sk = sj + 1 := by rw [HSN.out]; unfold stepV; rw [if_pos hs0]; rfl
                    rw [IntWalk.i64_in _ (by omega)]; exact this.symm
                  go_wp2_with fail
                  go_roundg (rn - (j + 1))
                  case measure => omega
                  case rel => exact ⟨j + 1, by omega, by omega, HFN.out, by go_num, HL7, Y7⟩
                | false =>
                  obtain ⟨hq1, hq2⟩ := HOS.out rfl
                  simp only at hq1 hq2
                  obtain ⟨B, rfl⟩ : ∃ B : Nat, sn = (B : Int) := ⟨sn.toNat, by omega⟩
                  rw [Int.toNat_natCast] at hq2
                  have hB0 : (0 : Int) ≤ (B : Int) := by omega
                  have hB1 : (B : Int) < (N : Int) := by omega
                  have q0 := HL7.out.row.cell hq2
                  have hyb := HXB.out B
                  have HST : Hid (sk = if 0 ≤ Y B then sj + Y B else -1) := by show _ = _; rw [HSN.out]; unfold stepV; rw [if_pos hs0]; rfl
                  obtain ⟨yb, HYB⟩ := nameIt (Y B)
                  rw [HYB.out] at q0 hyb HST
                  by_cases hy : 0 ≤ yb
                  · have hw : IntKind.i64.wrap (sj + yb) = sk := by
                      have : sk = sj + yb := by rw [HST.out, if_pos hy]
                      rw [IntWalk.i64_in _ (by omega)]; exact this.symm
                    go_wp2_with fail
                    go_roundg (rn - (j + 1))
                    case measure => omega
                    case rel => exact ⟨j + 1, by omega, by omega, HFN.out, by go_num, HL7, Y7⟩
                  · have hsk : sk = -1 := by rw [HST.out, if_neg hy]
                    have hy' : yb < 0 := by omega
                    rw [hsk] at HFN
                    go_wp2_with fail
                    go_roundg (rn - (j + 1))
                    case measure => omega
                    case rel => exact ⟨j + 1, by omega, by omega, HFN.out, by go_num, HL7, Y7⟩
              · have hsk : sk = -1 := by rw [HSN.out]; unfold stepV; rw [if_neg hs0]
                have hs0' : sj < 0 := by omega
                rw [hsk] at HFN
                cases st <;> (
                  go_wp2_with fail
                  go_roundg (rn - (j + 1))
                  case measure => omega
                  case rel => exact ⟨j + 1, by omega, by omega, HFN.out, by go_num, HL7, Y7⟩)
            · have hjm' : ¬ (j : Int) < (rn : Int) := by omega
              have hjt : rt.take j = rt := List.take_of_length_le (by rw [HRNL.out]; omega)
              rw [hjt]
              have hg1 := HSG.out j
              rw [hjt] at hg1
              have HSUM : Hid (Y = X → sumV Y rt = sumV X rt) := fun e => by rw [e]
              have HDV : Hid (0 ≤ sumV Y rt → Dv g.rules A (sumV Y rt).toNat) := fun h => dv_rule HMEM.out HAL.out (by rw [HRT.out]; exact sum_dl HL5.out.snd h)
              have HBD4 : Hid (sumV Y rt ≤ 4 * ((4 ^ nset Y N : Nat) : Int)) := sum_bd HL5.out.bd (by rw [HRNL.out]; exact hr4)
              obtain ⟨sm, HSM⟩ := nameIt (sumV Y rt)
              rw [HSM.out] at hg1 HSUM HDV HBD4
              rw [HSM.out]
              have q0 := HL5.out.row.cell hAN
              have qf := HL5.out.row.free A
              have hyb := HXB.out A
              have HYA : Hid (Y = X → Y A = X A) := fun e => by rw [e]
              have HSET : Hid (0 ≤ sm → (Y A < 0 ∨ sm < Y A) → LTb g.rules N w0 p (setV Y A sm) (w6.setCell ⟨p, A, none⟩ (.int .i64 sm)) ∧ muV (setV Y A sm) N < muV Y N) := by
                intro h1 h2
                have hv : sm < Y A ∨ (Y A < 0 ∧ sm ≤ 4 * ((4 ^ nset Y N : Nat) : Int)) := by
                  have := HBD4.out
                  rcases h2 with h2 | h2
                  · exact .inr ⟨h2, this⟩
                  · exact .inl h2
                exact ⟨HL5.out.set hAN (setV_sound HL5.out.snd h1 (HDV.out h1)) (bdV_set HL5.out.bd hAN h1 hv), mu_set hN2 hAN h1 hv⟩
              have HMUL : Hid (b = true → muV Y N < mu) := HM.out
              have HMUE : Hid (muV Y N ≤ mu) := by
                show muV Y N ≤ mu
                cases b with
                | true => exact Nat.le_of_lt (HM.out rfl)
                | false => rw [(HC.out rfl).1, HMU.out]; exact Nat.le_refl _
              have hA0 : (0 : Int) ≤ (A : Int) := by omega
              have hA1 : (A : Int) < (N : Int) := by omega
              obtain ⟨y0, y1⟩ := bx_cells2 Y5.out
              obtain ⟨ya, HYAN⟩ := nameIt (Y A)
              rw [HYAN.out] at q0 hyb HYA HSET
              have hnpr : ¬ p = rbx := by have := HPW.out; omega
              have hnrp : ¬ rbx = p := fun h => hnpr h.symm
              by_cases hs0 : 0 ≤ sm
              · by_cases hset : ya < 0 ∨ sm < ya
                · obtain ⟨hl8, hm8⟩ := HSET.out hs0 hset
                  have HL8 := Lib.hid hl8
                  have HM8 : Hid (muV (setV Y A sm) N < mu) := Nat.lt_of_lt_of_le hm8 HMUE.out
                  clear hl8 hm8
                  by_cases hy : ya < 0
                  · go_wp2_with fail
                    go_roundg (rl - (i + 1))
                    case measure => omega
                    case rel => exact ⟨i + 1, setV Y A sm, true, by omega, by omega, rfl, by go_num, HL8, (fun e => by cases e), (fun _ => HM8.out)⟩
                  · have hlt2 : sm < ya := by omega
                    go_wp2_with fail
                    go_roundg (rl - (i + 1))
                    case measure => omega
                    case rel => exact ⟨i + 1, setV Y A sm, true, by omega, by omega, rfl, by go_num, HL8, (fun e => by cases e), (fun _ => HM8.out)⟩
                · have hy : ¬ ya < 0 := by omega
                  have hlt2 : ¬ sm < ya := by omega
                  have HCN : Hid (b = false → Y = X ∧ ClosedTo g.rules (i + 1) X) := by
                    intro e
                    obtain ⟨h1, h2⟩ := HC.out e
                    refine ⟨h1, HNX.out h2 (fun _ => ?_)⟩
                    rw [← HSUM.out h1, ← HYA.out h1]
                    omega
                  go_wp2_with fail
                  go_roundg (rl - (i + 1))
                  case measure => omega
                  case rel => exact ⟨i + 1, Y, b, by omega, by omega, rfl, by go_num, HL5, HCN, HM⟩
              · have hs0' : sm < 0 := by omega
                have HCN : Hid (b = false → Y = X ∧ ClosedTo g.rules (i + 1) X) := by
                  intro e
                  obtain ⟨h1, h2⟩ := HC.out e
                  refine ⟨h1, HNX.out h2 (fun h => ?_)⟩
                  rw [← HSUM.out h1] at h
                  omega
                go_wp2_with fail
                go_roundg (rl - (i + 1))
                case measure => omega
                case rel => exact ⟨i + 1, Y, b, by omega, by omega, rfl, by go_num, HL5, HCN, HM⟩
        · have hlt' : ¬ (i : Int) < (rl : Int) := by omega
          have HCE : Hid (b = false → ClosedV g.rules Y) := by
            intro e
            obtain ⟨h1, h2⟩ := HC.out e
            intro q hq
            rw [h1]
            exact h2 q (by rw [List.take_of_length_le (by rw [HRL.out]; omega)]; exact hq)
          have HMM : Hid (b = true → muV Y N + 1 ≤ mu) := HM.out
          go_wp2_with fail
          go_roundg mu
          case measure => omega
          case rel => exact ⟨b, Y, rfl, HMM.out, HL, HCE⟩
end Cs
end Go.Proofs.Ytjpmebppdcclbaa
namespace Go.Proofs.Ytjpmebppdcclbaa
open Go.RowKit
namespace Hl
open Rp Al
structure WT (W : World) (G0 : Array Value) (N po pk : Nat) (P : Nat → Prop) (Tw : Nat → Option (List Int)) (wr : World) : Prop where
  bel : Below W.heap.size W wr
  gbox : wr.heap[W.heap.size]? = some (.cells G0 24 (0, 0))
  kn : Vrow 4 pk N (fun A => .bool (Tw A).isSome) wr
  out : ∃ u : Nat → Value, Vrow 25 po N u wr ∧ ∀ A, A < N → Rd P wr (D.ints ((Tw A).getD [])) [u A]
  wpo : W.heap.size < po
  wne : po < pk
section
variable {W : World} {G0 : Array Value} {N po pk : Nat} {P P' : Nat → Prop} {Tw : Nat → Option (List Int)} {wr w' : World}
theorem WT.keep (h : WT W G0 N po pk P Tw wr) (hb : Below wr.heap.size wr w') : WT W G0 N po pk P Tw w' := by
  obtain ⟨u, h1, h2⟩ := h.out
  exact ⟨h.bel.trans (hb.mono h.bel.size), bx_keep h.gbox hb, h.kn.keep hb, ⟨u, h1.keep hb, fun A hA => (h2 A hA).below hb⟩, h.wpo, h.wne⟩
theorem WT.mono (h : WT W G0 N po pk P Tw wr) (hp : ∀ k, P k → k < wr.heap.size → P' k) : WT W G0 N po pk P' Tw wr := by
  obtain ⟨u, h1, h2⟩ := h.out
  exact ⟨h.bel, h.gbox, h.kn, ⟨u, h1, fun A hA => (h2 A hA).mono hp⟩, h.wpo, h.wne⟩
theorem WT.grown (h : WT W G0 N po pk P Tw wr) {row : Option Nat} (hg : wr.grownBy w' row) (hr : ∀ k, row = some k → pk < k ∧ ¬ P k) : WT W G0 N po pk P Tw w' := by
  obtain ⟨u, h1, h2⟩ := h.out
  have hp := h.wpo
  have hn := h.wne
  refine ⟨h.bel.grown hg h.bel.size (fun k e => by have := (hr k e).1; omega), (hg.block _ (Array.getElem?_eq_some_iff.1 h.gbox).1 (fun e => by have := (hr _ e.symm).1; omega)).trans h.gbox, h.kn.grown hg (fun e => by have := (hr _ e).1; omega), ⟨u, h1.grown hg (fun e => by have := (hr _ e).1; omega), fun A hA => rd_grown (h2 A hA) hg (fun k e => (hr k e).2)⟩, hp, hn⟩
theorem WT.set (h : WT W G0 N po pk P Tw wr) {A : Nat} (hA : A < N) {w : List Int} {v : Value} (hv : Rd P wr (D.ints w) [v]) (hP1 : ¬ P po) (hP2 : ¬ P pk) : WT W G0 N po pk P (updW Tw A w) ((wr.setCell ⟨po, A, none⟩ v).setCell ⟨pk, A, none⟩ (.bool true)) := by
  obtain ⟨u, h1, h2⟩ := h.out
  have hp := h.wpo
  have hn := h.wne
  have hg1 := grown_cell wr ⟨po, A, none⟩ v
  have hg2 := grown_cell (wr.setCell ⟨po, A, none⟩ v) ⟨pk, A, none⟩ (.bool true)
  have hs1 := hg1.size
  have keepR : ∀ {d : D} {x : Value}, Rd P wr d [x] → Rd P ((wr.setCell ⟨po, A, none⟩ v).setCell ⟨pk, A, none⟩ (.bool true)) d [x] := fun {d x} hr => rd_grown (rd_grown hr hg1 (fun k e h => by cases e; exact hP1 h)) hg2 (fun k e h => by cases e; exact hP2 h)
  have hbel : Below W.heap.size W (wr.setCell ⟨po, A, none⟩ v) := h.bel.setCell (p := ⟨po, A, none⟩) (by show W.heap.size ≤ po; omega) _
  refine ⟨hbel.setCell (p := ⟨pk, A, none⟩) (by show W.heap.size ≤ pk; omega) _, ?_, ?_, ⟨fun B => if B = A then v else u B, ?_, fun B hB => ?_⟩, hp, hn⟩
  · have e1 := (hg1.block _ (Array.getElem?_eq_some_iff.1 h.gbox).1 (by simp; omega)).trans h.gbox
    exact (hg2.block _ (Array.getElem?_eq_some_iff.1 e1).1 (by simp; omega)).trans e1
  · refine (h.kn.other (by omega) _ _).set hA (fun k hk => ?_)
    unfold updW
    by_cases e : k = A
    · rw [if_pos e, if_pos e]; rfl
    · rw [if_neg e, if_neg e]
  · exact (h1.set hA (fun k hk => rfl)).other (by omega) _ _
  · unfold updW
    by_cases e : B = A
    · simp only [e, if_true]
      exact keepR hv
    · simp only [e, if_false]
      exact keepR (h2 B hB)
end
end Hl
end Go.Proofs.Ytjpmebppdcclbaa
namespace Go.Proofs.Ytjpmebppdcclbaa
open Go.RowKit
namespace Hl
open Rp
def hcells (o : Option Val) (u : Value) : List Value := [.int .i64 (oN o), u, .bool o.isSome]
def HRow (P : Nat → Prop) (g m : Nat) (A : Nat → Option Val) (w : World) : Prop :=
  ∃ cs, w.heap[g]? = some (.cells cs 91 (0, 0)) ∧ cs.size = m * 3 ∧ ∀ j, j < m → ∃ u, (∀ c (h : c < 3), cs[j * 3 + c]? = some ((hcells (A j) u)[c]'h)) ∧ Rd P w (D.ints (oW (A j))) [u]
section
variable {P P' : Nat → Prop} {g m : Nat} {A A' : Nat → Option Val} {w w' : World}
theorem HRow.lt (h : HRow P g m A w) : g < w.heap.size := by obtain ⟨cs, h1, _⟩ := h; exact (Array.getElem?_eq_some_iff.1 h1).1
theorem HRow.grown {row : Option Nat} (h : HRow P g m A w) (hg : w.grownBy w' row) (hr : row ≠ some g) (hp : ∀ k, row = some k → ¬ P k) : HRow P g m A w' := by
  have hl := h.lt
  obtain ⟨cs, h1, h2, h3⟩ := h
  refine ⟨cs, (hg.block g hl (fun e => hr e.symm)).trans h1, h2, fun j hj => ?_⟩
  obtain ⟨u, h4, h5⟩ := h3 j hj
  exact ⟨u, h4, rd_grown h5 hg hp⟩
theorem HRow.keep (h : HRow P g m A w) (hb : Below w.heap.size w w') : HRow P g m A w' := h.grown (grown_below hb none) (by simp) (by simp)
theorem HRow.mono (h : HRow P g m A w) (hp : ∀ k, P k → k < w.heap.size → P' k) : HRow P' g m A w := by
  obtain ⟨cs, h1, h2, h3⟩ := h
  refine ⟨cs, h1, h2, fun j hj => ?_⟩
  obtain ⟨u, h4, h5⟩ := h3 j hj
  exact ⟨u, h4, h5.mono hp⟩
theorem HRow.eq (h : HRow P g m A w) (e : ∀ j, j < m → A j = A' j) : HRow P g m A' w := by
  obtain ⟨cs, h1, h2, h3⟩ := h
  refine ⟨cs, h1, h2, fun j hj => ?_⟩
  obtain ⟨u, h4, h5⟩ := h3 j hj
  rw [e j hj] at h4 h5
  exact ⟨u, h4, h5⟩
theorem HRow.get (h : HRow P g m A w) {j : Nat} (hj : j < m) : ∃ a l k, (∀ w' : World, w'.heap[g]? = w.heap[g]? → w'.cell? ⟨g, j * 3, none⟩ = some (.int .i64 (oN (A j))) ∧ w'.cell? ⟨g, j * 3 + 1, none⟩ = some (.slice a l k) ∧ w'.cell? ⟨g, j * 3 + 2, none⟩ = some (.bool (A j).isSome)) ∧
    HR P w (.agg #[.int .i64 (oN (A j)), .slice a l k, .bool (A j).isSome]) (A j) := by
  obtain ⟨cs, h1, h2, h3⟩ := h
  obtain ⟨u, h4, h5⟩ := h3 j hj
  obtain ⟨a, k, rfl⟩ := (sl_rd h5).form
  refine ⟨_, _, _, fun w' hw' => ?_, _, rfl, h5⟩
  rw [h1] at hw'
  have e0 := h4 0 (by omega)
  have e1 := h4 1 (by omega)
  have e2 := h4 2 (by omega)
  simp only [Nat.add_zero] at e0
  refine ⟨?_, ?_, ?_⟩ <;> simp [World.cell?, hw', e0, e1, e2, hcells]
theorem HRow.free (h : HRow P g m A w) (k : Nat) : w.frozen? ⟨g, k, none⟩ = false := by obtain ⟨cs, h1, h2, h3⟩ := h; simp [World.frozen?, h1]
theorem grown_cellsAt3 (w : World) (b : Nat) (k0 k1 k2 : Nat) (v0 v1 v2 : Value) : w.grownBy (((w.setCell ⟨b, k0, none⟩ v0).setCell ⟨b, k1, none⟩ v1).setCell ⟨b, k2, none⟩ v2) (some b) := by
  refine ⟨rfl, rfl, rfl, by simp [World.setCell], fun k _ hn => ?_⟩
  have hne : ¬ k = b := fun e => hn (by rw [e])
  rw [Below.heap_setCell _ _ _ _ hne, Below.heap_setCell _ _ _ _ hne, Below.heap_setCell _ _ _ _ hne]
theorem HRow.set (h : HRow P g m A w) {j : Nat} (hj : j < m) {o : Option Val} {u : Value} (hu : Rd P w (D.ints (oW o)) [u]) (hg : ¬ P g) (he : ∀ k, k < m → A' k = if k = j then o else A k) :
    HRow P g m A' (((w.setCell ⟨g, j * 3, none⟩ (.int .i64 (oN o))).setCell ⟨g, j * 3 + 1, none⟩ u).setCell ⟨g, j * 3 + 2, none⟩ (.bool o.isSome)) := by
  have hgr := grown_cellsAt3 w g (j * 3) (j * 3 + 1) (j * 3 + 2) (.int .i64 (oN o)) u (.bool o.isSome)
  have hp : ∀ k, some g = some k → ¬ P k := fun k e => by cases e; exact hg
  obtain ⟨cs, h1, h2, h3⟩ := h
  have b0 := bx_set h1 (j * 3) (.int .i64 (oN o))
  have b1 := bx_set b0 (j * 3 + 1) u
  have b2 := bx_set b1 (j * 3 + 2) (.bool o.isSome)
  refine ⟨_, b2, by simpa using h2, fun k hk => ?_⟩
  rw [he k hk]
  by_cases e : k = j
  · subst e
    rw [if_pos rfl]
    refine ⟨u, fun c hc => ?_, rd_grown hu hgr hp⟩
    simp only [Array.getElem?_setIfInBounds, Array.size_setIfInBounds]
    match c, hc with
    | 0, _ => simp [hcells, h2]; omega
    | 1, _ => simp [hcells, h2]; omega
    | 2, _ => simp [hcells, h2]; omega
  · rw [if_neg e]
    obtain ⟨u', h4, h5⟩ := h3 k hk
    refine ⟨u', fun c hc => ?_, rd_grown h5 hgr hp⟩
    rw [← h4 c hc]
    simp only [Array.getElem?_setIfInBounds, Array.size_setIfInBounds]
    rw [if_neg (by omega), if_neg (by omega), if_neg (by omega)]
theorem made_at3 (z0 z1 z2 : Value) (m j c : Nat) (hj : j < m) (hc : c < 3) : (madeCells #[z0, z1, z2] (m * 3))[j * 3 + c]? = some (#[z0, z1, z2][c]'(by simpa using hc)) := by
  have h1 : j * 3 + c < m * 3 := by omega
  have h2 : (j * 3 + c) % 3 = c := by omega
  simp only [madeCells]
  rw [Array.getElem?_map, Array.getElem?_range, if_pos h1]
  have h3 : (#[z0, z1, z2] : Array Value).size = 3 := rfl
  simp only [Option.map_some, h3, h2]
  match c, hc with
  | 0, _ => rfl
  | 1, _ => rfl
  | 2, _ => rfl
theorem hrow_new (P : Nat → Prop) (w : World) (m : Nat) {g : Nat} (hg : g = w.heap.size) : HRow P g m (fun _ => none) (w.alloc (.cells (madeCells #[.int .i64 0, .slice none 0 0, .bool false] (m * 3)) 91)) := by
  subst hg
  refine ⟨_, bx_new _ _ _ rfl, by rw [size_madeCells], fun j hj => ⟨.slice none 0 0, fun c hc => ?_, rd_nil _ _⟩⟩
  rw [made_at3 _ _ _ _ _ _ hj hc]
  match c, hc with
  | 0, _ => rfl
  | 1, _ => rfl
  | 2, _ => rfl
end
end Hl
end Go.Proofs.Ytjpmebppdcclbaa
namespace Go.Proofs.Ytjpmebppdcclbaa
open Go.RowKit
namespace Hl
open Rp
structure BH (P : Nat → Prop) (lo bb : Nat) (ra : Nat → Nat) (rb : Nat → Nat → Nat) (N n : Nat) (T : Tb) (w : World) : Prop where
  top : ∀ a, a < N → w.cell? ⟨bb, a, none⟩ = some (.slice (some ⟨ra a, 0, none⟩) (n + 1) (n + 1))
  mid : ∀ a, a < N → ∀ i, i ≤ n → w.cell? ⟨ra a, i, none⟩ = some (.slice (some ⟨rb a i, 0, none⟩) (n + 1) (n + 1))
  row : ∀ a, a < N → ∀ i, i ≤ n → HRow P (rb a i) (n + 1) (T (a : Int) i) w
  lb : ∀ a, a < N → ∀ i, i ≤ n → lo ≤ rb a i
  inj : ∀ a a' i i', a < N → a' < N → i ≤ n → i' ≤ n → rb a i = rb a' i' → a = a' ∧ i = i'
  ne : ∀ a i, a < N → i ≤ n → rb a i ≠ bb ∧ ∀ a', a' < N → rb a i ≠ ra a'
  no : ∀ a i, a < N → i ≤ n → ¬ P (rb a i)
section
variable {P P' : Nat → Prop} {lo bb : Nat} {ra : Nat → Nat} {rb : Nat → Nat → Nat} {N n : Nat} {T : Tb} {w w' : World}
theorem BH.keep (h : BH P lo bb ra rb N n T w) (hb : Below w.heap.size w w') : BH P lo bb ra rb N n T w' :=
  ⟨fun a ha => (hb.cell (p := ⟨bb, a, none⟩) (lt_of_cell (h.top a ha))).trans (h.top a ha), fun a ha i hi => (hb.cell (p := ⟨ra a, i, none⟩) (lt_of_cell (h.mid a ha i hi))).trans (h.mid a ha i hi), fun a ha i hi => (h.row a ha i hi).keep hb, h.lb, h.inj, h.ne, h.no⟩
theorem BH.mono (h : BH P lo bb ra rb N n T w) (hp : ∀ k, P k → k < w.heap.size → P' k) (hno : ∀ a i, a < N → i ≤ n → ¬ P' (rb a i)) : BH P' lo bb ra rb N n T w :=
  ⟨h.top, h.mid, fun a ha i hi => (h.row a ha i hi).mono hp, h.lb, h.inj, h.ne, hno⟩
theorem BH.set (h : BH P lo bb ra rb N n T w) {a i j : Nat} (ha : a < N) (hi : i ≤ n) (hj : j ≤ n) {o : Option Val} {u : Value} (hu : Rd P w (D.ints (oW o)) [u]) :
    BH P lo bb ra rb N n (upd T (a : Int) i j o) (((w.setCell ⟨rb a i, j * 3, none⟩ (.int .i64 (oN o))).setCell ⟨rb a i, j * 3 + 1, none⟩ u).setCell ⟨rb a i, j * 3 + 2, none⟩ (.bool o.isSome)) := by
  have hg := grown_cellsAt3 w (rb a i) (j * 3) (j * 3 + 1) (j * 3 + 2) (.int .i64 (oN o)) u (.bool o.isSome)
  refine ⟨fun a' ha' => cell_grown (h.top a' ha') hg (by simp; exact (h.ne a i ha hi).1), fun a' ha' i' hi' => cell_grown (h.mid a' ha' i' hi') hg (by simp; exact (h.ne a i ha hi).2 a' ha'), fun a' ha' i' hi' => ?_, h.lb, h.inj, h.ne, h.no⟩
  by_cases e : a' = a ∧ i' = i
  · obtain ⟨rfl, rfl⟩ := e
    refine (h.row a' ha' i' hi').set (by omega) hu (h.no _ _ ha' hi') (fun k hk => ?_)
    unfold upd
    by_cases e : k = j
    · rw [if_pos e, if_pos ⟨rfl, rfl, e⟩]
    · rw [if_neg e, if_neg (fun h => e h.2.2)]
  · have hne : rb a i ≠ rb a' i' := fun h' => e (by obtain ⟨e1, e2⟩ := h.inj a a' i i' ha ha' hi hi' h'; exact ⟨e1.symm, e2.symm⟩)
    refine ((h.row a' ha' i' hi').grown hg (by simpa using hne) (fun k e => by cases e; exact h.no _ _ ha hi)).eq (fun k hk => ?_)
    unfold upd
    rw [if_neg (fun h' => e ⟨by omega, h'.2.1⟩)]
end
structure FM (fb : Nat) (gt gn gs : Int) (gr lv bv : Value) (l : List Sym) (W : World) : Prop where
  box : W.heap[fb]? = some (.cells #[.int .i64 gt, .int .i64 gn, .int .i64 gs, gr, lv, bv] 137 (0, 0))
  row : Rd (fun k => k < fb) W (.sl (l.map Sym.d)) [lv]
theorem FM.keep {fb : Nat} {gt gn gs : Int} {gr lv bv : Value} {l : List Sym} {W W' : World} (h : FM fb gt gn gs gr lv bv l W) (hb : Below W.heap.size W W') : FM fb gt gn gs gr lv bv l W' := ⟨bx_keep h.box hb, h.row.below hb⟩
theorem FM.grown {fb : Nat} {gt gn gs : Int} {gr lv bv : Value} {l : List Sym} {W W' : World} {row : Option Nat} (h : FM fb gt gn gs gr lv bv l W) (hg : W.grownBy W' row) (hr : ∀ k, row = some k → fb < k) : FM fb gt gn gs gr lv bv l W' := by
  refine ⟨(hg.block fb (Array.getElem?_eq_some_iff.1 h.box).1 (fun e => by have := hr fb e.symm; omega)).trans h.box, rd_grown h.row hg (fun k e h2 => ?_)⟩
  have := hr k e
  have h3 : k < fb := h2
  omega
theorem FM.setb {fb : Nat} {gt gn gs : Int} {gr lv bv : Value} {l : List Sym} {W : World} (h : FM fb gt gn gs gr lv bv l W) (bv' : Value) : FM fb gt gn gs gr lv bv' l (W.setCell ⟨fb, 0 + 5, none⟩ bv') := by
  refine ⟨?_, rd_grown h.row (grown_cell W ⟨fb, 0 + 5, none⟩ bv') (fun k e h => by cases e; exact Nat.lt_irrefl _ h)⟩
  have := bx_set h.box (0 + 5) bv'
  simpa using this
theorem FM.lt {fb : Nat} {gt gn gs : Int} {gr lv bv : Value} {l : List Sym} {W : World} (h : FM fb gt gn gs gr lv bv l W) : fb < W.heap.size := (Array.getElem?_eq_some_iff.1 h.box).1
end Hl
end Go.Proofs.Ytjpmebppdcclbaa
namespace Go.Proofs.Ytjpmebppdcclbaa
open Go.RowKit
namespace Hl
open Rp
end Hl
end Go.Proofs.Ytjpmebppdcclbaa
namespace Go.Proofs.Ytjpmebppdcclbaa
open Go.RowKit
namespace Hl
open Rp Al
structure RUH (n1 R : Nat) (vals : Nat → Nat → Option Val) (i : Nat) (rbf : Nat → Nat) (wr : World) : Prop where
  rows : Vrow 139 R n1 (fun x => if x < i then .slice (some ⟨rbf x, 0, none⟩) n1 n1 else .slice none 0 0) wr
  row : ∀ x, x < i → HRow (fun k => R < k ∧ ∀ y, y < i → k ≠ rbf y) (rbf x) n1 (vals x) wr
  lt : ∀ x, x < i → R < rbf x ∧ rbf x < wr.heap.size
  inc : ∀ x y, x < y → y < i → rbf x < rbf y
section
variable {n1 R i : Nat} {vals vals' : Nat → Nat → Option Val} {rbf : Nat → Nat} {wr w' : World}
theorem RUH.keep (h : RUH n1 R vals i rbf wr) (hb : Below wr.heap.size wr w') : RUH n1 R vals i rbf w' :=
  ⟨h.rows.keep hb, fun x hx => (h.row x hx).keep hb, fun x hx => ⟨(h.lt x hx).1, Nat.lt_of_lt_of_le (h.lt x hx).2 hb.size⟩, h.inc⟩
theorem RUH.inj (h : RUH n1 R vals i rbf wr) {x y : Nat} (hx : x < i) (hy : y < i) (e : rbf x = rbf y) : x = y := by
  rcases Nat.lt_trichotomy x y with h1 | h1 | h1
  · have := h.inc x y h1 hy; omega
  · exact h1
  · have := h.inc y x h1 hx; omega
theorem RUH.step (h : RUH n1 R vals i rbf wr) (hi : i < n1) : RUH n1 R (fun x k => if x = i then none else vals x k) (i + 1) (fun x => if x = i then wr.heap.size else rbf x) ((wr.alloc (.cells (madeCells #[.int .i64 0, .slice none 0 0, .bool false] (n1 * 3)) 91)).setCell ⟨R, i, none⟩ (.slice (some ⟨wr.heap.size, 0, none⟩) n1 n1)) := by
  have hal : Below wr.heap.size wr (wr.alloc (.cells (madeCells #[.int .i64 0, .slice none 0 0, .bool false] (n1 * 3)) 91)) := (Below.refl _ _).alloc (Nat.le_refl _) _
  have hg := grown_cell (wr.alloc (.cells (madeCells #[.int .i64 0, .slice none 0 0, .bool false] (n1 * 3)) 91)) ⟨R, i, none⟩ (.slice (some ⟨wr.heap.size, 0, none⟩) n1 n1)
  have hR : R < wr.heap.size := h.rows.lt
  refine ⟨(h.rows.keep hal).set hi (fun k hk => ?_), fun x hx => ?_, fun x hx => ?_, fun x y hxy hy => ?_⟩
  · by_cases e : k = i
    · rw [if_pos e, e, if_pos (by omega), if_pos rfl]
    · by_cases h2 : k < i
      · simp [e, h2, show k < i + 1 by omega]
      · simp [e, h2, show ¬ k < i + 1 by omega]
  · by_cases e : x = i
    · subst e
      simp only [if_true]
      exact (hrow_new _ wr n1 rfl).grown hg (by simp; omega) (fun k e h => by cases e; exact absurd h.1 (Nat.lt_irrefl _))
    · have hx' : x < i := by omega
      have h1 := h.row x hx'
      have hl := (h.lt x hx').1
      rw [show (fun k => if x = i then none else vals x k) = vals x by funext k; rw [if_neg e], show (if x = i then wr.heap.size else rbf x) = rbf x from if_neg e]
      refine ((h1.mono (P' := fun k => R < k ∧ ∀ y, y < i + 1 → k ≠ if y = i then wr.heap.size else rbf y) (fun k hk hlt => ⟨hk.1, fun y hy => ?_⟩)).keep hal).grown hg (by simp; omega) (fun k e h => by cases e; exact absurd h.1 (Nat.lt_irrefl _))
      by_cases e2 : y = i
      · rw [if_pos e2]; omega
      · rw [if_neg e2]; exact hk.2 y (by omega)
  · have hs := hg.size
    have hs2 : (wr.alloc (.cells (madeCells #[.int .i64 0, .slice none 0 0, .bool false] (n1 * 3)) 91)).heap.size = wr.heap.size + 1 := by simp
    by_cases e : x = i
    · rw [if_pos e]; exact ⟨hR, by omega⟩
    · rw [if_neg e]
      have := h.lt x (by omega)
      exact ⟨this.1, by omega⟩
  · by_cases e : y = i
    · rw [if_pos e, if_neg (by omega)]
      exact (h.lt x (by omega)).2
    · rw [if_neg e, if_neg (by omega)]
      exact h.inc x y hxy (by omega)
theorem RUH.set (h : RUH n1 R vals i rbf wr) {x j : Nat} (hx : x < i) (hj : j < n1) {o : Option Val} {u : Value} (hu : Rd (fun k => R < k ∧ ∀ y, y < i → k ≠ rbf y) wr (D.ints (oW o)) [u]) (he : ∀ y, y < i → ∀ k, k < n1 → vals' y k = if y = x ∧ k = j then o else vals y k) :
    RUH n1 R vals' i rbf (((wr.setCell ⟨rbf x, j * 3, none⟩ (.int .i64 (oN o))).setCell ⟨rbf x, j * 3 + 1, none⟩ u).setCell ⟨rbf x, j * 3 + 2, none⟩ (.bool o.isSome)) := by
  have hg := grown_cellsAt3 wr (rbf x) (j * 3) (j * 3 + 1) (j * 3 + 2) (.int .i64 (oN o)) u (.bool o.isSome)
  obtain ⟨l1, l2⟩ := h.lt x hx
  refine ⟨h.rows.grown hg (by simp; omega), fun y hy => ?_, fun y hy => ⟨(h.lt y hy).1, Nat.lt_of_lt_of_le (h.lt y hy).2 hg.size⟩, h.inc⟩
  by_cases e : y = x
  · subst e
    refine (h.row y hy).set hj hu (fun h' => h'.2 y hy rfl) (fun k hk => ?_)
    rw [he y hy k hk]
    by_cases e2 : k = j
    · rw [if_pos ⟨rfl, e2⟩, if_pos e2]
    · rw [if_neg (fun h => e2 h.2), if_neg e2]
  · refine ((h.row y hy).grown hg (by simp; exact fun e2 => e (h.inj hx hy e2).symm) (fun k ek hk => by cases ek; exact hk.2 x hx rfl)).eq (fun k hk => ?_)
    rw [he y hy k hk, if_neg (fun h => e h.1)]
end
def PB (fb n1 a : Nat) (rb : Nat → Nat → Nat) (bv : Value) (k : Nat) : Prop := fb < k ∧ (∀ a' i, a' < a → i < n1 → k ≠ rb a' i) ∧ bv.ownBlock ≠ some k
structure BUH (W : World) (gt : Int) (N st : Nat) (gr lv : Value) (fb : Nat) (l : List Sym) (vals : Tb) (n1 a : Nat) (ra : Nat → Nat) (rb : Nat → Nat → Nat) (bv : Value) (wr : World) : Prop where
  bel : Below W.heap.size W wr
  gbox : wr.heap[W.heap.size]? = some (.cells #[.int .i64 gt, .int .i64 (N : Int), .int .i64 (st : Int), gr] 24 (0, 0))
  out : wr.heap[W.heap.size + 1]? = some (.cells #[.int .i64 0, .slice none 0 0, .bool false] 91 (0, 0))
  fm : FM fb gt N st gr lv bv l wr
  own : wr.ownsRow (fb + 1) 138 1 bv a ((List.range a).map fun k => .slice (some ⟨ra k, 0, none⟩) n1 n1)
  mid : ∀ a', a' < a → ∀ i, i < n1 → wr.cell? ⟨ra a', i, none⟩ = some (.slice (some ⟨rb a' i, 0, none⟩) n1 n1)
  row : ∀ a', a' < a → ∀ i, i < n1 → HRow (PB fb n1 a rb bv) (rb a' i) n1 (vals (a' : Int) i) wr
  lb : ∀ a', a' < a → fb < ra a' ∧ ra a' < wr.heap.size ∧ ∀ i, i < n1 → ra a' < rb a' i ∧ rb a' i < wr.heap.size
  inc : ∀ a', a' < a → ∀ x y, x < y → y < n1 → rb a' x < rb a' y
  sep : ∀ a' a'', a' < a'' → a'' < a → ra a' < ra a'' ∧ ∀ i, i < n1 → rb a' i < ra a''
  ob : ∀ k, bv.ownBlock = some k → ∀ a', a' < a → k ≠ ra a' ∧ ∀ i, i < n1 → k ≠ rb a' i
section
variable {W : World} {gt : Int} {N st : Nat} {gr lv : Value} {fb : Nat} {l : List Sym} {vals : Tb} {n1 a : Nat} {ra : Nat → Nat} {rb : Nat → Nat → Nat} {bv : Value} {wr w' w5 w7 wz : World}
theorem BUH.keep (h : BUH W gt N st gr lv fb l vals n1 a ra rb bv wr) (hb : Below wr.heap.size wr w') : BUH W gt N st gr lv fb l vals n1 a ra rb bv w' :=
  ⟨h.bel.trans (hb.mono h.bel.size), bx_keep h.gbox hb, bx_keep h.out hb, h.fm.keep hb, own_keep h.own hb, fun a' ha i hi => (hb.cell (p := ⟨ra a', i, none⟩) (lt_of_cell (h.mid a' ha i hi))).trans (h.mid a' ha i hi), fun a' ha i hi => (h.row a' ha i hi).keep hb, fun a' ha => by
    obtain ⟨h1, h2, h3⟩ := h.lb a' ha
    exact ⟨h1, Nat.lt_of_lt_of_le h2 hb.size, fun i hi => ⟨(h3 i hi).1, Nat.lt_of_lt_of_le (h3 i hi).2 hb.size⟩⟩, h.inc, h.sep, h.ob⟩
theorem BUH.app (h : BUH W gt N st gr lv fb l vals n1 a ra rb bv w5) (hb : Below w5.heap.size w5 w7) {rbf : Nat → Nat} (hr : RUH n1 w5.heap.size (vals (a : Int)) n1 rbf w7) {v' : Value}
    (hoz : wz.ownsRow (fb + 1) 138 1 v' (a + 1) (((List.range a).map fun k => .slice (some ⟨ra k, 0, none⟩) n1 n1) ++ [.slice (some ⟨w5.heap.size, 0, none⟩) n1 n1])) (hgz : w7.grownBy wz bv.ownBlock) (hat : v'.ownBlock = bv.ownBlock ∨ ∃ k, v'.ownBlock = some k ∧ w7.heap.size ≤ k) (hW : W.heap.size + 1 < fb) :
    BUH W gt N st gr lv fb l vals n1 (a + 1) (fun k => if k = a then w5.heap.size else ra k) (fun k i => if k = a then rbf i else rb k i) v' (wz.setCell ⟨fb, 0 + 5, none⟩ v') := by
  have h7 := h.keep hb
  have hg2 := grown_cell wz ⟨fb, 0 + 5, none⟩ v'
  have hfb5 : fb < w5.heap.size := h.fm.lt
  have hs7 := hb.size
  have hsz := hgz.size
  have hk : ∀ k, bv.ownBlock = some k → fb < k ∧ k < w5.heap.size := fun k e => by have := h.own.lt k e; omega
  have hkn : ∀ b, w5.heap.size ≤ b → bv.ownBlock ≠ some b := fun b hb e => by have := hk b e; omega
  have hnew : ∀ k, v'.ownBlock = some k → bv.ownBlock = some k ∨ w7.heap.size ≤ k := fun k e => by
    rcases hat with h1 | ⟨k', h1, h2⟩
    · exact .inl (by rw [← h1]; exact e)
    · rw [h1] at e; cases e; exact .inr h2
  refine ⟨(h7.bel.grown hgz h7.bel.size (fun k e => by have := hk k e; omega)).grown hg2 ?_ (fun k e => by cases e; show W.heap.size ≤ fb; omega), ?_, ?_, ?_, ?_, ?_, ?_, ?_, ?_, ?_, ?_⟩
  · have := h7.bel.size; omega
  · have h1 := (hgz.block _ (Array.getElem?_eq_some_iff.1 h7.gbox).1 (fun e => by have := hk _ e.symm; omega)).trans h7.gbox
    exact (hg2.block _ (Array.getElem?_eq_some_iff.1 h1).1 (by simp; omega)).trans h1
  · have h1 := (hgz.block _ (Array.getElem?_eq_some_iff.1 h7.out).1 (fun e => by have := hk _ e.symm; omega)).trans h7.out
    exact (hg2.block _ (Array.getElem?_eq_some_iff.1 h1).1 (by simp; omega)).trans h1
  · exact (h7.fm.grown hgz (fun k e => (hk k e).1)).setb v'
  · have e : ((List.range (a + 1)).map fun k => Value.slice (some ⟨(fun k => if k = a then w5.heap.size else ra k) k, 0, none⟩) n1 n1) = ((List.range a).map fun k => .slice (some ⟨ra k, 0, none⟩) n1 n1) ++ [.slice (some ⟨w5.heap.size, 0, none⟩) n1 n1] := by
      rw [List.range_succ, List.map_append]
      congr 1
      · refine List.map_congr_left fun k hk => ?_
        have := List.mem_range.1 hk
        simp; omega
      · simp
    rw [e]
    exact hoz.kept hg2 (.inr (fun e3 => by have h4 : v'.ownBlock = some fb := e3; have := (hoz.lt fb h4).1; omega))
  · intro a' ha' i hi
    by_cases e : a' = a
    · subst e
      simp only [if_true]
      have h1 := (hr.rows.grown hgz (hkn _ (Nat.le_refl _))).cell hi
      rw [if_pos hi] at h1
      exact cell_grown h1 hg2 (by simp; omega)
    · have ha : a' < a := by omega
      rw [show (if a' = a then w5.heap.size else ra a') = ra a' from if_neg e, show (if a' = a then rbf i else rb a' i) = rb a' i from if_neg e]
      have h1 := cell_grown (h7.mid a' ha i hi) hgz (fun e2 => (h.ob _ e2 a' ha).1 rfl)
      exact cell_grown h1 hg2 (by have := (h.lb a' ha).1; simp; omega)
  · intro a' ha' i hi
    have Qd : ∀ P0 : Nat → Prop, ∀ g A wx, HRow P0 g n1 A wx → wx.heap.size = w7.heap.size → wx = w7 → (∀ k, P0 k → k < w7.heap.size → fb < k ∧ (∀ a' i, a' < a + 1 → i < n1 → k ≠ (if a' = a then rbf i else rb a' i)) ∧ bv.ownBlock ≠ some k) → bv.ownBlock ≠ some g → g ≠ fb →
        HRow (PB fb n1 (a + 1) (fun k i => if k = a then rbf i else rb k i) v') g n1 A (wz.setCell ⟨fb, 0 + 5, none⟩ v') := by
      intro P0 g A wx h1 _ ex h2 h3 h4
      subst ex
      have h5 := h1.mono (P' := fun k => (fb < k ∧ (∀ a' i, a' < a + 1 → i < n1 → k ≠ (if a' = a then rbf i else rb a' i)) ∧ bv.ownBlock ≠ some k) ∧ v'.ownBlock ≠ some k) (fun k hk hl => ⟨h2 k hk hl, fun e => by
        rcases hnew k e with h6 | h6
        · exact (h2 k hk hl).2.2 h6
        · omega⟩)
      have h6 := (h5.grown hgz h3 (fun k e h => h.1.2.2 e)).grown hg2 (by simp; exact fun e => h4 e.symm) (fun k e h => by cases e; exact absurd h.1.1 (Nat.lt_irrefl _))
      exact h6.mono (fun k h _ => ⟨h.1.1, h.1.2.1, h.2⟩)
    by_cases e : a' = a
    · subst e
      simp only [if_true]
      refine Qd _ _ _ w7 (hr.row i hi) rfl rfl (fun k hk hl => ⟨by have := hk.1; omega, fun a'' i' ha'' hi' => ?_, hkn k (by have := hk.1; omega)⟩) (hkn _ (by have := (hr.lt i hi).1; omega)) (by have := (hr.lt i hi).1; omega)
      by_cases e2 : a'' = a'
      · rw [if_pos e2]; exact hk.2 i' hi'
      · rw [if_neg e2]
        have := ((h.lb a'' (by omega)).2.2 i' hi').2
        have := hk.1
        omega
    · have ha : a' < a := by omega
      rw [show (if a' = a then rbf i else rb a' i) = rb a' i from if_neg e]
      have h0 := ((h.row a' ha i hi).mono (P' := fun k => PB fb n1 a rb bv k ∧ k < w5.heap.size) (fun k hk hl => ⟨hk, hl⟩)).keep hb
      have hl := (h.lb a' ha).2.2 i hi
      have hf := (h.lb a' ha).1
      refine Qd _ _ _ w7 h0 rfl rfl (fun k hk _ => ⟨hk.1.1, fun a'' i' ha'' hi' => ?_, hk.1.2.2⟩) (fun e2 => (h.ob _ e2 a' ha).2 i hi rfl) (by omega)
      by_cases e2 : a'' = a
      · rw [if_pos e2]
        have := (hr.lt i' hi').1
        have := hk.2
        omega
      · rw [if_neg e2]
        exact hk.1.2.1 a'' i' (by omega) hi'
  · intro a' ha'
    have hs2 := hg2.size
    by_cases e : a' = a
    · rw [show (if a' = a then w5.heap.size else ra a') = w5.heap.size from if_pos e]
      have hR := hr.rows.lt
      refine ⟨hfb5, by omega, fun i hi => ?_⟩
      rw [show (if a' = a then rbf i else rb a' i) = rbf i from if_pos e]
      have := hr.lt i hi
      omega
    · rw [show (if a' = a then w5.heap.size else ra a') = ra a' from if_neg e]
      obtain ⟨h1, h2, h3⟩ := h7.lb a' (by omega)
      refine ⟨h1, by omega, fun i hi => ?_⟩
      rw [show (if a' = a then rbf i else rb a' i) = rb a' i from if_neg e]
      have := h3 i hi
      omega
  · intro a' ha' x y hxy hy
    by_cases e : a' = a
    · rw [show (if a' = a then rbf x else rb a' x) = rbf x from if_pos e, show (if a' = a then rbf y else rb a' y) = rbf y from if_pos e]
      exact hr.inc x y hxy hy
    · rw [show (if a' = a then rbf x else rb a' x) = rb a' x from if_neg e, show (if a' = a then rbf y else rb a' y) = rb a' y from if_neg e]
      exact h.inc a' (by omega) x y hxy hy
  · intro a' a'' h1 h2
    have e0 : a' ≠ a := by omega
    rw [show (if a' = a then w5.heap.size else ra a') = ra a' from if_neg e0]
    by_cases e : a'' = a
    · rw [show (if a'' = a then w5.heap.size else ra a'') = w5.heap.size from if_pos e]
      obtain ⟨_, h4, h5⟩ := h.lb a' (by omega)
      refine ⟨h4, fun i hi => ?_⟩
      rw [show (if a' = a then rbf i else rb a' i) = rb a' i from if_neg e0]
      exact (h5 i hi).2
    · rw [show (if a'' = a then w5.heap.size else ra a'') = ra a'' from if_neg e]
      obtain ⟨h4, h5⟩ := h.sep a' a'' h1 (by omega)
      refine ⟨h4, fun i hi => ?_⟩
      rw [show (if a' = a then rbf i else rb a' i) = rb a' i from if_neg e0]
      exact h5 i hi
  · intro k e a' ha'
    by_cases e2 : a' = a
    · rw [show (if a' = a then w5.heap.size else ra a') = w5.heap.size from if_pos e2]
      have hR := hr.rows.lt
      rcases hnew k e with h2 | h2
      · have := hk k h2
        refine ⟨by omega, fun i hi => ?_⟩
        rw [show (if a' = a then rbf i else rb a' i) = rbf i from if_pos e2]
        have := hr.lt i hi
        omega
      · refine ⟨by omega, fun i hi => ?_⟩
        rw [show (if a' = a then rbf i else rb a' i) = rbf i from if_pos e2]
        have := hr.lt i hi
        omega
    · rw [show (if a' = a then w5.heap.size else ra a') = ra a' from if_neg e2]
      rcases hnew k e with h2 | h2
      · obtain ⟨h3, h4⟩ := h.ob k h2 a' (by omega)
        refine ⟨h3, fun i hi => ?_⟩
        rw [show (if a' = a then rbf i else rb a' i) = rb a' i from if_neg e2]
        exact h4 i hi
      · obtain ⟨_, h3, h4⟩ := h7.lb a' (by omega)
        refine ⟨by omega, fun i hi => ?_⟩
        rw [show (if a' = a then rbf i else rb a' i) = rb a' i from if_neg e2]
        have := h4 i hi
        omega
end
structure MTH (W : World) (gt : Int) (N st : Nat) (gr lv : Value) (fb bk hi bb : Nat) (ra : Nat → Nat) (rb : Nat → Nat → Nat) (l : List Sym) (T : Tb) (wr : World) : Prop where
  bel : Below W.heap.size W wr
  gbox : wr.heap[W.heap.size]? = some (.cells #[.int .i64 gt, .int .i64 (N : Int), .int .i64 (st : Int), gr] 24 (0, 0))
  out : wr.heap[W.heap.size + 1]? = some (.cells #[.int .i64 0, .slice none 0 0, .bool false] 91 (0, 0))
  fm : FM fb gt N st gr lv (.slice (some ⟨bb, 0, none⟩) N bk) l wr
  bt : BH (fun k => fb < k ∧ ∀ a i, a < N → i ≤ l.length → k ≠ rb a i) 0 bb ra rb N l.length T wr
  lt : ∀ a i, a < N → i ≤ l.length → rb a i < hi ∧ fb < rb a i
  le : hi ≤ wr.heap.size
theorem MTH.keep {W : World} {gt : Int} {N st : Nat} {gr lv : Value} {fb bk hi bb : Nat} {ra : Nat → Nat} {rb : Nat → Nat → Nat} {l : List Sym} {T : Tb} {wr w' : World} (h : MTH W gt N st gr lv fb bk hi bb ra rb l T wr) (hb : Below wr.heap.size wr w') : MTH W gt N st gr lv fb bk hi bb ra rb l T w' :=
  ⟨h.bel.trans (hb.mono h.bel.size), bx_keep h.gbox hb, bx_keep h.out hb, h.fm.keep hb, h.bt.keep hb, h.lt, Nat.le_trans h.le hb.size⟩
theorem MTH.set {W : World} {gt : Int} {N st : Nat} {gr lv : Value} {fb bk hi bb : Nat} {ra : Nat → Nat} {rb : Nat → Nat → Nat} {l : List Sym} {T : Tb} {wr : World} (h : MTH W gt N st gr lv fb bk hi bb ra rb l T wr) (hW : W.heap.size + 1 < fb) {a i j : Nat} (ha : a < N) (hi' : i ≤ l.length) (hj : j ≤ l.length) {o : Option Val} {u : Value} (hu : Rd (fun k => fb < k ∧ ∀ a i, a < N → i ≤ l.length → k ≠ rb a i) wr (D.ints (oW o)) [u]) :
    MTH W gt N st gr lv fb bk hi bb ra rb l (upd T (a : Int) i j o) (((wr.setCell ⟨rb a i, j * 3, none⟩ (.int .i64 (oN o))).setCell ⟨rb a i, j * 3 + 1, none⟩ u).setCell ⟨rb a i, j * 3 + 2, none⟩ (.bool o.isSome)) := by
  have hg := grown_cellsAt3 wr (rb a i) (j * 3) (j * 3 + 1) (j * 3 + 2) (.int .i64 (oN o)) u (.bool o.isSome)
  obtain ⟨h1, h2⟩ := h.lt a i ha hi'
  refine ⟨h.bel.grown hg h.bel.size (fun k e => by cases e; omega), (hg.block _ (Array.getElem?_eq_some_iff.1 h.gbox).1 (by simp; omega)).trans h.gbox, (hg.block _ (Array.getElem?_eq_some_iff.1 h.out).1 (by simp; omega)).trans h.out, h.fm.grown hg (fun k e => by cases e; exact h2), h.bt.set ha hi' hj hu, h.lt, Nat.le_trans h.le hg.size⟩
end Hl
end Go.Proofs.Ytjpmebppdcclbaa
namespace Go.Proofs.Ytjpmebppdcclbaa
open Go.RowKit
namespace Hl
open Rp Al
def lenV (sv : Sym → Option Val) (A : Nat) : Int := match sv ⟨false, (A : Int)⟩ with
  | none => -1
  | some v => v.n
def LenC (g : Gram) (gr : Value) (sv : Sym → Option Val) (N : Nat) (W : World) : Prop :=
  Calls Try.prog 79 #[.agg #[.int .i64 g.terms, .int .i64 g.nons, .int .i64 g.start, gr]] W fun e w' => ∃ p, e = .returned (.tuple #[.slice (some ⟨p, 0, none⟩) N N, .int .i64 0]) ∧ Vrow 3 p N (fun A => .int .i64 (lenV sv A)) w' ∧ W.heap.size ≤ p ∧ Below W.heap.size W w'
section
variable {sv : Sym → Option Val} {l : List Sym} {N tm B0 : Nat} {K : List Rule} {T : Tb}
end
end Hl
end Go.Proofs.Ytjpmebppdcclbaa
namespace Go.Proofs.Ytjpmebppdcclbaa
open Go.RowKit
namespace Hl
open Rp Al
section
variable {g : Gram} {N tm : Nat} {V : Sym → Nat → Nat → Option Val}
set_option maxHeartbeats 8000000 in
set_option maxRecDepth 100000 in
theorem lenE (hck : checkG g = 0) (hok : Cs.OkC g N) (hK : KG N g.rules (okS N tm)) (hr4 : ∀ r ∈ g.rules, r.right.length ≤ 4) (hV : VO leafS emS 0 g.rules (okS N tm) (GS tm) V) (hVc : Closed g.rules (clL leafS 0) (clE emS 0) (clV 0 V)) (ra : Option Addr) (rcap : Nat) (w : World) (hr : Rd AnyB w (.sl (g.rules.map Rule.d)) [.slice ra g.rules.length rcap]) :
    LenC g (.slice ra g.rules.length rcap) (fun y => V y 0 0) N w := by
  unfold LenC
  obtain ⟨w0, HW0⟩ := nameIt (w.alloc (.cells #[.int .i64 g.terms, .int .i64 g.nons, .int .i64 g.start, .slice ra g.rules.length rcap] 24))
  have hb0 : Below w.heap.size w w0 := by rw [← HW0.out]; exact (Below.refl _ _).alloc (Nat.le_refl _) _
  have X0 : Hid (w0.heap[w.heap.size]? = some (.cells #[.int .i64 g.terms, .int .i64 g.nons, .int .i64 g.start, .slice ra g.rules.length rcap] 24 (0, 0))) := by rw [← HW0.out]; exact bx_new _ _ _ rfl
  have hck0 := checkE g ra rcap w0 (hr.below hb0)
  rw [hck] at hck0
  have HCK := Lib.hid hck0
  have HLE : Hid (∀ W, Below w0.heap.size w0 W → Calls Try.prog 100 #[.agg #[.int .i64 g.terms, .int .i64 g.nons, .int .i64 g.start, .slice ra g.rules.length rcap]] W (Cs.LnPost g.rules N W)) := fun W hb => Cs.lengthsE g N hok hr4 ra rcap W (hr.below (hb0.trans (hb.mono hb0.size)))
  obtain ⟨PST, HP⟩ := nameIt (fun (e : Ending) (w' : World) => ∃ p, e = .returned (.tuple #[.slice (some ⟨p, 0, none⟩) N N, .int .i64 0]) ∧ Vrow 3 p N (fun A => .int .i64 (lenV (fun y => V y 0 0) A)) w' ∧ w.heap.size ≤ p ∧ Below w.heap.size w w')
  rw [HP.out]
  have HE2 : Hid (∀ (p : Nat) (X : Nat → Int) w', Vrow 3 p N (fun A => .int .i64 (X A)) w' → Cs.LeastV g.rules N X → w0.heap.size ≤ p → Below w0.heap.size w0 w' → PST (.returned (.tuple #[.slice (some ⟨p, 0, none⟩) N N, .int .i64 0])) w') := by
    intro p X w' h3 h4 h5 h6
    rw [← HP.out]
    have hL := leastX hK h4
    exact ⟨p, rfl, h3.eq (fun A hA => by rw [← sv_len hL hV hVc hA]; rfl), Nat.le_trans hb0.size h5, hb0.trans (h6.mono hb0.size)⟩
  obtain ⟨gt, HGT⟩ := nameIt g.terms
  obtain ⟨gn, HGN⟩ := nameIt g.nons
  obtain ⟨gs, HGS⟩ := nameIt g.start
  obtain ⟨rl, HRL⟩ := nameIt g.rules.length
  rw [HGT.out, HGN.out, HGS.out, HRL.out] at HW0 X0 HCK HLE
  rw [HGT.out, HGN.out, HGS.out, HRL.out]
  obtain ⟨x0, x1, x2, x3⟩ := bx_cells4 X0.out
  clear hb0 hr HP hck0 hck hok hK hr4 hV hVc
  go_enter Try.func79, Try.ntmps79
  go_upto_region 1 with fail
  rw [HW0.out]
  go_wp2_with fail
  with_reducible refine HCK.out.mono ?_
  clear x0 x1 x2 x3
  rintro e w1 ⟨rfl, hb1⟩
  have X1 := Lib.hid (bx_keep X0.out hb1)
  have HB1 := Lib.hid hb1
  obtain ⟨x0, x1, x2, x3⟩ := bx_cells4 X1.out
  have HL1 := Lib.hid (HLE.out w1 HB1.out)
  clear hb1 HLE
  go_wp2_with fail
  with_reducible refine HL1.out.mono ?_
  rintro e w2 ⟨p, X, rfl, hv, hl, hp, hb2⟩
  have HF := Lib.hid (HE2.out p X w2 hv hl (Nat.le_trans HB1.out.size hp) (HB1.out.trans (hb2.mono HB1.out.size)))
  clear hv hl hp hb2 x0 x1 x2 x3
  go_wp2_with fail
  first | exact HF.out | (refine bodyPost_ret (results_tmp2 Try.results79 _ _ _) rfl ?_; exact HF.out)
end
end Hl
end Go.Proofs.Ytjpmebppdcclbaa
namespace Go.Proofs.Ytjpmebppdcclbaa
open Go.RowKit
namespace Ho
open Rp Hl Al
open Ht hiding D
def bls (l : List Bool) : List Value := l.map Value.bool
theorem elBl : ElemT Try.prog 54 4 1 1 := ElemT.mk' (z := .bool false) Try.underlying54 (by kernel_rfl) rfl (by decide)
def endsL (hw : Sym → Bool) (k : Nat) : List Bool := (List.range k).map fun a : Nat => hw ⟨false, (a : Int)⟩
theorem endsL_succ (hw : Sym → Bool) (k : Nat) : endsL hw (k + 1) = endsL hw k ++ [hw ⟨false, (k : Int)⟩] := by
  unfold endsL
  rw [List.range_succ, List.map_append]; rfl
theorem endsL_len (hw : Sym → Bool) (k : Nat) : (endsL hw k).length = k := by simp [endsL]
def EndsPost (hw : Sym → Bool) (N : Nat) (W : World) (e : Ending) (w' : World) : Prop :=
  ∃ v, e = .returned (.tuple #[v, .int .i64 0]) ∧ w'.ownsRow W.heap.size 4 1 v N (bls (endsL hw N)) ∧ Below W.heap.size W w'
set_option maxHeartbeats 8000000 in
set_option maxRecDepth 100000 in
theorem endsE (g : Gram) (N : Nat) (hN : N ≤ 10) (sv : Sym → Option Val) (hw : Sym → Bool) (hhw : ∀ y, hw y = (sv y).isSome) (gr : Value) (W : World) (hl : ∀ W', Below W.heap.size W W' → LenC g gr sv N W') :
    Calls Try.prog 43 #[.agg #[.int .i64 g.terms, .int .i64 g.nons, .int .i64 g.start, gr]] W (EndsPost hw N W) := by
  unfold LenC at hl
  obtain ⟨w0, HW0⟩ := nameIt (W.alloc (.cells #[.int .i64 g.terms, .int .i64 g.nons, .int .i64 g.start, gr] 24))
  have hb0 : Below W.heap.size W w0 := by rw [← HW0.out]; exact (Below.refl _ _).alloc (Nat.le_refl _) _
  have X0 : Hid (w0.heap[W.heap.size]? = some (.cells #[.int .i64 g.terms, .int .i64 g.nons, .int .i64 g.start, gr] 24 (0, 0))) := by rw [← HW0.out]; exact bx_new _ _ _ rfl
  have HL0 := Lib.hid (hl w0 hb0)
  have HB0 := Lib.hid hb0
  obtain ⟨PST, HP⟩ := nameIt (EndsPost hw N W)
  have HFIN : Hid (∀ v w', w'.ownsRow W.heap.size 4 1 v N (bls (endsL hw N)) → Below W.heap.size W w' → PST (.returned (.tuple #[v, .int .i64 0])) w') := by
    intro v w' h1 h2
    rw [← HP.out]
    exact ⟨v, rfl, h1, h2⟩
  rw [HP.out]
  have HGE : Hid (∀ a : Nat, (∃ z : Int, lenV sv a = z ∧ decide (0 ≤ z) = hw ⟨false, (a : Int)⟩)) := by
    intro a
    refine ⟨_, rfl, ?_⟩
    rw [hhw]
    unfold lenV
    cases e : sv ⟨false, (a : Int)⟩ with
    | none => simp
    | some v => simp
  obtain ⟨gt, HGT⟩ := nameIt g.terms
  obtain ⟨gn, HGN⟩ := nameIt g.nons
  obtain ⟨gs, HGS⟩ := nameIt g.start
  rw [HGT.out, HGN.out, HGS.out] at HW0 X0 HL0
  rw [HGT.out, HGN.out, HGS.out]
  obtain ⟨x0, x1, x2, x3⟩ := bx_cells4 X0.out
  clear hb0 HP hl
  go_enter Try.func43, Try.ntmps43
  go_upto_region 1 with fail
  rw [HW0.out]
  clear HW0
  go_wp2_with fail
  refine HL0.out.mono ?_
  clear x0 x1 x2 x3
  rintro e w1 ⟨p, rfl, hv, hp, hb1⟩
  have HV := Lib.hid hv
  have HB1 : Hid (Below W.heap.size W w1) := HB0.out.trans (hb1.mono HB0.out.size)
  have HO0 : Hid (w1.ownsRow W.heap.size 4 1 (.slice none 0 0) 0 (bls (endsL hw 0))) := World.ownsRow_nil _ _ _ _
  clear hv hb1 hp
  go_wp2_with fail
  go_loopg [6, 8, 19] N (fun gg v6 v8 v19 wr => ∃ i : Nat, i ≤ N ∧ N - i ≤ gg ∧ v19 = .int .i64 (i : Int) ∧ Hid (Below w1.heap.size w1 wr) ∧ Hid (wr.ownsRow w1.heap.size 4 1 v6 i (bls (endsL hw i))))
  case atStart => exact ⟨0, by omega, by omega, rfl, Below.refl _ _, World.ownsRow_nil _ _ _ _⟩
  case round =>
    obtain ⟨i, hi, hg, rfl, HB, HO⟩ := hrel
    obtain ⟨a6, c6, rfl, -, -⟩ := own_len HO.out
    by_cases hlt : i < N
    · have hlt' : (i : Int) < (N : Int) := by omega
      have hc := (HV.out.keep HB.out).cell hlt
      obtain ⟨z, hz1, hz2⟩ := HGE.out i
      rw [hz1] at hc
      obtain ⟨b, HBN⟩ := nameIt (hw ⟨false, (i : Int)⟩)
      have hes := endsL_succ hw i
      rw [HBN.out] at hz2 hes
      have HES := Lib.hid hes
      have hsz := HB.out.size
      clear hz1 hes
      subst hz2
      go_wp2_with (at_builtin; refine wp_app1 elBl rfl _ _ rfl HO.out rfl rfl rfl rfl (by omega) (by unfold maxLen; omega) hsz ?_)
      intro v6 w6 ho6 hg6
      have HO6 : Hid (w6.ownsRow w1.heap.size 4 1 v6 (i + 1) (bls (endsL hw (i + 1)))) := by
        rw [HES.out]
        unfold bls at ho6 ⊢
        rw [List.map_append]
        exact ho6
      have HB6 : Hid (Below w1.heap.size w1 w6) := HB.out.grown hg6 hsz (fun k e => (HO.out.lt k e).1)
      clear ho6 hg6 hc
      go_wp2_with fail
      go_roundg (N - (i + 1))
      case measure => omega
      case rel => exact ⟨i + 1, by omega, by omega, by go_num, HB6, HO6⟩
    · have hlt' : ¬ (i : Int) < (N : Int) := by omega
      obtain rfl : i = N := by omega
      have HE := Lib.hid (HFIN.out _ wr (HO.out.mono HB1.out.size) (HB1.out.trans (HB.out.mono HB1.out.size)))
      go_wp2_with fail
      first | exact HE.out | (refine bodyPost_ret (results_tmp2 Try.results43 _ _ _) rfl ?_; exact HE.out)
end Ho
end Go.Proofs.Ytjpmebppdcclbaa
namespace Go.Proofs.Ytjpmebppdcclbaa
open Go.RowKit
namespace Ho
open Rp Hl
open Ht hiding D
theorem bls_len (l : List Bool) : (bls l).length = l.length := by simp [bls]
theorem bls_get (l : List Bool) (i : Nat) (h : i < (bls l).length) : (bls l)[i] = .bool (l[i]'(by simpa [bls] using h)) := by simp [bls]
set_option maxHeartbeats 1000000 in
set_option maxRecDepth 100000 in
theorem indexB (l : List Bool) (v : Value) (w : World) (hl : Sl w v (bls l)) :
    Calls Try.prog 95 #[v, .bool true] w fun e w' => e = .returned (.int .i64 (idxG (fun x => x) l)) ∧ Below w.heap.size w w' := by
  obtain ⟨a, cap, rfl⟩ := hl.form
  have HL := Lib.hid hl
  have h1 := hl.len.2
  unfold maxLen at h1
  obtain ⟨h11, h12⟩ := h1
  rw [bls_len] at HL h11
  rw [bls_len]
  obtain ⟨n, HN⟩ := nameIt l.length
  rw [HN.out] at HL h11
  rw [HN.out]
  clear hl
  go_enter Try.func95, Try.ntmps95
  go_wp2_with fail
  go_loopg [5, 8] n (fun gg v5 v8 wr => ∃ i : Nat, i ≤ n ∧ n - i ≤ gg ∧ v8 = .int .i64 i ∧ Hid (Below w.heap.size w wr) ∧ Hid (∀ j (h : j < l.length), j < i → l[j] = false))
  case atStart => exact ⟨0, by omega, by omega, rfl, Below.refl _ _, fun j _ hj => by omega⟩
  case round =>
    obtain ⟨i, hi, hg, rfl, HB, HNN⟩ := hrel
    by_cases hlt : i < n
    · have hlt' : (i : Int) < (n : Int) := by omega
      have hi0 : (0 : Int) ≤ (i : Int) := by omega
      have hil : i < l.length := by rw [HN.out]; exact hlt
      obtain ⟨b, off, he, hc⟩ := (HL.out.keep HB.out).at hlt
      have e0 := hc i (by rw [bls_len]; exact hil)
      rw [bls_get] at e0
      have HX := Lib.hid (rfl : l[i]'hil = l[i]'hil)
      obtain ⟨x, HX⟩ := nameIt (l[i]'hil)
      rw [HX.out] at e0
      subst he
      clear hc
      cases x with
      | true =>
        have HE : Hid (idxG (fun x => x) l = (i : Int)) := idxG_hit hil HX.out HNN.out
        go_wp2_with fail
        go_ret
        exact ⟨by rw [HE.out]; rfl, HB.out⟩
      | false =>
        have HN2 : Hid (∀ j (h : j < l.length), j < i + 1 → l[j] = false) := by
          intro j h hj
          by_cases e : j = i
          · subst e; exact HX.out
          · exact HNN.out j h (by omega)
        go_wp2_with fail
        go_roundg (n - (i + 1))
        case measure => omega
        case rel => exact ⟨i + 1, by omega, by omega, by go_num, HB, HN2⟩
    · have hlt' : ¬ (i : Int) < (n : Int) := by omega
      have HE : Hid (idxG (fun x => x) l = -1) := idxG_none fun j hj => HNN.out j hj (by rw [HN.out] at hj; omega)
      go_wp2_with fail
      go_ret
      exact ⟨by rw [HE.out]; rfl, HB.out⟩
set_option maxHeartbeats 1000000 in
theorem containsB (l : List Bool) (v : Value) (w : World) (hl : Sl w v (bls l)) :
    Calls Try.prog 64 #[v, .bool true] w fun e w' => e = .returned (.bool (l.any fun x => x)) ∧ Below w.heap.size w w' := by
  have HC := Lib.hid (indexB l v w hl)
  obtain ⟨a, cap, rfl⟩ := hl.form
  have hge := idxG_ge (fun x => x) l
  obtain ⟨z, HZ⟩ := nameIt (idxG (fun x => x) l)
  rw [HZ.out] at HC hge
  obtain ⟨b, HBN⟩ := nameIt (l.any fun x => x)
  rw [HBN.out] at hge
  rw [HBN.out]
  clear hl
  go_enter Try.func64, Try.ntmps64
  go_wp2_with fail
  refine HC.out.mono ?_
  rintro e w1 ⟨rfl, hb⟩
  have HB := Lib.hid hb
  clear hb
  go_wp2_with fail
  go_ret
  exact ⟨rfl, HB.out⟩
end Ho
end Go.Proofs.Ytjpmebppdcclbaa
