/- slices.Repeat of one number, few times. Plain: least lengths. Plain: tables of least lengths. Plain: a value of a table of least lengths is set. Plain: the measure of the rounds of useful.lengths; a least value is found (parlref5.Shortest). useful.lengths: the least lengths. useful.Lengths and census.Least. parlref5.Shortest: the least lengths. -/
import Derived.Test.YtbnpemgmdnghgaaJCensusTellsRow9
import Derived.Test.YtbnpemgmdnghgaaJCensusTellsRow19
import Derived.Test.YtbnpemgmdnghgaaJCensusTellsRow5
import Derived.StillTailTactics
import Derived.Deep.LoopGhost
import Derived.Test.YtbnpemgmdnghgaaJCensusTellsRow17
import Derived.Test.YtbnpemgmdnghgaaJCensusTellsRow12
import Derived.Test.YtbnpemgmdnghgaaJCensusTellsRow4
namespace Go.Proofs.Ytbnpemgmdnghgaa
open Go.RowKit
namespace Cs

set_option maxHeartbeats 4000000 in
theorem mul64E (N : Nat) (h1 : 1 ≤ N) (h2 : N ≤ 10) (W : World) : Calls Try.prog 85 #[.int .u64 1, .int .u64 (N : Int)] W fun e w' => e = .returned (.tuple #[.int .u64 0, .int .u64 (N : Int)]) ∧ W = w' := by
  have h : N = 1 ∨ N = 2 ∨ N = 3 ∨ N = 4 ∨ N = 5 ∨ N = 6 ∨ N = 7 ∨ N = 8 ∨ N = 9 ∨ N = 10 := by omega
  rcases h with rfl | rfl | rfl | rfl | rfl | rfl | rfl | rfl | rfl | rfl <;> (
    go_enter Try.func85, Try.ntmps85
    go_wp2_with fail
    refine bodyPost_ret (results_tmp2 Try.results85 _ _ _) rfl ?_
    exact ⟨rfl, rfl⟩)
set_option maxHeartbeats 4000000 in
theorem mulE (N : Nat) (h1 : 1 ≤ N) (h2 : N ≤ 10) (W : World) : Calls Try.prog 83 #[.int .u64 1, .int .u64 (N : Int)] W fun e w' => e = .returned (.tuple #[.int .u64 0, .int .u64 (N : Int)]) ∧ W = w' := by
  have HM := Lib.hid (mul64E N h1 h2)
  go_enter Try.func83, Try.ntmps83
  go_wp2_with fail
  with_reducible refine (HM.out _).mono ?_
  rintro e w1 ⟨rfl, rfl⟩
  go_wp2_with fail
  refine bodyPost_ret (results_tmp2 Try.results83 _ _ _) rfl ?_
  exact ⟨rfl, rfl⟩
theorem vrow_cells {e : TypeId} {p m : Nat} {x : Value} : ∀ (k o : Nat) (A : Nat → Value) (w : World), o + k ≤ m → Vrow e p m A w → Vrow e p m (fun j => if o ≤ j ∧ j < o + k then x else A j) (w.setCells p o (List.replicate k x))
  | 0, o, A, w, _, h => h.eq (fun j _ => by rw [if_neg (by omega)])
  | k + 1, o, A, w, hk, h => by
    rw [List.replicate_succ]
    show Vrow e p m _ ((w.setCell ⟨p, o, none⟩ x).setCells p (o + 1) (List.replicate k x))
    have h1 := h.set (A' := fun j => if j = o then x else A j) (j := o) (x := x) (by omega) (fun j _ => rfl)
    refine (vrow_cells k (o + 1) _ _ (by omega) h1).eq (fun j _ => ?_)
    by_cases e1 : o + 1 ≤ j ∧ j < o + 1 + k
    · rw [if_pos e1, if_pos (by omega)]
    · rw [if_neg e1]
      by_cases e2 : j = o
      · rw [if_pos e2, if_pos (by omega)]
      · rw [if_neg e2, if_neg (by omega)]
theorem below_cells {B p : Nat} {w0 : World} (hp : B ≤ p) : ∀ (l : List Value) (o : Nat) (w : World), Below B w0 w → Below B w0 (w.setCells p o l)
  | [], _, _, h => h
  | x :: l, o, w, h => below_cells hp l (o + 1) _ (h.setCell (p := ⟨p, o, none⟩) hp x)
set_option maxHeartbeats 4000000 in
set_option maxRecDepth 100000 in
theorem repE (N : Nat) (h1 : 1 ≤ N) (h2 : N ≤ 10) (x : Int) (a : Option Addr) (c : Nat) (W : World) (hs : Sl W (.slice a 1 c) (ints [x])) :
    Calls Try.prog 78 #[.slice a 1 c, .int .i64 (N : Int)] W fun e w' => ∃ p, e = .returned (.slice (some ⟨p, 0, none⟩) N N) ∧ Vrow 3 p N (fun _ => .int .i64 x) w' ∧ W.heap.size ≤ p ∧ Below W.heap.size W w' := by
  obtain ⟨PST, HP⟩ := nameIt (fun (e : Ending) (w' : World) => ∃ p, e = .returned (.slice (some ⟨p, 0, none⟩) N N) ∧ Vrow 3 p N (fun _ => .int .i64 x) w' ∧ W.heap.size ≤ p ∧ Below W.heap.size W w')
  rw [HP.out]
  have HFIN : Hid (∀ p w', Vrow 3 p N (fun _ => .int .i64 x) w' → W.heap.size ≤ p → Below W.heap.size W w' → PST (.returned (.slice (some ⟨p, 0, none⟩) N N)) w') := by
    intro p w' q1 q2 q3; rw [← HP.out]; exact ⟨p, rfl, q1, q2, q3⟩
  have HMU := Lib.hid (mulE N h1 h2)
  obtain ⟨bx, ox, hae, hcx⟩ := hs.at (k := 0) (by simp [ints])
  subst hae
  have hc0 : W.cell? ⟨bx, ox, none⟩ = some (.int .i64 x) := by simpa [ints] using hcx 0 (by simp [ints])
  have hmk : ∀ W : World, (Instr.makeSlice 33 (.int .i64 (N : Int)) (.int .i64 (N : Int))).run Try.prog W = .ok (.slice (some ⟨W.heap.size, 0, none⟩) N N) (W.alloc (.cells (madeCells #[.int .i64 0] N) 3)) := fun W => by
    have := run_make_row' (P := Try.prog) 33 3 (.int .i64 0) 8 Try.underlying33 (by kernel_rfl) rfl .i64 .i64 N (by omega) (by omega) W
    simpa using this
  have hn0 : decide ((N : Int) < 0) = false := by simp
  have hn1 : decide ((9223372036854775807 : Int) < (N : Int)) = false := by simp; omega
  clear hcx hs HP
  go_enter Try.func78, Try.ntmps78
  have hinf : (Try.prog.info? 3).map (·.size) = some 1 := by kernel_rfl
  have HINF := Lib.hid hinf
  clear hinf
  obtain ⟨z, HZ⟩ := nameIt (Value.int .i64 x)
  have HZ1 : Hid (z.oneCell' = true) := by rw [← HZ.out]; rfl
  rw [HZ.out] at hc0
  simp only [HZ.out] at HFIN
  have hg1 : decide (0 < (0 : Int)) = false := rfl
  have hg2 : decide ((9223372036854775807 : Int) < (N : Int)) = false := hn1
  go_wp2_with fail
  with_reducible refine (HMU.out _).mono ?_
  rintro e w1 ⟨rfl, rfl⟩
  go_upto_region 6 with fail
  obtain ⟨w2, HW2⟩ := nameIt (W.alloc (.cells (madeCells #[.int .i64 0] N) 3))
  obtain ⟨p, HPN⟩ := nameIt W.heap.size
  have hv2 : Vrow 3 p N (fun _ => .int .i64 0) w2 := by rw [← HW2.out]; exact vrow_new W _ _ N HPN.out.symm
  have hb2 : Below W.heap.size W w2 := by rw [← HW2.out]; exact (Below.refl _ _).alloc (Nat.le_refl _) _
  have hbxl : bx < W.heap.size := lt_of_cell hc0
  have hc2 := (hb2.cell (p := ⟨bx, ox, none⟩) hbxl).trans hc0
  have hpp : W.heap.size ≤ p := by have := HPN.out; omega
  have hcp1 : ∀ ty, (Builtin.copy_ #[33, 33] ty #[.slice (some ⟨p, 0, none⟩) N N, .slice (some ⟨bx, ox, none⟩) 1 c]).run Try.prog w2 = .ok (goInt 1) (w2.setCells p 0 [z]) := by
    intro ty
    have h := run_copy_cells (P := Try.prog) w2 33 33 ty 3 p 0 N N ⟨bx, ox, none⟩ 1 c [z] Try.underlying33 HINF.out (by show 1 = min 1 N; omega)
      (fun j v hj => by
        obtain rfl : j = 0 := by
          have := (List.getElem?_eq_some_iff.1 hj).1
          simp at this; exact this
        simp at hj; subst hj
        simpa [Addr.add] using hc2)
      (fun j hj => by rw [hv2.cell (k := 0 + j) (by simp at hj; omega)]; rfl) (fun j _ => hv2.free _) (fun v hv => by simp at hv; subst hv; exact HZ1.out)
    simpa using h
  have hv3 := vrow_cells (x := z) 1 0 _ w2 (by omega) hv2
  have hb3 := below_cells (B := W.heap.size) hpp (List.replicate 1 z) 0 w2 hb2
  rw [show List.replicate 1 z = [z] from rfl] at hv3 hb3
  obtain ⟨w3, HW3⟩ := nameIt (w2.setCells p 0 [z])
  rw [HW3.out] at hcp1 hv3 hb3
  have HV3 : Hid (Vrow 3 p N (fun j => if j < 1 then z else .int .i64 0) w3) := hv3.eq (fun k _ => by
    by_cases h : k < 1
    · rw [if_pos (by omega), if_pos h]
    · rw [if_neg (by omega), if_neg h])
  have HB3 := Lib.hid hb3
  have HPW := Lib.hid hpp
  clear hv2 hv3 hb3 hb2 hc2 hbxl
  go_upto_region 7 with fail
  rw [HW2.out, HPN.out]
  go_wp2_with (at_builtin; refine wpl_copyK _ rfl _ _ 33 33 rfl rfl rfl (hcp1 _) ?_)
  clear hcp1 hc0
  go_loopg [8] N (fun gg v8 wr => ∃ k : Nat, 1 ≤ k ∧ k ≤ N ∧ N - k ≤ gg ∧ v8 = .int .i64 k ∧ Hid (Vrow 3 p N (fun j => if j < k then z else .int .i64 0) wr) ∧ Hid (Below W.heap.size W wr))
  case atStart => exact ⟨1, by omega, by omega, by omega, rfl, HV3, HB3⟩
  case round =>
    clear HV3 HB3
    obtain ⟨k, hk1, hkN, hgk, rfl, HV, HB⟩ := hrel
    obtain ⟨w5, rfl⟩ : ∃ ww : World, ww = wr := ⟨_, rfl⟩
    by_cases hlt : k < N
    · have hlt' : (k : Int) < (N : Int) := by omega
      obtain ⟨m, HM⟩ := nameIt (min k (N - k))
      have hm1 : 1 ≤ m ∧ m ≤ k ∧ k + m ≤ N := by have := HM.out; omega
      have hcp2 : ∀ ty dc sc, (Builtin.copy_ #[33, 33] ty #[.slice (some ⟨p, k, none⟩) (N - k) dc, .slice (some ⟨p, 0, none⟩) k sc]).run Try.prog w5.drew = .ok (goInt (m : Int)) (w5.drew.setCells p k (List.replicate m z)) := by
        intro ty dc sc
        have hv5 := HV.out.keep ((Below.refl _ _).drew)
        have h := run_copy_cells (P := Try.prog) w5.drew 33 33 ty 3 p k (N - k) dc ⟨p, 0, none⟩ k sc (List.replicate m z) Try.underlying33 HINF.out (by rw [List.length_replicate]; exact HM.out.symm)
          (fun j v hj => by
            have hjm : j < m := by have := (List.getElem?_eq_some_iff.1 hj).1; simpa using this
            have hvz : v = z := by rw [List.getElem?_replicate, if_pos hjm] at hj; exact (Option.some.inj hj).symm
            have := hv5.cell (k := j) (by omega)
            rw [if_pos (by omega)] at this
            rw [hvz]
            have e : (⟨p, 0, none⟩ : Addr).add j = ⟨p, j, none⟩ := by unfold Addr.add; by_cases e : j = 0 <;> simp [e]
            rw [e]; exact this)
          (fun j hj => by rw [hv5.cell (k := k + j) (by simp at hj; omega)]; rfl) (fun j _ => hv5.free _) (fun v hv => by rw [List.eq_of_mem_replicate hv]; exact HZ1.out)
        simpa using h
      have hv6 := vrow_cells (x := z) m k _ w5.drew (by omega) (HV.out.keep ((Below.refl _ _).drew))
      have hb6 := below_cells (B := W.heap.size) HPW.out (List.replicate m z) k w5.drew HB.out.drew
      obtain ⟨w6, HW6⟩ := nameIt (w5.drew.setCells p k (List.replicate m z))
      rw [HW6.out] at hcp2 hv6 hb6
      have HV6 : Hid (Vrow 3 p N (fun j => if j < k + m then z else .int .i64 0) w6) := hv6.eq (fun j _ => by
        by_cases h : k ≤ j ∧ j < k + m
        · rw [if_pos h, if_pos h.2]
        · rw [if_neg h]
          by_cases h2 : j < k
          · rw [if_pos h2, if_pos (by omega)]
          · rw [if_neg h2, if_neg (by omega)])
      have HB6 := Lib.hid hb6
      have hk0 : (0 : Int) ≤ (k : Int) := by omega
      have hkN' : (k : Int) ≤ (N : Int) := by omega
      obtain ⟨km, HKM⟩ := nameIt (k + m)
      have hw : IntKind.i64.wrap ((k : Int) + (m : Int)) = (km : Int) := by rw [IntWalk.i64_in _ (by omega), ← HKM.out]; omega
      have hne : ¬ N = k := by omega
      rw [HKM.out] at HV6
      have hkm : 1 ≤ km ∧ km ≤ N ∧ k < km := by have := HKM.out; omega
      clear hv6 hb6 HV HB HM HKM
      go_upto_region 9 with fail
      go_region_law (refine step_copyK rfl _ _ 33 33 rfl (by simp [Act.eval, Act.put]; try rfl) (by simp [Act.eval, Act.put]; try rfl) (hcp2 _ _ _) ?_)
      all_goals first | (go_wp2_with fail
                         go_roundg (N - km)
                         case measure => omega
                         case rel => exact ⟨km, by omega, by omega, by omega, by go_num, HV6, HB6⟩) | fail
    · have hlt' : ¬ (k : Int) < (N : Int) := by omega
      have hke : k = N := by omega
      subst hke
      have HE := Lib.hid (HFIN.out p w5 (HV.out.eq (fun j hj => by rw [if_pos hj])) HPW.out HB.out)
      go_wp2_with fail
      exact HE.out
end Cs
end Go.Proofs.Ytbnpemgmdnghgaa
namespace Go.Proofs.Ytbnpemgmdnghgaa
open Go.RowKit
namespace Cs

/-- a nonterminal has a tree of so many terminals -/
def Dv (rules : List Rule) (A k : Nat) : Prop := ∃ h, 0 < cnt rules h A k
/-- the lengths of a symbol -/
def Ds (rules : List Rule) (s : Sym) (k : Nat) : Prop := if s.term then k = 1 else Dv rules s.n.toNat k
/-- the lengths of a row of symbols -/
def Dl (rules : List Rule) : List Sym → Nat → Prop
  | [], k => k = 0
  | s :: l, k => ∃ i j, k = i + j ∧ Ds rules s i ∧ Dl rules l j
section
variable {rules : List Rule}
theorem oN_pos {h k : Nat} {s : Sym} (hp : 0 < oN (cnt rules h) s k) : Ds rules s k := by
  unfold oN at hp
  unfold Ds
  by_cases e : s.term = true
  · rw [if_pos e] at hp ⊢
    by_cases e2 : k = 1
    · exact e2
    · rw [if_neg e2] at hp; omega
  · rw [if_neg e] at hp ⊢
    exact ⟨h, hp⟩
theorem cN_dl {h : Nat} : ∀ (l : List Sym) (k : Nat), 0 < cN (oN (cnt rules h)) l k → Dl rules l k
  | [], k, hp => by
    rw [cN] at hp
    by_cases e : k = 0
    · exact e
    · rw [if_neg e] at hp; omega
  | s :: l, k, hp => by
    rw [cN] at hp
    obtain ⟨i, hi, hpi⟩ := sumN_pos_iff.1 hp
    have h1 : 0 < oN (cnt rules h) s i := Nat.pos_of_mul_pos_right hpi
    have h2 : 0 < cN (oN (cnt rules h)) l (k - i) := Nat.pos_of_mul_pos_left hpi
    exact ⟨i, k - i, by omega, oN_pos h1, cN_dl l _ h2⟩
theorem oN_up {h h' k : Nat} (hh : h ≤ h') {s : Sym} : oN (cnt rules h) s k ≤ oN (cnt rules h') s k := oN_mono (fun A i => cnt_mono hh A i) s k
theorem dl_cN : ∀ (l : List Sym) (k : Nat), Dl rules l k → ∃ h, 0 < cN (oN (cnt rules h)) l k
  | [], k, hp => ⟨0, by rw [cN, if_pos (show k = 0 from hp)]; omega⟩
  | s :: l, k, ⟨i, j, e, h1, h2⟩ => by
    obtain ⟨h, hh⟩ := dl_cN l j h2
    have h3 : ∃ h', 0 < oN (cnt rules h') s i := by
      unfold Ds at h1
      unfold oN
      by_cases e : s.term = true
      · rw [if_pos e] at h1
        exact ⟨0, by rw [if_pos e, if_pos h1]; omega⟩
      · rw [if_neg e] at h1
        obtain ⟨h', hd⟩ := h1
        exact ⟨h', by rw [if_neg e]; exact hd⟩
    obtain ⟨h', hh'⟩ := h3
    refine ⟨max h h', ?_⟩
    rw [cN]
    refine sumN_pos_iff.2 ⟨i, by omega, ?_⟩
    have p1 := Nat.lt_of_lt_of_le hh' (oN_up (rules := rules) (k := i) (s := s) (Nat.le_max_right h h'))
    have p2 := Nat.lt_of_lt_of_le hh (cN_mono (fun s i => oN_up (rules := rules) (k := i) (s := s) (Nat.le_max_left h h')) l j)
    rw [show k - i = j by omega]
    exact Nat.mul_pos p1 p2
theorem cR_posI {o : Sym → Nat → Nat} {A : Int} {k : Nat} : ∀ rs : List Rule, 0 < cR o A k rs ↔ ∃ r ∈ rs, r.left = A ∧ 0 < cN o r.right k
  | [] => by simp [cR]
  | r :: rs => by
    rw [cR]
    have ih := cR_posI (o := o) (A := A) (k := k) rs
    constructor
    · intro h
      by_cases e : r.left = A ∧ 0 < cN o r.right k
      · exact ⟨r, List.mem_cons_self, e⟩
      · have : 0 < cR o A k rs := by
          by_cases e2 : r.left = A
          · rw [if_pos e2] at h
            have : ¬ 0 < cN o r.right k := fun h => e ⟨e2, h⟩
            omega
          · rw [if_neg e2] at h; omega
        obtain ⟨r', h1, h2⟩ := ih.1 this
        exact ⟨r', List.mem_cons_of_mem _ h1, h2⟩
    · rintro ⟨r', h1, h2, h3⟩
      rcases List.mem_cons.1 h1 with rfl | h1
      · rw [if_pos h2]; omega
      · have := ih.2 ⟨r', h1, h2, h3⟩
        omega
/-- a rule makes lengths -/
theorem dv_rule {r : Rule} (hr : r ∈ rules) {A k : Nat} (hl : r.left = (A : Int)) (h : Dl rules r.right k) : Dv rules A k := by
  obtain ⟨h', hp⟩ := dl_cN _ _ h
  exact ⟨h' + 1, by rw [cnt]; exact (cR_posI _).2 ⟨r, hr, hl, hp⟩⟩
end
end Cs
end Go.Proofs.Ytbnpemgmdnghgaa
namespace Go.Proofs.Ytbnpemgmdnghgaa
open Go.RowKit
namespace Cs

def stepV (X : Nat → Int) (acc : Int) (s : Sym) : Int := if 0 ≤ acc then (if s.term then acc + 1 else if 0 ≤ X s.n.toNat then acc + X s.n.toNat else -1) else -1
def sumV (X : Nat → Int) (l : List Sym) : Int := l.foldl (stepV X) 0
/-- each number is a length, none is below -1 -/
def SoundV (rules : List Rule) (X : Nat → Int) : Prop := ∀ A, -1 ≤ X A ∧ (0 ≤ X A → Dv rules A (X A).toNat)
def ClosedV (rules : List Rule) (X : Nat → Int) : Prop := ∀ r ∈ rules, 0 ≤ sumV X r.right → 0 ≤ X r.left.toNat ∧ X r.left.toNat ≤ sumV X r.right
def LeastV (rules : List Rule) (N : Nat) (X : Nat → Int) : Prop := ∀ A, A < N → -1 ≤ X A ∧ (0 ≤ X A → Dv rules A (X A).toNat) ∧ ∀ k, Dv rules A k → 0 ≤ X A ∧ X A ≤ (k : Int)
theorem leastV_eq {rules : List Rule} {N : Nat} {X Y : Nat → Int} (h1 : LeastV rules N X) (h2 : LeastV rules N Y) {A : Nat} (hA : A < N) : X A = Y A := by
  obtain ⟨a1, a2, a3⟩ := h1 A hA
  obtain ⟨b1, b2, b3⟩ := h2 A hA
  by_cases hx : 0 ≤ X A
  · obtain ⟨c1, c2⟩ := b3 _ (a2 hx)
    obtain ⟨d1, d2⟩ := a3 _ (b2 c1)
    omega
  · by_cases hy : 0 ≤ Y A
    · have := a3 _ (b2 hy); omega
    · omega
theorem stepV_snoc {X : Nat → Int} {l : List Sym} {s : Sym} : sumV X (l ++ [s]) = stepV X (sumV X l) s := by unfold sumV; rw [List.foldl_append]; rfl
section
variable {rules : List Rule} {X : Nat → Int}
theorem fold_neg : ∀ (l : List Sym) (a : Int), a < 0 → l.foldl (stepV X) a < 0
  | [], _, h => h
  | s :: l, a, h => by
    rw [List.foldl_cons]
    refine fold_neg l _ ?_
    unfold stepV
    rw [if_neg (by omega)]; omega
theorem fold_dl (hs : SoundV rules X) : ∀ (l : List Sym) (a : Int), 0 ≤ a → 0 ≤ l.foldl (stepV X) a → a ≤ l.foldl (stepV X) a ∧ Dl rules l (l.foldl (stepV X) a - a).toNat
  | [], a, _, _ => by
    rw [List.foldl_nil]
    exact ⟨Int.le_refl _, by show (a - a).toNat = 0; omega⟩
  | s :: l, a, ha, h => by
    rw [List.foldl_cons] at h ⊢
    by_cases hb : 0 ≤ stepV X a s
    · obtain ⟨h1, h2⟩ := fold_dl hs l _ hb h
      have hst : a ≤ stepV X a s ∧ Ds rules s (stepV X a s - a).toNat := by
        unfold stepV at hb ⊢
        unfold Ds
        rw [if_pos ha] at hb ⊢
        by_cases e : s.term = true
        · rw [if_pos e, if_pos e]; omega
        · rw [if_neg e] at hb
          rw [if_neg e, if_neg e]
          by_cases e2 : 0 ≤ X s.n.toNat
          · rw [if_pos e2]
            refine ⟨by omega, ?_⟩
            have := (hs s.n.toNat).2 e2
            rwa [show a + X s.n.toNat - a = X s.n.toNat by omega]
          · rw [if_neg e2] at hb; omega
      refine ⟨by omega, ?_⟩
      exact ⟨(stepV X a s - a).toNat, (l.foldl (stepV X) (stepV X a s) - stepV X a s).toNat, by omega, hst.2, h2⟩
    · have hn := fold_neg (X := X) l (stepV X a s) (by omega)
      omega
theorem sum_dl (hs : SoundV rules X) {l : List Sym} (h : 0 ≤ sumV X l) : Dl rules l (sumV X l).toNat := by
  have := (fold_dl hs l 0 (Int.le_refl _) h).2
  rwa [Int.sub_zero] at this
/-- a table with which each derivation is met -/
theorem fold_le {h : Nat} (hle : ∀ A k, 0 < cnt rules h A k → 0 ≤ X A ∧ X A ≤ (k : Int)) : ∀ (l : List Sym) (k : Nat) (a : Int), 0 ≤ a → 0 < cN (oN (cnt rules h)) l k → 0 ≤ l.foldl (stepV X) a ∧ l.foldl (stepV X) a ≤ a + k
  | [], k, a, ha, hp => by
    rw [List.foldl_nil]; omega
  | s :: l, k, a, ha, hp => by
    rw [cN] at hp
    obtain ⟨i, hi, hpi⟩ := sumN_pos_iff.1 hp
    have h1 : 0 < oN (cnt rules h) s i := Nat.pos_of_mul_pos_right hpi
    have h2 : 0 < cN (oN (cnt rules h)) l (k - i) := Nat.pos_of_mul_pos_left hpi
    have hst : 0 ≤ stepV X a s ∧ stepV X a s ≤ a + i := by
      unfold stepV
      unfold oN at h1
      rw [if_pos ha]
      by_cases e : s.term = true
      · rw [if_pos e] at h1 ⊢
        by_cases e2 : i = 1
        · omega
        · rw [if_neg e2] at h1; omega
      · rw [if_neg e] at h1 ⊢
        have := hle _ _ h1
        rw [if_pos this.1]; omega
    rw [List.foldl_cons]
    have := fold_le hle l (k - i) _ hst.1 h2
    omega
theorem closed_least (hs : SoundV rules X) (hl : ∀ r ∈ rules, 0 ≤ r.left) (hc : ClosedV rules X) (N : Nat) : LeastV rules N X := by
  have key : ∀ h A k, 0 < cnt rules h A k → 0 ≤ X A ∧ X A ≤ (k : Int) := by
    intro h
    induction h with
    | zero => intro A k hp; exact absurd hp (Nat.lt_irrefl _)
    | succ h ih =>
      intro A k hp
      rw [cnt] at hp
      obtain ⟨r, hr, he, h2⟩ := (cR_posI _).1 hp
      have h3 := fold_le ih r.right k 0 (Int.le_refl _) h2
      have h4 := hc r hr h3.1
      have : r.left.toNat = A := by rw [he]; simp
      rw [this] at h4
      have h5 : sumV X r.right ≤ 0 + k := h3.2
      omega
  intro A _
  exact ⟨(hs A).1, (hs A).2, fun k ⟨h, hp⟩ => key h A k hp⟩
end
end Cs
end Go.Proofs.Ytbnpemgmdnghgaa
namespace Go.Proofs.Ytbnpemgmdnghgaa
open Go.RowKit
namespace Cs

def setV (X : Nat → Int) (A : Nat) (v : Int) : Nat → Int := fun B => if B = A then v else X B
/-- how many are set -/
def nset (X : Nat → Int) (N : Nat) : Nat := sumN (fun A => if 0 ≤ X A then 1 else 0) N
/-- the values are small -/
def BdV (X : Nat → Int) (N : Nat) : Prop := (∀ A, X A ≤ ((4 ^ nset X N : Nat) : Int)) ∧ ∀ A, N ≤ A → X A = -1
section
variable {rules : List Rule} {X : Nat → Int} {N A : Nat} {v : Int}
theorem setV_sound (hs : SoundV rules X) (h0 : 0 ≤ v) (hd : Dv rules A v.toNat) : SoundV rules (setV X A v) := by
  intro B
  unfold setV
  by_cases e : B = A
  · subst e; rw [if_pos rfl]; exact ⟨by omega, fun _ => hd⟩
  · rw [if_neg e]; exact hs B
theorem nset_le : nset X N ≤ N := by
  unfold nset
  have h : ∀ n, sumN (fun A => if 0 ≤ X A then 1 else 0) n ≤ n := by
    intro n
    induction n with
    | zero => exact Nat.le_refl _
    | succ n ih =>
      show sumN _ n + (if 0 ≤ X n then 1 else 0) ≤ n + 1
      split <;> omega
  exact h N
theorem nset_set (hA : A < N) (h0 : 0 ≤ v) : nset X N ≤ nset (setV X A v) N ∧ (X A < 0 → nset X N + 1 ≤ nset (setV X A v) N) := by
  unfold nset
  have hle : ∀ i, i < N → (if 0 ≤ X i then 1 else 0) ≤ (if 0 ≤ setV X A v i then 1 else 0) := by
    intro i _
    unfold setV
    by_cases e : i = A
    · rw [if_pos e, if_pos h0]; split <;> omega
    · rw [if_neg e]; exact Nat.le_refl _
  refine ⟨sumN_le _ hle, fun hx => ?_⟩
  refine sumN_lt_iff hle |>.2 ⟨A, hA, ?_⟩
  rw [if_neg (by omega)]
  unfold setV
  rw [if_pos rfl, if_pos h0]; omega
/-- a sum of at most four small values -/
theorem fold_bd {M : Int} (hM : 1 ≤ M) (hX : ∀ A, X A ≤ M) : ∀ (l : List Sym) (a : Int), l.foldl (stepV X) a ≤ (if 0 ≤ a then a else 0) + M * l.length
  | [], a => by
    rw [List.foldl_nil]
    split <;> simp <;> omega
  | s :: l, a => by
    rw [List.foldl_cons]
    have ih := fold_bd hM hX l (stepV X a s)
    have h2 : (if 0 ≤ stepV X a s then stepV X a s else 0) ≤ (if 0 ≤ a then a else 0) + M := by
      unfold stepV
      have := hX s.n.toNat
      repeat (any_goals split)
      all_goals omega
    have h3 : M * ((s :: l).length : Int) = M * l.length + M := by rw [List.length_cons]; push_cast; rw [Int.mul_add, Int.mul_one]
    rw [h3]
    omega
theorem bdV_set (hb : BdV X N) (hA : A < N) (h0 : 0 ≤ v) (hv : v < X A ∨ (X A < 0 ∧ v ≤ 4 * ((4 ^ nset X N : Nat) : Int))) : BdV (setV X A v) N := by
  obtain ⟨h1, h2⟩ := hb
  obtain ⟨n1, n2⟩ := nset_set (X := X) hA h0
  have hp : ((4 ^ nset X N : Nat) : Int) ≤ ((4 ^ nset (setV X A v) N : Nat) : Int) := by exact_mod_cast Nat.pow_le_pow_right (by decide) n1
  refine ⟨fun B => ?_, fun B hB => ?_⟩
  · unfold setV
    by_cases e : B = A
    · rw [if_pos e]
      rcases hv with hv | ⟨hx, hv⟩
      · have := h1 A
        unfold setV at hp
        omega
      · have h4 : 4 ^ (nset X N + 1) ≤ 4 ^ nset (setV X A v) N := Nat.pow_le_pow_right (by decide) (n2 hx)
        rw [Nat.pow_succ] at h4
        unfold setV at h4
        omega
    · rw [if_neg e]
      have := h1 B
      unfold setV at hp
      omega
  · unfold setV
    rw [if_neg (by omega)]; exact h2 B hB
end
end Cs
end Go.Proofs.Ytbnpemgmdnghgaa
namespace Go.Proofs.Ytbnpemgmdnghgaa
open Go.RowKit
namespace Cs

def muV (X : Nat → Int) (N : Nat) : Nat := sumN (fun A => if 0 ≤ X A then (X A).toNat else 2000000) N
section
variable {rules : List Rule} {X : Nat → Int} {N A : Nat} {v : Int}
theorem pow10 {m : Nat} (h : m ≤ 10) : 4 ^ m ≤ 1048576 := Nat.le_trans (Nat.pow_le_pow_right (by decide) h) (by decide)
theorem BdV.le (hb : BdV X N) (hN : N ≤ 10) (A : Nat) : X A ≤ 1048576 := by
  have h1 := hb.1 A
  have h2 := pow10 (m := nset X N) (Nat.le_trans nset_le hN)
  omega
theorem foldV_ge : ∀ (l : List Sym) (a : Int), -1 ≤ a → -1 ≤ l.foldl (stepV X) a
  | [], _, h => h
  | s :: l, a, h => by
    rw [List.foldl_cons]
    refine foldV_ge l _ ?_
    unfold stepV
    repeat (any_goals split)
    all_goals omega
theorem sum_ge (l : List Sym) : -1 ≤ sumV X l := foldV_ge l 0 (by omega)
theorem sum_bd (hb : BdV X N) {l : List Sym} (hl : l.length ≤ 4) : sumV X l ≤ 4 * ((4 ^ nset X N : Nat) : Int) := by
  have h1 : 1 ≤ 4 ^ nset X N := Nat.one_le_pow _ _ (by decide)
  have h2 := fold_bd (X := X) (M := ((4 ^ nset X N : Nat) : Int)) (by omega) hb.1 l 0
  unfold sumV
  have h3 : ((4 ^ nset X N : Nat) : Int) * (l.length : Int) ≤ ((4 ^ nset X N : Nat) : Int) * 4 := Int.mul_le_mul_of_nonneg_left (by omega) (by omega)
  have h4 : (if (0 : Int) ≤ 0 then (0 : Int) else 0) = 0 := rfl
  rw [h4] at h2
  omega
theorem sum_le (hb : BdV X N) (hN : N ≤ 10) {l : List Sym} (hl : l.length ≤ 4) : sumV X l ≤ 4194304 := by
  have h1 := sum_bd hb hl
  have h2 := pow10 (m := nset X N) (Nat.le_trans nset_le hN)
  omega
theorem mu_set (hN : N ≤ 10) (hA : A < N) (h0 : 0 ≤ v) (hv : v < X A ∨ (X A < 0 ∧ v ≤ 4 * ((4 ^ nset X N : Nat) : Int))) : muV (setV X A v) N < muV X N := by
  have hv2 : X A < 0 → v ≤ 1048576 := by
    intro hx
    have h1 := (nset_set (X := X) (N := N) hA h0).2 hx
    have h2 : nset (setV X A v) N ≤ N := nset_le
    have h3 := pow10 (m := nset X N + 1) (by omega)
    rw [Nat.pow_succ] at h3
    omega
  unfold muV
  have hs : ∀ i, i < N → (if 0 ≤ setV X A v i then (setV X A v i).toNat else 2000000) ≤ (if 0 ≤ X i then (X i).toNat else 2000000) := by
    intro i _
    unfold setV
    by_cases e : i = A
    · subst e
      rw [if_pos rfl, if_pos h0]
      by_cases hx : 0 ≤ X i
      · rw [if_pos hx]; omega
      · rw [if_neg hx]; have := hv2 (by omega); omega
    · rw [if_neg e]; exact Nat.le_refl _
  refine (sumN_lt_iff hs).2 ⟨A, hA, ?_⟩
  unfold setV
  rw [if_pos rfl, if_pos h0]
  by_cases hx : 0 ≤ X A
  · rw [if_pos hx]; omega
  · rw [if_neg hx]; have := hv2 (by omega); omega
theorem mu_start : muV (fun _ => -1) N ≤ 2000000 * N := by
  have h : ∀ n, sumN (fun A => if (0 : Int) ≤ (fun _ : Nat => (-1 : Int)) A then ((fun _ : Nat => (-1 : Int)) A).toNat else 2000000) n = n * 2000000 := fun n => (sumN_same n (fun i _ => by rw [if_neg (by show ¬ (0 : Int) ≤ -1; omega)])).trans (sumN_const 2000000 n)
  unfold muV
  rw [h N]; omega
theorem sound_start : SoundV rules (fun _ => -1) := fun _ => ⟨Int.le_refl _, fun h => absurd h (by show ¬ (0 : Int) ≤ -1; omega)⟩
theorem bd_start : BdV (fun _ => -1) N := ⟨fun _ => by show (-1 : Int) ≤ _; have : (0 : Int) ≤ ((4 ^ nset (fun _ => -1) N : Nat) : Int) := Int.natCast_nonneg _; omega, fun _ _ => rfl⟩
theorem nset_full (h : N ≤ nset X N) : ∀ A, A < N → 0 ≤ X A := by
  intro A hA
  refine Decidable.byContradiction fun hx => ?_
  have h1 := (nset_set (X := X) (N := N) (v := 0) hA (Int.le_refl _)).2 (by omega)
  have h2 : nset (setV X A 0) N ≤ N := nset_le
  omega
/-- what the set values are: least -/
def LowV (rules : List Rule) (X : Nat → Int) : Prop := ∀ A k, 0 ≤ X A → Dv rules A k → X A ≤ (k : Int)
/-- a candidate that is not above the sums of the rules of what is not set -/
def CandV (rules : List Rule) (X : Nat → Int) (b : Int) : Prop := ∀ r ∈ rules, X r.left.toNat < 0 → 0 ≤ sumV X r.right → b ≤ sumV X r.right
theorem knuth_row {h : Nat} {b : Int} (hlow : LowV rules X) (ih : ∀ B k, X B < 0 → 0 < cnt rules h B k → b ≤ (k : Int)) : ∀ (l : List Sym) (k : Nat) (a : Int), 0 ≤ a → 0 < cN (oN (cnt rules h)) l k → (0 ≤ l.foldl (stepV X) a ∧ l.foldl (stepV X) a ≤ a + k) ∨ b ≤ (k : Int)
  | [], k, a, ha, hp => by rw [List.foldl_nil]; omega
  | s :: l, k, a, ha, hp => by
    rw [cN] at hp
    obtain ⟨i, hi, hpi⟩ := sumN_pos_iff.1 hp
    have h1 : 0 < oN (cnt rules h) s i := Nat.pos_of_mul_pos_right hpi
    have h2 : 0 < cN (oN (cnt rules h)) l (k - i) := Nat.pos_of_mul_pos_left hpi
    have hst : (0 ≤ stepV X a s ∧ stepV X a s ≤ a + i) ∨ b ≤ (i : Int) := by
      unfold stepV
      unfold oN at h1
      rw [if_pos ha]
      by_cases e : s.term = true
      · rw [if_pos e] at h1 ⊢
        by_cases e2 : i = 1
        · omega
        · rw [if_neg e2] at h1; omega
      · rw [if_neg e] at h1 ⊢
        by_cases hx : 0 ≤ X s.n.toNat
        · rw [if_pos hx]
          have := hlow _ _ hx ⟨h, h1⟩
          omega
        · exact .inr (ih _ _ (by omega) h1)
    rw [List.foldl_cons]
    rcases hst with hst | hst
    · rcases knuth_row hlow ih l (k - i) _ hst.1 h2 with h3 | h3
      · left; omega
      · right; omega
    · right; omega
theorem knuth {b : Int} (hl : ∀ r ∈ rules, 0 ≤ r.left) (hlow : LowV rules X) (hc : CandV rules X b) : ∀ h B k, X B < 0 → 0 < cnt rules h B k → b ≤ (k : Int) := by
  intro h
  induction h with
  | zero => intro B k _ hp; exact absurd hp (Nat.lt_irrefl _)
  | succ h ih =>
    intro B k hx hp
    rw [cnt] at hp
    obtain ⟨r, hr, he, h2⟩ := (cR_posI _).1 hp
    have hB : r.left.toNat = B := by rw [he]; simp
    rcases knuth_row hlow ih r.right k 0 (Int.le_refl _) h2 with h3 | h3
    · have := hc r hr (by rw [hB]; exact hx) h3.1
      have h5 : sumV X r.right ≤ 0 + k := h3.2
      omega
    · exact h3
theorem low_start : LowV rules (fun _ => -1) := fun _ _ h _ => absurd h (by show ¬ (0 : Int) ≤ -1; omega)
theorem low_set (hl : ∀ r ∈ rules, 0 ≤ r.left) (hlow : LowV rules X) (hc : CandV rules X v) (hx : X A < 0) : LowV rules (setV X A v) := by
  intro B k h0 hd
  unfold setV at h0 ⊢
  by_cases e : B = A
  · subst e
    rw [if_pos rfl]
    obtain ⟨h, hp⟩ := hd
    exact knuth hl hlow hc h _ _ hx hp
  · rw [if_neg e] at h0 ⊢
    exact hlow _ _ h0 hd
/-- no rule sets a value -/
def StuckV (rules : List Rule) (X : Nat → Int) : Prop := ∀ r ∈ rules, X r.left.toNat < 0 → ¬ 0 ≤ sumV X r.right
theorem stuck_none (hl : ∀ r ∈ rules, 0 ≤ r.left) (hlow : LowV rules X) (hs : StuckV rules X) {B k : Nat} (hx : X B < 0) : ¬ Dv rules B k := by
  rintro ⟨h, hp⟩
  have := knuth (b := (k : Int) + 1) hl hlow (fun r hr h1 h2 => absurd h2 (hs r hr h1)) h _ _ hx hp
  omega
theorem end_least (hl : ∀ r ∈ rules, 0 ≤ r.left) (hs : SoundV rules X) (hlow : LowV rules X) (h : N ≤ nset X N ∨ StuckV rules X) : LeastV rules N X := by
  intro A hA
  refine ⟨(hs A).1, (hs A).2, fun k hd => ?_⟩
  by_cases hx : 0 ≤ X A
  · exact ⟨hx, hlow _ _ hx hd⟩
  · rcases h with h | h
    · exact absurd (nset_full h A hA) hx
    · exact absurd hd (stuck_none hl hlow h (by omega))
/-- the sum as parlref5 makes it -/
def stepT (X : Nat → Int) (acc : Int) (s : Sym) : Int := if s.term then acc + 1 else if X s.n.toNat < 0 then 1125899906842624 else acc + X s.n.toNat
def sumT (X : Nat → Int) (l : List Sym) : Int := l.foldl (stepT X) 0
theorem stepT_snoc {l : List Sym} {s : Sym} : sumT X (l ++ [s]) = stepT X (sumT X l) s := by unfold sumT; rw [List.foldl_append]; rfl
theorem foldT {M : Int} (hM : 1 ≤ M) (hX : ∀ A, X A ≤ M) (hX1 : ∀ A, -1 ≤ X A) : ∀ (l : List Sym) (a b : Int), (0 ≤ a ∧ b = a) ∨ (a < 0 ∧ 1125899906842624 ≤ b) → ((0 ≤ l.foldl (stepV X) a ∧ l.foldl (stepT X) b = l.foldl (stepV X) a) ∨ (l.foldl (stepV X) a < 0 ∧ 1125899906842624 ≤ l.foldl (stepT X) b))
  | [], a, b, h => h
  | s :: l, a, b, h => by
    rw [List.foldl_cons, List.foldl_cons]
    refine foldT hM hX hX1 l _ _ ?_
    have h1 := hX s.n.toNat
    have h2 := hX1 s.n.toNat
    unfold stepV stepT
    rcases h with ⟨h, rfl⟩ | ⟨h, hb⟩
    · rw [if_pos h]
      by_cases e : s.term = true
      · rw [if_pos e, if_pos e]; left; omega
      · rw [if_neg e, if_neg e]
        by_cases hx : X s.n.toNat < 0
        · rw [if_pos hx, if_neg (by omega)]; right; omega
        · rw [if_neg hx, if_pos (by omega)]; left; omega
    · rw [if_neg (by omega)]
      right
      refine ⟨by omega, ?_⟩
      by_cases e : s.term = true
      · rw [if_pos e]; omega
      · rw [if_neg e]
        by_cases hx : X s.n.toNat < 0
        · rw [if_pos hx]; omega
        · rw [if_neg hx]; omega
theorem foldT_le {M : Int} (hM : 1 ≤ M) (hX : ∀ A, X A ≤ M) (hX1 : ∀ A, -1 ≤ X A) : ∀ (l : List Sym) (b : Int), 0 ≤ b → 0 ≤ l.foldl (stepT X) b ∧ l.foldl (stepT X) b ≤ 1125899906842624 + b + M * l.length
  | [], b, h => by
    rw [List.foldl_nil]
    simp; omega
  | s :: l, b, h => by
    have h1 := hX s.n.toNat
    have h2 := hX1 s.n.toNat
    have h3 : M * ((s :: l).length : Int) = M * l.length + M := by rw [List.length_cons]; push_cast; rw [Int.mul_add, Int.mul_one]
    rw [List.foldl_cons, h3]
    have hML : 0 ≤ M * (l.length : Int) := Int.mul_nonneg (by omega) (by omega)
    unfold stepT
    by_cases e : s.term = true
    · rw [if_pos e]
      have := foldT_le hM hX hX1 l (b + 1) (by omega)
      unfold stepT at this
      omega
    · rw [if_neg e]
      by_cases hx : X s.n.toNat < 0
      · rw [if_pos hx]
        have h6 := foldT_big hM hX hX1 l 1125899906842624 (by omega)
        unfold stepT at h6
        omega
      · rw [if_neg hx]
        have := foldT_le hM hX hX1 l (b + X s.n.toNat) (by omega)
        unfold stepT at this
        omega
where
  foldT_big {M : Int} (hM : 1 ≤ M) (hX : ∀ A, X A ≤ M) (hX1 : ∀ A, -1 ≤ X A) : ∀ (l : List Sym) (b : Int), 1125899906842624 ≤ b → 0 ≤ l.foldl (stepT X) b ∧ l.foldl (stepT X) b ≤ b + M * l.length
  | [], b, h => by
    rw [List.foldl_nil]
    simp; omega
  | s :: l, b, h => by
    have h1 := hX s.n.toNat
    have h2 := hX1 s.n.toNat
    have h3 : M * ((s :: l).length : Int) = M * l.length + M := by rw [List.length_cons]; push_cast; rw [Int.mul_add, Int.mul_one]
    rw [List.foldl_cons, h3]
    unfold stepT
    by_cases e : s.term = true
    · rw [if_pos e]
      have := foldT_big hM hX hX1 l (b + 1) (by omega)
      unfold stepT at this
      omega
    · rw [if_neg e]
      by_cases hx : X s.n.toNat < 0
      · rw [if_pos hx]
        have h6 := foldT_big hM hX hX1 l 1125899906842624 (by omega)
        unfold stepT at h6
        omega
      · rw [if_neg hx]
        have := foldT_big hM hX hX1 l (b + X s.n.toNat) (by omega)
        unfold stepT at this
        omega
theorem sumT_sum (hs : SoundV rules X) (hb : BdV X N) (hN : N ≤ 10) (l : List Sym) : (0 ≤ sumV X l ∧ sumT X l = sumV X l) ∨ (sumV X l < 0 ∧ 1125899906842624 ≤ sumT X l) :=
  foldT (M := 1048576) (by omega) (fun A => hb.le hN A) (fun A => (hs A).1) l 0 0 (.inl ⟨Int.le_refl _, rfl⟩)
theorem sumT_le (hs : SoundV rules X) (hb : BdV X N) (hN : N ≤ 10) {l : List Sym} (hl : l.length ≤ 4) : 0 ≤ sumT X l ∧ sumT X l ≤ 1125899911036928 := by
  have h := foldT_le (X := X) (M := 1048576) (by omega) (fun A => hb.le hN A) (fun A => (hs A).1) l 0 (Int.le_refl _)
  have h2 : (1048576 : Int) * (l.length : Int) ≤ 4194304 := by omega
  unfold sumT
  omega
end
end Cs
end Go.Proofs.Ytbnpemgmdnghgaa
namespace Go.Proofs.Ytbnpemgmdnghgaa
open Go.RowKit
namespace Cs

/-- a table of lengths in memory -/
structure LTb (rules : List Rule) (N : Nat) (W0 : World) (p : Nat) (X : Nat → Int) (wr : World) : Prop where
  row : Vrow 3 p N (fun A => .int .i64 (X A)) wr
  snd : SoundV rules X
  bd : BdV X N
  bel : Below W0.heap.size W0 wr
  lo : W0.heap.size ≤ p
section
variable {rules : List Rule} {N p : Nat} {W0 wr w' : World} {X X' : Nat → Int}
theorem LTb.keep (h : LTb rules N W0 p X wr) (hb : Below wr.heap.size wr w') : LTb rules N W0 p X w' := ⟨h.row.keep hb, h.snd, h.bd, h.bel.trans (hb.mono h.bel.size), h.lo⟩
theorem LTb.set (h : LTb rules N W0 p X wr) {A : Nat} {v : Int} (hA : A < N) (hs : SoundV rules (setV X A v)) (hb : BdV (setV X A v) N) : LTb rules N W0 p (setV X A v) (wr.setCell ⟨p, A, none⟩ (.int .i64 v)) :=
  ⟨h.row.set hA (fun k _ => by unfold setV; split <;> rfl), hs, hb, h.bel.setCell (p := ⟨p, A, none⟩) h.lo _, h.lo⟩
/-- the rules so far are met -/
def ClosedTo (rules : List Rule) (i : Nat) (X : Nat → Int) : Prop := ∀ r ∈ rules.take i, 0 ≤ sumV X r.right → 0 ≤ X r.left.toNat ∧ X r.left.toNat ≤ sumV X r.right
theorem closedTo_next {i : Nat} (hi : i < rules.length) (h : ClosedTo rules i X) (hr : 0 ≤ sumV X rules[i].right → 0 ≤ X rules[i].left.toNat ∧ X rules[i].left.toNat ≤ sumV X rules[i].right) : ClosedTo rules (i + 1) X := by
  intro r hm
  rw [List.take_succ_eq_append_getElem hi, List.mem_append] at hm
  rcases hm with hm | hm
  · exact h r hm
  · simp at hm; subst hm; exact hr
end
def LnPost (rules : List Rule) (N : Nat) (w : World) (e : Ending) (w' : World) : Prop :=
  ∃ p X, e = .returned (.slice (some ⟨p, 0, none⟩) N N) ∧ Vrow 3 p N (fun A => .int .i64 (X A)) w' ∧ LeastV rules N X ∧ w.heap.size ≤ p ∧ Below w.heap.size w w'
set_option maxHeartbeats 8000000 in
set_option maxRecDepth 100000 in
theorem lengthsE (g : Gram) (N : Nat) (hok : OkC g N) (hr4 : ∀ r ∈ g.rules, r.right.length ≤ 4) (ra : Option Addr) (rcap : Nat) (w : World) (hr : Rd AnyB w (.sl (g.rules.map Rule.d)) [.slice ra g.rules.length rcap]) :
    Calls Try.prog 59 #[.agg #[.int .i64 g.terms, .int .i64 g.nons, .int .i64 g.start, .slice ra g.rules.length rcap]] w (LnPost g.rules N w) := by
  have hN1 := hok.n1
  have hN2 := hok.n2
  have HGR := Lib.hid hok.r
  have HLF := Lib.hid hok.l
  have H4 := Lib.hid hr4
  have HL0 : Hid (∀ r ∈ g.rules, 0 ≤ r.left) := fun r hr => (hok.l r hr).1
  have hnn := hok.nons
  rw [hnn]
  obtain ⟨w0, HW0⟩ := nameIt (w.alloc (.cells #[.int .i64 g.terms, .int .i64 (N : Int), .int .i64 g.start, .slice ra g.rules.length rcap] 24))
  have hb0 : Below w.heap.size w w0 := by rw [← HW0.out]; exact (Below.refl _ _).alloc (Nat.le_refl _) _
  have X0 : Hid (w0.heap[w.heap.size]? = some (.cells #[.int .i64 g.terms, .int .i64 (N : Int), .int .i64 g.start, .slice ra g.rules.length rcap] 24 (0, 0))) := by rw [← HW0.out]; exact bx_new _ _ _ rfl
  have HRD := Lib.hid (hr.below hb0)
  obtain ⟨PST, HP⟩ := nameIt (LnPost g.rules N w)
  rw [HP.out]
  have HFIN : Hid (∀ p X w', LTb g.rules N w0 p X w' → ClosedV g.rules X → PST (.returned (.slice (some ⟨p, 0, none⟩) N N)) w') := by
    intro p X w' h1 h2
    rw [← HP.out]
    exact ⟨p, X, rfl, h1.row, closed_least h1.snd HL0.out h2 N, Nat.le_trans hb0.size h1.lo, hb0.trans (h1.bel.mono hb0.size)⟩
  have hbs := hr.bounds.2
  unfold maxLen at hbs
  obtain ⟨hcv1, hcv2⟩ := hbs
  obtain ⟨gt, HGT⟩ := nameIt g.terms
  obtain ⟨gs, HGS⟩ := nameIt g.start
  obtain ⟨rl, HRL⟩ := nameIt g.rules.length
  rw [HGT.out, HGS.out, HRL.out] at HW0 X0
  rw [HRL.out] at HRD hcv1
  rw [HGT.out, HGS.out, HRL.out]
  have HREP : Hid (∀ W a c, Sl W (.slice a 1 c) (ints [-1]) → Calls Try.prog 78 #[.slice a 1 c, .int .i64 (N : Int)] W fun e w' => ∃ p, e = .returned (.slice (some ⟨p, 0, none⟩) N N) ∧ Vrow 3 p N (fun _ => .int .i64 (-1)) w' ∧ W.heap.size ≤ p ∧ Below W.heap.size W w') := fun W a c h => repE N hN1 hN2 (-1) a c W h
  obtain ⟨gb, HGBN⟩ := nameIt w.heap.size
  rw [HGBN.out] at X0
  obtain ⟨x0, x1, x2, x3⟩ := bx_cells4 X0.out
  clear hb0 hr HP hok hr4 hnn
  go_enter Try.func59, Try.ntmps59
  go_upto_region 1 with fail
  rw [HW0.out, HGBN.out]
  have hb1 : Below w0.heap.size w0 (w0.alloc (.cells #[.int .i64 (-1)] 3)) := (Below.refl _ _).alloc (Nat.le_refl _) _
  have Z1 : Hid ((w0.alloc (.cells #[.int .i64 (-1)] 3)).heap[w0.heap.size]? = some (.cells #[.int .i64 (-1)] 3 (0, 0))) := bx_new _ _ _ rfl
  have hs1 : Sl (w0.alloc (.cells #[.int .i64 (-1)] 3)) (.slice (some ⟨w0.heap.size, 0, none⟩) 1 1) (ints [-1]) := by
    refine ⟨some ⟨w0.heap.size, 0, none⟩, 1, rfl, by simp [ints], by unfold maxLen; omega, (fun h => by cases h), fun i hi => ⟨_, rfl, ?_⟩⟩
    simp [ints] at hi
    subst hi
    simp [ints, Addr.add]
  have HR1 := Lib.hid (HREP.out _ _ _ hs1)
  obtain ⟨y0, y1, y2, y3⟩ := bx_cells4 (bx_keep X0.out hb1)
  clear x0 x1 x2 x3 hs1 HREP Z1
  go_wp2_with fail
  with_reducible refine HR1.out.mono ?_
  rintro e w2 ⟨p, rfl, hv2, hp2, hb2⟩
  have HB2 : Hid (Below w0.heap.size w0 w2) := hb1.trans (hb2.mono hb1.size)
  have HPL : Hid (w0.heap.size ≤ p) := Nat.le_trans hb1.size hp2
  have HL2 : Hid (LTb g.rules N w0 p (fun _ => -1) w2) := ⟨hv2, sound_start, bd_start, HB2.out, HPL.out⟩
  clear hv2 hp2 hb2 hb1 HR1 y0 y1 y2 y3 HB2
  go_wp2_with fail
  go_loopg [4] (muV (fun _ => -1) N + 1) (fun gg v4 wr => ∃ (ag : Bool) (X : Nat → Int), v4 = .bool ag ∧ (ag = true → muV X N + 1 ≤ gg) ∧ Hid (LTb g.rules N w0 p X wr) ∧ Hid (ag = false → ClosedV g.rules X))
  case atStart => exact ⟨true, fun _ => -1, rfl, (fun _ => Nat.le_refl _), HL2, (fun e => by cases e)⟩
  case round =>
    clear HL2
    obtain ⟨ag, X, rfl, hgg, HL, HAG⟩ := hrel
    obtain ⟨w3, rfl⟩ : ∃ ww : World, ww = wr := ⟨_, rfl⟩
    cases ag with
    | false =>
      have HE := Lib.hid (HFIN.out p X w3 HL.out (HAG.out rfl))
      clear hgg HAG
      go_wp2_with fail
      exact HE.out
    | true =>
      have hgg' := hgg rfl
      obtain ⟨mu, HMU⟩ := nameIt (muV X N)
      rw [HMU.out] at hgg'
      obtain ⟨x0, x1, x2, x3⟩ := bx_cells4 (bx_keep X0.out HL.out.bel)
      have HC0 : Hid (ClosedTo g.rules 0 X) := fun r hr => by simp at hr
      clear hgg HAG
      go_wp2_with fail
      clear x0 x1 x2 x3
      go_loopg [4, 19] rl (fun gg v4 v19 wr => ∃ (i : Nat) (Y : Nat → Int) (b : Bool), i ≤ rl ∧ rl - i ≤ gg ∧ v4 = .bool b ∧ v19 = .int .i64 i ∧ Hid (LTb g.rules N w0 p Y wr) ∧ Hid (b = false → Y = X ∧ ClosedTo g.rules i X) ∧ Hid (b = true → muV Y N < mu))
      case atStart => exact ⟨0, X, false, by omega, by omega, rfl, rfl, HL, (fun _ => ⟨rfl, HC0.out⟩), (fun e => by cases e)⟩
      case round =>
        clear HL HC0
        obtain ⟨i, Y, b, hi, hg2, rfl, rfl, HL, HC, HM⟩ := hrel
        obtain ⟨w4, rfl⟩ : ∃ ww : World, ww = wr := ⟨_, rfl⟩
        by_cases hlt : i < rl
        · have hlt' : (i : Int) < (rl : Int) := by omega
          have hi0 : (0 : Int) ≤ (i : Int) := by omega
          have hix : i < g.rules.length := by rw [HRL.out]; exact hlt
          obtain ⟨rbk, ro, rv, hae, -, hrb, r0, r1, hrr⟩ := HRD.out.rule_at hix
          obtain ⟨ar, cr, rfl, hcr1, hcr2⟩ := hrr.form
          rw [List.length_map] at r1 hrr hcr1
          unfold maxLen at hcr2
          have HRR := Lib.hid hrr
          have t0 := (HL.out.bel.cell (lt_of_cell r0)).trans r0
          have t1 := (HL.out.bel.cell (lt_of_cell r1)).trans r1
          have HOKR := Lib.hid (HGR.out _ (List.getElem_mem hix))
          have HOKL := Lib.hid (HLF.out _ (List.getElem_mem hix))
          have hr4 := H4.out _ (List.getElem_mem hix)
          have HMEM := Lib.hid (List.getElem_mem hix)
          have HNX : Hid (ClosedTo g.rules i X → (0 ≤ sumV X g.rules[i].right → 0 ≤ X g.rules[i].left.toNat ∧ X g.rules[i].left.toNat ≤ sumV X g.rules[i].right) → ClosedTo g.rules (i + 1) X) := fun h1 h2 => closedTo_next hix h1 h2
          obtain ⟨r, HRN⟩ := nameIt (g.rules[i]'hix)
          rw [HRN.out] at t0 t1 HRR HOKR HOKL hcr1 hr4 HMEM HNX
          obtain ⟨rt, HRT⟩ := nameIt r.right
          rw [HRT.out] at t1 HRR HOKR hcr1 hr4 HNX
          obtain ⟨rn, HRNL⟩ := nameIt rt.length
          rw [HRNL.out] at t1 HRR hcr1 hr4
          obtain ⟨A, hA⟩ : ∃ A : Nat, r.left = (A : Int) := ⟨r.left.toNat, by have := HOKL.out.1; omega⟩
          have hAN : A < N := by have := HOKL.out.2; rw [hA] at this; simpa using this
          have HAL : Hid (r.left = (A : Int)) := hA
          rw [hA] at t0
          have HLEFT : Hid (r.left.toNat = A) := by show _ = _; rw [hA]; simp
          rw [HLEFT.out] at HNX
          obtain ⟨w5, HW5⟩ := nameIt (w4.alloc (.cells #[.int .i64 (A : Int), .slice ar rn cr] 48))
          have hb5 : Below w4.heap.size w4 w5 := by rw [← HW5.out]; exact (Below.refl _ _).alloc (Nat.le_refl _) _
          have HL5 := Lib.hid (HL.out.keep hb5)
          have Y5 : Hid (w5.heap[w4.heap.size]? = some (.cells #[.int .i64 (A : Int), .slice ar rn cr] 48 (0, 0))) := by rw [← HW5.out]; exact bx_new _ _ _ rfl
          have HPW : Hid (p < w4.heap.size) := HL.out.row.lt
          obtain ⟨rbx, HRBX⟩ := nameIt w4.heap.size
          rw [HRBX.out] at Y5 HPW
          have HSG : Hid (∀ j, -1 ≤ sumV Y (rt.take j) ∧ sumV Y (rt.take j) ≤ 4194304) := fun j => ⟨sum_ge _, sum_le HL.out.bd hN2 (by rw [List.length_take]; rw [← HRNL.out] at hr4; omega)⟩
          have HXB : Hid (∀ B, -1 ≤ Y B ∧ Y B ≤ 1048576) := fun B => ⟨(HL.out.snd B).1, HL.out.bd.le hN2 B⟩
          subst hae
          clear hrr r0 r1 hA hb5
          go_upto_region 8 with fail
          rw [HW5.out, HRBX.out]
          clear t0 t1 HW5 HRBX HL
          obtain ⟨y0, y1⟩ := bx_cells2 Y5.out
          go_wp2_with fail
          clear y0 y1
          go_loopg [7, 26] rn (fun gg v7 v26 wr => ∃ (j : Nat), j ≤ rn ∧ rn - j ≤ gg ∧ v7 = .int .i64 (sumV Y (rt.take j)) ∧ v26 = .int .i64 j ∧ Hid (LTb g.rules N w0 p Y wr) ∧ Hid (wr.heap[rbx]? = some (.cells #[.int .i64 (A : Int), .slice ar rn cr] 48 (0, 0))))
          case atStart => exact ⟨0, by omega, by omega, rfl, rfl, HL5, Y5⟩
          case round =>
            clear HL5 Y5
            obtain ⟨j, hj, hg3, rfl, rfl, HL5, Y5⟩ := hrel
            obtain ⟨w6, rfl⟩ : ∃ ww : World, ww = wr := ⟨_, rfl⟩
            by_cases hjm : j < rn
            · have hjm' : (j : Int) < (rn : Int) := by omega
              have hj0 : (0 : Int) ≤ (j : Int) := by omega
              have hjx : j < rt.length := by rw [HRNL.out]; exact hjm
              obtain ⟨sb, so, hae, -, hsb, s0, s1⟩ := (show Rd AnyB w0 (.sl (rt.map Sym.d)) [.slice ar rt.length cr] by rw [HRNL.out]; exact HRR.out).sym_at hjx
              have u0 := (HL5.out.bel.cell (lt_of_cell s0)).trans s0
              have u1 := (HL5.out.bel.cell (lt_of_cell s1)).trans s1
              have HSN : Hid (sumV Y (rt.take (j + 1)) = stepV Y (sumV Y (rt.take j)) rt[j]) := by show _ = _; rw [List.take_succ_eq_append_getElem hjx, stepV_snoc]
              have HOS := Lib.hid (HOKR.out _ (List.getElem_mem hjx))
              have hg1 := HSG.out j
              have hg2' := HSG.out (j + 1)
              obtain ⟨⟨st, sn⟩, HSY⟩ := nameIt (rt[j]'hjx)
              rw [HSY.out] at u0 u1 HSN HOS
              obtain ⟨sj, HSJ⟩ := nameIt (sumV Y (rt.take j))
              obtain ⟨sk, HSK⟩ := nameIt (sumV Y (rt.take (j + 1)))
              rw [HSJ.out] at HSN hg1
              rw [HSK.out] at HSN hg2'
              rw [HSJ.out]
              simp only at u0 u1
              obtain ⟨w7, HW7⟩ := nameIt (w6.alloc (.cells #[.bool st, .int .i64 sn] 65))
              have hb7 : Below w6.heap.size w6 w7 := by rw [← HW7.out]; exact (Below.refl _ _).alloc (Nat.le_refl _) _
              have HL7 := Lib.hid (HL5.out.keep hb7)
              have Y7 := Lib.hid (bx_keep Y5.out hb7)
              have S7 : Hid (w7.heap[w6.heap.size]? = some (.cells #[.bool st, .int .i64 sn] 65 (0, 0))) := by rw [← HW7.out]; exact bx_new _ _ _ rfl
              subst hae
              clear s0 s1 hb7
              go_upto_region 13 with fail
              rw [HW7.out]
              clear u0 u1 HW7
              obtain ⟨z0, z1⟩ := bx_cells2 S7.out
              have HFN : Hid (Value.int .i64 sk = .int .i64 (sumV Y (rt.take (j + 1)))) := by show _ = _; rw [HSK.out]
              by_cases hs0 : 0 ≤ sj
              · cases st with
                | true =>
                  have hw : IntKind.i64.wrap (sj + 1) = sk := by
                    have : sk = sj + 1 := by rw [HSN.out]; unfold stepV; rw [if_pos hs0]; rfl
                    rw [IntWalk.i64_in _ (by omega)]; exact this.symm
                  go_wp2_with fail
                  go_roundg (rn - (j + 1))
                  case measure => omega
                  case rel => exact ⟨j + 1, by omega, by omega, HFN.out, by go_num, HL7, Y7⟩
                | false =>
                  obtain ⟨hq1, hq2⟩ := HOS.out rfl
                  simp only at hq1 hq2
                  obtain ⟨B, rfl⟩ : ∃ B : Nat, sn = (B : Int) := ⟨sn.toNat, by omega⟩
                  rw [Int.toNat_natCast] at hq2
                  have hB0 : (0 : Int) ≤ (B : Int) := by omega
                  have hB1 : (B : Int) < (N : Int) := by omega
                  have q0 := HL7.out.row.cell hq2
                  have hyb := HXB.out B
                  have HST : Hid (sk = if 0 ≤ Y B then sj + Y B else -1) := by show _ = _; rw [HSN.out]; unfold stepV; rw [if_pos hs0]; rfl
                  obtain ⟨yb, HYB⟩ := nameIt (Y B)
                  rw [HYB.out] at q0 hyb HST
                  by_cases hy : 0 ≤ yb
                  · have hw : IntKind.i64.wrap (sj + yb) = sk := by
                      have : sk = sj + yb := by rw [HST.out, if_pos hy]
                      rw [IntWalk.i64_in _ (by omega)]; exact this.symm
                    go_wp2_with fail
                    go_roundg (rn - (j + 1))
                    case measure => omega
                    case rel => exact ⟨j + 1, by omega, by omega, HFN.out, by go_num, HL7, Y7⟩
                  · have hsk : sk = -1 := by rw [HST.out, if_neg hy]
                    have hy' : yb < 0 := by omega
                    rw [hsk] at HFN
                    go_wp2_with fail
                    go_roundg (rn - (j + 1))
                    case measure => omega
                    case rel => exact ⟨j + 1, by omega, by omega, HFN.out, by go_num, HL7, Y7⟩
              · have hsk : sk = -1 := by rw [HSN.out]; unfold stepV; rw [if_neg hs0]
                have hs0' : sj < 0 := by omega
                rw [hsk] at HFN
                cases st <;> (
                  go_wp2_with fail
                  go_roundg (rn - (j + 1))
                  case measure => omega
                  case rel => exact ⟨j + 1, by omega, by omega, HFN.out, by go_num, HL7, Y7⟩)
            · have hjm' : ¬ (j : Int) < (rn : Int) := by omega
              have hjt : rt.take j = rt := List.take_of_length_le (by rw [HRNL.out]; omega)
              rw [hjt]
              have hg1 := HSG.out j
              rw [hjt] at hg1
              have HSUM : Hid (Y = X → sumV Y rt = sumV X rt) := fun e => by rw [e]
              have HDV : Hid (0 ≤ sumV Y rt → Dv g.rules A (sumV Y rt).toNat) := fun h => dv_rule HMEM.out HAL.out (by rw [HRT.out]; exact sum_dl HL5.out.snd h)
              have HBD4 : Hid (sumV Y rt ≤ 4 * ((4 ^ nset Y N : Nat) : Int)) := sum_bd HL5.out.bd (by rw [HRNL.out]; exact hr4)
              obtain ⟨sm, HSM⟩ := nameIt (sumV Y rt)
              rw [HSM.out] at hg1 HSUM HDV HBD4
              rw [HSM.out]
              have q0 := HL5.out.row.cell hAN
              have qf := HL5.out.row.free A
              have hyb := HXB.out A
              have HYA : Hid (Y = X → Y A = X A) := fun e => by rw [e]
              have HSET : Hid (0 ≤ sm → (Y A < 0 ∨ sm < Y A) → LTb g.rules N w0 p (setV Y A sm) (w6.setCell ⟨p, A, none⟩ (.int .i64 sm)) ∧ muV (setV Y A sm) N < muV Y N) := by
                intro h1 h2
                have hv : sm < Y A ∨ (Y A < 0 ∧ sm ≤ 4 * ((4 ^ nset Y N : Nat) : Int)) := by
                  have := HBD4.out
                  rcases h2 with h2 | h2
                  · exact .inr ⟨h2, this⟩
                  · exact .inl h2
                exact ⟨HL5.out.set hAN (setV_sound HL5.out.snd h1 (HDV.out h1)) (bdV_set HL5.out.bd hAN h1 hv), mu_set hN2 hAN h1 hv⟩
              have HMUL : Hid (b = true → muV Y N < mu) := HM.out
              have HMUE : Hid (muV Y N ≤ mu) := by
                show muV Y N ≤ mu
                cases b with
                | true => exact Nat.le_of_lt (HM.out rfl)
                | false => rw [(HC.out rfl).1, HMU.out]; exact Nat.le_refl _
              have hA0 : (0 : Int) ≤ (A : Int) := by omega
              have hA1 : (A : Int) < (N : Int) := by omega
              obtain ⟨y0, y1⟩ := bx_cells2 Y5.out
              obtain ⟨ya, HYAN⟩ := nameIt (Y A)
              rw [HYAN.out] at q0 hyb HYA HSET
              have hnpr : ¬ p = rbx := by have := HPW.out; omega
              have hnrp : ¬ rbx = p := fun h => hnpr h.symm
              by_cases hs0 : 0 ≤ sm
              · by_cases hset : ya < 0 ∨ sm < ya
                · obtain ⟨hl8, hm8⟩ := HSET.out hs0 hset
                  have HL8 := Lib.hid hl8
                  have HM8 : Hid (muV (setV Y A sm) N < mu) := Nat.lt_of_lt_of_le hm8 HMUE.out
                  clear hl8 hm8
                  by_cases hy : ya < 0
                  · go_wp2_with fail
                    go_roundg (rl - (i + 1))
                    case measure => omega
                    case rel => exact ⟨i + 1, setV Y A sm, true, by omega, by omega, rfl, by go_num, HL8, (fun e => by cases e), (fun _ => HM8.out)⟩
                  · have hlt2 : sm < ya := by omega
                    go_wp2_with fail
                    go_roundg (rl - (i + 1))
                    case measure => omega
                    case rel => exact ⟨i + 1, setV Y A sm, true, by omega, by omega, rfl, by go_num, HL8, (fun e => by cases e), (fun _ => HM8.out)⟩
                · have hy : ¬ ya < 0 := by omega
                  have hlt2 : ¬ sm < ya := by omega
                  have HCN : Hid (b = false → Y = X ∧ ClosedTo g.rules (i + 1) X) := by
                    intro e
                    obtain ⟨h1, h2⟩ := HC.out e
                    refine ⟨h1, HNX.out h2 (fun _ => ?_)⟩
                    rw [← HSUM.out h1, ← HYA.out h1]
                    omega
                  go_wp2_with fail
                  go_roundg (rl - (i + 1))
                  case measure => omega
                  case rel => exact ⟨i + 1, Y, b, by omega, by omega, rfl, by go_num, HL5, HCN, HM⟩
              · have hs0' : sm < 0 := by omega
                have HCN : Hid (b = false → Y = X ∧ ClosedTo g.rules (i + 1) X) := by
                  intro e
                  obtain ⟨h1, h2⟩ := HC.out e
                  refine ⟨h1, HNX.out h2 (fun h => ?_)⟩
                  rw [← HSUM.out h1] at h
                  omega
                go_wp2_with fail
                go_roundg (rl - (i + 1))
                case measure => omega
                case rel => exact ⟨i + 1, Y, b, by omega, by omega, rfl, by go_num, HL5, HCN, HM⟩
        · have hlt' : ¬ (i : Int) < (rl : Int) := by omega
          have HCE : Hid (b = false → ClosedV g.rules Y) := by
            intro e
            obtain ⟨h1, h2⟩ := HC.out e
            intro q hq
            rw [h1]
            exact h2 q (by rw [List.take_of_length_le (by rw [HRL.out]; omega)]; exact hq)
          have HMM : Hid (b = true → muV Y N + 1 ≤ mu) := HM.out
          go_wp2_with fail
          go_roundg mu
          case measure => omega
          case rel => exact ⟨b, Y, rfl, HMM.out, HL, HCE⟩
end Cs
end Go.Proofs.Ytbnpemgmdnghgaa
namespace Go.Proofs.Ytbnpemgmdnghgaa
open Go.RowKit
namespace Cs

def LnsPost (g : Gram) (w : World) (e : Ending) (w' : World) : Prop :=
  Below w.heap.size w w' ∧ ((checkG g ≠ 0 ∧ e = .returned (.tuple #[.slice none 0 0, .int .i64 (checkG g)])) ∨
    (checkG g = 0 ∧ ∃ (N p : Nat) (X : Nat → Int), OkC g N ∧ e = .returned (.tuple #[.slice (some ⟨p, 0, none⟩) N N, .int .i64 0]) ∧ Vrow 3 p N (fun A => .int .i64 (X A)) w' ∧ LeastV g.rules N X))
set_option maxHeartbeats 8000000 in
set_option maxRecDepth 100000 in
theorem lengthsXE (g : Gram) (ra : Option Addr) (rcap : Nat) (w : World) (hr : Rd AnyB w (.sl (g.rules.map Rule.d)) [.slice ra g.rules.length rcap]) :
    Calls Try.prog 35 #[.agg #[.int .i64 g.terms, .int .i64 g.nons, .int .i64 g.start, .slice ra g.rules.length rcap]] w (LnsPost g w) := by
  obtain ⟨w0, HW0⟩ := nameIt (w.alloc (.cells #[.int .i64 g.terms, .int .i64 g.nons, .int .i64 g.start, .slice ra g.rules.length rcap] 24))
  have hb0 : Below w.heap.size w w0 := by rw [← HW0.out]; exact (Below.refl _ _).alloc (Nat.le_refl _) _
  have X0 : Hid (w0.heap[w.heap.size]? = some (.cells #[.int .i64 g.terms, .int .i64 g.nons, .int .i64 g.start, .slice ra g.rules.length rcap] 24 (0, 0))) := by rw [← HW0.out]; exact bx_new _ _ _ rfl
  have HCK := Lib.hid (checkE g ra rcap w0 (hr.below hb0))
  have HRD := Lib.hid (hr.below hb0)
  have HLE : Hid (checkG g = 0 → ∃ N, OkC g N ∧ ∀ W, Below w0.heap.size w0 W → Calls Try.prog 59 #[.agg #[.int .i64 g.terms, .int .i64 g.nons, .int .i64 g.start, .slice ra g.rules.length rcap]] W (LnPost g.rules N W)) := by
    intro h
    obtain ⟨N, hok⟩ := okC_of h
    exact ⟨N, hok, fun W hb => lengthsE g N hok (fun r hr => ((checkG_zero h).2.2 r hr).2.2.1) ra rcap W (HRD.out.below hb)⟩
  obtain ⟨PST, HP⟩ := nameIt (LnsPost g w)
  rw [HP.out]
  have HE1 : Hid (checkG g ≠ 0 → ∀ w', Below w0.heap.size w0 w' → PST (.returned (.tuple #[.slice none 0 0, .int .i64 (checkG g)])) w') := by
    intro he w' h
    rw [← HP.out]
    exact ⟨hb0.trans (h.mono hb0.size), .inl ⟨he, rfl⟩⟩
  have HE2 : Hid (∀ (N p : Nat) (X : Nat → Int) w', checkG g = 0 → OkC g N → Vrow 3 p N (fun A => .int .i64 (X A)) w' → LeastV g.rules N X → Below w0.heap.size w0 w' → PST (.returned (.tuple #[.slice (some ⟨p, 0, none⟩) N N, .int .i64 0])) w') := by
    intro N p X w' h1 h2 h3 h4 h5
    rw [← HP.out]
    exact ⟨hb0.trans (h5.mono hb0.size), .inr ⟨h1, N, p, X, h2, rfl, h3, h4⟩⟩
  obtain ⟨gt, HGT⟩ := nameIt g.terms
  obtain ⟨gn, HGN⟩ := nameIt g.nons
  obtain ⟨gs, HGS⟩ := nameIt g.start
  obtain ⟨rl, HRL⟩ := nameIt g.rules.length
  rw [HGT.out, HGN.out, HGS.out, HRL.out] at HW0 X0 HCK HLE
  rw [HGT.out, HGN.out, HGS.out, HRL.out]
  obtain ⟨ck, HC⟩ := nameIt (checkG g)
  rw [HC.out] at HCK HE1 HE2 HLE
  obtain ⟨x0, x1, x2, x3⟩ := bx_cells4 X0.out
  clear hb0 hr HP
  go_enter Try.func35, Try.ntmps35
  go_upto_region 1 with fail
  rw [HW0.out]
  go_wp2_with fail
  with_reducible refine HCK.out.mono ?_
  clear x0 x1 x2 x3
  rintro e w1 ⟨rfl, hb1⟩
  have X1 := Lib.hid (bx_keep X0.out hb1)
  have HB1 := Lib.hid hb1
  obtain ⟨x0, x1, x2, x3⟩ := bx_cells4 X1.out
  by_cases he : ck = 0
  · subst he
    obtain ⟨N, hok, hle⟩ := HLE.out rfl
    have HL1 := Lib.hid (hle w1 HB1.out)
    have HOK := Lib.hid hok
    clear hb1 HLE hle hok
    go_wp2_with fail
    with_reducible refine HL1.out.mono ?_
    rintro e w2 ⟨p, X, rfl, hv, hl, hp, hb2⟩
    have HF := Lib.hid (HE2.out N p X w2 (by first | rfl | trivial) HOK.out hv hl (HB1.out.trans (hb2.mono HB1.out.size)))
    clear hv hl hp hb2 x0 x1 x2 x3
    go_wp2_with fail
    first | exact HF.out | (refine bodyPost_ret (results_tmp2 Try.results35 _ _ _) rfl ?_; exact HF.out)
  · have HF := Lib.hid (HE1.out he w1 HB1.out)
    have b1 : (ck != 0) = true := by simpa using he
    clear hb1 x0 x1 x2 x3
    go_wp2_with fail
    first | exact HF.out | (refine bodyPost_ret (results_tmp2 Try.results35 _ _ _) rfl ?_; exact HF.out)
set_option maxHeartbeats 8000000 in
set_option maxRecDepth 100000 in
theorem leastE (g : Gram) (ra : Option Addr) (rcap : Nat) (w : World) (hr : Rd AnyB w (.sl (g.rules.map Rule.d)) [.slice ra g.rules.length rcap]) :
    Calls Try.prog 14 #[.agg #[.int .i64 g.terms, .int .i64 g.nons, .int .i64 g.start, .slice ra g.rules.length rcap]] w (LnsPost g w) := by
  obtain ⟨w0, HW0⟩ := nameIt (w.alloc (.cells #[.int .i64 g.terms, .int .i64 g.nons, .int .i64 g.start, .slice ra g.rules.length rcap] 24))
  have hb0 : Below w.heap.size w w0 := by rw [← HW0.out]; exact (Below.refl _ _).alloc (Nat.le_refl _) _
  have X0 : Hid (w0.heap[w.heap.size]? = some (.cells #[.int .i64 g.terms, .int .i64 g.nons, .int .i64 g.start, .slice ra g.rules.length rcap] 24 (0, 0))) := by rw [← HW0.out]; exact bx_new _ _ _ rfl
  have HCK := Lib.hid (lengthsXE g ra rcap w0 (hr.below hb0))
  obtain ⟨PST, HP⟩ := nameIt (LnsPost g w)
  rw [HP.out]
  have HE1 : Hid (checkG g ≠ 0 → ∀ w', Below w0.heap.size w0 w' → PST (.returned (.tuple #[.slice none 0 0, .int .i64 (checkG g)])) w') := by
    intro he w' h
    rw [← HP.out]
    exact ⟨hb0.trans (h.mono hb0.size), .inl ⟨he, rfl⟩⟩
  have HE2 : Hid (∀ (N p : Nat) (X : Nat → Int) w', checkG g = 0 → OkC g N → Vrow 3 p N (fun A => .int .i64 (X A)) w' → LeastV g.rules N X → Below w0.heap.size w0 w' → PST (.returned (.tuple #[.slice (some ⟨p, 0, none⟩) N N, .int .i64 0])) w') := by
    intro N p X w' h1 h2 h3 h4 h5
    rw [← HP.out]
    exact ⟨hb0.trans (h5.mono hb0.size), .inr ⟨h1, N, p, X, h2, rfl, h3, h4⟩⟩
  obtain ⟨gt, HGT⟩ := nameIt g.terms
  obtain ⟨gn, HGN⟩ := nameIt g.nons
  obtain ⟨gs, HGS⟩ := nameIt g.start
  obtain ⟨rl, HRL⟩ := nameIt g.rules.length
  rw [HGT.out, HGN.out, HGS.out, HRL.out] at HW0 X0 HCK
  rw [HGT.out, HGN.out, HGS.out, HRL.out]
  obtain ⟨x0, x1, x2, x3⟩ := bx_cells4 X0.out
  clear hb0 hr HP
  go_enter Try.func14, Try.ntmps14
  go_upto_region 1 with fail
  rw [HW0.out]
  go_wp2_with fail
  with_reducible refine HCK.out.mono ?_
  clear x0 x1 x2 x3
  rintro e w1 ⟨hb1, ⟨he, rfl⟩ | ⟨he, N, p, X, hok, rfl, hv, hl⟩⟩
  · have HF := Lib.hid (HE1.out he w1 hb1)
    obtain ⟨c, HC⟩ := nameIt (checkG g)
    rw [HC.out] at HF
    rw [HC.out]
    clear hb1 he
    go_wp2_with fail
    first | exact HF.out | (refine bodyPost_ret (results_tmp2 Try.results14 _ _ _) rfl ?_; exact HF.out)
  · have HF := Lib.hid (HE2.out N p X w1 he hok hv hl hb1)
    clear hb1 he hok hv hl
    go_wp2_with fail
    first | exact HF.out | (refine bodyPost_ret (results_tmp2 Try.results14 _ _ _) rfl ?_; exact HF.out)
end Cs
end Go.Proofs.Ytbnpemgmdnghgaa
namespace Go.Proofs.Ytbnpemgmdnghgaa
open Go.RowKit
namespace Cs

/-- the best of the first rules -/
def BestV (rules : List Rule) (i : Nat) (X : Nat → Int) (b q : Int) : Prop :=
  (q = -1 ∧ b = -1 ∧ ∀ r ∈ rules.take i, X r.left.toNat < 0 → ¬ 0 ≤ sumV X r.right) ∨
  (0 ≤ q ∧ 0 ≤ b ∧ (∃ r ∈ rules.take i, r.left = q ∧ X r.left.toNat < 0 ∧ sumV X r.right = b) ∧ ∀ r ∈ rules.take i, X r.left.toNat < 0 → 0 ≤ sumV X r.right → b ≤ sumV X r.right)
section
variable {rules : List Rule} {X : Nat → Int} {b q : Int} {i : Nat}
theorem best_start : BestV rules 0 X (-1) (-1) := .inl ⟨rfl, rfl, fun r hr => by simp at hr⟩
theorem best_skip (hi : i < rules.length) (h : BestV rules i X b q) (hs : ¬ (X rules[i].left.toNat < 0 ∧ 0 ≤ sumV X rules[i].right)) : BestV rules (i + 1) X b q := by
  have ht := List.take_succ_eq_append_getElem hi
  rcases h with ⟨h1, h2, h3⟩ | ⟨h1, h2, ⟨r, h3, h4⟩, h5⟩
  · refine .inl ⟨h1, h2, fun r hr hx h0 => ?_⟩
    rw [ht, List.mem_append] at hr
    rcases hr with hr | hr
    · exact h3 r hr hx h0
    · simp at hr; subst hr; exact hs ⟨hx, h0⟩
  · refine .inr ⟨h1, h2, ⟨r, by rw [ht, List.mem_append]; exact .inl h3, h4⟩, fun r hr hx h0 => ?_⟩
    rw [ht, List.mem_append] at hr
    rcases hr with hr | hr
    · exact h5 r hr hx h0
    · simp at hr; subst hr; exact absurd ⟨hx, h0⟩ hs
theorem best_keep (hi : i < rules.length) (h : BestV rules i X b q) (hq : 0 ≤ q) (hs : b ≤ sumV X rules[i].right) : BestV rules (i + 1) X b q := by
  have ht := List.take_succ_eq_append_getElem hi
  rcases h with ⟨h1, h2, h3⟩ | ⟨h1, h2, ⟨r, h3, h4⟩, h5⟩
  · omega
  · refine .inr ⟨h1, h2, ⟨r, by rw [ht, List.mem_append]; exact .inl h3, h4⟩, fun r hr hx h0 => ?_⟩
    rw [ht, List.mem_append] at hr
    rcases hr with hr | hr
    · exact h5 r hr hx h0
    · simp at hr; subst hr; exact hs
theorem best_take (hi : i < rules.length) (h : BestV rules i X b q) (hl : 0 ≤ rules[i].left) (hx : X rules[i].left.toNat < 0) (h0 : 0 ≤ sumV X rules[i].right) (hs : q < 0 ∨ sumV X rules[i].right < b) : BestV rules (i + 1) X (sumV X rules[i].right) rules[i].left := by
  have ht := List.take_succ_eq_append_getElem hi
  refine .inr ⟨hl, h0, ⟨rules[i], by rw [ht, List.mem_append]; simp, rfl, hx, rfl⟩, fun r hr hx h0 => ?_⟩
  rw [ht, List.mem_append] at hr
  rcases hr with hr | hr
  · rcases h with ⟨h1, h2, h3⟩ | ⟨h1, h2, ⟨r', h3, h4⟩, h5⟩
    · exact absurd h0 (h3 r hr hx)
    · have := h5 r hr hx h0; omega
  · simp at hr; subst hr; exact Int.le_refl _
theorem best_sign (h : BestV rules i X b q) : (q = -1 ∧ b = -1) ∨ (0 ≤ q ∧ 0 ≤ b) := by
  rcases h with ⟨h1, h2, h3⟩ | ⟨h1, h2, _⟩
  · exact .inl ⟨h1, h2⟩
  · exact .inr ⟨h1, h2⟩
end
set_option maxHeartbeats 8000000 in
set_option maxRecDepth 100000 in
theorem shortestE (g : Gram) (N : Nat) (hok : OkC g N) (hr4 : ∀ r ∈ g.rules, r.right.length ≤ 4) (ra : Option Addr) (rcap : Nat) (w : World) (hr : Rd AnyB w (.sl (g.rules.map Rule.d)) [.slice ra g.rules.length rcap]) :
    Calls Try.prog 16 #[.agg #[.int .i64 g.terms, .int .i64 g.nons, .int .i64 g.start, .slice ra g.rules.length rcap]] w (LnPost g.rules N w) := by
  have hN1 := hok.n1
  have hN2 := hok.n2
  have HGR := Lib.hid hok.r
  have HLF := Lib.hid hok.l
  have H4 := Lib.hid hr4
  have HL0 : Hid (∀ r ∈ g.rules, 0 ≤ r.left) := fun r hr => (hok.l r hr).1
  have hnn := hok.nons
  rw [hnn]
  obtain ⟨w0, HW0⟩ := nameIt (w.alloc (.cells #[.int .i64 g.terms, .int .i64 (N : Int), .int .i64 g.start, .slice ra g.rules.length rcap] 24))
  have hb0 : Below w.heap.size w w0 := by rw [← HW0.out]; exact (Below.refl _ _).alloc (Nat.le_refl _) _
  have X0 : Hid (w0.heap[w.heap.size]? = some (.cells #[.int .i64 g.terms, .int .i64 (N : Int), .int .i64 g.start, .slice ra g.rules.length rcap] 24 (0, 0))) := by rw [← HW0.out]; exact bx_new _ _ _ rfl
  have HRD := Lib.hid (hr.below hb0)
  obtain ⟨PST, HP⟩ := nameIt (LnPost g.rules N w)
  rw [HP.out]
  have HFIN : Hid (∀ p X w', LTb g.rules N w0 p X w' → LowV g.rules X → (N ≤ nset X N ∨ StuckV g.rules X) → PST (.returned (.slice (some ⟨p, 0, none⟩) N N)) w') := by
    intro p X w' h1 h2 h3
    rw [← HP.out]
    exact ⟨p, X, rfl, h1.row, end_least HL0.out h1.snd h2 h3, Nat.le_trans hb0.size h1.lo, hb0.trans (h1.bel.mono hb0.size)⟩
  have hbs := hr.bounds.2
  unfold maxLen at hbs
  obtain ⟨hcv1, hcv2⟩ := hbs
  obtain ⟨gt, HGT⟩ := nameIt g.terms
  obtain ⟨gs, HGS⟩ := nameIt g.start
  obtain ⟨rl, HRL⟩ := nameIt g.rules.length
  rw [HGT.out, HGS.out, HRL.out] at HW0 X0
  rw [HRL.out] at HRD hcv1
  rw [HGT.out, HGS.out, HRL.out]
  have hmk : ∀ W : World, (Instr.makeSlice 33 (.int .i64 (N : Int)) (.int .i64 (N : Int))).run Try.prog W = .ok (.slice (some ⟨W.heap.size, 0, none⟩) N N) (W.alloc (.cells (madeCells #[.int .i64 0] N) 3)) := fun W => by
    have := run_make_row' (P := Try.prog) 33 3 (.int .i64 0) 8 Try.underlying33 (by kernel_rfl) rfl .i64 .i64 N (by omega) (by omega) W
    simpa using this
  obtain ⟨gb, HGBN⟩ := nameIt w.heap.size
  rw [HGBN.out] at X0
  obtain ⟨x0, x1, x2, x3⟩ := bx_cells4 X0.out
  clear hb0 hr HP hok hr4 hnn
  go_enter Try.func16, Try.ntmps16
  go_upto_region 1 with fail
  rw [HW0.out, HGBN.out]
  obtain ⟨p, HPN⟩ := nameIt w0.heap.size
  obtain ⟨w1, HW1⟩ := nameIt (w0.alloc (.cells (madeCells #[.int .i64 0] N) 3))
  have hb1 : Below w0.heap.size w0 w1 := by rw [← HW1.out]; exact (Below.refl _ _).alloc (Nat.le_refl _) _
  have hv1 : Vrow 3 p N (fun _ => .int .i64 0) w1 := by rw [← HW1.out]; exact vrow_new w0 _ _ N HPN.out.symm
  have HB1 := Lib.hid hb1
  have HPL : Hid (w0.heap.size ≤ p) := Nat.le_of_eq HPN.out
  have HV0 : Hid (Vrow 3 p N (fun k => if k < 0 then .int .i64 (-1) else .int .i64 0) w1) := hv1.eq (fun k _ => by rw [if_neg (Nat.not_lt_zero k)])
  clear hv1 hb1
  go_upto_region 2 with fail
  rw [HPN.out, HW1.out]
  clear x0 x1 x2 x3 hmk HW1
  go_wp2_with fail
  go_loopg [4, 17] N (fun gg v4 v17 wr => ∃ k : Nat, k ≤ N ∧ N - k ≤ gg ∧ v17 = .int .i64 k ∧ Hid (Vrow 3 p N (fun j => if j < k then .int .i64 (-1) else .int .i64 0) wr) ∧ Hid (Below w0.heap.size w0 wr))
  case atStart => exact ⟨0, by omega, by omega, rfl, HV0, HB1⟩
  case round =>
    clear HV0 HB1
    obtain ⟨k, hk, hgk, rfl, HV, HB⟩ := hrel
    obtain ⟨w2, rfl⟩ : ∃ ww : World, ww = wr := ⟨_, rfl⟩
    by_cases hkm : k < N
    · have hkm' : (k : Int) < (N : Int) := by omega
      have hk0 : (0 : Int) ≤ (k : Int) := by omega
      have q0 := HV.out.cell hkm
      have qf := HV.out.free k
      have HV3 : Hid (Vrow 3 p N (fun j => if j < k + 1 then .int .i64 (-1) else .int .i64 0) (w2.setCell ⟨p, k, none⟩ (.int .i64 (-1)))) := HV.out.set hkm (fun j _ => by
        by_cases e : j = k
        · rw [if_pos e, if_pos (by omega)]
        · rw [if_neg e]
          by_cases e2 : j < k
          · rw [if_pos (by omega), if_pos e2]
          · rw [if_neg (by omega), if_neg e2])
      have HB3 : Hid (Below w0.heap.size w0 (w2.setCell ⟨p, k, none⟩ (.int .i64 (-1)))) := HB.out.setCell (p := ⟨p, k, none⟩) HPL.out _
      rw [if_neg (Nat.lt_irrefl k)] at q0
      clear HV HB
      go_wp2_with fail
      go_roundg (N - (k + 1))
      case measure => omega
      case rel => exact ⟨k + 1, by omega, by omega, by go_num, HV3, HB3⟩
    · have hkm' : ¬ (k : Int) < (N : Int) := by omega
      have HL2 : Hid (LTb g.rules N w0 p (fun _ => -1) w2) := ⟨HV.out.eq (fun j hj => by rw [if_pos (by omega)]), sound_start, bd_start, HB.out, HPL.out⟩
      obtain ⟨x0, x1, x2, x3⟩ := bx_cells4 (bx_keep X0.out HL2.out.bel)
      have HLW0 : Hid (LowV g.rules (fun _ => -1)) := low_start
      clear HV HB
      go_wp2_with fail
      clear x0 x1 x2 x3
      go_loopg [5, 6, 26] N (fun gg v5 v6 v26 wr => ∃ (t : Nat) (X : Nat → Int), t ≤ N ∧ N - t ≤ gg ∧ v26 = .int .i64 t ∧ Hid (LTb g.rules N w0 p X wr) ∧ Hid (LowV g.rules X) ∧ Hid (t ≤ nset X N ∨ StuckV g.rules X))
      case atStart => exact ⟨0, fun _ => -1, by omega, by omega, rfl, HL2, HLW0, .inl (Nat.zero_le _)⟩
      case round =>
        clear HL2 HLW0 hkm' hkm hgk hk
        obtain ⟨t, X, ht, hgt, rfl, HL, HLO, HST⟩ := hrel
        obtain ⟨w3, rfl⟩ : ∃ ww : World, ww = wr := ⟨_, rfl⟩
        by_cases htn : t < N
        · have htn' : (t : Int) < (N : Int) := by omega
          have ht0 : (0 : Int) ≤ (t : Int) := by omega
          obtain ⟨x0, x1, x2, x3⟩ := bx_cells4 (bx_keep X0.out HL.out.bel)
          have HBS0 : Hid (BestV g.rules 0 X (-1) (-1)) := best_start
          have HXB : Hid (∀ B, -1 ≤ X B ∧ X B ≤ 1048576) := fun B => ⟨(HL.out.snd B).1, HL.out.bd.le hN2 B⟩
          have HTT : Hid (∀ l : List Sym, (0 ≤ sumV X l ∧ sumT X l = sumV X l) ∨ (sumV X l < 0 ∧ 1125899906842624 ≤ sumT X l)) := sumT_sum HL.out.snd HL.out.bd hN2
          have HTB : Hid (∀ l : List Sym, l.length ≤ 4 → 0 ≤ sumT X l ∧ sumT X l ≤ 1125899911036928) := fun l hl => sumT_le HL.out.snd HL.out.bd hN2 hl
          have HSB : Hid (∀ l : List Sym, l.length ≤ 4 → sumV X l ≤ 4 * ((4 ^ nset X N : Nat) : Int) ∧ sumV X l ≤ 4194304) := fun l hl => ⟨sum_bd HL.out.bd hl, sum_le HL.out.bd hN2 hl⟩
          go_wp2_with fail
          clear x0 x1 x2 x3
          go_loopg [5, 6, 9, 31] rl (fun gg v5 v6 v9 v31 wr => ∃ (i : Nat) (b q : Int), i ≤ rl ∧ rl - i ≤ gg ∧ v5 = .int .i64 b ∧ v6 = .int .i64 q ∧ v31 = .int .i64 i ∧ Hid (LTb g.rules N w0 p X wr) ∧ Hid (BestV g.rules i X b q))
          case atStart => exact ⟨0, -1, -1, by omega, by omega, rfl, rfl, rfl, HL, HBS0⟩
          case round =>
            clear HL HBS0
            obtain ⟨i, b, q, hi, hg2, rfl, rfl, rfl, HL, HBS⟩ := hrel
            obtain ⟨w4, rfl⟩ : ∃ ww : World, ww = wr := ⟨_, rfl⟩
            by_cases hlt : i < rl
            · have hlt' : (i : Int) < (rl : Int) := by omega
              have hi0 : (0 : Int) ≤ (i : Int) := by omega
              have hix : i < g.rules.length := by rw [HRL.out]; exact hlt
              obtain ⟨rbk, ro, rv, hae, -, hrb, r0, r1, hrr⟩ := HRD.out.rule_at hix
              obtain ⟨ar, cr, rfl, hcr1, hcr2⟩ := hrr.form
              rw [List.length_map] at r1 hrr hcr1
              unfold maxLen at hcr2
              have HRR := Lib.hid hrr
              have t0 := (HL.out.bel.cell (lt_of_cell r0)).trans r0
              have t1 := (HL.out.bel.cell (lt_of_cell r1)).trans r1
              have HOKR := Lib.hid (HGR.out _ (List.getElem_mem hix))
              have HOKL := Lib.hid (HLF.out _ (List.getElem_mem hix))
              have hr4 := H4.out _ (List.getElem_mem hix)
              have HSKIP : Hid (¬ (X g.rules[i].left.toNat < 0 ∧ 0 ≤ sumV X g.rules[i].right) → BestV g.rules (i + 1) X b q) := fun h => best_skip hix HBS.out h
              have HKEEP : Hid (0 ≤ q → b ≤ sumV X g.rules[i].right → BestV g.rules (i + 1) X b q) := fun h h2 => best_keep hix HBS.out h h2
              have HTAKE : Hid (0 ≤ g.rules[i].left → X g.rules[i].left.toNat < 0 → 0 ≤ sumV X g.rules[i].right → (q < 0 ∨ sumV X g.rules[i].right < b) → BestV g.rules (i + 1) X (sumV X g.rules[i].right) g.rules[i].left) := fun h1 h2 h3 h4 => best_take hix HBS.out h1 h2 h3 h4
              have hsg := best_sign HBS.out
              obtain ⟨r, HRN⟩ := nameIt (g.rules[i]'hix)
              rw [HRN.out] at t0 t1 HRR HOKR HOKL hcr1 hr4 HSKIP HKEEP HTAKE
              obtain ⟨rt, HRT⟩ := nameIt r.right
              rw [HRT.out] at t1 HRR HOKR hcr1 hr4 HSKIP HKEEP HTAKE
              have hTB := HTB.out rt hr4
              have hTT := HTT.out rt
              have hSB := HSB.out rt hr4
              have HTBJ : Hid (∀ j, 0 ≤ sumT X (rt.take j) ∧ sumT X (rt.take j) ≤ 1125899911036928) := fun j => HTB.out _ (by rw [List.length_take]; omega)
              obtain ⟨rn, HRNL⟩ := nameIt rt.length
              rw [HRNL.out] at t1 HRR hcr1 hr4
              obtain ⟨A, hA⟩ : ∃ A : Nat, r.left = (A : Int) := ⟨r.left.toNat, by have := HOKL.out.1; omega⟩
              have hAN : A < N := by have := HOKL.out.2; rw [hA] at this; simpa using this
              rw [hA, Int.toNat_natCast] at HSKIP HTAKE
              rw [hA] at t0
              have hA0 : (0 : Int) ≤ (A : Int) := by omega
              have hA1 : (A : Int) < (N : Int) := by omega
              obtain ⟨w5, HW5⟩ := nameIt (w4.alloc (.cells #[.int .i64 (A : Int), .slice ar rn cr] 48))
              have hb5 : Below w4.heap.size w4 w5 := by rw [← HW5.out]; exact (Below.refl _ _).alloc (Nat.le_refl _) _
              have HL5 := Lib.hid (HL.out.keep hb5)
              have Y5 : Hid (w5.heap[w4.heap.size]? = some (.cells #[.int .i64 (A : Int), .slice ar rn cr] 48 (0, 0))) := by rw [← HW5.out]; exact bx_new _ _ _ rfl
              obtain ⟨rbx, HRBX⟩ := nameIt w4.heap.size
              rw [HRBX.out] at Y5
              subst hae
              clear hrr r0 r1 hA hb5
              go_upto_region 13 with fail
              rw [HW5.out, HRBX.out]
              clear t0 t1 HW5 HRBX HL HBS
              obtain ⟨y0, y1⟩ := bx_cells2 Y5.out
              have q0 := HL5.out.row.cell hAN
              obtain ⟨xa, HXA⟩ := nameIt (X A)
              rw [HXA.out] at q0 HSKIP HTAKE
              by_cases hxa : 0 ≤ xa
              · have HBN := Lib.hid (HSKIP.out (fun h => by omega))
                go_wp2_with fail
                go_roundg (rl - (i + 1))
                case measure => omega
                case rel => exact ⟨i + 1, b, q, by omega, by omega, rfl, rfl, by go_num, HL5, HBN⟩
              · have hxa' : xa < 0 := by omega
                go_wp2_with fail
                clear y0 y1 q0
                go_loopg [9, 44] rn (fun gg v9 v44 wr => ∃ (j : Nat), j ≤ rn ∧ rn - j ≤ gg ∧ v9 = .int .i64 (sumT X (rt.take j)) ∧ v44 = .int .i64 j ∧ Hid (LTb g.rules N w0 p X wr) ∧ Hid (wr.heap[rbx]? = some (.cells #[.int .i64 (A : Int), .slice ar rn cr] 48 (0, 0))))
                case atStart => exact ⟨0, by omega, by omega, rfl, rfl, HL5, Y5⟩
                case round =>
                  clear HL5 Y5
                  obtain ⟨j, hj, hg3, rfl, rfl, HL5, Y5⟩ := hrel
                  obtain ⟨w6, rfl⟩ : ∃ ww : World, ww = wr := ⟨_, rfl⟩
                  by_cases hjm : j < rn
                  · have hjm' : (j : Int) < (rn : Int) := by omega
                    have hj0 : (0 : Int) ≤ (j : Int) := by omega
                    have hjx : j < rt.length := by rw [HRNL.out]; exact hjm
                    obtain ⟨sb, so, hae, -, hsb, s0, s1⟩ := (show Rd AnyB w0 (.sl (rt.map Sym.d)) [.slice ar rt.length cr] by rw [HRNL.out]; exact HRR.out).sym_at hjx
                    have u0 := (HL5.out.bel.cell (lt_of_cell s0)).trans s0
                    have u1 := (HL5.out.bel.cell (lt_of_cell s1)).trans s1
                    have HSN : Hid (sumT X (rt.take (j + 1)) = stepT X (sumT X (rt.take j)) rt[j]) := by show _ = _; rw [List.take_succ_eq_append_getElem hjx, stepT_snoc]
                    have HOS := Lib.hid (HOKR.out _ (List.getElem_mem hjx))
                    have hg1 := HTBJ.out j
                    have hg2' := HTBJ.out (j + 1)
                    obtain ⟨⟨st, sn⟩, HSY⟩ := nameIt (rt[j]'hjx)
                    rw [HSY.out] at u0 u1 HSN HOS
                    obtain ⟨sj, HSJ⟩ := nameIt (sumT X (rt.take j))
                    obtain ⟨sk, HSK⟩ := nameIt (sumT X (rt.take (j + 1)))
                    rw [HSJ.out] at HSN hg1
                    rw [HSK.out] at HSN hg2'
                    rw [HSJ.out]
                    simp only at u0 u1
                    obtain ⟨w7, HW7⟩ := nameIt (w6.alloc (.cells #[.bool st, .int .i64 sn] 65))
                    have hb7 : Below w6.heap.size w6 w7 := by rw [← HW7.out]; exact (Below.refl _ _).alloc (Nat.le_refl _) _
                    have HL7 := Lib.hid (HL5.out.keep hb7)
                    have Y7 := Lib.hid (bx_keep Y5.out hb7)
                    have S7 : Hid (w7.heap[w6.heap.size]? = some (.cells #[.bool st, .int .i64 sn] 65 (0, 0))) := by rw [← HW7.out]; exact bx_new _ _ _ rfl
                    subst hae
                    clear s0 s1 hb7
                    go_upto_region 18 with fail
                    rw [HW7.out]
                    clear u0 u1 HW7
                    obtain ⟨z0, z1⟩ := bx_cells2 S7.out
                    have HFN : Hid (Value.int .i64 sk = .int .i64 (sumT X (rt.take (j + 1)))) := by show _ = _; rw [HSK.out]
                    cases st with
                    | true =>
                      have hw : IntKind.i64.wrap (sj + 1) = sk := by
                        have : sk = sj + 1 := by rw [HSN.out]; unfold stepT; rfl
                        rw [IntWalk.i64_in _ (by omega)]; exact this.symm
                      go_wp2_with fail
                      go_roundg (rn - (j + 1))
                      case measure => omega
                      case rel => exact ⟨j + 1, by omega, by omega, HFN.out, by go_num, HL7, Y7⟩
                    | false =>
                      obtain ⟨hq1, hq2⟩ := HOS.out rfl
                      simp only at hq1 hq2
                      obtain ⟨B, rfl⟩ : ∃ B : Nat, sn = (B : Int) := ⟨sn.toNat, by omega⟩
                      rw [Int.toNat_natCast] at hq2
                      have hB0 : (0 : Int) ≤ (B : Int) := by omega
                      have hB1 : (B : Int) < (N : Int) := by omega
                      have q0 := HL7.out.row.cell hq2
                      have hyb := HXB.out B
                      have HST2 : Hid (sk = if X B < 0 then 1125899906842624 else sj + X B) := by show _ = _; rw [HSN.out]; unfold stepT; rfl
                      obtain ⟨yb, HYB⟩ := nameIt (X B)
                      rw [HYB.out] at q0 hyb HST2
                      by_cases hy : 0 ≤ yb
                      · have hy' : ¬ yb < 0 := by omega
                        have hw : IntKind.i64.wrap (sj + yb) = sk := by
                          have : sk = sj + yb := by rw [HST2.out, if_neg hy']
                          rw [IntWalk.i64_in _ (by omega)]; exact this.symm
                        go_wp2_with fail
                        go_roundg (rn - (j + 1))
                        case measure => omega
                        case rel => exact ⟨j + 1, by omega, by omega, HFN.out, by go_num, HL7, Y7⟩
                      · have hy' : yb < 0 := by omega
                        have hsk : sk = 1125899906842624 := by rw [HST2.out, if_pos hy']
                        rw [hsk] at HFN
                        go_wp2_with fail
                        go_roundg (rn - (j + 1))
                        case measure => omega
                        case rel => exact ⟨j + 1, by omega, by omega, HFN.out, by go_num, HL7, Y7⟩
                  · have hjm' : ¬ (j : Int) < (rn : Int) := by omega
                    have hjt : rt.take j = rt := List.take_of_length_le (by rw [HRNL.out]; omega)
                    rw [hjt]
                    obtain ⟨y0, y1⟩ := bx_cells2 Y5.out
                    obtain ⟨sm, HSM⟩ := nameIt (sumT X rt)
                    obtain ⟨sv, HSV⟩ := nameIt (sumV X rt)
                    rw [HSM.out] at hTB hTT
                    rw [HSV.out] at hTT hSB HSKIP HKEEP HTAKE
                    rw [HSM.out]
                    by_cases hs0 : 0 ≤ sv
                    · have hse : sm = sv := by omega
                      subst hse
                      have hsl : sm < 1125899906842624 := by omega
                      by_cases hq : q < 0
                      · have HBN := Lib.hid (HTAKE.out hA0 hxa' hs0 (.inl hq))
                        go_wp2_with fail
                        go_quiet (fail)
                        go_wp2_with fail
                        go_roundg (rl - (i + 1))
                        case measure => omega
                        case rel => exact ⟨i + 1, sm, A, by omega, by omega, rfl, rfl, by go_num, HL5.out.keep (below_drewN _ _), HBN⟩
                      · by_cases hsb : sm < b
                        · have HBN := Lib.hid (HTAKE.out hA0 hxa' hs0 (.inr hsb))
                          go_wp2_with fail
                          go_quiet (fail)
                          go_wp2_with fail
                          go_roundg (rl - (i + 1))
                          case measure => omega
                          case rel => exact ⟨i + 1, sm, A, by omega, by omega, rfl, rfl, by go_num, HL5.out.keep (below_drewN _ _), HBN⟩
                        · have HBN := Lib.hid (HKEEP.out (by omega) (by omega))
                          go_wp2_with fail
                          go_roundg (rl - (i + 1))
                          case measure => omega
                          case rel => exact ⟨i + 1, b, q, by omega, by omega, rfl, rfl, by go_num, HL5, HBN⟩
                    · have hsl : ¬ sm < 1125899906842624 := by omega
                      have HBN := Lib.hid (HSKIP.out (fun h => hs0 h.2))
                      go_wp2_with fail
                      go_roundg (rl - (i + 1))
                      case measure => omega
                      case rel => exact ⟨i + 1, b, q, by omega, by omega, rfl, rfl, by go_num, HL5, HBN⟩
            · have hlt' : ¬ (i : Int) < (rl : Int) := by omega
              have hie : g.rules.take i = g.rules := List.take_of_length_le (by rw [HRL.out]; omega)
              have hbs' := HBS.out
              unfold BestV at hbs'
              rw [hie] at hbs'
              rcases hbs' with ⟨hq, hb, hn⟩ | ⟨hq, hb, ⟨r, hr1, hr2, hr3, hr4⟩, hall⟩
              · have HST2 : Hid (t + 1 ≤ nset X N ∨ StuckV g.rules X) := .inr hn
                have hq' : q < 0 := by omega
                clear hn
                go_wp2_with fail
                go_roundg (N - (t + 1))
                case measure => omega
                case rel => exact ⟨t + 1, X, by omega, by omega, by go_num, HL, HLO, HST2⟩
              · have hokl := HLF.out r hr1
                obtain ⟨A, rfl⟩ : ∃ A : Nat, q = (A : Int) := ⟨q.toNat, by omega⟩
                rw [hr2, Int.toNat_natCast] at hr3 hokl
                have hAN := hokl.2
                have hA0 : (0 : Int) ≤ (A : Int) := by omega
                have hA1 : (A : Int) < (N : Int) := by omega
                have hrlen := H4.out r hr1
                have hb4 := (HSB.out _ hrlen).1
                rw [hr4] at hb4
                have hcand : CandV g.rules X b := fun r' h1 h2 h3 => hall r' h1 h2 h3
                have HLO2 := Lib.hid (low_set HL0.out HLO.out hcand hr3)
                have hdv : Dv g.rules A b.toNat := by
                  have := sum_dl HL.out.snd (l := r.right) (by rw [hr4]; exact hb)
                  rw [hr4] at this
                  exact dv_rule hr1 hr2 this
                have HL8 := Lib.hid (HL.out.set hAN (setV_sound HL.out.snd hb hdv) (bdV_set HL.out.bd hAN hb (.inr ⟨hr3, hb4⟩)))
                have HST2 : Hid (t + 1 ≤ nset (setV X A b) N ∨ StuckV g.rules (setV X A b)) := by
                  rcases HST.out with h | h
                  · have := (nset_set (X := X) (N := N) (v := b) hAN hb).2 hr3
                    exact .inl (by omega)
                  · exact absurd (by rw [hr4]; exact hb) (h r hr1 (by rw [hr2, Int.toNat_natCast]; exact hr3))
                have q0 := HL.out.row.cell hAN
                have qf := HL.out.row.free A
                clear hall hcand hdv hr1 hr2 hr3 hr4 hokl hb4 hrlen
                go_wp2_with fail
                go_roundg (N - (t + 1))
                case measure => omega
                case rel => exact ⟨t + 1, setV X A b, by omega, by omega, by go_num, HL8, HLO2, HST2⟩
        · have htn' : ¬ (t : Int) < (N : Int) := by omega
          have HE := Lib.hid (HFIN.out p X w3 HL.out HLO.out (by
            rcases HST.out with h | h
            · exact .inl (by omega)
            · exact .inr h))
          go_wp2_with fail
          exact HE.out
end Cs
end Go.Proofs.Ytbnpemgmdnghgaa
