/- census.check and census.Trees. census.Trees. census.Total. rank.count and rank.Count. The contract of tree.Word. What rank.numberer.of meets: valid trees, the counter between calls. What rank.numberer.tree and list answer. rank.numberer.tree. -/
import Derived.Test.YtbnpemgmdnghgaaJDrawTreesRow6
import Derived.Test.YtbnpemgmdnghgaaJDrawTreesRow3
import Derived.Test.YtbnpemgmdnghgaaJDrawTreesRow2
import Derived.BigQuiet
namespace Go.Proofs.Ytbnpemgmdnghgaa
open Go.RowKit
namespace Cs

/-- what a checked grammar has -/
structure OkC (g : Gram) (N : Nat) : Prop where
  nons : g.nons = (N : Int)
  n1 : 1 ≤ N
  n2 : N ≤ 10
  s0 : 0 ≤ g.start
  s1 : g.start < (N : Int)
  r : okR N g
  l : okL N g
  len : g.rules.length ≤ 32
theorem okC_of {g : Gram} (h : checkG g = 0) : ∃ N, OkC g N := by
  unfold checkG at h
  by_cases hb : badHead g = true
  · rw [if_pos hb] at h; cases h
  · rw [if_neg hb] at h
    by_cases hl : 32 < g.rules.length
    · rw [if_pos hl] at h; cases h
    · rw [if_neg hl] at h
      have hz := faultsFrom_zero h
      unfold badHead at hb
      simp only [Bool.or_eq_true, decide_eq_true_eq, not_or] at hb
      obtain ⟨⟨⟨⟨⟨b1, b2⟩, b3⟩, b4⟩, b5⟩, b6⟩ := hb
      refine ⟨g.nons.toNat, by omega, by omega, by omega, by omega, by omega, fun r hr s hs ht => ?_, fun r hr => ?_, by omega⟩
      · have := (hz r hr).2.2.2 s hs
        unfold hasS at this
        rw [ht] at this
        simp at this
        omega
      · have := hz r hr
        omega
def errC (g : Gram) (n : Int) : Int := if checkG g ≠ 0 then checkG g else if n < 0 ∨ 24 < n then 1 else 0

set_option maxHeartbeats 4000000 in
set_option maxRecDepth 100000 in
theorem checkCE (g : Gram) (ra : Option Addr) (rcap : Nat) (n : Int) (w : World) (hr : Rd AnyB w (.sl (g.rules.map Rule.d)) [.slice ra g.rules.length rcap]) :
    Calls Try.prog 27 #[.agg #[.int .i64 g.terms, .int .i64 g.nons, .int .i64 g.start, .slice ra g.rules.length rcap], .int .i64 n] w fun e w' => e = .returned (.int .i64 (errC g n)) ∧ Below w.heap.size w w' := by
  obtain ⟨w0, HW0⟩ := nameIt (w.alloc (.cells #[.int .i64 g.terms, .int .i64 g.nons, .int .i64 g.start, .slice ra g.rules.length rcap] 24))
  have hb0 : Below w.heap.size w w0 := by rw [← HW0.out]; exact (Below.refl _ _).alloc (Nat.le_refl _) _
  have X0 : Hid (w0.heap[w.heap.size]? = some (.cells #[.int .i64 g.terms, .int .i64 g.nons, .int .i64 g.start, .slice ra g.rules.length rcap] 24 (0, 0))) := by rw [← HW0.out]; exact bx_new _ _ _ rfl
  have HCK := Lib.hid (checkE g ra rcap w0 (hr.below hb0))
  have HE : Hid (errC g n = if checkG g ≠ 0 then checkG g else if n < 0 ∨ 24 < n then 1 else 0) := rfl
  obtain ⟨PST, HP⟩ := nameIt (fun e w' => e = Ending.returned (.int .i64 (errC g n)) ∧ Below w.heap.size w w')
  rw [HP.out]
  have HFIN : Hid (∀ w', Below w0.heap.size w0 w' → PST (.returned (.int .i64 (errC g n))) w') := by
    intro w' h; rw [← HP.out]; exact ⟨rfl, hb0.trans (h.mono hb0.size)⟩
  obtain ⟨R, HR⟩ := nameIt (errC g n)
  rw [HR.out] at HE HFIN
  obtain ⟨c, HC⟩ := nameIt (checkG g)
  rw [HC.out] at HE HCK
  obtain ⟨x0, x1, x2, x3⟩ := bx_cells4 X0.out
  clear hb0 hr HP
  go_enter Try.func27, Try.ntmps27
  go_upto_region 1 with fail
  rw [HW0.out]
  go_wp2_with fail
  with_reducible refine HCK.out.mono ?_
  rintro e w1 ⟨rfl, hb1⟩
  have HFN := Lib.hid (HFIN.out w1 hb1)
  clear hb1 HFIN x0 x1 x2 x3 HW0
  by_cases hc : c = 0
  · subst hc
    have HE1 : Hid (R = if n < 0 ∨ 24 < n then 1 else 0) := by show _ = _; rw [HE.out]; simp
    by_cases hn : n < 0
    · obtain rfl : R = 1 := by rw [HE1.out, if_pos (.inl hn)]
      have b1 : decide (n < 0) = true := by simpa using hn
      go_wp2_with fail
      exact HFN.out
    · have b1 : decide (n < 0) = false := by simpa using hn
      by_cases hn2 : 24 < n
      · obtain rfl : R = 1 := by rw [HE1.out, if_pos (.inr hn2)]
        have b2 : decide (24 < n) = true := by simpa using hn2
        go_wp2_with fail
        exact HFN.out
      · obtain rfl : R = 0 := by rw [HE1.out, if_neg (by omega)]
        have b2 : decide (24 < n) = false := by simpa using hn2
        go_wp2_with fail
        exact HFN.out
  · obtain rfl : R = c := by rw [HE.out, if_pos hc]
    have b1 : (R != 0) = true := by simpa using hc
    go_wp2_with fail
    exact HFN.out
end Cs
end Go.Proofs.Ytbnpemgmdnghgaa
namespace Go.Proofs.Ytbnpemgmdnghgaa
open Go.RowKit
namespace Cs

theorem elIntsC : ElemT Try.prog 29 33 1 24 := ElemT.mk' (z := .slice none 0 0) (by kernel_rfl) (by kernel_rfl) rfl (by decide)
section
variable {g : Gram} {vr : Value} {N n : Nat} {d : Cid} {S M : Nat → Nat → Bool} {V : Nat → Nat → Int} {w0 : World} {C : Nat → Nat → Int} {W W' : World}
theorem own_fr {B : Nat} {e : TypeId} {s : Nat} {v : Value} {k : Nat} {xs : List Value} (h : W.ownsRow B e s v k xs) (hf : Fr N d W W') (hr : ∀ a, a < N → d.rc a < B) : W'.ownsRow B e s v k xs := by
  obtain ⟨h1, h2⟩ := h
  refine ⟨h1, ?_⟩
  rcases h2 with h2 | ⟨b, cap, cur, rfl, hg, hh, r⟩
  · exact .inl h2
  · exact .inr ⟨b, cap, cur, rfl, hg, (hf.block b (Array.getElem?_eq_some_iff.1 hh).1 (fun a ha e => by have := hr a ha; omega)).trans hh, r⟩
theorem RowD.fr {B : Nat} {e : TypeId} {s : Nat} {ds : List D} {v : Value} (h : RowD (fun k => B ≤ k) B e s ds v W) (hf : Fr N d W W') (hr : ∀ a, a < N → d.rc a < B) : RowD (fun k => B ≤ k) B e s ds v W' := by
  obtain ⟨⟨xs, h1, h2⟩, h3⟩ := h
  exact ⟨⟨xs, own_fr h1 hf hr, RdAll.keep (fun k hk hl => ⟨hk, hf.block k hl (fun a ha e => by have := hr a ha; omega)⟩) _ _ h2⟩, Nat.le_trans h3 hf.size⟩
theorem CI.low (h : CI g vr N n d S M C W) (hs : ∀ k, k ≤ d.cb → W'.heap[k]? = W.heap[k]?) : CI g vr N n d S M C W' := by
  obtain ⟨⟨T, h1⟩, h2, h3, h4, h5⟩ := h
  have p2 := h2.pl
  have p3 := h3.pl
  have p4 := h4.pl
  exact ⟨⟨T, (hs _ (Nat.le_refl _)).trans h1⟩, h2.other fun k _ hk => hs k (by omega), h3.other fun k _ hk => hs k (by omega), h4.other fun k _ hk => hs k (by omega), h5⟩
theorem CS.keepB {B : Nat} (h : CS g vr N n d S M V w0 C W) (hb : Below B W W') (hB : d.cb < B) : CS g vr N n d S M V w0 C W' := by
  have p2 := h.ci.some'.pl
  have p3 := h.ci.many.pl
  have p4 := h.ci.cnt.pl
  have p5 := h.ci.le
  have p6 := h.lo
  exact ⟨h.ci.low fun k hk => hb.block k (by omega), h.cv, h.bel.trans (hb.mono (by omega)), h.lo⟩
theorem CS.rlt (h : CS g vr N n d S M V w0 C W) {B : Nat} (hB : d.cb < B) : ∀ a, a < N → d.rc a < B := fun a ha => Nat.lt_trans (h.rc a ha).2 hB
end
/-- the numbers of trees of a nonterminal -/
def tC (g : Gram) (S : Nat → Nat → Bool) (N n A k : Nat) : Int := symV S (valK g.rules S (MK g.rules S N n) MaxC (-1) (sizeK N n)) ⟨false, (A : Int)⟩ k
def rowC (g : Gram) (S : Nat → Nat → Bool) (N n A k : Nat) : List Int := (List.range k).map (tC g S N n A)
def tabC (g : Gram) (S : Nat → Nat → Bool) (N n A : Nat) : List (List Int) := (List.range A).map fun a => rowC g S N n a (n + 1)
theorem rowC_next (g : Gram) (S : Nat → Nat → Bool) (N n A k : Nat) : rowC g S N n A (k + 1) = rowC g S N n A k ++ [tC g S N n A k] := by unfold rowC; rw [List.range_succ, List.map_append]; rfl
theorem tabC_next (g : Gram) (S : Nat → Nat → Bool) (N n A : Nat) : tabC g S N n (A + 1) = tabC g S N n A ++ [rowC g S N n A (n + 1)] := by unfold tabC; rw [List.range_succ, List.map_append]; rfl
theorem rowC_len (g : Gram) (S : Nat → Nat → Bool) (N n A k : Nat) : (rowC g S N n A k).length = k := by simp [rowC]
theorem tabC_len (g : Gram) (S : Nat → Nat → Bool) (N n A : Nat) : (tabC g S N n A).length = A := by simp [tabC]
/-- the counter's lengths -/
def DoneC (g : Gram) (n : Nat) (S : Nat → Nat → Bool) : Prop := (∃ q, S = itP n g.rules q (fun _ _ => false)) ∧ (p3 n g.rules S).2 = false
/-- while the table is made -/
structure TI (g : Gram) (vr : Value) (N n : Nat) (d : Cid) (S : Nat → Nat → Bool) (w1 : World) (B A : Nat) (v : Value) (W : World) : Prop where
  cs : ∃ C, CS g vr N n d S (MK g.rules S N n) (valK g.rules S (MK g.rules S N n) MaxC (-1) (sizeK N n)) w1 C W
  row : RowD (fun k => B ≤ k) B 33 1 ((tabC g S N n A).map D.ints) v W
  cb : d.cb < B
structure TJ (g : Gram) (vr : Value) (N n : Nat) (d : Cid) (S : Nat → Nat → Bool) (w1 w3 : World) (A k : Nat) (v : Value) (W : World) : Prop where
  cs : ∃ C, CS g vr N n d S (MK g.rules S N n) (valK g.rules S (MK g.rules S N n) MaxC (-1) (sizeK N n)) w1 C W
  row : W.ownsRow w3.heap.size 3 1 v k (ints (rowC g S N n A k))
  fr : Fr N d w3 W
  cb : d.cb < w3.heap.size
section
variable {g : Gram} {vr : Value} {N n : Nat} {d : Cid} {S : Nat → Nat → Bool} {w1 w3 W W' : World} {B A k : Nat} {v u : Value}
theorem TJ.keep (h : TJ g vr N n d S w1 w3 A k v W) (hb : Below W.heap.size W W') : TJ g vr N n d S w1 w3 A k v W' := by
  obtain ⟨C, hc⟩ := h.cs
  exact ⟨⟨C, hc.keep hb⟩, own_keep h.row hb, h.fr.trans (Fr.of hb), h.cb⟩
/-- behind the count -/
theorem TJ.of (h : TJ g vr N n d S w1 w3 A k v W) (hf : Fr N d W W') (hc : ∃ C, CS g vr N n d S (MK g.rules S N n) (valK g.rules S (MK g.rules S N n) MaxC (-1) (sizeK N n)) w1 C W') : TJ g vr N n d S w1 w3 A k v W' := by
  obtain ⟨C, hc0⟩ := h.cs
  exact ⟨hc, own_fr h.row hf (hc0.rlt h.cb), h.fr.trans hf, h.cb⟩
theorem TJ.add {v' : Value} (h : TJ g vr N n d S w1 w3 A k v W) (ho : W'.ownsRow w3.heap.size 3 1 v' (k + 1) (ints (rowC g S N n A k) ++ [.int .i64 (tC g S N n A k)])) (hg : W.grownBy W' v.ownBlock) : TJ g vr N n d S w1 w3 A (k + 1) v' W' := by
  obtain ⟨C, hc⟩ := h.cs
  have hlt := h.row.lt
  have hs := h.fr.size
  refine ⟨⟨C, hc.keepB (B := w3.heap.size) ((Below.refl _ _).grown hg hs (fun k e => (hlt k e).1)) h.cb⟩, ?_, ?_, h.cb⟩
  · rw [rowC_next]; simpa [ints] using ho
  · exact ⟨hg.os.trans h.fr.os, hg.tape.trans h.fr.tape, hg.output.trans h.fr.output, Nat.le_trans hs hg.size, fun j hj hn => (hg.block j (by omega) (fun e => by have := (hlt j e.symm).1; omega)).trans (h.fr.block j hj hn)⟩
theorem TI.keep (h : TI g vr N n d S w1 B A v W) (hb : Below W.heap.size W W') : TI g vr N n d S w1 B A v W' := by
  obtain ⟨C, hc⟩ := h.cs
  exact ⟨⟨C, hc.keep hb⟩, h.row.keep hb, h.cb⟩
theorem TI.start (h : TI g vr N n d S w1 B A v w3) : TJ g vr N n d S w1 w3 A 0 (.slice none 0 0) w3 := by
  have := h.row.le
  have := h.cb
  exact ⟨h.cs, World.ownsRow_nil _ _ _ _, Fr.refl _ _ _, by omega⟩
/-- a row is done: what the append of it finds -/
theorem TI.fin (h : TI g vr N n d S w1 B A v w3) (hj : TJ g vr N n d S w1 w3 A k u W) : RowD (fun k => B ≤ k) B 33 1 ((tabC g S N n A).map D.ints) v W := by
  obtain ⟨C, hc⟩ := h.cs
  exact RowD.fr h.row hj.fr (hc.rlt h.cb)
theorem TI.add {v' : Value} {xs : List Value} (h : TI g vr N n d S w1 B A v w3) (hj : TJ g vr N n d S w1 w3 A (n + 1) u W) (h1 : W.ownsRow B 33 1 v A xs) (h2 : RdAll (fun k => B ≤ k ∧ v.ownBlock ≠ some k) W ((tabC g S N n A).map D.ints) xs)
    (ho : W'.ownsRow B 33 1 v' (A + 1) (xs ++ [u])) (hg : W.grownBy W' v.ownBlock) (hat : v'.ownBlock = v.ownBlock ∨ ∃ k, v'.ownBlock = some k ∧ W.heap.size ≤ k) : TI g vr N n d S w1 B (A + 1) v' W' := by
  obtain ⟨C, hc⟩ := hj.cs
  have hle := h.row.le
  have hs := hj.fr.size
  have hlt : ∀ k, v.ownBlock = some k → B ≤ k ∧ k < w3.heap.size := by
    obtain ⟨xs', o1, o2⟩ := h.row.own
    exact o1.lt
  refine ⟨⟨C, hc.keepB (B := B) ((Below.refl _ _).grown hg (by omega) (fun k e => (hlt k e).1)) h.cb⟩, ?_, h.cb⟩
  rw [tabC_next, List.map_append]
  have hrd : Rd (fun k => w3.heap.size ≤ k) W (D.ints (rowC g S N n A (n + 1))) [u] := rd_of_own hj.row ((rdAll_ints _ _).2 rfl) (by simp [rowC_len]) (fun k e => (hj.row.lt k e).1)
  exact RowD.step (es := [D.ints (rowC g S N n A (n + 1))]) h1 h2 (by rw [List.length_map, tabC_len]) (RdAll.one hrd) (fun k hk _ => ⟨by omega, fun e => by have := (hlt k e).2; omega⟩) (by omega) (by simpa using ho) hg hat
end

/-- the table of the numbers of trees, or an error -/
def TreesPost (g : Gram) (n : Int) (w : World) (e : Ending) (w' : World) : Prop :=
  Below w.heap.size w w' ∧ ((errC g n ≠ 0 ∧ e = .returned (.tuple #[.slice none 0 0, .int .i64 (errC g n)])) ∨
    (errC g n = 0 ∧ ∃ (N n' : Nat) (S : Nat → Nat → Bool) (a : Option Addr) (c : Nat), OkC g N ∧ n = (n' : Int) ∧ n' ≤ 24 ∧ DoneC g n' S ∧ e = .returned (.tuple #[.slice a N c, .int .i64 0]) ∧ Rd AnyB w' (.sl ((tabC g S N n' N).map D.ints)) [.slice a N c]))
set_option maxHeartbeats 8000000 in
set_option maxRecDepth 100000 in
theorem treesE (g : Gram) (ra : Option Addr) (rcap : Nat) (n : Int) (w : World) (hr : Rd AnyB w (.sl (g.rules.map Rule.d)) [.slice ra g.rules.length rcap]) :
    Calls Try.prog 9 #[.agg #[.int .i64 g.terms, .int .i64 g.nons, .int .i64 g.start, .slice ra g.rules.length rcap], .int .i64 n] w (TreesPost g n w) := by
  obtain ⟨w0, HW0⟩ := nameIt (w.alloc (.cells #[.int .i64 g.terms, .int .i64 g.nons, .int .i64 g.start, .slice ra g.rules.length rcap] 24))
  have hb0 : Below w.heap.size w w0 := by rw [← HW0.out]; exact (Below.refl _ _).alloc (Nat.le_refl _) _
  have HB0 := Lib.hid hb0
  have X0 : Hid (w0.heap[w.heap.size]? = some (.cells #[.int .i64 g.terms, .int .i64 g.nons, .int .i64 g.start, .slice ra g.rules.length rcap] 24 (0, 0))) := by rw [← HW0.out]; exact bx_new _ _ _ rfl
  have HCK := Lib.hid (checkCE g ra rcap n w0 (hr.below hb0))
  obtain ⟨PST, HP⟩ := nameIt (TreesPost g n w)
  rw [HP.out]
  have HRD := Lib.hid (hr.below hb0)
  by_cases he : errC g n = 0
  · have hck : checkG g = 0 := by
      unfold errC at he
      by_cases h : checkG g = 0
      · exact h
      · rw [if_pos h] at he; exact absurd he h
    have hnn : 0 ≤ n ∧ n ≤ 24 := by
      unfold errC at he
      rw [if_neg (by simpa using hck)] at he
      by_cases h : n < 0 ∨ 24 < n
      · rw [if_pos h] at he; cases he
      · omega
    obtain ⟨N, hok⟩ := okC_of hck
    obtain ⟨n', rfl⟩ := Int.eq_ofNat_of_zero_le hnn.1
    obtain ⟨n, hn'⟩ : ∃ x : Nat, x = n' := ⟨_, rfl⟩
    subst hn'
    have hn24 : n ≤ 24 := by omega
    have HFIN : Hid (∀ (S : Nat → Nat → Bool) (a : Option Addr) (c : Nat) (w' : World), Below w0.heap.size w0 w' → DoneC g n S → Rd AnyB w' (.sl ((tabC g S N n N).map D.ints)) [.slice a N c] → PST (.returned (.tuple #[.slice a N c, .int .i64 0])) w') := by
      intro S a c w' h1 h2 h3
      rw [← HP.out]
      exact ⟨hb0.trans (h1.mono hb0.size), .inr ⟨he, N, n, S, a, c, hok, rfl, hn24, h2, rfl, h3⟩⟩
    have HMK : Hid (∀ W, Below w0.heap.size w0 W → Calls Try.prog 28 #[.agg #[.int .i64 g.terms, .int .i64 g.nons, .int .i64 g.start, .slice ra g.rules.length rcap], .int .i64 (n : Int)] W (MadeC g (.slice ra g.rules.length rcap) N n W)) :=
      fun W hb => makeE hok.nons hok.n1 hok.n2 hn24 hok.r hok.l W (HRD.out.below hb)
    have HOF : Hid (∀ (w1 : World) (d : Cid) (S : Nat → Nat → Bool) (C : Nat → Nat → Int) (A k : Nat) (W : World), Below w0.heap.size w0 w1 → A < N → k ≤ n → CS g (.slice ra g.rules.length rcap) N n d S (MK g.rules S N n) (valK g.rules S (MK g.rules S N n) MaxC (-1) (sizeK N n)) w1 C W →
        Calls Try.prog 29 #[.pointer (some ⟨d.cb, 0, none⟩), .agg #[.bool false, .int .i64 (A : Int)], .int .i64 (k : Int)] W (OfPost g (.slice ra g.rules.length rcap) N n d S (MK g.rules S N n) (valK g.rules S (MK g.rules S N n) MaxC (-1) (sizeK N n)) w1 (tC g S N n A k) W)) := by
      intro w1 d S C A k W hb hA hk hc
      have := ofE (d := d) (w0 := w1) (n := n) (by omega) (by have := hok.n2; omega) hok.r (ends_MK (rules := g.rules) (S := S) (N := N) (n := n) hok.r) (HRD.out.below hb) (sizeK N n + 1) ⟨false, (A : Int)⟩ k C W (fun _ => ⟨by simp, by simpa using hA⟩) hk (fun _ => okK_all _ _ _ (Nat.lt_succ_self _)) hc
      exact this
    have hnons := hok.nons
    have hN1 := hok.n1
    have hN2 := hok.n2
    obtain ⟨m, HM⟩ := nameIt (n + 1)
    have hm1 : 1 ≤ m := by have := HM.out; omega
    have hm2 : m ≤ 25 := by have := HM.out; omega
    have HMZ : Hid (((n : Int) + 1) = (m : Int)) := by show _ = _; rw [← HM.out]; omega
    have hw1 : IntKind.i64.wrap ((n : Int) + 1) = (m : Int) := by rw [IntWalk.i64_in _ (by omega), HMZ.out]
    obtain ⟨gt, HGT⟩ := nameIt g.terms
    obtain ⟨gs, HGS⟩ := nameIt g.start
    obtain ⟨rl, HRL⟩ := nameIt g.rules.length
    rw [he] at HCK
    rw [HGT.out, hnons, HGS.out, HRL.out] at HW0 X0 HCK HMK
    rw [HRL.out] at HOF
    rw [HGT.out, hnons, HGS.out, HRL.out]
    obtain ⟨x0, x1, x2, x3⟩ := bx_cells4 X0.out
    clear hb0 hr HP he hck hnn
    go_enter Try.func9, Try.ntmps9
    go_upto_region 1 with fail
    rw [HW0.out]
    go_wp2_with fail
    with_reducible refine HCK.out.mono ?_
    rintro e w1 ⟨rfl, hb1⟩
    have HB1 := Lib.hid hb1
    obtain ⟨x0, x1, x2, x3⟩ := bx_cells4 (bx_keep X0.out hb1)
    go_wp2_with fail
    with_reducible refine (HMK.out w1 HB1.out).mono ?_
    rintro e w2 ⟨d, S, rfl, hq, hp3, hci, hb2, hlo⟩
    have HDN : Hid (DoneC g n S) := ⟨hq, hp3⟩
    have HB2 : Hid (Below w1.heap.size w1 w2) := hb2
    have hcb : d.cb < w2.heap.size := hci.lt
    have HTI : Hid (TI g (.slice ra rl rcap) N n d S w1 w2.heap.size 0 (.slice none 0 0) w2) := ⟨⟨_, hci, fun _ _ _ _ => .inl rfl, hb2, hlo⟩, RowD.nil _ _ _ _ _ (Nat.le_refl _), hcb⟩
    obtain ⟨B, HBN⟩ := nameIt w2.heap.size
    rw [HBN.out] at HTI hcb
    obtain ⟨x0, x1, x2, x3⟩ := bx_cells4 (bx_keep (bx_keep X0.out hb1) hb2)
    have HBX := Lib.hid (bx_keep X0.out hb1)
    clear hq hp3 hci hb2 hlo hb1
    go_wp2_with fail
    clear x0 x1 x2 x3
    go_loopg [8, 23] N (fun gg v8 v23 wr => ∃ (A : Nat) (a : Option Addr) (c : Nat), A ≤ N ∧ N - A ≤ gg ∧ v8 = .slice a A c ∧ v23 = .int .i64 A ∧ Hid (TI g (.slice ra rl rcap) N n d S w1 B A (.slice a A c) wr))
    case atStart => exact ⟨0, none, 0, by omega, by omega, rfl, rfl, HTI⟩
    case round =>
      clear HTI
      obtain ⟨A, a, c, hA, hg, rfl, rfl, HTI⟩ := hrel
      obtain ⟨w3, rfl⟩ : ∃ ww : World, ww = wr := ⟨_, rfl⟩
      by_cases hAN : A < N
      · have hAN' : (A : Int) < (N : Int) := by omega
        have HTJ0 := Lib.hid HTI.out.start
        go_wp2_with fail
        go_loopg [10, 28] m (fun gg v10 v28 wr => ∃ (k : Nat) (b : Option Addr) (f : Nat), k ≤ m ∧ m - k ≤ gg ∧ v10 = .slice b k f ∧ v28 = .int .i64 k ∧ Hid (TJ g (.slice ra rl rcap) N n d S w1 w3 A k (.slice b k f) wr))
        case atStart => exact ⟨0, none, 0, by omega, by omega, rfl, rfl, HTJ0⟩
        case round =>
          clear HTJ0
          obtain ⟨k, b, f, hk, hg2, rfl, rfl, HTJ⟩ := hrel
          obtain ⟨w4, rfl⟩ : ∃ ww : World, ww = wr := ⟨_, rfl⟩
          by_cases hkm : k < m
          · have hkm' : (k : Int) < (m : Int) := by omega
            have hkn : k ≤ n := by have := HM.out; omega
            go_wp2_with fail
            with_reducible refine (gramN _ _).mono ?_
            rintro e w5 ⟨rfl, hb5⟩
            have HTJ5 := Lib.hid (HTJ.out.keep hb5)
            clear hb5
            obtain ⟨C5, hc5⟩ := HTJ5.out.cs
            go_wp2_with fail
            with_reducible refine (HOF.out w1 d S C5 A k w5 HB1.out hAN hkn hc5).mono ?_
            rintro e w6 ⟨rfl, hf6, hc6⟩
            have HTJ6 := Lib.hid (HTJ5.out.of hf6 hc6)
            have HOW := Lib.hid HTJ6.out.row
            have hsz6 := HTJ6.out.fr.size
            obtain ⟨tv, HTV⟩ := nameIt (tC g S N n A k)
            rw [HTV.out]
            clear hf6 hc6 hc5
            go_wp2_with (at_builtin; refine wp_app1at elInt rfl _ _ rfl HOW.out rfl rfl (by simp) rfl rfl (by omega) (by unfold maxLen; omega) (by omega) ?_)
            intro v7 w7 ho7 hg7 hat7
            obtain ⟨a7, c7, rfl, -, -⟩ := own_len ho7
            have HTJ7 : Hid (TJ g (.slice ra rl rcap) N n d S w1 w3 A (k + 1) (.slice a7 (k + 1) c7) w7) := HTJ6.out.add (by rw [HTV.out]; exact ho7) hg7
            clear ho7 hg7 hat7
            go_wp2_with fail
            go_roundg (m - (k + 1))
            case measure => omega
            case rel => exact ⟨k + 1, a7, c7, by omega, by omega, rfl, by go_num, HTJ7⟩
          · have hkm' : ¬ (k : Int) < (m : Int) := by omega
            have hkk : k = n + 1 := by have := HM.out; omega
            have HRO := Lib.hid (HTI.out.fin HTJ.out)
            obtain ⟨xs, hx1, hx2⟩ := HRO.out.own
            rw [List.length_map, tabC_len] at hx1
            have HX1 := Lib.hid hx1
            have HX2 := Lib.hid hx2
            have hszB := HRO.out.le
            have HTJ8 : Hid (TJ g (.slice ra rl rcap) N n d S w1 w3 A (n + 1) (.slice b k f) w4) := by have := HTJ.out; rw [hkk] at this ⊢; exact this
            clear hkk hx1 hx2 HTJ
            go_wp2_with (at_builtin; refine wp_app1at elIntsC rfl _ _ rfl HX1.out rfl rfl (by simp) rfl rfl (by omega) (by unfold maxLen; omega) (by omega) ?_)
            intro v7 w7 ho7 hg7 hat7
            obtain ⟨a7, c7, rfl, -, -⟩ := own_len ho7
            have HTI7 : Hid (TI g (.slice ra rl rcap) N n d S w1 B (A + 1) (.slice a7 (A + 1) c7) w7) := HTI.out.add HTJ8.out HX1.out HX2.out ho7 hg7 hat7
            clear ho7 hg7 hat7
            go_wp2_with fail
            go_roundg (N - (A + 1))
            case measure => omega
            case rel => exact ⟨A + 1, a7, c7, by omega, by omega, rfl, by go_num, HTI7⟩
      · have hAN' : ¬ (A : Int) < (N : Int) := by omega
        have hAA : A = N := by omega
        have HE : Hid (PST (.returned (.tuple #[.slice a A c, .int .i64 0])) w3) := by
          have h := HTI.out
          rw [hAA] at h ⊢
          obtain ⟨C, hc⟩ := h.cs
          exact HFIN.out S a c w3 (HB1.out.trans (hc.bel.mono HB1.out.size)) HDN.out (h.row.rd.mono fun _ _ _ => trivial)
        clear hAA
        go_wp2_with fail
        first | exact HE.out | (refine bodyPost_ret (results_tmp2 Try.results9 _ _ _) rfl ?_; exact HE.out)
  · have HFIN : Hid (∀ w', Below w0.heap.size w0 w' → PST (.returned (.tuple #[.slice none 0 0, .int .i64 (errC g n)])) w') := by
      intro w' h1
      rw [← HP.out]
      exact ⟨hb0.trans (h1.mono hb0.size), .inl ⟨he, rfl⟩⟩
    obtain ⟨c, HC⟩ := nameIt (errC g n)
    rw [HC.out] at he HFIN HCK
    have b1 : (c != 0) = true := by simpa using he
    obtain ⟨x0, x1, x2, x3⟩ := bx_cells4 X0.out
    clear hb0 hr HP
    go_enter Try.func9, Try.ntmps9
    go_upto_region 1 with fail
    rw [HW0.out]
    go_wp2_with fail
    with_reducible refine HCK.out.mono ?_
    rintro e w1 ⟨rfl, hb1⟩
    have HF := Lib.hid (HFIN.out w1 hb1)
    clear hb1 HFIN x0 x1 x2 x3
    go_wp2_with fail
    first | exact HF.out | (refine bodyPost_ret (results_tmp2 Try.results9 _ _ _) rfl ?_; exact HF.out)
end Cs
end Go.Proofs.Ytbnpemgmdnghgaa
namespace Go.Proofs.Ytbnpemgmdnghgaa
open Go.RowKit
namespace Cs

theorem rowI_at {S : Nat → Prop} {w : World} {l : List (List Int)} {a : Option Addr} {n cap i : Nat} (h : Rd S w (.sl (l.map D.ints)) [.slice a n cap]) (hi : i < l.length) :
    ∃ b off v, a = some ⟨b, off, none⟩ ∧ w.cell? ⟨b, off + i, none⟩ = some v ∧ Sl w v (ints l[i]) := by
  obtain ⟨b, off, cs, ha, hS, hb, hr, hl, hc⟩ := Rd.at (k := 1) h (by intro d hd; rw [List.mem_map] at hd; obtain ⟨x, _, rfl⟩ := hd; rfl) (by omega) (i := i) (by simpa using hi)
  rw [List.getElem_map] at hr
  obtain ⟨v, rfl⟩ : ∃ v, cs = [v] := by
    match cs, hl with
    | [v], _ => exact ⟨v, rfl⟩
  have h0 := hc 0 (by simp)
  exact ⟨b, off, v, ha, by simpa using h0, sl_rd hr⟩


def totV : List Int → Int → Int
  | [], s => s
  | x :: l, s => if x = -1 then -1 else totV l (min (IntKind.i64.wrap (s + x)) MaxC)
theorem totV_at {l : List Int} {i : Nat} (h : i < l.length) (s : Int) : totV (l.drop i) s = if l[i] = -1 then -1 else totV (l.drop (i + 1)) (min (IntKind.i64.wrap (s + l[i])) MaxC) := by
  rw [List.drop_eq_getElem_cons h, totV]
def TotalPost (g : Gram) (n : Int) (w : World) (e : Ending) (w' : World) : Prop :=
  Below w.heap.size w w' ∧ ((errC g n ≠ 0 ∧ e = .returned (.tuple #[.int .i64 0, .int .i64 (errC g n)])) ∨
    (errC g n = 0 ∧ ∃ (N n' : Nat) (S : Nat → Nat → Bool), OkC g N ∧ n = (n' : Int) ∧ n' ≤ 24 ∧ DoneC g n' S ∧ e = .returned (.tuple #[.int .i64 (totV (rowC g S N n' g.start.toNat (n' + 1)) 0), .int .i64 0])))
set_option maxHeartbeats 8000000 in
set_option maxRecDepth 100000 in
theorem totalE (g : Gram) (ra : Option Addr) (rcap : Nat) (n : Int) (w : World) (hr : Rd AnyB w (.sl (g.rules.map Rule.d)) [.slice ra g.rules.length rcap]) :
    Calls Try.prog 7 #[.agg #[.int .i64 g.terms, .int .i64 g.nons, .int .i64 g.start, .slice ra g.rules.length rcap], .int .i64 n] w (TotalPost g n w) := by
  obtain ⟨w0, HW0⟩ := nameIt (w.alloc (.cells #[.int .i64 g.terms, .int .i64 g.nons, .int .i64 g.start, .slice ra g.rules.length rcap] 24))
  have hb0 : Below w.heap.size w w0 := by rw [← HW0.out]; exact (Below.refl _ _).alloc (Nat.le_refl _) _
  have X0 : Hid (w0.heap[w.heap.size]? = some (.cells #[.int .i64 g.terms, .int .i64 g.nons, .int .i64 g.start, .slice ra g.rules.length rcap] 24 (0, 0))) := by rw [← HW0.out]; exact bx_new _ _ _ rfl
  have HTR := Lib.hid (treesE g ra rcap n w0 (hr.below hb0))
  obtain ⟨PST, HP⟩ := nameIt (TotalPost g n w)
  rw [HP.out]
  have HE1 : Hid (errC g n ≠ 0 → ∀ w', Below w0.heap.size w0 w' → PST (.returned (.tuple #[.int .i64 0, .int .i64 (errC g n)])) w') := by
    intro he w' h
    rw [← HP.out]
    exact ⟨hb0.trans (h.mono hb0.size), .inl ⟨he, rfl⟩⟩
  have HE2 : Hid (∀ (N n' : Nat) (S : Nat → Nat → Bool) w', errC g n = 0 → OkC g N → n = (n' : Int) → n' ≤ 24 → DoneC g n' S → Below w0.heap.size w0 w' → PST (.returned (.tuple #[.int .i64 (totV (rowC g S N n' g.start.toNat (n' + 1)) 0), .int .i64 0])) w') := by
    intro N n' S w' h1 h2 h3 h4 h5 h6
    rw [← HP.out]
    exact ⟨hb0.trans (h6.mono hb0.size), .inr ⟨h1, N, n', S, h2, h3, h4, h5, rfl⟩⟩
  obtain ⟨gt, HGT⟩ := nameIt g.terms
  obtain ⟨gn, HGN⟩ := nameIt g.nons
  obtain ⟨rl, HRL⟩ := nameIt g.rules.length
  rw [HGT.out, HGN.out, HRL.out] at HW0 X0 HTR
  rw [HGT.out, HGN.out, HRL.out]
  obtain ⟨x0, x1, x2, x3⟩ := bx_cells4 X0.out
  clear hb0 hr HP
  go_enter Try.func7, Try.ntmps7
  go_upto_region 1 with fail
  rw [HW0.out]
  go_wp2_with fail
  with_reducible refine HTR.out.mono ?_
  clear x0 x1 x2 x3
  rintro e w1 ⟨hb1, ⟨he, rfl⟩ | ⟨he, N, n', S, a, c, hok, hn, hn24, hdn, rfl, hrd⟩⟩
  · have HF := Lib.hid (HE1.out he w1 hb1)
    clear hb1 HE1 HE2
    obtain ⟨c, HC⟩ := nameIt (errC g n)
    rw [HC.out] at HF he
    rw [HC.out]
    have b1 : (c != 0) = true := by simpa using he
    go_wp2_with fail
    first | exact HF.out | (refine bodyPost_ret (results_tmp2 Try.results7 _ _ _) rfl ?_; exact HF.out)
  · have hs0 := hok.s0
    have hs1 := hok.s1
    obtain ⟨st, hst⟩ := Int.eq_ofNat_of_zero_le hs0
    have hstt : g.start.toNat = st := by omega
    have hstN : st < N := by omega
    have HF := Lib.hid (HE2.out N n' S w1 he hok hn hn24 hdn hb1)
    rw [hstt] at HF
    have X1 := Lib.hid (bx_keep X0.out hb1)
    rw [hst] at X1
    obtain ⟨b, off, vr, hae, c0, hsl⟩ := rowI_at hrd (i := st) (by rw [tabC_len]; exact hstN)
    have hrow : (tabC g S N n' N)[st]'(by rw [tabC_len]; exact hstN) = rowC g S N n' st (n' + 1) := by simp [tabC]
    rw [hrow] at hsl
    obtain ⟨L, HL⟩ := nameIt (rowC g S N n' st (n' + 1))
    have hLl : L.length = n' + 1 := by rw [← HL.out, rowC_len]
    rw [HL.out] at hsl HF
    obtain ⟨ar, cr, rfl⟩ := hsl.form
    have hsll := hsl.len
    rw [ints_len] at c0 hsl hsll
    obtain ⟨br, orr, hae2, hcell⟩ := hsl.at (k := 0) (by omega)
    subst hae
    have HCELL : Hid (∀ i, (h : i < L.length) → w1.cell? ⟨br, orr + i, none⟩ = some (.int .i64 L[i])) := fun i h => by
      have := hcell i (by rw [ints_len]; exact h)
      rwa [ints_get] at this
    subst hae2
    obtain ⟨ll, HLL⟩ := nameIt L.length
    rw [HLL.out] at c0 hLl hsll
    have hst1 : (st : Int) < (N : Int) := by omega
    have hst0 : (0 : Int) ≤ (st : Int) := by omega
    obtain ⟨x0, x1, x2, x3⟩ := bx_cells4 X1.out
    obtain ⟨hlc1, hlc2, hlc3⟩ := hsll
    unfold maxLen at hlc3
    have HT0 : Hid (totV L 0 = totV (L.drop 0) 0) := rfl
    clear hsl hcell hrd hb1 hn hdn hok HE1 HE2 hs0 hs1 hst hstt hrow
    go_wp2_with fail
    clear x0 x1 x2 x3 c0
    go_loopg [8, 26] ll (fun gg v8 v26 wr => ∃ (i : Nat) (s : Int), i ≤ ll ∧ ll - i ≤ gg ∧ v8 = .int .i64 s ∧ v26 = .int .i64 i ∧ wr = w1 ∧ Hid (totV L 0 = totV (L.drop i) s))
    case atStart => exact ⟨0, 0, by omega, by omega, rfl, rfl, rfl, HT0⟩
    case round =>
      clear HT0
      obtain ⟨i, s, hi, hg, rfl, rfl, rfl, HT⟩ := hrel
      by_cases hlt : i < ll
      · have hlt' : (i : Int) < (ll : Int) := by omega
        have hi0 : (0 : Int) ≤ (i : Int) := by omega
        have hiL : i < L.length := by rw [HLL.out]; exact hlt
        have q0 := HCELL.out i hiL
        have HT1 : Hid (totV L 0 = if L[i] = -1 then -1 else totV (L.drop (i + 1)) (min (IntKind.i64.wrap (s + L[i])) MaxC)) := HT.out.trans (totV_at hiL s)
        obtain ⟨x, HX⟩ := nameIt (L[i]'hiL)
        rw [HX.out] at q0 HT1
        by_cases hx : x = -1
        · subst hx
          have HT2 : Hid (totV L 0 = -1) := by show _ = _; rw [HT1.out]; rfl
          rw [HT2.out] at HF
          go_wp2_with fail
          first | exact HF.out | (refine bodyPost_ret (results_tmp2 Try.results7 _ _ _) rfl ?_; exact HF.out)
        · have hxb : (x == -1) = false := by simpa using hx
          have HT2 : Hid (totV L 0 = totV (L.drop (i + 1)) (min (IntKind.i64.wrap (s + x)) 1000000000)) := by show _ = _; rw [HT1.out, if_neg hx]; rfl
          obtain ⟨s1, HS1⟩ := nameIt (min (IntKind.i64.wrap (s + x)) 1000000000)
          rw [HS1.out] at HT2
          have hmin : min (IntKind.i64.wrap (s + x)) 1000000000 = s1 := HS1.out
          clear hx
          go_wp2_with fail
          go_roundg (ll - (i + 1))
          case measure => omega
          case rel => exact ⟨i + 1, s1, by omega, by omega, by first | rfl | (rw [← HS1.out, IntKind.wrap_i64]; first | rfl | simp [wrap64]), by go_num, rfl, HT2⟩
      · have hlt' : ¬ (i : Int) < (ll : Int) := by omega
        have HT2 : Hid (totV L 0 = s) := by
          show _ = _; rw [HT.out, List.drop_of_length_le (by rw [HLL.out]; omega)]; rfl
        rw [HT2.out] at HF
        go_wp2_with fail
        first | exact HF.out | (refine bodyPost_ret (results_tmp2 Try.results7 _ _ _) rfl ?_; exact HF.out)
end Cs
end Go.Proofs.Ytbnpemgmdnghgaa
namespace Go.Proofs.Ytbnpemgmdnghgaa
open Go.RowKit
namespace Cs

/-- a counter in memory that may count -/
def CntR (g : Gram) (vr : Value) (N n : Nat) (d : Cid) (S : Nat → Nat → Bool) (w1 : World) (W : World) : Prop :=
  ∃ C, CS g vr N n d S (MK g.rules S N n) (valK g.rules S (MK g.rules S N n) MaxC (-1) (sizeK N n)) w1 C W
/-- the number of trees of the start symbol -/
def startC (g : Gram) (S : Nat → Nat → Bool) (N n : Nat) : Int := tC g S N n g.start.toNat n
def CntPost (g : Gram) (vr : Value) (n : Int) (w : World) (e : Ending) (w' : World) : Prop :=
  Below w.heap.size w w' ∧ ((errC g n ≠ 0 ∧ e = .returned (.tuple #[.pointer none, .int .i64 0, .int .i64 (errC g n)])) ∨
    (errC g n = 0 ∧ ∃ (N n' : Nat) (S : Nat → Nat → Bool), OkC g N ∧ n = (n' : Int) ∧ n' ≤ 24 ∧ DoneC g n' S ∧
      ((startC g S N n' = -1 ∧ e = .returned (.tuple #[.pointer none, .int .i64 0, .int .i64 9])) ∨
       (startC g S N n' ≠ -1 ∧ MaxC ≤ startC g S N n' ∧ e = .returned (.tuple #[.pointer none, .int .i64 0, .int .i64 2])) ∨
       (startC g S N n' ≠ -1 ∧ startC g S N n' < MaxC ∧ ∃ (d : Cid) (w1 : World), e = .returned (.tuple #[.pointer (some ⟨d.cb, 0, none⟩), .int .i64 (startC g S N n'), .int .i64 0]) ∧ Below w.heap.size w w1 ∧ CntR g vr N n' d S w1 w'))))
theorem start_off (g : Gram) (N : Nat) (h : OkC g N) : ∃ A : Nat, g.start = (A : Int) ∧ A < N := ⟨g.start.toNat, by have := h.s0; omega, by have := h.s0; have := h.s1; omega⟩

set_option maxHeartbeats 8000000 in
set_option maxRecDepth 100000 in
theorem countE (g : Gram) (ra : Option Addr) (rcap : Nat) (n : Int) (w : World) (hr : Rd AnyB w (.sl (g.rules.map Rule.d)) [.slice ra g.rules.length rcap]) :
    Calls Try.prog 36 #[.agg #[.int .i64 g.terms, .int .i64 g.nons, .int .i64 g.start, .slice ra g.rules.length rcap], .int .i64 n] w (CntPost g (.slice ra g.rules.length rcap) n w) := by
  obtain ⟨w0, HW0⟩ := nameIt (w.alloc (.cells #[.int .i64 g.terms, .int .i64 g.nons, .int .i64 g.start, .slice ra g.rules.length rcap] 24))
  have hb0 : Below w.heap.size w w0 := by rw [← HW0.out]; exact (Below.refl _ _).alloc (Nat.le_refl _) _
  have X0 : Hid (w0.heap[w.heap.size]? = some (.cells #[.int .i64 g.terms, .int .i64 g.nons, .int .i64 g.start, .slice ra g.rules.length rcap] 24 (0, 0))) := by rw [← HW0.out]; exact bx_new _ _ _ rfl
  have HTR := Lib.hid (totalE g ra rcap n w0 (hr.below hb0))
  have HRD := Lib.hid (hr.below hb0)
  obtain ⟨PST, HP⟩ := nameIt (CntPost g (.slice ra g.rules.length rcap) n w)
  rw [HP.out]
  have HE1 : Hid (errC g n ≠ 0 → ∀ w', Below w0.heap.size w0 w' → PST (.returned (.tuple #[.pointer none, .int .i64 0, .int .i64 (errC g n)])) w') := by
    intro he w' h
    rw [← HP.out]
    exact ⟨hb0.trans (h.mono hb0.size), .inl ⟨he, rfl⟩⟩
  have HE2 : Hid (∀ (N n' : Nat) (S : Nat → Nat → Bool) (d : Cid) w1 w', errC g n = 0 → OkC g N → n = (n' : Int) → n' ≤ 24 → DoneC g n' S → Below w0.heap.size w0 w1 → CntR g (.slice ra g.rules.length rcap) N n' d S w1 w' →
      (startC g S N n' = -1 → PST (.returned (.tuple #[.pointer none, .int .i64 0, .int .i64 9])) w') ∧ (startC g S N n' ≠ -1 → MaxC ≤ startC g S N n' → PST (.returned (.tuple #[.pointer none, .int .i64 0, .int .i64 2])) w') ∧
      (startC g S N n' ≠ -1 → startC g S N n' < MaxC → PST (.returned (.tuple #[.pointer (some ⟨d.cb, 0, none⟩), .int .i64 (startC g S N n'), .int .i64 0])) w')) := by
    intro N n' S d w1 w' h1 h2 h3 h4 h5 h6 h7
    rw [← HP.out]
    have hB1 : Below w.heap.size w w1 := hb0.trans (h6.mono hb0.size)
    have hB2 : Below w.heap.size w w' := by
      obtain ⟨C, hc⟩ := h7
      exact hB1.trans (hc.bel.mono hB1.size)
    exact ⟨fun h => ⟨hB2, .inr ⟨h1, N, n', S, h2, h3, h4, h5, .inl ⟨h, rfl⟩⟩⟩, fun h h' => ⟨hB2, .inr ⟨h1, N, n', S, h2, h3, h4, h5, .inr (.inl ⟨h, h', rfl⟩)⟩⟩, fun h h' => ⟨hB2, .inr ⟨h1, N, n', S, h2, h3, h4, h5, .inr (.inr ⟨h, h', d, w1, rfl, hB1, h7⟩)⟩⟩⟩
  have HMK : Hid (∀ (N n' : Nat) W, OkC g N → n' ≤ 24 → Below w0.heap.size w0 W → Calls Try.prog 28 #[.agg #[.int .i64 g.terms, .int .i64 g.nons, .int .i64 g.start, .slice ra g.rules.length rcap], .int .i64 (n' : Int)] W (MadeC g (.slice ra g.rules.length rcap) N n' W)) :=
    fun N n' W hok hn24 hb => makeE hok.nons hok.n1 hok.n2 hn24 hok.r hok.l W (HRD.out.below hb)
  have HOF : Hid (∀ (N n : Nat) (w1 : World) (d : Cid) (S : Nat → Nat → Bool) (C : Nat → Nat → Int) (A k : Nat) (W : World), OkC g N → n ≤ 24 → Below w0.heap.size w0 w1 → A < N → k ≤ n → CS g (.slice ra g.rules.length rcap) N n d S (MK g.rules S N n) (valK g.rules S (MK g.rules S N n) MaxC (-1) (sizeK N n)) w1 C W →
      Calls Try.prog 29 #[.pointer (some ⟨d.cb, 0, none⟩), .agg #[.bool false, .int .i64 (A : Int)], .int .i64 (k : Int)] W (OfPost g (.slice ra g.rules.length rcap) N n d S (MK g.rules S N n) (valK g.rules S (MK g.rules S N n) MaxC (-1) (sizeK N n)) w1 (tC g S N n A k) W)) := by
    intro N n w1 d S C A k W hok hn24 hb hA hk hc
    have := ofE (d := d) (w0 := w1) (n := n) (by omega) (by have := hok.n2; omega) hok.r (ends_MK (rules := g.rules) (S := S) (N := N) (n := n) hok.r) (HRD.out.below hb) (sizeK N n + 1) ⟨false, (A : Int)⟩ k C W (fun _ => ⟨by simp, by simpa using hA⟩) hk (fun _ => okK_all _ _ _ (Nat.lt_succ_self _)) hc
    exact this
  have HST : Hid (∀ N, OkC g N → ∃ A : Nat, g.start = (A : Int) ∧ A < N) := fun N h => start_off g N h
  have HSC : Hid (∀ (S : Nat → Nat → Bool) N n A, g.start = ((A : Nat) : Int) → startC g S N n = tC g S N n A n) := by
    intro S N n A h; show tC _ _ _ _ _ _ = _; rw [h]; rfl
  obtain ⟨gt, HGT⟩ := nameIt g.terms
  obtain ⟨gn, HGN⟩ := nameIt g.nons
  obtain ⟨gs, HGS⟩ := nameIt g.start
  obtain ⟨rl, HRL⟩ := nameIt g.rules.length
  rw [HGT.out, HGN.out, HGS.out, HRL.out] at HW0 X0 HTR HMK
  rw [HRL.out] at HOF HE2
  rw [HGS.out] at HST HSC
  rw [HGT.out, HGN.out, HGS.out, HRL.out]
  obtain ⟨x0, x1, x2, x3⟩ := bx_cells4 X0.out
  clear hb0 hr HP
  go_enter Try.func36, Try.ntmps36
  go_upto_region 1 with fail
  rw [HW0.out]
  go_wp2_with fail
  with_reducible refine HTR.out.mono ?_
  clear x0 x1 x2 x3
  rintro e w1 ⟨hb1, ⟨he, rfl⟩ | ⟨he, N, n', S0, hok, rfl, hn24, hdn, rfl⟩⟩
  · have HF := Lib.hid (HE1.out he w1 hb1)
    clear hb1 HE1 HE2
    obtain ⟨c, HC⟩ := nameIt (errC g n)
    rw [HC.out] at HF he
    rw [HC.out]
    have b1 : (c != 0) = true := by simpa using he
    go_wp2_with fail
    first | exact HF.out | (refine bodyPost_ret (results_tmp3 Try.results36 _ _ _) rfl ?_; exact HF.out)
  · have HB1 := Lib.hid hb1
    have X1 := Lib.hid (bx_keep X0.out hb1)
    obtain ⟨x0, x1, x2, x3⟩ := bx_cells4 X1.out
    have HMK1 := Lib.hid (HMK.out N n' w1 hok hn24 hb1)
    have HOK := Lib.hid hok
    have HN24 := Lib.hid hn24
    have HER := Lib.hid he
    obtain ⟨tv, HTV⟩ := nameIt (totV (rowC g S0 N n' g.start.toNat (n' + 1)) 0)
    rw [HTV.out]
    clear hb1 hok hn24 he hdn HE1 HTR HTV
    go_wp2_with fail
    with_reducible refine HMK1.out.mono ?_
    clear x0 x1 x2 x3
    rintro e w2 ⟨d, S, rfl, hq, hp3, hci, hb2, hlo⟩
    have HDN : Hid (DoneC g n' S) := ⟨hq, hp3⟩
    obtain ⟨x0, x1, x2, x3⟩ := bx_cells4 (bx_keep X1.out hb2)
    have HCS : Hid (CS g (.slice ra rl rcap) N n' d S (MK g.rules S N n') (valK g.rules S (MK g.rules S N n') MaxC (-1) (sizeK N n')) w1 (fun _ _ => -1) w2) := ⟨by rw [← HRL.out]; rw [← HRL.out] at hci; exact hci, fun _ _ _ _ => .inl rfl, hb2, hlo⟩
    obtain ⟨A, hA, hAN⟩ := HST.out N HOK.out
    have HSC1 := Lib.hid (HSC.out S N n' A hA)
    rw [hA] at x2
    clear hq hp3 hci hb2 hlo
    go_wp2_with fail
    with_reducible refine (gramN _ _).mono ?_
    rintro e w3 ⟨rfl, hb3⟩
    have HCS3 := Lib.hid (HCS.out.keep hb3)
    have HOF3 := Lib.hid (HOF.out N n' w1 d S _ A n' w3 HOK.out HN24.out HB1.out hAN (Nat.le_refl _) HCS3.out)
    clear hb3 x0 x1 x2 x3
    go_wp2_with fail
    with_reducible refine HOF3.out.mono ?_
    rintro e w4 ⟨rfl, hf4, hc4⟩
    obtain ⟨HF1, HF2, HF3⟩ := HE2.out N n' S d w1 w4 HER.out HOK.out rfl HN24.out HDN.out HB1.out hc4
    have G1 := Lib.hid HF1
    have G2 := Lib.hid HF2
    have G3 := Lib.hid HF3
    rw [HSC1.out] at G1 G2 G3
    obtain ⟨k, HK⟩ := nameIt (tC g S N n' A n')
    rw [HK.out] at G1 G2 G3
    rw [HK.out]
    clear HF1 HF2 HF3 hf4 hc4 hA hAN
    by_cases h1 : k = -1
    · subst h1
      have HF := Lib.hid (G1.out rfl)
      clear G1 G2 G3
      go_wp2_with fail
      first | exact HF.out | (refine bodyPost_ret (results_tmp3 Try.results36 _ _ _) rfl ?_; exact HF.out)
    · have b1 : (k == -1) = false := by simpa using h1
      by_cases h2 : MaxC ≤ k
      · have b2 : decide ((1000000000 : Int) ≤ k) = true := by simpa [MaxC] using h2
        have HF := Lib.hid (G2.out h1 h2)
        clear G1 G2 G3 h1 h2
        go_wp2_with fail
        first | exact HF.out | (refine bodyPost_ret (results_tmp3 Try.results36 _ _ _) rfl ?_; exact HF.out)
      · have b2 : decide ((1000000000 : Int) ≤ k) = false := by simpa [MaxC] using h2
        have HF := Lib.hid (G3.out h1 (by omega))
        clear G1 G2 G3 h1 h2
        go_wp2_with fail
        first | exact HF.out | (refine bodyPost_ret (results_tmp3 Try.results36 _ _ _) rfl ?_; exact HF.out)
end Cs
end Go.Proofs.Ytbnpemgmdnghgaa
namespace Go.Proofs.Ytbnpemgmdnghgaa
open Go.RowKit

/-- the word of a list of nodes -/
def leavesOf (l : List Tree) : List Int := l.filterMap fun t => if t.rule = -1 then some t.term else none
def rulesOf (l : List Tree) : List Int := l.map Tree.rule
theorem leavesOf_le (l : List Tree) : (leavesOf l).length ≤ l.length := List.length_filterMap_le _ _

/-- numbers that a function gathers in a captured slice -/
def GatherI (f : List Tree → List Int) (w0 : World) (nb : Nat) (s : List Tree) (S : Nat → Prop) (W : World) : Prop :=
  Below w0.heap.size w0 W ∧ w0.heap.size ≤ nb ∧ ∃ v, W.heap[nb]? = some (.cells #[v] 33 (0, 0)) ∧ W.ownsRow w0.heap.size 3 1 v (f s).length (ints (f s)) ∧ v.ownBlock ≠ some nb ∧ ∀ k, S k ↔ (k = nb ∨ v.ownBlock = some k)

theorem gather_own {f : List Tree → List Int} {w0 : World} {nb : Nat} {s : List Tree} {S : Nat → Prop} {W : World} (h : GatherI f w0 nb s S W) : ∀ k, S k → w0.heap.size ≤ k ∧ k < W.heap.size := by
  intro k hk
  obtain ⟨h1, h2, v, h3, h4, h5, h6⟩ := h
  rw [h6] at hk
  rcases hk with rfl | hk
  · exact ⟨h2, (Array.getElem?_eq_some_iff.1 h3).1⟩
  · exact h4.lt k hk
theorem gather_keep {f : List Tree → List Int} {w0 : World} {nb : Nat} {s : List Tree} {S : Nat → Prop} {W W' : World} (h : GatherI f w0 nb s S W) (hb : Below W.heap.size W W') : GatherI f w0 nb s S W' := by
  obtain ⟨h1, h2, v, h3, h4, h5, h6⟩ := h
  exact ⟨h1.trans (hb.mono h1.size), h2, v, bx_keep h3 hb, own_keep h4 hb, h5, h6⟩

/-- the state behind an append of x: W: before, W1: behind the append, then the store into the captured variable -/
theorem gather_step {f : List Tree → List Int} {w0 : World} {nb : Nat} {s s' : List Tree} {S : Nat → Prop} {W W0 W1 : World} {v v' : Value} {x : Int} (hf : f s' = f s ++ [x])
    (h1 : Below w0.heap.size w0 W) (h2 : w0.heap.size ≤ nb) (h3 : W.heap[nb]? = some (.cells #[v] 33 (0, 0))) (h4 : W.ownsRow w0.heap.size 3 1 v (f s).length (ints (f s))) (h5 : v.ownBlock ≠ some nb) (h6 : ∀ k, S k ↔ (k = nb ∨ v.ownBlock = some k))
    (hb : Below W.heap.size W W0) (ho : W1.ownsRow w0.heap.size 3 1 v' ((f s).length + 1) (ints (f s) ++ [.int .i64 x])) (hg : W0.grownBy W1 v.ownBlock) (hat : v'.ownBlock = v.ownBlock ∨ ∃ k, v'.ownBlock = some k ∧ W0.heap.size ≤ k) :
    ∃ S', GatherI f w0 nb s' S' (W1.setCell ⟨nb, 0, none⟩ v') ∧ Keeps S W (W1.setCell ⟨nb, 0, none⟩ v') ∧ ∀ k, S' k → S k ∨ W.heap.size ≤ k := by
  have hnb := (Array.getElem?_eq_some_iff.1 h3).1
  have h3' := bx_keep h3 hb
  have hnb' := (Array.getElem?_eq_some_iff.1 h3').1
  have hne' : v'.ownBlock ≠ some nb := by
    rcases hat with e | ⟨k, e, hk⟩
    · rw [e]; exact h5
    · rw [e]; intro e; cases e; omega
  have h3'' : W1.heap[nb]? = some (.cells #[v] 33 (0, 0)) := by rw [hg.block nb hnb' (fun e => h5 e.symm)]; exact h3'
  have hbel : Below w0.heap.size w0 W1 := (h1.trans (hb.mono h1.size)).grown hg (Nat.le_trans h1.size hb.size) (fun k e => (h4.lt k e).1)
  refine ⟨fun k => k = nb ∨ v'.ownBlock = some k, ⟨hbel.setCell h2 _, h2, v', ?_, ?_, hne', fun _ => Iff.rfl⟩, ?_, ?_⟩
  · rw [bx_set h3'']; rfl
  · rw [hf]
    have e : ints (f s ++ [x]) = ints (f s) ++ [.int .i64 x] := by simp [ints]
    rw [e, List.length_append]
    exact ho.kept (grown_cell W1 ⟨nb, 0, none⟩ v') (.inr (by exact hne'))
  · refine ⟨hg.os.trans hb.os, hg.tape.trans hb.tape, hg.output.trans hb.output, by simp [World.setCell]; exact Nat.le_trans hb.size hg.size, fun k hk hn => ?_⟩
    rw [h6] at hn
    have k1 : k ≠ nb := fun e => hn (.inl e)
    have k2 : v.ownBlock ≠ some k := fun e => hn (.inr e)
    rw [Below.heap_setCell _ _ _ _ k1, hg.block k (Nat.lt_of_lt_of_le hk hb.size) (fun e => k2 e.symm), hb.block k hk]
  · rintro k (rfl | hk)
    · exact .inl ((h6 k).2 (.inl rfl))
    · rcases hat with e | ⟨j, e, hj⟩
      · exact .inl ((h6 k).2 (.inr (by rw [← e]; exact hk)))
      · rw [e] at hk; cases hk; exact .inr (by have := hb.size; omega)

set_option maxHeartbeats 400000 in
theorem wordF (w0 : World) (nb N : Nat) (hN : N * 8 ≤ 140737488355328) : NodeFn 42 #[.pointer (some ⟨nb, 0, none⟩)] w0 (fun _ => true) N (GatherI leavesOf w0 nb) where
  below := fun h => h.1
  own := gather_own
  keep := gather_keep
  call := by
    intro s S W t v h hv hs
    obtain ⟨a, n, cap, rfl⟩ := treeBox hv
    have HI := Lib.hid h
    obtain ⟨h1, h2, u, h3, h4, h5, h6⟩ := h
    have H1 := Lib.hid h1
    have H3 := Lib.hid h3
    have H4 := Lib.hid h4
    have H5 := Lib.hid h5
    have H6 := Lib.hid h6
    have c0 := bx_cells1 h3
    have f0 := bx_free1 h3
    have hlt := (Array.getElem?_eq_some_iff.1 h3).1
    have hlen := leavesOf_le s
    obtain ⟨au, cu, rfl, hu1, hu2⟩ := own_len h4
    unfold maxLen at hu2
    clear h1 h3 h4 h5 h6 hv
    have hb := (Below.refl W.heap.size W).alloc (Nat.le_refl _) (.cells #[.int .i64 t.rule, .int .i64 t.term, .slice a n cap] 42)
    have HB := Lib.hid hb
    clear hb
    obtain ⟨r, HR⟩ := nameIt t.rule
    obtain ⟨tm, HT⟩ := nameIt t.term
    rw [HR.out, HT.out] at HB
    rw [HR.out, HT.out]
    by_cases hr : r = -1
    · subst hr
      have HE : Hid (leavesOf (s ++ [t]) = leavesOf s ++ [tm]) := by show _ = _; simp [leavesOf, HR.out, HT.out]
      go_enter Try.func42, Try.ntmps42
      go_wp2_with (at_builtin; refine wp_app1at elInt rfl _ _ rfl (own_keep H4.out HB.out) rfl rfl (by simp) rfl rfl (by omega) (by unfold maxLen; omega) (by have := H1.out.size; simp; omega) ?_)
      intro v' w' ho hg hat
      obtain ⟨a', c', rfl, -, -⟩ := own_len ho
      have HST := Lib.hid (gather_step HE.out H1.out h2 H3.out H4.out H5.out H6.out HB.out ho hg (by simpa using hat))
      have hnb' : nb < w'.heap.size := by have := hg.size; simp at this; omega
      have h3 : w'.heap[nb]? = some (.cells #[.slice au (leavesOf s).length cu] 33 (0, 0)) := by
        rw [hg.block nb (by simp; omega) (fun e => H5.out e.symm)]; exact bx_keep H3.out HB.out
      have f1 := bx_free1 h3
      have f2 := bx_cells1 h3
      clear ho hg hat h3
      go_wp2
      go_ret
      obtain ⟨S', i1, i2, i3⟩ := HST.out
      exact ⟨S', rfl, i1, i2, i3⟩
    · have hr' : (r == -1) = false := by simpa using hr
      have HE : Hid (leavesOf (s ++ [t]) = leavesOf s) := by show _ = _; simp [leavesOf, HR.out, hr]
      clear hr
      go_enter Try.func42, Try.ntmps42
      go_wp2
      go_ret
      refine ⟨S, rfl, ?_, Below.keeps HB.out, fun k h => .inl h⟩
      have := gather_keep HI.out HB.out
      unfold GatherI at this ⊢
      rw [HE.out]; exact this

def IntsPost (l : List Int) (w : World) (e : Ending) (w' : World) : Prop := ∃ v, e = .returned v ∧ Sl w' v (ints l) ∧ Below w.heap.size w w'

set_option maxHeartbeats 400000 in
theorem wordT (t : Tree) (v : Value) (w : World) (hv : Rd AnyB w (.sl (t.kids.map Tree.d)) [v]) (hN : (nodes t).length * 8 ≤ 140737488355328) :
    Calls Try.prog 20 #[.agg #[.int .i64 t.rule, .int .i64 t.term, v]] w (IntsPost (leavesOf (nodes t)) w) := by
  obtain ⟨a, n, cap, rfl⟩ := treeBox hv
  have hI : GatherI leavesOf w (w.heap.size + 1) [] (fun k => k = w.heap.size + 1 ∨ (Value.slice none 0 0).ownBlock = some k) ((w.alloc (.cells #[.int .i64 t.rule, .int .i64 t.term, .slice a n cap] 42)).alloc (.cells #[.slice none 0 0] 33)) :=
    ⟨((Below.refl _ _).alloc (Nat.le_refl _) _).alloc (by simp) _, by omega, _, bx_new _ _ _ (by simp), World.ownsRow_nil _ _ _ _, by simp [Value.ownBlock], fun _ => Iff.rfl⟩
  have hw := walkE 42 #[.pointer (some ⟨w.heap.size + 1, 0, none⟩)] w (fun _ => true) (nodes t).length _ (fun _ _ => by kernel_rfl) (wordF w (w.heap.size + 1) (nodes t).length hN) (nodes t).length t _ [] _ _ (Nat.le_refl _) hI hv (by simp)
  have HW := Lib.hid hw
  clear hw hI hv hN
  go_enter Try.func20, Try.ntmps20
  go_wp2_with fail
  refine HW.out.mono ?_
  rintro e w1 ⟨S', rfl, ⟨h1, h2, u, h3, h4, h7, h8⟩, h5, h6⟩
  rw [upTo_all (by simp)] at h4
  simp only [List.nil_append] at h4
  have c0 := bx_cells1 h3
  have HB := Lib.hid h1
  have HS := Lib.hid (sl_of_own h4)
  obtain ⟨a', c', rfl, -, -⟩ := own_len h4
  clear h1 h2 h3 h4 h5 h6 h7 h8
  go_wp2
  go_ret
  exact ⟨_, rfl, HS.out, HB.out⟩

end Go.Proofs.Ytbnpemgmdnghgaa
namespace Go.Proofs.Ytbnpemgmdnghgaa
open Go.RowKit
namespace Cs

/-- how many leaves a tree has -/
def wl (t : Tree) : Nat := (leavesOf (nodes t)).length
def wlp (ks : List Tree) (i : Nat) : Nat := (leavesOf (nodesL (ks.take i))).length
theorem leaves_app (a b : List Tree) : leavesOf (a ++ b) = leavesOf a ++ leavesOf b := by unfold leavesOf; rw [List.filterMap_append]
theorem wlp_zero (ks : List Tree) : wlp ks 0 = 0 := rfl
theorem wlp_next {ks : List Tree} {i : Nat} (h : i < ks.length) : wlp ks (i + 1) = wlp ks i + wl ks[i] := by
  unfold wlp wl
  rw [nodesL_take h, leaves_app, List.length_append]
theorem wlp_le (ks : List Tree) (i : Nat) : wlp ks i ≤ wlp ks ks.length := by
  unfold wlp
  rw [List.take_length]
  conv => rhs; rw [← List.take_append_drop i ks]
  rw [nodesL_append, leaves_app, List.length_append]
  omega
theorem wl_node {t : Tree} (h : t.rule ≠ -1) : wl t = wlp t.kids t.kids.length := by
  unfold wl wlp
  rw [nodes_eq, List.take_length]
  unfold kidsOf
  rw [if_neg h]
  have : leavesOf (t :: nodesL t.kids) = leavesOf (nodesL t.kids) := by
    unfold leavesOf
    rw [List.filterMap_cons, if_neg h]
  rw [this]
theorem wl_leaf {t : Tree} (h : t.rule = -1) : wl t = 1 := by
  unfold wl
  rw [nodes_eq]
  unfold kidsOf
  rw [if_pos h]
  simp [nodesL, leavesOf, h]
/-- every node of a tree is valid -/
def OkT (g : Gram) (t : Tree) : Prop := ∀ x ∈ nodes t, nodeOk g x = true
theorem OkT.kid {g : Gram} {t : Tree} (h : OkT g t) (hr : t.rule ≠ -1) {k : Tree} (hk : k ∈ t.kids) : OkT g k := by
  intro x hx
  refine h x ?_
  rw [nodes_eq]
  refine List.mem_cons_of_mem _ ?_
  unfold kidsOf
  rw [if_neg hr]
  obtain ⟨i, hi, rfl⟩ := List.getElem_of_mem hk
  rw [nodesL_split hi]
  exact List.mem_append_right _ (List.mem_append_left _ hx)
theorem OkT.size {t : Tree} (hr : t.rule ≠ -1) {i : Nat} (hi : i < t.kids.length) : (nodes t.kids[i]).length < (nodes t).length := by
  rw [nodes_eq t]
  unfold kidsOf
  rw [if_neg hr, nodesL_split hi]
  simp
  omega
theorem OkT.cases {g : Gram} {t : Tree} (h : OkT g t) : t.rule = -1 ∨ ∃ (j : Nat) (hj : j < g.rules.length), t.rule = (j : Int) ∧ t.kids.length = g.rules[j].right.length := by
  have h0 := h t (by rw [nodes_eq]; exact List.mem_cons_self)
  unfold nodeOk at h0
  by_cases h1 : t.rule = -1
  · exact .inl h1
  · rw [if_neg h1] at h0
    by_cases h2 : t.rule < 0
    · rw [if_pos h2] at h0; cases h0
    · rw [if_neg h2] at h0
      obtain ⟨j, hj⟩ := Int.eq_ofNat_of_zero_le (show 0 ≤ t.rule by omega)
      rw [hj, Int.toNat_natCast] at h0
      cases hg : g.rules[j]? with
      | none => rw [hg] at h0; cases h0
      | some r =>
        rw [hg] at h0
        obtain ⟨hjl, rfl⟩ := List.getElem?_eq_some_iff.1 hg
        simp only [Bool.and_eq_true, kidsOk, decide_eq_true_eq] at h0
        exact .inr ⟨j, hjl, hj, h0.2.1⟩
theorem bx_cells5c {w : World} {b : Nat} {x0 x1 x2 x3 x4 : Value} {T : TypeId} (h : w.heap[b]? = some (.cells #[x0, x1, x2, x3, x4] T (0, 0))) :
    w.cell? ⟨b, 0, none⟩ = some x0 ∧ w.cell? ⟨b, 0 + 1, none⟩ = some x1 ∧ w.cell? ⟨b, 0 + 2, none⟩ = some x2 ∧ w.cell? ⟨b, 0 + 3, none⟩ = some x3 ∧ w.cell? ⟨b, 0 + 4, none⟩ = some x4 := by
  refine ⟨?_, ?_, ?_, ?_, ?_⟩ <;> simp [World.cell?, h]
/-- the counter between calls; blocks of Wb but the counts stay -/
structure NI (g : Gram) (vr : Value) (N n : Nat) (d : Cid) (S : Nat → Nat → Bool) (w1 Wb W : World) : Prop where
  cs : CntR g vr N n d S w1 W
  fr : Fr N d Wb W
section
variable {g : Gram} {vr : Value} {N n : Nat} {d : Cid} {S : Nat → Nat → Bool} {w1 Wb W W' : World}
theorem CntR.keep (h : CntR g vr N n d S w1 W) (hb : Below W.heap.size W W') : CntR g vr N n d S w1 W' := by
  obtain ⟨C, hc⟩ := h
  exact ⟨C, hc.keep hb⟩
theorem CntR.bel (h : CntR g vr N n d S w1 W) : Below w1.heap.size w1 W := by obtain ⟨C, hc⟩ := h; exact hc.bel
theorem CntR.big (h : CntR g vr N n d S w1 W) {b : Nat} (hb : W.heap.size ≤ b) : ∀ a, a < N → d.rc a ≠ b := by obtain ⟨C, hc⟩ := h; exact hc.big hb
theorem CntR.over (h : CntR g vr N n d S w1 W) {b : Nat} (hb : d.cb < b) : ∀ a, a < N → d.rc a ≠ b := by
  obtain ⟨C, hc⟩ := h
  intro a ha e
  have := (hc.rc a ha).2
  omega
theorem CntR.low (h : CntR g vr N n d S w1 W) {b : Nat} (hb : b < w1.heap.size) : ∀ a, a < N → d.rc a ≠ b := by
  obtain ⟨C, hc⟩ := h
  intro a ha e
  have := (hc.rc a ha).1
  omega
theorem NI.start (h : CntR g vr N n d S w1 W) : NI g vr N n d S w1 W W := ⟨h, Fr.refl _ _ _⟩
theorem NI.keep (h : NI g vr N n d S w1 Wb W) (hb : Below W.heap.size W W') : NI g vr N n d S w1 Wb W' := ⟨h.cs.keep hb, h.fr.trans (Fr.of hb)⟩
theorem NI.of (h : NI g vr N n d S w1 Wb W) (hf : Fr N d W W') (hc : CntR g vr N n d S w1 W') : NI g vr N n d S w1 Wb W' := ⟨hc, h.fr.trans hf⟩
end
/-- what 'of' answers -/
def OfTPost (g : Gram) (vr : Value) (N n : Nat) (d : Cid) (S : Nat → Nat → Bool) (w1 : World) (t : Tree) (W : World) (e : Ending) (W' : World) : Prop :=
  ∃ i : Int, e = .returned (.tuple #[.int .i64 (wl t : Int), .int .i64 i]) ∧ Fr N d W W' ∧ CntR g vr N n d S w1 W'
end Cs
end Go.Proofs.Ytbnpemgmdnghgaa
namespace Go.Proofs.Ytbnpemgmdnghgaa
open Go.RowKit
namespace Cs

def SE (g : Gram) (S : Nat → Nat → Bool) (N n : Nat) : Sym → Nat → List Tree := symE S (EN g.rules S (sizeK N n))
def GdN (g : Gram) (S : Nat → Nat → Bool) (N n f : Nat) : Nat → Nat → Prop := Gd (MK g.rules S N n) (clK g.rules S N n) N n (sizeK N n) f
def TrPost (g : Gram) (vr : Value) (N n : Nat) (d : Cid) (S : Nat → Nat → Bool) (w1 : World) (t : Tree) (W : World) (e : Ending) (W' : World) : Prop :=
  ∃ v, e = .returned (.agg #[.int .i64 t.rule, .int .i64 t.term, v]) ∧ Rd (fun b => W.heap.size ≤ b) W' (.sl (t.kids.map Tree.d)) [v] ∧ Fr N d W W' ∧ CntR g vr N n d S w1 W'
def TsPost (g : Gram) (vr : Value) (N n : Nat) (d : Cid) (S : Nat → Nat → Bool) (w1 : World) (ks : List Tree) (W : World) (e : Ending) (W' : World) : Prop :=
  ∃ v, e = .returned v ∧ Rd (fun b => W.heap.size ≤ b) W' (.sl (ks.map Tree.d)) [v] ∧ Fr N d W W' ∧ CntR g vr N n d S w1 W'
def nbox (g : Gram) (vr : Value) (d : Cid) : Obj := .cells #[.int .i64 g.terms, .int .i64 g.nons, .int .i64 g.start, vr, .pointer (some ⟨d.cb, 0, none⟩)] 85 (0, 0)
def TreeP (g : Gram) (vr : Value) (N n : Nat) (d : Cid) (S : Nat → Nat → Bool) (w1 : World) (xb f : Nat) : Prop :=
  ∀ (s : Sym), okS N s → ∀ k, k ≤ n → (s.term = false → GdN g S N n f s.n.toNat k) → ∀ (i : Nat) (t : Tree), (SE g S N n s k)[i]? = some t → (SE g S N n s k).length < 1000000000 →
    ∀ W, CntR g vr N n d S w1 W → W.heap[xb]? = some (nbox g vr d) →
      Calls Try.prog 51 #[.pointer (some ⟨xb, 0, none⟩), .agg #[.bool s.term, .int .i64 s.n], .int .i64 (k : Int), .int .i64 (i : Int)] W (TrPost g vr N n d S w1 t W)
def ListP (g : Gram) (vr : Value) (N n : Nat) (d : Cid) (S : Nat → Nat → Bool) (w1 : World) (xb f : Nat) : Prop :=
  ∀ (l : List Sym), (∀ s ∈ l, okS N s) → l.length ≤ 1000 → ∀ k, k ≤ n → Fine S (GdN g S N n f) l k → ∀ (i : Nat) (ks : List Tree), (enL S (SE g S N n) l k)[i]? = some ks → (enL S (SE g S N n) l k).length < 1000000000 →
    ∀ (a : Option Addr) (cap : Nat) W, Rd AnyB w1 (.sl (l.map Sym.d)) [.slice a l.length cap] → CntR g vr N n d S w1 W → W.heap[xb]? = some (nbox g vr d) →
      Calls Try.prog 76 #[.pointer (some ⟨xb, 0, none⟩), .slice a l.length cap, .int .i64 (k : Int), .int .i64 (i : Int)] W (TsPost g vr N n d S w1 ks W)

theorem rd_nilT (S : Nat → Prop) (w : World) : Rd S w (.sl (([] : List Tree).map Tree.d)) [.slice none 0 0] := rd_of_own (World.ownsRow_nil w 0 42 3) (by simp [RdAll]) rfl (fun k e => by simp [Value.ownBlock] at e)
section
variable {g : Gram} {vr : Value} {N n : Nat} {d : Cid} {S : Nat → Nat → Bool} {w1 W W' w0 Wc w' : World}
theorem CntR.cbl' (h : CntR g vr N n d S w1 W) : d.cb < W.heap.size := by
  obtain ⟨C, hc⟩ := h
  exact hc.ci.lt
theorem CntR.keepB {B : Nat} (h : CntR g vr N n d S w1 W) (hb : Below B W W') (hB : d.cb < B) : CntR g vr N n d S w1 W' := by
  obtain ⟨C, hc⟩ := h
  exact ⟨C, hc.keepB hb hB⟩
theorem CntR.rlt (h : CntR g vr N n d S w1 W) {B : Nat} (hB : d.cb < B) : ∀ a, a < N → d.rc a < B := by
  obtain ⟨C, hc⟩ := h
  exact hc.rlt hB
/-- the result box is stored into -/
theorem trFin {t : Tree} {rb : Nat} {v : Value} (x y z : Value) (hb0 : Below W.heap.size W w0) (hc0 : CntR g vr N n d S w1 W) (hrb : W.heap.size ≤ rb) (hrb2 : rb < w0.heap.size) (h1 : Fr N d w0 Wc) (h2 : Rd (fun b => Wc.heap.size ≤ b) w' (.sl (t.kids.map Tree.d)) [v]) (h3 : Fr N d Wc w') (h4 : CntR g vr N n d S w1 w') :
    TrPost g vr N n d S w1 t W (.returned (.agg #[.int .i64 t.rule, .int .i64 t.term, v])) (((w'.setCell ⟨rb, 0, none⟩ x).setCell ⟨rb, 1, none⟩ y).setCell ⟨rb, 2, none⟩ z) := by
  have hs := h1.size
  have hs0 := hb0.size
  have hcb := hc0.cbl'
  refine ⟨v, rfl, (h2.box3 (by show ¬ Wc.heap.size ≤ rb; omega) x y z).mono (fun k hk _ => by show W.heap.size ≤ k; have : Wc.heap.size ≤ k := hk; omega), ?_, ?_⟩
  · have hf : Fr N d W w' := (Fr.of hb0).trans (h1.trans h3)
    have hb := below_box3 (Below.refl w'.heap.size w') (Nat.le_refl _) x y z
    refine ⟨hf.os, hf.tape, hf.output, ?_, fun k hk hn => ?_⟩
    · have := hf.size; simpa [World.setCell] using this
    · have hg := (grown_box3 rb w' x y z).block k (by have := hf.size; omega) (by intro e; cases e; omega)
      exact hg.trans (hf.block k hk hn)
  · exact h4.keepB (B := rb) (below_box3 (Below.refl rb w') (Nat.le_refl _) x y z) (by omega)
end

set_option maxHeartbeats 400000 in
theorem leafN (x : Int) (w : World) : Calls Try.prog 75 #[.int .i64 x] w fun e w' => e = .returned (.agg #[.int .i64 (-1), .int .i64 x, .slice none 0 0]) ∧ Below w.heap.size w w' := by
  obtain ⟨w0, HW0⟩ := nameIt (w.alloc (.cells #[.int .i64 0, .int .i64 0, .slice none 0 0] 42))
  have hb0 : Below w.heap.size w w0 := by rw [← HW0.out]; exact (Below.refl _ _).alloc (Nat.le_refl _) _
  have HB := Lib.hid (below_box3 hb0 (Nat.le_refl _) (.int .i64 (-1)) (.int .i64 x) (.slice none 0 0))
  have X0 : Hid (w0.heap[w.heap.size]? = some (.cells #[.int .i64 0, .int .i64 0, .slice none 0 0] 42 (0, 0))) := by rw [← HW0.out]; exact bx_new _ _ _ rfl
  obtain ⟨y0, y1, y2⟩ := bx_cells3 X0.out
  obtain ⟨f0, f1, f2⟩ := bx_free3 X0.out
  clear hb0
  go_enter Try.func75, Try.ntmps75
  go_upto_region 1 with fail
  rw [HW0.out]
  go_wp2_with fail
  exact bodyPost_ret (v := .agg #[.int .i64 (-1), .int .i64 x, .slice none 0 0]) (by simp [results, Try.results75, go_sem, y0, y1, y2]) rfl ⟨rfl, by simpa using HB.out⟩
end Cs
end Go.Proofs.Ytbnpemgmdnghgaa
namespace Go.Proofs.Ytbnpemgmdnghgaa
open Go.RowKit
namespace Cs

set_option maxHeartbeats 16000000 in
set_option maxRecDepth 100000 in
theorem treeN {g : Gram} {ra : Option Addr} {rcap N n : Nat} {d : Cid} {S : Nat → Nat → Bool} {w1 : World} {xb f : Nat} (hok : OkC g N) (hn : n ≤ 24) (hR : Rd AnyB w1 (.sl (g.rules.map Rule.d)) [.slice ra g.rules.length rcap]) (hxb : d.cb < xb) (h4 : ∀ r ∈ g.rules, r.right.length ≤ 1000)
    (hL : ∀ f0, f = f0 + 1 → ListP g (.slice ra g.rules.length rcap) N n d S w1 xb f0) : TreeP g (.slice ra g.rules.length rcap) N n d S w1 xb f := by
  intro s hs k hk hg i t hi hlen W hC hx
  obtain ⟨st, sn⟩ := s
  obtain ⟨PST, HP⟩ := nameIt (TrPost g (.slice ra g.rules.length rcap) N n d S w1 t W)
  rw [HP.out]
  obtain ⟨w0, HW0⟩ := nameIt ((W.alloc (.cells #[.bool st, .int .i64 sn] 65)).alloc (.cells #[.int .i64 0, .int .i64 0, .slice none 0 0] 42))
  have hb0 : Below W.heap.size W w0 := by rw [← HW0.out]; exact ((Below.refl _ _).alloc (Nat.le_refl _) _).alloc (by simp) _
  have HC0 := Lib.hid (hC.keep hb0)
  have Y0 : Hid (w0.heap[W.heap.size]? = some (.cells #[.bool st, .int .i64 sn] 65 (0, 0))) := by rw [← HW0.out]; exact bx_keep (bx_new _ _ _ rfl) ((Below.refl _ _).alloc (Nat.le_refl _) _)
  have R0 : Hid (w0.heap[W.heap.size + 1]? = some (.cells #[.int .i64 0, .int .i64 0, .slice none 0 0] 42 (0, 0))) := by rw [← HW0.out]; exact bx_new _ _ _ (by simp)
  have hsz0 : w0.heap.size = W.heap.size + 1 + 1 := by rw [← HW0.out]; simp
  have HFIN : Hid (∀ (v : Value) (Wc w' : World) (x y z : Value), Fr N d w0 Wc → Rd (fun b => Wc.heap.size ≤ b) w' (.sl (t.kids.map Tree.d)) [v] → Fr N d Wc w' → CntR g (.slice ra g.rules.length rcap) N n d S w1 w' →
      PST (.returned (.agg #[.int .i64 t.rule, .int .i64 t.term, v])) (((w'.setCell ⟨W.heap.size + 1, 0, none⟩ x).setCell ⟨W.heap.size + 1, 1, none⟩ y).setCell ⟨W.heap.size + 1, 2, none⟩ z)) := by
    intro v Wc w' x y z h1 h2 h3 h4
    rw [← HP.out]
    exact trFin x y z hb0 hC (by omega) (by omega) h1 h2 h3 h4
  have X1 := Lib.hid (bx_keep hx hb0)
  have HXN : Hid (∀ a, a < N → d.rc a ≠ xb) := hC.over hxb
  have HYN : Hid (∀ a, a < N → d.rc a ≠ W.heap.size) := hC.big (Nat.le_refl _)
  have HRN : Hid (∀ a, a < N → d.rc a ≠ W.heap.size + 1) := hC.big (by omega)
  obtain ⟨sb, HSB⟩ := nameIt W.heap.size
  rw [HSB.out] at Y0 R0 HYN HRN HFIN
  obtain ⟨rb, HRB⟩ := nameIt (sb + 1)
  rw [HRB.out] at R0 HRN HFIN
  cases st with
  | true =>
    have ht : t = .node (-1) sn [] := by
      unfold SE symE at hi
      by_cases hh : hasK S ⟨true, sn⟩ k = false
      · rw [if_pos hh] at hi; simp at hi
      · rw [if_neg hh] at hi
        simp at hi
        cases i with
        | zero => simpa using hi.symm
        | succ i => simp at hi
    subst ht
    have HLF := Lib.hid (leafN sn w0)
    obtain ⟨y0, y1⟩ := bx_cells2 Y0.out
    clear hi hlen hg hC hx hb0 HP hL hR hs X1
    go_enter Try.func51, Try.ntmps51
    go_upto_region 1 with fail
    rw [HW0.out, HSB.out]
    rw [HRB.out]
    go_wp2_with fail
    refine HLF.out.mono ?_
    rintro e w2 ⟨rfl, hb2⟩
    have R2 := bx_keep R0.out hb2
    have HE := Lib.hid (HFIN.out (.slice none 0 0) w0 w2 (.int .i64 (-1)) (.int .i64 sn) (.slice none 0 0) (Fr.refl _ _ _) (rd_nilT _ _) (Fr.of hb2) (HC0.out.keep hb2))
    obtain ⟨z0, z1, z2⟩ := bx_cells3 R2
    obtain ⟨f0, f1, f2⟩ := bx_free3 R2
    clear y0 y1 HLF hb2 R2 HFIN
    go_wp2_with fail
    refine bodyPost_ret (v := .agg #[.int .i64 (-1), .int .i64 sn, .slice none 0 0]) (by simp [results, Try.results51, go_sem, z0, z1, z2]) rfl ?_
    simpa [Tree.rule, Tree.term] using HE.out
  | false =>
    obtain ⟨hA, hkn, hM, hrk⟩ := hg rfl
    obtain ⟨hs0, hsN⟩ := hs rfl
    obtain ⟨f0, rfl⟩ : ∃ f0, f = f0 + 1 := ⟨f - 1, by omega⟩
    replace hL := hL f0 rfl
    obtain ⟨A, rfl⟩ : ∃ A : Nat, sn = (A : Int) := ⟨sn.toNat, by simp at hs0; omega⟩
    simp only [Int.toNat_natCast] at hA hM hrk hsN
    have hE := ends_MM (rules := g.rules) (S := S) (N := N) (n := n) hok.r
    have hse : SE g S N n ⟨false, (A : Int)⟩ k = enR S (SE g S N n) (A : Int) k g.rules 0 := by
      have hh : hasK S ⟨false, (A : Int)⟩ k = S A k := rfl
      by_cases h : S A k = false
      · unfold SE symE at hi
        rw [if_pos (hh.trans h)] at hi
        simp at hi
      · unfold SE
        rw [symE, if_neg (by rw [hh]; exact h)]
        simp only [Bool.false_eq_true, if_false, Int.toNat_natCast]
        rw [EN_eq hE hA hk hM, if_neg h]
    rw [hse] at hi hlen
    obtain ⟨o, HO⟩ := nameIt (SE g S N n)
    rw [HO.out] at hi hlen
    have HLS : Hid (∀ j (hj : j < g.rules.length), g.rules[j].left = (A : Int) → ∀ a cap, Rd AnyB w1 (.sl (g.rules[j].right.map Sym.d)) [.slice a g.rules[j].right.length cap] → ∀ W, CntR g (.slice ra g.rules.length rcap) N n d S w1 W →
        Calls Try.prog 57 #[.pointer (some ⟨d.cb, 0, none⟩), .slice a g.rules[j].right.length cap, .int .i64 (k : Int)] W fun e W' => e = .returned (.int .i64 ((enL S o g.rules[j].right k).length : Int)) ∧ Fr N d W W' ∧ CntR g (.slice ra g.rules.length rcap) N n d S w1 W') := by
      intro j hj hl a cap hrd W' hc
      obtain ⟨C, hc⟩ := hc
      have hmem := List.getElem_mem hj
      have hv := listV_EN (cap := MaxC) (many := -1) (by decide) (by decide) hE (hE A k _ hA hk hM hmem hl)
      have hle := preR_len_le (S := S) (o := o) (A := (A : Int)) (k := k) (show j + 1 ≤ g.rules.length from hj)
      rw [preR_len hj, if_pos hl] at hle
      have h := (listE (n := n) (by omega) (ofE (d := d) (w0 := w1) (n := n) (by omega) (by have := hok.n2; omega) hok.r (ends_MK (rules := g.rules) (S := S) (N := N) (n := n) hok.r) hR (sizeK N n + 1)) g.rules[j].right (hok.r _ hmem) k hk (fun _ _ _ _ _ _ _ _ _ _ => okK_all _ _ _ (Nat.lt_succ_self _)) a cap C W' hc hrd)
      have HO' : symE S (EN g.rules S (sizeK N n)) = o := HO.out
      rw [hv, HO', Int.min_eq_left (by unfold MaxC; omega)] at h
      exact h
    have HLP : Hid (∀ j (hj : j < g.rules.length), g.rules[j].left = (A : Int) → ∀ (x : Nat) (ks : List Tree), (enL S o g.rules[j].right k)[x]? = some ks → ∀ a cap W, Rd AnyB w1 (.sl (g.rules[j].right.map Sym.d)) [.slice a g.rules[j].right.length cap] → CntR g (.slice ra g.rules.length rcap) N n d S w1 W → W.heap[xb]? = some (nbox g (.slice ra g.rules.length rcap) d) →
        Calls Try.prog 76 #[.pointer (some ⟨xb, 0, none⟩), .slice a g.rules[j].right.length cap, .int .i64 (k : Int), .int .i64 (x : Int)] W (TsPost g (.slice ra g.rules.length rcap) N n d S w1 ks W)) := by
      intro j hj hl x ks hx' a cap W' hrd hc hb
      have hmem := List.getElem_mem hj
      have hle := preR_len_le (S := S) (o := o) (A := (A : Int)) (k := k) (show j + 1 ≤ g.rules.length from hj)
      rw [preR_len hj, if_pos hl] at hle
      rw [← HO.out] at hx' hle
      exact hL _ (hok.r _ hmem) (h4 _ hmem) k hk ((hE A k _ hA hk hM hmem hl).mono fun B j' hg' => hg'.mono (by omega)) x ks hx' (by rw [← HO.out] at hlen; omega) a cap W' hrd hc hb
    have HFD : Hid (∀ j (hj : j < g.rules.length), g.rules[j].left = (A : Int) → ∀ x, x < (enL S o g.rules[j].right k).length → i = (preR S o (A : Int) k g.rules j).length + x → ∃ ks, t = Tree.node (j : Int) 0 ks ∧ (enL S o g.rules[j].right k)[x]? = some ks) := by
      intro j hj hl x hx' hi'
      subst hi'
      exact enR_found hj hl hx' hi
    have HEND : Hid (i < (preR S o (A : Int) k g.rules g.rules.length).length) := by
      show i < _
      rw [preR_all]
      exact (List.getElem?_eq_some_iff.1 hi).1
    have HPL : Hid (∀ j (hj : j < g.rules.length), (preR S o (A : Int) k g.rules (j + 1)).length = (preR S o (A : Int) k g.rules j).length + (if g.rules[j].left = (A : Int) then (enL S o g.rules[j].right k).length else 0)) := fun j hj => preR_len hj
    have HI0 : Hid (i = (preR S o (A : Int) k g.rules 0).length + i) := by show i = _; rw [preR_zero]; simp
    have hib : i < 1000000000 := by have := (List.getElem?_eq_some_iff.1 hi).1; omega
    have hLb : ∀ j (hj : j < g.rules.length), g.rules[j].left = (A : Int) → (enL S o g.rules[j].right k).length < 1000000000 := by
      intro j hj hl
      have hle := preR_len_le (S := S) (o := o) (A := (A : Int)) (k := k) (show j + 1 ≤ g.rules.length from hj)
      rw [preR_len hj, if_pos hl] at hle
      omega
    have HLB := Lib.hid hLb
    have HRD := Lib.hid hR
    have hnons := hok.nons
    have hrc : rcap ≤ maxLen ∧ g.rules.length ≤ rcap := by obtain ⟨a', cap', L, e, h1, h2, _⟩ := hR; simp at e h1; omega
    unfold maxLen at hrc
    unfold nbox at X1 HLP
    obtain ⟨PR, HPR⟩ := nameIt (fun j => (preR S o (A : Int) k g.rules j).length)
    have hPR : ∀ j, (preR S o (A : Int) k g.rules j).length = PR j := fun j => by rw [← HPR.out]
    simp only [hPR] at HFD HEND HPL HI0
    obtain ⟨gt, HGT⟩ := nameIt g.terms
    obtain ⟨gs, HGS⟩ := nameIt g.start
    obtain ⟨rl, HRL⟩ := nameIt g.rules.length
    rw [HGT.out, hnons, HGS.out, HRL.out] at X1
    simp only [HGT.out, hnons, HGS.out] at HLP
    have HRLE := HRL.out
    simp only [HRLE] at HLP HLS HRD HC0 HFIN
    rw [HRL.out] at HEND hrc
    have HNI0 : Hid (NI g (.slice ra rl rcap) N n d S w1 w0 w0) := NI.start HC0.out
    have HXB : Hid (∀ W', Fr N d w0 W' → W'.heap[xb]? = some (.cells #[.int .i64 gt, .int .i64 (N : Int), .int .i64 gs, .slice ra rl rcap, .pointer (some ⟨d.cb, 0, none⟩)] 85 (0, 0))) := fun W' h => h.bx X1.out HXN.out
    have HYB : Hid (∀ W', Fr N d w0 W' → W'.heap[sb]? = some (.cells #[.bool false, .int .i64 (A : Int)] 65 (0, 0))) := fun W' h => h.bx Y0.out HYN.out
    have HRBX : Hid (∀ W', Fr N d w0 W' → W'.heap[rb]? = some (.cells #[.int .i64 0, .int .i64 0, .slice none 0 0] 42 (0, 0))) := fun W' h => h.bx R0.out HRN.out
    obtain ⟨y0, y1⟩ := bx_cells2 Y0.out
    obtain ⟨x0, x1, x2, x3, x4⟩ := bx_cells5c X1.out
    clear hi hlen hg hC hx hb0 HP hL hR hs hok hE hse hLb hs0 hsN hPR hM hrk hA HPR HO
    go_enter Try.func51, Try.ntmps51
    go_upto_region 1 with fail
    rw [HW0.out, HSB.out]
    rw [HRB.out]
    go_wp2_with fail
    clear y0 y1 x0 x1 x2 x3 x4
    go_loopg [3, 23] rl (fun gg v3 v23 wr => ∃ (j x : Nat), j ≤ rl ∧ rl - j ≤ gg ∧ x ≤ i ∧ v3 = .int .i64 (x : Int) ∧ v23 = .int .i64 (j : Int) ∧ Hid (i = PR j + x) ∧ Hid (NI g (.slice ra rl rcap) N n d S w1 w0 wr))
    case atStart => exact ⟨0, i, by omega, by omega, by omega, rfl, rfl, HI0, HNI0⟩
    case round =>
      clear HNI0 HI0
      obtain ⟨j, x, hj, hgg, hxi, rfl, rfl, HIX, HNI5⟩ := hrel
      obtain ⟨w5, rfl⟩ : ∃ ww : World, ww = wr := ⟨_, rfl⟩
      by_cases hjr : j < rl
      · have hjr' : (j : Int) < (rl : Int) := by omega
        have hj0 : (0 : Int) ≤ (j : Int) := by omega
        have hjx : j < g.rules.length := by rw [HRLE]; omega
        obtain ⟨rbk, ro, rv, rfl, -, hrb, s0, s1, hrr⟩ := HRD.out.rule_at hjx
        obtain ⟨ak, kc, rfl, hkc1, hkc2⟩ := hrr.form
        rw [List.length_map] at s1 hrr hkc1
        unfold maxLen at hkc2
        have t0 := (HNI5.out.cs.bel.cell (lt_of_cell s0)).trans s0
        have t1 := (HNI5.out.cs.bel.cell (lt_of_cell s1)).trans s1
        have hlk := fun hl W hc => HLS.out j hjr hl ak kc hrr W hc
        have hlp := fun hl x ks hx W hc hb => HLP.out j hjr hl x ks hx ak kc W hrr hc hb
        have hpl := HPL.out j hjx
        have hfd := HFD.out j hjx
        have hlb := HLB.out j hjx
        obtain ⟨kn, HKN⟩ := nameIt (g.rules[j]'hjx).right.length
        obtain ⟨kl, HKL⟩ := nameIt (g.rules[j]'hjx).left
        obtain ⟨E, HEL⟩ := nameIt (enL S o (g.rules[j]'hjx).right k)
        obtain ⟨el, HELL⟩ := nameIt E.length
        rw [HKN.out] at t1 hkc1
        rw [HKL.out] at t0
        simp only [HKN.out, HKL.out, HEL.out, HELL.out] at hlk hlp hpl hfd hlb
        have HLK0 := Lib.hid hlk
        have HLP0 := Lib.hid hlp
        have HPL0 := Lib.hid hpl
        have HFD0 := Lib.hid hfd
        have HLB0 := Lib.hid hlb
        obtain ⟨w6, HW6⟩ := nameIt (w5.alloc (.cells #[.int .i64 kl, .slice ak kn kc] 48))
        have HNI6 : Hid (NI g (.slice (some ⟨rbk, ro, none⟩) rl rcap) N n d S w1 w0 w6) := by rw [← HW6.out]; exact HNI5.out.keep ((Below.refl _ _).alloc (Nat.le_refl _) _)
        have Z6 : Hid (w6.heap[w5.heap.size]? = some (.cells #[.int .i64 kl, .slice ak kn kc] 48 (0, 0))) := by rw [← HW6.out]; exact bx_new _ _ _ rfl
        have HZN : Hid (∀ a, a < N → d.rc a ≠ w5.heap.size) := HNI5.out.cs.big (Nat.le_refl _)
        obtain ⟨rbx, HRBX2⟩ := nameIt w5.heap.size
        rw [HRBX2.out] at Z6 HZN
        clear hrr s0 s1 hlk hlp hpl hfd hlb
        go_upto_region 6 with fail
        rw [HW6.out, HRBX2.out]
        clear t0 t1
        obtain ⟨y0, y1⟩ := bx_cells2 (HYB.out _ HNI6.out.fr)
        obtain ⟨z0, z1⟩ := bx_cells2 Z6.out
        by_cases hkl : kl = (A : Int)
        · subst hkl
          have HLK := Lib.hid (HLK0.out rfl)
          have HPL1 : Hid (PR (j + 1) = PR j + el) := by have := HPL0.out; rw [if_pos rfl] at this; exact this
          have hel := HLB0.out rfl
          have HFD1 := Lib.hid (HFD0.out rfl)
          have HLP1 := Lib.hid (HLP0.out rfl)
          clear HLK0 HPL0 HLB0 HFD0 HLP0
          go_upto_region 7 with fail
          clear y0 y1 z0 z1
          have HS : Hid (∀ W', Fr N d w6 W' → (fun w' => w'.cell? ⟨xb, 0 + 4, none⟩ = some (.pointer (some ⟨d.cb, 0, none⟩)) ∧ w'.cell? ⟨rbx, 0 + 1, none⟩ = some (.slice ak kn kc)) W') := by
            intro W' hf
            obtain ⟨x0, x1, x2, x3, x4⟩ := bx_cells5c (HXB.out _ (HNI6.out.fr.trans hf))
            obtain ⟨z0, z1⟩ := bx_cells2 (hf.bx Z6.out HZN.out)
            exact ⟨x4, z1⟩
          have HND := Lib.hid (HNI6.out.keep (Below.refl _ _).drew)
          refine wp_region_U (S := (fun w' => w'.cell? ⟨xb, 0 + 4, none⟩ = some (.pointer (some ⟨d.cb, 0, none⟩)) ∧ w'.cell? ⟨rbx, 0 + 1, none⟩ = some (.slice ak kn kc))) 8 (by kernel_rfl) (fun inv => ?_)
          refine wpU_take (i := 0) (v := .pointer (some ⟨xb, 0, none⟩)) rfl inv (by kernel_rfl) (by kernel_rfl) (by decide) (by decide) (by kernel_rfl) (by kernel_rfl) (by kernel_rfl) (fun _ _ _ h => h) (Or.inl ⟨by rfl, fun w' hw' => ?_⟩) (HS.out _ (Fr.of (Below.refl _ _).drew)) (fun inv => ?_)
          · obtain ⟨h0, h1⟩ := hw'
            go_simp
          try simp only [Act.put, List.setIfInBounds_toArray, List.set_cons_zero, List.set_cons_succ]
          refine wpU_take (i := 1) (v := .pointer (some ⟨xb, 0, none⟩)) rfl inv (by kernel_rfl) (by kernel_rfl) (by decide) (by decide) (by kernel_rfl) (by kernel_rfl) (by kernel_rfl) (fun _ _ _ h => h) (Or.inl ⟨by rfl, fun w' hw' => ?_⟩) (HS.out _ (Fr.of (Below.refl _ _).drew)) (fun inv => ?_)
          · obtain ⟨h0, h1⟩ := hw'
            go_simp
          try simp only [Act.put, List.setIfInBounds_toArray, List.set_cons_zero, List.set_cons_succ]
          refine wpU_take (i := 2) (v := .pointer (some ⟨xb, 0 + 4, none⟩)) rfl inv (by kernel_rfl) (by kernel_rfl) (by decide) (by decide) (by kernel_rfl) (by kernel_rfl) (by kernel_rfl) (fun _ _ _ h => h) (Or.inl ⟨by rfl, fun w' hw' => ?_⟩) (HS.out _ (Fr.of (Below.refl _ _).drew)) (fun inv => ?_)
          · obtain ⟨h0, h1⟩ := hw'
            go_simp
          try simp only [Act.put, List.setIfInBounds_toArray, List.set_cons_zero, List.set_cons_succ]
          refine wpU_take (i := 3) (v := .pointer (some ⟨d.cb, 0, none⟩)) rfl inv (by kernel_rfl) (by kernel_rfl) (by decide) (by decide) (by kernel_rfl) (by kernel_rfl) (by kernel_rfl) (fun _ _ _ h => h) (Or.inl ⟨by rfl, fun w' hw' => ?_⟩) (HS.out _ (Fr.of (Below.refl _ _).drew)) (fun inv => ?_)
          · obtain ⟨h0, h1⟩ := hw'
            go_simp
          try simp only [Act.put, List.setIfInBounds_toArray, List.set_cons_zero, List.set_cons_succ]
          refine wpU_take (i := 4) (v := .pointer (some ⟨rbx, 0 + 1, none⟩)) rfl inv (by kernel_rfl) (by kernel_rfl) (by decide) (by decide) (by kernel_rfl) (by kernel_rfl) (by kernel_rfl) (fun _ _ _ h => h) (Or.inl ⟨by rfl, fun w' hw' => ?_⟩) (HS.out _ (Fr.of (Below.refl _ _).drew)) (fun inv => ?_)
          · obtain ⟨h0, h1⟩ := hw'
            go_simp
          try simp only [Act.put, List.setIfInBounds_toArray, List.set_cons_zero, List.set_cons_succ]
          refine wpU_take (i := 5) (v := .slice ak kn kc) rfl inv (by kernel_rfl) (by kernel_rfl) (by decide) (by decide) (by kernel_rfl) (by kernel_rfl) (by kernel_rfl) (fun _ _ _ h => h) (Or.inl ⟨by rfl, fun w' hw' => ?_⟩) (HS.out _ (Fr.of (Below.refl _ _).drew)) (fun inv => ?_)
          · obtain ⟨h0, h1⟩ := hw'
            go_simp
          try simp only [Act.put, List.setIfInBounds_toArray, List.set_cons_zero, List.set_cons_succ]
          refine wpU_take (i := 6) (v := .int .i64 (k : Int)) rfl inv (by kernel_rfl) (by kernel_rfl) (by decide) (by decide) (by kernel_rfl) (by kernel_rfl) (by kernel_rfl) (fun _ _ _ h => h) (Or.inl ⟨by rfl, fun w' hw' => ?_⟩) (HS.out _ (Fr.of (Below.refl _ _).drew)) (fun inv => ?_)
          · obtain ⟨h0, h1⟩ := hw'
            go_simp
          try simp only [Act.put, List.setIfInBounds_toArray, List.set_cons_zero, List.set_cons_succ]
          refine wpU_one (i := 7) (by kernel_rfl) rfl (fun K hK => ?_)
          replace inv := inv_setc (i := 7) inv (by kernel_rfl) (by decide)
          go_simp
          with_reducible refine (HLK.out _ HND.out.cs).mono ?_
          rintro e w7 ⟨rfl, hf, hc⟩
          have HNI7 := Lib.hid (HND.out.of hf hc)
          have HFS : Hid (Fr N d w6 w7) := (Fr.of (Below.refl _ _).drew).trans hf
          clear hf hc HND
          refine hK.out _ _ (fun _ => HS.out _ HFS.out) ?_
          clear hK K
          try simp only [Act.put, List.setIfInBounds_toArray, List.set_cons_zero, List.set_cons_succ]
          refine wpU_one (i := 8) (by kernel_rfl) rfl (fun K hK => ?_)
          go_simp
          refine hK.out _ _ (fun h => absurd (show true = false from h) (by decide)) ?_
          clear hK K
          try simp only [Act.put, List.setIfInBounds_toArray, List.set_cons_zero, List.set_cons_succ]
          refine wpU_done (by kernel_rfl) ?_ _
          clear HS

          by_cases hxe : el ≤ x
          · have hxe' : (el : Int) ≤ (x : Int) := by omega
            have hdec : decide ((el : Int) ≤ (x : Int)) = true := by simpa using hxe'
            have hsub : IntKind.i64.wrap ((x : Int) - (el : Int)) = ((x - el : Nat) : Int) := by rw [IntWalk.i64_in _ (by omega)]; omega
            have HIX2 : Hid (i = PR (j + 1) + (x - el)) := by show i = _; have h1 := HIX.out; have h2 := HPL1.out; omega
            go_wp2_with fail
            go_roundg (rl - (j + 1))
            case measure => omega
            case rel => exact ⟨j + 1, x - el, by omega, by omega, by omega, by first | rfl | exact congrArg _ hsub, by go_num, HIX2, HNI7⟩
          · have hxe' : ¬ (el : Int) ≤ (x : Int) := by omega
            obtain ⟨ks, htk, hks⟩ := HFD1.out x (by omega) HIX.out
            have HCL := Lib.hid (HLP1.out x ks hks w7 HNI7.out.cs (HXB.out _ HNI7.out.fr))
            subst htk
            obtain ⟨z0, z1⟩ := bx_cells2 (HFS.out.bx Z6.out HZN.out)
            go_wp2_with fail
            with_reducible refine HCL.out.mono ?_
            rintro e w8 ⟨v8, rfl, hr8, hf8, hc8⟩
            have HE := fun a b c => HFIN.out v8 w7 w8 a b c HNI7.out.fr hr8 hf8 hc8
            obtain ⟨a8, c8, rfl, -, -⟩ := hr8.form
            have R8 := HRBX.out _ (HNI7.out.fr.trans hf8)
            obtain ⟨q0, q1, q2⟩ := bx_cells3 R8
            obtain ⟨f0, f1, f2⟩ := bx_free3 R8
            obtain ⟨n8, HN8⟩ := nameIt (ks.map Tree.d).length
            rw [HN8.out] at HE
            rw [HN8.out]
            have HEE := Lib.hid HE
            clear hr8 hf8 hc8 HE R8 z0 z1 HFIN HCL
            go_wp2_with fail
            refine bodyPost_ret (v := .agg #[.int .i64 (j : Int), .int .i64 0, .slice a8 n8 c8]) (by simp [results, Try.results51, go_sem, q0, q1, q2]) rfl ?_
            simpa [Tree.rule, Tree.term] using HEE.out _ _ _
        · have hkl' : (kl != (A : Int)) = true := by simpa using hkl
          have HIX2 : Hid (i = PR (j + 1) + x) := by show i = _; have h1 := HIX.out; have h2 := HPL0.out; rw [if_neg hkl] at h2; omega
          clear HLK0 HPL0 HLB0 HFD0 HLP0
          go_wp2_with fail
          go_roundg (rl - (j + 1))
          case measure => omega
          case rel => exact ⟨j + 1, x, by omega, by omega, hxi, rfl, by go_num, HIX2, HNI6⟩
      · exfalso
        have h1 := HEND.out
        have h2 := HIX.out
        obtain rfl : j = rl := by omega
        omega
end Cs
end Go.Proofs.Ytbnpemgmdnghgaa
