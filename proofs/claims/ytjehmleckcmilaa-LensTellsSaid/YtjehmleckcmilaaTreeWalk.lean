/- The contracts of tree.kids and tree.walk. -/
import Derived.Test.YtjehmleckcmilaaTree
import Derived.Deep.LoopGhost
import Derived.Deep.Cut
import Derived.Shelf.Abstract
namespace Go.Proofs.Ytjehmleckcmilaa
open Go.RowKit

def KidsPost (w0 : World) (t : Tree) (w : World) (e : Ending) (w' : World) : Prop :=
  ∃ a cap, e = .returned (.slice a (kidsOf t).length cap) ∧ Rd AnyB w0 (.sl ((kidsOf t).map Tree.d)) [.slice a (kidsOf t).length cap] ∧ Below w.heap.size w w'
theorem rd_nil (S : Nat → Prop) (w : World) : Rd S w (.sl []) [.slice none 0 0] := ⟨none, 0, [], rfl, by simp, by simp [maxLen], fun _ => rfl, fun i hi => by simp at hi, rfl⟩

set_option maxHeartbeats 400000 in
theorem kidsE (w0 : World) (t : Tree) (v : Value) (w : World) (hv : Rd AnyB w0 (.sl (t.kids.map Tree.d)) [v]) :
    Calls Try.prog 100 #[.agg #[.int .i64 t.rule, .int .i64 t.term, v]] w (KidsPost w0 t w) := by
  obtain ⟨a, cap, rfl, hc1, hc2⟩ := hv.form
  have HV := Lib.hid hv
  clear hv hc1 hc2
  cases t with
  | node r tm ks =>
  simp only [Tree.rule, Tree.term, Tree.kids, List.length_map] at HV ⊢
  by_cases hr : r = -1
  · subst hr
    go_enter Try.func100, Try.ntmps100
    go_wp2
    go_ret
    exact ⟨none, 0, rfl, rd_nil _ _, (Below.refl _ _).alloc (Nat.le_refl _) _⟩
  · have hr' : (r == -1) = false := by simpa using hr
    have HR := Lib.hid hr
    clear hr
    go_enter Try.func100, Try.ntmps100
    go_wp2
    go_ret
    refine ⟨a, cap, ?_, ?_, (Below.refl _ _).alloc (Nat.le_refl _) _⟩
    · simp [kidsOf, Tree.rule, Tree.kids, HR.out]
    · have e : kidsOf (.node r tm ks) = ks := by simp [kidsOf, Tree.rule, Tree.kids, HR.out]
      rw [e]; exact HV.out

/-- a function of nodes, as a function value: I: what it holds of the nodes seen so far, in which blocks -/
structure NodeFn (g : Nat) (lb : Array Value) (w0 : World) (p : Tree → Bool) (N : Nat) (I : List Tree → (Nat → Prop) → World → Prop) : Prop where
  below : ∀ {s S W}, I s S W → Below w0.heap.size w0 W
  own : ∀ {s S W}, I s S W → ∀ k, S k → w0.heap.size ≤ k ∧ k < W.heap.size
  keep : ∀ {s S W W'}, I s S W → Below W.heap.size W W' → I s S W'
  call : ∀ s S W (t : Tree) (v : Value), I s S W → Rd AnyB w0 (.sl (t.kids.map Tree.d)) [v] → s.length < N →
    Calls Try.prog g (#[.agg #[.int .i64 t.rule, .int .i64 t.term, v]] ++ lb) W fun e W' => ∃ S', e = .returned (.bool (p t)) ∧ I (s ++ [t]) S' W' ∧ Keeps S W W' ∧ ∀ k, S' k → S k ∨ W.heap.size ≤ k

def WalkPost (p : Tree → Bool) (I : List Tree → (Nat → Prop) → World → Prop) (t : Tree) (s : List Tree) (S : Nat → Prop) (W : World) (e : Ending) (W' : World) : Prop :=
  ∃ S', e = .returned (.bool ((nodes t).all p)) ∧ I (s ++ upTo p (nodes t)) S' W' ∧ Keeps S W W' ∧ ∀ k, S' k → S k ∨ W.heap.size ≤ k

structure WalkRel (p : Tree → Bool) (I : List Tree → (Nat → Prop) → World → Prop) (t : Tree) (s : List Tree) (S : Nat → Prop) (W : World) (i : Nat) (S' : Nat → Prop) (W' : World) : Prop where
  inv : I (s ++ t :: nodesL ((kidsOf t).take i)) S' W'
  kps : Keeps S W W'
  sub : ∀ k, S' k → S k ∨ W.heap.size ≤ k
  all : (t :: nodesL ((kidsOf t).take i)).all p = true

set_option maxHeartbeats 2000000 in
set_option maxRecDepth 100000 in
theorem walkE (g : Nat) (lb : Array Value) (w0 : World) (p : Tree → Bool) (N : Nat) (I : List Tree → (Nat → Prop) → World → Prop) (eg : ∀ args w, (callFunc g args).run Try.prog w = .ok (.enter g args) w) (hF : NodeFn g lb w0 p N I) :
    ∀ (m : Nat) (t : Tree) (v : Value) (s : List Tree) (S : Nat → Prop) (W : World), (nodes t).length ≤ m → I s S W → Rd AnyB w0 (.sl (t.kids.map Tree.d)) [v] → s.length + (nodes t).length ≤ N →
      Calls Try.prog 139 #[.agg #[.int .i64 t.rule, .int .i64 t.term, v], .func (.func g) #[] lb] W (WalkPost p I t s S W) := by
  intro m
  induction m with
  | zero => intro t v s S W hm; have := nodes_pos t; omega
  | succ m ih =>
  intro t v s S W hm hI hv hN
  obtain ⟨a, cap, rfl, hc1, hc2⟩ := hv.form
  have HV := Lib.hid hv
  have HI := Lib.hid hI
  have HF := Lib.hid hF
  have IH := Lib.hid ih
  have HM := Lib.hid hm
  have HN := Lib.hid hN
  have hn0 := nodes_pos t
  have hsl : s.length < N := by omega
  clear hv hI hF ih hc1 hc2 hm hN hn0
  obtain ⟨r, HRr⟩ := nameIt t.rule
  obtain ⟨tm, HRt⟩ := nameIt t.term
  obtain ⟨nk, HRn⟩ := nameIt (t.kids.map Tree.d).length
  have hk := fun W => kidsE w0 t _ W HV.out
  have hcall := fun W h => HF.out.call s S W t _ h HV.out hsl
  rw [HRr.out, HRt.out, HRn.out] at hk hcall
  rw [HRr.out, HRt.out, HRn.out]
  have HK := Lib.hid hk
  have HC := Lib.hid hcall
  clear hk hcall
  go_enter Try.func139, Try.ntmps139
  go_wp2_with fail
  refine (HC.out _ (HF.out.keep HI.out ((Below.refl _ _).alloc (Nat.le_refl _) _))).mono ?_
  rintro e W1 ⟨S1, rfl, hI1, hk1, hs1⟩
  have hx := hk1.cells (bx_new W _ W.heap.size rfl) (fun h => by have := (HF.out.own HI.out _ h).2; omega)
  have HI1 := Lib.hid hI1
  have HK1 : Hid (Keeps S W W1) := (Below.keeps (S := S) ((Below.refl W.heap.size W).alloc (Nat.le_refl _) (.cells #[.int .i64 r, .int .i64 tm, .slice a nk cap] 43))).trans hk1 (fun k h => .inl h)
  have HS1 : Hid (∀ k, S1 k → S k ∨ W.heap.size ≤ k) := fun k h => (hs1 k h).elim .inl (fun h => .inr (by simp at h; omega))
  obtain ⟨x0, x1, x2⟩ := bx_cells3 hx
  clear hI1 hk1 hs1 hx
  cases hp : p t with
  | false =>
    have HP := Lib.hid hp
    clear hp
    go_wp2
    go_ret
    refine ⟨S1, ?_, ?_, HK1.out, HS1.out⟩
    · rw [nodes_eq, List.all_cons, HP.out]; rfl
    · rw [nodes_eq, upTo, HP.out, if_neg (by decide)]; exact HI1.out
  | true =>
    have HP := Lib.hid hp
    clear hp
    go_wp2_with fail
    refine (HK.out W1).mono ?_
    rintro e W2 ⟨ak, ck, rfl, hrk, hb2⟩
    have HRK := Lib.hid hrk
    have HR : Hid (WalkRel p I t s S W 0 S1 W2) := ⟨by simpa [nodesL] using HF.out.keep HI1.out hb2, HK1.out.trans (Below.keeps (S := S1) hb2) HS1.out, HS1.out, by simpa [nodesL] using HP.out⟩
    obtain ⟨K, HKN⟩ := nameIt (kidsOf t)
    have hkl := hrk.bounds
    rw [HKN.out] at hkl
    rw [HKN.out] at HRK
    rw [HKN.out]
    unfold maxLen at hkl
    obtain ⟨-, hkl1, hkl2⟩ := hkl
    clear hrk hb2 x0 x1 x2 HI1 HK1 HS1 HK HC HI HRn
    go_wp2_with fail
    go_loopg [14] K.length (fun gg v14 wr => ∃ (i : Nat) (S' : Nat → Prop), i ≤ K.length ∧ K.length - i ≤ gg ∧ v14 = .int .i64 i ∧ Hid (WalkRel p I t s S W i S' wr))
    case atStart => exact ⟨0, S1, by omega, by omega, rfl, HR⟩
    case round =>
      clear HR
      obtain ⟨i, S', hi, hg, rfl, HR⟩ := hrel
      by_cases hlt : i < K.length
      · have hlt' : (i : Int) < (K.length : Int) := by omega
        obtain ⟨b, off, v, hae, -, hbl, c0, c1, c2, hkid⟩ := HRK.out.kid hlt
        obtain ⟨av, cv, rfl, -, -⟩ := hkid.form
        obtain ⟨nv, HNV⟩ := nameIt (K[i].kids.map Tree.d).length
        rw [HNV.out] at c2 hkid
        have hbel := HF.out.below HR.out.inv
        have e0 := (hbel.cell (p := ⟨b, off + i * 3, none⟩) hbl).trans c0
        have e1 := (hbel.cell (p := ⟨b, off + i * 3 + 1, none⟩) hbl).trans c1
        have e2 := (hbel.cell (p := ⟨b, off + i * 3 + 2, none⟩) hbl).trans c2
        have hme : (nodes K[i]).length ≤ m := by
          have h1 := HM.out
          rw [nodes_eq, HKN.out] at h1
          have h2 := nodesL_kid hlt
          simp at h1; omega
        have hne : (s ++ t :: nodesL (K.take i)).length + (nodes K[i]).length ≤ N := by
          have h1 := HN.out
          rw [nodes_eq, HKN.out] at h1
          have h2 := nodesL_kid hlt
          simp at h1 ⊢; omega
        have hinv := HR.out.inv
        rw [HKN.out] at hinv
        have hih := IH.out K[i] _ _ S' _ hme (HF.out.keep hinv ((Below.refl _ _).alloc (Nat.le_refl _) (.cells #[.int .i64 K[i].rule, .int .i64 K[i].term, .slice av nv cv] 43))) hkid hne
        obtain ⟨q0, HQ0⟩ := nameIt K[i].rule
        obtain ⟨q1, HQ1⟩ := nameIt K[i].term
        rw [HQ0.out] at e0 hih
        rw [HQ1.out] at e1 hih
        have HIH := Lib.hid hih
        subst hae
        clear hbel c0 c1 c2 hme hne hinv hih hkid
        go_wp2_with fail
        refine HIH.out.mono ?_
        rintro e W3 ⟨S3, rfl, hI3, hk3, hs3⟩
        have HI3 := Lib.hid hI3
        have hbb := (Below.refl wr.heap.size wr).alloc (Nat.le_refl _) (.cells #[.int .i64 q0,   .int .i64 q1, .slice av nv cv] 43)
        have HK3 : Hid (Keeps S W W3) := (HR.out.kps.trans (Below.keeps (S := S') hbb) HR.out.sub).trans hk3 HR.out.sub
        have HS3 : Hid (∀ k, S3 k → S k ∨ W.heap.size ≤ k) := fun k h => (hs3 k h).elim (HR.out.sub k) (fun h => .inr (by have := HR.out.kps.size; simp at h; omega))
        clear hI3 hk3 hs3 hbb HIH e0 e1 e2
        cases hp : (nodes K[i]).all p with
        | false =>
          have HP' := Lib.hid hp
          clear hp
          go_wp2
          go_ret
          have h1 := HR.out.all
          rw [HKN.out] at h1
          have h2 : nodes t = (t :: nodesL (K.take i)) ++ (nodes K[i] ++ nodesL (K.drop (i + 1))) := by rw [nodes_eq, HKN.out, nodesL_split hlt]; rfl
          refine ⟨S3, ?_, ?_, HK3.out, HS3.out⟩
          · rw [h2, List.all_append, List.all_append, HP'.out]; simp
          · rw [h2, upTo_append h1, upTo_stop HP'.out]
            have := HI3.out
            simpa using this
        | true =>
          have HR' : Hid (WalkRel p I t s S W (i + 1) S3 W3) := by
            refine ⟨?_, HK3.out, HS3.out, ?_⟩
            · rw [HKN.out, nodesL_take hlt]
              have := HI3.out
              rw [upTo_all hp] at this
              simpa using this
            · have h1 := HR.out.all
              rw [HKN.out] at h1
              rw [HKN.out, nodesL_take hlt]
              rw [← List.cons_append, List.all_append, h1, hp]; rfl
          clear hp
          go_wp2
          go_roundg (K.length - (i + 1))
          case measure => omega
          case rel => exact ⟨i + 1, S3, by omega, by omega, by go_num, HR'⟩
      · have hlt' : ¬ (i : Int) < (K.length : Int) := by omega
        go_wp2
        go_ret
        have h1 := HR.out.all
        have h3 := HR.out.inv
        rw [HKN.out, List.take_of_length_le (by omega)] at h1 h3
        have h2 : nodes t = t :: nodesL K := by rw [nodes_eq, HKN.out]
        refine ⟨S', ?_, ?_, HR.out.kps, HR.out.sub⟩
        · rw [h2, h1]; rfl
        · rw [h2, upTo_all h1]; exact h3
end Go.Proofs.Ytjehmleckcmilaa
