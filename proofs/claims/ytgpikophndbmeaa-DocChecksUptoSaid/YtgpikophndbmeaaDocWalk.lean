/- The contract of doc.walk. -/
import Derived.Test.YtgpikophndbmeaaDoc
import Derived.Deep.LoopGhost
import Derived.Deep.Cut
import Derived.Shelf.Abstract
namespace Go.Proofs.Ytgpikophndbmeaa
open Go.RowKit
namespace Dc

theorem bx_cells4d {w : World} {b : Nat} {x0 x1 x2 x3 : Value} {T : TypeId} (h : w.heap[b]? = some (.cells #[x0, x1, x2, x3] T (0, 0))) : w.cell? ⟨b, 0, none⟩ = some x0 ∧ w.cell? ⟨b, 0 + 1, none⟩ = some x1 ∧ w.cell? ⟨b, 0 + 2, none⟩ = some x2 ∧ w.cell? ⟨b, 0 + 3, none⟩ = some x3 := by
  refine ⟨?_, ?_, ?_, ?_⟩ <;> simp [World.cell?, h]
/-- a function of nodes, as a function value: I: what it holds of the nodes seen so far, in which blocks -/
structure NodeFn (g : Nat) (lb : Array Value) (w0 : World) (p : Nat → Doc → Bool) (N : Nat) (I : List Doc → (Nat → Prop) → World → Prop) : Prop where
  below : ∀ {s S W}, I s S W → Below w0.heap.size w0 W
  own : ∀ {s S W}, I s S W → ∀ k, S k → w0.heap.size ≤ k ∧ k < W.heap.size
  keep : ∀ {s S W W'}, I s S W → Below W.heap.size W W' → I s S W'
  call : ∀ s S W (t : Doc) (v : Value), I s S W → Rd AnyB w0 (.sl (t.kids.map Doc.d)) [v] → s.length < N →
    Calls Try.prog g (#[.agg #[.int .i64 t.kind, .string t.txt, .int .i64 t.n, v]] ++ lb) W fun e W' => ∃ S', e = .returned (.bool (p s.length t)) ∧ I (s ++ [t]) S' W' ∧ Keeps S W W' ∧ ∀ k, S' k → S k ∨ W.heap.size ≤ k
def WalkPost (p : Nat → Doc → Bool) (I : List Doc → (Nat → Prop) → World → Prop) (t : Doc) (s : List Doc) (S : Nat → Prop) (W : World) (e : Ending) (W' : World) : Prop :=
  ∃ S', e = .returned (.bool (allN p s.length (nodes t))) ∧ I (s ++ upN p s.length (nodes t)) S' W' ∧ Keeps S W W' ∧ ∀ k, S' k → S k ∨ W.heap.size ≤ k
structure WalkRel (p : Nat → Doc → Bool) (I : List Doc → (Nat → Prop) → World → Prop) (t : Doc) (s : List Doc) (S : Nat → Prop) (W : World) (i : Nat) (S' : Nat → Prop) (W' : World) : Prop where
  inv : I (s ++ t :: nodesL (t.kids.take i)) S' W'
  kps : Keeps S W W'
  sub : ∀ k, S' k → S k ∨ W.heap.size ≤ k
  all : allN p s.length (t :: nodesL (t.kids.take i)) = true
set_option maxHeartbeats 2000000 in
set_option maxRecDepth 100000 in
theorem walkE (g : Nat) (lb : Array Value) (w0 : World) (p : Nat → Doc → Bool) (N : Nat) (I : List Doc → (Nat → Prop) → World → Prop) (eg : ∀ args w, (callFunc g args).run Try.prog w = .ok (.enter g args) w) (hF : NodeFn g lb w0 p N I) :
    ∀ (m : Nat) (t : Doc) (v : Value) (s : List Doc) (S : Nat → Prop) (W : World), (nodes t).length ≤ m → I s S W → Rd AnyB w0 (.sl (t.kids.map Doc.d)) [v] → s.length + (nodes t).length ≤ N →
      Calls Try.prog 20 #[.agg #[.int .i64 t.kind, .string t.txt, .int .i64 t.n, v], .func (.func g) #[] lb] W (WalkPost p I t s S W) := by
  intro m
  induction m with
  | zero => intro t v s S W hm; have := nodes_pos t; omega
  | succ m ih =>
  intro t v s S W hm hI hv hN
  obtain ⟨a, cap, rfl, hc1, hc2⟩ := hv.form
  have HV := Lib.hid hv
  have HI := Lib.hid hI
  have HF := Lib.hid hF
  have IH := Lib.hid ih
  have HM := Lib.hid hm
  have HN := Lib.hid hN
  have hn0 := nodes_pos t
  have hsl : s.length < N := by omega
  unfold maxLen at hc2
  obtain ⟨r, HRr⟩ := nameIt t.kind
  obtain ⟨tx, HRx⟩ := nameIt t.txt
  obtain ⟨tm, HRt⟩ := nameIt t.n
  obtain ⟨nk, HRn⟩ := nameIt (t.kids.map Doc.d).length
  rw [HRn.out] at hc1
  have hcall := fun W h => HF.out.call s S W t _ h HV.out hsl
  rw [HRr.out, HRx.out, HRt.out, HRn.out] at hcall
  rw [HRr.out, HRx.out, HRt.out, HRn.out]
  have HC := Lib.hid hcall
  clear hcall hv hI hF ih hm hN hn0
  go_enter Try.func20, Try.ntmps20
  go_wp2_with fail
  refine (HC.out _ (HF.out.keep HI.out ((Below.refl _ _).alloc (Nat.le_refl _) _))).mono ?_
  rintro e W1 ⟨S1, rfl, hI1, hk1, hs1⟩
  have hx := hk1.cells (bx_new W _ W.heap.size rfl) (fun h => by have := (HF.out.own HI.out _ h).2; omega)
  have HK1 : Hid (Keeps S W W1) := (Below.keeps (S := S) ((Below.refl W.heap.size W).alloc (Nat.le_refl _) (.cells #[.int .i64 r, .string tx, .int .i64 tm, .slice a nk cap] 24))).trans hk1 (fun k h => .inl h)
  have HS1 : Hid (∀ k, S1 k → S k ∨ W.heap.size ≤ k) := fun k h => (hs1 k h).elim .inl (fun h => .inr (by simp at h; omega))
  have HI1 := Lib.hid hI1
  obtain ⟨x0, x1, x2, x3⟩ := bx_cells4d hx
  clear hI1 hk1 hs1 hx
  cases hp : p s.length t with
  | false =>
    have HP := Lib.hid hp
    clear hp
    go_wp2
    go_ret
    refine ⟨S1, ?_, ?_, HK1.out, HS1.out⟩
    · rw [nodes_eq, allN, HP.out]; rfl
    · rw [nodes_eq, upN, HP.out, if_neg (by decide)]; exact HI1.out
  | true =>
    have HP := Lib.hid hp
    clear hp
    have HR : Hid (WalkRel p I t s S W 0 S1 W1) := ⟨by simpa [nodesL] using HI1.out, HK1.out, HS1.out, by simpa [nodesL, allN] using HP.out⟩
    have HKL : Hid (t.kids.length = nk) := by show _ = _; rw [← HRn.out, List.length_map]
    clear HI1 HK1 HS1 HC HI
    go_wp2_with fail
    clear x0 x1 x2 x3
    go_loopg [14] nk (fun gg v14 wr => ∃ (i : Nat) (S' : Nat → Prop), i ≤ nk ∧ nk - i ≤ gg ∧ v14 = .int .i64 i ∧ Hid (WalkRel p I t s S W i S' wr))
    case atStart => exact ⟨0, S1, by omega, by omega, rfl, HR⟩
    case round =>
      clear HR
      obtain ⟨i, S', hi, hg, rfl, HR⟩ := hrel
      by_cases hlt : i < nk
      · have hlt' : (i : Int) < (nk : Int) := by omega
        have hix : i < t.kids.length := by rw [HKL.out]; exact hlt
        have hv := HV.out
        obtain ⟨b, off, v, hae, -, hbl, c0, c1, c2, c3, hkid⟩ := Rd.kid hv hix
        obtain ⟨av, cv, rfl, -, -⟩ := hkid.form
        obtain ⟨nv, HNV⟩ := nameIt (t.kids[i].kids.map Doc.d).length
        rw [HNV.out] at c3 hkid
        have hbel := HF.out.below HR.out.inv
        have e0 := (hbel.cell (p := ⟨b, off + i * 4, none⟩) hbl).trans c0
        have e1 := (hbel.cell (p := ⟨b, off + i * 4 + 1, none⟩) hbl).trans c1
        have e2 := (hbel.cell (p := ⟨b, off + i * 4 + 2, none⟩) hbl).trans c2
        have e3 := (hbel.cell (p := ⟨b, off + i * 4 + 3, none⟩) hbl).trans c3
        have hme : (nodes t.kids[i]).length ≤ m := by
          have h1 := HM.out
          rw [nodes_eq] at h1
          have h2 := nodesL_kid hix
          simp at h1; omega
        have hne : (s ++ t :: nodesL (t.kids.take i)).length + (nodes t.kids[i]).length ≤ N := by
          have h1 := HN.out
          rw [nodes_eq] at h1
          have h2 := nodesL_kid hix
          simp at h1 ⊢; omega
        have hih := IH.out t.kids[i] _ _ S' _ hme (HF.out.keep HR.out.inv ((Below.refl _ _).alloc (Nat.le_refl _) (.cells #[.int .i64 t.kids[i].kind, .string t.kids[i].txt, .int .i64 t.kids[i].n, .slice av nv cv] 24))) hkid hne
        obtain ⟨q0, HQ0⟩ := nameIt t.kids[i].kind
        obtain ⟨q1, HQ1⟩ := nameIt t.kids[i].txt
        obtain ⟨q2, HQ2⟩ := nameIt t.kids[i].n
        rw [HQ0.out] at e0 hih
        rw [HQ1.out] at e1 hih
        rw [HQ2.out] at e2 hih
        have HIH := Lib.hid hih
        subst hae
        clear hbel c0 c1 c2 c3 hme hne hih hkid hv
        go_wp2_with fail
        refine HIH.out.mono ?_
        rintro e W3 ⟨S3, rfl, hI3, hk3, hs3⟩
        have HI3 := Lib.hid hI3
        have hbb := (Below.refl wr.heap.size wr).alloc (Nat.le_refl _) (.cells #[.int .i64 q0, .string q1, .int .i64 q2, .slice av nv cv] 24)
        have HK3 : Hid (Keeps S W W3) := (HR.out.kps.trans (Below.keeps (S := S') hbb) HR.out.sub).trans hk3 HR.out.sub
        have HS3 : Hid (∀ k, S3 k → S k ∨ W.heap.size ≤ k) := fun k h => (hs3 k h).elim (HR.out.sub k) (fun h => .inr (by have := HR.out.kps.size; simp at h; omega))
        clear hI3 hk3 hs3 hbb HIH e0 e1 e2 e3
        cases hp : allN p (s ++ t :: nodesL (t.kids.take i)).length (nodes t.kids[i]) with
        | false =>
          have HP' := Lib.hid hp
          clear hp
          go_wp2
          go_ret
          have h1 := HR.out.all
          have h2 : nodes t = (t :: nodesL (t.kids.take i)) ++ (nodes t.kids[i] ++ nodesL (t.kids.drop (i + 1))) := by rw [nodes_eq, nodesL_split hix]; rfl
          refine ⟨S3, ?_, ?_, HK3.out, HS3.out⟩
          · have h5 := HP'.out
            rw [List.length_append] at h5
            rw [h2, allN_append, allN_append, h5]; simp
          · have h5 := HP'.out
            rw [List.length_append] at h5
            rw [h2, upN_append h1, upN_stop h5]
            have := HI3.out
            rw [List.length_append] at this
            simpa using this
        | true =>
          have HR' : Hid (WalkRel p I t s S W (i + 1) S3 W3) := by
            refine ⟨?_, HK3.out, HS3.out, ?_⟩
            · rw [nodesL_take hix]
              have := HI3.out
              rw [upN_all hp] at this
              simpa using this
            · have h1 := HR.out.all
              rw [nodesL_take hix]
              rw [List.length_append] at hp
              rw [← List.cons_append, allN_append, h1, hp]; rfl
          clear hp
          go_wp2
          go_roundg (nk - (i + 1))
          case measure => omega
          case rel => exact ⟨i + 1, S3, by omega, by omega, by go_num, HR'⟩
      · have hlt' : ¬ (i : Int) < (nk : Int) := by omega
        go_wp2
        go_ret
        have h1 := HR.out.all
        have h3 := HR.out.inv
        rw [List.take_of_length_le (by rw [HKL.out]; omega)] at h1 h3
        refine ⟨S', ?_, ?_, HR.out.kps, HR.out.sub⟩
        · rw [nodes_eq, h1]; rfl
        · rw [nodes_eq, upN_all h1]; exact h3
end Dc
end Go.Proofs.Ytgpikophndbmeaa
