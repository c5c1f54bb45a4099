/- The contract of attr.Find. -/
import Derived.Test.YtiapfogckbkkpaaAttrCopy
import Derived.Test.YtiapfogckbkkpaaRegU
namespace Go.Proofs.Ytiapfogckbkkpaa
open Go.RowKit
namespace At

theorem rd_nilE (S : Nat → Prop) (w : World) : Rd S w (.sl []) [.slice none 0 0] := ⟨none, 0, [], rfl, by simp, by simp [maxLen], fun _ => rfl, fun i hi => by simp at hi, rfl⟩
def zeroE : Eqn := ⟨0, ⟨0, 0⟩, .node 0 0 ⟨0, 0⟩ []⟩
def findP (rule : Int) (x : Ref) (q : Eqn) : Bool := decide (q.rule = rule ∧ q.to' = x)
def findS (es : List Eqn) (rule : Int) (x : Ref) : Eqn × Int := match es.find? (findP rule x) with | some q => (⟨rule, x, q.is'⟩, 0) | none => (zeroE, 5)
theorem find_at {α : Type} {p : α → Bool} : ∀ {l : List α} {i : Nat} (h : i < l.length), p l[i] = true → (∀ j (h : j < l.length), j < i → p l[j] = false) → l.find? p = some l[i]
  | [], _, h, _, _ => by simp at h
  | a :: l, 0, h, h1, _ => by simp at h1; simp [h1]
  | a :: l, i + 1, h, h1, h2 => by
    have h3 := h2 0 (by simp) (by omega)
    simp at h3
    simp only [List.find?_cons, h3, List.getElem_cons_succ]
    exact find_at (by simpa using h) (by simpa using h1) (fun j hj hji => h2 (j + 1) (by simpa using hj) (by omega))
theorem idxG_cases {α : Type} (p : α → Bool) (l : List α) : (idxG p l = -1 ∧ l.find? p = none) ∨ ∃ i, ∃ h : i < l.length, idxG p l = (i : Int) ∧ l.find? p = some l[i] ∧ p l[i] = true := by
  cases h : l.any p with
  | false =>
    left
    refine ⟨by unfold idxG; rw [h]; rfl, ?_⟩
    rw [List.find?_eq_none]
    intro x hx
    rw [List.any_eq_false] at h
    simpa using h x hx
  | true =>
    right
    have hlt : l.findIdx p < l.length := by
      rw [List.findIdx_lt_length]
      rw [List.any_eq_true] at h
      exact h
    have h1 := List.findIdx_getElem (w := hlt)
    refine ⟨l.findIdx p, hlt, by unfold idxG; rw [h]; rfl, find_at hlt h1 ?_, h1⟩
    intro j hj hji
    simpa using List.not_of_lt_findIdx hji
def eqV (q : Eqn) (v : Value) : Value := .agg #[.int .i64 q.rule, .int .i64 q.to'.at', .int .i64 q.to'.attr, .int .i64 q.is'.kind, .int .i64 q.is'.n, .int .i64 q.is'.ref.at', .int .i64 q.is'.ref.attr, v]
def FindPost (es : List Eqn) (rule : Int) (x : Ref) (w : World) (e : Ending) (w' : World) : Prop :=
  ∃ v, e = .returned (.tuple #[eqV (findS es rule x).1 v, .int .i64 (findS es rule x).2]) ∧ Rd AnyB w' (.sl ((findS es rule x).1.is'.args.map Expr.d)) [v] ∧ Below w.heap.size w w'
theorem bx_free8 {w : World} {b : Nat} {x0 x1 x2 x3 x4 x5 x6 x7 : Value} {T : TypeId} (h : w.heap[b]? = some (.cells #[x0, x1, x2, x3, x4, x5, x6, x7] T (0, 0))) :
    w.frozen? ⟨b, 0, none⟩ = false ∧ w.frozen? ⟨b, 0 + 1, none⟩ = false ∧ w.frozen? ⟨b, 0 + 2, none⟩ = false ∧ w.frozen? ⟨b, 0 + 3, none⟩ = false ∧ w.frozen? ⟨b, 0 + 4, none⟩ = false ∧ w.frozen? ⟨b, 0 + 5, none⟩ = false ∧ w.frozen? ⟨b, 0 + 6, none⟩ = false ∧ w.frozen? ⟨b, 0 + 7, none⟩ = false := by
  refine ⟨?_, ?_, ?_, ?_, ?_, ?_, ?_, ?_⟩ <;> simp [World.frozen?, h]
theorem cell_block {w w' : World} {b o : Nat} {v : Value} (h : w'.heap[b]? = w.heap[b]?) (hv : w.cell? ⟨b, o, none⟩ = some v) : w'.cell? ⟨b, o, none⟩ = some v := by
  rw [World.cell?_of_block (w := w) (by exact h)]; exact hv

set_option maxHeartbeats 4000000 in
set_option maxRecDepth 100000 in
theorem findE (s : Sys) (hsz : ∀ q ∈ s.eqs, q.is'.size ≤ 1048576) (rule : Int) (x : Ref) (aa ae : Option Addr) (ca na ce : Nat) (w : World) (hE : Rd AnyB w (.sl (s.eqs.map Eqn.d)) [.slice ae s.eqs.length ce]) :
    Calls Try.prog 8 #[.agg #[.slice aa na ca, .slice ae s.eqs.length ce], .int .i64 rule, .agg #[.int .i64 x.at', .int .i64 x.attr]] w (FindPost s.eqs rule x w) := by
  have he1 := hE.bounds.2
  unfold maxLen at he1
  obtain ⟨he1, he2⟩ := he1
  obtain ⟨w0, HW0⟩ := nameIt ((((w.alloc (.cells #[.slice aa na ca, .slice ae s.eqs.length ce] 28)).alloc (.cells #[.int .i64 rule] 3)).alloc (.cells #[.int .i64 x.at', .int .i64 x.attr] 30)).alloc (.cells #[.int .i64 0, .int .i64 0, .int .i64 0, .int .i64 0, .int .i64 0, .int .i64 0, .int .i64 0, .slice none 0 0] 41))
  have HB0 : Hid (Below w.heap.size w w0) := by rw [← HW0.out]; exact ((((Below.refl _ _).alloc (Nat.le_refl _) _).alloc (by simp) _).alloc (by simp; omega) _).alloc (by simp; omega) _
  have X1 : Hid (w0.heap[w.heap.size]? = some (.cells #[.slice aa na ca, .slice ae s.eqs.length ce] 28 (0, 0))) := by
    rw [← HW0.out]; exact bx_keep (bx_keep (bx_keep (bx_new _ _ _ rfl) ((Below.refl _ _).alloc (Nat.le_refl _) _)) ((Below.refl _ _).alloc (Nat.le_refl _) _)) ((Below.refl _ _).alloc (Nat.le_refl _) _)
  have X2 : Hid (w0.heap[w.heap.size + 1]? = some (.cells #[.int .i64 rule] 3 (0, 0))) := by
    rw [← HW0.out]; exact bx_keep (bx_keep (bx_new _ _ _ (by simp)) ((Below.refl _ _).alloc (Nat.le_refl _) _)) ((Below.refl _ _).alloc (Nat.le_refl _) _)
  have X3 : Hid (w0.heap[w.heap.size + 1 + 1]? = some (.cells #[.int .i64 x.at', .int .i64 x.attr] 30 (0, 0))) := by
    rw [← HW0.out]; exact bx_keep (bx_new _ _ _ (by simp)) ((Below.refl _ _).alloc (Nat.le_refl _) _)
  have X4 : Hid (w0.heap[w.heap.size + 1 + 1 + 1]? = some (.cells #[.int .i64 0, .int .i64 0, .int .i64 0, .int .i64 0, .int .i64 0, .int .i64 0, .int .i64 0, .slice none 0 0] 41 (0, 0))) := by
    rw [← HW0.out]; exact bx_new _ _ _ (by simp)
  have HIX := Lib.hid (indexFuncEqn 17 #[.pointer (some ⟨w.heap.size + 1, 0, none⟩), .pointer (some ⟨w.heap.size + 1 + 1, 0, none⟩)] (findP rule x) ae ce s.eqs w0 (fun _ _ => by kernel_rfl) (predFind rule x (w.heap.size + 1) (w.heap.size + 1 + 1) s.eqs w0 X2.out X3.out) (hE.below HB0.out))
  have HE := Lib.hid (hE.below HB0.out)
  have HSIZ := Lib.hid hsz
  have HEW := Lib.hid hE
  have HFS : Hid (findS s.eqs rule x = match s.eqs.find? (findP rule x) with | some q => (⟨rule, x, q.is'⟩, 0) | none => (zeroE, 5)) := rfl
  have HIC := Lib.hid (idxG_cases (findP rule x) s.eqs)
  have HFIN : Hid (∀ v q z w', findS s.eqs rule x = (q, z) → Rd AnyB w' (.sl (q.is'.args.map Expr.d)) [v] → Below w.heap.size w w' → FindPost s.eqs rule x w (.returned (.tuple #[eqV q v, .int .i64 z])) w') := by
    intro v q z w' h1 h2 h3
    exact ⟨v, by rw [h1], by rw [h1]; exact h2, h3⟩
  obtain ⟨ix, HIXV⟩ := nameIt (idxG (findP rule x) s.eqs)
  obtain ⟨xa, HXA⟩ := nameIt x.at'
  obtain ⟨xi, HXI⟩ := nameIt x.attr
  obtain ⟨n, HN⟩ := nameIt s.eqs.length
  rw [HN.out, HXA.out, HXI.out] at HW0
  rw [HN.out] at X1 HIX HE he1 HEW
  rw [HIXV.out] at HIX HIC
  rw [HXA.out, HXI.out] at X3
  rw [HN.out, HXA.out, HXI.out]
  obtain ⟨x0, x1⟩ := bx_cells2 X1.out
  obtain ⟨z0, z1, z2, z3, z4, z5, z6, z7⟩ := bx_cells8 X4.out
  obtain ⟨f0, f1, f2, f3, f4, f5, f6, f7⟩ := bx_free8 X4.out
  clear hE hsz z0 z1 z2 z3 z4 z5 z6 z7 f0 f1 f2 f3 f4 f5 f6 f7
  go_enter Try.func8, Try.ntmps8
  go_upto_region 1 with fail
  rw [HW0.out]
  go_wp2_with fail
  refine HIX.out.mono ?_
  rintro e w1 ⟨rfl, hb1⟩
  have HB1 := Lib.hid hb1
  have HB01 : Hid (Below w.heap.size w w1) := HB0.out.trans (hb1.mono HB0.out.size)
  have Y4 := Lib.hid (bx_keep X4.out hb1)
  have hlt4 := (Array.getElem?_eq_some_iff.1 Y4.out).1
  obtain ⟨z0, z1, z2, z3, z4, z5, z6, z7⟩ := bx_cells8 Y4.out
  obtain ⟨f0, f1, f2, f3, f4, f5, f6, f7⟩ := bx_free8 Y4.out
  clear x0 x1 hb1
  have HCB : Hid (∀ (W : World) (a0 a1 a2 a3 a4 a5 a6 a7 : Value), Below w.heap.size w W → Below w.heap.size w ((((((((W.setCell ⟨w.heap.size + 1 + 1 + 1, 0, none⟩ a0).setCell ⟨w.heap.size + 1 + 1 + 1, 1, none⟩ a1).setCell ⟨w.heap.size + 1 + 1 + 1, 2, none⟩ a2).setCell ⟨w.heap.size + 1 + 1 + 1, 3, none⟩ a3).setCell ⟨w.heap.size + 1 + 1 + 1, 4, none⟩ a4).setCell ⟨w.heap.size + 1 + 1 + 1, 5, none⟩ a5).setCell ⟨w.heap.size + 1 + 1 + 1, 6, none⟩ a6).setCell ⟨w.heap.size + 1 + 1 + 1, 7, none⟩ a7)) := by
    intro W a0 a1 a2 a3 a4 a5 a6 a7 h
    have hw : w.heap.size ≤ w.heap.size + 1 + 1 + 1 := by omega
    exact (((((((h.setCell (p := ⟨w.heap.size + 1 + 1 + 1, 0, none⟩) hw a0).setCell (p := ⟨w.heap.size + 1 + 1 + 1, 1, none⟩) hw a1).setCell (p := ⟨w.heap.size + 1 + 1 + 1, 2, none⟩) hw a2).setCell (p := ⟨w.heap.size + 1 + 1 + 1, 3, none⟩) hw a3).setCell (p := ⟨w.heap.size + 1 + 1 + 1, 4, none⟩) hw a4).setCell (p := ⟨w.heap.size + 1 + 1 + 1, 5, none⟩) hw a5).setCell (p := ⟨w.heap.size + 1 + 1 + 1, 6, none⟩) hw a6).setCell (p := ⟨w.heap.size + 1 + 1 + 1, 7, none⟩) hw a7
  rcases HIC.out with ⟨hi, hf⟩ | ⟨i, hiL, hi, hf, hp⟩
  · have HF : Hid (findS s.eqs rule x = (zeroE, 5)) := by show _ = _; rw [HFS.out, hf]
    subst hi
    clear hf
    go_wp2_with fail
    refine bodyPost_ret (v := .tuple #[.agg #[.int .i64 0, .int .i64 0, .int .i64 0, .int .i64 0, .int .i64 0, .int .i64 0, .int .i64 0, .slice none 0 0], .int .i64 5]) (by simp [results, Try.results8, go_sem, z0, z1, z2, z3, z4, z5, z6, z7]) rfl ?_
    exact HFIN.out (.slice none 0 0) zeroE 5 _ HF.out (rd_nilE _ _) (HCB.out _ _ _ _ _ _ _ _ _ HB01.out)
  · have HF : Hid (findS s.eqs rule x = (⟨rule, x, (s.eqs[i]'hiL).is'⟩, 0)) := by show _ = _; rw [HFS.out, hf]
    have HSQ := Lib.hid (HSIZ.out _ (List.getElem_mem hiL))
    have hbE := HEW.out
    obtain ⟨b, off, v, hae, -, hbl, c0, c1, c2, c3, c4, c5, c6, c7, hkid⟩ := Rd.eqn_at hbE hiL
    obtain ⟨av, cv, rfl, -, -⟩ := hkid.form
    rw [List.length_map] at c7 hkid
    obtain ⟨q, HQ⟩ := nameIt (s.eqs[i]'hiL)
    rw [HQ.out] at c0 c1 c2 c3 c4 c5 c6 c7 hkid HF HSQ
    have HCP := Lib.hid (fun (W : World) (hb : Below w.heap.size w W) => copyExprE q.is'.size q.is' _ W (Nat.le_refl _) HSQ.out (hkid.below hb))
    have HQA : Hid (q.is' = .node q.is'.kind q.is'.n q.is'.ref q.is'.args) := by show _ = _; cases q.is' with | node a b c d => rfl
    obtain ⟨e0, HE0⟩ := nameIt q.is'.kind
    obtain ⟨e1, HE1⟩ := nameIt q.is'.n
    obtain ⟨e2, HE2⟩ := nameIt q.is'.ref.at'
    obtain ⟨e3, HE3⟩ := nameIt q.is'.ref.attr
    obtain ⟨qn, HQN⟩ := nameIt q.is'.args.length
    rw [HE0.out] at c3
    rw [HE1.out] at c4
    rw [HE2.out] at c5
    rw [HE3.out] at c6
    rw [HQN.out] at c7
    simp only [HE0.out, HE1.out, HE2.out, HE3.out, HQN.out] at HCP
    subst hae
    have hbn : b ≠ w.heap.size + 1 + 1 + 1 := by omega
    have HS : Hid (∀ W, Below w1.heap.size w1 W → (fun w' => w'.cell? ⟨w.heap.size, 0 + 1, none⟩ = some (.slice (some ⟨b, off, none⟩) n ce) ∧ w'.cell? ⟨w.heap.size + 1, 0, none⟩ = some (.int .i64 rule) ∧ w'.cell? ⟨w.heap.size + 1 + 1, 0, none⟩ = some (.int .i64 xa) ∧ w'.cell? ⟨w.heap.size + 1 + 1, 0 + 1, none⟩ = some (.int .i64 xi) ∧ w'.cell? ⟨b, off + i * 8 + 3, none⟩ = some (.int .i64 e0) ∧ w'.cell? ⟨b, off + i * 8 + 4, none⟩ = some (.int .i64 e1) ∧ w'.cell? ⟨b, off + i * 8 + 5, none⟩ = some (.int .i64 e2) ∧ w'.cell? ⟨b, off + i * 8 + 6, none⟩ = some (.int .i64 e3) ∧ w'.cell? ⟨b, off + i * 8 + 7, none⟩ = some (.slice av qn cv)) W) := by
      intro W hb
      have h1 : Below w0.heap.size w0 W := HB1.out.trans (hb.mono HB1.out.size)
      have h2 : Below w.heap.size w W := HB01.out.trans (hb.mono HB01.out.size)
      obtain ⟨s0, s1⟩ := bx_cells2 (bx_keep X1.out h1)
      have s2 := bx_cells1 (bx_keep X2.out h1)
      obtain ⟨s3, s4⟩ := bx_cells2 (bx_keep X3.out h1)
      exact ⟨s1, s2, s3, s4, (h2.cell (lt_of_cell c3)).trans c3, (h2.cell (lt_of_cell c4)).trans c4, (h2.cell (lt_of_cell c5)).trans c5, (h2.cell (lt_of_cell c6)).trans c6, (h2.cell (lt_of_cell c7)).trans c7⟩
    subst hi
    have hi1 : (i : Int) < (n : Int) := by have := HN.out; omega
    have hi0 : (0 : Int) ≤ (i : Int) := by omega
    have HPQ := Lib.hid hp
    clear hf hbE hkid c0 c1 c2 c3 c4 c5 c6 c7 hp z0 z1 z2 z3 z4 z5 z6 z7 f0 f1 f2 f3 f4 f5 f6 f7
    go_wp2_with fail
    refine wp_region_U (S := (fun w' => w'.cell? ⟨w.heap.size, 0 + 1, none⟩ = some (.slice (some ⟨b, off, none⟩) n ce) ∧ w'.cell? ⟨w.heap.size + 1, 0, none⟩ = some (.int .i64 rule) ∧ w'.cell? ⟨w.heap.size + 1 + 1, 0, none⟩ = some (.int .i64 xa) ∧ w'.cell? ⟨w.heap.size + 1 + 1, 0 + 1, none⟩ = some (.int .i64 xi) ∧ w'.cell? ⟨b, off + i * 8 + 3, none⟩ = some (.int .i64 e0) ∧ w'.cell? ⟨b, off + i * 8 + 4, none⟩ = some (.int .i64 e1) ∧ w'.cell? ⟨b, off + i * 8 + 5, none⟩ = some (.int .i64 e2) ∧ w'.cell? ⟨b, off + i * 8 + 6, none⟩ = some (.int .i64 e3) ∧ w'.cell? ⟨b, off + i * 8 + 7, none⟩ = some (.slice av qn cv))) 10 (by kernel_rfl) (fun inv => ?_)
    refine wpU_take (i := 0) (v := .int .i64 rule) rfl inv (by kernel_rfl) (by kernel_rfl) (by decide) (by decide) (by kernel_rfl) (by kernel_rfl) (by kernel_rfl) (fun _ _ _ h => h) (Or.inl ⟨by rfl, fun w' hw' => ?_⟩) (HS.out _ (Below.refl _ _).drew) (fun inv => ?_)
    · obtain ⟨h0, h1, h2, h3, h4, h5, h6, h7, h8⟩ := hw'
      go_simp
    try simp only [Act.put, List.setIfInBounds_toArray, List.set_cons_zero, List.set_cons_succ]
    refine wpU_take (i := 1) (v := .agg #[.int .i64 xa, .int .i64 xi]) rfl inv (by kernel_rfl) (by kernel_rfl) (by decide) (by decide) (by kernel_rfl) (by kernel_rfl) (by kernel_rfl) (fun _ _ _ h => h) (Or.inl ⟨by rfl, fun w' hw' => ?_⟩) (HS.out _ (Below.refl _ _).drew) (fun inv => ?_)
    · obtain ⟨h0, h1, h2, h3, h4, h5, h6, h7, h8⟩ := hw'
      go_simp
    try simp only [Act.put, List.setIfInBounds_toArray, List.set_cons_zero, List.set_cons_succ]
    refine wpU_take (i := 2) (v := .pointer (some ⟨w.heap.size, 0 + 1, none⟩)) rfl inv (by kernel_rfl) (by kernel_rfl) (by decide) (by decide) (by kernel_rfl) (by kernel_rfl) (by kernel_rfl) (fun _ _ _ h => h) (Or.inl ⟨by rfl, fun w' hw' => ?_⟩) (HS.out _ (Below.refl _ _).drew) (fun inv => ?_)
    · obtain ⟨h0, h1, h2, h3, h4, h5, h6, h7, h8⟩ := hw'
      go_simp
    try simp only [Act.put, List.setIfInBounds_toArray, List.set_cons_zero, List.set_cons_succ]
    refine wpU_take (i := 3) (v := .slice (some ⟨b, off, none⟩) n ce) rfl inv (by kernel_rfl) (by kernel_rfl) (by decide) (by decide) (by kernel_rfl) (by kernel_rfl) (by kernel_rfl) (fun _ _ _ h => h) (Or.inl ⟨by rfl, fun w' hw' => ?_⟩) (HS.out _ (Below.refl _ _).drew) (fun inv => ?_)
    · obtain ⟨h0, h1, h2, h3, h4, h5, h6, h7, h8⟩ := hw'
      go_simp
    try simp only [Act.put, List.setIfInBounds_toArray, List.set_cons_zero, List.set_cons_succ]
    refine wpU_take (i := 4) (v := .int .i64 (i : Int)) rfl inv (by kernel_rfl) (by kernel_rfl) (by decide) (by decide) (by kernel_rfl) (by kernel_rfl) (by kernel_rfl) (fun _ _ _ h => h) (Or.inl ⟨by rfl, fun w' hw' => ?_⟩) (HS.out _ (Below.refl _ _).drew) (fun inv => ?_)
    · obtain ⟨h0, h1, h2, h3, h4, h5, h6, h7, h8⟩ := hw'
      go_simp
    try simp only [Act.put, List.setIfInBounds_toArray, List.set_cons_zero, List.set_cons_succ]
    refine wpU_take (i := 5) (v := .pointer (some ⟨b, off + i * 8, none⟩)) rfl inv (by kernel_rfl) (by kernel_rfl) (by decide) (by decide) (by kernel_rfl) (by kernel_rfl) (by kernel_rfl) (fun _ _ _ h => h) (Or.inl ⟨by rfl, fun w' hw' => ?_⟩) (HS.out _ (Below.refl _ _).drew) (fun inv => ?_)
    · obtain ⟨h0, h1, h2, h3, h4, h5, h6, h7, h8⟩ := hw'
      go_simp
    try simp only [Act.put, List.setIfInBounds_toArray, List.set_cons_zero, List.set_cons_succ]
    refine wpU_take (i := 6) (v := .pointer (some ⟨b, off + i * 8 + 3, none⟩)) rfl inv (by kernel_rfl) (by kernel_rfl) (by decide) (by decide) (by kernel_rfl) (by kernel_rfl) (by kernel_rfl) (fun _ _ _ h => h) (Or.inl ⟨by rfl, fun w' hw' => ?_⟩) (HS.out _ (Below.refl _ _).drew) (fun inv => ?_)
    · obtain ⟨h0, h1, h2, h3, h4, h5, h6, h7, h8⟩ := hw'
      go_simp
    try simp only [Act.put, List.setIfInBounds_toArray, List.set_cons_zero, List.set_cons_succ]
    refine wpU_take (i := 7) (v := .agg #[.int .i64 e0, .int .i64 e1, .int .i64 e2, .int .i64 e3, .slice av qn cv]) rfl inv (by kernel_rfl) (by kernel_rfl) (by decide) (by decide) (by kernel_rfl) (by kernel_rfl) (by kernel_rfl) (fun _ _ _ h => h) (Or.inl ⟨by rfl, fun w' hw' => ?_⟩) (HS.out _ (Below.refl _ _).drew) (fun inv => ?_)
    · obtain ⟨h0, h1, h2, h3, h4, h5, h6, h7, h8⟩ := hw'
      go_simp
    try simp only [Act.put, List.setIfInBounds_toArray, List.set_cons_zero, List.set_cons_succ]
    refine wpU_one (i := 8) (by kernel_rfl) rfl (fun K hK => ?_)
    go_simp
    refine (HCP.out _ (HB01.out.trans ((Below.refl _ _).drew.mono HB01.out.size))).mono ?_
    rintro e w7 ⟨v7, rfl, hr7, hb7⟩
    have HB7 : Hid (Below w1.heap.size w1 w7) := (Below.refl _ _).drew.trans hb7
    obtain ⟨a7, c7, rfl, -, -⟩ := hr7.form
    have HR7 := Lib.hid hr7
    have Z4 := Lib.hid (bx_keep Y4.out HB7.out)
    obtain ⟨z0, z1, z2, z3, z4, z5, z6, z7⟩ := bx_cells8 Z4.out
    obtain ⟨f0, f1, f2, f3, f4, f5, f6, f7⟩ := bx_free8 Z4.out
    clear hr7 hb7
    rw [HE0.out, HE1.out, HE2.out, HE3.out, List.length_map, HQN.out]
    refine hK.out _ _ (fun _ => HS.out _ HB7.out) ?_
    clear hK K
    try simp only [Act.put, List.setIfInBounds_toArray, List.set_cons_zero, List.set_cons_succ]
    refine wpU_one (i := 9) (by kernel_rfl) rfl (fun K hK => ?_)
    go_simp
    refine hK.out _ _ (fun _ => HS.out _ HB7.out) ?_
    clear hK K
    try simp only [Act.put, List.setIfInBounds_toArray, List.set_cons_zero, List.set_cons_succ]
    refine wpU_one (i := 10) (by kernel_rfl) rfl (fun K hK => ?_)
    go_simp
    refine hK.out _ _ (fun h => absurd (show true = false from h) (by decide)) ?_
    clear hK K
    try simp only [Act.put, List.setIfInBounds_toArray, List.set_cons_zero, List.set_cons_succ]
    refine wpU_one (i := 11) (by kernel_rfl) rfl (fun K hK => ?_)
    go_simp
    refine hK.out _ _ (fun h => absurd (show true = false from h) (by decide)) ?_
    clear hK K
    try simp only [Act.put, List.setIfInBounds_toArray, List.set_cons_zero, List.set_cons_succ]
    refine wpU_done (by kernel_rfl) ?_ _
    go_wp2_with fail
    refine bodyPost_ret (v := .tuple #[.agg #[.int .i64 rule, .int .i64 xa, .int .i64 xi, .int .i64 e0, .int .i64 e1, .int .i64 e2, .int .i64 e3, .slice a7 qn c7], .int .i64 0]) (by simp [results, Try.results8, go_sem, z0, z1, z2, z3, z4, z5, z6, z7]) rfl ?_
    have hr := HR7.out
    rw [List.length_map, HQN.out] at hr
    have hg : ∀ (W : World) (a0 a1 a2 a3 a4 a5 a6 a7 : Value), W.grownBy ((((((((W.setCell ⟨w.heap.size + 1 + 1 + 1, 0, none⟩ a0).setCell ⟨w.heap.size + 1 + 1 + 1, 1, none⟩ a1).setCell ⟨w.heap.size + 1 + 1 + 1, 2, none⟩ a2).setCell ⟨w.heap.size + 1 + 1 + 1, 3, none⟩ a3).setCell ⟨w.heap.size + 1 + 1 + 1, 4, none⟩ a4).setCell ⟨w.heap.size + 1 + 1 + 1, 5, none⟩ a5).setCell ⟨w.heap.size + 1 + 1 + 1, 6, none⟩ a6).setCell ⟨w.heap.size + 1 + 1 + 1, 7, none⟩ a7) (some (w.heap.size + 1 + 1 + 1)) := fun W a0 a1 a2 a3 a4 a5 a6 a7 => grown_trans (grown_trans (grown_trans (grown_trans (grown_trans (grown_trans (grown_trans (grown_cell _ _ _) (grown_cell _ _ _)) (grown_cell _ _ _)) (grown_cell _ _ _)) (grown_cell _ _ _)) (grown_cell _ _ _)) (grown_cell _ _ _)) (grown_cell _ _ _)
    have HRD : ∀ (a0 a1 a2 a3 a4 a5 a6 a8 : Value), Rd AnyB ((((((((w7.setCell ⟨w.heap.size + 1 + 1 + 1, 0, none⟩ a0).setCell ⟨w.heap.size + 1 + 1 + 1, 1, none⟩ a1).setCell ⟨w.heap.size + 1 + 1 + 1, 2, none⟩ a2).setCell ⟨w.heap.size + 1 + 1 + 1, 3, none⟩ a3).setCell ⟨w.heap.size + 1 + 1 + 1, 4, none⟩ a4).setCell ⟨w.heap.size + 1 + 1 + 1, 5, none⟩ a5).setCell ⟨w.heap.size + 1 + 1 + 1, 6, none⟩ a6).setCell ⟨w.heap.size + 1 + 1 + 1, 7, none⟩ a8) (.sl (q.is'.args.map Expr.d)) [.slice a7 qn c7] := by
      intro a0 a1 a2 a3 a4 a5 a6 a8
      refine Rd.keep (fun k hk hlt => ⟨trivial, (hg w7 _ _ _ _ _ _ _ _).block k hlt (fun e => ?_)⟩) _ _ hr
      have h1 : w1.heap.size ≤ k := hk
      have h2 := (Array.getElem?_eq_some_iff.1 Y4.out).1
      simp at e
      omega
    rw [← HXA.out, ← HXI.out, ← HE0.out, ← HE1.out, ← HE2.out, ← HE3.out]
    exact HFIN.out (.slice a7 qn c7) ⟨rule, x, q.is'⟩ 0 _ HF.out (HRD _ _ _ _ _ _ _ _) (HCB.out _ _ _ _ _ _ _ _ _ (HB01.out.trans (HB7.out.mono HB01.out.size)))
end At
end Go.Proofs.Ytiapfogckbkkpaa
