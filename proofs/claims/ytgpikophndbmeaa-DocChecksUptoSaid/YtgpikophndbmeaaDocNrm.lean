/- doc.Norm in plain Lean: the simple form of a document. -/
import Derived.Test.YtgpikophndbmeaaDocWrite
import Derived.Test.YtgpikophndbmeaaDocPred
namespace Go.Proofs.Ytgpikophndbmeaa
open Go.RowKit
namespace Dc

def flat1 (x : Doc) : List Doc := if x.kind = 4 then x.kids else [x]
def flatL : List Doc → List Doc
  | [] => []
  | x :: l => flat1 x ++ flatL l
def glueB (y x : Doc) : Bool := decide (x.kind = 0) && (decide (y.kind = 0) && decide (y.txt.size + x.txt.size ≤ 60))
def dropB (x : Doc) : Bool := decide (x.kind = 0) && decide (x.txt = ⟨#[]⟩)
def glue1 (y x : Doc) : Doc := .mk y.kind (y.txt ++ x.txt) y.n y.kids
/-- one more document behind a row -/
def glue (out : List Doc) (x : Doc) : List Doc :=
  if dropB x = true then out else match out.getLast? with
    | none => out ++ [x]
    | some y => if glueB y x = true then out.dropLast ++ [glue1 y x] else out ++ [x]
def gluesL (out : List Doc) : List Doc → List Doc
  | [] => out
  | x :: l => gluesL (glue out x) l
/-- what a row of simple documents makes -/
def catOf : List Doc → Doc
  | [x] => x
  | o => .mk 4 ⟨#[]⟩ 0 o
theorem catOf_one (x : Doc) : catOf [x] = x := rfl
theorem catOf_not {o : List Doc} (h : o.length ≠ 1) : catOf o = .mk 4 ⟨#[]⟩ 0 o := by
  cases o with
  | nil => rfl
  | cons a l => cases l with
    | nil => simp at h
    | cons b l => rfl
def catD (xs : List Doc) : Doc := catOf (gluesL [] (flatL xs))
def nestD (n : Int) (x : Doc) : Doc :=
  if n = 0 ∨ (nodes x).any isLine = false then x else if x.kind = 5 ∧ x.n + n ≤ 20 then .mk 5 ⟨#[]⟩ (x.n + n) x.kids else .mk 5 ⟨#[]⟩ n [x]
mutual
def nrm : Doc → Doc
  | .mk k t n ks => if k = 5 then nestD n ((nrmL ks).headD (.mk 0 ⟨#[]⟩ 0 [])) else if k = 4 then catD (nrmL ks) else .mk k t n (nrmL ks)
def nrmL : List Doc → List Doc
  | [] => []
  | x :: l => nrm x :: nrmL l
end
theorem nrmL_map : ∀ l : List Doc, nrmL l = l.map nrm
  | [] => by simp [nrmL]
  | x :: l => by simp [nrmL, nrmL_map l]
theorem nrm_eq (t : Doc) : nrm t = if t.kind = 5 then nestD t.n ((t.kids.map nrm).headD (.mk 0 ⟨#[]⟩ 0 [])) else if t.kind = 4 then catD (t.kids.map nrm) else .mk t.kind t.txt t.n (t.kids.map nrm) := by
  cases t; rw [nrm, nrmL_map]; rfl

/-- valid, all nodes of it -/
def okA (t : Doc) : Prop := (nodes t).all okD = true
theorem okA_iff (t : Doc) : okA t ↔ okD t = true ∧ ∀ k ∈ t.kids, okA k := by
  unfold okA
  rw [nodes_eq, List.all_cons, Bool.and_eq_true]
  refine and_congr Iff.rfl ?_
  generalize t.kids = ks
  induction ks with
  | nil => simp [nodesL]
  | cons x l ih => rw [nodesL, List.all_append, Bool.and_eq_true, ih]; simp
theorem prB_app (a b : ByteArray) : prB (a ++ b) = (prB a && prB b) := by
  unfold prB
  rw [show (a ++ b).data.toList = a.data.toList ++ b.data.toList by rw [ByteArray.data_append]; simp, List.all_append]
theorem size_app (a b : ByteArray) : (a ++ b).size = a.size + b.size := by simp
theorem prB_nil : prB ⟨#[]⟩ = true := rfl
theorem size_nil : (⟨#[]⟩ : ByteArray).size = 0 := rfl
/-- the cases of a valid node -/
theorem ok_text {t : Doc} (h : okD t = true) (h0 : t.kind = 0) : t.n = 0 ∧ t.kids = [] ∧ t.txt.size ≤ 60 ∧ prB t.txt = true := by
  obtain ⟨_, _, a, b, c, d, e, f⟩ := ok_parts h
  exact ⟨f (by omega), a (by omega) (by omega) (by omega), (c h0).1, (c h0).2⟩
theorem ok_mkText {s : ByteArray} (h : s.size ≤ 60) (hp : prB s = true) : okA (.mk 0 s 0 []) := by
  rw [okA_iff]
  refine ⟨?_, by simp [Doc.kids]⟩
  simp [okD, argsB, textB, indB, Doc.kind, Doc.txt, Doc.n, Doc.kids, h, hp]
theorem okA_flatL : ∀ {l : List Doc}, (∀ x ∈ l, okA x) → ∀ x ∈ flatL l, okA x
  | [], _, x, hx => by simp [flatL] at hx
  | y :: l, h, x, hx => by
    rw [flatL, List.mem_append] at hx
    rcases hx with hx | hx
    · unfold flat1 at hx
      have hy := h y List.mem_cons_self
      split at hx
      · exact ((okA_iff y).1 hy).2 x hx
      · simp at hx; subst hx; exact hy
    · exact okA_flatL (fun z hz => h z (List.mem_cons_of_mem _ hz)) x hx
theorem glue_drop {out : List Doc} {x : Doc} (h : dropB x = true) : glue out x = out := by unfold glue; rw [if_pos h]
theorem glue_nil {x : Doc} (h : dropB x = false) : glue [] x = [x] := by unfold glue; rw [if_neg (by simp [h])]; rfl
theorem glue_join {o : List Doc} {y x : Doc} (h : dropB x = false) (hg : glueB y x = true) : glue (o ++ [y]) x = o ++ [glue1 y x] := by
  unfold glue; rw [if_neg (by simp [h])]; simp [hg]
theorem glue_app {o : List Doc} {y x : Doc} (h : dropB x = false) (hg : glueB y x = false) : glue (o ++ [y]) x = o ++ [y] ++ [x] := by
  unfold glue; rw [if_neg (by simp [h])]; simp [hg]
theorem glue1_ok {y x : Doc} (hy : okA y) (hx : okA x) (hg : glueB y x = true) : glue1 y x = .mk 0 (y.txt ++ x.txt) 0 [] ∧ okA (glue1 y x) := by
  unfold glueB at hg
  simp at hg
  obtain ⟨g1, g2, g3⟩ := hg
  obtain ⟨a1, a2, a3, a4⟩ := ok_text ((okA_iff y).1 hy).1 g2
  obtain ⟨b1, b2, b3, b4⟩ := ok_text ((okA_iff x).1 hx).1 g1
  have e : glue1 y x = .mk 0 (y.txt ++ x.txt) 0 [] := by unfold glue1; rw [g2, a1, a2]
  refine ⟨e, ?_⟩
  rw [e]
  exact ok_mkText (by rw [size_app]; exact g3) (by rw [prB_app, a4, b4]; rfl)
theorem glue_cases (out : List Doc) (x : Doc) : glue out x = out ∨ glue out x = out ++ [x] ∨ ∃ o y, out = o ++ [y] ∧ glueB y x = true ∧ glue out x = o ++ [glue1 y x] := by
  by_cases h : dropB x = true
  · exact .inl (glue_drop h)
  · have h : dropB x = false := by simpa using h
    rcases List.eq_nil_or_concat out with rfl | ⟨o, y, rfl⟩
    · exact .inr (.inl (by rw [glue_nil h]; rfl))
    · rw [List.concat_eq_append]
      cases hg : glueB y x
      · exact .inr (.inl (glue_app h hg))
      · exact .inr (.inr ⟨o, y, rfl, hg, glue_join h hg⟩)
theorem glue_ok {out : List Doc} {x : Doc} (ho : ∀ y ∈ out, okA y) (hx : okA x) : ∀ y ∈ glue out x, okA y := by
  rcases glue_cases out x with h | h | ⟨o, y, rfl, hg, h⟩ <;> rw [h]
  · exact ho
  · intro z hz
    simp at hz
    rcases hz with hz | hz
    · exact ho z hz
    · subst hz; exact hx
  · intro z hz
    simp at hz
    rcases hz with hz | rfl
    · exact ho z (by simp [hz])
    · exact (glue1_ok (ho y (by simp)) hx hg).2
theorem glue_len (out : List Doc) (x : Doc) : (glue out x).length ≤ out.length + 1 := by
  rcases glue_cases out x with h | h | ⟨o, y, rfl, hg, h⟩ <;> rw [h] <;> simp
theorem gluesL_ok : ∀ {l out : List Doc}, (∀ y ∈ out, okA y) → (∀ x ∈ l, okA x) → ∀ y ∈ gluesL out l, okA y
  | [], out, ho, _ => by rw [gluesL]; exact ho
  | x :: l, out, ho, hl => by rw [gluesL]; exact gluesL_ok (glue_ok ho (hl x List.mem_cons_self)) (fun z hz => hl z (List.mem_cons_of_mem _ hz))
theorem gluesL_append : ∀ (l m out : List Doc), gluesL out (l ++ m) = gluesL (gluesL out l) m
  | [], m, out => by simp [gluesL]
  | x :: l, m, out => by rw [List.cons_append, gluesL, gluesL_append l m, gluesL]
theorem gluesL_take {l : List Doc} {i : Nat} (h : i < l.length) (out : List Doc) : gluesL out (l.take (i + 1)) = glue (gluesL out (l.take i)) l[i] := by
  rw [List.take_succ_eq_append_getElem h, gluesL_append]; rfl
theorem flatL_append : ∀ (l m : List Doc), flatL (l ++ m) = flatL l ++ flatL m
  | [], m => by simp [flatL]
  | x :: l, m => by simp [flatL, flatL_append l m]
theorem flatL_take {l : List Doc} {i : Nat} (h : i < l.length) : flatL (l.take (i + 1)) = flatL (l.take i) ++ flat1 l[i] := by
  rw [List.take_succ_eq_append_getElem h, flatL_append]; simp [flatL]
/-- the number of nodes -/
def sz (t : Doc) : Nat := (nodes t).length
def szL (l : List Doc) : Nat := (nodesL l).length
theorem sz_eq (t : Doc) : sz t = szL t.kids + 1 := by unfold sz szL; rw [nodes_eq]; simp
theorem szL_nil : szL [] = 0 := rfl
theorem szL_cons (x : Doc) (l : List Doc) : szL (x :: l) = sz x + szL l := by unfold szL sz; simp [nodesL]
theorem szL_append (a b : List Doc) : szL (a ++ b) = szL a + szL b := by unfold szL; rw [nodesL_append]; simp
theorem szL_flat1 (x : Doc) : szL (flat1 x) ≤ sz x := by
  unfold flat1
  split
  · rw [sz_eq]; omega
  · rw [szL_cons, szL_nil]; omega
theorem szL_flatL : ∀ l : List Doc, szL (flatL l) ≤ szL l
  | [] => by simp [flatL]
  | x :: l => by rw [flatL, szL_append, szL_cons]; have := szL_flat1 x; have := szL_flatL l; omega
theorem szL_glue (out : List Doc) (x : Doc) : szL (glue out x) ≤ szL out + sz x := by
  rcases glue_cases out x with h | h | ⟨o, y, rfl, hg, h⟩ <;> rw [h]
  · omega
  · rw [szL_append, szL_cons, szL_nil]; omega
  · rw [szL_append, szL_append, szL_cons, szL_cons, szL_nil, sz_eq (glue1 y x), sz_eq y]
    show szL o + (szL y.kids + 1 + 0) ≤ _
    omega
theorem szL_glues : ∀ (l out : List Doc), szL (gluesL out l) ≤ szL out + szL l
  | [], out => by rw [gluesL]; omega
  | x :: l, out => by rw [gluesL, szL_cons]; have := szL_glues l (glue out x); have := szL_glue out x; omega
theorem len_szL (l : List Doc) : l.length ≤ szL l := by
  induction l with
  | nil => simp
  | cons x l ih => rw [szL_cons, List.length_cons]; have : 0 < sz x := nodes_pos x; omega
theorem catD_sz (xs : List Doc) : sz (catD xs) ≤ szL xs + 1 := by
  have h := szL_glues (flatL xs) []
  rw [szL_nil] at h
  have h2 := szL_flatL xs
  unfold catD
  generalize gluesL [] (flatL xs) = o at h
  by_cases e : o.length = 1
  · obtain ⟨x, rfl⟩ := List.length_eq_one_iff.1 e
    rw [szL_cons, szL_nil] at h
    rw [catOf_one]; omega
  · rw [catOf_not e, sz_eq]; show szL o + 1 ≤ _; omega
theorem nestD_sz (n : Int) (x : Doc) : sz (nestD n x) ≤ sz x + 1 := by
  unfold nestD
  split
  · omega
  split
  · rw [sz_eq, sz_eq x]; show szL x.kids + 1 ≤ _; omega
  · rw [sz_eq]; show szL [x] + 1 ≤ _; rw [szL_cons, szL_nil]; omega
theorem isLine_dec {n : Int} {x : Doc} : (n = 0 ∨ (nodes x).any isLine = false) ∨ ¬ (n = 0 ∨ (nodes x).any isLine = false) := Classical.em _
theorem ok_nest {n : Int} {ks : List Doc} (h : ks.length = 1) (h0 : 0 ≤ n) (h1 : n ≤ 20) : okD (.mk 5 ⟨#[]⟩ n ks) = true := by
  simp [okD, argsB, textB, indB, Doc.kind, Doc.txt, Doc.n, Doc.kids, h, h0, h1]
theorem nestD_ok {n : Int} {x : Doc} (h0 : 0 ≤ n) (h1 : n ≤ 20) (hx : okA x) : okA (nestD n x) := by
  unfold nestD
  split
  · exact hx
  have hx' := (okA_iff x).1 hx
  split
  · next h =>
    obtain ⟨p1, p2, p3, p4, p5, p6, p7, p8⟩ := ok_parts hx'.1
    obtain ⟨y, hy⟩ := p4 (.inl h.1)
    rw [okA_iff]
    refine ⟨?_, hx'.2⟩
    have := p7 h.1
    exact ok_nest (by rw [hy]; rfl) (by omega) (by omega)
  · rw [okA_iff]
    refine ⟨?_, by simpa [Doc.kids] using hx⟩
    exact ok_nest rfl (by omega) (by omega)
theorem catD_ok {xs : List Doc} (h : ∀ x ∈ xs, okA x) : okA (catD xs) := by
  have ho := gluesL_ok (l := flatL xs) (out := []) (by simp) (okA_flatL h)
  unfold catD
  generalize gluesL [] (flatL xs) = o at ho
  by_cases e : o.length = 1
  · obtain ⟨x, rfl⟩ := List.length_eq_one_iff.1 e
    rw [catOf_one]; exact ho _ (by simp)
  · rw [catOf_not e, okA_iff]
    refine ⟨?_, ho⟩
    simp [okD, argsB, textB, indB, Doc.kind, Doc.txt, Doc.n]
theorem nrm_ok : ∀ (m : Nat) (t : Doc), sz t ≤ m → okA t → okA (nrm t) ∧ sz (nrm t) ≤ sz t := by
  intro m
  induction m with
  | zero => intro t hm; have : 0 < sz t := nodes_pos t; omega
  | succ m ih =>
    intro t hm hok
    have hk : ∀ k ∈ t.kids, okA (nrm k) ∧ sz (nrm k) ≤ sz k := fun k hk => by
      refine ih k ?_ (((okA_iff t).1 hok).2 k hk)
      have := nodes_kid k hk
      rw [sz_eq] at hm
      show (nodes k).length ≤ m
      unfold szL at hm
      omega
    have hL : szL (t.kids.map nrm) ≤ szL t.kids := by
      revert hk
      generalize t.kids = ks
      intro hk
      induction ks with
      | nil => simp
      | cons x l ih2 =>
        rw [List.map_cons, szL_cons, szL_cons]
        have := (hk x List.mem_cons_self).2
        have := ih2 fun k h => hk k (List.mem_cons_of_mem _ h)
        omega
    have hM : ∀ x ∈ t.kids.map nrm, okA x := fun x hx => by
      obtain ⟨k, h1, rfl⟩ := List.mem_map.1 hx
      exact (hk k h1).1
    obtain ⟨p1, p2, p3, p4, p5, p6, p7, p8⟩ := ok_parts ((okA_iff t).1 hok).1
    rw [nrm_eq, sz_eq t]
    by_cases k5 : t.kind = 5
    · obtain ⟨x, hx⟩ := p4 (.inl k5)
      rw [if_pos k5]
      rw [hx] at hL hM ⊢
      simp at hM
      refine ⟨?_, ?_⟩
      · exact nestD_ok (p7 k5).1 (p7 k5).2 hM
      · show sz (nestD t.n (nrm x)) ≤ _
        have h1 := nestD_sz t.n (nrm x)
        simp only [List.map_cons, List.map_nil, szL_cons, szL_nil] at hL ⊢
        omega
    · rw [if_neg k5]
      by_cases k4 : t.kind = 4
      · rw [if_pos k4]
        exact ⟨catD_ok hM, by have := catD_sz (t.kids.map nrm); omega⟩
      · rw [if_neg k4]
        refine ⟨?_, by rw [sz_eq]; show szL (t.kids.map nrm) + 1 ≤ _; omega⟩
        rw [okA_iff]
        refine ⟨?_, hM⟩
        have h := ((okA_iff t).1 hok).1
        unfold okD argsB textB indB at h ⊢
        simp only [Doc.kind, Doc.txt, Doc.n, Doc.kids, List.length_map] at h ⊢
        exact h
end Dc
end Go.Proofs.Ytgpikophndbmeaa
