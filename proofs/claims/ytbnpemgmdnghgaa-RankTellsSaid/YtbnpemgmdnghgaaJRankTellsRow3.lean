/- Which trees are valid, in plain Lean: two ways to say it. Smaller trees, in plain Lean: two ways to list them, and that they agree. The contract of tree.Size. The contracts of Nodes, Yield and Codes. The contract of parts. A list of trees that is being made, beside memory that is only read. A region that draws its order, that only loads what was there and calls what makes new memory only: one walk in the order of the text. The contracts of gram.Has, gram.Order, gram.Compare and of slices' functions of symbols and rules. The contract of gram.Check. A census counter in memory; its readers: has, can, split. -/
import Derived.Test.YtbnpemgmdnghgaaJRankTellsRow1
import Derived.Test.YtbnpemgmdnghgaaJRankTellsRow2
import Derived.WalkSmall
import Derived.Deep.LoopGhost
import Derived.BigQuiet
import Derived.Deep.RegionHeld3
import Derived.Deep.DeepCutAuto
namespace Go.Proofs.Ytbnpemgmdnghgaa

def rootS (g : Gram) (t : Tree) : Sym := if t.rule < 0 then ⟨true, t.term⟩ else match g.rules[t.rule.toNat]? with | some r => ⟨false, r.left⟩ | none => ⟨true, t.term⟩
def kidOk (g : Gram) (k : Tree) (s : Sym) : Bool := decide (-1 ≤ k.rule) && (decide (k.rule < g.rules.length) && decide (rootS g k = s))
def kidsOk (g : Gram) (ks : List Tree) (l : List Sym) : Bool := decide (ks.length = l.length) && (List.zip ks l).all fun x => kidOk g x.1 x.2
def nodeOk (g : Gram) (t : Tree) : Bool :=
  if t.rule = -1 then decide (0 ≤ t.term) && (decide (t.term < g.terms) && decide (t.kids.length = 0))
  else if t.rule < 0 then false else match g.rules[t.rule.toNat]? with
    | none => false
    | some r => decide (t.term = 0) && kidsOk g t.kids r.right
def validT (g : Gram) (t : Tree) : Bool := (nodes t).all (nodeOk g)
def checkT (g : Gram) (t : Tree) : Int := if checkG g ≠ 0 then checkG g else if 5000 < (nodes t).length then 2 else if validT g t then 0 else 3

mutual
theorem kid_node : ∀ (t x k : Tree), x ∈ nodes t → x.rule ≠ -1 → k ∈ x.kids → k ∈ nodes t
  | .node r tm ks, x, k, hx, hr, hk => by
    rw [nodes] at hx ⊢
    rcases List.mem_cons.1 hx with rfl | hx
    · simp only [Tree.rule, Tree.kids] at hr hk
      rw [if_neg hr]
      exact List.mem_cons_of_mem _ (kid_mem ks k hk)
    · by_cases h : r = -1
      · rw [if_pos h] at hx; simp at hx
      · rw [if_neg h] at hx ⊢
        exact List.mem_cons_of_mem _ (kid_nodeL ks x k hx hr hk)
theorem kid_nodeL : ∀ (ks : List Tree) (x k : Tree), x ∈ nodesL ks → x.rule ≠ -1 → k ∈ x.kids → k ∈ nodesL ks
  | [], x, k, hx, _, _ => by simp [nodesL] at hx
  | y :: ks, x, k, hx, hr, hk => by
    rw [nodesL] at hx ⊢
    rcases List.mem_append.1 hx with h | h
    · exact List.mem_append_left _ (kid_node y x k h hr hk)
    · exact List.mem_append_right _ (kid_nodeL ks x k h hr hk)
theorem kid_mem : ∀ (ks : List Tree) (k : Tree), k ∈ ks → k ∈ nodesL ks
  | [], k, h => by simp at h
  | y :: ks, k, h => by
    rw [nodesL]
    rcases List.mem_cons.1 h with rfl | h
    · refine List.mem_append_left _ ?_
      rw [nodes_eq]; exact List.mem_cons_self
    · exact List.mem_append_right _ (kid_mem ks k h)
end

end Go.Proofs.Ytbnpemgmdnghgaa
namespace Go.Proofs.Ytbnpemgmdnghgaa
open Go.RowKit

mutual
/-- all subtrees in preorder -/
def parts : Tree → List Tree
  | .node r t ks => .node r t ks :: partsL ks
def partsL : List Tree → List Tree
  | [] => []
  | k :: ks => parts k ++ partsL ks
end
mutual
/-- their paths -/
def aps : Tree → List (List Int)
  | .node _ _ ks => [] :: apsL 0 ks
def apsL : Nat → List Tree → List (List Int)
  | _, [] => []
  | n, k :: ks => (aps k).map (fun p => (n : Int) :: p) ++ apsL (n + 1) ks
end
mutual
/-- the subtree with the number n replaced -/
def chg : Tree → Int → Tree → Tree × Int
  | .node r t ks, n, b => if n = 0 then (b, -1) else (.node r t (chgL ks (n - 1) b).1, (chgL ks (n - 1) b).2)
def chgL : List Tree → Int → Tree → List Tree × Int
  | [], n, _ => ([], n)
  | k :: ks, n, b => if 0 ≤ n then ((chg k n b).1 :: (chgL ks (chg k n b).2 b).1, (chgL ks (chg k n b).2 b).2) else (k :: (chgL ks n b).1, (chgL ks n b).2)
end
mutual
/-- leaves have no kids, and all rules are there -/
def good (g : Gram) : Tree → Prop
  | .node r _ ks => (r = -1 → ks = []) ∧ -1 ≤ r ∧ r < g.rules.length ∧ goodL g ks
def goodL (g : Gram) : List Tree → Prop
  | [] => True
  | k :: ks => good g k ∧ goodL g ks
end

mutual
theorem parts_len : ∀ t : Tree, (parts t).length = t.size
  | .node r tm ks => by simp [parts, Tree.size, partsL_len ks]
theorem partsL_len : ∀ ks : List Tree, (partsL ks).length = sizeL ks
  | [] => by simp [partsL, sizeL]
  | k :: ks => by simp [partsL, sizeL, parts_len k, partsL_len ks]
end
mutual
theorem aps_len : ∀ t : Tree, (aps t).length = t.size
  | .node r tm ks => by simp [aps, Tree.size, apsL_len ks]
theorem apsL_len : ∀ (ks : List Tree) (n : Nat), (apsL n ks).length = sizeL ks
  | [], n => by simp [apsL, sizeL]
  | k :: ks, n => by simp [apsL, sizeL, aps_len k, apsL_len ks]
end
mutual
theorem ap_le : ∀ (t : Tree), ∀ p ∈ aps t, p.length < t.size
  | .node r tm ks => by
    rw [aps, Tree.size]
    intro p hp
    rcases List.mem_cons.1 hp with rfl | hp
    · simp
    · have := apL_le ks 0 p hp; omega
theorem apL_le : ∀ (ks : List Tree) (n : Nat), ∀ p ∈ apsL n ks, p.length ≤ sizeL ks
  | [], n => by simp [apsL]
  | k :: ks, n => by
    rw [apsL, sizeL]
    intro p hp
    rw [List.mem_append] at hp
    rcases hp with hp | hp
    · rw [List.mem_map] at hp
      obtain ⟨q, hq, rfl⟩ := hp
      have := ap_le k q hq
      simp; omega
    · have := apL_le ks (n + 1) p hp; omega
end
mutual
theorem part_size : ∀ (t : Tree), ∀ y ∈ parts t, y.size ≤ t.size
  | .node r tm ks => by
    rw [parts]
    intro y hy
    rcases List.mem_cons.1 hy with rfl | hy
    · exact Nat.le_refl _
    · have := partL_size ks y hy; rw [Tree.size]; omega
theorem partL_size : ∀ (ks : List Tree), ∀ y ∈ partsL ks, y.size ≤ sizeL ks
  | [] => by simp [partsL]
  | k :: ks => by
    rw [partsL, sizeL]
    intro y hy
    rcases List.mem_append.1 hy with hy | hy
    · have := part_size k y hy; omega
    · have := partL_size ks y hy; omega
end
mutual
theorem good_part {g : Gram} : ∀ (t : Tree), good g t → ∀ y ∈ parts t, good g y
  | .node r tm ks, h => by
    rw [parts]
    intro y hy
    rcases List.mem_cons.1 hy with rfl | hy
    · exact h
    · rw [good] at h; exact goodL_part ks h.2.2.2 y hy
theorem goodL_part {g : Gram} : ∀ (ks : List Tree), goodL g ks → ∀ y ∈ partsL ks, good g y
  | [], _ => by simp [partsL]
  | k :: ks, h => by
    rw [partsL]
    rw [goodL] at h
    intro y hy
    rcases List.mem_append.1 hy with hy | hy
    · exact good_part k h.1 y hy
    · exact goodL_part ks h.2 y hy
end
mutual
theorem nodes_parts {g : Gram} : ∀ (t : Tree), good g t → nodes t = parts t
  | .node r tm ks, h => by
    rw [good] at h
    rw [nodes, parts]
    by_cases hr : r = -1
    · rw [if_pos hr, h.1 hr, partsL]
    · rw [if_neg hr, nodesL_parts ks h.2.2.2]
theorem nodesL_parts {g : Gram} : ∀ (ks : List Tree), goodL g ks → nodesL ks = partsL ks
  | [], _ => by simp [nodesL, partsL]
  | k :: ks, h => by
    rw [goodL] at h
    rw [nodesL, partsL, nodes_parts k h.1, nodesL_parts ks h.2]
end
mutual
theorem good_of {g : Gram} : ∀ (t : Tree), (nodes t).all (nodeOk g) = true → good g t
  | .node r tm ks, h => by
    rw [nodes, List.all_cons, Bool.and_eq_true] at h
    obtain ⟨h1, h2⟩ := h
    rw [good]
    by_cases hr : r = -1
    · have hk : ks = [] := by
        simp [nodeOk, Tree.rule, Tree.kids, hr] at h1
        exact h1.2.2
      subst hk
      exact ⟨fun _ => rfl, by omega, by omega, trivial⟩
    · rw [if_neg hr] at h2
      refine ⟨fun e => absurd e hr, ?_, ?_, goodL_of ks h2⟩
      · by_cases h0 : r < 0
        · simp [nodeOk, Tree.rule, hr, h0] at h1
        · omega
      · by_cases h0 : r < 0
        · omega
        · by_cases h3 : r.toNat < g.rules.length
          · omega
          · have e : g.rules[r.toNat]? = none := List.getElem?_eq_none (by omega)
            simp [nodeOk, Tree.rule, hr, h0, e] at h1
theorem goodL_of {g : Gram} : ∀ (ks : List Tree), (nodesL ks).all (nodeOk g) = true → goodL g ks
  | [], _ => trivial
  | k :: ks, h => by
    rw [nodesL, List.all_append, Bool.and_eq_true] at h
    exact ⟨good_of k h.1, goodL_of ks h.2⟩
end

theorem chgL_done : ∀ (ks : List Tree) (b : Tree), chgL ks (-1) b = (ks, -1)
  | [], b => by simp [chgL]
  | k :: ks, b => by rw [chgL, if_neg (by omega), chgL_done ks b]
mutual
theorem chg_past : ∀ (t : Tree) (n : Nat) (b : Tree), t.size ≤ n → chg t n b = (t, (n : Int) - t.size)
  | .node r tm ks, n, b, h => by
    rw [Tree.size] at h
    have h1 := chgL_past ks (n - 1) b (by omega)
    rw [show ((n - 1 : Nat) : Int) = (n : Int) - 1 by omega] at h1
    rw [chg, if_neg (by omega), h1, Tree.size]
    simp; omega
theorem chgL_past : ∀ (ks : List Tree) (n : Nat) (b : Tree), sizeL ks ≤ n → chgL ks n b = (ks, (n : Int) - sizeL ks)
  | [], n, b, h => by simp [chgL, sizeL]
  | k :: ks, n, b, h => by
    rw [sizeL] at h
    have h1 := chg_past k n b (by omega)
    have h2 := chgL_past ks (n - k.size) b (by omega)
    rw [show ((n - k.size : Nat) : Int) = (n : Int) - k.size by omega] at h2
    rw [chgL, if_pos (by omega), h1, h2, sizeL]
    simp; omega
end
theorem mapIdx_if {ks : List Tree} (j : Nat) (f : Tree → Tree) : (ks.mapIdx fun m k => if (m : Int) = (j : Int) then f k else k) = ks.modify j f := by
  refine List.ext_getElem (by simp) fun i h1 h2 => ?_
  simp only [List.getElem_mapIdx, List.getElem_modify]
  by_cases e : j = i
  · rw [if_pos (by omega), if_pos e]
  · rw [if_neg (by omega), if_neg e]
theorem putT_modify (t : Tree) (j : Nat) (p : List Int) (b : Tree) : putT t ((j : Int) :: p) b = .node t.rule t.term (t.kids.modify j fun k => putT k p b) := by
  rw [putT, mapIdx_if j fun k => putT k p b]
mutual
/-- the n-th path replaced is the n-th part changed -/
theorem chg_put : ∀ (t : Tree) (n : Nat) (b : Tree) (h : n < (aps t).length), chg t n b = (putT t (aps t)[n] b, -1)
  | .node r tm ks, n, b, h => by
    cases n with
    | zero => simp [chg, aps, putT]
    | succ n =>
      have hn : n < (apsL 0 ks).length := by simpa [aps] using h
      obtain ⟨j, p, e1, e2, e3⟩ := chgL_put ks 0 n b hn
      rw [chg, if_neg (by omega)]
      rw [show ((n + 1 : Nat) : Int) - 1 = (n : Int) by omega, e3]
      have e4 : (aps (.node r tm ks))[n + 1] = (apsL 0 ks)[n] := by simp [aps]
      rw [e4, e1, Nat.zero_add, putT_modify]
      rfl
theorem chgL_put : ∀ (ks : List Tree) (m n : Nat) (b : Tree) (h : n < (apsL m ks).length), ∃ j p, (apsL m ks)[n] = ((m + j : Nat) : Int) :: p ∧ j < ks.length ∧ chgL ks n b = (ks.modify j (fun k => putT k p b), -1)
  | [], m, n, b, h => by simp [apsL] at h
  | k :: ks, m, n, b, h => by
    by_cases hn : n < (aps k).length
    · refine ⟨0, (aps k)[n], ?_, by simp, ?_⟩
      · simp only [apsL]
        rw [List.getElem_append_left (by simpa using hn)]; simp
      · rw [chgL, if_pos (by omega), chg_put k n b hn, chgL_done]
        simp
    · have hl := h
      simp only [apsL, List.length_append, List.length_map] at hl
      have hs : k.size ≤ n := by rw [← aps_len]; omega
      obtain ⟨j, p, e1, e2, e3⟩ := chgL_put ks (m + 1) (n - k.size) b (by rw [aps_len] at hl; omega)
      refine ⟨j + 1, p, ?_, by simpa using e2, ?_⟩
      · simp only [apsL]
        rw [List.getElem_append_right (by simp; omega)]
        simp only [List.length_map, aps_len]
        rw [e1, show m + 1 + j = m + (j + 1) by omega]
      · rw [chgL, if_pos (by omega), chg_past k n b hs]
        simp only
        rw [show (n : Int) - k.size = ((n - k.size : Nat) : Int) by omega, e3]
        simp
end

end Go.Proofs.Ytbnpemgmdnghgaa
namespace Go.Proofs.Ytbnpemgmdnghgaa
open Go.RowKit

theorem treeBox {w0 : World} {t : Tree} {v : Value} (hv : Rd AnyB w0 (.sl (t.kids.map Tree.d)) [v]) : ∃ a n cap, v = .slice a n cap := by
  obtain ⟨a, cap, rfl, _⟩ := hv.form; exact ⟨a, _, cap, rfl⟩

def SizeI (w0 : World) (nb : Nat) (s : List Tree) (S : Nat → Prop) (W : World) : Prop :=
  Below w0.heap.size w0 W ∧ w0.heap.size ≤ nb ∧ W.heap[nb]? = some (.cells #[.int .i64 s.length] 3 (0, 0)) ∧ ∀ k, S k ↔ k = nb

set_option maxHeartbeats 400000 in
theorem sizeF (w0 : World) (nb N : Nat) (hN : N ≤ 4611686018427387904) : NodeFn 44 #[.pointer (some ⟨nb, 0, none⟩)] w0 (fun _ => true) N (SizeI w0 nb) where
  below := fun h => h.1
  own := fun {s S W} h k hk => by
    obtain ⟨h1, h2, h3, h4⟩ := h
    rw [h4] at hk
    subst hk
    exact ⟨h2, (Array.getElem?_eq_some_iff.1 h3).1⟩
  keep := fun {s S W W'} h hb => ⟨h.1.trans (hb.mono h.1.size), h.2.1, bx_keep h.2.2.1 hb, h.2.2.2⟩
  call := by
    intro s S W t v h hv hs
    obtain ⟨a, n, cap, rfl⟩ := treeBox hv
    obtain ⟨h1, h2, h3, h4⟩ := h
    have H1 := Lib.hid h1
    have H3 := Lib.hid h3
    have H4 := Lib.hid h4
    have c0 := bx_cells1 h3
    have f0 := bx_free1 h3
    have hlt := (Array.getElem?_eq_some_iff.1 h3).1
    obtain ⟨m, HM⟩ := nameIt s.length
    rw [HM.out] at c0 hs
    clear h1 h3 h4 hv
    go_enter Try.func44, Try.ntmps44
    go_wp2
    go_ret
    obtain ⟨W', HW⟩ := nameIt (W.setCell ⟨nb, 0, none⟩ (.int .i64 (m + 1)))
    rw [HW.out]
    have hb := (Below.refl W'.heap.size W').alloc (Nat.le_refl _) (.cells #[.int .i64 t.rule, .int .i64 t.term, .slice a n cap] 42)
    have h3 := bx_set H3.out 0 (.int .i64 (m + 1))
    have h1 := H1.out.setCell (p := ⟨nb, 0, none⟩) h2 (.int .i64 (m + 1))
    rw [HW.out] at h3 h1
    refine ⟨S, rfl, ⟨h1.trans (hb.mono h1.size), h2, ?_, H4.out⟩, ?_, fun k h => .inl h⟩
    · rw [bx_keep h3 hb]; simp [HM.out]
    · have hk : Keeps S W W' := by
        rw [← HW.out]
        exact ⟨rfl, rfl, rfl, by simp [World.setCell], fun k hk hn => Below.heap_setCell _ _ _ _ (fun e => hn ((H4.out k).2 e))⟩
      exact hk.trans (Below.keeps (S := S) hb) (fun k h => .inl h)

set_option maxHeartbeats 400000 in
theorem sizeE (t : Tree) (v : Value) (w : World) (hv : Rd AnyB w (.sl (t.kids.map Tree.d)) [v]) (hN : (nodes t).length ≤ 4611686018427387904) :
    Calls Try.prog 22 #[.agg #[.int .i64 t.rule, .int .i64 t.term, v]] w fun e w' => e = .returned (.int .i64 (nodes t).length) ∧ Below w.heap.size w w' := by
  obtain ⟨a, n, cap, rfl⟩ := treeBox hv
  have HV := Lib.hid hv
  have hI : SizeI w (w.heap.size + 1) [] (fun k => k = w.heap.size + 1) ((w.alloc (.cells #[.int .i64 t.rule, .int .i64 t.term, .slice a n cap] 42)).alloc (.cells #[.int .i64 0] 3)) :=
    ⟨((Below.refl _ _).alloc (Nat.le_refl _) _).alloc (by simp) _, by omega, bx_new _ _ _ (by simp), fun _ => Iff.rfl⟩
  have hw := walkE 44 #[.pointer (some ⟨w.heap.size + 1, 0, none⟩)] w (fun _ => true) (nodes t).length _ (fun _ _ => by kernel_rfl) (sizeF w (w.heap.size + 1) (nodes t).length hN) (nodes t).length t _ [] _ _ (Nat.le_refl _) hI hv (by simp)
  have HW := Lib.hid hw
  clear hw hI hv hN
  go_enter Try.func22, Try.ntmps22
  go_wp2_with fail
  refine HW.out.mono ?_
  rintro e w1 ⟨S', rfl, ⟨h1, h2, h3, h4⟩, h5, h6⟩
  rw [upTo_all (by simp)] at h3
  simp only [List.nil_append] at h3
  have c0 := bx_cells1 h3
  have HB := Lib.hid h1
  clear h1 h2 h3 h4 h5 h6
  go_wp2
  go_ret
  exact ⟨rfl, HB.out⟩
end Go.Proofs.Ytbnpemgmdnghgaa
namespace Go.Proofs.Ytbnpemgmdnghgaa
open Go.RowKit

/-- a row of trees of the call's own, whose subtrees lie where they lay at first -/
def RowT (w : World) (B : Nat) (v : Value) (ts : List Tree) (wr : World) : Prop := ∃ xs, wr.ownsRow B 42 3 v ts.length xs ∧ RdAll AnyB w (ts.map Tree.d) xs
theorem RowT.form {w : World} {B : Nat} {v : Value} {ts : List Tree} {wr : World} (h : RowT w B v ts wr) : ∃ a cap, v = .slice a ts.length cap ∧ ts.length ≤ cap ∧ cap ≤ maxLen := by
  obtain ⟨xs, h1, _⟩ := h; exact own_len h1
theorem RowT.lt {w : World} {B : Nat} {v : Value} {ts : List Tree} {wr : World} (h : RowT w B v ts wr) : ∀ k, v.ownBlock = some k → B ≤ k ∧ k < wr.heap.size := by
  obtain ⟨xs, h1, _⟩ := h; exact h1.lt
theorem RowT.keep {w : World} {B : Nat} {v : Value} {ts : List Tree} {wr w' : World} (h : RowT w B v ts wr) (hb : Below wr.heap.size wr w') : RowT w B v ts w' := by
  obtain ⟨xs, h1, h2⟩ := h; exact ⟨xs, own_keep h1 hb, h2⟩
theorem RowT.kept {w : World} {B : Nat} {v : Value} {ts : List Tree} {wr w' : World} {row : Option Nat} (h : RowT w B v ts wr) (hg : wr.grownBy w' row) (hne : ∀ k, v.ownBlock = some k → row ≠ some k) : RowT w B v ts w' := by
  obtain ⟨xs, h1, h2⟩ := h
  refine ⟨xs, h1.kept hg ?_, h2⟩
  cases e : v.ownBlock with
  | none => exact .inl rfl
  | some k => exact .inr fun h => hne k e h.symm
theorem RowT.rd {w : World} {B : Nat} {v : Value} {ts : List Tree} {wr : World} (h : RowT w B v ts wr) (hb : Below w.heap.size w wr) : Rd AnyB wr (.sl (ts.map Tree.d)) [v] := by
  obtain ⟨xs, h1, h2⟩ := h
  exact rd_of_own h1 (h2.below hb) (by simp) (fun _ _ => trivial)
theorem RowT.step {w : World} {B : Nat} {v' u : Value} {ts : List Tree} {t : Tree} {w' : World} {xs : List Value} {n : Nat} (hn : ts.length = n) (hd : RdAll AnyB w (ts.map Tree.d) xs) (hk : Rd AnyB w (.sl (t.kids.map Tree.d)) [u])
    (ho : w'.ownsRow B 42 3 v' (n + 1) (xs ++ [.int .i64 t.rule, .int .i64 t.term, u])) : RowT w B v' (ts ++ [t]) w' :=
  ⟨_, by rw [List.length_append, hn]; exact ho, by rw [List.map_append]; exact RdAll.append hd (RdAll.one (rd_tree hk))⟩
theorem RowT.pop {w : World} {B g cap n : Nat} {ts : List Tree} {t : Tree} {wr : World} (hn : ts.length = n) (h : RowT w B (.slice (some ⟨g, 0, none⟩) (n + 1) cap) (ts ++ [t]) wr) : RowT w B (.slice (some ⟨g, 0, none⟩) n cap) ts wr := by
  obtain ⟨xs, h1, h2⟩ := h
  rw [List.map_append] at h2
  obtain ⟨c1, c2, rfl, h3, h4⟩ := h2.split
  refine ⟨c1, ?_, h3⟩
  rw [List.length_append, hn] at h1
  rw [hn]
  exact ownsRow_pop (by rw [RdAll.len _ _ h3, cellsAll_eq (trees_cells ts)]; simp [hn]) h1

theorem RowT.block {w : World} {B n : Nat} {v : Value} {ts : List Tree} {wr : World} (h : RowT w B v ts wr) (hn : ts.length = n + 1) : ∃ g cap, v = .slice (some ⟨g, 0, none⟩) (n + 1) cap ∧ n + 1 ≤ cap ∧ cap ≤ maxLen ∧ B ≤ g ∧ g < wr.heap.size := by
  obtain ⟨xs, h1, h2⟩ := h
  have hlt := h1.lt
  rcases h1.2 with ⟨_, h0⟩ | ⟨g, cap, cur, hv, hg, hh, hn', hc, _⟩
  · omega
  · rw [hn] at hv hn'
    subst hv
    exact ⟨g, cap, rfl, hn', hc, (hlt g rfl).1, (hlt g rfl).2⟩

/-- the state of the loops -/
structure NodesRel (w : World) (st out : List Tree) (vt vo : Value) (wr : World) : Prop where
  ot : RowT w w.heap.size vt st wr
  oo : RowT w w.heap.size vo out wr
  ne : ∀ k, vt.ownBlock = some k → vo.ownBlock ≠ some k
  bel : Below w.heap.size w wr

structure InnerRel (w : World) (st out : List Tree) (vt vo : Value) (bx : Nat) (cs : Array Value) (wr : World) : Prop where
  rel : NodesRel w st out vt vo wr
  box : wr.heap[bx]? = some (.cells cs 42 (0, 0))
  apart : vt.ownBlock ≠ some bx
end Go.Proofs.Ytbnpemgmdnghgaa
namespace Go.Proofs.Ytbnpemgmdnghgaa
open Go.RowKit

def TreesPost (S : Nat → Prop) (l : List Tree) (w : World) (e : Ending) (w' : World) : Prop := ∃ v, e = .returned v ∧ Rd (fun k => S k ∨ w.heap.size ≤ k) w' (.sl (l.map Tree.d)) [v] ∧ Below w.heap.size w w'

end Go.Proofs.Ytbnpemgmdnghgaa
namespace Go.Proofs.Ytbnpemgmdnghgaa
open Go.RowKit

/-- the rest of a slice of data without its first -/
theorem Rd.tail {S : Nat → Prop} {w : World} {ds : List D} {b off n cap k : Nat} (h : Rd S w (.sl ds) [.slice (some ⟨b, off, none⟩) n cap]) (hk : ∀ d ∈ ds, d.cells = k) (hn : 1 ≤ n) :
    Rd S w (.sl (ds.drop 1)) [.slice (some ⟨b, if cap = 1 then off else off + k, none⟩) (n - 1) (cap - 1)] := by
  obtain ⟨a', cap', L, e, h1, h2, h3, h4, h5⟩ := h
  simp at e
  obtain ⟨rfl, rfl, rfl⟩ := e
  cases ds with
  | nil => simp at hn
  | cons d ds =>
    obtain ⟨c1, c2, rfl, h6, h7⟩ := h5
    have hl : c1.length = k := by rw [Rd.len d c1 h6]; exact hk d List.mem_cons_self
    simp only [List.drop_succ_cons, List.drop_zero, List.length_cons] at *
    refine ⟨_, cap - 1, c2, rfl, by omega, by omega, (fun h => by cases h), fun i hi => ⟨_, rfl, ?_, ?_⟩, h7⟩
    · obtain ⟨x, hx, hS, _⟩ := h4 (c1.length + i) (by simp; omega)
      cases hx
      exact hS
    · obtain ⟨x, hx, _, hc⟩ := h4 (c1.length + i) (by simp; omega)
      cases hx
      rw [add_at] at hc ⊢
      have hc1 : ¬ cap = 1 := by
        intro e
        have : ds = [] := List.eq_nil_of_length_eq_zero (by omega)
        subst this
        simp [RdAll] at h7
        subst h7
        simp at hi
      rw [if_neg hc1, Nat.add_assoc, ← hl, hc]
      simp

/-- the inner loop's state: vo: the row when it began, in w3 -/
structure InR (Q : Nat → Prop) (B : Nat) (w3 : World) (vo : Value) (ds : List D) (v : Value) (wr : World) : Prop where
  row : RowD Q B 42 3 ds v wr
  gr : w3.grownBy wr vo.ownBlock
  at' : v.ownBlock = vo.ownBlock ∨ ∃ k, v.ownBlock = some k ∧ w3.heap.size ≤ k
theorem InR.start {Q : Nat → Prop} {B : Nat} {w3 : World} {vo : Value} {ds : List D} (h : RowD Q B 42 3 ds vo w3) : InR Q B w3 vo ds vo w3 := ⟨h, ⟨rfl, rfl, rfl, Nat.le_refl _, fun _ _ _ => rfl⟩, .inl rfl⟩
theorem InR.keep {Q : Nat → Prop} {B : Nat} {w3 : World} {vo : Value} {ds : List D} {v : Value} {wr w' : World} (h : InR Q B w3 vo ds v wr) (hb : Below wr.heap.size wr w') : InR Q B w3 vo ds v w' :=
  ⟨h.row.keep hb, grown_trans h.gr (grown_below hb _), h.at'⟩
/-- what is read beside the row -/
theorem InR.rd {Q : Nat → Prop} {B : Nat} {w3 : World} {vo : Value} {ds : List D} {v : Value} {wr : World} (h : InR Q B w3 vo ds v wr) {d : D} {cs : List Value} (hd : Rd (fun k => vo.ownBlock ≠ some k) w3 d cs) : Rd (fun k => k < wr.heap.size ∧ v.ownBlock ≠ some k) wr d cs := by
  refine Rd.keep (fun k hk hlt => ⟨⟨Nat.lt_of_lt_of_le hlt h.gr.size, fun e => ?_⟩, h.gr.block k hlt (fun e => hk e.symm)⟩) _ _ hd
  rcases h.at' with h2 | ⟨j, h2, hj⟩
  · rw [h2] at e; exact hk e
  · rw [h2] at e; cases e; omega
theorem InR.block {Q : Nat → Prop} {B : Nat} {w3 : World} {vo : Value} {ds : List D} {v : Value} {wr : World} (h : InR Q B w3 vo ds v wr) {b : Nat} {o : Obj} (hb : w3.heap[b]? = some o) (hne : vo.ownBlock ≠ some b) : wr.heap[b]? = some o := by
  rw [h.gr.block b (Array.getElem?_eq_some_iff.1 hb).1 (fun e => hne e.symm)]; exact hb
theorem InR.below {Q : Nat → Prop} {B : Nat} {w1 w3 : World} {vo : Value} {ds : List D} {v : Value} {wr : World} (h : InR Q B w3 vo ds v wr) (hb : Below B w1 w3) (hB : B ≤ w3.heap.size) (hvo : ∀ k, vo.ownBlock = some k → B ≤ k) : Below B w1 wr := hb.grown h.gr hB hvo
theorem InR.step {Q : Nat → Prop} {B : Nat} {w3 : World} {vo : Value} {ds : List D} {v v' : Value} {W0 W1 : World} {xs : List Value} {n : Nat} {T : Nat → Prop} {t : Tree} {u : Value} (h : InR Q B w3 vo ds v W0) (ho : W0.ownsRow B 42 3 v n xs) (hd : RdAll (fun k => Q k ∧ v.ownBlock ≠ some k) W0 ds xs) (hn : n = ds.length)
    (hr : Rd T W0 (.sl (t.kids.map Tree.d)) [u]) (hT : ∀ k, T k → Q k ∧ v.ownBlock ≠ some k)
    (ho' : W1.ownsRow B 42 3 v' (n + 1) (xs ++ [.int .i64 t.rule, .int .i64 t.term, u])) (hg : W0.grownBy W1 v.ownBlock) (hat : v'.ownBlock = v.ownBlock ∨ ∃ k, v'.ownBlock = some k ∧ W0.heap.size ≤ k) : InR Q B w3 vo (ds ++ [t.d]) v' W1 := by
  refine ⟨RowD.step (es := [t.d]) ho hd hn (RdAll.one (rd_tree hr)) (fun k hk _ => hT k hk) h.row.le ho' hg hat, ?_, ?_⟩
  · refine ⟨hg.os.trans h.gr.os, hg.tape.trans h.gr.tape, hg.output.trans h.gr.output, Nat.le_trans h.gr.size hg.size, fun k hk hne => ?_⟩
    rw [hg.block k (Nat.lt_of_lt_of_le hk h.gr.size) ?_, h.gr.block k hk hne]
    intro e
    rcases h.at' with h2 | ⟨j, h2, hj⟩
    · exact hne (by rw [e, h2])
    · rw [h2] at e; cases e; omega
  · have := h.gr.size
    rcases hat with h2 | ⟨j, h2, hj⟩
    · rw [h2]; exact h.at'
    · exact .inr ⟨j, h2, by omega⟩
end Go.Proofs.Ytbnpemgmdnghgaa
namespace Go.Proofs.Ytbnpemgmdnghgaa
open Go.RowKit

/-- a world behind w0: what was there is as it was -/
structure Aft (w0 : World) where
  w : World
  bel : Below w0.heap.size w0 w
instance (w0 : World) : Nonempty (Aft w0) := ⟨⟨w0, Below.refl _ _⟩⟩
theorem aft_cell {w0 : World} {p : Addr} {v : Value} (h : w0.cell? p = some v) : ∀ x : Aft w0, x.w.cell? p = some v := fun x => (x.bel.cell (lt_of_cell h)).trans h
theorem wp_region_after {P : Program} {id : Nat} {Q : Exit → Act → World → Prop} {a : Act} {w0 : World} {l : List Oper} (hm : P.follows .mixedOrders = true) (hB : Region.lexB .any l.toArray = true)
    (h : wpQuiet P l.toArray (fun w' => ∃ x : Aft w0, w' = x.w) (fun a' => ∀ w', (∃ x : Aft w0, w' = x.w) → Q .normal a' w') l a) : (Code.region id l.toArray true).wp P Q a w0 :=
  wp_region_quiet (C := fun w' => ∃ x : Aft w0, w' = x.w) hm hB ⟨⟨_, (Below.refl _ w0).drew⟩, rfl⟩ (by simpa using h)
theorem Calls.after {P : Program} {f : FuncId} {args : Array Value} {w0 : World} {x : Aft w0} {v : Value} (h : Calls P f args x.w fun e w' => e = .returned v ∧ Below x.w.heap.size x.w w') :
    Calls P f args x.w fun e w'' => e = .returned v ∧ ∃ y : Aft w0, w'' = y.w :=
  h.mono fun _ w'' ⟨he, hb⟩ => ⟨he, ⟨w'', x.bel.trans (hb.mono x.bel.size)⟩, rfl⟩
end Go.Proofs.Ytbnpemgmdnghgaa
namespace Go.Proofs.Ytbnpemgmdnghgaa
open Go.RowKit

def idxG {α : Type} (p : α → Bool) (l : List α) : Int := if l.any p then (l.findIdx p : Int) else -1
theorem idxG_hit {α : Type} {p : α → Bool} {l : List α} {i : Nat} (hi : i < l.length) (h : p l[i] = true) (hn : ∀ j (h : j < l.length), j < i → p l[j] = false) : idxG p l = i := by
  have h1 : l.any p = true := List.any_eq_true.2 ⟨l[i], List.getElem_mem hi, h⟩
  rw [idxG, if_pos h1]
  have : l.findIdx p = i := by
    rw [List.findIdx_eq hi]
    exact ⟨h, fun j hj => by simp [hn j (by omega) hj]⟩
  rw [this]
theorem idxG_none {α : Type} {p : α → Bool} {l : List α} (hn : ∀ j (h : j < l.length), p l[j] = false) : idxG p l = -1 := by
  have h1 : l.any p = false := by
    rw [List.any_eq_false]
    intro x hx
    obtain ⟨j, hj, rfl⟩ := List.getElem_of_mem hx
    simp [hn j hj]
  rw [idxG, if_neg (by simp [h1])]
theorem idxG_ge {α : Type} (p : α → Bool) (l : List α) : decide (0 ≤ idxG p l) = l.any p := by
  unfold idxG
  cases h : l.any p <;> simp [h]

def PredSym (g : Nat) (lb : Array Value) (l : List Sym) (p : Sym → Bool) (w : World) : Prop :=
  ∀ (W : World) (x : Sym), x ∈ l → Below w.heap.size w W → Calls Try.prog g (#[.agg #[.bool x.term, .int .i64 x.n]] ++ lb) W fun e w' => e = .returned (.bool (p x)) ∧ Below W.heap.size W w'
def PredRule (g : Nat) (lb : Array Value) (l : List Rule) (p : Rule → Bool) (w : World) : Prop :=
  ∀ (W : World) (x : Rule) (v : Value), x ∈ l → Below w.heap.size w W → Rd AnyB W (.sl (x.right.map Sym.d)) [v] → Calls Try.prog g (#[.agg #[.int .i64 x.left, v]] ++ lb) W fun e w' => e = .returned (.bool (p x)) ∧ Below W.heap.size W w'

set_option maxHeartbeats 1000000 in
theorem indexFuncSym (g : Nat) (lb : Array Value) (p : Sym → Bool) (a : Option Addr) (cap : Nat) (l : List Sym) (w : World) (eg : ∀ args w, (callFunc g args).run Try.prog w = .ok (.enter g args) w)
    (hf : PredSym g lb l p w) (hl : Rd AnyB w (.sl (l.map Sym.d)) [.slice a l.length cap]) :
    Calls Try.prog 79 #[.slice a l.length cap, .func (.func g) #[] lb] w fun e w' => e = .returned (.int .i64 (idxG p l)) ∧ Below w.heap.size w w' := by
  have HL := Lib.hid hl
  have HF := Lib.hid hf
  have hc := hl.bounds.2
  unfold maxLen at hc
  obtain ⟨hc1, hc2⟩ := hc
  clear hl hf
  go_enter Try.func79, Try.ntmps79
  go_wp2
  go_loopg [8] l.length (fun gg v8 wr => ∃ i : Nat, i ≤ l.length ∧ l.length - i ≤ gg ∧ v8 = .int .i64 i ∧ Hid (Below w.heap.size w wr) ∧ Hid (∀ j (h : j < l.length), j < i → p l[j] = false))
  case atStart => exact ⟨0, by omega, by omega, rfl, Below.refl _ _, fun j _ hj => by omega⟩
  case round =>
    obtain ⟨i, hi, hg, rfl, HB, HN⟩ := hrel
    by_cases hlt : i < l.length
    · have hlt' : (i : Int) < (l.length : Int) := by omega
      obtain ⟨b, off, hae, -, -, c0, c1⟩ := (HL.out.below HB.out).sym_at hlt
      obtain ⟨x, HX⟩ := nameIt (l[i]'hlt)
      rw [HX.out] at c0 c1
      have hcall := HF.out wr x (by rw [← HX.out]; exact List.getElem_mem hlt) HB.out
      obtain ⟨q0, HQ0⟩ := nameIt x.term
      obtain ⟨q1, HQ1⟩ := nameIt x.n
      rw [HQ0.out] at c0 hcall
      rw [HQ1.out] at c1 hcall
      have HC := Lib.hid hcall
      clear hcall
      subst hae
      go_wp2_with fail
      refine HC.out.mono ?_
      rintro e w6 ⟨rfl, hb6⟩
      have HB6 := Lib.hid (HB.out.trans (hb6.mono HB.out.size))
      clear hb6 c0 c1
      cases hp : p x with
      | true =>
        have HE : Hid (idxG p l = i) := idxG_hit hlt (by rw [HX.out]; exact hp) HN.out
        clear hp
        go_wp2
        go_ret
        exact ⟨by rw [HE.out]; rfl, HB6.out⟩
      | false =>
        have HN2 : Hid (∀ j (h : j < l.length), j < i + 1 → p l[j] = false) := by
          intro j h hj
          by_cases e : j = i
          · subst e; rw [HX.out]; exact hp
          · exact HN.out j h (by omega)
        clear hp
        go_wp2
        go_roundg (l.length - (i + 1))
        case measure => omega
        case rel => exact ⟨i + 1, by omega, by omega, by go_num, HB6, HN2⟩
    · have hlt' : ¬ (i : Int) < (l.length : Int) := by omega
      have HE : Hid (idxG p l = -1) := idxG_none fun j hj => HN.out j hj (by omega)
      go_wp2
      go_ret
      exact ⟨by rw [HE.out]; rfl, HB.out⟩

set_option maxHeartbeats 1000000 in
theorem containsFuncSym (g : Nat) (lb : Array Value) (p : Sym → Bool) (a : Option Addr) (cap : Nat) (l : List Sym) (w : World) (eg : ∀ args w, (callFunc g args).run Try.prog w = .ok (.enter g args) w)
    (hf : PredSym g lb l p w) (hl : Rd AnyB w (.sl (l.map Sym.d)) [.slice a l.length cap]) :
    Calls Try.prog 60 #[.slice a l.length cap, .func (.func g) #[] lb] w fun e w' => e = .returned (.bool (l.any p)) ∧ Below w.heap.size w w' := by
  have HL := Lib.hid hl
  have HF := Lib.hid hf
  have HG := Lib.hid eg
  clear hl hf eg
  go_enter Try.func60, Try.ntmps60
  go_wp2_with fail
  refine (indexFuncSym g lb p a cap l w HG.out HF.out HL.out).mono ?_
  rintro e w1 ⟨rfl, hb⟩
  have HB := Lib.hid hb
  clear hb
  go_wp2
  go_ret
  exact ⟨by rw [idxG_ge]; rfl, HB.out⟩

set_option maxHeartbeats 1000000 in
theorem indexFuncRule (g : Nat) (lb : Array Value) (p : Rule → Bool) (a : Option Addr) (cap : Nat) (l : List Rule) (w : World) (eg : ∀ args w, (callFunc g args).run Try.prog w = .ok (.enter g args) w)
    (hf : PredRule g lb l p w) (hl : Rd AnyB w (.sl (l.map Rule.d)) [.slice a l.length cap]) :
    Calls Try.prog 80 #[.slice a l.length cap, .func (.func g) #[] lb] w fun e w' => e = .returned (.int .i64 (idxG p l)) ∧ Below w.heap.size w w' := by
  have HL := Lib.hid hl
  have HF := Lib.hid hf
  have hc := hl.bounds.2
  unfold maxLen at hc
  obtain ⟨hc1, hc2⟩ := hc
  clear hl hf
  go_enter Try.func80, Try.ntmps80
  go_wp2
  go_loopg [8] l.length (fun gg v8 wr => ∃ i : Nat, i ≤ l.length ∧ l.length - i ≤ gg ∧ v8 = .int .i64 i ∧ Hid (Below w.heap.size w wr) ∧ Hid (∀ j (h : j < l.length), j < i → p l[j] = false))
  case atStart => exact ⟨0, by omega, by omega, rfl, Below.refl _ _, fun j _ hj => by omega⟩
  case round =>
    obtain ⟨i, hi, hg, rfl, HB, HN⟩ := hrel
    by_cases hlt : i < l.length
    · have hlt' : (i : Int) < (l.length : Int) := by omega
      obtain ⟨b, off, vr, hae, -, -, c0, c1, hkr⟩ := (HL.out.below HB.out).rule_at hlt
      obtain ⟨ar, cr, rfl, -, -⟩ := hkr.form
      rw [List.length_map] at c1 hkr
      obtain ⟨x, HX⟩ := nameIt (l[i]'hlt)
      rw [HX.out] at c0 c1 hkr
      have hcall := HF.out wr x _ (by rw [← HX.out]; exact List.getElem_mem hlt) HB.out hkr
      obtain ⟨q0, HQ0⟩ := nameIt x.left
      obtain ⟨q1, HQ1⟩ := nameIt x.right.length
      rw [HQ0.out] at c0 hcall
      rw [HQ1.out] at c1 hcall
      have HC := Lib.hid hcall
      clear hcall hkr
      subst hae
      go_wp2_with fail
      refine HC.out.mono ?_
      rintro e w6 ⟨rfl, hb6⟩
      have HB6 := Lib.hid (HB.out.trans (hb6.mono HB.out.size))
      clear hb6 c0 c1
      cases hp : p x with
      | true =>
        have HE : Hid (idxG p l = i) := idxG_hit hlt (by rw [HX.out]; exact hp) HN.out
        clear hp
        go_wp2
        go_ret
        exact ⟨by rw [HE.out]; rfl, HB6.out⟩
      | false =>
        have HN2 : Hid (∀ j (h : j < l.length), j < i + 1 → p l[j] = false) := by
          intro j h hj
          by_cases e : j = i
          · subst e; rw [HX.out]; exact hp
          · exact HN.out j h (by omega)
        clear hp
        go_wp2
        go_roundg (l.length - (i + 1))
        case measure => omega
        case rel => exact ⟨i + 1, by omega, by omega, by go_num, HB6, HN2⟩
    · have hlt' : ¬ (i : Int) < (l.length : Int) := by omega
      have HE : Hid (idxG p l = -1) := idxG_none fun j hj => HN.out j hj (by omega)
      go_wp2
      go_ret
      exact ⟨by rw [HE.out]; rfl, HB.out⟩

set_option maxHeartbeats 1000000 in
theorem containsFuncRule (g : Nat) (lb : Array Value) (p : Rule → Bool) (a : Option Addr) (cap : Nat) (l : List Rule) (w : World) (eg : ∀ args w, (callFunc g args).run Try.prog w = .ok (.enter g args) w)
    (hf : PredRule g lb l p w) (hl : Rd AnyB w (.sl (l.map Rule.d)) [.slice a l.length cap]) :
    Calls Try.prog 63 #[.slice a l.length cap, .func (.func g) #[] lb] w fun e w' => e = .returned (.bool (l.any p)) ∧ Below w.heap.size w w' := by
  have HL := Lib.hid hl
  have HF := Lib.hid hf
  have HG := Lib.hid eg
  clear hl hf eg
  go_enter Try.func63, Try.ntmps63
  go_wp2_with fail
  refine (indexFuncRule g lb p a cap l w HG.out HF.out HL.out).mono ?_
  rintro e w1 ⟨rfl, hb⟩
  have HB := Lib.hid hb
  clear hb
  go_wp2
  go_ret
  exact ⟨by rw [idxG_ge]; rfl, HB.out⟩

set_option maxHeartbeats 1000000 in
theorem orderS (x y : Sym) (w : World) : Calls Try.prog 82 #[.agg #[.bool x.term, .int .i64 x.n], .agg #[.bool y.term, .int .i64 y.n]] w fun e w' => e = .returned (.int .i64 (ordS x y)) ∧ Below w.heap.size w w' := by
  obtain ⟨x0, x1⟩ := x
  obtain ⟨y0, y1⟩ := y
  dsimp only
  cases x0 <;> cases y0
  · have HC := Lib.hid (fun W => compareInt x1 y1 W)
    have HO : Hid (ordS ⟨false, x1⟩ ⟨false, y1⟩ = cmp3 x1 y1) := by show _ = _; simp [ordS]
    go_enter Try.func82, Try.ntmps82
    go_wp2_with fail
    refine (HC.out _).mono ?_
    rintro e w' ⟨rfl, rfl⟩
    go_wp2_with fail
    go_ret
    exact ⟨by rw [HO.out]; rfl, ((Below.refl _ _).alloc (Nat.le_refl _) _).alloc (by simp) _⟩
  · have HO : Hid (ordS ⟨false, x1⟩ ⟨true, y1⟩ = 1) := by show _ = _; simp [ordS]
    go_enter Try.func82, Try.ntmps82
    go_wp2_with fail
    go_ret
    exact ⟨by rw [HO.out]; rfl, ((Below.refl _ _).alloc (Nat.le_refl _) _).alloc (by simp) _⟩
  · have HO : Hid (ordS ⟨true, x1⟩ ⟨false, y1⟩ = -1) := by show _ = _; simp [ordS]
    go_enter Try.func82, Try.ntmps82
    go_wp2_with fail
    go_ret
    exact ⟨by rw [HO.out]; rfl, ((Below.refl _ _).alloc (Nat.le_refl _) _).alloc (by simp) _⟩
  · have HC := Lib.hid (fun W => compareInt x1 y1 W)
    have HO : Hid (ordS ⟨true, x1⟩ ⟨true, y1⟩ = cmp3 x1 y1) := by show _ = _; simp [ordS]
    go_enter Try.func82, Try.ntmps82
    go_wp2_with fail
    refine (HC.out _).mono ?_
    rintro e w' ⟨rfl, rfl⟩
    go_wp2_with fail
    go_ret
    exact ⟨by rw [HO.out]; rfl, ((Below.refl _ _).alloc (Nat.le_refl _) _).alloc (by simp) _⟩

theorem cmpS_at {l m : List Sym} {i : Nat} (h : i < l.length) (h2 : i < m.length) : cmpS (l.drop i) (m.drop i) = if ordS l[i] m[i] = 0 then cmpS (l.drop (i + 1)) (m.drop (i + 1)) else ordS l[i] m[i] := by
  rw [List.drop_eq_getElem_cons h, List.drop_eq_getElem_cons h2, cmpS]
theorem cmpS_long {l m : List Sym} {i : Nat} (h : i < l.length) (h2 : m.length ≤ i) : cmpS (l.drop i) (m.drop i) = 1 := by
  rw [List.drop_eq_getElem_cons h, List.drop_of_length_le h2, cmpS]
theorem cmpS_short {l m : List Sym} {i : Nat} (h : l.length ≤ i) (h2 : i < m.length) : cmpS (l.drop i) (m.drop i) = -1 := by
  rw [List.drop_eq_getElem_cons h2, List.drop_of_length_le h, cmpS]
theorem cmpS_end {l m : List Sym} {i : Nat} (h : l.length ≤ i) (h2 : m.length ≤ i) : cmpS (l.drop i) (m.drop i) = 0 := by
  rw [List.drop_of_length_le h2, List.drop_of_length_le h, cmpS]

set_option maxHeartbeats 1000000 in
theorem compareSyms (a a' : Option Addr) (cap cap' : Nat) (l m : List Sym) (w : World) (hl : Rd AnyB w (.sl (l.map Sym.d)) [.slice a l.length cap]) (hm : Rd AnyB w (.sl (m.map Sym.d)) [.slice a' m.length cap']) :
    Calls Try.prog 81 #[.slice a l.length cap, .slice a' m.length cap', .func (.func 82) #[] #[]] w fun e w' => e = .returned (.int .i64 (cmpS l m)) ∧ Below w.heap.size w w' := by
  have HL := Lib.hid hl
  have HM := Lib.hid hm
  have hc := hl.bounds.2
  have hc' := hm.bounds.2
  unfold maxLen at hc hc'
  obtain ⟨hc1, hc2⟩ := hc
  obtain ⟨hc3, hc4⟩ := hc'
  clear hl hm
  go_enter Try.func81, Try.ntmps81
  go_wp2_with fail
  go_loopg [13] l.length (fun gg v13 wr => ∃ i : Nat, i ≤ l.length ∧ l.length - i ≤ gg ∧ v13 = .int .i64 i ∧ Hid (Below w.heap.size w wr) ∧ Hid (cmpS (l.drop i) (m.drop i) = cmpS l m))
  case atStart => exact ⟨0, by omega, by omega, rfl, Below.refl _ _, rfl⟩
  case round =>
    obtain ⟨i, hi, hg, rfl, HB, HE⟩ := hrel
    by_cases hlt : i < l.length
    · have hlt' : (i : Int) < (l.length : Int) := by omega
      obtain ⟨b, off, hae, -, -, c0, c1⟩ := (HL.out.below HB.out).sym_at hlt
      by_cases hlt2 : i < m.length
      · have hlt2' : (i : Int) < (m.length : Int) := by omega
        obtain ⟨b', off', hae', -, -, d0, d1⟩ := (HM.out.below HB.out).sym_at hlt2
        have h1 := HE.out
        rw [cmpS_at hlt hlt2] at h1
        obtain ⟨x, HX⟩ := nameIt (l[i]'hlt)
        obtain ⟨y, HY⟩ := nameIt (m[i]'hlt2)
        rw [HX.out] at c0 c1 h1
        rw [HY.out] at d0 d1 h1
        have hcall := fun W => orderS x y W
        obtain ⟨c, HC⟩ := nameIt (ordS x y)
        obtain ⟨q0, HQ0⟩ := nameIt x.term
        obtain ⟨q1, HQ1⟩ := nameIt x.n
        obtain ⟨p0, HP0⟩ := nameIt y.term
        obtain ⟨p1, HP1⟩ := nameIt y.n
        rw [HC.out] at h1 hcall
        rw [HQ0.out] at c0 hcall
        rw [HQ1.out] at c1 hcall
        rw [HP0.out] at d0 hcall
        rw [HP1.out] at d1 hcall
        have H1 := Lib.hid h1
        have HCA := Lib.hid hcall
        have hne := lt_of_cell d0
        subst hae hae'
        clear h1 hcall
        have hbb := ((Below.refl wr.heap.size wr).alloc (Nat.le_refl _) (.cells #[.bool q0, .int .i64 q1] 65)).alloc (by simp) (.cells #[.bool p0, .int .i64 p1] 65)
        have HBB := Lib.hid (HB.out.trans (hbb.mono HB.out.size))
        clear hbb
        go_wp2_with fail
        refine (HCA.out _).mono ?_
        rintro e w6 ⟨rfl, hb6⟩
        have HB6 := Lib.hid (HBB.out.trans (hb6.mono HBB.out.size))
        clear hb6 c0 c1 d0 d1
        by_cases h0 : c = 0
        · subst h0
          have h2 := H1.out
          rw [if_pos rfl] at h2
          have HE2 := Lib.hid h2
          clear h2
          go_wp2_with fail
          go_roundg (l.length - (i + 1))
          case measure => omega
          case rel => exact ⟨i + 1, by omega, by omega, by go_num, HB6, HE2⟩
        · have h2 := H1.out
          rw [if_neg h0] at h2
          have HE2 := Lib.hid h2
          have hcb : (c != 0) = true := by simpa using h0
          clear h2 h0
          go_wp2_with fail
          go_ret
          exact ⟨by rw [← HE2.out]; rfl, HB6.out⟩
      · have hlt2' : (m.length : Int) ≤ (i : Int) := by omega
        have HE2 : Hid (cmpS l m = 1) := by show _ = _; rw [← HE.out]; exact cmpS_long hlt (by omega)
        subst hae
        go_wp2_with fail
        go_ret
        exact ⟨by rw [HE2.out]; rfl, HB.out.alloc HB.out.size _⟩
    · have hlt' : ¬ (i : Int) < (l.length : Int) := by omega
      by_cases hlt2 : l.length < m.length
      · have HE2 : Hid (cmpS l m = -1) := by show _ = _; rw [← HE.out]; exact cmpS_short (by omega) (by omega)
        have hlt3 : (l.length : Int) < (m.length : Int) := by omega
        go_wp2_with fail
        go_ret
        exact ⟨by rw [HE2.out]; rfl, HB.out⟩
      · have HE2 : Hid (cmpS l m = 0) := by show _ = _; rw [← HE.out]; exact cmpS_end (by omega) (by omega)
        have hlt3 : ¬ (l.length : Int) < (m.length : Int) := by omega
        go_wp2_with fail
        go_ret
        exact ⟨by rw [HE2.out]; rfl, HB.out⟩
end Go.Proofs.Ytbnpemgmdnghgaa
namespace Go.Proofs.Ytbnpemgmdnghgaa
open Go.RowKit

theorem cells4 {W w' : World} (hb : Below W.heap.size W w') {b1 b2 : Nat} {T : TypeId} {a0 a1 c0 c1 : Value} (h1 : W.heap[b1]? = some (.cells #[a0, a1] T (0, 0))) (h2 : W.heap[b2]? = some (.cells #[c0, c1] T (0, 0))) :
    w'.cell? ⟨b1, 0, none⟩ = some a0 ∧ w'.cell? ⟨b1, 0 + 1, none⟩ = some a1 ∧ w'.cell? ⟨b2, 0, none⟩ = some c0 ∧ w'.cell? ⟨b2, 0 + 1, none⟩ = some c1 := by
  obtain ⟨x1, x2⟩ := bx_cells2 (bx_keep h1 hb)
  obtain ⟨x4, x5⟩ := bx_cells2 (bx_keep h2 hb)
  exact ⟨x1, x2, x4, x5⟩

set_option maxHeartbeats 1000000 in
set_option maxRecDepth 100000 in
theorem compareR (x y : Rule) (a a' : Option Addr) (c c' : Nat) (w : World) (hx : Rd AnyB w (.sl (x.right.map Sym.d)) [.slice a x.right.length c]) (hy : Rd AnyB w (.sl (y.right.map Sym.d)) [.slice a' y.right.length c']) :
    Calls Try.prog 65 #[.agg #[.int .i64 x.left, .slice a x.right.length c], .agg #[.int .i64 y.left, .slice a' y.right.length c']] w fun e w' => e = .returned (.int .i64 (cmpR x y)) ∧ Below w.heap.size w w' := by
  obtain ⟨lx, HLX⟩ := nameIt x.left
  obtain ⟨ly, HLY⟩ := nameIt y.left
  obtain ⟨nx, HNX⟩ := nameIt x.right.length
  obtain ⟨ny, HNY⟩ := nameIt y.right.length
  obtain ⟨w0, HW0⟩ := nameIt ((w.alloc (.cells #[.int .i64 lx, .slice a nx c] 48)).alloc (.cells #[.int .i64 ly, .slice a' ny c'] 48))
  have HB : Hid (Below w.heap.size w w0) := by rw [← HW0.out]; exact ((Below.refl _ _).alloc (Nat.le_refl _) _).alloc (by simp) _
  have X1 : Hid (w0.heap[w.heap.size]? = some (.cells #[.int .i64 lx, .slice a nx c] 48 (0, 0))) := by
    rw [← HW0.out]; exact bx_keep (bx_new _ _ _ rfl) ((Below.refl _ _).alloc (Nat.le_refl _) _)
  have X2 : Hid (w0.heap[w.heap.size + 1]? = some (.cells #[.int .i64 ly, .slice a' ny c'] 48 (0, 0))) := by
    rw [← HW0.out]; exact bx_new _ _ _ (by simp)
  obtain ⟨q1, HQ1⟩ := nameIt (cmp3 lx ly)
  obtain ⟨q2, HQ2⟩ := nameIt (cmpS x.right y.right)
  have C1 := Lib.hid (fun W => compareInt lx ly W)
  have C2 := Lib.hid (fun W (hb : Below w0.heap.size w0 W) => compareSyms a a' c c' x.right y.right W ((hx.below HB.out).below hb) ((hy.below HB.out).below hb))
  rw [HQ1.out] at C1
  rw [HQ2.out, HNX.out, HNY.out] at C2
  have HR : Hid (cmpR x y = orL [q1, q2]) := by show _ = _; unfold cmpR; rw [HLX.out, HLY.out, HQ1.out, HQ2.out]
  rw [HLX.out, HLY.out, HNX.out, HNY.out]
  obtain ⟨x0, x1⟩ := bx_cells2 X1.out
  obtain ⟨y0, y1⟩ := bx_cells2 X2.out
  clear hx hy
  go_enter Try.func65, Try.ntmps65
  go_wp2_with fail
  rw [HW0.out]
  go_region_held3 (fun w' => w'.cell? ⟨w.heap.size, 0, none⟩ = some (.int .i64 lx) ∧ w'.cell? ⟨w.heap.size, 0 + 1, none⟩ = some (.slice a nx c) ∧ w'.cell? ⟨w.heap.size + 1, 0, none⟩ = some (.int .i64 ly) ∧ w'.cell? ⟨w.heap.size + 1, 0 + 1, none⟩ = some (.slice a' ny c'))
    (first | exact cells4 (Below.refl _ _).drew X1.out X2.out | exact cells4 (HB2.out.alloc HB2.out.size _) X1.out X2.out | exact cells4 HB2.out X1.out X2.out | fail)
    (first
      | (go_at_call 49; (with_reducible refine (C1.out _).mono ?_); rintro e w' ⟨rfl, rfl⟩)
      | (go_at_call 81; (with_reducible refine (C2.out _ (Below.refl _ _).drew).mono ?_); rintro e w2 ⟨rfl, hb2⟩; have HB2 : Hid (Below w0.heap.size w0 w2) := (Below.refl _ _).drew.trans hb2; clear hb2)
      | (go_at_call 48; (with_reducible refine (orInt _ [q1, q2] _ (sl_lit (v := #[.int .i64 q1, .int .i64 q2]) rfl (of_decide_eq_true rfl))).mono ?_); rintro e w' ⟨rfl, rfl⟩)
      | fail)
  go_wp2_with fail
  go_ret
  have hB := HB.out.trans (HB2.out.mono HB.out.size)
  exact ⟨by rw [HR.out]; rfl, hB.alloc hB.size _⟩

set_option maxHeartbeats 1000000 in
set_option maxRecDepth 100000 in
theorem hasE (g : Gram) (a : Option Addr) (n c : Nat) (s : Sym) (w : World) :
    Calls Try.prog 62 #[.agg #[.int .i64 g.terms, .int .i64 g.nons, .int .i64 g.start, .slice a n c], .agg #[.bool s.term, .int .i64 s.n]] w fun e w' => e = .returned (.bool (hasS g s)) ∧ Below w.heap.size w w' := by
  obtain ⟨gt, HGT⟩ := nameIt g.terms
  obtain ⟨gn, HGN⟩ := nameIt g.nons
  obtain ⟨gs, HGS⟩ := nameIt g.start
  obtain ⟨st, HST⟩ := nameIt s.term
  obtain ⟨sn, HSN⟩ := nameIt s.n
  obtain ⟨B, HBn⟩ := nameIt (hasS g s)
  have HV : Hid ((decide (0 ≤ sn) && (st && decide (sn < gt) || !st && decide (sn < gn))) = B) := by show _ = _; rw [← HBn.out]; unfold hasS; rw [HGT.out, HGN.out, HST.out, HSN.out]
  rw [HGT.out, HGN.out, HGS.out, HST.out, HSN.out, HBn.out]
  by_cases h0 : 0 ≤ sn
  · have b0 : decide (0 ≤ sn) = true := by simpa using h0
    cases st with
    | true =>
      by_cases h1 : sn < gt
      · have b1 : decide (sn < gt) = true := by simpa using h1
        obtain rfl : B = true := by rw [← HV.out]; simp [h0, h1]
        clear h0 h1
        go_enter Try.func62, Try.ntmps62
        go_wp2_with fail
        go_ret
        exact ⟨rfl, ((Below.refl _ _).alloc (Nat.le_refl _) _).alloc (by simp) _⟩
      · have b1 : decide (sn < gt) = false := by simpa using h1
        obtain rfl : B = false := by rw [← HV.out]; simp [h0, h1]
        clear h0 h1
        go_enter Try.func62, Try.ntmps62
        go_wp2_with fail
        go_ret
        exact ⟨rfl, ((Below.refl _ _).alloc (Nat.le_refl _) _).alloc (by simp) _⟩
    | false =>
      by_cases h1 : sn < gn
      · have b1 : decide (sn < gn) = true := by simpa using h1
        obtain rfl : B = true := by rw [← HV.out]; simp [h0, h1]
        clear h0 h1
        go_enter Try.func62, Try.ntmps62
        go_wp2_with fail
        go_ret
        exact ⟨rfl, ((Below.refl _ _).alloc (Nat.le_refl _) _).alloc (by simp) _⟩
      · have b1 : decide (sn < gn) = false := by simpa using h1
        obtain rfl : B = false := by rw [← HV.out]; simp [h0, h1]
        clear h0 h1
        go_enter Try.func62, Try.ntmps62
        go_wp2_with fail
        go_ret
        exact ⟨rfl, ((Below.refl _ _).alloc (Nat.le_refl _) _).alloc (by simp) _⟩
  · have b0 : decide (0 ≤ sn) = false := by simpa using h0
    obtain rfl : B = false := by rw [← HV.out]; simp [h0]
    clear h0
    go_enter Try.func62, Try.ntmps62
    go_wp2_with fail
    go_ret
    exact ⟨rfl, ((Below.refl _ _).alloc (Nat.le_refl _) _).alloc (by simp) _⟩

set_option maxHeartbeats 1000000 in
theorem hasF (g : Gram) (b : Nat) (a : Option Addr) (n c : Nat) (l : List Sym) (w : World) (hx : w.heap[b]? = some (.cells #[.int .i64 g.terms, .int .i64 g.nons, .int .i64 g.start, .slice a n c] 24 (0, 0))) :
    PredSym 61 #[.pointer (some ⟨b, 0, none⟩)] l (fun s => !hasS g s) w := by
  intro W s _ hb
  have hc := hasE g a n c s
  have hx' := bx_keep hx hb
  obtain ⟨gt, HGT⟩ := nameIt g.terms
  obtain ⟨gn, HGN⟩ := nameIt g.nons
  obtain ⟨gs, HGS⟩ := nameIt g.start
  obtain ⟨st, HST⟩ := nameIt s.term
  obtain ⟨sn, HSN⟩ := nameIt s.n
  obtain ⟨B, HBn⟩ := nameIt (hasS g s)
  rw [HGT.out, HGN.out, HGS.out] at hx'
  rw [HGT.out, HGN.out, HGS.out, HST.out, HSN.out, HBn.out] at hc
  dsimp only
  rw [HST.out, HSN.out, HBn.out]
  obtain ⟨x0, x1, x2, x3⟩ := bx_cells4 hx'
  have hlt := (Array.getElem?_eq_some_iff.1 hx').1
  have HC := Lib.hid hc
  clear hc hx hb hx'
  show Calls _ _ #[_, _] _ _
  go_enter Try.func61, Try.ntmps61
  go_wp2_with fail
  refine (HC.out _).mono ?_
  rintro e w1 ⟨rfl, hb1⟩
  have hB := (Below.refl W.heap.size W).alloc (Nat.le_refl _) (.cells #[.bool st, .int .i64 sn] 65)
  have HB1 := Lib.hid (hB.trans (hb1.mono hB.size))
  clear hb1 hB x0 x1 x2 x3
  cases B
  all_goals
    go_wp2_with fail
    go_ret
    exact ⟨rfl, HB1.out⟩

set_option maxHeartbeats 1000000 in
theorem sameRF (r : Rule) (b : Nat) (ar : Option Addr) (cr : Nat) (l : List Rule) (w : World) (hx : w.heap[b]? = some (.cells #[.int .i64 r.left, .slice ar r.right.length cr] 48 (0, 0))) (hr : Rd AnyB w (.sl (r.right.map Sym.d)) [.slice ar r.right.length cr]) :
    PredRule 64 #[.pointer (some ⟨b, 0, none⟩)] l (fun x => cmpR x r == 0) w := by
  intro W x v _ hb hv
  obtain ⟨av, cv, rfl, -, -⟩ := hv.form
  rw [List.length_map] at hv ⊢
  have hx' := bx_keep hx hb
  have hc := fun W' (h : Below W.heap.size W W') => compareR x r av ar cv cr W' (hv.below h) ((hr.below hb).below h)
  obtain ⟨lx, HLX⟩ := nameIt x.left
  obtain ⟨nx, HNX⟩ := nameIt x.right.length
  obtain ⟨lr, HLR⟩ := nameIt r.left
  obtain ⟨nr, HNR⟩ := nameIt r.right.length
  obtain ⟨q, HQ⟩ := nameIt (cmpR x r)
  rw [HLX.out, HNX.out, HLR.out, HNR.out, HQ.out] at hc
  rw [HLR.out, HNR.out] at hx'
  dsimp only
  rw [HLX.out, HNX.out, HQ.out]
  obtain ⟨x0, x1⟩ := bx_cells2 hx'
  have hlt := (Array.getElem?_eq_some_iff.1 hx').1
  have HC := Lib.hid hc
  clear hc hx hb hx' hv hr
  show Calls _ _ #[_, _] _ _
  go_enter Try.func64, Try.ntmps64
  go_wp2_with fail
  refine (HC.out _ ((Below.refl _ _).alloc (Nat.le_refl _) _)).mono ?_
  rintro e w1 ⟨rfl, hb1⟩
  have hB := (Below.refl W.heap.size W).alloc (Nat.le_refl _) (.cells #[.int .i64 lx, .slice av nx cv] 48)
  have HB1 := Lib.hid (hB.trans (hb1.mono hB.size))
  clear hb1 hB x0 x1
  go_wp2_with fail
  go_ret
  exact ⟨rfl, HB1.out⟩

/-- the first elements of a slice -/
theorem Rd.start {S : Nat → Prop} {w : World} {ds : List D} {a : Option Addr} {n cap i : Nat} (h : Rd S w (.sl ds) [.slice a n cap]) (hi : i ≤ ds.length) : Rd S w (.sl (ds.take i)) [.slice a i cap] := by
  obtain ⟨a', cap', L, e, h1, h2, h3, h4, h5⟩ := h
  simp at e
  obtain ⟨rfl, rfl, rfl⟩ := e
  rw [← List.take_append_drop i ds] at h5
  obtain ⟨c1, c2, rfl, h6, h7⟩ := h5.split
  refine ⟨a, cap, c1, by simp; omega, by simp; omega, h2, h3, fun j hj => ?_, h6⟩
  have := h4 j (by simp; omega)
  rwa [List.getElem_append_left hj] at this

theorem badHead_cases {g : Gram} (h : badHead g = true) : (decide (g.terms < 1) = true) ∨ (decide (g.terms < 1) = false ∧ decide (8 < g.terms) = true) ∨ (decide (g.terms < 1) = false ∧ decide (8 < g.terms) = false ∧ decide (g.nons < 1) = true) ∨ (decide (g.terms < 1) = false ∧ decide (8 < g.terms) = false ∧ decide (g.nons < 1) = false ∧ decide (10 < g.nons) = true) ∨
    (decide (g.terms < 1) = false ∧ decide (8 < g.terms) = false ∧ decide (g.nons < 1) = false ∧ decide (10 < g.nons) = false ∧ decide (g.start < 0) = true) ∨ (decide (g.terms < 1) = false ∧ decide (8 < g.terms) = false ∧ decide (g.nons < 1) = false ∧ decide (10 < g.nons) = false ∧ decide (g.start < 0) = false ∧ decide (g.nons ≤ g.start) = true) := by
  simp [badHead] at h ⊢
  omega
theorem goodHead {g : Gram} (h : ¬ badHead g = true) : decide (g.terms < 1) = false ∧ decide (8 < g.terms) = false ∧ decide (g.nons < 1) = false ∧ decide (10 < g.nons) = false ∧ decide (g.start < 0) = false ∧ decide (g.nons ≤ g.start) = false := by
  simp [badHead] at h ⊢
  omega

set_option maxHeartbeats 4000000 in
set_option maxRecDepth 100000 in
theorem checkE (g : Gram) (ar : Option Addr) (cr : Nat) (w : World) (hr : Rd AnyB w (.sl (g.rules.map Rule.d)) [.slice ar g.rules.length cr]) :
    Calls Try.prog 39 #[.agg #[.int .i64 g.terms, .int .i64 g.nons, .int .i64 g.start, .slice ar g.rules.length cr]] w fun e w' => e = .returned (.int .i64 (checkG g)) ∧ Below w.heap.size w w' := by
  have hbs := hr.bounds.2
  unfold maxLen at hbs
  obtain ⟨hc1, hc2⟩ := hbs
  obtain ⟨gt, HGT⟩ := nameIt g.terms
  obtain ⟨gn, HGN⟩ := nameIt g.nons
  obtain ⟨gs, HGS⟩ := nameIt g.start
  obtain ⟨K, HK⟩ := nameIt g.rules
  have HBC := Lib.hid (@badHead_cases g)
  have HGH := Lib.hid (@goodHead g)
  rw [HGT.out, HGN.out, HGS.out] at HBC HGH
  obtain ⟨w0, HW0⟩ := nameIt (w.alloc (.cells #[.int .i64 gt, .int .i64 gn, .int .i64 gs, .slice ar K.length cr] 24))
  have HB0 : Hid (Below w.heap.size w w0) := by rw [← HW0.out]; exact (Below.refl _ _).alloc (Nat.le_refl _) _
  have X1 : Hid (w0.heap[w.heap.size]? = some (.cells #[.int .i64 gt, .int .i64 gn, .int .i64 gs, .slice ar K.length cr] 24 (0, 0))) := by rw [← HW0.out]; exact bx_new _ _ _ rfl
  have HR := Lib.hid (hr.below HB0.out)
  rw [HK.out] at HR hc1
  rw [HGT.out, HGN.out, HGS.out, HK.out]
  obtain ⟨x0, x1, x2, x3⟩ := bx_cells4 X1.out
  clear hr
  by_cases hbad : badHead g = true
  · have HE : Hid (checkG g = 1) := by show _ = _; simp [checkG, hbad]
    rcases HBC.out hbad with h1 | ⟨h1, h2⟩ | ⟨h1, h2, h3⟩ | ⟨h1, h2, h3, h4⟩ | ⟨h1, h2, h3, h4, h5⟩ | ⟨h1, h2, h3, h4, h5, h6⟩
    all_goals
      clear hbad
      go_enter Try.func39, Try.ntmps39
      go_upto_region 1 with fail
      rw [HW0.out]
      go_wp2_with fail
      go_ret
      exact ⟨by rw [HE.out]; rfl, HB0.out⟩
  · obtain ⟨h1, h2, h3, h4, h5, h6⟩ := HGH.out hbad
    have HBD := Lib.hid hbad
    clear hbad
    by_cases hlen : 32 < K.length
    · have HE : Hid (checkG g = 2) := by show _ = _; rw [checkG, if_neg HBD.out, HK.out, if_pos hlen]
      have hlen' : (32 : Int) < (K.length : Int) := by omega
      go_enter Try.func39, Try.ntmps39
      go_upto_region 1 with fail
      rw [HW0.out]
      go_wp2_with fail
      go_ret
      exact ⟨by rw [HE.out]; rfl, HB0.out⟩
    · have HE : Hid (checkG g = faultsFrom g 0 K) := by show _ = _; rw [checkG, if_neg HBD.out, HK.out, if_neg hlen]
      have hlen' : ¬ (32 : Int) < (K.length : Int) := by omega
      go_enter Try.func39, Try.ntmps39
      go_upto_region 1 with fail
      rw [HW0.out]
      go_wp2_with fail
      clear h1 h2 h3 h4 h5 h6 x0 x1 x2 x3
      go_loopg [42] K.length (fun gg v42 wr => ∃ i : Nat, i ≤ K.length ∧ K.length - i ≤ gg ∧ v42 = .int .i64 i ∧ Hid (Below w0.heap.size w0 wr) ∧ Hid (faultsFrom g i (K.drop i) = faultsFrom g 0 K))
      case atStart => exact ⟨0, by omega, by omega, rfl, Below.refl _ _, rfl⟩
      case round =>
        obtain ⟨i, hi, hg, rfl, HB, HF⟩ := hrel
        by_cases hlt : i < K.length
        · have hlt' : (i : Int) < (K.length : Int) := by omega
          have hiK : (i : Int) ≤ (cr : Int) := by omega
          obtain ⟨b, off, vr, hae, -, hbl, c0, c1, hkr⟩ := (HR.out.below HB.out).rule_at hlt
          obtain ⟨av, cv, rfl, -, hcv⟩ := hkr.form
          rw [List.length_map] at c1 hkr
          have h1 := HF.out
          have hrl : i < g.rules.length := by rw [HK.out]; exact hlt
          rw [← HK.out, faultsFrom_at hrl] at h1
          simp only [HK.out] at h1
          obtain ⟨r, HRn⟩ := nameIt (K[i]'hlt)
          rw [HRn.out] at c0 c1 hkr h1
          have hbl2 : b < wr.heap.size := hbl
          obtain ⟨w4, HW4⟩ := nameIt (wr.alloc (.cells #[.int .i64 r.left, .slice av r.right.length cv] 48))
          have hb4 : Below wr.heap.size wr w4 := by rw [← HW4.out]; exact (Below.refl _ _).alloc (Nat.le_refl _) _
          have X4 : Hid (w4.heap[wr.heap.size]? = some (.cells #[.int .i64 r.left, .slice av r.right.length cv] 48 (0, 0))) := by rw [← HW4.out]; exact bx_new _ _ _ rfl
          have HB4 := Lib.hid (HB.out.trans (hb4.mono HB.out.size))
          have HKR := Lib.hid (hkr.below hb4)
          have X1' := Lib.hid (bx_keep X1.out HB4.out)
          have HX1 := X1'
          rw [← HGT.out, ← HGN.out, ← HGS.out] at HX1
          have PS := Lib.hid (hasF g w.heap.size ar K.length cr r.right w4 HX1.out)
          have CS := Lib.hid (containsFuncSym 61 #[.pointer (some ⟨w.heap.size, 0, none⟩)] (fun s => !hasS g s) av cv r.right w4 (fun _ _ => by kernel_rfl) PS.out HKR.out)
          have htl : (K.take i).length = i := by simp; omega
          have hst : ∀ W, Below w4.heap.size w4 W → Rd AnyB W (.sl ((K.take i).map Rule.d)) [.slice ar (K.take i).length cr] := by
            intro W hb
            have h2 := (((HR.out.below HB4.out).below hb).start (i := i) (by simp; omega))
            rw [← List.map_take] at h2
            rw [htl]; exact h2
          have CRR := Lib.hid (fun W (hb : Below w4.heap.size w4 W) => containsFuncRule 64 #[.pointer (some ⟨wr.heap.size, 0, none⟩)] (fun x => cmpR x r == 0) ar cr (K.take i) W (fun _ _ => by kernel_rfl) (sameRF r wr.heap.size av cv (K.take i) W (bx_keep X4.out hb) (HKR.out.below hb)) (hst W hb))
          rw [htl] at CRR
          obtain ⟨lf, HLF⟩ := nameIt r.left
          obtain ⟨rn, HRNn⟩ := nameIt r.right.length
          obtain ⟨A1, HA1⟩ := nameIt (r.right.any fun s => !hasS g s)
          obtain ⟨A2, HA2⟩ := nameIt ((K.take i).any fun x => cmpR x r == 0)
          have hfr : faultR g i r = if lf < 0 ∨ gn ≤ lf then 3 else if 4 < rn then 2 else if A1 then 3 else if A2 then 6 else 0 := by
            unfold faultR; rw [HLF.out, HGN.out, HRNn.out, HA1.out, HK.out, HA2.out]
          rw [HLF.out] at c0 HW4
          rw [HRNn.out] at c1 HW4 CS
          rw [HA1.out] at CS
          simp only [HA2.out] at CRR
          have X4' := X4
          rw [HLF.out, HRNn.out] at X4'
          obtain ⟨y0, y1⟩ := bx_cells2 X4'.out
          obtain ⟨x0, x1, x2, x3⟩ := bx_cells4 X1'.out
          have hl4 : wr.heap.size < w4.heap.size := (Array.getElem?_eq_some_iff.1 X4'.out).1
          have hl1 : w.heap.size < w4.heap.size := (Array.getElem?_eq_some_iff.1 X1'.out).1
          have HFR := Lib.hid hfr
          have H1 := Lib.hid h1
          have hrn : (rn : Int) ≤ 9223372036854775807 := by have := HKR.out.bounds.2; rw [HRNn.out] at this; unfold maxLen at this hcv; omega
          subst hae
          clear hkr hb4 h1 hfr htl hst
          by_cases ha : lf < 0 ∨ gn ≤ lf
          · have hf : faultR g i r = 3 := by rw [HFR.out, if_pos ha]
            have HE2 : Hid (faultsFrom g 0 K = 3) := by show _ = _; rw [← H1.out, hf, if_neg (by decide)]
            have ha' : (decide (lf < 0) = true) ∨ (decide (lf < 0) = false ∧ decide (gn ≤ lf) = true) := by simp; omega
            clear hf ha
            rcases ha' with k1 | ⟨k1, k2⟩
            all_goals
              go_upto_region 8 with fail
              rw [HW4.out]
              go_wp2_with fail
              go_ret
              exact ⟨by rw [HE.out, HE2.out]; rfl, HB0.out.trans (HB4.out.mono HB0.out.size)⟩
          · have k1 : decide (lf < 0) = false := by simp; omega
            have k2 : decide (gn ≤ lf) = false := by simp; omega
            have HFa : Hid (faultR g i r = if 4 < rn then 2 else if A1 then 3 else if A2 then 6 else 0) := by show _ = _; rw [HFR.out, if_neg ha]
            clear ha HFR
            by_cases hb : 4 < rn
            · have k3 : (4 : Int) < (rn : Int) := by omega
              have hf : faultR g i r = 2 := by rw [HFa.out, if_pos hb]
              have HE2 : Hid (faultsFrom g 0 K = 2) := by show _ = _; rw [← H1.out, hf, if_neg (by decide)]
              clear hf
              go_upto_region 8 with fail
              rw [HW4.out]
              go_wp2_with fail
              go_ret
              exact ⟨by rw [HE.out, HE2.out]; rfl, HB0.out.trans (HB4.out.mono HB0.out.size)⟩
            · have k3 : ¬ (4 : Int) < (rn : Int) := by omega
              have HFb : Hid (faultR g i r = if A1 then 3 else if A2 then 6 else 0) := by show _ = _; rw [HFa.out, if_neg hb]
              clear HFa
              go_upto_region 8 with fail
              rw [HW4.out]
              go_wp2_with fail
              refine CS.out.mono ?_
              rintro e w5 ⟨rfl, hb5⟩
              have HB45 := Lib.hid hb5
              have HB5 := Lib.hid (HB4.out.trans (hb5.mono HB4.out.size))
              obtain ⟨x0, x1, x2, x3⟩ := bx_cells4 (bx_keep X1'.out hb5)
              have hl15 : w.heap.size < w5.heap.size := (Array.getElem?_eq_some_iff.1 (bx_keep X1'.out hb5)).1
              clear hb5 y0 y1
              cases A1 with
              | true =>
                have hf : faultR g i r = 3 := by rw [HFb.out, if_pos rfl]
                have HE2 : Hid (faultsFrom g 0 K = 3) := by show _ = _; rw [← H1.out, hf, if_neg (by decide)]
                clear hf
                go_wp2_with fail
                go_ret
                exact ⟨by rw [HE.out, HE2.out]; rfl, HB0.out.trans (HB5.out.mono HB0.out.size)⟩
              | false =>
                go_wp2_with fail
                refine (CRR.out _ HB45.out).mono ?_
                rintro e w6 ⟨rfl, hb6⟩
                have HB6 := Lib.hid (HB5.out.trans (hb6.mono HB5.out.size))
                clear hb6 x0 x1 x2 x3
                cases A2 with
                | true =>
                  have hf : faultR g i r = 6 := by rw [HFb.out]; rfl
                  have HE2 : Hid (faultsFrom g 0 K = 6) := by show _ = _; rw [← H1.out, hf, if_neg (by decide)]
                  clear hf
                  go_wp2_with fail
                  go_ret
                  exact ⟨by rw [HE.out, HE2.out]; rfl, HB0.out.trans (HB6.out.mono HB0.out.size)⟩
                | false =>
                  have hf : faultR g i r = 0 := by rw [HFb.out]; rfl
                  have HE2 : Hid (faultsFrom g (i + 1) (K.drop (i + 1)) = faultsFrom g 0 K) := by show _ = _; rw [← H1.out, hf, if_pos rfl]
                  clear hf
                  go_wp2_with fail
                  go_roundg (K.length - (i + 1))
                  case measure => omega
                  case rel => exact ⟨i + 1, by omega, by omega, by go_num, HB6, HE2⟩
        · have hlt' : ¬ (i : Int) < (K.length : Int) := by omega
          have HE2 : Hid (faultsFrom g 0 K = 0) := by show _ = _; rw [← HF.out, List.drop_of_length_le (by omega)]; rfl
          go_wp2_with fail
          go_ret
          exact ⟨by rw [HE.out, HE2.out]; rfl, HB0.out.trans (HB.out.mono HB0.out.size)⟩
end Go.Proofs.Ytbnpemgmdnghgaa
namespace Go.Proofs.Ytbnpemgmdnghgaa
open Go.RowKit
namespace Cs

/-- where a counter lies -/
structure Cid where
  cb : Nat
  b1 : Nat
  b2 : Nat
  b3 : Nat
  b4 : Nat
  ts : Nat
  tm : Nat
  tc : Nat
  ks : Nat
  km : Nat
  kc : Nat
  rs : Nat → Nat
  rm : Nat → Nat
  rc : Nat → Nat
structure CI (g : Gram) (vr : Value) (N n : Nat) (d : Cid) (S M : Nat → Nat → Bool) (C : Nat → Nat → Int) (W : World) : Prop where
  box : ∃ T, W.heap[d.cb]? = some (.cells #[.int .i64 g.terms, .int .i64 g.nons, .int .i64 g.start, vr, .int .i64 (n : Int), .slice (some ⟨d.ts, 0, none⟩) N d.ks, .slice (some ⟨d.tm, 0, none⟩) N d.km, .slice (some ⟨d.tc, 0, none⟩) N d.kc] T (0, 0))
  some' : Tb 4 d.b1 d.b2 d.ts N (n + 1) d.rs (fun a k => .bool (S a k)) W
  many : Tb 4 d.b2 d.b3 d.tm N (n + 1) d.rm (fun a k => .bool (M a k)) W
  cnt : Tb 3 d.b3 d.b4 d.tc N (n + 1) d.rc (fun a k => .int .i64 (C a k)) W
  le : d.b4 ≤ d.cb
section
variable {g : Gram} {vr : Value} {N n : Nat} {d : Cid} {S M : Nat → Nat → Bool} {C : Nat → Nat → Int} {W W' : World}
theorem CI.lt (h : CI g vr N n d S M C W) : d.cb < W.heap.size := by obtain ⟨T, h⟩ := h.box; exact (Array.getElem?_eq_some_iff.1 h).1
theorem CI.keep (h : CI g vr N n d S M C W) (hb : Below W.heap.size W W') : CI g vr N n d S M C W' := by
  have hlt := h.lt
  obtain ⟨⟨T, h1⟩, h2, h3, h4, h5⟩ := h
  have p2 := h2.pl
  have p3 := h3.pl
  have p4 := h4.pl
  exact ⟨⟨T, bx_keep h1 hb⟩, h2.keep (by omega) hb, h3.keep (by omega) hb, h4.keep (by omega) hb, h5⟩
end
theorem bx_cells8c {w : World} {b : Nat} {x0 x1 x2 x3 x4 x5 x6 x7 : Value} {T : TypeId} (h : w.heap[b]? = some (.cells #[x0, x1, x2, x3, x4, x5, x6, x7] T (0, 0))) :
    w.cell? ⟨b, 0, none⟩ = some x0 ∧ w.cell? ⟨b, 0 + 1, none⟩ = some x1 ∧ w.cell? ⟨b, 0 + 2, none⟩ = some x2 ∧ w.cell? ⟨b, 0 + 3, none⟩ = some x3 ∧ w.cell? ⟨b, 0 + 4, none⟩ = some x4 ∧ w.cell? ⟨b, 0 + 5, none⟩ = some x5 ∧ w.cell? ⟨b, 0 + 6, none⟩ = some x6 ∧ w.cell? ⟨b, 0 + 7, none⟩ = some x7 := by
  refine ⟨?_, ?_, ?_, ?_, ?_, ?_, ?_, ?_⟩ <;> simp [World.cell?, h]
/-- a symbol whose number fits -/
def okS (N : Nat) (s : Sym) : Prop := s.term = false → 0 ≤ s.n ∧ s.n.toNat < N

set_option maxHeartbeats 2000000 in
theorem hasE {g : Gram} {vr : Value} {N n : Nat} {d : Cid} {S M : Nat → Nat → Bool} {C : Nat → Nat → Int} (s : Sym) (hs : okS N s) (k : Nat) (hk : k ≤ n) (W : World) (h : CI g vr N n d S M C W) :
    Calls Try.prog 56 #[.pointer (some ⟨d.cb, 0, none⟩), .agg #[.bool s.term, .int .i64 s.n], .int .i64 (k : Int)] W fun e w' => e = .returned (.bool (hasK S s k)) ∧ Below W.heap.size W w' := by
  obtain ⟨w0, HW0⟩ := nameIt (W.alloc (.cells #[.bool s.term, .int .i64 s.n] 65))
  have hb0 : Below W.heap.size W w0 := by rw [← HW0.out]; exact (Below.refl _ _).alloc (Nat.le_refl _) _
  have HB0 := Lib.hid hb0
  have X0 : w0.heap[W.heap.size]? = some (.cells #[.bool s.term, .int .i64 s.n] 65 (0, 0)) := by rw [← HW0.out]; exact bx_new _ _ _ rfl
  obtain ⟨x0, x1⟩ := bx_cells2 X0
  have HC := Lib.hid (h.keep hb0)
  have HV : Hid (hasK S s k = if s.term then decide (k = 1) else S s.n.toNat k) := rfl
  obtain ⟨R, HR⟩ := nameIt (hasK S s k)
  rw [HR.out] at HV ⊢
  obtain ⟨⟨st, sn⟩, rfl⟩ : ∃ x : Sym, x = s := ⟨s, rfl⟩
  simp only at x0 x1 HW0 HV
  cases st with
  | true =>
    have HE : Hid (R = ((k : Int) == 1)) := by
      show _ = _
      rw [HV.out]
      simp only [if_true]
      rw [Bool.eq_iff_iff]
      simp
      omega
    clear hb0 X0 h hs
    go_enter Try.func56, Try.ntmps56
    go_upto_region 1 with fail
    rw [HW0.out]
    go_wp2_with fail
    go_ret
    exact ⟨by rw [HE.out]; rfl, HB0.out⟩
  | false =>
    obtain ⟨h1, h2⟩ := hs rfl
    simp only at h1 h2
    obtain ⟨a, rfl⟩ : ∃ a : Nat, sn = (a : Int) := ⟨sn.toNat, by omega⟩
    rw [Int.toNat_natCast] at h2 HV
    have HE : Hid (R = S a k) := HV.out
    obtain ⟨T, hbx⟩ := HC.out.box
    obtain ⟨c0, c1, c2, c3, c4, c5, c6, c7⟩ := bx_cells8c hbx
    have q0 := HC.out.some'.head h2
    have q1 := HC.out.some'.cell h2 (show k < n + 1 by omega)
    rw [← HE.out] at q1
    have ha1 : (a : Int) < (N : Int) := by omega
    have ha0 : (0 : Int) ≤ (a : Int) := by omega
    have hk0 : (0 : Int) ≤ (k : Int) := by omega
    have hk1 : (k : Int) < ((n + 1 : Nat) : Int) := by omega
    obtain ⟨m, HM⟩ := nameIt (n + 1)
    rw [HM.out] at q0 hk1
    clear hb0 X0 h hs hbx HM
    go_enter Try.func56, Try.ntmps56
    go_upto_region 1 with fail
    rw [HW0.out]
    go_wp2_with fail
    go_quiet (fail)
    go_wp2_with fail
    go_ret
    exact ⟨rfl, HB0.out.trans ((below_drewN _ _).mono HB0.out.size)⟩

theorem syms_at0 {S0 : Nat → Prop} {w : World} {s : Sym} {l : List Sym} {a : Option Addr} {n cap : Nat} (h : Rd S0 w (.sl ((s :: l).map Sym.d)) [.slice a n cap]) : ∃ b off, a = some ⟨b, off, none⟩ ∧ w.cell? ⟨b, off, none⟩ = some (.bool s.term) ∧ w.cell? ⟨b, off + 1, none⟩ = some (.int .i64 s.n) := by
  obtain ⟨b, off, h1, _, _, h2, h3⟩ := h.sym_at (i := 0) (by simp)
  exact ⟨b, off, h1, by simpa using h2, by simpa using h3⟩
theorem syms_tail {S0 : Nat → Prop} {w : World} {s : Sym} {l : List Sym} {b off cap : Nat} (h : Rd S0 w (.sl ((s :: l).map Sym.d)) [.slice (some ⟨b, off, none⟩) (l.length + 1) cap]) : Rd S0 w (.sl (l.map Sym.d)) [.slice (some ⟨b, if cap = 1 then off else off + 2, none⟩) l.length (cap - 1)] := by
  have := h.tail (k := 2) (syms_cells _) (by omega)
  simpa using this

set_option maxHeartbeats 4000000 in
set_option maxRecDepth 100000 in
theorem canE {g : Gram} {vr : Value} {N n : Nat} {d : Cid} {S M : Nat → Nat → Bool} {C : Nat → Nat → Int} (hn : n ≤ 1000) : ∀ (l : List Sym), (∀ s ∈ l, okS N s) → ∀ (k : Nat), k ≤ n → ∀ (a : Option Addr) (cap : Nat) (W : World), CI g vr N n d S M C W → Rd AnyB W (.sl (l.map Sym.d)) [.slice a l.length cap] →
    Calls Try.prog 54 #[.pointer (some ⟨d.cb, 0, none⟩), .slice a l.length cap, .int .i64 (k : Int)] W fun e w' => e = .returned (.bool (canK S l k)) ∧ Below W.heap.size W w'
  | [], _, k, hk, a, cap, W, h, hr => by
    have HE : Hid (canK S [] k = ((k : Int) == 0)) := by
      show decide (k = 0) = _
      rw [Bool.eq_iff_iff]; simp
    obtain ⟨R, HR⟩ := nameIt (canK S [] k)
    rw [HR.out] at HE ⊢
    clear h hr
    go_enter Try.func54, Try.ntmps54
    go_wp2_with fail
    go_ret
    exact ⟨by rw [HE.out]; rfl, Below.refl _ _⟩
  | s :: l, hl, k, hk, a, cap, W, h, hr => by
    have HIH := Lib.hid (fun (k' : Nat) (hk' : k' ≤ n) (a' : Option Addr) (cap' : Nat) (W' : World) (h' : CI g vr N n d S M C W') (hr' : Rd AnyB W' (.sl (l.map Sym.d)) [.slice a' l.length cap']) => canE hn l (fun x hx => hl x (List.mem_cons_of_mem _ hx)) k' hk' a' cap' W' h' hr')
    obtain ⟨b, off, rfl, c0, c1⟩ := syms_at0 hr
    have hcap : cap ≤ maxLen := by obtain ⟨a', cap', L, e, h1, h2, _⟩ := hr; simp at e; omega
    have hcap1 : l.length + 1 ≤ cap := by obtain ⟨a', cap', L, e, h1, h2, _⟩ := hr; simp at e h1; omega
    have HRT := Lib.hid (syms_tail (l := l) hr)
    have HHA := Lib.hid (fun (i : Nat) (hi : i ≤ n) (W' : World) (h' : CI g vr N n d S M C W') => hasE s (hl s List.mem_cons_self) i hi W' h')
    have HCI := Lib.hid h
    have HT : Hid (∀ i, i ≤ k → hasK S s i = true → canK S l (k - i) = true → canK S (s :: l) k = true) := fun i hi h1 h2 => canK_cons.2 ⟨i, hi, h1, h2⟩
    have HF : Hid ((∀ j, j < k + 1 → (hasK S s j && canK S l (k - j)) = false) → canK S (s :: l) k = false) := by
      intro h0
      cases e : canK S (s :: l) k with
      | false => rfl
      | true =>
        obtain ⟨i, hi, h1, h2⟩ := canK_cons.1 e
        have := h0 i (by omega)
        rw [h1, h2] at this
        cases this
    obtain ⟨R, HR⟩ := nameIt (canK S (s :: l) k)
    rw [HR.out] at HT HF ⊢
    have hlen : (s :: l).length = l.length + 1 := rfl
    rw [hlen]
    obtain ⟨nl, HNL⟩ := nameIt l.length
    rw [HNL.out] at HIH HRT hcap1
    rw [HNL.out]
    obtain ⟨⟨st, sn⟩, rfl⟩ : ∃ x : Sym, x = s := ⟨s, rfl⟩
    simp only at c0 c1 HHA
    have hnl : ¬ ((nl : Int) + 1) = 0 := by omega
    have hnl1 : (0 : Int) < ((nl : Int) + 1) := by omega
    have hcap2 : (1 : Int) ≤ (cap : Int) := by omega
    have hnl2 : (1 : Int) ≤ ((nl : Int) + 1) := by omega
    unfold maxLen at hcap
    clear hr h hl hlen
    go_enter Try.func54, Try.ntmps54
    go_wp2_with fail
    go_loopg [15] (k + 1) (fun gg v15 wr => ∃ i : Nat, i ≤ k + 1 ∧ k + 1 - i ≤ gg ∧ v15 = .int .i64 i ∧ Hid (Below W.heap.size W wr) ∧ Hid (∀ j, j < i → (hasK S ⟨st, sn⟩ j && canK S l (k - j)) = false))
    case atStart => exact ⟨0, by omega, by omega, rfl, Below.refl _ _, (fun j h => by omega)⟩
    case round =>
      obtain ⟨i, hi, hg, rfl, HB, HN⟩ := hrel
      obtain ⟨w1, rfl⟩ : ∃ ww : World, ww = wr := ⟨_, rfl⟩
      by_cases hlt : i < k + 1
      · have hlt' : (i : Int) < (k : Int) + 1 := by omega
        have hik : i ≤ k := by omega
        have HHS := Lib.hid (HHA.out i (by omega) w1 (HCI.out.keep HB.out))
        have HTi := Lib.hid (HT.out i hik)
        have HRC : Hid (∀ W', Below W.heap.size W W' → Calls Try.prog 54 #[.pointer (some ⟨d.cb, 0, none⟩), .slice (some ⟨b, if cap = 1 then off else off + 2, none⟩) nl (cap - 1), .int .i64 ((k - i : Nat) : Int)] W' fun e w' => e = .returned (.bool (canK S l (k - i))) ∧ Below W'.heap.size W' w') := fun W' hb => HIH.out (k - i) (by omega) _ _ W' (HCI.out.keep hb) (HRT.out.below hb)
        have HNS : Hid ((hasK S ⟨st, sn⟩ i && canK S l (k - i)) = false → ∀ j, j < i + 1 → (hasK S ⟨st, sn⟩ j && canK S l (k - j)) = false) := by
          intro h0 j hj
          by_cases e : j = i
          · subst e; exact h0
          · exact HN.out j (by omega)
        have hsub : IntKind.i64.wrap ((k : Int) - (i : Int)) = ((k - i : Nat) : Int) := by rw [IntWalk.i64_in _ (by omega)]; omega
        obtain ⟨ki, HKI⟩ := nameIt (k - i)
        rw [HKI.out] at hsub HRC HTi HNS
        have q0 := (HB.out.cell (lt_of_cell c0)).trans c0
        have q1 := (HB.out.cell (lt_of_cell c1)).trans c1
        obtain ⟨hv, HHV⟩ := nameIt (hasK S ⟨st, sn⟩ i)
        obtain ⟨cv, HCV⟩ := nameIt (canK S l ki)
        rw [HHV.out] at HHS
        rw [HHV.out, HCV.out] at HTi HNS
        rw [HCV.out] at HRC
        go_wp2_with fail
        with_reducible refine HHS.out.mono ?_
        rintro e w2 ⟨rfl, hb2⟩
        have HB2 : Hid (Below W.heap.size W w2) := HB.out.trans (hb2.mono HB.out.size)
        clear hb2 q0 q1
        cases hv with
        | false =>
          have HN9 := Lib.hid (HNS.out rfl)
          go_wp2_with fail
          go_roundg (k + 1 - (i + 1))
          case measure => omega
          case rel => exact ⟨i + 1, by omega, by omega, by go_num, HB2, HN9⟩
        | true =>
          have HTc := Lib.hid (fun (hc : cv = true) => HTi.out rfl hc)
          have HNc := Lib.hid (fun (hc : cv = false) => HNS.out (by rw [hc]; rfl))
          clear HTi HNS
          by_cases hct : cap = 1
          all_goals
            first | (rw [if_pos hct] at HRC; subst hct; rw [Nat.sub_self] at HRC; obtain rfl : nl = 0 := by omega) | rw [if_neg hct] at HRC
            go_wp2_with fail
            with_reducible refine (HRC.out w2 HB2.out).mono ?_
            rintro e w3 ⟨rfl, hb3⟩
            have HB3 : Hid (Below W.heap.size W w3) := HB2.out.trans (hb3.mono HB2.out.size)
            clear hb3
            cases cv with
            | true =>
              have HE := Lib.hid (HTc.out rfl)
              go_wp2_with fail
              go_ret
              exact ⟨by rw [HE.out]; rfl, HB3.out⟩
            | false =>
              have HN9 := Lib.hid (HNc.out rfl)
              go_wp2_with fail
              go_roundg (k + 1 - (i + 1))
              case measure => omega
              case rel => exact ⟨i + 1, by omega, by omega, by go_num, HB3, HN9⟩
      · have hlt' : ¬ (i : Int) < (k : Int) + 1 := by omega
        have HE := Lib.hid (HF.out (fun j hj => HN.out j (by omega)))
        go_wp2_with fail
        go_ret
        exact ⟨by rw [HE.out]; rfl, HB.out⟩

set_option maxHeartbeats 4000000 in
theorem splitE {g : Gram} {vr : Value} {N n : Nat} {d : Cid} {S M : Nat → Nat → Bool} {C : Nat → Nat → Int} (hn : n ≤ 1000) (la lb : List Sym) (hla : ∀ s ∈ la, okS N s) (hlb : ∀ s ∈ lb, okS N s) (k : Nat) (hk : k ≤ n) (a b : Option Addr) (ca cb : Nat) (W : World) (h : CI g vr N n d S M C W) (hra : Rd AnyB W (.sl (la.map Sym.d)) [.slice a la.length ca]) (hrb : Rd AnyB W (.sl (lb.map Sym.d)) [.slice b lb.length cb]) :
    Calls Try.prog 77 #[.pointer (some ⟨d.cb, 0, none⟩), .slice a la.length ca, .slice b lb.length cb, .int .i64 (k : Int)] W fun e w' => e = .returned (.bool (splitK S la lb k)) ∧ Below W.heap.size W w' := by
  have HA := Lib.hid (fun (i : Nat) (hi : i ≤ n) (W' : World) (hb : Below W.heap.size W W') => canE hn la hla i hi a ca W' (h.keep hb) (hra.below hb))
  have HBB := Lib.hid (fun (i : Nat) (hi : i ≤ n) (W' : World) (hb : Below W.heap.size W W') => canE hn lb hlb i hi b cb W' (h.keep hb) (hrb.below hb))
  have HT : Hid (∀ i, i ≤ k → canK S la i = true → canK S lb (k - i) = true → splitK S la lb k = true) := fun i hi h1 h2 => splitK_iff.2 ⟨i, hi, h1, h2⟩
  have HF : Hid ((∀ j, j < k + 1 → (canK S la j && canK S lb (k - j)) = false) → splitK S la lb k = false) := by
    intro h0
    cases e : splitK S la lb k with
    | false => rfl
    | true =>
      obtain ⟨i, hi, h1, h2⟩ := splitK_iff.1 e
      have := h0 i (by omega)
      rw [h1, h2] at this
      cases this
  obtain ⟨R, HR⟩ := nameIt (splitK S la lb k)
  rw [HR.out] at HT HF ⊢
  obtain ⟨nla, HNA⟩ := nameIt la.length
  obtain ⟨nlb, HNB⟩ := nameIt lb.length
  rw [HNA.out] at HA
  rw [HNB.out] at HBB
  rw [HNA.out, HNB.out]
  clear h hra hrb
  go_enter Try.func77, Try.ntmps77
  go_wp2_with fail
  go_loopg [12] (k + 1) (fun gg v12 wr => ∃ i : Nat, i ≤ k + 1 ∧ k + 1 - i ≤ gg ∧ v12 = .int .i64 i ∧ Hid (Below W.heap.size W wr) ∧ Hid (∀ j, j < i → (canK S la j && canK S lb (k - j)) = false))
  case atStart => exact ⟨0, by omega, by omega, rfl, Below.refl _ _, (fun j h => by omega)⟩
  case round =>
    obtain ⟨i, hi, hg, rfl, HB, HN⟩ := hrel
    obtain ⟨w1, rfl⟩ : ∃ ww : World, ww = wr := ⟨_, rfl⟩
    by_cases hlt : i < k + 1
    · have hlt' : (i : Int) < (k : Int) + 1 := by omega
      have hik : i ≤ k := by omega
      have HA1 := Lib.hid (HA.out i (by omega) w1 HB.out)
      have HTi := Lib.hid (HT.out i hik)
      have HB1 := Lib.hid (HBB.out (k - i) (by omega))
      have HNS : Hid ((canK S la i && canK S lb (k - i)) = false → ∀ j, j < i + 1 → (canK S la j && canK S lb (k - j)) = false) := by
        intro h0 j hj
        by_cases e : j = i
        · subst e; exact h0
        · exact HN.out j (by omega)
      have hsub : IntKind.i64.wrap ((k : Int) - (i : Int)) = ((k - i : Nat) : Int) := by rw [IntWalk.i64_in _ (by omega)]; omega
      obtain ⟨ki, HKI⟩ := nameIt (k - i)
      rw [HKI.out] at hsub HB1 HTi HNS
      obtain ⟨hv, HHV⟩ := nameIt (canK S la i)
      obtain ⟨cv, HCV⟩ := nameIt (canK S lb ki)
      rw [HHV.out] at HA1
      rw [HHV.out, HCV.out] at HTi HNS
      rw [HCV.out] at HB1
      go_wp2_with fail
      with_reducible refine HA1.out.mono ?_
      rintro e w2 ⟨rfl, hb2⟩
      have HB2 : Hid (Below W.heap.size W w2) := HB.out.trans (hb2.mono HB.out.size)
      clear hb2
      cases hv with
      | false =>
        have HN9 := Lib.hid (HNS.out rfl)
        go_wp2_with fail
        go_roundg (k + 1 - (i + 1))
        case measure => omega
        case rel => exact ⟨i + 1, by omega, by omega, by go_num, HB2, HN9⟩
      | true =>
        have HTc := Lib.hid (fun (hc : cv = true) => HTi.out rfl hc)
        have HNc := Lib.hid (fun (hc : cv = false) => HNS.out (by rw [hc]; rfl))
        clear HTi HNS
        go_wp2_with fail
        with_reducible refine (HB1.out w2 HB2.out).mono ?_
        rintro e w3 ⟨rfl, hb3⟩
        have HB3 : Hid (Below W.heap.size W w3) := HB2.out.trans (hb3.mono HB2.out.size)
        clear hb3
        cases cv with
        | true =>
          have HE := Lib.hid (HTc.out rfl)
          go_wp2_with fail
          go_ret
          exact ⟨by rw [HE.out]; rfl, HB3.out⟩
        | false =>
          have HN9 := Lib.hid (HNc.out rfl)
          go_wp2_with fail
          go_roundg (k + 1 - (i + 1))
          case measure => omega
          case rel => exact ⟨i + 1, by omega, by omega, by go_num, HB3, HN9⟩
    · have hlt' : ¬ (i : Int) < (k : Int) + 1 := by omega
      have HE := Lib.hid (HF.out (fun j hj => HN.out j (by omega)))
      go_wp2_with fail
      go_ret
      exact ⟨by rw [HE.out]; rfl, HB.out⟩
end Cs
end Go.Proofs.Ytbnpemgmdnghgaa
