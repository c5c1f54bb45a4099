/- Smaller trees, in plain Lean: two ways to list them, and that they agree. The contract of tree.Size. The contracts of Nodes, Yield and Codes. The contract of parts. A list of trees that is being made, beside memory that is only read. A region that draws its order, that only loads what was there and calls what makes new memory only: one walk in the order of the text. The contracts of gram.Has, gram.Order, gram.Compare and of slices' functions of symbols and rules. The contract of gram.Check. A census counter in memory; its readers: has, can, split. census.Counter.Of and List. census.Counter.Of. A table in memory: rows of one-cell values, made from the first to the last. The closing of a table of edges in place; the answers written down. Plain: the passes over the table of lengths end; the counter's table written to. Plain: how many trees of at most so many levels there are. Plain: what the second implementation lists: all trees, if there are not too many, or too high. Maps that are sets: only 'true' is stored. Keys of rules, as RuleFault makes them: plain law. -/
import Derived.Test.YtmbjnemahgfhcaaJLensGreatestRow1
import Derived.WalkSmall
import Derived.Deep.LoopGhost
import Derived.BigQuiet
import Derived.Deep.RegionHeld3
import Derived.Deep.DeepCutAuto
import Derived.StillTailTactics
import Derived.Lib.MinMax
import Derived.Maps.OwnSet
import Derived.Maps.Views
namespace Go.Proofs.Ytmbjnemahgfhcaa
open Go.RowKit

mutual
/-- all subtrees in preorder -/
def parts : Tree → List Tree
  | .node r t ks => .node r t ks :: partsL ks
def partsL : List Tree → List Tree
  | [] => []
  | k :: ks => parts k ++ partsL ks
end
mutual
/-- their paths -/
def aps : Tree → List (List Int)
  | .node _ _ ks => [] :: apsL 0 ks
def apsL : Nat → List Tree → List (List Int)
  | _, [] => []
  | n, k :: ks => (aps k).map (fun p => (n : Int) :: p) ++ apsL (n + 1) ks
end
mutual
/-- the subtree with the number n replaced -/
def chg : Tree → Int → Tree → Tree × Int
  | .node r t ks, n, b => if n = 0 then (b, -1) else (.node r t (chgL ks (n - 1) b).1, (chgL ks (n - 1) b).2)
def chgL : List Tree → Int → Tree → List Tree × Int
  | [], n, _ => ([], n)
  | k :: ks, n, b => if 0 ≤ n then ((chg k n b).1 :: (chgL ks (chg k n b).2 b).1, (chgL ks (chg k n b).2 b).2) else (k :: (chgL ks n b).1, (chgL ks n b).2)
end
mutual
/-- leaves have no kids, and all rules are there -/
def good (g : Gram) : Tree → Prop
  | .node r _ ks => (r = -1 → ks = []) ∧ -1 ≤ r ∧ r < g.rules.length ∧ goodL g ks
def goodL (g : Gram) : List Tree → Prop
  | [] => True
  | k :: ks => good g k ∧ goodL g ks
end

mutual
theorem parts_len : ∀ t : Tree, (parts t).length = t.size
  | .node r tm ks => by simp [parts, Tree.size, partsL_len ks]
theorem partsL_len : ∀ ks : List Tree, (partsL ks).length = sizeL ks
  | [] => by simp [partsL, sizeL]
  | k :: ks => by simp [partsL, sizeL, parts_len k, partsL_len ks]
end
mutual
theorem aps_len : ∀ t : Tree, (aps t).length = t.size
  | .node r tm ks => by simp [aps, Tree.size, apsL_len ks]
theorem apsL_len : ∀ (ks : List Tree) (n : Nat), (apsL n ks).length = sizeL ks
  | [], n => by simp [apsL, sizeL]
  | k :: ks, n => by simp [apsL, sizeL, aps_len k, apsL_len ks]
end
mutual
theorem ap_le : ∀ (t : Tree), ∀ p ∈ aps t, p.length < t.size
  | .node r tm ks => by
    rw [aps, Tree.size]
    intro p hp
    rcases List.mem_cons.1 hp with rfl | hp
    · simp
    · have := apL_le ks 0 p hp; omega
theorem apL_le : ∀ (ks : List Tree) (n : Nat), ∀ p ∈ apsL n ks, p.length ≤ sizeL ks
  | [], n => by simp [apsL]
  | k :: ks, n => by
    rw [apsL, sizeL]
    intro p hp
    rw [List.mem_append] at hp
    rcases hp with hp | hp
    · rw [List.mem_map] at hp
      obtain ⟨q, hq, rfl⟩ := hp
      have := ap_le k q hq
      simp; omega
    · have := apL_le ks (n + 1) p hp; omega
end
mutual
theorem part_size : ∀ (t : Tree), ∀ y ∈ parts t, y.size ≤ t.size
  | .node r tm ks => by
    rw [parts]
    intro y hy
    rcases List.mem_cons.1 hy with rfl | hy
    · exact Nat.le_refl _
    · have := partL_size ks y hy; rw [Tree.size]; omega
theorem partL_size : ∀ (ks : List Tree), ∀ y ∈ partsL ks, y.size ≤ sizeL ks
  | [] => by simp [partsL]
  | k :: ks => by
    rw [partsL, sizeL]
    intro y hy
    rcases List.mem_append.1 hy with hy | hy
    · have := part_size k y hy; omega
    · have := partL_size ks y hy; omega
end
mutual
theorem good_part {g : Gram} : ∀ (t : Tree), good g t → ∀ y ∈ parts t, good g y
  | .node r tm ks, h => by
    rw [parts]
    intro y hy
    rcases List.mem_cons.1 hy with rfl | hy
    · exact h
    · rw [good] at h; exact goodL_part ks h.2.2.2 y hy
theorem goodL_part {g : Gram} : ∀ (ks : List Tree), goodL g ks → ∀ y ∈ partsL ks, good g y
  | [], _ => by simp [partsL]
  | k :: ks, h => by
    rw [partsL]
    rw [goodL] at h
    intro y hy
    rcases List.mem_append.1 hy with hy | hy
    · exact good_part k h.1 y hy
    · exact goodL_part ks h.2 y hy
end
mutual
theorem nodes_parts {g : Gram} : ∀ (t : Tree), good g t → nodes t = parts t
  | .node r tm ks, h => by
    rw [good] at h
    rw [nodes, parts]
    by_cases hr : r = -1
    · rw [if_pos hr, h.1 hr, partsL]
    · rw [if_neg hr, nodesL_parts ks h.2.2.2]
theorem nodesL_parts {g : Gram} : ∀ (ks : List Tree), goodL g ks → nodesL ks = partsL ks
  | [], _ => by simp [nodesL, partsL]
  | k :: ks, h => by
    rw [goodL] at h
    rw [nodesL, partsL, nodes_parts k h.1, nodesL_parts ks h.2]
end
mutual
theorem good_of {g : Gram} : ∀ (t : Tree), (nodes t).all (nodeOk g) = true → good g t
  | .node r tm ks, h => by
    rw [nodes, List.all_cons, Bool.and_eq_true] at h
    obtain ⟨h1, h2⟩ := h
    rw [good]
    by_cases hr : r = -1
    · have hk : ks = [] := by
        simp [nodeOk, Tree.rule, Tree.kids, hr] at h1
        exact h1.2.2
      subst hk
      exact ⟨fun _ => rfl, by omega, by omega, trivial⟩
    · rw [if_neg hr] at h2
      refine ⟨fun e => absurd e hr, ?_, ?_, goodL_of ks h2⟩
      · by_cases h0 : r < 0
        · simp [nodeOk, Tree.rule, hr, h0] at h1
        · omega
      · by_cases h0 : r < 0
        · omega
        · by_cases h3 : r.toNat < g.rules.length
          · omega
          · have e : g.rules[r.toNat]? = none := List.getElem?_eq_none (by omega)
            simp [nodeOk, Tree.rule, hr, h0, e] at h1
theorem goodL_of {g : Gram} : ∀ (ks : List Tree), (nodesL ks).all (nodeOk g) = true → goodL g ks
  | [], _ => trivial
  | k :: ks, h => by
    rw [nodesL, List.all_append, Bool.and_eq_true] at h
    exact ⟨good_of k h.1, goodL_of ks h.2⟩
end

theorem chgL_done : ∀ (ks : List Tree) (b : Tree), chgL ks (-1) b = (ks, -1)
  | [], b => by simp [chgL]
  | k :: ks, b => by rw [chgL, if_neg (by omega), chgL_done ks b]
mutual
theorem chg_past : ∀ (t : Tree) (n : Nat) (b : Tree), t.size ≤ n → chg t n b = (t, (n : Int) - t.size)
  | .node r tm ks, n, b, h => by
    rw [Tree.size] at h
    have h1 := chgL_past ks (n - 1) b (by omega)
    rw [show ((n - 1 : Nat) : Int) = (n : Int) - 1 by omega] at h1
    rw [chg, if_neg (by omega), h1, Tree.size]
    simp; omega
theorem chgL_past : ∀ (ks : List Tree) (n : Nat) (b : Tree), sizeL ks ≤ n → chgL ks n b = (ks, (n : Int) - sizeL ks)
  | [], n, b, h => by simp [chgL, sizeL]
  | k :: ks, n, b, h => by
    rw [sizeL] at h
    have h1 := chg_past k n b (by omega)
    have h2 := chgL_past ks (n - k.size) b (by omega)
    rw [show ((n - k.size : Nat) : Int) = (n : Int) - k.size by omega] at h2
    rw [chgL, if_pos (by omega), h1, h2, sizeL]
    simp; omega
end
theorem mapIdx_if {ks : List Tree} (j : Nat) (f : Tree → Tree) : (ks.mapIdx fun m k => if (m : Int) = (j : Int) then f k else k) = ks.modify j f := by
  refine List.ext_getElem (by simp) fun i h1 h2 => ?_
  simp only [List.getElem_mapIdx, List.getElem_modify]
  by_cases e : j = i
  · rw [if_pos (by omega), if_pos e]
  · rw [if_neg (by omega), if_neg e]
theorem putT_modify (t : Tree) (j : Nat) (p : List Int) (b : Tree) : putT t ((j : Int) :: p) b = .node t.rule t.term (t.kids.modify j fun k => putT k p b) := by
  rw [putT, mapIdx_if j fun k => putT k p b]
mutual
/-- the n-th path replaced is the n-th part changed -/
theorem chg_put : ∀ (t : Tree) (n : Nat) (b : Tree) (h : n < (aps t).length), chg t n b = (putT t (aps t)[n] b, -1)
  | .node r tm ks, n, b, h => by
    cases n with
    | zero => simp [chg, aps, putT]
    | succ n =>
      have hn : n < (apsL 0 ks).length := by simpa [aps] using h
      obtain ⟨j, p, e1, e2, e3⟩ := chgL_put ks 0 n b hn
      rw [chg, if_neg (by omega)]
      rw [show ((n + 1 : Nat) : Int) - 1 = (n : Int) by omega, e3]
      have e4 : (aps (.node r tm ks))[n + 1] = (apsL 0 ks)[n] := by simp [aps]
      rw [e4, e1, Nat.zero_add, putT_modify]
      rfl
theorem chgL_put : ∀ (ks : List Tree) (m n : Nat) (b : Tree) (h : n < (apsL m ks).length), ∃ j p, (apsL m ks)[n] = ((m + j : Nat) : Int) :: p ∧ j < ks.length ∧ chgL ks n b = (ks.modify j (fun k => putT k p b), -1)
  | [], m, n, b, h => by simp [apsL] at h
  | k :: ks, m, n, b, h => by
    by_cases hn : n < (aps k).length
    · refine ⟨0, (aps k)[n], ?_, by simp, ?_⟩
      · simp only [apsL]
        rw [List.getElem_append_left (by simpa using hn)]; simp
      · rw [chgL, if_pos (by omega), chg_put k n b hn, chgL_done]
        simp
    · have hl := h
      simp only [apsL, List.length_append, List.length_map] at hl
      have hs : k.size ≤ n := by rw [← aps_len]; omega
      obtain ⟨j, p, e1, e2, e3⟩ := chgL_put ks (m + 1) (n - k.size) b (by rw [aps_len] at hl; omega)
      refine ⟨j + 1, p, ?_, by simpa using e2, ?_⟩
      · simp only [apsL]
        rw [List.getElem_append_right (by simp; omega)]
        simp only [List.length_map, aps_len]
        rw [e1, show m + 1 + j = m + (j + 1) by omega]
      · rw [chgL, if_pos (by omega), chg_past k n b hs]
        simp only
        rw [show (n : Int) - k.size = ((n - k.size : Nat) : Int) by omega, e3]
        simp
end

def leftOf (g : Gram) (t : Tree) : Option Int := (g.rules[t.rule.toNat]?).map (·.left)
def smallR1 (g : Gram) (t : Tree) (n : Nat) (x y : Tree) : List Tree := if 0 ≤ y.rule ∧ leftOf g y = leftOf g x then [(chg t n y).1] else []
def smallR (g : Gram) (t : Tree) (n : Nat) (x : Tree) : List Tree := if x.rule < 0 then [] else ((parts x).drop 1).flatMap (smallR1 g t n x)
def smallerR (g : Gram) (t : Tree) : List Tree := (parts t).zipIdx.flatMap fun z => smallR g t z.2 z.1

def least (g : Gram) (F : Tree → Bool) : Nat → Tree → Tree
  | 0, t => t
  | m + 1, t => match (smallerR g t).find? F with
    | some v => least g F m v
    | none => t
end Go.Proofs.Ytmbjnemahgfhcaa
namespace Go.Proofs.Ytmbjnemahgfhcaa
open Go.RowKit

end Go.Proofs.Ytmbjnemahgfhcaa
namespace Go.Proofs.Ytmbjnemahgfhcaa
open Go.RowKit

end Go.Proofs.Ytmbjnemahgfhcaa
namespace Go.Proofs.Ytmbjnemahgfhcaa
open Go.RowKit

def TreesPost (S : Nat → Prop) (l : List Tree) (w : World) (e : Ending) (w' : World) : Prop := ∃ v, e = .returned v ∧ Rd (fun k => S k ∨ w.heap.size ≤ k) w' (.sl (l.map Tree.d)) [v] ∧ Below w.heap.size w w'

end Go.Proofs.Ytmbjnemahgfhcaa
namespace Go.Proofs.Ytmbjnemahgfhcaa
open Go.RowKit

/-- the rest of a slice of data without its first -/
theorem Rd.tail {S : Nat → Prop} {w : World} {ds : List D} {b off n cap k : Nat} (h : Rd S w (.sl ds) [.slice (some ⟨b, off, none⟩) n cap]) (hk : ∀ d ∈ ds, d.cells = k) (hn : 1 ≤ n) :
    Rd S w (.sl (ds.drop 1)) [.slice (some ⟨b, if cap = 1 then off else off + k, none⟩) (n - 1) (cap - 1)] := by
  obtain ⟨a', cap', L, e, h1, h2, h3, h4, h5⟩ := h
  simp at e
  obtain ⟨rfl, rfl, rfl⟩ := e
  cases ds with
  | nil => simp at hn
  | cons d ds =>
    obtain ⟨c1, c2, rfl, h6, h7⟩ := h5
    have hl : c1.length = k := by rw [Rd.len d c1 h6]; exact hk d List.mem_cons_self
    simp only [List.drop_succ_cons, List.drop_zero, List.length_cons] at *
    refine ⟨_, cap - 1, c2, rfl, by omega, by omega, (fun h => by cases h), fun i hi => ⟨_, rfl, ?_, ?_⟩, h7⟩
    · obtain ⟨x, hx, hS, _⟩ := h4 (c1.length + i) (by simp; omega)
      cases hx
      exact hS
    · obtain ⟨x, hx, _, hc⟩ := h4 (c1.length + i) (by simp; omega)
      cases hx
      rw [add_at] at hc ⊢
      have hc1 : ¬ cap = 1 := by
        intro e
        have : ds = [] := List.eq_nil_of_length_eq_zero (by omega)
        subst this
        simp [RdAll] at h7
        subst h7
        simp at hi
      rw [if_neg hc1, Nat.add_assoc, ← hl, hc]
      simp

end Go.Proofs.Ytmbjnemahgfhcaa
namespace Go.Proofs.Ytmbjnemahgfhcaa
open Go.RowKit

/-- a world behind w0: what was there is as it was -/
structure Aft (w0 : World) where
  w : World
  bel : Below w0.heap.size w0 w
instance (w0 : World) : Nonempty (Aft w0) := ⟨⟨w0, Below.refl _ _⟩⟩
theorem aft_cell {w0 : World} {p : Addr} {v : Value} (h : w0.cell? p = some v) : ∀ x : Aft w0, x.w.cell? p = some v := fun x => (x.bel.cell (lt_of_cell h)).trans h
theorem Calls.after {P : Program} {f : FuncId} {args : Array Value} {w0 : World} {x : Aft w0} {v : Value} (h : Calls P f args x.w fun e w' => e = .returned v ∧ Below x.w.heap.size x.w w') :
    Calls P f args x.w fun e w'' => e = .returned v ∧ ∃ y : Aft w0, w'' = y.w :=
  h.mono fun _ w'' ⟨he, hb⟩ => ⟨he, ⟨w'', x.bel.trans (hb.mono x.bel.size)⟩, rfl⟩
end Go.Proofs.Ytmbjnemahgfhcaa
namespace Go.Proofs.Ytmbjnemahgfhcaa
open Go.RowKit

def idxG {α : Type} (p : α → Bool) (l : List α) : Int := if l.any p then (l.findIdx p : Int) else -1
theorem idxG_hit {α : Type} {p : α → Bool} {l : List α} {i : Nat} (hi : i < l.length) (h : p l[i] = true) (hn : ∀ j (h : j < l.length), j < i → p l[j] = false) : idxG p l = i := by
  have h1 : l.any p = true := List.any_eq_true.2 ⟨l[i], List.getElem_mem hi, h⟩
  rw [idxG, if_pos h1]
  have : l.findIdx p = i := by
    rw [List.findIdx_eq hi]
    exact ⟨h, fun j hj => by simp [hn j (by omega) hj]⟩
  rw [this]
theorem idxG_none {α : Type} {p : α → Bool} {l : List α} (hn : ∀ j (h : j < l.length), p l[j] = false) : idxG p l = -1 := by
  have h1 : l.any p = false := by
    rw [List.any_eq_false]
    intro x hx
    obtain ⟨j, hj, rfl⟩ := List.getElem_of_mem hx
    simp [hn j hj]
  rw [idxG, if_neg (by simp [h1])]
theorem idxG_ge {α : Type} (p : α → Bool) (l : List α) : decide (0 ≤ idxG p l) = l.any p := by
  unfold idxG
  cases h : l.any p <;> simp [h]

def PredSym (g : Nat) (lb : Array Value) (l : List Sym) (p : Sym → Bool) (w : World) : Prop :=
  ∀ (W : World) (x : Sym), x ∈ l → Below w.heap.size w W → Calls Try.prog g (#[.agg #[.bool x.term, .int .i64 x.n]] ++ lb) W fun e w' => e = .returned (.bool (p x)) ∧ Below W.heap.size W w'
def PredRule (g : Nat) (lb : Array Value) (l : List Rule) (p : Rule → Bool) (w : World) : Prop :=
  ∀ (W : World) (x : Rule) (v : Value), x ∈ l → Below w.heap.size w W → Rd AnyB W (.sl (x.right.map Sym.d)) [v] → Calls Try.prog g (#[.agg #[.int .i64 x.left, v]] ++ lb) W fun e w' => e = .returned (.bool (p x)) ∧ Below W.heap.size W w'

set_option maxHeartbeats 1000000 in
theorem indexFuncSym (g : Nat) (lb : Array Value) (p : Sym → Bool) (a : Option Addr) (cap : Nat) (l : List Sym) (w : World) (eg : ∀ args w, (callFunc g args).run Try.prog w = .ok (.enter g args) w)
    (hf : PredSym g lb l p w) (hl : Rd AnyB w (.sl (l.map Sym.d)) [.slice a l.length cap]) :
    Calls Try.prog 29 #[.slice a l.length cap, .func (.func g) #[] lb] w fun e w' => e = .returned (.int .i64 (idxG p l)) ∧ Below w.heap.size w w' := by
  have HL := Lib.hid hl
  have HF := Lib.hid hf
  have hc := hl.bounds.2
  unfold maxLen at hc
  obtain ⟨hc1, hc2⟩ := hc
  clear hl hf
  go_enter Try.func29, Try.ntmps29
  go_wp2
  go_loopg [8] l.length (fun gg v8 wr => ∃ i : Nat, i ≤ l.length ∧ l.length - i ≤ gg ∧ v8 = .int .i64 i ∧ Hid (Below w.heap.size w wr) ∧ Hid (∀ j (h : j < l.length), j < i → p l[j] = false))
  case atStart => exact ⟨0, by omega, by omega, rfl, Below.refl _ _, fun j _ hj => by omega⟩
  case round =>
    obtain ⟨i, hi, hg, rfl, HB, HN⟩ := hrel
    by_cases hlt : i < l.length
    · have hlt' : (i : Int) < (l.length : Int) := by omega
      obtain ⟨b, off, hae, -, -, c0, c1⟩ := (HL.out.below HB.out).sym_at hlt
      obtain ⟨x, HX⟩ := nameIt (l[i]'hlt)
      rw [HX.out] at c0 c1
      have hcall := HF.out wr x (by rw [← HX.out]; exact List.getElem_mem hlt) HB.out
      obtain ⟨q0, HQ0⟩ := nameIt x.term
      obtain ⟨q1, HQ1⟩ := nameIt x.n
      rw [HQ0.out] at c0 hcall
      rw [HQ1.out] at c1 hcall
      have HC := Lib.hid hcall
      clear hcall
      subst hae
      go_wp2_with fail
      refine HC.out.mono ?_
      rintro e w6 ⟨rfl, hb6⟩
      have HB6 := Lib.hid (HB.out.trans (hb6.mono HB.out.size))
      clear hb6 c0 c1
      cases hp : p x with
      | true =>
        have HE : Hid (idxG p l = i) := idxG_hit hlt (by rw [HX.out]; exact hp) HN.out
        clear hp
        go_wp2
        go_ret
        exact ⟨by rw [HE.out]; rfl, HB6.out⟩
      | false =>
        have HN2 : Hid (∀ j (h : j < l.length), j < i + 1 → p l[j] = false) := by
          intro j h hj
          by_cases e : j = i
          · subst e; rw [HX.out]; exact hp
          · exact HN.out j h (by omega)
        clear hp
        go_wp2
        go_roundg (l.length - (i + 1))
        case measure => omega
        case rel => exact ⟨i + 1, by omega, by omega, by go_num, HB6, HN2⟩
    · have hlt' : ¬ (i : Int) < (l.length : Int) := by omega
      have HE : Hid (idxG p l = -1) := idxG_none fun j hj => HN.out j hj (by omega)
      go_wp2
      go_ret
      exact ⟨by rw [HE.out]; rfl, HB.out⟩

set_option maxHeartbeats 1000000 in
theorem containsFuncSym (g : Nat) (lb : Array Value) (p : Sym → Bool) (a : Option Addr) (cap : Nat) (l : List Sym) (w : World) (eg : ∀ args w, (callFunc g args).run Try.prog w = .ok (.enter g args) w)
    (hf : PredSym g lb l p w) (hl : Rd AnyB w (.sl (l.map Sym.d)) [.slice a l.length cap]) :
    Calls Try.prog 15 #[.slice a l.length cap, .func (.func g) #[] lb] w fun e w' => e = .returned (.bool (l.any p)) ∧ Below w.heap.size w w' := by
  have HL := Lib.hid hl
  have HF := Lib.hid hf
  have HG := Lib.hid eg
  clear hl hf eg
  go_enter Try.func15, Try.ntmps15
  go_wp2_with fail
  refine (indexFuncSym g lb p a cap l w HG.out HF.out HL.out).mono ?_
  rintro e w1 ⟨rfl, hb⟩
  have HB := Lib.hid hb
  clear hb
  go_wp2
  go_ret
  exact ⟨by rw [idxG_ge]; rfl, HB.out⟩

set_option maxHeartbeats 1000000 in
theorem indexFuncRule (g : Nat) (lb : Array Value) (p : Rule → Bool) (a : Option Addr) (cap : Nat) (l : List Rule) (w : World) (eg : ∀ args w, (callFunc g args).run Try.prog w = .ok (.enter g args) w)
    (hf : PredRule g lb l p w) (hl : Rd AnyB w (.sl (l.map Rule.d)) [.slice a l.length cap]) :
    Calls Try.prog 31 #[.slice a l.length cap, .func (.func g) #[] lb] w fun e w' => e = .returned (.int .i64 (idxG p l)) ∧ Below w.heap.size w w' := by
  have HL := Lib.hid hl
  have HF := Lib.hid hf
  have hc := hl.bounds.2
  unfold maxLen at hc
  obtain ⟨hc1, hc2⟩ := hc
  clear hl hf
  go_enter Try.func31, Try.ntmps31
  go_wp2
  go_loopg [8] l.length (fun gg v8 wr => ∃ i : Nat, i ≤ l.length ∧ l.length - i ≤ gg ∧ v8 = .int .i64 i ∧ Hid (Below w.heap.size w wr) ∧ Hid (∀ j (h : j < l.length), j < i → p l[j] = false))
  case atStart => exact ⟨0, by omega, by omega, rfl, Below.refl _ _, fun j _ hj => by omega⟩
  case round =>
    obtain ⟨i, hi, hg, rfl, HB, HN⟩ := hrel
    by_cases hlt : i < l.length
    · have hlt' : (i : Int) < (l.length : Int) := by omega
      obtain ⟨b, off, vr, hae, -, -, c0, c1, hkr⟩ := (HL.out.below HB.out).rule_at hlt
      obtain ⟨ar, cr, rfl, -, -⟩ := hkr.form
      rw [List.length_map] at c1 hkr
      obtain ⟨x, HX⟩ := nameIt (l[i]'hlt)
      rw [HX.out] at c0 c1 hkr
      have hcall := HF.out wr x _ (by rw [← HX.out]; exact List.getElem_mem hlt) HB.out hkr
      obtain ⟨q0, HQ0⟩ := nameIt x.left
      obtain ⟨q1, HQ1⟩ := nameIt x.right.length
      rw [HQ0.out] at c0 hcall
      rw [HQ1.out] at c1 hcall
      have HC := Lib.hid hcall
      clear hcall hkr
      subst hae
      go_wp2_with fail
      refine HC.out.mono ?_
      rintro e w6 ⟨rfl, hb6⟩
      have HB6 := Lib.hid (HB.out.trans (hb6.mono HB.out.size))
      clear hb6 c0 c1
      cases hp : p x with
      | true =>
        have HE : Hid (idxG p l = i) := idxG_hit hlt (by rw [HX.out]; exact hp) HN.out
        clear hp
        go_wp2
        go_ret
        exact ⟨by rw [HE.out]; rfl, HB6.out⟩
      | false =>
        have HN2 : Hid (∀ j (h : j < l.length), j < i + 1 → p l[j] = false) := by
          intro j h hj
          by_cases e : j = i
          · subst e; rw [HX.out]; exact hp
          · exact HN.out j h (by omega)
        clear hp
        go_wp2
        go_roundg (l.length - (i + 1))
        case measure => omega
        case rel => exact ⟨i + 1, by omega, by omega, by go_num, HB6, HN2⟩
    · have hlt' : ¬ (i : Int) < (l.length : Int) := by omega
      have HE : Hid (idxG p l = -1) := idxG_none fun j hj => HN.out j hj (by omega)
      go_wp2
      go_ret
      exact ⟨by rw [HE.out]; rfl, HB.out⟩

set_option maxHeartbeats 1000000 in
theorem containsFuncRule (g : Nat) (lb : Array Value) (p : Rule → Bool) (a : Option Addr) (cap : Nat) (l : List Rule) (w : World) (eg : ∀ args w, (callFunc g args).run Try.prog w = .ok (.enter g args) w)
    (hf : PredRule g lb l p w) (hl : Rd AnyB w (.sl (l.map Rule.d)) [.slice a l.length cap]) :
    Calls Try.prog 25 #[.slice a l.length cap, .func (.func g) #[] lb] w fun e w' => e = .returned (.bool (l.any p)) ∧ Below w.heap.size w w' := by
  have HL := Lib.hid hl
  have HF := Lib.hid hf
  have HG := Lib.hid eg
  clear hl hf eg
  go_enter Try.func25, Try.ntmps25
  go_wp2_with fail
  refine (indexFuncRule g lb p a cap l w HG.out HF.out HL.out).mono ?_
  rintro e w1 ⟨rfl, hb⟩
  have HB := Lib.hid hb
  clear hb
  go_wp2
  go_ret
  exact ⟨by rw [idxG_ge]; rfl, HB.out⟩

set_option maxHeartbeats 1000000 in
theorem orderS (x y : Sym) (w : World) : Calls Try.prog 35 #[.agg #[.bool x.term, .int .i64 x.n], .agg #[.bool y.term, .int .i64 y.n]] w fun e w' => e = .returned (.int .i64 (ordS x y)) ∧ Below w.heap.size w w' := by
  obtain ⟨x0, x1⟩ := x
  obtain ⟨y0, y1⟩ := y
  dsimp only
  cases x0 <;> cases y0
  · have HC := Lib.hid (fun W => compareInt x1 y1 W)
    have HO : Hid (ordS ⟨false, x1⟩ ⟨false, y1⟩ = cmp3 x1 y1) := by show _ = _; simp [ordS]
    go_enter Try.func35, Try.ntmps35
    go_wp2_with fail
    refine (HC.out _).mono ?_
    rintro e w' ⟨rfl, rfl⟩
    go_wp2_with fail
    go_ret
    exact ⟨by rw [HO.out]; rfl, ((Below.refl _ _).alloc (Nat.le_refl _) _).alloc (by simp) _⟩
  · have HO : Hid (ordS ⟨false, x1⟩ ⟨true, y1⟩ = 1) := by show _ = _; simp [ordS]
    go_enter Try.func35, Try.ntmps35
    go_wp2_with fail
    go_ret
    exact ⟨by rw [HO.out]; rfl, ((Below.refl _ _).alloc (Nat.le_refl _) _).alloc (by simp) _⟩
  · have HO : Hid (ordS ⟨true, x1⟩ ⟨false, y1⟩ = -1) := by show _ = _; simp [ordS]
    go_enter Try.func35, Try.ntmps35
    go_wp2_with fail
    go_ret
    exact ⟨by rw [HO.out]; rfl, ((Below.refl _ _).alloc (Nat.le_refl _) _).alloc (by simp) _⟩
  · have HC := Lib.hid (fun W => compareInt x1 y1 W)
    have HO : Hid (ordS ⟨true, x1⟩ ⟨true, y1⟩ = cmp3 x1 y1) := by show _ = _; simp [ordS]
    go_enter Try.func35, Try.ntmps35
    go_wp2_with fail
    refine (HC.out _).mono ?_
    rintro e w' ⟨rfl, rfl⟩
    go_wp2_with fail
    go_ret
    exact ⟨by rw [HO.out]; rfl, ((Below.refl _ _).alloc (Nat.le_refl _) _).alloc (by simp) _⟩

theorem cmpS_at {l m : List Sym} {i : Nat} (h : i < l.length) (h2 : i < m.length) : cmpS (l.drop i) (m.drop i) = if ordS l[i] m[i] = 0 then cmpS (l.drop (i + 1)) (m.drop (i + 1)) else ordS l[i] m[i] := by
  rw [List.drop_eq_getElem_cons h, List.drop_eq_getElem_cons h2, cmpS]
theorem cmpS_long {l m : List Sym} {i : Nat} (h : i < l.length) (h2 : m.length ≤ i) : cmpS (l.drop i) (m.drop i) = 1 := by
  rw [List.drop_eq_getElem_cons h, List.drop_of_length_le h2, cmpS]
theorem cmpS_short {l m : List Sym} {i : Nat} (h : l.length ≤ i) (h2 : i < m.length) : cmpS (l.drop i) (m.drop i) = -1 := by
  rw [List.drop_eq_getElem_cons h2, List.drop_of_length_le h, cmpS]
theorem cmpS_end {l m : List Sym} {i : Nat} (h : l.length ≤ i) (h2 : m.length ≤ i) : cmpS (l.drop i) (m.drop i) = 0 := by
  rw [List.drop_of_length_le h2, List.drop_of_length_le h, cmpS]

set_option maxHeartbeats 1000000 in
theorem compareSyms (a a' : Option Addr) (cap cap' : Nat) (l m : List Sym) (w : World) (hl : Rd AnyB w (.sl (l.map Sym.d)) [.slice a l.length cap]) (hm : Rd AnyB w (.sl (m.map Sym.d)) [.slice a' m.length cap']) :
    Calls Try.prog 34 #[.slice a l.length cap, .slice a' m.length cap', .func (.func 35) #[] #[]] w fun e w' => e = .returned (.int .i64 (cmpS l m)) ∧ Below w.heap.size w w' := by
  have HL := Lib.hid hl
  have HM := Lib.hid hm
  have hc := hl.bounds.2
  have hc' := hm.bounds.2
  unfold maxLen at hc hc'
  obtain ⟨hc1, hc2⟩ := hc
  obtain ⟨hc3, hc4⟩ := hc'
  clear hl hm
  go_enter Try.func34, Try.ntmps34
  go_wp2_with fail
  go_loopg [13] l.length (fun gg v13 wr => ∃ i : Nat, i ≤ l.length ∧ l.length - i ≤ gg ∧ v13 = .int .i64 i ∧ Hid (Below w.heap.size w wr) ∧ Hid (cmpS (l.drop i) (m.drop i) = cmpS l m))
  case atStart => exact ⟨0, by omega, by omega, rfl, Below.refl _ _, rfl⟩
  case round =>
    obtain ⟨i, hi, hg, rfl, HB, HE⟩ := hrel
    by_cases hlt : i < l.length
    · have hlt' : (i : Int) < (l.length : Int) := by omega
      obtain ⟨b, off, hae, -, -, c0, c1⟩ := (HL.out.below HB.out).sym_at hlt
      by_cases hlt2 : i < m.length
      · have hlt2' : (i : Int) < (m.length : Int) := by omega
        obtain ⟨b', off', hae', -, -, d0, d1⟩ := (HM.out.below HB.out).sym_at hlt2
        have h1 := HE.out
        rw [cmpS_at hlt hlt2] at h1
        obtain ⟨x, HX⟩ := nameIt (l[i]'hlt)
        obtain ⟨y, HY⟩ := nameIt (m[i]'hlt2)
        rw [HX.out] at c0 c1 h1
        rw [HY.out] at d0 d1 h1
        have hcall := fun W => orderS x y W
        obtain ⟨c, HC⟩ := nameIt (ordS x y)
        obtain ⟨q0, HQ0⟩ := nameIt x.term
        obtain ⟨q1, HQ1⟩ := nameIt x.n
        obtain ⟨p0, HP0⟩ := nameIt y.term
        obtain ⟨p1, HP1⟩ := nameIt y.n
        rw [HC.out] at h1 hcall
        rw [HQ0.out] at c0 hcall
        rw [HQ1.out] at c1 hcall
        rw [HP0.out] at d0 hcall
        rw [HP1.out] at d1 hcall
        have H1 := Lib.hid h1
        have HCA := Lib.hid hcall
        have hne := lt_of_cell d0
        subst hae hae'
        clear h1 hcall
        have hbb := ((Below.refl wr.heap.size wr).alloc (Nat.le_refl _) (.cells #[.bool q0, .int .i64 q1] 42)).alloc (by simp) (.cells #[.bool p0, .int .i64 p1] 42)
        have HBB := Lib.hid (HB.out.trans (hbb.mono HB.out.size))
        clear hbb
        go_wp2_with fail
        refine (HCA.out _).mono ?_
        rintro e w6 ⟨rfl, hb6⟩
        have HB6 := Lib.hid (HBB.out.trans (hb6.mono HBB.out.size))
        clear hb6 c0 c1 d0 d1
        by_cases h0 : c = 0
        · subst h0
          have h2 := H1.out
          rw [if_pos rfl] at h2
          have HE2 := Lib.hid h2
          clear h2
          go_wp2_with fail
          go_roundg (l.length - (i + 1))
          case measure => omega
          case rel => exact ⟨i + 1, by omega, by omega, by go_num, HB6, HE2⟩
        · have h2 := H1.out
          rw [if_neg h0] at h2
          have HE2 := Lib.hid h2
          have hcb : (c != 0) = true := by simpa using h0
          clear h2 h0
          go_wp2_with fail
          go_ret
          exact ⟨by rw [← HE2.out]; rfl, HB6.out⟩
      · have hlt2' : (m.length : Int) ≤ (i : Int) := by omega
        have HE2 : Hid (cmpS l m = 1) := by show _ = _; rw [← HE.out]; exact cmpS_long hlt (by omega)
        subst hae
        go_wp2_with fail
        go_ret
        exact ⟨by rw [HE2.out]; rfl, HB.out.alloc HB.out.size _⟩
    · have hlt' : ¬ (i : Int) < (l.length : Int) := by omega
      by_cases hlt2 : l.length < m.length
      · have HE2 : Hid (cmpS l m = -1) := by show _ = _; rw [← HE.out]; exact cmpS_short (by omega) (by omega)
        have hlt3 : (l.length : Int) < (m.length : Int) := by omega
        go_wp2_with fail
        go_ret
        exact ⟨by rw [HE2.out]; rfl, HB.out⟩
      · have HE2 : Hid (cmpS l m = 0) := by show _ = _; rw [← HE.out]; exact cmpS_end (by omega) (by omega)
        have hlt3 : ¬ (l.length : Int) < (m.length : Int) := by omega
        go_wp2_with fail
        go_ret
        exact ⟨by rw [HE2.out]; rfl, HB.out⟩
end Go.Proofs.Ytmbjnemahgfhcaa
namespace Go.Proofs.Ytmbjnemahgfhcaa
open Go.RowKit

theorem cells4 {W w' : World} (hb : Below W.heap.size W w') {b1 b2 : Nat} {T : TypeId} {a0 a1 c0 c1 : Value} (h1 : W.heap[b1]? = some (.cells #[a0, a1] T (0, 0))) (h2 : W.heap[b2]? = some (.cells #[c0, c1] T (0, 0))) :
    w'.cell? ⟨b1, 0, none⟩ = some a0 ∧ w'.cell? ⟨b1, 0 + 1, none⟩ = some a1 ∧ w'.cell? ⟨b2, 0, none⟩ = some c0 ∧ w'.cell? ⟨b2, 0 + 1, none⟩ = some c1 := by
  obtain ⟨x1, x2⟩ := bx_cells2 (bx_keep h1 hb)
  obtain ⟨x4, x5⟩ := bx_cells2 (bx_keep h2 hb)
  exact ⟨x1, x2, x4, x5⟩

set_option maxHeartbeats 1000000 in
set_option maxRecDepth 100000 in
theorem compareR (x y : Rule) (a a' : Option Addr) (c c' : Nat) (w : World) (hx : Rd AnyB w (.sl (x.right.map Sym.d)) [.slice a x.right.length c]) (hy : Rd AnyB w (.sl (y.right.map Sym.d)) [.slice a' y.right.length c']) :
    Calls Try.prog 27 #[.agg #[.int .i64 x.left, .slice a x.right.length c], .agg #[.int .i64 y.left, .slice a' y.right.length c']] w fun e w' => e = .returned (.int .i64 (cmpR x y)) ∧ Below w.heap.size w w' := by
  obtain ⟨lx, HLX⟩ := nameIt x.left
  obtain ⟨ly, HLY⟩ := nameIt y.left
  obtain ⟨nx, HNX⟩ := nameIt x.right.length
  obtain ⟨ny, HNY⟩ := nameIt y.right.length
  obtain ⟨w0, HW0⟩ := nameIt ((w.alloc (.cells #[.int .i64 lx, .slice a nx c] 32)).alloc (.cells #[.int .i64 ly, .slice a' ny c'] 32))
  have HB : Hid (Below w.heap.size w w0) := by rw [← HW0.out]; exact ((Below.refl _ _).alloc (Nat.le_refl _) _).alloc (by simp) _
  have X1 : Hid (w0.heap[w.heap.size]? = some (.cells #[.int .i64 lx, .slice a nx c] 32 (0, 0))) := by
    rw [← HW0.out]; exact bx_keep (bx_new _ _ _ rfl) ((Below.refl _ _).alloc (Nat.le_refl _) _)
  have X2 : Hid (w0.heap[w.heap.size + 1]? = some (.cells #[.int .i64 ly, .slice a' ny c'] 32 (0, 0))) := by
    rw [← HW0.out]; exact bx_new _ _ _ (by simp)
  obtain ⟨q1, HQ1⟩ := nameIt (cmp3 lx ly)
  obtain ⟨q2, HQ2⟩ := nameIt (cmpS x.right y.right)
  have C1 := Lib.hid (fun W => compareInt lx ly W)
  have C2 := Lib.hid (fun W (hb : Below w0.heap.size w0 W) => compareSyms a a' c c' x.right y.right W ((hx.below HB.out).below hb) ((hy.below HB.out).below hb))
  rw [HQ1.out] at C1
  rw [HQ2.out, HNX.out, HNY.out] at C2
  have HR : Hid (cmpR x y = orL [q1, q2]) := by show _ = _; unfold cmpR; rw [HLX.out, HLY.out, HQ1.out, HQ2.out]
  rw [HLX.out, HLY.out, HNX.out, HNY.out]
  obtain ⟨x0, x1⟩ := bx_cells2 X1.out
  obtain ⟨y0, y1⟩ := bx_cells2 X2.out
  clear hx hy
  go_enter Try.func27, Try.ntmps27
  go_wp2_with fail
  rw [HW0.out]
  go_region_held3 (fun w' => w'.cell? ⟨w.heap.size, 0, none⟩ = some (.int .i64 lx) ∧ w'.cell? ⟨w.heap.size, 0 + 1, none⟩ = some (.slice a nx c) ∧ w'.cell? ⟨w.heap.size + 1, 0, none⟩ = some (.int .i64 ly) ∧ w'.cell? ⟨w.heap.size + 1, 0 + 1, none⟩ = some (.slice a' ny c'))
    (first | exact cells4 (Below.refl _ _).drew X1.out X2.out | exact cells4 (HB2.out.alloc HB2.out.size _) X1.out X2.out | exact cells4 HB2.out X1.out X2.out | fail)
    (first
      | (go_at_call 33; (with_reducible refine (C1.out _).mono ?_); rintro e w' ⟨rfl, rfl⟩)
      | (go_at_call 34; (with_reducible refine (C2.out _ (Below.refl _ _).drew).mono ?_); rintro e w2 ⟨rfl, hb2⟩; have HB2 : Hid (Below w0.heap.size w0 w2) := (Below.refl _ _).drew.trans hb2; clear hb2)
      | (go_at_call 32; (with_reducible refine (orInt _ [q1, q2] _ (sl_lit (v := #[.int .i64 q1, .int .i64 q2]) rfl (of_decide_eq_true rfl))).mono ?_); rintro e w' ⟨rfl, rfl⟩)
      | fail)
  go_wp2_with fail
  go_ret
  have hB := HB.out.trans (HB2.out.mono HB.out.size)
  exact ⟨by rw [HR.out]; rfl, hB.alloc hB.size _⟩

set_option maxHeartbeats 1000000 in
set_option maxRecDepth 100000 in
theorem hasE (g : Gram) (a : Option Addr) (n c : Nat) (s : Sym) (w : World) :
    Calls Try.prog 24 #[.agg #[.int .i64 g.terms, .int .i64 g.nons, .int .i64 g.start, .slice a n c], .agg #[.bool s.term, .int .i64 s.n]] w fun e w' => e = .returned (.bool (hasS g s)) ∧ Below w.heap.size w w' := by
  obtain ⟨gt, HGT⟩ := nameIt g.terms
  obtain ⟨gn, HGN⟩ := nameIt g.nons
  obtain ⟨gs, HGS⟩ := nameIt g.start
  obtain ⟨st, HST⟩ := nameIt s.term
  obtain ⟨sn, HSN⟩ := nameIt s.n
  obtain ⟨B, HBn⟩ := nameIt (hasS g s)
  have HV : Hid ((decide (0 ≤ sn) && (st && decide (sn < gt) || !st && decide (sn < gn))) = B) := by show _ = _; rw [← HBn.out]; unfold hasS; rw [HGT.out, HGN.out, HST.out, HSN.out]
  rw [HGT.out, HGN.out, HGS.out, HST.out, HSN.out, HBn.out]
  by_cases h0 : 0 ≤ sn
  · have b0 : decide (0 ≤ sn) = true := by simpa using h0
    cases st with
    | true =>
      by_cases h1 : sn < gt
      · have b1 : decide (sn < gt) = true := by simpa using h1
        obtain rfl : B = true := by rw [← HV.out]; simp [h0, h1]
        clear h0 h1
        go_enter Try.func24, Try.ntmps24
        go_wp2_with fail
        go_ret
        exact ⟨rfl, ((Below.refl _ _).alloc (Nat.le_refl _) _).alloc (by simp) _⟩
      · have b1 : decide (sn < gt) = false := by simpa using h1
        obtain rfl : B = false := by rw [← HV.out]; simp [h0, h1]
        clear h0 h1
        go_enter Try.func24, Try.ntmps24
        go_wp2_with fail
        go_ret
        exact ⟨rfl, ((Below.refl _ _).alloc (Nat.le_refl _) _).alloc (by simp) _⟩
    | false =>
      by_cases h1 : sn < gn
      · have b1 : decide (sn < gn) = true := by simpa using h1
        obtain rfl : B = true := by rw [← HV.out]; simp [h0, h1]
        clear h0 h1
        go_enter Try.func24, Try.ntmps24
        go_wp2_with fail
        go_ret
        exact ⟨rfl, ((Below.refl _ _).alloc (Nat.le_refl _) _).alloc (by simp) _⟩
      · have b1 : decide (sn < gn) = false := by simpa using h1
        obtain rfl : B = false := by rw [← HV.out]; simp [h0, h1]
        clear h0 h1
        go_enter Try.func24, Try.ntmps24
        go_wp2_with fail
        go_ret
        exact ⟨rfl, ((Below.refl _ _).alloc (Nat.le_refl _) _).alloc (by simp) _⟩
  · have b0 : decide (0 ≤ sn) = false := by simpa using h0
    obtain rfl : B = false := by rw [← HV.out]; simp [h0]
    clear h0
    go_enter Try.func24, Try.ntmps24
    go_wp2_with fail
    go_ret
    exact ⟨rfl, ((Below.refl _ _).alloc (Nat.le_refl _) _).alloc (by simp) _⟩

set_option maxHeartbeats 1000000 in
theorem hasF (g : Gram) (b : Nat) (a : Option Addr) (n c : Nat) (l : List Sym) (w : World) (hx : w.heap[b]? = some (.cells #[.int .i64 g.terms, .int .i64 g.nons, .int .i64 g.start, .slice a n c] 24 (0, 0))) :
    PredSym 23 #[.pointer (some ⟨b, 0, none⟩)] l (fun s => !hasS g s) w := by
  intro W s _ hb
  have hc := hasE g a n c s
  have hx' := bx_keep hx hb
  obtain ⟨gt, HGT⟩ := nameIt g.terms
  obtain ⟨gn, HGN⟩ := nameIt g.nons
  obtain ⟨gs, HGS⟩ := nameIt g.start
  obtain ⟨st, HST⟩ := nameIt s.term
  obtain ⟨sn, HSN⟩ := nameIt s.n
  obtain ⟨B, HBn⟩ := nameIt (hasS g s)
  rw [HGT.out, HGN.out, HGS.out] at hx'
  rw [HGT.out, HGN.out, HGS.out, HST.out, HSN.out, HBn.out] at hc
  dsimp only
  rw [HST.out, HSN.out, HBn.out]
  obtain ⟨x0, x1, x2, x3⟩ := bx_cells4 hx'
  have hlt := (Array.getElem?_eq_some_iff.1 hx').1
  have HC := Lib.hid hc
  clear hc hx hb hx'
  show Calls _ _ #[_, _] _ _
  go_enter Try.func23, Try.ntmps23
  go_wp2_with fail
  refine (HC.out _).mono ?_
  rintro e w1 ⟨rfl, hb1⟩
  have hB := (Below.refl W.heap.size W).alloc (Nat.le_refl _) (.cells #[.bool st, .int .i64 sn] 42)
  have HB1 := Lib.hid (hB.trans (hb1.mono hB.size))
  clear hb1 hB x0 x1 x2 x3
  cases B
  all_goals
    go_wp2_with fail
    go_ret
    exact ⟨rfl, HB1.out⟩

set_option maxHeartbeats 1000000 in
theorem sameRF (r : Rule) (b : Nat) (ar : Option Addr) (cr : Nat) (l : List Rule) (w : World) (hx : w.heap[b]? = some (.cells #[.int .i64 r.left, .slice ar r.right.length cr] 32 (0, 0))) (hr : Rd AnyB w (.sl (r.right.map Sym.d)) [.slice ar r.right.length cr]) :
    PredRule 26 #[.pointer (some ⟨b, 0, none⟩)] l (fun x => cmpR x r == 0) w := by
  intro W x v _ hb hv
  obtain ⟨av, cv, rfl, -, -⟩ := hv.form
  rw [List.length_map] at hv ⊢
  have hx' := bx_keep hx hb
  have hc := fun W' (h : Below W.heap.size W W') => compareR x r av ar cv cr W' (hv.below h) ((hr.below hb).below h)
  obtain ⟨lx, HLX⟩ := nameIt x.left
  obtain ⟨nx, HNX⟩ := nameIt x.right.length
  obtain ⟨lr, HLR⟩ := nameIt r.left
  obtain ⟨nr, HNR⟩ := nameIt r.right.length
  obtain ⟨q, HQ⟩ := nameIt (cmpR x r)
  rw [HLX.out, HNX.out, HLR.out, HNR.out, HQ.out] at hc
  rw [HLR.out, HNR.out] at hx'
  dsimp only
  rw [HLX.out, HNX.out, HQ.out]
  obtain ⟨x0, x1⟩ := bx_cells2 hx'
  have hlt := (Array.getElem?_eq_some_iff.1 hx').1
  have HC := Lib.hid hc
  clear hc hx hb hx' hv hr
  show Calls _ _ #[_, _] _ _
  go_enter Try.func26, Try.ntmps26
  go_wp2_with fail
  refine (HC.out _ ((Below.refl _ _).alloc (Nat.le_refl _) _)).mono ?_
  rintro e w1 ⟨rfl, hb1⟩
  have hB := (Below.refl W.heap.size W).alloc (Nat.le_refl _) (.cells #[.int .i64 lx, .slice av nx cv] 32)
  have HB1 := Lib.hid (hB.trans (hb1.mono hB.size))
  clear hb1 hB x0 x1
  go_wp2_with fail
  go_ret
  exact ⟨rfl, HB1.out⟩

/-- the first elements of a slice -/
theorem Rd.start {S : Nat → Prop} {w : World} {ds : List D} {a : Option Addr} {n cap i : Nat} (h : Rd S w (.sl ds) [.slice a n cap]) (hi : i ≤ ds.length) : Rd S w (.sl (ds.take i)) [.slice a i cap] := by
  obtain ⟨a', cap', L, e, h1, h2, h3, h4, h5⟩ := h
  simp at e
  obtain ⟨rfl, rfl, rfl⟩ := e
  rw [← List.take_append_drop i ds] at h5
  obtain ⟨c1, c2, rfl, h6, h7⟩ := h5.split
  refine ⟨a, cap, c1, by simp; omega, by simp; omega, h2, h3, fun j hj => ?_, h6⟩
  have := h4 j (by simp; omega)
  rwa [List.getElem_append_left hj] at this

theorem badHead_cases {g : Gram} (h : badHead g = true) : (decide (g.terms < 1) = true) ∨ (decide (g.terms < 1) = false ∧ decide (8 < g.terms) = true) ∨ (decide (g.terms < 1) = false ∧ decide (8 < g.terms) = false ∧ decide (g.nons < 1) = true) ∨ (decide (g.terms < 1) = false ∧ decide (8 < g.terms) = false ∧ decide (g.nons < 1) = false ∧ decide (10 < g.nons) = true) ∨
    (decide (g.terms < 1) = false ∧ decide (8 < g.terms) = false ∧ decide (g.nons < 1) = false ∧ decide (10 < g.nons) = false ∧ decide (g.start < 0) = true) ∨ (decide (g.terms < 1) = false ∧ decide (8 < g.terms) = false ∧ decide (g.nons < 1) = false ∧ decide (10 < g.nons) = false ∧ decide (g.start < 0) = false ∧ decide (g.nons ≤ g.start) = true) := by
  simp [badHead] at h ⊢
  omega
theorem goodHead {g : Gram} (h : ¬ badHead g = true) : decide (g.terms < 1) = false ∧ decide (8 < g.terms) = false ∧ decide (g.nons < 1) = false ∧ decide (10 < g.nons) = false ∧ decide (g.start < 0) = false ∧ decide (g.nons ≤ g.start) = false := by
  simp [badHead] at h ⊢
  omega

set_option maxHeartbeats 4000000 in
set_option maxRecDepth 100000 in
theorem checkE (g : Gram) (ar : Option Addr) (cr : Nat) (w : World) (hr : Rd AnyB w (.sl (g.rules.map Rule.d)) [.slice ar g.rules.length cr]) :
    Calls Try.prog 12 #[.agg #[.int .i64 g.terms, .int .i64 g.nons, .int .i64 g.start, .slice ar g.rules.length cr]] w fun e w' => e = .returned (.int .i64 (checkG g)) ∧ Below w.heap.size w w' := by
  have hbs := hr.bounds.2
  unfold maxLen at hbs
  obtain ⟨hc1, hc2⟩ := hbs
  obtain ⟨gt, HGT⟩ := nameIt g.terms
  obtain ⟨gn, HGN⟩ := nameIt g.nons
  obtain ⟨gs, HGS⟩ := nameIt g.start
  obtain ⟨K, HK⟩ := nameIt g.rules
  have HBC := Lib.hid (@badHead_cases g)
  have HGH := Lib.hid (@goodHead g)
  rw [HGT.out, HGN.out, HGS.out] at HBC HGH
  obtain ⟨w0, HW0⟩ := nameIt (w.alloc (.cells #[.int .i64 gt, .int .i64 gn, .int .i64 gs, .slice ar K.length cr] 24))
  have HB0 : Hid (Below w.heap.size w w0) := by rw [← HW0.out]; exact (Below.refl _ _).alloc (Nat.le_refl _) _
  have X1 : Hid (w0.heap[w.heap.size]? = some (.cells #[.int .i64 gt, .int .i64 gn, .int .i64 gs, .slice ar K.length cr] 24 (0, 0))) := by rw [← HW0.out]; exact bx_new _ _ _ rfl
  have HR := Lib.hid (hr.below HB0.out)
  rw [HK.out] at HR hc1
  rw [HGT.out, HGN.out, HGS.out, HK.out]
  obtain ⟨x0, x1, x2, x3⟩ := bx_cells4 X1.out
  clear hr
  by_cases hbad : badHead g = true
  · have HE : Hid (checkG g = 1) := by show _ = _; simp [checkG, hbad]
    rcases HBC.out hbad with h1 | ⟨h1, h2⟩ | ⟨h1, h2, h3⟩ | ⟨h1, h2, h3, h4⟩ | ⟨h1, h2, h3, h4, h5⟩ | ⟨h1, h2, h3, h4, h5, h6⟩
    all_goals
      clear hbad
      go_enter Try.func12, Try.ntmps12
      go_upto_region 1 with fail
      rw [HW0.out]
      go_wp2_with fail
      go_ret
      exact ⟨by rw [HE.out]; rfl, HB0.out⟩
  · obtain ⟨h1, h2, h3, h4, h5, h6⟩ := HGH.out hbad
    have HBD := Lib.hid hbad
    clear hbad
    by_cases hlen : 32 < K.length
    · have HE : Hid (checkG g = 2) := by show _ = _; rw [checkG, if_neg HBD.out, HK.out, if_pos hlen]
      have hlen' : (32 : Int) < (K.length : Int) := by omega
      go_enter Try.func12, Try.ntmps12
      go_upto_region 1 with fail
      rw [HW0.out]
      go_wp2_with fail
      go_ret
      exact ⟨by rw [HE.out]; rfl, HB0.out⟩
    · have HE : Hid (checkG g = faultsFrom g 0 K) := by show _ = _; rw [checkG, if_neg HBD.out, HK.out, if_neg hlen]
      have hlen' : ¬ (32 : Int) < (K.length : Int) := by omega
      go_enter Try.func12, Try.ntmps12
      go_upto_region 1 with fail
      rw [HW0.out]
      go_wp2_with fail
      clear h1 h2 h3 h4 h5 h6 x0 x1 x2 x3
      go_loopg [42] K.length (fun gg v42 wr => ∃ i : Nat, i ≤ K.length ∧ K.length - i ≤ gg ∧ v42 = .int .i64 i ∧ Hid (Below w0.heap.size w0 wr) ∧ Hid (faultsFrom g i (K.drop i) = faultsFrom g 0 K))
      case atStart => exact ⟨0, by omega, by omega, rfl, Below.refl _ _, rfl⟩
      case round =>
        obtain ⟨i, hi, hg, rfl, HB, HF⟩ := hrel
        by_cases hlt : i < K.length
        · have hlt' : (i : Int) < (K.length : Int) := by omega
          have hiK : (i : Int) ≤ (cr : Int) := by omega
          obtain ⟨b, off, vr, hae, -, hbl, c0, c1, hkr⟩ := (HR.out.below HB.out).rule_at hlt
          obtain ⟨av, cv, rfl, -, hcv⟩ := hkr.form
          rw [List.length_map] at c1 hkr
          have h1 := HF.out
          have hrl : i < g.rules.length := by rw [HK.out]; exact hlt
          rw [← HK.out, faultsFrom_at hrl] at h1
          simp only [HK.out] at h1
          obtain ⟨r, HRn⟩ := nameIt (K[i]'hlt)
          rw [HRn.out] at c0 c1 hkr h1
          have hbl2 : b < wr.heap.size := hbl
          obtain ⟨w4, HW4⟩ := nameIt (wr.alloc (.cells #[.int .i64 r.left, .slice av r.right.length cv] 32))
          have hb4 : Below wr.heap.size wr w4 := by rw [← HW4.out]; exact (Below.refl _ _).alloc (Nat.le_refl _) _
          have X4 : Hid (w4.heap[wr.heap.size]? = some (.cells #[.int .i64 r.left, .slice av r.right.length cv] 32 (0, 0))) := by rw [← HW4.out]; exact bx_new _ _ _ rfl
          have HB4 := Lib.hid (HB.out.trans (hb4.mono HB.out.size))
          have HKR := Lib.hid (hkr.below hb4)
          have X1' := Lib.hid (bx_keep X1.out HB4.out)
          have HX1 := X1'
          rw [← HGT.out, ← HGN.out, ← HGS.out] at HX1
          have PS := Lib.hid (hasF g w.heap.size ar K.length cr r.right w4 HX1.out)
          have CS := Lib.hid (containsFuncSym 23 #[.pointer (some ⟨w.heap.size, 0, none⟩)] (fun s => !hasS g s) av cv r.right w4 (fun _ _ => by kernel_rfl) PS.out HKR.out)
          have htl : (K.take i).length = i := by simp; omega
          have hst : ∀ W, Below w4.heap.size w4 W → Rd AnyB W (.sl ((K.take i).map Rule.d)) [.slice ar (K.take i).length cr] := by
            intro W hb
            have h2 := (((HR.out.below HB4.out).below hb).start (i := i) (by simp; omega))
            rw [← List.map_take] at h2
            rw [htl]; exact h2
          have CRR := Lib.hid (fun W (hb : Below w4.heap.size w4 W) => containsFuncRule 26 #[.pointer (some ⟨wr.heap.size, 0, none⟩)] (fun x => cmpR x r == 0) ar cr (K.take i) W (fun _ _ => by kernel_rfl) (sameRF r wr.heap.size av cv (K.take i) W (bx_keep X4.out hb) (HKR.out.below hb)) (hst W hb))
          rw [htl] at CRR
          obtain ⟨lf, HLF⟩ := nameIt r.left
          obtain ⟨rn, HRNn⟩ := nameIt r.right.length
          obtain ⟨A1, HA1⟩ := nameIt (r.right.any fun s => !hasS g s)
          obtain ⟨A2, HA2⟩ := nameIt ((K.take i).any fun x => cmpR x r == 0)
          have hfr : faultR g i r = if lf < 0 ∨ gn ≤ lf then 3 else if 4 < rn then 2 else if A1 then 3 else if A2 then 6 else 0 := by
            unfold faultR; rw [HLF.out, HGN.out, HRNn.out, HA1.out, HK.out, HA2.out]
          rw [HLF.out] at c0 HW4
          rw [HRNn.out] at c1 HW4 CS
          rw [HA1.out] at CS
          simp only [HA2.out] at CRR
          have X4' := X4
          rw [HLF.out, HRNn.out] at X4'
          obtain ⟨y0, y1⟩ := bx_cells2 X4'.out
          obtain ⟨x0, x1, x2, x3⟩ := bx_cells4 X1'.out
          have hl4 : wr.heap.size < w4.heap.size := (Array.getElem?_eq_some_iff.1 X4'.out).1
          have hl1 : w.heap.size < w4.heap.size := (Array.getElem?_eq_some_iff.1 X1'.out).1
          have HFR := Lib.hid hfr
          have H1 := Lib.hid h1
          have hrn : (rn : Int) ≤ 9223372036854775807 := by have := HKR.out.bounds.2; rw [HRNn.out] at this; unfold maxLen at this hcv; omega
          subst hae
          clear hkr hb4 h1 hfr htl hst
          by_cases ha : lf < 0 ∨ gn ≤ lf
          · have hf : faultR g i r = 3 := by rw [HFR.out, if_pos ha]
            have HE2 : Hid (faultsFrom g 0 K = 3) := by show _ = _; rw [← H1.out, hf, if_neg (by decide)]
            have ha' : (decide (lf < 0) = true) ∨ (decide (lf < 0) = false ∧ decide (gn ≤ lf) = true) := by simp; omega
            clear hf ha
            rcases ha' with k1 | ⟨k1, k2⟩
            all_goals
              go_upto_region 8 with fail
              rw [HW4.out]
              go_wp2_with fail
              go_ret
              exact ⟨by rw [HE.out, HE2.out]; rfl, HB0.out.trans (HB4.out.mono HB0.out.size)⟩
          · have k1 : decide (lf < 0) = false := by simp; omega
            have k2 : decide (gn ≤ lf) = false := by simp; omega
            have HFa : Hid (faultR g i r = if 4 < rn then 2 else if A1 then 3 else if A2 then 6 else 0) := by show _ = _; rw [HFR.out, if_neg ha]
            clear ha HFR
            by_cases hb : 4 < rn
            · have k3 : (4 : Int) < (rn : Int) := by omega
              have hf : faultR g i r = 2 := by rw [HFa.out, if_pos hb]
              have HE2 : Hid (faultsFrom g 0 K = 2) := by show _ = _; rw [← H1.out, hf, if_neg (by decide)]
              clear hf
              go_upto_region 8 with fail
              rw [HW4.out]
              go_wp2_with fail
              go_ret
              exact ⟨by rw [HE.out, HE2.out]; rfl, HB0.out.trans (HB4.out.mono HB0.out.size)⟩
            · have k3 : ¬ (4 : Int) < (rn : Int) := by omega
              have HFb : Hid (faultR g i r = if A1 then 3 else if A2 then 6 else 0) := by show _ = _; rw [HFa.out, if_neg hb]
              clear HFa
              go_upto_region 8 with fail
              rw [HW4.out]
              go_wp2_with fail
              refine CS.out.mono ?_
              rintro e w5 ⟨rfl, hb5⟩
              have HB45 := Lib.hid hb5
              have HB5 := Lib.hid (HB4.out.trans (hb5.mono HB4.out.size))
              obtain ⟨x0, x1, x2, x3⟩ := bx_cells4 (bx_keep X1'.out hb5)
              have hl15 : w.heap.size < w5.heap.size := (Array.getElem?_eq_some_iff.1 (bx_keep X1'.out hb5)).1
              clear hb5 y0 y1
              cases A1 with
              | true =>
                have hf : faultR g i r = 3 := by rw [HFb.out, if_pos rfl]
                have HE2 : Hid (faultsFrom g 0 K = 3) := by show _ = _; rw [← H1.out, hf, if_neg (by decide)]
                clear hf
                go_wp2_with fail
                go_ret
                exact ⟨by rw [HE.out, HE2.out]; rfl, HB0.out.trans (HB5.out.mono HB0.out.size)⟩
              | false =>
                go_wp2_with fail
                refine (CRR.out _ HB45.out).mono ?_
                rintro e w6 ⟨rfl, hb6⟩
                have HB6 := Lib.hid (HB5.out.trans (hb6.mono HB5.out.size))
                clear hb6 x0 x1 x2 x3
                cases A2 with
                | true =>
                  have hf : faultR g i r = 6 := by rw [HFb.out]; rfl
                  have HE2 : Hid (faultsFrom g 0 K = 6) := by show _ = _; rw [← H1.out, hf, if_neg (by decide)]
                  clear hf
                  go_wp2_with fail
                  go_ret
                  exact ⟨by rw [HE.out, HE2.out]; rfl, HB0.out.trans (HB6.out.mono HB0.out.size)⟩
                | false =>
                  have hf : faultR g i r = 0 := by rw [HFb.out]; rfl
                  have HE2 : Hid (faultsFrom g (i + 1) (K.drop (i + 1)) = faultsFrom g 0 K) := by show _ = _; rw [← H1.out, hf, if_pos rfl]
                  clear hf
                  go_wp2_with fail
                  go_roundg (K.length - (i + 1))
                  case measure => omega
                  case rel => exact ⟨i + 1, by omega, by omega, by go_num, HB6, HE2⟩
        · have hlt' : ¬ (i : Int) < (K.length : Int) := by omega
          have HE2 : Hid (faultsFrom g 0 K = 0) := by show _ = _; rw [← HF.out, List.drop_of_length_le (by omega)]; rfl
          go_wp2_with fail
          go_ret
          exact ⟨by rw [HE.out, HE2.out]; rfl, HB0.out.trans (HB.out.mono HB0.out.size)⟩
end Go.Proofs.Ytmbjnemahgfhcaa
namespace Go.Proofs.Ytmbjnemahgfhcaa
open Go.RowKit
namespace Cs

/-- where a counter lies -/
structure Cid where
  cb : Nat
  b1 : Nat
  b2 : Nat
  b3 : Nat
  b4 : Nat
  ts : Nat
  tm : Nat
  tc : Nat
  ks : Nat
  km : Nat
  kc : Nat
  rs : Nat → Nat
  rm : Nat → Nat
  rc : Nat → Nat
structure CI (g : Gram) (vr : Value) (N n : Nat) (d : Cid) (S M : Nat → Nat → Bool) (C : Nat → Nat → Int) (W : World) : Prop where
  box : ∃ T, W.heap[d.cb]? = some (.cells #[.int .i64 g.terms, .int .i64 g.nons, .int .i64 g.start, vr, .int .i64 (n : Int), .slice (some ⟨d.ts, 0, none⟩) N d.ks, .slice (some ⟨d.tm, 0, none⟩) N d.km, .slice (some ⟨d.tc, 0, none⟩) N d.kc] T (0, 0))
  some' : Tb 4 d.b1 d.b2 d.ts N (n + 1) d.rs (fun a k => .bool (S a k)) W
  many : Tb 4 d.b2 d.b3 d.tm N (n + 1) d.rm (fun a k => .bool (M a k)) W
  cnt : Tb 3 d.b3 d.b4 d.tc N (n + 1) d.rc (fun a k => .int .i64 (C a k)) W
  le : d.b4 ≤ d.cb
section
variable {g : Gram} {vr : Value} {N n : Nat} {d : Cid} {S M : Nat → Nat → Bool} {C : Nat → Nat → Int} {W W' : World}
theorem CI.lt (h : CI g vr N n d S M C W) : d.cb < W.heap.size := by obtain ⟨T, h⟩ := h.box; exact (Array.getElem?_eq_some_iff.1 h).1
theorem CI.keep (h : CI g vr N n d S M C W) (hb : Below W.heap.size W W') : CI g vr N n d S M C W' := by
  have hlt := h.lt
  obtain ⟨⟨T, h1⟩, h2, h3, h4, h5⟩ := h
  have p2 := h2.pl
  have p3 := h3.pl
  have p4 := h4.pl
  exact ⟨⟨T, bx_keep h1 hb⟩, h2.keep (by omega) hb, h3.keep (by omega) hb, h4.keep (by omega) hb, h5⟩
end
/-- a symbol whose number fits -/
def okS (N : Nat) (s : Sym) : Prop := s.term = false → 0 ≤ s.n ∧ s.n.toNat < N

end Cs
end Go.Proofs.Ytmbjnemahgfhcaa
namespace Go.Proofs.Ytmbjnemahgfhcaa
open Go.RowKit
namespace Cs

/-- what counting leaves alone -/
structure Fr (N : Nat) (d : Cid) (W W' : World) : Prop where
  os : W'.os = W.os
  tape : W'.tape = W.tape
  output : W'.output = W.output
  size : W.heap.size ≤ W'.heap.size
  block : ∀ k, k < W.heap.size → (∀ a, a < N → d.rc a ≠ k) → W'.heap[k]? = W.heap[k]?
theorem Fr.refl (N : Nat) (d : Cid) (W : World) : Fr N d W W := ⟨rfl, rfl, rfl, Nat.le_refl _, fun _ _ _ => rfl⟩
theorem Fr.trans {N : Nat} {d : Cid} {a b c : World} (h : Fr N d a b) (k : Fr N d b c) : Fr N d a c :=
  ⟨k.os.trans h.os, k.tape.trans h.tape, k.output.trans h.output, Nat.le_trans h.size k.size, fun i hi hn => (k.block i (Nat.lt_of_lt_of_le hi h.size) hn).trans (h.block i hi hn)⟩
theorem Fr.of {N : Nat} {d : Cid} {W W' : World} (h : Below W.heap.size W W') : Fr N d W W' := ⟨h.os, h.tape, h.output, h.size, fun k hk _ => h.block k hk⟩
theorem Fr.set {N : Nat} {d : Cid} {a k : Nat} (W : World) (ha : a < N) (v : Value) : Fr N d W (W.setCell ⟨d.rc a, k, none⟩ v) :=
  ⟨rfl, rfl, rfl, by simp [World.setCell], fun j _ hn => Below.heap_setCell _ _ _ _ (fun e => hn a ha (by rw [e]))⟩
theorem Fr.below {N : Nat} {d : Cid} {W W' : World} {B : Nat} (h : Fr N d W W') (hB : B ≤ W.heap.size) (hr : ∀ a, a < N → B ≤ d.rc a) : Below B W W' :=
  ⟨h.os, h.tape, h.output, h.size, fun k hk => h.block k (Nat.lt_of_lt_of_le hk hB) (fun a ha e => by have := hr a ha; omega)⟩
theorem Fr.bx {N : Nat} {d : Cid} {W W' : World} {b : Nat} {o : Obj} (h : Fr N d W W') (hb : W.heap[b]? = some o) (hn : ∀ a, a < N → d.rc a ≠ b) : W'.heap[b]? = some o :=
  (h.block b (Array.getElem?_eq_some_iff.1 hb).1 hn).trans hb
/-- the counter between two calls -/
structure CS (g : Gram) (vr : Value) (N n : Nat) (d : Cid) (S M : Nat → Nat → Bool) (V : Nat → Nat → Int) (w0 : World) (C : Nat → Nat → Int) (W : World) : Prop where
  ci : CI g vr N n d S M C W
  cv : ∀ a k, a < N → k ≤ n → C a k = -1 ∨ C a k = V a k
  bel : Below w0.heap.size w0 W
  lo : w0.heap.size ≤ d.b1
section
variable {g : Gram} {vr : Value} {N n : Nat} {d : Cid} {S M : Nat → Nat → Bool} {V : Nat → Nat → Int} {w0 : World} {C : Nat → Nat → Int} {W W' : World}
theorem CS.keep (h : CS g vr N n d S M V w0 C W) (hb : Below W.heap.size W W') : CS g vr N n d S M V w0 C W' := ⟨h.ci.keep hb, h.cv, h.bel.trans (hb.mono h.bel.size), h.lo⟩
theorem CS.rc (h : CS g vr N n d S M V w0 C W) : ∀ a, a < N → w0.heap.size ≤ d.rc a ∧ d.rc a < d.cb := fun a ha => by
  have h1 := h.ci.cnt.ne a ha
  have h2 := h.ci.some'.pl
  have h3 := h.ci.many.pl
  have h4 := h.ci.le
  have h5 := h.lo
  omega
theorem CS.big (h : CS g vr N n d S M V w0 C W) {b : Nat} (hb : W.heap.size ≤ b) : ∀ a, a < N → d.rc a ≠ b := fun a ha e => by
  have := (h.rc a ha).2
  have := h.ci.lt
  omega
/-- a count is kept -/
theorem CS.store (h : CS g vr N n d S M V w0 C W) {a k : Nat} (ha : a < N) (hk : k ≤ n) : ∃ C', CS g vr N n d S M V w0 C' (W.setCell ⟨d.rc a, k, none⟩ (.int .i64 (V a k))) := by
  refine ⟨fun b l => if b = a ∧ l = k then V a k else C b l, ?_, fun b l hb hl => ?_, ?_, h.lo⟩
  · obtain ⟨⟨T, h1⟩, h2, h3, h4, h5⟩ := h.ci
    have hr := h.rc a ha
    have hne := h4.ne a ha
    have p2 := h2.pl
    have p3 := h3.pl
    refine ⟨⟨T, bx_other h1 (by omega) _ _⟩, h2.other fun j j1 j2 => Below.heap_setCell _ _ _ _ (by show j ≠ d.rc a; omega), h3.other fun j j1 j2 => Below.heap_setCell _ _ _ _ (by show j ≠ d.rc a; omega), ?_, h5⟩
    refine (h4.set ha (show k < n + 1 by omega) (.int .i64 (V a k))).eq fun b l _ _ => ?_
    show (if b = a ∧ l = k then _ else _) = _
    split <;> rfl
  · by_cases e : b = a ∧ l = k
    · rw [if_pos e, e.1, e.2]; exact .inr rfl
    · rw [if_neg e]; exact h.cv b l hb hl
  · exact h.bel.setCell (p := ⟨d.rc a, k, none⟩) (h.rc a ha).1 _
end
def MaxC : Int := 1000000000
end Cs
end Go.Proofs.Ytmbjnemahgfhcaa
namespace Go.Proofs.Ytmbjnemahgfhcaa
open Go.RowKit
namespace Cs

theorem still_quiet {P : Program} {ops : Array Oper} {w : World} {Q : Act → Prop} : ∀ (l : List Oper) (a : Act), wpQuiet P ops (fun W => W = w) Q l a → wpStill P ops w Q l a
  | [], _, h => h
  | o :: rest, a, h => by
    rw [wpQuiet] at h
    rw [wpStill]
    by_cases hw : Region.wanted o (yielded ops a.tmps) = true
    · rw [if_pos hw] at h ⊢
      obtain ⟨v, h1, h2⟩ := h
      have h3 := h1 w rfl
      have ih := still_quiet rest _ h2
      unfold Oper.quietAt at h3
      unfold Oper.still
      generalize (execOp a.eval o).run P w = res at h3 ⊢
      unfold Oper.quietUpon at h3
      unfold Oper.stillUpon
      split at h3
      · obtain ⟨rfl, rfl⟩ := h3; exact ⟨rfl, ih⟩
      · obtain ⟨rfl, rfl⟩ := h3; exact ⟨rfl, ih⟩
      · obtain ⟨rfl, h4⟩ := h3; exact ⟨rfl, v, h4, ih⟩
      · exact h3.elim
    · rw [if_neg hw] at h ⊢
      exact still_quiet rest _ h

/-- a valid grammar's rules -/
def okR (N : Nat) (g : Gram) : Prop := ∀ r ∈ g.rules, (∀ s ∈ r.right, okS N s)
end Cs
end Go.Proofs.Ytmbjnemahgfhcaa
namespace Go.Proofs.Ytmbjnemahgfhcaa
open Go.RowKit

/-- the table in block bt is to have n rows; rows 0 .. hi - 1 are there: row k in block rb k, of m cells -/
structure Grd (tr te : TypeId) (B bt n m hi : Nat) (rb : Nat → Nat) (val : Nat → Nat → Value) (wr : World) : Prop where
  tb : ∃ cs, wr.heap[bt]? = some (.cells cs tr (0, 0)) ∧ cs.size = n ∧ ∀ k, k < hi → k < n → cs[k]? = some (.slice (some ⟨rb k, 0, none⟩) m m)
  row : ∀ k, k < hi → k < n → ∃ cs, wr.heap[rb k]? = some (.cells cs te (0, 0)) ∧ cs.size = m ∧ ∀ j, j < m → cs[j]? = some (val k j)
  inj : ∀ k k', k < hi → k' < hi → k < n → k' < n → rb k = rb k' → k = k'
  ne : ∀ k, k < hi → k < n → rb k ≠ bt ∧ B ≤ rb k
  bB : B ≤ bt
section
variable {tr te : TypeId} {B bt n m hi : Nat} {rb : Nat → Nat} {val : Nat → Nat → Value} {wr w' : World}
theorem Grd.lt (h : Grd tr te B bt n m hi rb val wr) : bt < wr.heap.size := by
  obtain ⟨cs, h1, _⟩ := h.tb
  exact (Array.getElem?_eq_some_iff.1 h1).1
theorem Grd.rlt (h : Grd tr te B bt n m hi rb val wr) {k : Nat} (hk : k < hi) (hn : k < n) : rb k < wr.heap.size := by
  obtain ⟨cs, h1, _⟩ := h.row k hk hn
  exact (Array.getElem?_eq_some_iff.1 h1).1
theorem Grd.grown {row : Option Nat} (h : Grd tr te B bt n m hi rb val wr) (hg : wr.grownBy w' row) (hr : ∀ k, row = some k → k ≠ bt ∧ ∀ i, i < hi → i < n → rb i ≠ k) : Grd tr te B bt n m hi rb val w' := by
  obtain ⟨⟨cs, h1, h2, h3⟩, h4, h5, h6, h7⟩ := h
  refine ⟨⟨cs, ?_, h2, h3⟩, fun k hk hn => ?_, h5, h6, h7⟩
  · rw [hg.block bt (Array.getElem?_eq_some_iff.1 h1).1 (fun e => (hr bt e.symm).1 rfl)]; exact h1
  · obtain ⟨rs, r1, r2⟩ := h4 k hk hn
    refine ⟨rs, ?_, r2⟩
    rw [hg.block (rb k) (Array.getElem?_eq_some_iff.1 r1).1 (fun e => (hr _ e.symm).2 k hk hn rfl)]; exact r1
theorem Grd.keep (h : Grd tr te B bt n m hi rb val wr) (hb : Below wr.heap.size wr w') : Grd tr te B bt n m hi rb val w' := h.grown (grown_below hb none) (fun k e => by cases e)
theorem Grd.hdr (h : Grd tr te B bt n m hi rb val wr) {k : Nat} (hk : k < hi) (hn : k < n) : wr.cell? ⟨bt, k, none⟩ = some (.slice (some ⟨rb k, 0, none⟩) m m) := by
  obtain ⟨cs, h1, h2, h3⟩ := h.tb
  simp [World.cell?, h1, h3 k hk hn]
theorem Grd.cell (h : Grd tr te B bt n m hi rb val wr) {k j : Nat} (hk : k < hi) (hn : k < n) (hj : j < m) : wr.cell? ⟨rb k, j, none⟩ = some (val k j) := by
  obtain ⟨cs, h1, h2, h3⟩ := h.row k hk hn
  simp [World.cell?, h1, h3 j hj]
theorem Grd.free (h : Grd tr te B bt n m hi rb val wr) {k : Nat} (hk : k < hi) (hn : k < n) (j : Nat) : wr.frozen? ⟨rb k, j, none⟩ = false := by
  obtain ⟨cs, h1, h2, h3⟩ := h.row k hk hn
  simp [World.frozen?, h1]
theorem Grd.hcell (h : Grd tr te B bt n m hi rb val wr) {k : Nat} (hn : k < n) : (∃ v, wr.cell? ⟨bt, k, none⟩ = some v) ∧ wr.frozen? ⟨bt, k, none⟩ = false := by
  obtain ⟨cs, h1, h2, h3⟩ := h.tb
  exact ⟨⟨cs[k]'(by omega), by simp [World.cell?, h1]⟩, by simp [World.frozen?, h1]⟩
/-- a value stored -/
theorem Grd.set (h : Grd tr te B bt n m hi rb val wr) {i j : Nat} (hi' : i < hi) (hin : i < n) (hj : j < m) (x : Value) : Grd tr te B bt n m hi rb (fun k l => if k = i ∧ l = j then x else val k l) (wr.setCell ⟨rb i, j, none⟩ x) := by
  obtain ⟨⟨cs, h1, h2, h3⟩, h4, h5, h6, h7⟩ := h
  refine ⟨⟨cs, bx_other h1 (fun e => (h6 i hi' hin).1 e.symm) _ _, h2, h3⟩, fun k hk hn => ?_, h5, h6, h7⟩
  obtain ⟨rs, r1, r2, r3⟩ := h4 k hk hn
  by_cases e : k = i
  · subst e
    refine ⟨rs.setIfInBounds j x, bx_set r1 _ _, by simpa using r2, fun l hl => ?_⟩
    rw [Array.getElem?_setIfInBounds]
    by_cases e2 : j = l
    · subst e2
      rw [if_pos rfl, if_pos (by omega)]; simp
    · rw [if_neg e2, r3 l hl]
      simp [show ¬ l = j from fun h => e2 h.symm]
  · refine ⟨rs, bx_other r1 (fun e2 => e (h5 k i hk hi' hn hin e2)) _ _, r2, fun l hl => ?_⟩
    rw [r3 l hl]; simp [e]
/-- a new row: laid, and its header stored -/
theorem Grd.add {z : Value} (h : Grd tr te B bt n m hi rb (fun _ _ => z) wr) (hi' : hi < n) (hB : B ≤ wr.heap.size) :
    Grd tr te B bt n m (hi + 1) (fun k => if k = hi then wr.heap.size else rb k) (fun _ _ => z) ((wr.alloc (.cells (madeCells #[z] m) te)).setCell ⟨bt, hi, none⟩ (.slice (some ⟨wr.heap.size, 0, none⟩) m m)) := by
  have hbt := h.lt
  have hrl := fun k hk hn => h.rlt (k := k) hk hn
  obtain ⟨⟨cs, h1, h2, h3⟩, h4, h5, h6, h7⟩ := h
  have hba : Below wr.heap.size wr (wr.alloc (.cells (madeCells #[z] m) te)) := (Below.refl _ _).alloc (Nat.le_refl _) _
  refine ⟨⟨cs.setIfInBounds hi (.slice (some ⟨wr.heap.size, 0, none⟩) m m), bx_set (bx_keep h1 hba) _ _, by simpa using h2, fun k hk hn => ?_⟩, fun k hk hn => ?_, fun k k' hk hk' hn hn' e => ?_, fun k hk hn => ?_, h7⟩
  · rw [Array.getElem?_setIfInBounds]
    by_cases e : hi = k
    · subst e
      rw [if_pos rfl, if_pos (by omega)]; simp
    · rw [if_neg e, h3 k (by omega) hn]
      simp [show ¬ k = hi from fun h => e h.symm]
  · by_cases e : k = hi
    · subst e
      refine ⟨madeCells #[z] m, ?_, size_madeCells _ _, fun j hj => made_at _ _ _ hj⟩
      simp only [if_true]
      exact bx_other (bx_new _ _ _ rfl) (by omega) _ _
    · obtain ⟨rs, r1, r2, r3⟩ := h4 k (by omega) hn
      refine ⟨rs, ?_, r2, r3⟩
      simp only [e, if_false]
      exact bx_other (bx_keep r1 hba) (h6 k (by omega) hn).1 _ _
  · by_cases e1 : k = hi <;> by_cases e2 : k' = hi <;> simp only [e1, e2, if_true, if_false] at e ⊢
    · have := hrl k' (by omega) hn'; omega
    · have := hrl k (by omega) hn; omega
    · exact h5 k k' (by omega) (by omega) hn hn' e
  · by_cases e : k = hi
    · subst e; simp only [if_true]; omega
    · simp only [e, if_false]; exact h6 k (by omega) hn
theorem Grd.eq {val' : Nat → Nat → Value} (h : Grd tr te B bt n m hi rb val wr) (he : ∀ k j, k < hi → k < n → j < m → val k j = val' k j) : Grd tr te B bt n m hi rb val' wr := by
  obtain ⟨h1, h4, h5, h6, h7⟩ := h
  refine ⟨h1, fun k hk hn => ?_, h5, h6, h7⟩
  obtain ⟨rs, r1, r2, r3⟩ := h4 k hk hn
  exact ⟨rs, r1, r2, fun j hj => by rw [r3 j hj, he k j hk hn hj]⟩
end
theorem Grd.start (tr te : TypeId) {B n m : Nat} {rb : Nat → Nat} {val : Nat → Nat → Value} {z : Value} (w : World) {bt : Nat} (hb : bt = w.heap.size) (hB : B ≤ w.heap.size) : Grd tr te B bt n m 0 rb val (w.alloc (.cells (madeCells #[z] n) tr)) := by
  subst hb
  exact ⟨⟨_, bx_new _ _ _ rfl, size_madeCells _ _, fun k hk => by omega⟩, fun k hk => by omega, fun k k' hk => by omega, fun k hk => by omega, hB⟩
end Go.Proofs.Ytmbjnemahgfhcaa
namespace Go.Proofs.Ytmbjnemahgfhcaa
open Go.RowKit
theorem Grd.other {tr te : TypeId} {B bt n m hi : Nat} {rb : Nat → Nat} {val : Nat → Nat → Value} {wr w' : World} (h : Grd tr te B bt n m hi rb val wr) (hs : ∀ k, B ≤ k → w'.heap[k]? = wr.heap[k]?) : Grd tr te B bt n m hi rb val w' := by
  obtain ⟨⟨cs, h1, h2, h3⟩, h4, h5, h6, h7⟩ := h
  refine ⟨⟨cs, by rw [hs _ h7]; exact h1, h2, h3⟩, fun k hk hn => ?_, h5, h6, h7⟩
  obtain ⟨rs, r1, r2⟩ := h4 k hk hn
  exact ⟨rs, by rw [hs _ (h6 k hk hn).2]; exact r1, r2⟩
namespace Cs

def wv (E : List (Nat × Nat)) (k i j : Nat) : Nat → Nat → Bool := fun a b => if a < i ∨ (a = i ∧ b < j) then fw E (k + 1) a b else fw E k a b
section
variable {E : List (Nat × Nat)} {sz k i j a b : Nat}
theorem wv_col : wv E k i j a k = fw E k a k := by unfold wv; split; exact fw_row _ _; rfl
theorem wv_row : wv E k i j k b = fw E k k b := by unfold wv; split; exact fw_col _ _; rfl
theorem wv_self : wv E k i j i j = fw E k i j := by unfold wv; rw [if_neg (by omega)]
theorem wv_line (hb : b < sz) : wv E k i sz a b = wv E k (i + 1) 0 a b := by
  unfold wv
  by_cases e : a < i ∨ a = i
  · rw [if_pos (by omega), if_pos (by omega)]
  · rw [if_neg (by omega), if_neg (by omega)]
theorem wv_end (ha : a < sz) : wv E k sz 0 a b = wv E (k + 1) 0 0 a b := by
  unfold wv
  rw [if_pos (.inl ha), if_neg (by omega)]
theorem wv_next {v : Bool} (hv : v = (fw E k i j || (fw E k i k && fw E k k j))) : (if a = i ∧ b = j then v else wv E k i j a b) = wv E k i (j + 1) a b := by
  by_cases e : a = i ∧ b = j
  · rw [if_pos e, hv]
    obtain ⟨rfl, rfl⟩ := e
    unfold wv
    rw [if_pos (by omega), fw]
  · rw [if_neg e]
    unfold wv
    by_cases e2 : a < i ∨ (a = i ∧ b < j)
    · rw [if_pos e2, if_pos (by omega)]
    · rw [if_neg e2, if_neg (by omega)]
end
section
variable {T : Nat → Nat → Bool} {sz m i j A k N : Nat}
end
section
variable {g : Gram} {vr : Value} {N n : Nat} {d : Cid} {S M M' : Nat → Nat → Bool} {C : Nat → Nat → Int} {W W' : World}
theorem CI.b2 (h : CI g vr N n d S M C W) : d.b2 ≤ W.heap.size := by
  have := h.lt
  have := h.many.pl
  have := h.cnt.pl
  have := h.le
  omega
theorem CI.eqM (h : CI g vr N n d S M C W) (he : ∀ a k, a < N → k < n + 1 → M a k = M' a k) : CI g vr N n d S M' C W :=
  ⟨h.box, h.some', h.many.eq fun a k ha hk => by rw [he a k ha hk], h.cnt, h.le⟩
theorem CI.setM (h : CI g vr N n d S M C W) {a k : Nat} (ha : a < N) (hk : k < n + 1) : CI g vr N n d S (updB M a k) C (W.setCell ⟨d.rm a, k, none⟩ (.bool true)) := by
  obtain ⟨⟨T, h1⟩, h2, h3, h4, h5⟩ := h
  have hne := h3.ne a ha
  have p2 := h2.pl
  have p3 := h3.pl
  have p4 := h4.pl
  refine ⟨⟨T, bx_other h1 (by omega) _ _⟩, h2.other fun j j1 j2 => Below.heap_setCell _ _ _ _ (by show j ≠ d.rm a; omega), ?_, h4.other fun j j1 j2 => Below.heap_setCell _ _ _ _ (by show j ≠ d.rm a; omega), h5⟩
  refine (h3.set ha hk (.bool true)).eq fun b l _ _ => ?_
  unfold updB
  show (if b = a ∧ l = k then _ else _) = _
  split <;> rfl
end
/-- the table of edges closed, the answers being written -/
structure LM (g : Gram) (vr : Value) (N n : Nat) (d : Cid) (S : Nat → Nat → Bool) (C : Nat → Nat → Int) (wB : World) (bt sz : Nat) (rb : Nat → Nat) (F M : Nat → Nat → Bool) (wr : World) : Prop where
  ci : CI g vr N n d S M C wr
  tab : Grd 33 4 wB.heap.size bt sz sz sz rb (fun a b => .bool (F a b)) wr
  bel : Below d.b2 wB wr
  lt : d.cb < wB.heap.size
section
variable {g : Gram} {vr : Value} {N n : Nat} {d : Cid} {S M M' : Nat → Nat → Bool} {C : Nat → Nat → Int} {W wB wr : World} {bt sz : Nat} {rb : Nat → Nat} {F : Nat → Nat → Bool}
theorem LM.b2 (h : LM g vr N n d S C wB bt sz rb F M wr) : d.b2 ≤ wr.heap.size := h.ci.b2
theorem LM.keep (h : LM g vr N n d S C wB bt sz rb F M wr) (hb : Below wr.heap.size wr W) : LM g vr N n d S C wB bt sz rb F M W := ⟨h.ci.keep hb, h.tab.keep hb, h.bel.trans (hb.mono h.b2), h.lt⟩
theorem LM.eqM (h : LM g vr N n d S C wB bt sz rb F M wr) (he : ∀ a k, a < N → k < n + 1 → M a k = M' a k) : LM g vr N n d S C wB bt sz rb F M' wr := ⟨h.ci.eqM he, h.tab, h.bel, h.lt⟩
theorem LM.set (h : LM g vr N n d S C wB bt sz rb F M wr) {a k : Nat} (ha : a < N) (hk : k < n + 1) : LM g vr N n d S C wB bt sz rb F (updB M a k) (wr.setCell ⟨d.rm a, k, none⟩ (.bool true)) := by
  have hne := h.ci.many.ne a ha
  have p4 := h.ci.cnt.pl
  have h5 := h.ci.le
  have h6 := h.lt
  exact ⟨h.ci.setM ha hk, h.tab.other fun j hj => Below.heap_setCell _ _ _ _ (by show j ≠ d.rm a; omega), h.bel.setCell (p := ⟨d.rm a, k, none⟩) hne.2.1 _, h.lt⟩
end
end Cs
end Go.Proofs.Ytmbjnemahgfhcaa
namespace Go.Proofs.Ytmbjnemahgfhcaa
open Go.RowKit
namespace Cs

def sumN (f : Nat → Nat) : Nat → Nat
  | 0 => 0
  | n + 1 => sumN f n + f n
theorem sumN_le {f g : Nat → Nat} : ∀ (n : Nat), (∀ i, i < n → f i ≤ g i) → sumN f n ≤ sumN g n
  | 0, _ => Nat.le_refl _
  | n + 1, h => Nat.add_le_add (sumN_le n fun i hi => h i (by omega)) (h n (by omega))
theorem sumN_lt {f g : Nat → Nat} : ∀ (n : Nat), (∀ i, i < n → f i ≤ g i) → (∃ i, i < n ∧ f i < g i) → sumN f n < sumN g n
  | 0, _, ⟨i, hi, _⟩ => absurd hi (Nat.not_lt_zero _)
  | n + 1, h, ⟨i, hi, hlt⟩ => by
    have h1 := sumN_le n fun i hi => h i (Nat.lt_succ_of_lt hi)
    have h2 := h n (Nat.lt_succ_self n)
    by_cases e : i = n
    · subst e
      show sumN f i + f i < sumN g i + g i
      omega
    · have h3 := sumN_lt n (fun i hi => h i (Nat.lt_succ_of_lt hi)) ⟨i, by omega, hlt⟩
      show sumN f n + f n < sumN g n + g n
      omega
end Cs
end Go.Proofs.Ytmbjnemahgfhcaa
namespace Go.Proofs.Ytmbjnemahgfhcaa
open Go.RowKit
namespace Cs

theorem sumN_lt_iff {f g : Nat → Nat} {n : Nat} (h : ∀ i, i < n → f i ≤ g i) : sumN f n < sumN g n ↔ ∃ i, i < n ∧ f i < g i := by
  constructor
  · intro hl
    induction n with
    | zero => exact absurd hl (Nat.lt_irrefl _)
    | succ n ih =>
      by_cases e : f n < g n
      · exact ⟨n, by omega, e⟩
      · have hl' : sumN f n + f n < sumN g n + g n := hl
        have := h n (by omega)
        obtain ⟨i, hi, hlt⟩ := ih (fun i hi => h i (by omega)) (by omega)
        exact ⟨i, by omega, hlt⟩
  · exact sumN_lt n h
theorem sumN_pos_iff {g : Nat → Nat} {n : Nat} : 0 < sumN g n ↔ ∃ i, i < n ∧ 0 < g i := by
  have h0 : ∀ n, sumN (fun _ => 0) n = 0 := by intro n; induction n with
    | zero => rfl
    | succ n ih => show sumN (fun _ => 0) n + 0 = 0; rw [ih]
  have := sumN_lt_iff (f := fun _ => 0) (g := g) (n := n) (fun i _ => Nat.zero_le _)
  rw [h0] at this
  exact this
def cN (o : Sym → Nat → Nat) : List Sym → Nat → Nat
  | [], k => if k = 0 then 1 else 0
  | s :: l, k => sumN (fun i => o s i * cN o l (k - i)) (k + 1)
def oN (c : Nat → Nat → Nat) (s : Sym) (i : Nat) : Nat := if s.term then (if i = 1 then 1 else 0) else c s.n.toNat i
def cR (o : Sym → Nat → Nat) (A : Int) (k : Nat) : List Rule → Nat
  | [] => 0
  | r :: rs => (if r.left = A then cN o r.right k else 0) + cR o A k rs
/-- how many trees of at most so many levels a nonterminal has -/
def cnt (rules : List Rule) : Nat → Nat → Nat → Nat
  | 0, _, _ => 0
  | h + 1, A, k => cR (oN (cnt rules h)) (A : Int) k rules
theorem cN_mono {o o' : Sym → Nat → Nat} (h : ∀ s i, o' s i ≤ o s i) : ∀ (l : List Sym) (k : Nat), cN o' l k ≤ cN o l k
  | [], _ => Nat.le_refl _
  | s :: l, k => by
    rw [cN, cN]
    exact sumN_le _ fun i _ => Nat.mul_le_mul (h s i) (cN_mono h l (k - i))
theorem cR_mono {o o' : Sym → Nat → Nat} (h : ∀ s i, o' s i ≤ o s i) {A : Int} {k : Nat} : ∀ rs, cR o' A k rs ≤ cR o A k rs
  | [] => Nat.le_refl _
  | r :: rs => by
    rw [cR, cR]
    have := cR_mono h (A := A) (k := k) rs
    by_cases e : r.left = A
    · rw [if_pos e, if_pos e]; have := cN_mono h r.right k; omega
    · rw [if_neg e, if_neg e]; omega
theorem oN_mono {c c' : Nat → Nat → Nat} (h : ∀ A i, c' A i ≤ c A i) (s : Sym) (i : Nat) : oN c' s i ≤ oN c s i := by
  unfold oN
  split
  · exact Nat.le_refl _
  · exact h _ _
theorem cnt_mono1 {rules : List Rule} : ∀ (h A k : Nat), cnt rules h A k ≤ cnt rules (h + 1) A k
  | 0, A, k => Nat.zero_le _
  | h + 1, A, k => by
    rw [cnt, cnt]
    exact cR_mono (oN_mono fun A i => cnt_mono1 h A i) _
theorem cnt_mono {rules : List Rule} {h h' : Nat} (hh : h ≤ h') (A k : Nat) : cnt rules h A k ≤ cnt rules h' A k := by
  induction h' with
  | zero => obtain rfl : h = 0 := by omega
            exact Nat.le_refl _
  | succ h' ih =>
    by_cases e : h = h' + 1
    · subst e; exact Nat.le_refl _
    · exact Nat.le_trans (ih (by omega)) (cnt_mono1 _ _ _)
end Cs
end Go.Proofs.Ytmbjnemahgfhcaa
namespace Go.Proofs.Ytmbjnemahgfhcaa
open Go.RowKit
namespace Cs

end Cs
end Go.Proofs.Ytmbjnemahgfhcaa
namespace Go.Proofs.Ytmbjnemahgfhcaa
open Go.RowKit

/-- block b is a map that has the keys of which S holds, all of them true -/
def SetM (P : Program) (k e : TypeId) (b c : Nat) (S : Lit → Bool) (w : World) : Prop :=
  ∃ D : DataW Unit, w.ownsMap P k (plainElem P e) b c D ∧ ∀ (key : Value) (l : Lit), keyOf P k key = some l → D.atKey l (.lit (.bool false)) = .lit (.bool (S l))
section
variable {P : Program} {k e t : TypeId} {b c : Nat} {S : Lit → Bool} {w w' : World}
theorem SetM.kept {row : Option Nat} (h : SetM P k e b c S w) (hg : w.grownBy w' row) (hne : some b ≠ row) : SetM P k e b c S w' := by
  obtain ⟨D, h1, h2⟩ := h
  exact ⟨D, h1.kept hg hne, h2⟩
theorem SetM.keep (h : SetM P k e b c S w) (hb : Below w.heap.size w w') : SetM P k e b c S w' := h.kept (grown_below hb none) (by simp)
theorem SetM.lt (h : SetM P k e b c S w) : b < w.heap.size := by obtain ⟨D, h1, h2⟩ := h; exact h1.lt
theorem SetM.start (P : Program) (k e : TypeId) (w : World) {b : Nat} (hb : b = w.heap.size) {S : Lit → Bool} (hS : ∀ l, S l = false) : SetM P k e b 0 S (w.alloc (.map #[] 0)) := by
  subst hb
  exact ⟨.map [], World.ownsMap_made w _ _ _, fun _ l _ => by simp [DataW.atKey, hS l]⟩
theorem plainElem_bool_inv (he : P.underlying e = some .bool) {v : Value} {z : DataW Unit × List MemPlace} (h : plainElem P e v = some z) : ∃ x, v = .bool x ∧ z = (.lit (.bool x), []) := by
  unfold plainElem at h
  rw [he] at h
  split at h
  · rename_i x _
    cases h
    exact ⟨_, rfl, rfl⟩
  · rename_i h1; cases h1
  · rename_i h1; cases h1
  · cases h
/-- m[k] -/
theorem SetM.look (h : SetM P k e b c S w) (hK : Maps.Keyed P k) (ht : P.underlying t = some (.map k e)) (he : P.underlying e = some .bool) (hz : (zeroValue e).run P w = .ok (.bool false) w) {key : Value} {l : Lit} (hkey : keyOf P k key = some l) :
    (Instr.lookup t (.map (some b)) key false).run P w = .ok (.bool (S l)) w := by
  obtain ⟨D, h1, h2⟩ := h
  obtain ⟨v, ps, hrun, hv⟩ := h1.lookup hK ht hz (plainElem_bool he false) hkey
  rw [h2 key l hkey] at hv
  obtain ⟨x, rfl, hx⟩ := plainElem_bool_inv he hv
  simp at hx
  rw [hrun, ← hx.1]
/-- m[k] = true -/
theorem SetM.add (h : SetM P k e b c S w) (hK : Maps.Keyed P k) (ht : P.underlying t = some (.map k e)) (he : P.underlying e = some .bool) (hc : c < maxLen) {key : Value} {l : Lit} (hkey : keyOf P k key = some l) {S' : Lit → Bool} (hS : S' l = true) (hO : ∀ l', l' ≠ l → S' l' = S l') :
    ∃ w', (Instr.mapUpdate t (.map (some b)) key (.bool true)).run P w = .ok () w' ∧ SetM P k e b (c + 1) S' w' ∧ w.grownBy w' (some b) := by
  obtain ⟨D, h1, h2⟩ := h
  obtain ⟨w', hrun, ho, ht'⟩ := h1.store hK ht hc hkey (plainElem_bool he true)
  refine ⟨w', hrun, ⟨_, ho, fun key' l' hk' => ?_⟩, ht'.grown⟩
  by_cases el : l' = l
  · subst el
    rw [Go.Maps.atKey_put_same h1.isMap (hK.key hkey), hS]
  · rw [Go.Maps.atKey_put_other el, h2 key' l' hk', hO l' el]
end
end Go.Proofs.Ytmbjnemahgfhcaa
namespace Go.Proofs.Ytmbjnemahgfhcaa
open Go.RowKit

def symB (s : Sym) : List UInt8 := [if s.term then 116 else 110, UInt8.ofNat s.n.toNat]
def keyB (l : Int) (ss : List Sym) : List UInt8 := UInt8.ofNat l.toNat :: ss.flatMap symB
def small (n : Int) : Prop := 0 ≤ n ∧ n < 10
theorem byte_inj {a b : Int} (ha : small a) (hb : small b) (h : UInt8.ofNat a.toNat = UInt8.ofNat b.toNat) : a = b := by
  have h2 := congrArg UInt8.toNat h
  simp at h2
  obtain ⟨a0, a1⟩ := ha
  obtain ⟨b0, b1⟩ := hb
  rw [Nat.mod_eq_of_lt (by omega), Nat.mod_eq_of_lt (by omega)] at h2
  omega
theorem syms_inj : ∀ {l m : List Sym}, (∀ s ∈ l, small s.n) → (∀ s ∈ m, small s.n) → l.flatMap symB = m.flatMap symB → l = m
  | [], [], _, _, _ => rfl
  | [], y :: m, _, _, h => by simp [symB] at h
  | x :: l, [], _, _, h => by simp [symB] at h
  | x :: l, y :: m, hl, hm, h => by
    simp only [List.flatMap_cons, symB, List.cons_append, List.nil_append, List.cons.injEq] at h
    obtain ⟨h1, h2, h3⟩ := h
    have e1 := syms_inj (fun s hs => hl s (List.mem_cons_of_mem _ hs)) (fun s hs => hm s (List.mem_cons_of_mem _ hs)) h3
    have e2 := byte_inj (hl x List.mem_cons_self) (hm y List.mem_cons_self) h2
    have e3 : x.term = y.term := by
      cases hx : x.term <;> cases hy : y.term <;> simp_all
    obtain ⟨xt, xn⟩ := x
    obtain ⟨yt, yn⟩ := y
    simp at e2 e3
    subst e1 e2 e3
    rfl
def okR (r : Rule) : Prop := small r.left ∧ ∀ s ∈ r.right, small s.n
theorem keyB_inj {r q : Rule} (hr : okR r) (hq : okR q) (h : keyB r.left r.right = keyB q.left q.right) : r = q := by
  simp only [keyB, List.cons.injEq] at h
  have e1 := byte_inj hr.1 hq.1 h.1
  have e2 := syms_inj hr.2 hq.2 h.2
  obtain ⟨_, _⟩ := r
  obtain ⟨_, _⟩ := q
  simp_all
/-- the keys of rules -/
def keysOf (l : List Rule) : Lit → Bool
  | .string b => l.any fun r => keyB r.left r.right == b
  | _ => false
theorem keysOf_same {l : List Rule} {r : Rule} (hl : ∀ x ∈ l, okR x) (hr : okR r) : keysOf l (.string (keyB r.left r.right)) = l.any fun x => cmpR x r == 0 := by
  simp only [keysOf]
  induction l with
  | nil => rfl
  | cons x l ih =>
    simp only [List.any_cons]
    rw [ih fun y hy => hl y (List.mem_cons_of_mem _ hy)]
    have e1 : (keyB x.left x.right == keyB r.left r.right) = (cmpR x r == 0) := by
     by_cases e : x = r
     · subst e
       have : cmpR x x = 0 := cmpR_zero.2 rfl
       simp [this]
     · have h1 : ¬ keyB x.left x.right = keyB r.left r.right := fun h => e (keyB_inj (hl x List.mem_cons_self) hr h)
       have h2 : ¬ cmpR x r = 0 := fun h => e (cmpR_zero.1 h)
       rw [beq_eq_false_iff_ne.2 h1, beq_eq_false_iff_ne.2 h2]
    rw [e1]
theorem keysOf_add {l : List Rule} {r : Rule} : keysOf (l ++ [r]) (.string (keyB r.left r.right)) = true := by simp [keysOf]
theorem keysOf_other {l : List Rule} {r : Rule} {x : Lit} (h : x ≠ .string (keyB r.left r.right)) : keysOf (l ++ [r]) x = keysOf l x := by
  cases x <;> simp [keysOf] at h ⊢
  intro h2
  exact absurd h2.symm h
theorem enc_small {n : Int} (h : small n) : Utf8.encode n = ⟨#[UInt8.ofNat n.toNat]⟩ := by
  obtain ⟨h0, h1⟩ := h
  have hv : Utf8.valid n = true := by simp [Utf8.valid]; omega
  simp only [Utf8.encode, hv, if_true]
  rw [if_pos (by omega)]
/-- a string's bytes -/
def Bts (s : ByteArray) (l : List UInt8) : Prop := s.data.toList = l
theorem Bts.app {s t : ByteArray} {l m : List UInt8} (h : Bts s l) (k : Bts t m) : Bts (s ++ t) (l ++ m) := by
  unfold Bts at *
  rw [ByteArray.data_append, Array.toList_append, h, k]
theorem bts_enc {n : Int} (h : small n) : Bts (Utf8.encode n) [UInt8.ofNat n.toNat] := by rw [enc_small h]; rfl
theorem Bts.size {s : ByteArray} {l : List UInt8} (h : Bts s l) : s.size = l.length := by
  unfold Bts at h
  rw [← h]; rfl
theorem keyB_take {l : Int} {ss : List Sym} {q : Nat} (h : q < ss.length) : keyB l (ss.take (q + 1)) = keyB l (ss.take q) ++ [if ss[q].term then 116 else 110] ++ [UInt8.ofNat ss[q].n.toNat] := by
  unfold keyB
  rw [List.take_succ_eq_append_getElem h, List.flatMap_append]
  simp only [List.flatMap_cons, List.flatMap_nil, symB, List.append_nil, List.cons_append, List.append_assoc, List.nil_append]
theorem keyB_len {l : Int} {ss : List Sym} : (keyB l ss).length = 1 + 2 * ss.length := by
  simp only [keyB, List.length_cons]
  induction ss with
  | nil => rfl
  | cons x ss ih => simp only [List.flatMap_cons, List.length_append, symB, List.length_cons, List.length_nil] at ih ⊢; omega
theorem key_string (s : ByteArray) (l : List UInt8) (h : Bts s l) (hs : s.size ≤ maxLen) : keyOf Try.prog 9 (.string s) = some (.string l) := by
  unfold Bts at h
  subst h
  simp [keyOf, Try.underlying9, mapKey, hs]
end Go.Proofs.Ytmbjnemahgfhcaa
