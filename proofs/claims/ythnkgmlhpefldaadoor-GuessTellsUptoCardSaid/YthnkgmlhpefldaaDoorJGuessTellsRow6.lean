/- The contracts of gram.T and gram.N. The contracts of tree.kids and tree.walk. The contracts of gram.CopyTree and tree.Clone. The contracts of Nodes, Yield and Codes. The contract of guess.Rules. Plain: choices out of the listed rules are valid grammars. Maps that are sets: only 'true' is stored. Keys of rules, as RuleFault makes them: plain law. The contract of RuleFault: it is gram.Check's. Maps that are sets of words, the words as strings of bytes. Plain: the short words of all nonterminals, as sets that grow (parlref5.WordsOf). Maps of words: entry and store, ranges, a table of them. The words of a map, each once. Plain and memory: what parlref5.WordsOf keeps. -/
import Derived.Test.YthnkgmlhpefldaaDoorJGuessTellsRow1
import Derived.Deep.LoopGhost
import Derived.Deep.Cut
import Derived.Shelf.Abstract
import Derived.Deep.RegionHeld3
import Derived.WalkSmall
import Derived.Maps.OwnSet
import Derived.Maps.Views
import Derived.Test.YthnkgmlhpefldaaDoorJGuessTellsRow3
import Derived.Maps.RangeWalk
import Derived.WideKeyEntry
import Derived.Laws.BytesArg
import Derived.Test.YthnkgmlhpefldaaDoorJGuessTellsRow2
namespace Go.Proofs.YthnkgmlhpefldaaDoor
open Go.RowKit

set_option maxHeartbeats 400000 in
theorem gramT (x : Int) (w : World) : Calls Tryd.prog 21 #[.int .i64 x] w fun e w' => e = .returned (.agg #[.bool true, .int .i64 x]) ∧ Below w.heap.size w w' := by
  go_enter Tryd.func21, Tryd.ntmps21
  go_wp2
  exact bodyPost_ret (v := .agg #[.bool true, .int .i64 x]) (by simp [results, Tryd.results21, go_sem]) rfl ⟨rfl, (Below.refl _ _).alloc (Nat.le_refl _) _⟩
set_option maxHeartbeats 400000 in
theorem gramN (x : Int) (w : World) : Calls Tryd.prog 22 #[.int .i64 x] w fun e w' => e = .returned (.agg #[.bool false, .int .i64 x]) ∧ Below w.heap.size w w' := by
  go_enter Tryd.func22, Tryd.ntmps22
  go_wp2
  exact bodyPost_ret (v := .agg #[.bool false, .int .i64 x]) (by simp [results, Tryd.results22, go_sem]) rfl ⟨rfl, (Below.refl _ _).alloc (Nat.le_refl _) _⟩
end Go.Proofs.YthnkgmlhpefldaaDoor
namespace Go.Proofs.YthnkgmlhpefldaaDoor
open Go.RowKit

/-- a function of nodes, as a function value: I: what it holds of the nodes seen so far, in which blocks -/
structure NodeFn (g : Nat) (lb : Array Value) (w0 : World) (p : Tree → Bool) (N : Nat) (I : List Tree → (Nat → Prop) → World → Prop) : Prop where
  below : ∀ {s S W}, I s S W → Below w0.heap.size w0 W
  own : ∀ {s S W}, I s S W → ∀ k, S k → w0.heap.size ≤ k ∧ k < W.heap.size
  keep : ∀ {s S W W'}, I s S W → Below W.heap.size W W' → I s S W'
  call : ∀ s S W (t : Tree) (v : Value), I s S W → Rd AnyB w0 (.sl (t.kids.map Tree.d)) [v] → s.length < N →
    Calls Tryd.prog g (#[.agg #[.int .i64 t.rule, .int .i64 t.term, v]] ++ lb) W fun e W' => ∃ S', e = .returned (.bool (p t)) ∧ I (s ++ [t]) S' W' ∧ Keeps S W W' ∧ ∀ k, S' k → S k ∨ W.heap.size ≤ k

structure WalkRel (p : Tree → Bool) (I : List Tree → (Nat → Prop) → World → Prop) (t : Tree) (s : List Tree) (S : Nat → Prop) (W : World) (i : Nat) (S' : Nat → Prop) (W' : World) : Prop where
  inv : I (s ++ t :: nodesL ((kidsOf t).take i)) S' W'
  kps : Keeps S W W'
  sub : ∀ k, S' k → S k ∨ W.heap.size ≤ k
  all : (t :: nodesL ((kidsOf t).take i)).all p = true

end Go.Proofs.YthnkgmlhpefldaaDoor
namespace Go.Proofs.YthnkgmlhpefldaaDoor
open Go.RowKit

mutual
def Tree.size : Tree → Nat
  | .node _ _ ks => sizeL ks + 1
def sizeL : List Tree → Nat
  | [] => 0
  | k :: ks => Tree.size k + sizeL ks
end
theorem Tree.size_eq (t : Tree) : t.size = sizeL t.kids + 1 := by cases t; simp [Tree.size, Tree.kids]
end Go.Proofs.YthnkgmlhpefldaaDoor
namespace Go.Proofs.YthnkgmlhpefldaaDoor
open Go.RowKit

end Go.Proofs.YthnkgmlhpefldaaDoor
namespace Go.Proofs.YthnkgmlhpefldaaDoor
open Go.RowKit
namespace Guess

theorem own_of_block' {w : World} {g : Nat} {e : TypeId} {size n : Nat} {cur : Array Value} (h : w.heap[g]? = some (.cells cur e (0, 0))) (hn : cur.size = n * size) (hm : n ≤ maxLen) : w.ownsRow 0 e size (.slice (some ⟨g, 0, none⟩) n n) n cur.toList :=
  ⟨by simpa using hn, .inr ⟨_, n, cur, rfl, Nat.zero_le _, h, Nat.le_refl _, hm, hn, by rw [← hn]; exact List.take_of_length_le (by simp)⟩⟩
theorem symCells' {S S' : Nat → Prop} {w w' : World} {sy : List Sym} {xs : List Value} (h : RdAll S w (sy.map Sym.d) xs) : RdAll S' w' (sy.map Sym.d) xs := by
  induction sy generalizing xs with
  | nil => exact h
  | cons s sy ih =>
    obtain ⟨c1, c2, rfl, h1, h2⟩ := h
    obtain rfl := h1.sym
    exact ⟨_, _, rfl, rd_sym s, ih h2⟩

/-- the rules that have been gathered; where they lie -/
structure OutRel (w2 : World) (b9 : Nat) (done : List Rule) (vo : Value) (W : World) : Prop where
  box : W.heap[b9]? = some (.cells #[vo] 23 (0, 0))
  own : ∃ xs, W.ownsRow (b9 + 1) 32 2 vo done.length xs ∧ RdAll (fun k => k ≠ b9 ∧ vo.ownBlock ≠ some k) W (done.map Rule.d) xs
  le : b9 + 1 ≤ W.heap.size
  bel : Below b9 w2 W
structure AddRel (w2 : World) (b9 b10 : Nat) (j : Int) (done : List Rule) (vo : Value) (W : World) : Prop where
  out : OutRel w2 b9 done vo W
  nb : W.heap[b10]? = some (.cells #[.int .i64 j] 3 (0, 0))
  ap : vo.ownBlock ≠ some b10
  ne : b9 < b10

theorem OutRel.keep {w2 : World} {b9 : Nat} {done : List Rule} {vo : Value} {W W' : World} (h : OutRel w2 b9 done vo W) (hb : Below W.heap.size W W') : OutRel w2 b9 done vo W' := by
  obtain ⟨xs, h1, h2⟩ := h.own
  exact ⟨bx_keep h.box hb, ⟨xs, own_keep h1 hb, h2.below hb⟩, Nat.le_trans h.le hb.size, h.bel.trans (hb.mono (by have := h.le; omega))⟩
theorem AddRel.keep {w2 : World} {b9 b10 : Nat} {j : Int} {done : List Rule} {vo : Value} {W W' : World} (h : AddRel w2 b9 b10 j done vo W) (hb : Below W.heap.size W W') : AddRel w2 b9 b10 j done vo W' :=
  ⟨h.out.keep hb, bx_keep h.nb hb, h.ap, h.ne⟩
/-- a new slice of symbols -/
theorem argRd {w2 : World} {b9 b10 : Nat} {j : Int} {done : List Rule} {vo : Value} {W : World} (h : AddRel w2 b9 b10 j done vo W) {g n : Nat} {cur : Array Value} {l : List Sym} (hx : W.heap[g]? = some (.cells cur 44 (0, 0))) (hr : RdAll AnyB W (l.map Sym.d) cur.toList) (hn : l.length = n) (hs : cur.size = n * 2) (hm : n ≤ 100) (h9 : g ≠ b9) (ho : vo.ownBlock ≠ some g) :
    Rd (fun k => k ≠ b9 ∧ vo.ownBlock ≠ some k) W (.sl (l.map Sym.d)) [.slice (some ⟨g, 0, none⟩) n n] :=
  rd_of_own (own_of_block' hx hs (by unfold maxLen; omega)) (symCells' hr) (by simpa using hn) (fun k e => by simp [Value.ownBlock] at e; subst e; exact ⟨h9, ho⟩)

def AddPost (w2 : World) (b9 b10 : Nat) (j : Int) (done : List Rule) (vo : Value) (W : World) (_ : Ending) (W' : World) : Prop :=
  ∃ vo', AddRel w2 b9 b10 j done vo' W' ∧ Keeps (fun k => k = b9 ∨ vo.ownBlock = some k) W W' ∧ (vo'.ownBlock = vo.ownBlock ∨ ∃ k, vo'.ownBlock = some k ∧ W.heap.size ≤ k)

set_option maxHeartbeats 1000000 in
theorem addE (w2 : World) (b9 b10 : Nat) (j : Int) (done : List Rule) (vo : Value) (l : List Sym) (al : Option Addr) (cl : Nat) (W : World) (h : AddRel w2 b9 b10 j done vo W) (hl : Rd (fun k => k ≠ b9 ∧ vo.ownBlock ≠ some k) W (.sl (l.map Sym.d)) [.slice al l.length cl]) (hd : done.length ≤ 1000) :
    Calls Tryd.prog 23 #[.slice al l.length cl, .pointer (some ⟨b9, 0, none⟩), .pointer (some ⟨b10, 0, none⟩)] W fun e W' => (∃ v, e = .returned v) ∧ AddPost w2 b9 b10 j (done ++ [⟨j, l⟩]) vo W e W' := by
  have H := Lib.hid h
  have HL := Lib.hid hl
  obtain ⟨xs, ho, hr⟩ := h.out.own
  obtain ⟨a, c, rfl, hc1, hc2⟩ := own_len ho
  have HO := Lib.hid ho
  have HR := Lib.hid hr
  have c0 := bx_cells1 h.out.box
  have f0 := bx_free1 h.out.box
  have c1 := bx_cells1 h.nb
  have hle := h.out.le
  have hlt9 : b9 < W.heap.size := (Array.getElem?_eq_some_iff.1 h.out.box).1
  have hlt10 : b10 < W.heap.size := (Array.getElem?_eq_some_iff.1 h.nb).1
  unfold maxLen at hc2
  clear h hl ho hr
  go_enter Tryd.func23, Tryd.ntmps23
  go_wp2_with (at_builtin; refine wp_app1at elRule rfl _ _ rfl HO.out rfl rfl rfl rfl rfl (by omega) (by unfold maxLen; omega) (by omega) ?_)
  intro v' W1 ho1 hg1 hat1
  have hr1 := own_step (S := fun k => k ≠ b9) HR.out (RdAll.one (rd_rule (r := ⟨j, l⟩) HL.out)) hg1 hat1
  obtain ⟨a1, c1', hv', -, -⟩ := own_len ho1
  have hb9 : W1.heap[b9]? = some (.cells #[.slice a done.length c] 23 (0, 0)) := by
    rw [hg1.block b9 hlt9 (fun e => by have := (HO.out.lt _ e.symm).1; omega)]; exact H.out.out.box
  have hb10 : W1.heap[b10]? = some (.cells #[.int .i64 j] 3 (0, 0)) := by
    rw [hg1.block b10 hlt10 (fun e => H.out.ap e.symm)]; exact H.out.nb
  have hne9 : v'.ownBlock ≠ some b9 := fun e => by have := (ho1.lt _ e).1; omega
  have hR : AddRel w2 b9 b10 j (done ++ [⟨j, l⟩]) v' (W1.setCell ⟨b9, 0, none⟩ v') := by
    refine ⟨⟨by rw [bx_set hb9]; rfl, ⟨_, by rw [List.length_append]; exact ho1.kept (grown_cell W1 ⟨b9, 0, none⟩ v') (.inr hne9), ?_⟩, by simp [World.setCell]; exact Nat.le_trans hle hg1.size, ?_⟩, bx_other hb10 (by have := H.out.ne; omega) _ _, ?_, H.out.ne⟩
    · rw [List.map_append]
      exact RdAll.keep (fun k hk _ => ⟨hk, Below.heap_setCell _ _ _ _ hk.1⟩) _ _ hr1
    · exact (H.out.out.bel.grown hg1 (by omega) (fun k e => by have := (HO.out.lt _ e).1; omega)).setCell (by simp) _
    · rcases hat1 with e | ⟨k, e, hk⟩
      · rw [e]; exact H.out.ap
      · rw [e]; intro e2; cases e2; omega
  have hK : Keeps (fun k => k = b9 ∨ (Value.slice a done.length c).ownBlock = some k) W (W1.setCell ⟨b9, 0, none⟩ v') :=
    ⟨hg1.os, hg1.tape, hg1.output, by simp [World.setCell]; exact hg1.size, fun k hk hn => by
      rw [Below.heap_setCell _ _ _ _ (fun e => hn (.inl e)), hg1.block k hk (fun e => hn (.inr e.symm))]⟩
  have HRR := Lib.hid hR
  have HKK := Lib.hid hK
  have HAT := Lib.hid hat1
  have f1 := bx_free1 hb9
  have c2 := bx_cells1 hb9
  subst hv'
  clear ho1 hg1 hat1 hr1 hb9 hb10 hne9 hR hK
  go_wp2
  go_end0
  exact ⟨⟨_, rfl⟩, _, HRR.out, HKK.out, HAT.out⟩

def symL (b : Bool) (n : Nat) : List Sym := (List.range n).map fun (i : Nat) => ⟨b, (i : Int)⟩
theorem symL_len (b : Bool) (n : Nat) : (symL b n).length = n := by simp [symL]
theorem symL_succ (b : Bool) (n : Nat) : symL b (n + 1) = symL b n ++ [⟨b, (n : Int)⟩] := by simp [symL, List.range_succ]
def symsOf (t n : Nat) : List Sym := symL true t ++ symL false n
def rulesAt (sy : List Sym) (j : Int) : List Rule := ⟨j, []⟩ :: (sy.map (fun x => ⟨j, [x]⟩) ++ sy.flatMap (fun x => sy.map fun y => ⟨j, [x, y]⟩))
def rulesL (sy : List Sym) (n : Nat) : List Rule := (List.range n).flatMap fun (j : Nat) => rulesAt sy (j : Int)
theorem flat_len (a b : List Sym) (j : Int) (ha : a.length ≤ 4) (hb : b.length ≤ 4) : (a.flatMap fun x => b.map fun y => (⟨j, [x, y]⟩ : Rule)).length ≤ 16 := by
  have h : ∀ (a b : List Sym), (a.flatMap fun x => b.map fun y => (⟨j, [x, y]⟩ : Rule)).length = a.length * b.length := by
    intro a b
    induction a with
    | nil => simp
    | cons x a ih => simp [List.flatMap_cons, ih, Nat.add_mul]; omega
  rw [h]
  exact Nat.mul_le_mul ha hb
theorem rulesAt_len (sy : List Sym) (j : Int) : (rulesAt sy j).length = 1 + sy.length + sy.length * sy.length := by
  have h : ∀ (a b : List Sym), (a.flatMap fun x => b.map fun y => (⟨j, [x, y]⟩ : Rule)).length = a.length * b.length := by
    intro a b
    induction a with
    | nil => simp
    | cons x a ih => simp [List.flatMap_cons, ih, Nat.add_mul]; omega
  simp only [rulesAt, List.length_cons, List.length_append, List.length_map, h]
  omega
theorem rulesL_len (sy : List Sym) (k : Nat) (h : sy.length ≤ 4) (hk : k ≤ 2) : (rulesL sy k).length ≤ 42 := by
  have h1 : ∀ j : Int, (rulesAt sy j).length ≤ 21 := by
    intro j
    rw [rulesAt_len]
    have : sy.length * sy.length ≤ 4 * 4 := Nat.mul_le_mul h h
    omega
  have a0 := h1 0
  have a1 := h1 1
  match k, hk with
  | 0, _ => simp [rulesL]
  | 1, _ => simp [rulesL, List.range_succ]; omega
  | 2, _ => simp [rulesL, List.range_succ]; omega
theorem rulesL_succ (sy : List Sym) (n : Nat) : rulesL sy (n + 1) = rulesL sy n ++ rulesAt sy (n : Int) := by simp [rulesL, List.range_succ]

/-- the symbols that have been gathered -/
structure SymRel (w : World) (sy : List Sym) (v : Value) (W : World) : Prop where
  own : ∃ xs, W.ownsRow w.heap.size 44 2 v sy.length xs ∧ RdAll AnyB W (sy.map Sym.d) xs
  bel : Below w.heap.size w W
theorem SymRel.step {w : World} {sy : List Sym} {s : Sym} {v v' : Value} {W w1 W' : World} {xs : List Value} (h : SymRel w sy v W) (hb : Below W.heap.size W w1) (ho : W.ownsRow w.heap.size 44 2 v sy.length xs) (hd : RdAll AnyB W (sy.map Sym.d) xs)
    (ho' : W'.ownsRow w.heap.size 44 2 v' (sy.length + 1) (xs ++ [.bool s.term, .int .i64 s.n])) (hg : w1.grownBy W' v.ownBlock) : SymRel w (sy ++ [s]) v' W' := by
  refine ⟨⟨_, by rw [List.length_append]; exact ho', ?_⟩, (h.bel.trans (hb.mono h.bel.size)).grown hg (Nat.le_trans h.bel.size hb.size) (fun k e => (ho.lt k e).1)⟩
  rw [List.map_append]
  exact RdAll.append (symCells' hd) (RdAll.one (rd_sym s))

def RulesPost (e0 : Int) (rl : List Rule) (w : World) (e : Ending) (w' : World) : Prop := ∃ v, e = .returned (.tuple #[v, .int .i64 e0]) ∧ Rd AnyB w' (.sl (rl.map Rule.d)) [v] ∧ Below w.heap.size w w'

set_option maxHeartbeats 4000000 in
set_option maxRecDepth 100000 in
theorem rulesE (t n : Nat) (w : World) (ht : 1 ≤ t) (ht2 : t ≤ 2) (hn : 1 ≤ n) (hn2 : n ≤ 2) :
    Calls Tryd.prog 9 #[.int .i64 t, .int .i64 n] w (RulesPost 0 (rulesL (symsOf t n) n) w) := by
  have b1 : decide ((t : Int) < 1) = false := by simp; omega
  have b2 : decide ((2 : Int) < (t : Int)) = false := by simp; omega
  have b3 : decide ((n : Int) < 1) = false := by simp; omega
  have b4 : decide ((2 : Int) < (n : Int)) = false := by simp; omega
  go_enter Tryd.func9, Tryd.ntmps9
  go_wp2_with fail
  go_loopg [6, 33] t (fun gg v6 v33 wr => ∃ i : Nat, i ≤ t ∧ t - i ≤ gg ∧ v33 = .int .i64 i ∧ Hid (SymRel w (symL true i) v6 wr))
  case atStart => exact ⟨0, by omega, by omega, rfl, ⟨⟨[], World.ownsRow_nil _ _ _ _, by simp [RdAll, symL]⟩, Below.refl _ _⟩⟩
  case round =>
    obtain ⟨i, hi, hg, rfl, HR⟩ := hrel
    obtain ⟨xs, ho, hd⟩ := HR.out.own
    have hl0 : (symL true i).length = i := by simp [symL_len]
    obtain ⟨a6, c6, hv6, h61, h62⟩ := own_len ho
    rw [hl0] at hv6 h61
    subst hv6
    unfold maxLen at h62
    by_cases hlt : i < t
    · have hlt' : (i : Int) < (t : Int) := by omega
      have HO := Lib.hid ho
      have HD := Lib.hid hd
      have HL0 := Lib.hid hl0
      clear ho hd hl0
      go_wp2_with fail
      refine (gramT i _).mono ?_
      rintro e w1 ⟨rfl, hb1⟩
      have HB1 := Lib.hid hb1
      have hs1 := hb1.size
      have hs2 := HR.out.bel.size
      have HO1 : Hid (w1.ownsRow w.heap.size 44 2 (.slice a6 (i) c6) (i) xs) := by have h := own_keep HO.out hb1; rw [HL0.out] at h; exact h
      clear hb1
      go_wp2_with (at_builtin; refine wp_app1at elSym rfl _ _ rfl HO1.out rfl rfl rfl rfl rfl (by omega) (by unfold maxLen; omega) (by omega) ?_)
      intro v' w2 ho2 hg2 hat2
      have HR2 : Hid (SymRel w (symL true (i + 1)) v' w2) := by
        rw [symL_succ]
        exact HR.out.step HB1.out HO.out HD.out (by rw [HL0.out]; exact ho2) hg2
      obtain ⟨a', c', rfl, -, -⟩ := own_len ho2
      clear ho2 hg2 hat2
      go_wp2_with fail
      go_roundg (t - (i + 1))
      case measure => omega
      case rel => exact ⟨i + 1, by omega, by omega, by go_num, HR2⟩
    · have hlt' : ¬ (i : Int) < (t : Int) := by omega
      have hit : t = i := by omega
      subst hit
      clear hg hlt ho hd xs h61
      go_wp2_with fail
      go_loopg [6, 43] n (fun gg v6 v43 wr => ∃ i : Nat, i ≤ n ∧ n - i ≤ gg ∧ v43 = .int .i64 i ∧ Hid (SymRel w (symL true t ++ symL false i) v6 wr))
      case atStart => exact ⟨0, by omega, by omega, rfl, by have h := HR; simpa [symL] using h⟩
      case round =>
        clear HR
        obtain ⟨i, hi, hg, rfl, HR⟩ := hrel
        obtain ⟨xs, ho, hd⟩ := HR.out.own
        have hl0 : (symL true t ++ symL false i).length = t + i := by simp [symL_len]
        obtain ⟨a6, c6, hv6, h61, h62⟩ := own_len ho
        rw [hl0] at hv6 h61
        subst hv6
        unfold maxLen at h62
        by_cases hlt : i < n
        · have hlt' : (i : Int) < (n : Int) := by omega
          have HO := Lib.hid ho
          have HD := Lib.hid hd
          have HL0 := Lib.hid hl0
          clear ho hd hl0
          go_wp2_with fail
          refine (gramN i _).mono ?_
          rintro e w1 ⟨rfl, hb1⟩
          have HB1 := Lib.hid hb1
          have hs1 := hb1.size
          have hs2 := HR.out.bel.size
          have HO1 : Hid (w1.ownsRow w.heap.size 44 2 (.slice a6 (t + i) c6) (t + i) xs) := by have h := own_keep HO.out hb1; rw [HL0.out] at h; exact h
          clear hb1
          go_wp2_with (at_builtin; refine wp_app1at elSym rfl _ _ rfl HO1.out rfl rfl rfl rfl rfl (by omega) (by unfold maxLen; omega) (by omega) ?_)
          intro v' w2 ho2 hg2 hat2
          have HR2 : Hid (SymRel w (symL true t ++ symL false (i + 1)) v' w2) := by
            rw [symL_succ, ← List.append_assoc]
            exact HR.out.step HB1.out HO.out HD.out (by rw [HL0.out]; exact ho2) hg2
          obtain ⟨a', c', rfl, -, -⟩ := own_len ho2
          clear ho2 hg2 hat2
          go_wp2_with fail
          go_roundg (n - (i + 1))
          case measure => omega
          case rel => exact ⟨i + 1, by omega, by omega, by go_num, HR2⟩
        · have hlt' : ¬ (i : Int) < (n : Int) := by omega
          have hin : n = i := by omega
          subst hin
          clear hg hlt ho hd xs h61
          obtain ⟨sy, HSY⟩ := nameIt (symsOf t n)
          have hsyr := HR.out
          rw [show symL true t ++ symL false n = sy from HSY.out] at hsyr
          have hsl : sy.length = t + n := by rw [← HSY.out]; simp [symsOf, symL_len]
          obtain ⟨xs, ho, hd⟩ := hsyr.own
          have hrd : Rd AnyB wr (.sl (sy.map Sym.d)) [.slice a6 (t + n) c6] := rd_of_own ho hd (by simp) (fun _ _ => trivial)
          obtain ⟨wo, rfl⟩ : ∃ wo : World, wo = wr := ⟨_, rfl⟩
          obtain ⟨b9, HB9⟩ := nameIt wo.heap.size
          obtain ⟨w3, HW3⟩ := nameIt (wo.alloc (.cells #[.slice none 0 0] 23))
          have HR3 : Hid (OutRel wo b9 (rulesL sy 0) (.slice none 0 0) w3) := by
            rw [← HW3.out, ← HB9.out]
            exact ⟨bx_new _ _ _ rfl, ⟨[], World.ownsRow_nil _ _ _ _, by simp [rulesL, RdAll]⟩, by simp, (Below.refl _ _).alloc (Nat.le_refl _) _⟩
          have HBW := Lib.hid hsyr.bel
          have HRD := Lib.hid hrd
          have HSL := Lib.hid hsl
          have hb9 : w.heap.size ≤ b9 := by rw [← HB9.out]; exact hsyr.bel.size
          have hsl4 : t + n ≤ 4 := by omega
          clear HR hsyr hrd ho hd hl0 hlt'
          go_upto_region 15 with fail
          rw [HW3.out, HB9.out]
          go_wp2_with fail
          go_loopg [53] n (fun gg v53 wr => ∃ (j : Nat) (vo : Value), j ≤ n ∧ n - j ≤ gg ∧ v53 = .int .i64 j ∧ Hid (OutRel wo b9 (rulesL sy j) vo wr))
          case atStart => exact ⟨0, _, by omega, by omega, rfl, HR3⟩
          case round =>
            clear HR3 HW3
            obtain ⟨j, vo, hj, hg, rfl, HR⟩ := hrel
            by_cases hlt : j < n
            · have hlt' : (j : Int) < (n : Int) := by omega
              obtain ⟨wp, rfl⟩ : ∃ wp : World, wp = wr := ⟨_, rfl⟩
              obtain ⟨b10, HB10⟩ := nameIt wp.heap.size
              obtain ⟨w4, HW4⟩ := nameIt (wp.alloc (.cells #[.int .i64 j] 3))
              have hle9 : b9 < b10 := by rw [← HB10.out]; have := HR.out.le; omega
              have HA4 : Hid (AddRel wo b9 b10 j (rulesL sy j) vo w4) := by
                rw [← HW4.out]
                refine ⟨HR.out.keep ((Below.refl _ _).alloc (Nat.le_refl _) _), bx_new _ _ _ HB10.out.symm, fun e => ?_, hle9⟩
                obtain ⟨xs, ho, _⟩ := HR.out.own
                have := (ho.lt _ e).2
                have := HB10.out
                omega
              obtain ⟨xo, hoo, _⟩ := HR.out.own
              obtain ⟨ao, co, rfl, -, -⟩ := own_len hoo
              have HLD : Hid (∀ k, k ≤ 2 → (rulesL sy k).length ≤ 42) := fun k hk => rulesL_len sy k (by rw [HSL.out]; omega) hk
              have hld := HLD.out j (by omega)
              have C4 := Lib.hid (addE wo b9 b10 j (rulesL sy j) _ [] none 0 w4 HA4.out ⟨none, 0, [], rfl, by simp, by simp [maxLen], fun _ => rfl, fun i hi => by simp at hi, rfl⟩ (by omega))
              clear hoo HR
              go_upto_region 18 with fail
              rw [HW4.out, HB10.out]
              go_wp2_with fail
              refine C4.out.mono ?_
              rintro e w5 ⟨⟨ve, rfl⟩, vo5, hA5, -, -⟩
              have HA5 : Hid (AddRel wo b9 b10 j (rulesL sy j ++ (⟨(j : Int), []⟩ :: (sy.take 0).map fun x => ⟨(j : Int), [x]⟩)) vo5 w5) := by show AddRel _ _ _ _ _ _ _; simpa using hA5
              clear hA5 C4 HA4 HW4
              go_wp2_with fail
              go_loopg [61] (t + n) (fun gg v61 wq => ∃ (i : Nat) (vo : Value), i ≤ t + n ∧ t + n - i ≤ gg ∧ v61 = .int .i64 i ∧ Hid (AddRel wo b9 b10 j (rulesL sy j ++ (⟨(j : Int), []⟩ :: (sy.take i).map fun x => ⟨(j : Int), [x]⟩)) vo wq))
              case atStart => exact ⟨0, _, by omega, by omega, rfl, HA5⟩
              case round =>
                clear HA5
                obtain ⟨i, vo, hi, hgi, rfl, HA⟩ := hrel
                by_cases hlti : i < t + n
                · have hlti' : (i : Int) < (t : Int) + (n : Int) := by omega
                  have hlti2 : (i : Int) < ((t + n : Nat) : Int) := by omega
                  have hisy : i < sy.length := by rw [HSL.out]; exact hlti
                  obtain ⟨b, off, hae, -, hbl, e0, e1⟩ := HRD.out.sym_at hisy
                  rw [HB9.out] at hbl
                  have hbel := HA.out.out.bel
                  have d0 := (hbel.cell (p := ⟨b, off + i * 2, none⟩) hbl).trans e0
                  have d1 := (hbel.cell (p := ⟨b, off + i * 2 + 1, none⟩) hbl).trans e1
                  obtain ⟨x, HX⟩ := nameIt (sy[i]'hisy)
                  rw [HX.out] at d0 d1
                  obtain ⟨q0, HQ0⟩ := nameIt x.term
                  obtain ⟨q1, HQ1⟩ := nameIt x.n
                  rw [HQ0.out] at d0
                  rw [HQ1.out] at d1
                  obtain ⟨xo, hoo, _⟩ := HA.out.out.own
                  obtain ⟨ao, co, rfl, -, -⟩ := own_len hoo
                  have hown := hoo.lt
                  have hle := HA.out.out.le
                  obtain ⟨wb, HWB⟩ := nameIt ((wr.alloc (.cells #[.bool q0, .int .i64 q1] 44)).alloc (.cells #[.bool q0, .int .i64 q1] 44))
                  have hbb : Below wr.heap.size wr wb := by rw [← HWB.out]; exact ((Below.refl _ _).alloc (Nat.le_refl _) _).alloc (by simp) _
                  have hAb := HA.out.keep hbb
                  have hx : wb.heap[wr.heap.size + 1]? = some (.cells #[.bool q0, .int .i64 q1] 44 (0, 0)) := by rw [← HWB.out]; exact bx_new _ _ _ (by simp)
                  have hrdx : RdAll AnyB wb ([x].map Sym.d) [.bool q0, .int .i64 q1] := by rw [← HQ0.out, ← HQ1.out]; exact RdAll.one (rd_sym x)
                  have harg := argRd hAb hx (l := [x]) (n := 1) hrdx rfl rfl (by omega) (by omega) (fun e => by have := (hown _ e).2; omega)
                  have HST : Hid ((rulesL sy j ++ (⟨(j : Int), []⟩ :: (sy.take i).map fun x => ⟨(j : Int), [x]⟩)) ++ [⟨(j : Int), [x]⟩] = rulesL sy j ++ (⟨(j : Int), []⟩ :: (sy.take (i + 1)).map fun x => ⟨(j : Int), [x]⟩)) := by
                    show _ = _
                    rw [List.take_succ_eq_append_getElem hisy, HX.out]; simp
                  have C5 := addE wo b9 b10 j _ _ [x] _ 1 wb hAb harg (by have := HLD.out j (by omega); simp; omega)
                  rw [HST.out] at C5
                  have HC5 := Lib.hid C5
                  subst hae
                  clear e0 e1 hbel hAb hx hrdx harg C5 hoo hown HA
                  go_wp2_with fail
                  rw [HWB.out]
                  refine HC5.out.mono ?_
                  rintro e w6 ⟨⟨ve6, rfl⟩, vo6, hA6, -, -⟩
                  have HA6 := Lib.hid hA6
                  clear hA6 HC5 d0 d1
                  go_wp2_with fail
                  go_roundg (t + n - (i + 1))
                  case measure => omega
                  case rel => exact ⟨i + 1, _, by omega, by omega, by go_num, HA6⟩
                · have hlti' : ¬ (i : Int) < (t : Int) + (n : Int) := by omega
                  have HA7 : Hid (AddRel wo b9 b10 j (rulesL sy j ++ (⟨(j : Int), []⟩ :: sy.map fun x => ⟨(j : Int), [x]⟩)) vo wr) := by
                    have h := HA.out
                    rw [List.take_of_length_le (by rw [HSL.out]; omega)] at h
                    exact h
                  clear HA
                  go_wp2_with fail
                  obtain ⟨base, HBS⟩ := nameIt (rulesL sy j ++ (⟨(j : Int), []⟩ :: sy.map fun x => ⟨(j : Int), [x]⟩))
                  rw [HBS.out] at HA7
                  have hbl : base.length ≤ 42 + 1 + 4 := by rw [← HBS.out]; have := HLD.out j (by omega); simp; rw [HSL.out]; omega
                  have HF0 : Hid (AddRel wo b9 b10 j (base ++ (sy.take 0).flatMap fun x => sy.map fun y => ⟨(j : Int), [x, y]⟩) vo wr) := by show AddRel _ _ _ _ _ _ _; simpa using HA7.out
                  clear HA7
                  go_loopg [72] (t + n) (fun gg v72 wq => ∃ (i : Nat) (vo : Value), i ≤ t + n ∧ t + n - i ≤ gg ∧ v72 = .int .i64 i ∧ Hid (AddRel wo b9 b10 j (base ++ (sy.take i).flatMap fun x => sy.map fun y => ⟨(j : Int), [x, y]⟩) vo wq))
                  case atStart => exact ⟨0, _, by omega, by omega, rfl, HF0⟩
                  case round =>
                    clear HF0 hlti hlti' hgi hi
                    obtain ⟨i, vo, hi, hgi, rfl, HA⟩ := hrel
                    by_cases hlti : i < t + n
                    · have hlti' : (i : Int) < (t : Int) + (n : Int) := by omega
                      have hisy : i < sy.length := by rw [HSL.out]; exact hlti
                      obtain ⟨b, off, hae, -, hbl2, e0, e1⟩ := HRD.out.sym_at hisy
                      rw [HB9.out] at hbl2
                      have hbel := HA.out.out.bel
                      have d0 := (hbel.cell (p := ⟨b, off + i * 2, none⟩) hbl2).trans e0
                      have d1 := (hbel.cell (p := ⟨b, off + i * 2 + 1, none⟩) hbl2).trans e1
                      obtain ⟨x, HX⟩ := nameIt (sy[i]'hisy)
                      rw [HX.out] at d0 d1
                      obtain ⟨q0, HQ0⟩ := nameIt x.term
                      obtain ⟨q1, HQ1⟩ := nameIt x.n
                      rw [HQ0.out] at d0
                      rw [HQ1.out] at d1
                      have HRD' := HRD
                      rw [hae] at HRD'
                      obtain ⟨wq, rfl⟩ : ∃ wq : World, wq = wr := ⟨_, rfl⟩
                      obtain ⟨c15, HC15⟩ := nameIt wq.heap.size
                      obtain ⟨w8, HW8⟩ := nameIt (wq.alloc (.cells #[.bool q0, .int .i64 q1] 44))
                      have hb8 : Below wq.heap.size wq w8 := by rw [← HW8.out]; exact (Below.refl _ _).alloc (Nat.le_refl _) _
                      obtain ⟨F, HF⟩ := nameIt (base ++ (sy.take i).flatMap fun x => sy.map fun y => (⟨(j : Int), [x, y]⟩ : Rule))
                      have hfl : F.length ≤ 42 + 1 + 4 + 16 := by
                        rw [← HF.out, List.length_append]
                        have h : ((sy.take i).flatMap fun x => sy.map fun y => (⟨(j : Int), [x, y]⟩ : Rule)).length ≤ 16 := flat_len _ _ _ (by simp; omega) (by rw [HSL.out]; omega)
                        omega
                      have HFS : Hid (F ++ (sy.map fun y => ⟨(j : Int), [x, y]⟩) = base ++ (sy.take (i + 1)).flatMap fun x => sy.map fun y => ⟨(j : Int), [x, y]⟩) := by
                        show _ = _
                        rw [← HF.out, List.take_succ_eq_append_getElem hisy, HX.out]; simp
                      rw [HF.out] at HA
                      have hc9 : b9 < c15 := by rw [← HC15.out]; have := HA.out.out.le; omega
                      have hc15 : vo.ownBlock ≠ some c15 := fun e => by
                        obtain ⟨xo, hoo, _⟩ := HA.out.out.own
                        have := (hoo.lt _ e).2
                        have := HC15.out
                        omega
                      have HI0 : Hid (AddRel wo b9 b10 j (F ++ (sy.take 0).map fun y => ⟨(j : Int), [x, y]⟩) vo w8 ∧ w8.heap[c15]? = some (.cells #[.bool q0, .int .i64 q1] 44 (0, 0)) ∧ vo.ownBlock ≠ some c15) := by
                        refine ⟨by simpa using HA.out.keep hb8, ?_, hc15⟩
                        rw [← HW8.out]; exact bx_new _ _ _ HC15.out.symm
                      subst hae
                      clear e0 e1 hbel hb8 hc15
                      go_upto_region 28 with fail
                      rw [HW8.out, HC15.out]
                      clear d0 d1
                      go_wp2_with fail
                      go_loopg [78] (t + n) (fun gg v78 wy => ∃ (k : Nat) (vo : Value), k ≤ t + n ∧ t + n - k ≤ gg ∧ v78 = .int .i64 k ∧ Hid (AddRel wo b9 b10 j (F ++ (sy.take k).map fun y => ⟨(j : Int), [x, y]⟩) vo wy ∧ wy.heap[c15]? = some (.cells #[.bool q0, .int .i64 q1] 44 (0, 0)) ∧ vo.ownBlock ≠ some c15))
                      case atStart => exact ⟨0, _, by omega, by omega, rfl, HI0⟩
                      case round =>
                        clear HI0 HA HW8
                        obtain ⟨k, vo, hk, hgk, rfl, HI⟩ := hrel
                        by_cases hltk : k < t + n
                        · have hltk' : (k : Int) < (t : Int) + (n : Int) := by omega
                          have hksy : k < sy.length := by rw [HSL.out]; exact hltk
                          obtain ⟨b', off', hae', -, hbl3, e0, e1⟩ := HRD'.out.sym_at hksy
                          cases hae'
                          have hbel := HI.out.1.out.bel
                          rw [HB9.out] at hbl3
                          have d0 := (hbel.cell (p := ⟨b, off + k * 2, none⟩) hbl3).trans e0
                          have d1 := (hbel.cell (p := ⟨b, off + k * 2 + 1, none⟩) hbl3).trans e1
                          obtain ⟨y, HY⟩ := nameIt (sy[k]'hksy)
                          rw [HY.out] at d0 d1
                          obtain ⟨p0, HP0⟩ := nameIt y.term
                          obtain ⟨p1, HP1⟩ := nameIt y.n
                          rw [HP0.out] at d0
                          rw [HP1.out] at d1
                          obtain ⟨x0, x1⟩ := bx_cells2 HI.out.2.1
                          have hltc : c15 < wr.heap.size := (Array.getElem?_eq_some_iff.1 HI.out.2.1).1
                          obtain ⟨xo, hoo, _⟩ := HI.out.1.out.own
                          obtain ⟨ao, co, rfl, -, -⟩ := own_len hoo
                          have hown := hoo.lt
                          have hle := HI.out.1.out.le
                          obtain ⟨wb, HWB⟩ := nameIt ((wr.alloc (.cells #[.bool p0, .int .i64 p1] 44)).alloc (.cells #[.bool q0, .int .i64 q1, .bool p0, .int .i64 p1] 44))
                          have hbb : Below wr.heap.size wr wb := by rw [← HWB.out]; exact ((Below.refl _ _).alloc (Nat.le_refl _) _).alloc (by simp) _
                          have hAb := HI.out.1.keep hbb
                          have hx : wb.heap[wr.heap.size + 1]? = some (.cells #[.bool q0, .int .i64 q1, .bool p0, .int .i64 p1] 44 (0, 0)) := by rw [← HWB.out]; exact bx_new _ _ _ (by simp)
                          have hrdx : RdAll AnyB wb ([x, y].map Sym.d) [.bool q0, .int .i64 q1, .bool p0, .int .i64 p1] := by
                            rw [← HQ0.out, ← HQ1.out, ← HP0.out, ← HP1.out]; exact ⟨_, _, rfl, rd_sym x, RdAll.one (rd_sym y)⟩
                          have harg := argRd hAb hx (l := [x, y]) (n := 2) hrdx rfl rfl (by omega) (by omega) (fun e => by have := (hown _ e).2; omega)
                          have HST : Hid ((F ++ (sy.take k).map fun y => (⟨(j : Int), [x, y]⟩ : Rule)) ++ [⟨(j : Int), [x, y]⟩] = F ++ (sy.take (k + 1)).map fun y => ⟨(j : Int), [x, y]⟩) := by
                            show _ = _
                            rw [List.take_succ_eq_append_getElem hksy, HY.out]; simp
                          have C5 := addE wo b9 b10 j _ _ [x, y] _ 2 wb hAb harg (by simp; omega)
                          rw [HST.out] at C5
                          have HC5 := Lib.hid C5
                          have HXB := Lib.hid (bx_keep HI.out.2.1 hbb)
                          have HAP := Lib.hid HI.out.2.2
                          have hszb := hbb.size
                          clear e0 e1 hbel hAb hx hrdx harg C5 hoo hown HI
                          go_wp2_with fail
                          rw [HWB.out]
                          refine HC5.out.mono ?_
                          rintro e w6 ⟨⟨ve6, rfl⟩, vo6, hA6, hK6, hat6⟩
                          have HI6 : Hid (AddRel wo b9 b10 j (F ++ (sy.take (k + 1)).map fun y => ⟨(j : Int), [x, y]⟩) vo6 w6 ∧ w6.heap[c15]? = some (.cells #[.bool q0, .int .i64 q1] 44 (0, 0)) ∧ vo6.ownBlock ≠ some c15) := by
                            refine ⟨hA6, hK6.cells HXB.out ?_, ?_⟩
                            · rintro (e | e)
                              · omega
                              · exact HAP.out e
                            · rcases hat6 with e | ⟨z, e, hz⟩
                              · rw [e]; exact HAP.out
                              · rw [e]; intro e2; cases e2; omega
                          clear hA6 hK6 hat6 HC5 d0 d1 x0 x1 HXB HAP
                          go_wp2_with fail
                          go_roundg (t + n - (k + 1))
                          case measure => omega
                          case rel => exact ⟨k + 1, _, by omega, by omega, by go_num, HI6⟩
                        · have hltk' : ¬ (k : Int) < (t : Int) + (n : Int) := by omega
                          have HA8 : Hid (AddRel wo b9 b10 j (base ++ (sy.take (i + 1)).flatMap fun x => sy.map fun y => ⟨(j : Int), [x, y]⟩) vo wr) := by
                            have h := HI.out.1
                            rw [List.take_of_length_le (by rw [HSL.out]; omega), HFS.out] at h
                            exact h
                          clear HI
                          go_wp2_with fail
                          go_roundg (t + n - (i + 1))
                          case measure => omega
                          case rel => exact ⟨i + 1, _, by omega, by omega, by go_num, HA8⟩
                    · have hlti' : ¬ (i : Int) < (t : Int) + (n : Int) := by omega
                      have HO9 : Hid (OutRel wo b9 (rulesL sy (j + 1)) vo wr) := by
                        have h := HA.out.out
                        rw [List.take_of_length_le (by rw [HSL.out]; omega), ← HBS.out] at h
                        show OutRel _ _ _ _ _
                        rw [rulesL_succ, rulesAt]
                        simpa using h
                      clear HA
                      go_wp2_with fail
                      go_roundg (n - (j + 1))
                      case measure => omega
                      case rel => exact ⟨j + 1, _, by omega, by omega, by go_num, HO9⟩
            · have hlt' : ¬ (j : Int) < (n : Int) := by omega
              have hjn : n = j := by omega
              subst hjn
              obtain ⟨xo, hoo, hro⟩ := HR.out.own
              have hrd : Rd AnyB wr (.sl ((rulesL sy n).map Rule.d)) [vo] := rd_of_own hoo hro.any (by simp) (fun _ _ => trivial)
              obtain ⟨ao, co, rfl, -, -⟩ := own_len hoo
              have c0 := bx_cells1 HR.out.box
              have HRD2 := Lib.hid hrd
              clear hoo hro hrd
              go_wp2_with fail
              go_ret2
              refine ⟨_, rfl, by rw [HSY.out]; exact HRD2.out, HBW.out.trans (HR.out.bel.mono hb9)⟩

set_option maxHeartbeats 400000 in
theorem rulesArg (t n : Int) (w : World) (h : t < 1 ∨ 2 < t ∨ n < 1 ∨ 2 < n) :
    Calls Tryd.prog 9 #[.int .i64 t, .int .i64 n] w (RulesPost 1 [] w) := by
  have h' : (t < 1) ∨ (¬ t < 1 ∧ 2 < t) ∨ (¬ t < 1 ∧ ¬ 2 < t ∧ n < 1) ∨ (¬ t < 1 ∧ ¬ 2 < t ∧ ¬ n < 1 ∧ 2 < n) := by omega
  clear h
  rcases h' with h1 | ⟨h1, h2⟩ | ⟨h1, h2, h3⟩ | ⟨h1, h2, h3, h4⟩
  · have b1 : decide (t < 1) = true := by simpa using h1
    go_enter Tryd.func9, Tryd.ntmps9
    go_wp2_with fail
    go_ret2
    exact ⟨_, rfl, ⟨none, 0, [], rfl, by simp, by simp [maxLen], fun _ => rfl, fun i hi => by simp at hi, rfl⟩, Below.refl _ _⟩
  · have b1 : decide (t < 1) = false := by simpa using h1
    have b2 : decide (2 < t) = true := by simpa using h2
    go_enter Tryd.func9, Tryd.ntmps9
    go_wp2_with fail
    go_ret2
    exact ⟨_, rfl, ⟨none, 0, [], rfl, by simp, by simp [maxLen], fun _ => rfl, fun i hi => by simp at hi, rfl⟩, Below.refl _ _⟩
  · have b1 : decide (t < 1) = false := by simpa using h1
    have b2 : decide (2 < t) = false := by simpa using h2
    have b3 : decide (n < 1) = true := by simpa using h3
    go_enter Tryd.func9, Tryd.ntmps9
    go_wp2_with fail
    go_ret2
    exact ⟨_, rfl, ⟨none, 0, [], rfl, by simp, by simp [maxLen], fun _ => rfl, fun i hi => by simp at hi, rfl⟩, Below.refl _ _⟩
  · have b1 : decide (t < 1) = false := by simpa using h1
    have b2 : decide (2 < t) = false := by simpa using h2
    have b3 : decide (n < 1) = false := by simpa using h3
    have b4 : decide (2 < n) = true := by simpa using h4
    go_enter Tryd.func9, Tryd.ntmps9
    go_wp2_with fail
    go_ret2
    exact ⟨_, rfl, ⟨none, 0, [], rfl, by simp, by simp [maxLen], fun _ => rfl, fun i hi => by simp at hi, rfl⟩, Below.refl _ _⟩
end Guess
end Go.Proofs.YthnkgmlhpefldaaDoor
namespace Go.Proofs.YthnkgmlhpefldaaDoor
open Go.RowKit
namespace Gs

theorem checkG_ok {g : Gram} (h1 : badHead g = false) (h2 : g.rules.length ≤ 32) (h3 : ∀ r ∈ g.rules, 0 ≤ r.left ∧ r.left < g.nons ∧ r.right.length ≤ 4 ∧ ∀ s ∈ r.right, hasS g s = true) (h4 : g.rules.Nodup) : checkG g = 0 := by
  have key : ∀ m i, g.rules.length - i = m → faultsFrom g i (g.rules.drop i) = 0 := by
    intro m
    induction m with
    | zero => intro i hi; rw [List.drop_of_length_le (by omega)]; rfl
    | succ m ih =>
      intro i hi
      have hlt : i < g.rules.length := by omega
      obtain ⟨k1, k2, k3, k4⟩ := h3 _ (List.getElem_mem hlt)
      have h0 : faultR g i g.rules[i] = 0 := by
        unfold faultR
        rw [if_neg (by omega), if_neg (by omega), if_neg (by simp; exact k4), if_neg]
        rw [List.any_eq_true]
        rintro ⟨x, hx, he⟩
        have he2 : x = g.rules[i] := cmpR_zero.1 (by simpa using he)
        obtain ⟨j, hj, rfl⟩ := List.getElem_of_mem hx
        rw [List.length_take] at hj
        rw [List.getElem_take] at he2
        exact (List.pairwise_iff_getElem.1 h4) j i (by omega) hlt (by omega) he2
      rw [faultsFrom_at hlt, if_pos h0]
      exact ih (i + 1) (by omega)
  unfold checkG
  rw [if_neg (by simp [h1]), if_neg (by omega)]
  exact key _ 0 rfl
def LR (t n : Nat) : List Rule := Guess.rulesL (Guess.symsOf t n) n
def okLR (t n : Nat) : Bool := decide (LR t n).Nodup && (LR t n).all fun r => decide (0 ≤ r.left) && decide (r.left < (n : Int)) && decide (r.right.length ≤ 2) && r.right.all fun s => hasS ⟨(t : Int), (n : Int), 0, []⟩ s
theorem okLR_all {t n : Nat} (ht : 1 ≤ t) (ht2 : t ≤ 2) (hn : 1 ≤ n) (hn2 : n ≤ 2) : okLR t n = true := by
  have h1 : t = 1 ∨ t = 2 := by omega
  have h2 : n = 1 ∨ n = 2 := by omega
  rcases h1 with rfl | rfl <;> rcases h2 with rfl | rfl <;> decide +kernel
theorem LR_ok {t n : Nat} (ht : 1 ≤ t) (ht2 : t ≤ 2) (hn : 1 ≤ n) (hn2 : n ≤ 2) : (LR t n).Nodup ∧ ∀ r ∈ LR t n, 0 ≤ r.left ∧ r.left < (n : Int) ∧ r.right.length ≤ 2 ∧ ∀ s ∈ r.right, hasS ⟨(t : Int), (n : Int), 0, []⟩ s = true := by
  have h := okLR_all ht ht2 hn hn2
  unfold okLR at h
  rw [Bool.and_eq_true, List.all_eq_true] at h
  refine ⟨of_decide_eq_true h.1, fun r hr => ?_⟩
  have h2 := h.2 r hr
  simp only [Bool.and_eq_true, decide_eq_true_eq, List.all_eq_true] at h2
  exact ⟨h2.1.1.1, h2.1.1.2, h2.1.2, h2.2⟩
theorem LR_len {t n : Nat} (ht2 : t ≤ 2) (hn2 : n ≤ 2) : (LR t n).length ≤ 42 := Guess.rulesL_len _ _ (by simp [Guess.symsOf, Guess.symL_len]; omega) hn2
theorem LR_pos {t n : Nat} (hn : 1 ≤ n) : 0 < (LR t n).length := by
  obtain ⟨m, rfl⟩ : ∃ m, n = m + 1 := ⟨n - 1, by omega⟩
  unfold LR
  rw [Guess.rulesL_succ, List.length_append, Guess.rulesAt_len]; omega
theorem LR_check {t n : Nat} (ht : 1 ≤ t) (ht2 : t ≤ 2) (hn : 1 ≤ n) (hn2 : n ≤ 2) {p : List Rule} (hs : p.Sublist (LR t n)) (hp : p.length ≤ 3) : checkG ⟨(t : Int), (n : Int), 0, p⟩ = 0 := by
  obtain ⟨h1, h2⟩ := LR_ok ht ht2 hn hn2
  refine checkG_ok ?_ (by show p.length ≤ 32; omega) (fun r hr => ?_) (h1.sublist hs)
  · unfold badHead; simp; omega
  · obtain ⟨k1, k2, k3, k4⟩ := h2 r (hs.subset hr)
    exact ⟨k1, k2, by omega, k4⟩
end Gs
end Go.Proofs.YthnkgmlhpefldaaDoor
namespace Go.Proofs.YthnkgmlhpefldaaDoor
open Go.RowKit

/-- block b is a map that has the keys of which S holds, all of them true -/
def SetM (P : Program) (k e : TypeId) (b c : Nat) (S : Lit → Bool) (w : World) : Prop :=
  ∃ D : DataW Unit, w.ownsMap P k (plainElem P e) b c D ∧ ∀ (key : Value) (l : Lit), keyOf P k key = some l → D.atKey l (.lit (.bool false)) = .lit (.bool (S l))
section
variable {P : Program} {k e t : TypeId} {b c : Nat} {S : Lit → Bool} {w w' : World}
theorem SetM.kept {row : Option Nat} (h : SetM P k e b c S w) (hg : w.grownBy w' row) (hne : some b ≠ row) : SetM P k e b c S w' := by
  obtain ⟨D, h1, h2⟩ := h
  exact ⟨D, h1.kept hg hne, h2⟩
theorem SetM.keep (h : SetM P k e b c S w) (hb : Below w.heap.size w w') : SetM P k e b c S w' := h.kept (grown_below hb none) (by simp)
theorem SetM.lt (h : SetM P k e b c S w) : b < w.heap.size := by obtain ⟨D, h1, h2⟩ := h; exact h1.lt
theorem SetM.start (P : Program) (k e : TypeId) (w : World) {b : Nat} (hb : b = w.heap.size) {S : Lit → Bool} (hS : ∀ l, S l = false) : SetM P k e b 0 S (w.alloc (.map #[] 0)) := by
  subst hb
  exact ⟨.map [], World.ownsMap_made w _ _ _, fun _ l _ => by simp [DataW.atKey, hS l]⟩
theorem plainElem_bool_inv (he : P.underlying e = some .bool) {v : Value} {z : DataW Unit × List MemPlace} (h : plainElem P e v = some z) : ∃ x, v = .bool x ∧ z = (.lit (.bool x), []) := by
  unfold plainElem at h
  rw [he] at h
  split at h
  · rename_i x _
    cases h
    exact ⟨_, rfl, rfl⟩
  · rename_i h1; cases h1
  · rename_i h1; cases h1
  · cases h
/-- m[k] -/
theorem SetM.look (h : SetM P k e b c S w) (hK : Maps.Keyed P k) (ht : P.underlying t = some (.map k e)) (he : P.underlying e = some .bool) (hz : (zeroValue e).run P w = .ok (.bool false) w) {key : Value} {l : Lit} (hkey : keyOf P k key = some l) :
    (Instr.lookup t (.map (some b)) key false).run P w = .ok (.bool (S l)) w := by
  obtain ⟨D, h1, h2⟩ := h
  obtain ⟨v, ps, hrun, hv⟩ := h1.lookup hK ht hz (plainElem_bool he false) hkey
  rw [h2 key l hkey] at hv
  obtain ⟨x, rfl, hx⟩ := plainElem_bool_inv he hv
  simp at hx
  rw [hrun, ← hx.1]
/-- m[k] = true -/
theorem SetM.add (h : SetM P k e b c S w) (hK : Maps.Keyed P k) (ht : P.underlying t = some (.map k e)) (he : P.underlying e = some .bool) (hc : c < maxLen) {key : Value} {l : Lit} (hkey : keyOf P k key = some l) {S' : Lit → Bool} (hS : S' l = true) (hO : ∀ l', l' ≠ l → S' l' = S l') :
    ∃ w', (Instr.mapUpdate t (.map (some b)) key (.bool true)).run P w = .ok () w' ∧ SetM P k e b (c + 1) S' w' ∧ w.grownBy w' (some b) := by
  obtain ⟨D, h1, h2⟩ := h
  obtain ⟨w', hrun, ho, ht'⟩ := h1.store hK ht hc hkey (plainElem_bool he true)
  refine ⟨w', hrun, ⟨_, ho, fun key' l' hk' => ?_⟩, ht'.grown⟩
  by_cases el : l' = l
  · subst el
    rw [Go.Maps.atKey_put_same h1.isMap (hK.key hkey), hS]
  · rw [Go.Maps.atKey_put_other el, h2 key' l' hk', hO l' el]
end
end Go.Proofs.YthnkgmlhpefldaaDoor
namespace Go.Proofs.YthnkgmlhpefldaaDoor
open Go.RowKit

def symB (s : Sym) : List UInt8 := [if s.term then 116 else 110, UInt8.ofNat s.n.toNat]
def keyB (l : Int) (ss : List Sym) : List UInt8 := UInt8.ofNat l.toNat :: ss.flatMap symB
def small (n : Int) : Prop := 0 ≤ n ∧ n < 10
theorem byte_inj {a b : Int} (ha : small a) (hb : small b) (h : UInt8.ofNat a.toNat = UInt8.ofNat b.toNat) : a = b := by
  have h2 := congrArg UInt8.toNat h
  simp at h2
  obtain ⟨a0, a1⟩ := ha
  obtain ⟨b0, b1⟩ := hb
  rw [Nat.mod_eq_of_lt (by omega), Nat.mod_eq_of_lt (by omega)] at h2
  omega
def okR (r : Rule) : Prop := small r.left ∧ ∀ s ∈ r.right, small s.n
/-- the keys of rules -/
def keysOf (l : List Rule) : Lit → Bool
  | .string b => l.any fun r => keyB r.left r.right == b
  | _ => false
/-- a string's bytes -/
def Bts (s : ByteArray) (l : List UInt8) : Prop := s.data.toList = l
theorem Bts.app {s t : ByteArray} {l m : List UInt8} (h : Bts s l) (k : Bts t m) : Bts (s ++ t) (l ++ m) := by
  unfold Bts at *
  rw [ByteArray.data_append, Array.toList_append, h, k]
theorem Bts.size {s : ByteArray} {l : List UInt8} (h : Bts s l) : s.size = l.length := by
  unfold Bts at h
  rw [← h]; rfl
theorem key_string (s : ByteArray) (l : List UInt8) (h : Bts s l) (hs : s.size ≤ maxLen) : keyOf Tryd.prog 9 (.string s) = some (.string l) := by
  unfold Bts at h
  subst h
  simp [keyOf, Tryd.underlying9, mapKey, hs]
end Go.Proofs.YthnkgmlhpefldaaDoor
namespace Go.Proofs.YthnkgmlhpefldaaDoor
open Go.RowKit

theorem zeroB (w : World) : (zeroValue 4).run Tryd.prog w = .ok (.bool false) w := by
  obtain ⟨i, hi, hz, _⟩ := info_parts (show (Tryd.prog.info? 4).map (fun i => (i.zero, i.size, i.bytes)) = some (some (.bool false), 1, 1) by kernel_rfl)
  simp [zeroValue, typeInfo, hi, hz]
theorem strK : Go.Maps.Keyed Tryd.prog 9 := Go.Maps.string_keyed Tryd.underlying9
abbrev StrSet (b c : Nat) (S : Lit → Bool) (w : World) : Prop := SetM Tryd.prog 9 4 b c S w
/-- what the rounds keep -/
structure FltI (w0 : World) (mb : Nat) (g : Gram) (K : List Rule) (i : Nat) (wr : World) : Prop where
  set : StrSet mb i (keysOf (K.take i)) wr
  bel : Below w0.heap.size w0 wr
  lo : w0.heap.size ≤ mb
  ok : ∀ r ∈ K.take i, okR r
  flt : faultsFrom g i (K.drop i) = faultsFrom g 0 K

end Go.Proofs.YthnkgmlhpefldaaDoor
namespace Go.Proofs.YthnkgmlhpefldaaDoor
open Go.RowKit
namespace Tx

def kw (u : List Int) : List UInt8 := u.map fun x => UInt8.ofNat x.toNat
def okW (u : List Int) : Prop := ∀ x ∈ u, small x
theorem kw_app (a b : List Int) : kw (a ++ b) = kw a ++ kw b := by simp [kw]
theorem kw_len (u : List Int) : (kw u).length = u.length := by simp [kw]
theorem kw_inj : ∀ {u v : List Int}, okW u → okW v → kw u = kw v → u = v
  | [], [], _, _, _ => rfl
  | [], y :: v, _, _, h => by simp [kw] at h
  | x :: u, [], _, _, h => by simp [kw] at h
  | x :: u, y :: v, hu, hv, h => by
    simp only [kw, List.map_cons, List.cons.injEq] at h
    have e1 := byte_inj (hu x List.mem_cons_self) (hv y List.mem_cons_self) h.1
    have e2 := kw_inj (fun z hz => hu z (List.mem_cons_of_mem _ hz)) (fun z hz => hv z (List.mem_cons_of_mem _ hz)) h.2
    rw [e1, e2]
theorem okW_app {a b : List Int} (h : okW a) (k : okW b) : okW (a ++ b) := by
  intro x hx
  rcases List.mem_append.1 hx with hx | hx
  · exact h x hx
  · exact k x hx
/-- what a datum of a map says: the words of Q are its keys, all of them true -/
structure TxD (D : DataW Unit) (Q : List Int → Prop) (c : Nat) : Prop where
  size : Maps.size D = c
  has : ∀ l, Maps.has D l = true ↔ ∃ u, okW u ∧ Q u ∧ l = .string (kw u)
  yes : ∀ l zd, Maps.has D l = true → D.atKey l zd = .lit (.bool true)
  no : ∀ l zd, Maps.has D l = false → D.atKey l zd = zd
/-- block b is a map of the words of Q, c of them -/
def TxM (b : Nat) (Q : List Int → Prop) (c : Nat) (w : World) : Prop := ∃ D : DataW Unit, w.ownsMap Tryd.prog 9 (plainElem Tryd.prog 4) b c D ∧ TxD D Q c
section
variable {b c : Nat} {Q Q' : List Int → Prop} {w w' : World} {D : DataW Unit} {u : List Int}
theorem TxM.kept {row : Option Nat} (h : TxM b Q c w) (hg : w.grownBy w' row) (hne : some b ≠ row) : TxM b Q c w' := by
  obtain ⟨D, h1, h2⟩ := h
  exact ⟨D, h1.kept hg hne, h2⟩
theorem TxM.keep (h : TxM b Q c w) (hb : Below w.heap.size w w') : TxM b Q c w' := h.kept (grown_below hb none) (by simp)
theorem TxM.lt (h : TxM b Q c w) : b < w.heap.size := by obtain ⟨D, h1, _⟩ := h; exact h1.lt
theorem TxD.eq (h : TxD D Q c) (e : ∀ u, okW u → (Q u ↔ Q' u)) : TxD D Q' c := ⟨h.size, fun l => by
  rw [h.has l]
  constructor
  · rintro ⟨u, h1, h2, h3⟩; exact ⟨u, h1, (e u h1).1 h2, h3⟩
  · rintro ⟨u, h1, h2, h3⟩; exact ⟨u, h1, (e u h1).2 h2, h3⟩, h.yes, h.no⟩
theorem TxM.eq (h : TxM b Q c w) (e : ∀ u, okW u → (Q u ↔ Q' u)) : TxM b Q' c w := by
  obtain ⟨D, h1, h2⟩ := h
  exact ⟨D, h1, h2.eq e⟩
theorem TxM.start (w : World) {b : Nat} (hb : b = w.heap.size) (hQ : ∀ u, okW u → ¬ Q u) : TxM b Q 0 (w.alloc (.map #[] 0)) := by
  subst hb
  exact ⟨.map [], World.ownsMap_made w _ _ _, rfl, fun l => ⟨fun h => by simp [Maps.has] at h, fun ⟨u, h1, h2, _⟩ => absurd h2 (hQ u h1)⟩, fun l zd h => by simp [Maps.has] at h, fun l zd _ => by simp [DataW.atKey]⟩
theorem TxD.hasW (h : TxD D Q c) (hu : okW u) : Maps.has D (.string (kw u)) = true ↔ Q u := by
  rw [h.has]
  constructor
  · rintro ⟨v, h1, h2, h3⟩
    simp at h3
    rw [kw_inj hu h1 h3]; exact h2
  · intro hq; exact ⟨u, hu, hq, rfl⟩
/-- m[k] -/
theorem TxM.look (h : TxM b Q c w) {t : TypeId} (ht : Tryd.prog.underlying t = some (.map 9 4)) (hu : okW u) {s : ByteArray} (hs : Bts s (kw u)) (hl : s.size ≤ maxLen) :
    (Q u → (Instr.lookup t (.map (some b)) (.string s) false).run Tryd.prog w = .ok (.bool true) w) ∧ (¬ Q u → (Instr.lookup t (.map (some b)) (.string s) false).run Tryd.prog w = .ok (.bool false) w) := by
  obtain ⟨D, h1, h2⟩ := h
  obtain ⟨v, ps, hrun, hv⟩ := h1.lookup strK ht (zeroB w) (plainElem_bool Tryd.underlying4 false) (key_string s _ hs hl)
  constructor
  · intro hq
    rw [h2.yes _ _ ((h2.hasW hu).2 hq)] at hv
    obtain ⟨x, rfl, hx⟩ := plainElem_bool_inv Tryd.underlying4 hv
    simp at hx
    rw [hrun, ← hx.1]
  · intro hq
    rw [h2.no _ _ (by cases hh : Maps.has D (.string (kw u)) with | false => rfl | true => exact absurd ((h2.hasW hu).1 hh) hq)] at hv
    obtain ⟨x, rfl, hx⟩ := plainElem_bool_inv Tryd.underlying4 hv
    simp at hx
    rw [hrun, ← hx.1]
/-- m[k] = true -/
theorem TxM.add (h : TxM b Q c w) {t : TypeId} (ht : Tryd.prog.underlying t = some (.map 9 4)) (hu : okW u) {s : ByteArray} (hs : Bts s (kw u)) (hl : s.size ≤ maxLen) (hc : c < maxLen) (hQ : ∀ v, okW v → (Q' v ↔ Q v ∨ v = u)) :
    ∃ w' c', (Instr.mapUpdate t (.map (some b)) (.string s) (.bool true)).run Tryd.prog w = .ok () w' ∧ TxM b Q' c' w' ∧ w.grownBy w' (some b) ∧ (Q u → c' = c) ∧ (¬ Q u → c' = c + 1) := by
  obtain ⟨D, h1, h2⟩ := h
  have hk := key_string s _ hs hl
  obtain ⟨w', hrun, ho, htn⟩ := h1.store strK ht hc hk (plainElem_bool Tryd.underlying4 true)
  have hm := h1.isMap
  have hkk := strK.key hk
  have hty := h1.tidy strK
  have hsz := Maps.size_put (k := .string (kw u)) hty (.lit (.bool true))
  have hle := ho.size_le
  have hT : TxD (D.put (.string (kw u)) (.lit (.bool true))) Q' (Maps.size (D.put (.string (kw u)) (.lit (.bool true)))) := by
    refine ⟨rfl, fun l => ?_, fun l zd hh => ?_, fun l zd hh => ?_⟩
    · by_cases e : l = .string (kw u)
      · subst e
        rw [Maps.has_put_same hm hkk]
        exact ⟨fun _ => ⟨u, hu, (hQ u hu).2 (.inr rfl), rfl⟩, fun _ => rfl⟩
      · rw [Maps.has_put_other e, h2.has]
        constructor
        · rintro ⟨v, a1, a2, a3⟩; exact ⟨v, a1, (hQ v a1).2 (.inl a2), a3⟩
        · rintro ⟨v, a1, a2, a3⟩
          rcases (hQ v a1).1 a2 with a4 | rfl
          · exact ⟨v, a1, a4, a3⟩
          · exact absurd a3 e
    · by_cases e : l = .string (kw u)
      · subst e; exact Maps.atKey_put_same hm hkk _ _
      · rw [Maps.has_put_other e] at hh
        rw [Maps.atKey_put_other e]; exact h2.yes _ _ hh
    · by_cases e : l = .string (kw u)
      · subst e; rw [Maps.has_put_same hm hkk] at hh; cases hh
      · rw [Maps.has_put_other e] at hh
        rw [Maps.atKey_put_other e]; exact h2.no _ _ hh
  refine ⟨w', _, hrun, ⟨_, ?_, hT⟩, htn.grown, fun hq => ?_, fun hq => ?_⟩
  · obtain ⟨es, ck, a1, a2, a3, a4⟩ := ho
    refine ⟨es, ck, a1, a2, ?_, a4⟩
    rw [a4]
    show es.size ≤ _
    rw [Maps.size_eq, length_read]; exact Nat.le_refl _
  · rw [hsz, if_pos ((h2.hasW hu).2 hq), h2.size]
  · rw [hsz, if_neg (fun e => hq ((h2.hasW hu).1 e)), h2.size]
theorem TxM.len (h : TxM b Q c w) {t : TypeId} (ht : Tryd.prog.underlying t = some (.map 9 4)) (ty : TypeId) : (Builtin.len_ #[t] ty #[.map (some b)]).run Tryd.prog w = .ok (.int .i64 c) w := by
  obtain ⟨D, h1, h2⟩ := h
  have := h1.len ht ty
  rw [h2.size] at this
  exact this
theorem inv_str (key : Value) (kl : Lit) (h : keyOf Tryd.prog 9 key = some kl) : ∃ x : ByteArray, key = .string x := by
  cases key <;> simp [keyOf, Tryd.underlying9, mapKey] at h
  exact ⟨_, rfl⟩
theorem inv_bool (v : Value) (y : DataW Unit × List MemPlace) (h : plainElem Tryd.prog 4 v = some y) : ∃ c : Bool, v = .bool c := by
  obtain ⟨x, e, _⟩ := plainElem_bool_inv Tryd.underlying4 h
  exact ⟨x, e⟩
theorem key_bts {s : ByteArray} {l : Lit} (h : keyOf Tryd.prog 9 (.string s) = some l) : l = .string s.data.toList ∧ s.size ≤ maxLen := by
  simp [keyOf, Tryd.underlying9, mapKey] at h
  exact ⟨h.2.symm, h.1⟩
end
end Tx
end Go.Proofs.YthnkgmlhpefldaaDoor
namespace Go.Proofs.YthnkgmlhpefldaaDoor
open Go.RowKit
namespace Lg

def atQ (Q : Nat → List Int → Prop) (n : Nat) (l : List Sym) (u : List Int) : Prop := u.length ≤ n ∧ LL Q l u
def SoundQ (rules : List Rule) (n : Nat) (Q : Nat → List Int → Prop) : Prop := ∀ A u, Q A u → u.length ≤ n ∧ Lang rules A u
def ClosedQ (rules : List Rule) (n : Nat) (Q : Nat → List Int → Prop) : Prop := ∀ r ∈ rules, ∀ u, atQ Q n r.right u → Q r.left.toNat u
section
variable {rules : List Rule} {Q Q' : Nat → List Int → Prop} {n : Nat}
theorem LL_snoc {L : Nat → List Int → Prop} {s : Sym} : ∀ {l : List Sym} {u : List Int}, LL L (l ++ [s]) u ↔ ∃ a b, u = a ++ b ∧ LL L l a ∧ LS L s b
  | [], u => by
    constructor
    · rintro ⟨a, b, rfl, h1, h2⟩
      obtain rfl : b = [] := h2
      exact ⟨[], a, by simp, rfl, h1⟩
    · rintro ⟨a, b, rfl, h1, h2⟩
      obtain rfl : a = [] := h1
      exact ⟨b, [], by simp, h2, rfl⟩
  | x :: l, u => by
    constructor
    · rintro ⟨a, b, rfl, h1, h2⟩
      obtain ⟨c, d, rfl, h3, h4⟩ := LL_snoc.1 h2
      exact ⟨a ++ c, d, by simp, ⟨a, c, rfl, h1, h3⟩, h4⟩
    · rintro ⟨c, d, rfl, ⟨a, e, rfl, h1, h3⟩, h4⟩
      exact ⟨a, e ++ d, by simp, h1, LL_snoc.2 ⟨e, d, rfl, h3, h4⟩⟩
theorem atQ_nil {u : List Int} : atQ Q n [] u ↔ u = [] := ⟨fun h => h.2, fun h => by subst h; exact ⟨Nat.zero_le _, rfl⟩⟩
theorem atQ_snoc {l : List Sym} {s : Sym} {u : List Int} : atQ Q n (l ++ [s]) u ↔ ∃ a b, u = a ++ b ∧ atQ Q n l a ∧ LS Q s b ∧ u.length ≤ n := by
  unfold atQ
  rw [LL_snoc]
  constructor
  · rintro ⟨h, a, b, rfl, h1, h2⟩
    rw [List.length_append] at h
    exact ⟨a, b, rfl, ⟨by omega, h1⟩, h2, by rw [List.length_append]; exact h⟩
  · rintro ⟨a, b, rfl, ⟨_, h1⟩, h2, h3⟩
    exact ⟨h3, a, b, rfl, h1, h2⟩
theorem atQ_sound (hs : SoundQ rules n Q) {r : Rule} (hr : r ∈ rules) (h0 : 0 ≤ r.left) {u : List Int} (h : atQ Q n r.right u) : u.length ≤ n ∧ Lang rules r.left.toNat u :=
  ⟨h.1, lang_rule hr (by omega) (LL_mono (fun A u hq => (hs A u hq).2) h.2)⟩
theorem closed_allQ (hc : ClosedQ rules n Q) {A : Nat} {u : List Int} (h : Lang rules A u) : u.length ≤ n → Q A u := by
  have key : ∀ (l : List Sym) (u : List Int), u.length ≤ n → LL (fun A u => u.length ≤ n → Q A u) l u → LL Q l u := by
    intro l
    induction l with
    | nil => intro u _ h; exact h
    | cons s l ih =>
      rintro u hu ⟨a, b, rfl, h1, h2⟩
      rw [List.length_append] at hu
      refine ⟨a, b, rfl, ?_, ih b (by omega) h2⟩
      unfold LS at h1 ⊢
      by_cases e : s.term = true
      · rw [if_pos e] at h1 ⊢; exact h1
      · rw [if_neg e] at h1 ⊢; exact h1 (by omega)
  refine lang_ind (P := fun A u => u.length ≤ n → Q A u) (fun r hr A u hA h hu => ?_) h
  have := hc r hr u ⟨hu, key _ _ hu h⟩
  rwa [show r.left.toNat = A by rw [hA]; simp] at this
theorem lang_okW (ht : ∀ r ∈ rules, ∀ s ∈ r.right, s.term = true → small s.n) {A : Nat} {u : List Int} (h : Lang rules A u) : Tx.okW u := by
  refine lang_ind (P := fun _ u => Tx.okW u) (fun r hr A u _ h => ?_) h
  have key : ∀ (l : List Sym) (u : List Int), (∀ s ∈ l, s.term = true → small s.n) → LL (fun _ u => Tx.okW u) l u → Tx.okW u := by
    intro l
    induction l with
    | nil => intro u _ h; obtain rfl : u = [] := h; intro x hx; cases hx
    | cons s l ih =>
      rintro u hl ⟨a, b, rfl, h1, h2⟩
      refine Tx.okW_app ?_ (ih b (fun s hs => hl s (List.mem_cons_of_mem _ hs)) h2)
      unfold LS at h1
      by_cases e : s.term = true
      · rw [if_pos e] at h1
        subst h1
        intro x hx
        simp at hx; subst hx
        exact hl s List.mem_cons_self e
      · rw [if_neg e] at h1; exact h1
  exact key r.right u (ht r hr) h
theorem LS_okW (ht : ∀ r ∈ rules, ∀ s ∈ r.right, s.term = true → small s.n) (hs : SoundQ rules n Q) {s : Sym} (hsm : s.term = true → small s.n) {u : List Int} (h : LS Q s u) : Tx.okW u := by
  unfold LS at h
  by_cases e : s.term = true
  · rw [if_pos e] at h
    subst h
    intro x hx
    simp at hx; subst hx
    exact hsm e
  · rw [if_neg e] at h
    exact lang_okW ht (hs _ _ h).2
theorem LL_okW (ht : ∀ r ∈ rules, ∀ s ∈ r.right, s.term = true → small s.n) (hs : SoundQ rules n Q) : ∀ {l : List Sym} {u : List Int}, (∀ s ∈ l, s.term = true → small s.n) → LL Q l u → Tx.okW u
  | [], u, _, h => by obtain rfl : u = [] := h; intro x hx; cases hx
  | s :: l, u, hl, ⟨a, b, e, h1, h2⟩ => by
    subst e
    exact Tx.okW_app (LS_okW ht hs (hl s List.mem_cons_self) h1) (LL_okW ht hs (fun s hs => hl s (List.mem_cons_of_mem _ hs)) h2)
/-- a word is added to the words of a nonterminal -/
def addQ (Q : Nat → List Int → Prop) (A : Nat) (u : List Int) : Nat → List Int → Prop := fun B v => Q B v ∨ (B = A ∧ v = u)
theorem addQ_sound (hs : SoundQ rules n Q) {A : Nat} {u : List Int} (hu : u.length ≤ n ∧ Lang rules A u) : SoundQ rules n (addQ Q A u) := by
  rintro B v (h | ⟨rfl, rfl⟩)
  · exact hs B v h
  · exact hu
end
end Lg
end Go.Proofs.YthnkgmlhpefldaaDoor
namespace Go.Proofs.YthnkgmlhpefldaaDoor
open Go.RowKit
namespace Tx

section
variable {b r c cnt : Nat} {Q Q' L : List Int → Prop} {w w' : World} {u : List Int}
theorem setBlock_twice {w : World} {b : Nat} (x y : Obj) : Go.ChangeMaps.setBlock (Go.ChangeMaps.setBlock w b x) b y = Go.ChangeMaps.setBlock w b y := by
  unfold Go.ChangeMaps.setBlock
  simp
/-- m[k], .. = true, ..: the entry first, the store behind it -/
theorem TxM.entry (h : TxM b Q c w) {t : TypeId} (ht : Tryd.prog.underlying t = some (.map 9 4)) (hu : okW u) {s : ByteArray} (hs : Bts s (kw u)) (hl : s.size ≤ maxLen) (hc : c < maxLen) (hQ : ∀ v, okW v → (Q' v ↔ Q v ∨ v = u)) :
    ∃ v0 st w1 w' c', (Instr.mapEntry t (.map (some b)) (.string s)).run Tryd.prog w = .ok (.tuple #[v0, .int .i64 st]) w1 ∧ (Instr.entryStore t (.map (some b)) (.int .i64 st) (.bool true)).run Tryd.prog w1 = .ok () w' ∧ TxM b Q' c' w' ∧ w.grownBy w' (some b) ∧ w.grownBy w1 (some b) ∧ (Q u → c' = c) ∧ (¬ Q u → c' = c + 1) := by
  obtain ⟨w', c', hrun, h1, h2, h3, h4⟩ := h.add ht hu hs hl hc hQ
  obtain ⟨D, ⟨es, clock, hb, F, _, _⟩, _⟩ := h
  obtain ⟨v0, st, es1, clock1, he, _, hst⟩ := Go.WideElems.entry_then_store (Go.WideMaps.string_law Tryd.underlying9) ht (z := .bool false) (fun u => zeroB u) hb F (key_string s _ hs hl)
  have hb1 : (Go.ChangeMaps.setBlock w b (.map es1 clock1)).heap[b]? = some (.map es1 clock1) := Go.ChangeMaps.heap_setBlock_same hb _
  obtain ⟨es', clock', k1, k2⟩ := hst _ (.bool true) hb1
  rw [setBlock_twice] at k1
  rw [hrun] at k2
  obtain rfl : w' = Go.ChangeMaps.setBlock w b (.map es' clock') := by simpa using k2
  exact ⟨v0, st, _, _, c', he, k1, h1, h2, ⟨rfl, rfl, rfl, by simp [Go.ChangeMaps.setBlock], fun i _ hi => Go.ChangeMaps.heap_setBlock_other hb _ (fun e => hi (by rw [e]))⟩, h3, h4⟩
/-- block r ranges over the map in b; L: the words still to come, cnt of them -/
def RgM (b r : Nat) (Q L : List Int → Prop) (cnt : Nat) (w : World) : Prop :=
  ∃ (D : DataW Unit) (n c : Nat) (left : Lit → Bool), w.ranges Tryd.prog 9 (plainElem Tryd.prog 4) b r n D left cnt ∧ TxD D Q c ∧ (∀ kl, left kl = true → Maps.has D kl = true) ∧ ∀ u, okW u → (left (.string (kw u)) = true ↔ L u)
theorem RgM.kept {row : Option Nat} (h : RgM b r Q L cnt w) (hg : w.grownBy w' row) (hb : some b ≠ row) (hr : some r ≠ row) : RgM b r Q L cnt w' := by
  obtain ⟨D, n, c, left, h1, h2, h3, h4⟩ := h
  exact ⟨D, n, c, left, h1.kept hg hb hr, h2, h3, h4⟩
theorem RgM.keep (h : RgM b r Q L cnt w) (hb : Below w.heap.size w w') : RgM b r Q L cnt w' := h.kept (grown_below hb none) (by simp) (by simp)
theorem RgM.lt (h : RgM b r Q L cnt w) : r < w.heap.size := by obtain ⟨D, n, c, left, h1, _⟩ := h; exact h1.lt
/-- but for one -/
def rmv (L : List Int → Prop) (u : List Int) : List Int → Prop := fun z => L z ∧ z ≠ u
/-- range m -/
theorem wpList_range_tx {ops : Array Oper} {rest : List Oper} {o : Oper} {a : Act} {K : Exit → Act → World → Prop} (w : World) (hg : o.guard = none) (m : Operand) (t : TypeId) (hop : o.op = Op.range t m) (ht : Tryd.prog.underlying t = some (.map 9 4))
    (hm : a.eval m = .map (some b)) (h : TxM b Q c w)
    (hK : ∀ w', RgM b w.heap.size Q Q c w' → Below w.heap.size w w' → w'.heap.size = w.heap.size + 1 → wpList Tryd.prog ops K rest (a.put o.dst (.pointer (some ⟨w.heap.size, 0, none⟩))) w') :
    wpList Tryd.prog ops K (o :: rest) a w := by
  obtain ⟨D, hown, hD⟩ := h
  refine wpList_range_own w hg m t hop 9 4 strK ht _ b c D hm hown fun w' hrg hgr hs => ?_
  refine hK w' ⟨D, c, c, _, by rw [← hD.size]; rw [hD.size]; have := hrg; rw [hD.size] at this; exact this, hD, fun kl h => h, fun u hu => hD.hasW hu⟩ ?_ hs
  exact (Below.refl w.heap.size w).grown hgr (Nat.le_refl _) (fun j hj => by cases hj)
/-- the step -/
theorem wpList_next_tx {ops : Array Oper} {rest : List Oper} {o : Oper} {a : Act} {K : Exit → Act → World → Prop} (w : World) (hg : o.guard = none) (it : Operand) (hop : o.op = Op.next it false)
    (hit : a.eval it = .pointer (some ⟨r, 0, none⟩)) (h : RgM b r Q L cnt w)
    (hDone : (∀ u, okW u → ¬ L u) → wpList Tryd.prog ops K rest (a.put o.dst (.tuple #[.bool false])) w)
    (hMore : ∀ (x : ByteArray) (u : List Int) (w' : World) (cnt' : Nat), okW u → Q u → L u → Bts x (kw u) → x.size = u.length → RgM b r Q (rmv L u) cnt' w' → cnt' < cnt → w.grownBy w' (some r) → w'.heap.size = w.heap.size →
      (Instr.entry (.pointer (some ⟨r, 0, none⟩))).run Tryd.prog w' = .ok (.tuple #[.string x, .bool true]) w' → wpList Tryd.prog ops K rest (a.put o.dst (.tuple #[.bool true, .string x, .bool true])) w') :
    wpList Tryd.prog ops K (o :: rest) a w := by
  obtain ⟨D, n, c, left, h1, h2, h3, h4⟩ := h
  refine wpList_next_ranges w hg it hop 9 strK _ Value.string Value.bool inv_str inv_bool b r n D left cnt hit h1 (fun _ hl => hDone fun u hu hL => ?_) (fun x v kl y w' cnt' hkey hleft hRv hat hrg hlt hgr hsz hen => ?_)
  · have := (h4 u hu).2 hL
    rw [hl] at this; cases this
  · obtain ⟨rfl, hmx⟩ := key_bts hkey
    obtain ⟨u, hu, hQ, hkl⟩ := (h2.has _).1 (h3 _ hleft)
    have hkl' : x.data.toList = kw u := by simpa using hkl
    have hL : L u := (h4 u hu).1 (by rw [← hkl']; exact hleft)
    have hB : Bts x (kw u) := hkl'
    have hsx : x.size = u.length := by rw [hB.size, kw_len]
    obtain rfl : v = true := by
      have h5 := h2.yes (.string x.data.toList) (.lit (.bool false)) (h3 _ hleft)
      rw [hat] at h5
      obtain ⟨z, hz, hy⟩ := plainElem_bool_inv Tryd.underlying4 hRv
      cases hz
      rw [hy] at h5
      simpa using h5
    refine hMore x u w' cnt' hu hQ hL hB hsx ⟨D, n, c, _, hrg, h2, fun kl hk => h3 kl (by simp at hk; exact hk.1), fun z hz => ?_⟩ hlt hgr hsz hen
    rw [hkl']
    have e1 : Lit.sameKey (.string (kw z)) (.string (kw u)) = decide (z = u) := by
      by_cases e : z = u
      · subst e; simp [Lit.sameKey]
      · have : ¬ kw z = kw u := fun h => e (kw_inj hz hu h)
        simp [Lit.sameKey, this, e]
    rw [e1]
    simp only [Bool.and_eq_true, Bool.not_eq_true', decide_eq_false_iff_not, rmv]
    rw [h4 z hz]
end
theorem bx_grown {w w' : World} {g : Nat} {o : Obj} {row : Option Nat} (h : w.heap[g]? = some o) (hg : w.grownBy w' row) (hne : some g ≠ row) : w'.heap[g]? = some o := by
  rw [hg.block g (Array.getElem?_eq_some_iff.1 h).1 hne]; exact h
/-- string([]byte{x}) of a small number -/
theorem conv_byte {n : Int} (h : small n) {g : Nat} {W : World} (hx : W.cell? ⟨g, 0, none⟩ = some (.int .u8 n)) : ∃ s : ByteArray, Bts s [UInt8.ofNat n.toNat] ∧ s.size = 1 ∧ (convert 72 9 (.slice (some ⟨g, 0, none⟩) 1 1)).run Tryd.prog W = .ok (.string s) W := by
  have := run_convert_bytes_arg (P := Tryd.prog) W 72 5 Tryd.underlying72 Tryd.underlying5 g 0 1 1 [n] rfl (fun i hi => by
    obtain rfl : i = 0 := by omega
    exact hx) 9 Tryd.underlying9
  refine ⟨_, ?_, ?_, this⟩
  · unfold Bts strOfNums; rfl
  · rfl
end Tx
end Go.Proofs.YthnkgmlhpefldaaDoor
namespace Go.Proofs.YthnkgmlhpefldaaDoor
open Go.RowKit
open Go.WideElems (Fit rd rg rd_key rg_of)
namespace Tx
theorem words_of {Q : List Int → Prop} : ∀ (E : List (Lit × DataW Unit)), E.Pairwise (fun p q => p.1 ≠ q.1) → (∀ p ∈ E, ∃ u, Q u ∧ p.1 = .string (kw u)) → ∃ l : List (List Int), l.Nodup ∧ l.length = E.length ∧ ∀ u ∈ l, Q u ∧ ∃ p ∈ E, p.1 = .string (kw u)
  | [], _, _ => ⟨[], List.Pairwise.nil, rfl, by simp⟩
  | p :: E, h, hq => by
    obtain ⟨h1, h2⟩ := List.pairwise_cons.1 h
    obtain ⟨l, k1, k2, k3⟩ := words_of E h2 fun q hq' => hq q (List.mem_cons_of_mem _ hq')
    obtain ⟨u, hu, he⟩ := hq p List.mem_cons_self
    refine ⟨u :: l, List.nodup_cons.2 ⟨fun hm => ?_, k1⟩, by simp [k2], fun v hv => ?_⟩
    · obtain ⟨_, q, hqE, hqe⟩ := k3 u hm
      exact h1 q hqE (he.trans hqe.symm)
    · rcases List.mem_cons.1 hv with rfl | hv
      · exact ⟨hu, p, List.mem_cons_self, he⟩
      · obtain ⟨a, q, b, c⟩ := k3 v hv
        exact ⟨a, q, List.mem_cons_of_mem _ b, c⟩
theorem TxM.words {b c : Nat} {Q : List Int → Prop} {w : World} (h : TxM b Q c w) : ∃ l : List (List Int), l.Nodup ∧ l.length = c ∧ ∀ u ∈ l, Q u := by
  obtain ⟨D, h1, h2⟩ := h
  have hty := h1.tidy strK
  obtain ⟨es, clock, _, F, _, rfl⟩ := h1
  obtain ⟨E, e1, e2⟩ := hty
  cases e1
  have hself : ∀ p ∈ (es.toList.map (rg (H := Unit) Tryd.prog 9 (plainElem Tryd.prog 4))).foldr DataW.insert [], ∃ u, Q u ∧ p.1 = .string (kw u) := by
    intro p hp
    have hp2 := (WideShapes.sorted_perm _).mem_iff.1 hp
    obtain ⟨x, hx, rfl⟩ := List.mem_map.1 hp2
    obtain ⟨y, hy⟩ := F.reads x hx
    have hk := rd_key hy
    obtain ⟨s, hs⟩ := inv_str _ _ hk
    rw [hs] at hk
    have hl := (key_bts hk).1
    rw [rg_of hy] at hp ⊢
    have hh : Maps.has (.map ((es.toList.map (rg (H := Unit) Tryd.prog 9 (plainElem Tryd.prog 4))).foldr DataW.insert [])) y.1 = true := by
      rw [Maps.has_eq, List.any_eq_true]
      exact ⟨y, hp, by rw [hl]; simp [Lit.sameKey]⟩
    obtain ⟨u, _, hq, he⟩ := (h2.has _).1 hh
    exact ⟨u, hq, he⟩
  obtain ⟨l, k1, k2, k3⟩ := words_of _ e2 hself
  exact ⟨l, k1, by rw [k2]; exact h2.size, fun u hu => (k3 u hu).1⟩
end Tx
end Go.Proofs.YthnkgmlhpefldaaDoor
namespace Go.Proofs.YthnkgmlhpefldaaDoor
open Go.RowKit
namespace Lg
namespace Sm
open Tx

section
variable {rules : List Rule} {Q : Nat → List Int → Prop} {n : Nat} {l : List Sym} {s : Sym} {L L2 : List Int → Prop} {u a b : List Int}
/-- what a round over the words so far has made, L still to come -/
def NX (Q : Nat → List Int → Prop) (n : Nat) (l : List Sym) (s : Sym) (L : List Int → Prop) (u : List Int) : Prop := ∃ a b, u = a ++ b ∧ atQ Q n l a ∧ ¬ L a ∧ LS Q s b ∧ u.length ≤ n
theorem NX_start : ¬ NX Q n l s (atQ Q n l) u := by rintro ⟨a, b, _, h1, h2, _⟩; exact h2 h1
theorem NX_end (hok : ∀ a, atQ Q n l a → okW a) (hL : ∀ a, okW a → ¬ L a) : NX Q n l s L u ↔ atQ Q n (l ++ [s]) u := by
  rw [atQ_snoc]
  constructor
  · rintro ⟨a, b, h1, h2, _, h3, h4⟩; exact ⟨a, b, h1, h2, h3, h4⟩
  · rintro ⟨a, b, h1, h2, h3, h4⟩; exact ⟨a, b, h1, h2, hL a (hok a h2), h3, h4⟩
theorem NX_term (hs : s.term = true) (ha : atQ Q n l a) : NX Q n l s (rmv L a) u ↔ NX Q n l s L u ∨ (u = a ++ [s.n] ∧ u.length ≤ n) := by
  constructor
  · rintro ⟨c, b, h1, h2, h3, h4, h5⟩
    by_cases e : c = a
    · subst e
      unfold LS at h4
      rw [if_pos hs] at h4
      subst h4
      exact .inr ⟨h1, h5⟩
    · exact .inl ⟨c, b, h1, h2, fun h => h3 ⟨h, e⟩, h4, h5⟩
  · rintro (⟨c, b, h1, h2, h3, h4, h5⟩ | ⟨h1, h2⟩)
    · exact ⟨c, b, h1, h2, fun h => h3 h.1, h4, h5⟩
    · exact ⟨a, [s.n], h1, ha, fun h => h.2 rfl, by unfold LS; rw [if_pos hs], h2⟩
def NX2 (Q : Nat → List Int → Prop) (n : Nat) (l : List Sym) (s : Sym) (L : List Int → Prop) (a : List Int) (L2 : List Int → Prop) (u : List Int) : Prop := NX Q n l s L u ∨ ∃ b, u = a ++ b ∧ Q s.n.toNat b ∧ ¬ L2 b ∧ u.length ≤ n
theorem NX2_start : NX2 Q n l s L a (Q s.n.toNat) u ↔ NX Q n l s L u := by
  constructor
  · rintro (h | ⟨b, _, h1, h2, _⟩)
    · exact h
    · exact absurd h1 h2
  · exact .inl
theorem NX2_step (hb : Q s.n.toNat b) : NX2 Q n l s L a (rmv L2 b) u ↔ NX2 Q n l s L a L2 u ∨ (u = a ++ b ∧ u.length ≤ n) := by
  constructor
  · rintro (h | ⟨c, h1, h2, h3, h4⟩)
    · exact .inl (.inl h)
    · by_cases e : c = b
      · subst e; exact .inr ⟨h1, h4⟩
      · exact .inl (.inr ⟨c, h1, h2, fun h => h3 ⟨h, e⟩, h4⟩)
  · rintro ((h | ⟨c, h1, h2, h3, h4⟩) | ⟨h1, h2⟩)
    · exact .inl h
    · exact .inr ⟨c, h1, h2, fun h => h3 h.1, h4⟩
    · exact .inr ⟨b, h1, hb, fun h => h.2 rfl, h2⟩
theorem NX2_end (hs : s.term = false) (ha : atQ Q n l a) (hok : ∀ b, Q s.n.toNat b → okW b) (hL : ∀ b, okW b → ¬ L2 b) : NX2 Q n l s L a L2 u ↔ NX Q n l s (rmv L a) u := by
  have hls : ∀ b, LS Q s b ↔ Q s.n.toNat b := fun b => by unfold LS; rw [hs]; simp
  constructor
  · rintro (⟨c, b, h1, h2, h3, h4, h5⟩ | ⟨b, h1, h2, _, h4⟩)
    · exact ⟨c, b, h1, h2, fun h => h3 h.1, h4, h5⟩
    · exact ⟨a, b, h1, ha, fun h => h.2 rfl, (hls b).2 h2, h4⟩
  · rintro ⟨c, b, h1, h2, h3, h4, h5⟩
    by_cases e : c = a
    · subst e
      have hq := (hls b).1 h4
      exact .inr ⟨b, h1, hq, hL b (hok b hq), h5⟩
    · exact .inl ⟨c, b, h1, h2, fun h => h3 ⟨h, e⟩, h4, h5⟩
end
def ClQ (n : Nat) (Q : Nat → List Int → Prop) (r : Rule) : Prop := ∀ u, atQ Q n r.right u → Q r.left.toNat u
def ClQTo (rules : List Rule) (n : Nat) (Q : Nat → List Int → Prop) (q : Nat) : Prop := ∀ r ∈ rules.take q, ClQ n Q r
theorem clQ_next {rules : List Rule} {n : Nat} {Q : Nat → List Int → Prop} {q : Nat} (hq : q < rules.length) (h : ClQTo rules n Q q) (h2 : ClQ n Q rules[q]) : ClQTo rules n Q (q + 1) := by
  intro r hr
  rw [List.take_succ_eq_append_getElem hq, List.mem_append] at hr
  rcases hr with hr | hr
  · exact h r hr
  · simp at hr; subst hr; exact h2
theorem clQ_end {rules : List Rule} {n : Nat} {Q : Nat → List Int → Prop} {q : Nat} (hq : rules.length ≤ q) (h : ClQTo rules n Q q) : ClosedQ rules n Q := fun r hr => h r (by rw [List.take_of_length_le hq]; exact hr)
/-- how many words may still come -/
def muQ (c : Nat → Nat) (N : Nat) : Nat := sumR (fun a => 201 - c a) N
def upd (c : Nat → Nat) (A x : Nat) : Nat → Nat := fun a => if a = A then x else c a
theorem muQ_le {c : Nat → Nat} {A x N : Nat} (h : c A ≤ x) : muQ (upd c A x) N ≤ muQ c N := sumR_le fun a _ => by
  unfold upd
  split
  · rename_i e; subst e; omega
  · exact Nat.le_refl _
theorem muQ_lt {c : Nat → Nat} {A x N : Nat} (hA : A < N) (h : c A < x) (h3 : c A ≤ 200) : muQ (upd c A x) N < muQ c N := by
  refine sumR_lt (k := A) ?_ hA fun a _ => ?_
  · unfold upd; rw [if_pos rfl]; omega
  · unfold upd
    split
    · rename_i e; subst e; omega
    · exact Nat.le_refl _
theorem upd_self {c : Nat → Nat} {A : Nat} : upd c A (c A) = c := by
  funext a
  unfold upd
  split
  · rename_i e; rw [e]
  · rfl
/-- the table of maps -/
def Many (rules : List Rule) (n : Nat) : Prop := ∃ (A : Nat) (l : List (List Int)), l.Nodup ∧ 200 < l.length ∧ ∀ u ∈ l, u.length ≤ n ∧ Lang rules A u
structure WI (w : World) (G : Array Value) (H ob N : Nat) (mb : Nat → Nat) (Q : Nat → List Int → Prop) (c : Nat → Nat) (wr : World) : Prop where
  bel : Below w.heap.size w wr
  box : wr.heap[w.heap.size]? = some (.cells G 61 (0, 0))
  hdr : ∃ cs T, wr.heap[ob]? = some (.cells cs T (0, 0)) ∧ ∀ a, a < N → cs[a]? = some (.map (some (mb a)))
  maps : ∀ a, a < N → TxM (mb a) (Q a) (c a) wr
  inj : ∀ a b, a < N → b < N → mb a = mb b → a = b
  ne : ∀ a, a < N → mb a ≠ ob ∧ w.heap.size < mb a ∧ mb a < H
  pl : w.heap.size < ob ∧ ob < H
  hs : H ≤ wr.heap.size
section
variable {w : World} {G : Array Value} {H ob N : Nat} {mb : Nat → Nat} {Q : Nat → List Int → Prop} {c : Nat → Nat} {wr w' : World}
theorem WI.grown {row : Option Nat} (h : WI w G H ob N mb Q c wr) (hg : wr.grownBy w' row) (hr : ∀ k, row = some k → H ≤ k) : WI w G H ob N mb Q c w' := by
  obtain ⟨h1, h2, ⟨cs, T, h3, h4⟩, h5, h6, h7, h8, h9⟩ := h
  have hblk : ∀ k, k < H → w'.heap[k]? = wr.heap[k]? := fun k hk => hg.block k (by omega) (fun e => by have := hr k e.symm; omega)
  refine ⟨h1.grown hg h1.size (fun k e => by have := hr k e; omega), by rw [hblk _ (by omega)]; exact h2, ⟨cs, T, by rw [hblk _ h8.2]; exact h3, h4⟩, fun a ha => (h5 a ha).kept hg (fun e => ?_), h6, h7, h8, Nat.le_trans h9 hg.size⟩
  have := hr _ e.symm
  have := (h7 a ha).2.2
  omega
theorem WI.keep (h : WI w G H ob N mb Q c wr) (hb : Below wr.heap.size wr w') : WI w G H ob N mb Q c w' := h.grown (grown_below hb none) (fun k e => by cases e)
theorem WI.head (h : WI w G H ob N mb Q c wr) {a : Nat} (ha : a < N) : wr.cell? ⟨ob, a, none⟩ = some (.map (some (mb a))) := by
  obtain ⟨cs, T, h1, h2⟩ := h.hdr
  simp [World.cell?, h1, h2 a ha]
theorem WI.entry (h : WI w G H ob N mb Q c wr) {A : Nat} (hA : A < N) {u : List Int} (hu : okW u) {s : ByteArray} (hs : Bts s (kw u)) (hl : s.size ≤ maxLen) (hc : c A < maxLen) :
    ∃ v0 st w1 w' c', (Instr.mapEntry 63 (.map (some (mb A))) (.string s)).run Tryd.prog wr = .ok (.tuple #[v0, .int .i64 st]) w1 ∧ (Instr.entryStore 63 (.map (some (mb A))) (.int .i64 st) (.bool true)).run Tryd.prog w1 = .ok () w' ∧
      WI w G H ob N mb (addQ Q A u) (upd c A c') w' ∧ wr.grownBy w' (some (mb A)) ∧ (¬ Q A u → c' = c A + 1) := by
  obtain ⟨h1, h2, ⟨cs, T, h3, h4⟩, h5, h6, h7, h8, h9⟩ := h
  obtain ⟨v0, st, w1, w', c', k1, k2, k3, k4, _, _, k6⟩ := (h5 A hA).entry (Q' := addQ Q A u A) Tryd.underlying63 hu hs hl hc (fun v _ => by unfold addQ; simp)
  have hblk : ∀ k, k < wr.heap.size → k ≠ mb A → w'.heap[k]? = wr.heap[k]? := fun k hk hn => k4.block k hk (fun e => hn (Option.some.inj e))
  have hA7 := h7 A hA
  refine ⟨v0, st, w1, w', c', k1, k2, ⟨h1.grown k4 h1.size (fun k e => by cases e; omega), by rw [hblk _ (by omega) (by omega)]; exact h2, ⟨cs, T, by rw [hblk _ (by omega) (fun e => hA7.1 e.symm)]; exact h3, h4⟩, fun a ha => ?_, h6, h7, h8, Nat.le_trans h9 k4.size⟩, k4, k6⟩
  by_cases e : a = A
  · subst e
    have : upd c a c' a = c' := by unfold upd; rw [if_pos rfl]
    rw [this]; exact k3
  · have : upd c A c' a = c a := by unfold upd; rw [if_neg e]
    rw [this]
    refine ((h5 a ha).kept k4 (fun e2 => e (h6 a A ha hA (Option.some.inj e2)))).eq fun v _ => ?_
    unfold addQ; simp [e]
end
/-- while it is made -/
structure WG (w : World) (G : Array Value) (ob N : Nat) (mb : Nat → Nat) (k : Nat) (wr : World) : Prop where
  bel : Below w.heap.size w wr
  box : wr.heap[w.heap.size]? = some (.cells G 61 (0, 0))
  hdr : ∃ cs T, wr.heap[ob]? = some (.cells cs T (0, 0)) ∧ cs.size = N ∧ ∀ a, a < k → a < N → cs[a]? = some (.map (some (mb a)))
  maps : ∀ a, a < k → a < N → TxM (mb a) (fun _ => False) 0 wr
  inj : ∀ a b, a < k → b < k → a < N → b < N → mb a = mb b → a = b
  ne : ∀ a, a < k → a < N → mb a ≠ ob ∧ w.heap.size < mb a
  pl : w.heap.size < ob
section
variable {w : World} {G : Array Value} {ob N : Nat} {mb : Nat → Nat} {k : Nat} {wr w' : World}
theorem WG.lt (h : WG w G ob N mb k wr) : ob < wr.heap.size := by
  obtain ⟨cs, T, h1, _⟩ := h.hdr
  exact (Array.getElem?_eq_some_iff.1 h1).1
theorem WG.hcell (h : WG w G ob N mb k wr) (hk : k < N) : (∃ v, wr.cell? ⟨ob, k, none⟩ = some v) ∧ wr.frozen? ⟨ob, k, none⟩ = false := by
  obtain ⟨cs, T, h1, h2, h3⟩ := h.hdr
  exact ⟨⟨cs[k]'(by omega), by simp [World.cell?, h1]⟩, by simp [World.frozen?, h1]⟩
theorem WG.add (h : WG w G ob N mb k wr) (hk : k < N) : WG w G ob N (fun a => if a = k then wr.heap.size else mb a) (k + 1) ((wr.alloc (.map #[] 0)).setCell ⟨ob, k, none⟩ (.map (some wr.heap.size))) := by
  have hob := h.lt
  have hml := fun a h1 h2 => (h.maps a h1 h2).lt
  obtain ⟨h1, h2, ⟨cs, T, h3, h4, h5⟩, h6, h7, h8, h9⟩ := h
  have hba : Below wr.heap.size wr (wr.alloc (.map #[] 0)) := (Below.refl _ _).alloc (Nat.le_refl _) _
  have hsz := h1.size
  refine ⟨(h1.alloc h1.size _).setCell (by show w.heap.size ≤ ob; omega) _, bx_other (bx_keep h2 hba) (by show w.heap.size ≠ ob; omega) _ _, ⟨cs.setIfInBounds k (.map (some wr.heap.size)), T, bx_set (bx_keep h3 hba) _ _, by simpa using h4, fun a ha hn => ?_⟩, fun a ha hn => ?_, fun a b ha hb han hbn e => ?_, fun a ha hn => ?_, h9⟩
  · rw [Array.getElem?_setIfInBounds]
    by_cases e : k = a
    · subst e
      rw [if_pos rfl, if_pos (by omega)]; simp
    · rw [if_neg e, h5 a (by omega) hn]
      simp [show ¬ a = k from fun h => e h.symm]
  · by_cases e : a = k
    · subst e
      simp only [if_true]
      obtain ⟨D, k1, k2⟩ := TxM.start (Q := fun _ => False) wr rfl (fun _ _ h => h)
      exact ⟨D, k1.setCell (by show wr.heap.size ≠ ob; omega) _, k2⟩
    · simp only [e, if_false]
      obtain ⟨D, k1, k2⟩ := (h6 a (by omega) hn).keep hba
      exact ⟨D, k1.setCell (by show mb a ≠ ob; exact (h8 a (by omega) hn).1) _, k2⟩
  · by_cases e1 : a = k <;> by_cases e2 : b = k <;> simp only [e1, e2, if_true, if_false] at e ⊢
    · have := hml b (by omega) hbn; omega
    · have := hml a (by omega) han; omega
    · exact h7 a b (by omega) (by omega) han hbn e
  · by_cases e : a = k
    · subst e; simp only [if_true]; omega
    · simp only [e, if_false]; exact h8 a (by omega) hn
theorem WG.fin (h : WG w G ob N mb N wr) : WI w G wr.heap.size ob N mb (fun _ _ => False) (fun _ => 0) wr := by
  have hob := h.lt
  obtain ⟨h1, h2, ⟨cs, T, h3, h4, h5⟩, h6, h7, h8, h9⟩ := h
  exact ⟨h1, h2, ⟨cs, T, h3, fun a ha => h5 a ha ha⟩, fun a ha => h6 a ha ha, fun a b ha hb => h7 a b ha hb ha hb, fun a ha => ⟨(h8 a ha ha).1, (h8 a ha ha).2, (h6 a ha ha).lt⟩, ⟨h9, hob⟩, Nat.le_refl _⟩
end
/-- what WordsOf returns -/
def WoPost (rules : List Rule) (N n : Nat) (w : World) (e : Ending) (w' : World) : Prop :=
  ((e = .returned (.tuple #[.slice none 0 0, .bool false]) ∧ Many rules n) ∨ ∃ (ob : Nat) (mb : Nat → Nat) (Q : Nat → List Int → Prop) (c : Nat → Nat), e = .returned (.tuple #[.slice (some ⟨ob, 0, none⟩) N N, .bool true]) ∧
    (∀ a, a < N → w'.cell? ⟨ob, a, none⟩ = some (.map (some (mb a))) ∧ TxM (mb a) (Q a) (c a) w') ∧ SoundQ rules n Q ∧ ClosedQ rules n Q) ∧ Below w.heap.size w w'
end Sm
end Lg
end Go.Proofs.YthnkgmlhpefldaaDoor
