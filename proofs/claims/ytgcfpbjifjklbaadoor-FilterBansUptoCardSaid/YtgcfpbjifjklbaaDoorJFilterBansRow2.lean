/- Filters of trees, in plain Lean: bans, levels of precedence, and which filters are valid. The contracts of gram.T and gram.N. A region that draws its order, that only loads what was there and calls what makes new memory only: one walk in the order of the text. A region that draws its order: a head that only loads what was there and calls what makes new memory only, then a tail in one forced order. Rows of nested data of the call's own: append of one datum, of a slice of data. A region that draws its order: loads are taken first where their cells stay as they are until the tail begins. Which trees are valid, in plain Lean: two ways to say it. The contracts of tree.kids and tree.walk. The contract of tree.Size. The contracts of gram.Root and of the functions of tree.valid. The contracts of tree.valid, tree.Check and tree.Symbol. The contract of tree.valid. The contracts of tree.Symbol and of Label. -/
import Derived.Test.YtgcfpbjifjklbaaDoorJFilterBansRow1
import Derived.BigQuiet
import Derived.StillTail
import Derived.StillTailTactics
import Derived.Deep.RegionHeld3
import Derived.Deep.LoopGhost
import Derived.Deep.Cut
import Derived.Shelf.Abstract
import Derived.Deep.QuietTactic
import Derived.Laws.StructEq
namespace Go.Proofs.YtgcfpbjifjklbaaDoor
open Go.RowKit
namespace Fb
structure Ban where
  rule : Int
  pos : Int
  kid : Int
  deriving DecidableEq
structure Level where
  rules : List Int
  assoc : Int
  deriving DecidableEq
structure Rej where
  n : Int
  m : Int
  deriving DecidableEq
structure Filt where
  bans : List Ban
  rejs : List Rej
  deriving DecidableEq
def Ban.d (b : Ban) : D := .agg [.int b.rule, .int b.pos, .int b.kid]
def Level.d (l : Level) : D := .agg [.sl (l.rules.map D.int), .int l.assoc]
def Rej.d (r : Rej) : D := .agg [.int r.n, .int r.m]
def Filt.d (x : Filt) : D := .agg [.sl (x.bans.map Ban.d), .sl (x.rejs.map Rej.d)]
theorem bans_cells (l : List Ban) : ∀ d ∈ l.map Ban.d, d.cells = 3 := by
  intro d hd
  simp at hd
  obtain ⟨t, _, rfl⟩ := hd
  simp [Ban.d, D.cells, D.cellsAll]
theorem levels_cells (l : List Level) : ∀ d ∈ l.map Level.d, d.cells = 2 := by
  intro d hd
  simp at hd
  obtain ⟨t, _, rfl⟩ := hd
  simp [Level.d, D.cells, D.cellsAll]
theorem rejs_cells (l : List Rej) : ∀ d ∈ l.map Rej.d, d.cells = 2 := by
  intro d hd
  simp at hd
  obtain ⟨t, _, rfl⟩ := hd
  simp [Rej.d, D.cells, D.cellsAll]
theorem Rd.ban {S : Nat → Prop} {w : World} {b : Ban} {cs : List Value} (h : Rd S w b.d cs) : cs = [.int .i64 b.rule, .int .i64 b.pos, .int .i64 b.kid] := by
  obtain ⟨c1, c2, rfl, h1, c3, c4, rfl, h2, h3⟩ := h
  rw [RdAll.one_iff] at h3
  simp [Rd] at h1 h2 h3
  subst h1 h2 h3
  rfl
theorem rd_ban {S : Nat → Prop} {w : World} (b : Ban) : Rd S w b.d [.int .i64 b.rule, .int .i64 b.pos, .int .i64 b.kid] := ⟨[.int .i64 b.rule], [.int .i64 b.pos, .int .i64 b.kid], rfl, rfl, [.int .i64 b.pos], [.int .i64 b.kid], rfl, rfl, RdAll.one rfl⟩
theorem Rd.rej {S : Nat → Prop} {w : World} {b : Rej} {cs : List Value} (h : Rd S w b.d cs) : cs = [.int .i64 b.n, .int .i64 b.m] := by
  obtain ⟨c1, c2, rfl, h1, h2⟩ := h
  rw [RdAll.one_iff] at h2
  simp [Rd] at h1 h2
  subst h1 h2
  rfl
theorem Rd.level {S : Nat → Prop} {w : World} {r : Level} {cs : List Value} (h : Rd S w r.d cs) : ∃ v, cs = [v, .int .i64 r.assoc] ∧ Rd S w (.sl (r.rules.map D.int)) [v] := by
  obtain ⟨c1, c2, rfl, h1, h2⟩ := h
  rw [RdAll.one_iff] at h2
  simp [Rd] at h2
  subst h2
  have h4 := h1
  obtain ⟨a, cap, L, e, _⟩ := h1
  subst e
  exact ⟨_, rfl, h4⟩
theorem Rd.ban_at {S : Nat → Prop} {w : World} {l : List Ban} {a : Option Addr} {n cap i : Nat} (h : Rd S w (.sl (l.map Ban.d)) [.slice a n cap]) (hi : i < l.length) :
    ∃ b off, a = some ⟨b, off, none⟩ ∧ S b ∧ b < w.heap.size ∧ w.cell? ⟨b, off + i * 3, none⟩ = some (.int .i64 l[i].rule) ∧ w.cell? ⟨b, off + i * 3 + 1, none⟩ = some (.int .i64 l[i].pos) ∧ w.cell? ⟨b, off + i * 3 + 2, none⟩ = some (.int .i64 l[i].kid) := by
  obtain ⟨b, off, cs, ha, hS, hlt, hr, hl, hc⟩ := h.at (bans_cells l) (by decide) (i := i) (by simpa using hi)
  simp at hr
  obtain rfl := Rd.ban hr
  exact ⟨b, off, ha, hS, hlt, by simpa using hc 0 (by simp), by simpa [Nat.add_assoc] using hc 1 (by simp), by simpa [Nat.add_assoc] using hc 2 (by simp)⟩
theorem Rd.rej_at {S : Nat → Prop} {w : World} {l : List Rej} {a : Option Addr} {n cap i : Nat} (h : Rd S w (.sl (l.map Rej.d)) [.slice a n cap]) (hi : i < l.length) :
    ∃ b off, a = some ⟨b, off, none⟩ ∧ S b ∧ b < w.heap.size ∧ w.cell? ⟨b, off + i * 2, none⟩ = some (.int .i64 l[i].n) ∧ w.cell? ⟨b, off + i * 2 + 1, none⟩ = some (.int .i64 l[i].m) := by
  obtain ⟨b, off, cs, ha, hS, hlt, hr, hl, hc⟩ := h.at (rejs_cells l) (by decide) (i := i) (by simpa using hi)
  simp at hr
  obtain rfl := Rd.rej hr
  exact ⟨b, off, ha, hS, hlt, by simpa using hc 0 (by simp), by simpa [Nat.add_assoc] using hc 1 (by simp)⟩
theorem Rd.level_at {S : Nat → Prop} {w : World} {l : List Level} {a : Option Addr} {n cap i : Nat} (h : Rd S w (.sl (l.map Level.d)) [.slice a n cap]) (hi : i < l.length) :
    ∃ b off v, a = some ⟨b, off, none⟩ ∧ S b ∧ b < w.heap.size ∧ w.cell? ⟨b, off + i * 2, none⟩ = some v ∧ w.cell? ⟨b, off + i * 2 + 1, none⟩ = some (.int .i64 l[i].assoc) ∧ Rd S w (.sl (l[i].rules.map D.int)) [v] := by
  obtain ⟨b, off, cs, ha, hS, hlt, hr, hl, hc⟩ := h.at (levels_cells l) (by decide) (i := i) (by simpa using hi)
  simp at hr
  obtain ⟨v, rfl, hk⟩ := Rd.level hr
  exact ⟨b, off, v, ha, hS, hlt, by simpa using hc 0 (by simp), by simpa [Nat.add_assoc] using hc 1 (by simp), hk⟩
theorem elBan : ElemT Tryd.prog 25 42 3 24 := ElemT.mk' (z := .agg #[.int .i64 0, .int .i64 0, .int .i64 0]) Tryd.underlying25 (by kernel_rfl) rfl (by decide)
def firstF {α : Type} (f : α → Int) : List α → Int
  | [] => 0
  | a :: l => if f a ≠ 0 then f a else firstF f l
theorem firstF_drop {α : Type} {f : α → Int} {l : List α} {i : Nat} (h : i < l.length) : firstF f (l.drop i) = if f l[i] ≠ 0 then f l[i] else firstF f (l.drop (i + 1)) := by
  rw [List.drop_eq_getElem_cons h, firstF]
theorem firstF_end {α : Type} {f : α → Int} {l : List α} {i : Nat} (h : l.length ≤ i) : firstF f (l.drop i) = 0 := by
  rw [List.drop_eq_nil_of_le h, firstF]
theorem firstF_zero {α : Type} {f : α → Int} : ∀ {l : List α}, firstF f l = 0 → ∀ a ∈ l, f a = 0
  | a :: l, h, b, hb => by
    rw [firstF] at h
    by_cases e : f a = 0
    · rw [if_neg (by simpa using e)] at h
      rcases List.mem_cons.1 hb with rfl | hb
      · exact e
      · exact firstF_zero h b hb
    · rw [if_pos e] at h; exact absurd h e
def Rule0 : Rule := ⟨0, []⟩
def ruleAt (g : Gram) (i : Int) : Rule := (g.rules[i.toNat]?).getD Rule0
def banArg (g : Gram) (b : Ban) : Bool := decide (b.rule < 0) || decide ((g.rules.length : Int) ≤ b.rule) || decide (b.kid < 0) || decide ((g.rules.length : Int) ≤ b.kid) || decide (b.pos < 0) || decide (((ruleAt g b.rule).right.length : Int) ≤ b.pos)
def banForm (g : Gram) (b : Ban) : Bool := decide (((ruleAt g b.rule).right[b.pos.toNat]?).getD ⟨true, 0⟩ = ⟨false, (ruleAt g b.kid).left⟩)
def banF (g : Gram) (b : Ban) : Int := if banArg g b then 1 else if banForm g b then 0 else 3
def rejBad (g : Gram) (p : Rej) : Bool := decide (p.n < 0) || decide (g.nons ≤ p.n) || decide (p.m < 0) || decide (g.nons ≤ p.m)
def rejF (g : Gram) (p : Rej) : Int := if rejBad g p then 1 else 0
def filtF (g : Gram) (x : Filt) : Int :=
  if 400 < x.bans.length ∨ 20 < x.rejs.length then 2
  else if firstF (banF g) x.bans ≠ 0 then firstF (banF g) x.bans else firstF (rejF g) x.rejs
theorem banArg_ok {g : Gram} {b : Ban} (h : banArg g b = false) : ∃ i k p : Nat, b.rule = (i : Int) ∧ b.kid = (k : Int) ∧ b.pos = (p : Int) ∧ ∃ (hi : i < g.rules.length) (hk : k < g.rules.length), ruleAt g b.rule = g.rules[i] ∧ ruleAt g b.kid = g.rules[k] ∧ p < g.rules[i].right.length := by
  unfold banArg at h
  simp only [Bool.or_eq_false_iff, decide_eq_false_iff_not] at h
  obtain ⟨⟨⟨⟨⟨h1, h2⟩, h3⟩, h4⟩, h5⟩, h6⟩ := h
  have hi : b.rule.toNat < g.rules.length := by omega
  have hk : b.kid.toNat < g.rules.length := by omega
  have e1 : ruleAt g b.rule = g.rules[b.rule.toNat] := by unfold ruleAt; rw [List.getElem?_eq_getElem hi]; rfl
  have e2 : ruleAt g b.kid = g.rules[b.kid.toNat] := by unfold ruleAt; rw [List.getElem?_eq_getElem hk]; rfl
  rw [e1] at h6
  exact ⟨b.rule.toNat, b.kid.toNat, b.pos.toNat, by omega, by omega, by omega, hi, hk, e1, e2, by omega⟩
def lvRules (N : Nat) : List Int → List Int → Int
  | _, [] => 0
  | seen, r :: l => if r < 0 ∨ (N : Int) ≤ r then 1 else if r ∈ seen then 6 else lvRules N (seen ++ [r]) l
def lvL (N : Nat) : List Int → List Level → Int
  | _, [] => 0
  | seen, x :: l => if x.assoc < 0 ∨ 2 < x.assoc then 1 else if lvRules N seen x.rules ≠ 0 then lvRules N seen x.rules else lvL N (seen ++ x.rules) l
def levF (g : Gram) (l : List Level) : Int := lvL g.rules.length [] l
def lvFrom : Nat → List Level → Int → Int
  | _, [], _ => -1
  | i, x :: l, r => if r ∈ x.rules then (i : Int) else lvFrom (i + 1) l r
def lvOf (l : List Level) (r : Int) : Int := lvFrom 0 l r
theorem lvFrom_ge : ∀ {l : List Level} {i : Nat} {r : Int}, lvFrom i l r = -1 ∨ (i : Int) ≤ lvFrom i l r ∧ lvFrom i l r < (i : Int) + l.length
  | [], _, _ => .inl rfl
  | x :: l, i, r => by
    rw [lvFrom]
    by_cases h : r ∈ x.rules
    · rw [if_pos h]; right; simp; omega
    · rw [if_neg h]
      rcases @lvFrom_ge l (i + 1) r with h2 | h2
      · exact .inl h2
      · right; simp at h2 ⊢; omega
theorem lvFrom_snoc {x : Level} : ∀ {l : List Level} {i : Nat} {r : Int}, lvFrom i (l ++ [x]) r = if 0 ≤ lvFrom i l r then lvFrom i l r else if r ∈ x.rules then (i : Int) + l.length else -1
  | [], i, r => by simp [lvFrom]
  | y :: l, i, r => by
    rw [List.cons_append, lvFrom, lvFrom]
    by_cases h : r ∈ y.rules
    · rw [if_pos h, if_pos h, if_pos (by omega)]
    · rw [if_neg h, if_neg h, lvFrom_snoc]
      simp only [List.length_cons]
      by_cases h2 : 0 ≤ lvFrom (i + 1) l r
      · rw [if_pos h2, if_pos h2]
      · rw [if_neg h2, if_neg h2]
        by_cases h3 : r ∈ x.rules
        · rw [if_pos h3, if_pos h3]; omega
        · rw [if_neg h3, if_neg h3]
theorem lvOf_take {l : List Level} {i : Nat} (h : i < l.length) {r : Int} : lvOf (l.take (i + 1)) r = if 0 ≤ lvOf (l.take i) r then lvOf (l.take i) r else if r ∈ l[i].rules then (i : Int) else -1 := by
  unfold lvOf
  rw [List.take_succ_eq_append_getElem h, lvFrom_snoc, List.length_take, Nat.min_eq_left (by omega)]
  simp
def assocAt (l : List Level) (i : Int) : Int := ((l[i.toNat]?).map Level.assoc).getD 0
def banned (g : Gram) (l : List Level) (r p k : Nat) : Bool :=
  match g.rules[r]?, g.rules[k]? with
  | some x, some z =>
    match x.right[p]? with
    | some y =>
      !(y.term || decide (y.n ≠ z.left) || decide (lvOf l r < 0) || decide (lvOf l k < 0) || decide (lvOf l r < lvOf l k)) &&
        (decide (lvOf l k < lvOf l r) && (decide (p = 0) || decide (p + 1 = x.right.length)) || decide (lvOf l k = lvOf l r) && (decide (p = 0) && decide (assocAt l (lvOf l r) ≠ 1) || decide (p + 1 = x.right.length) && decide (assocAt l (lvOf l r) ≠ 2)))
    | none => false
  | _, _ => false
def row (g : Gram) (l : List Level) (r p n : Nat) : List Ban := (List.range n).filterMap fun k => if banned g l r p k then some ⟨r, p, k⟩ else none
def rows (g : Gram) (l : List Level) (r n : Nat) : List Ban := (List.range n).flatMap fun p => row g l r p g.rules.length
def lenR (g : Gram) (r : Nat) : Nat := ((g.rules[r]?).map fun x => x.right.length).getD 0
def allB (g : Gram) (l : List Level) (n : Nat) : List Ban := (List.range n).flatMap fun r => rows g l r (lenR g r)
def bansOf (g : Gram) (l : List Level) : List Ban := allB g l g.rules.length
end Fb
end Go.Proofs.YtgcfpbjifjklbaaDoor
namespace Go.Proofs.YtgcfpbjifjklbaaDoor
open Go.RowKit
set_option maxHeartbeats 400000 in
theorem gramN (x : Int) (w : World) : Calls Tryd.prog 17 #[.int .i64 x] w fun e w' => e = .returned (.agg #[.bool false, .int .i64 x]) ∧ Below w.heap.size w w' := by
  go_enter Tryd.func17, Tryd.ntmps17
  go_wp2
  exact bodyPost_ret (v := .agg #[.bool false, .int .i64 x]) (by simp [results, Tryd.results17, go_sem]) rfl ⟨rfl, (Below.refl _ _).alloc (Nat.le_refl _) _⟩
end Go.Proofs.YtgcfpbjifjklbaaDoor
namespace Go.Proofs.YtgcfpbjifjklbaaDoor
open Go.RowKit
structure Aft (w0 : World) where
  w : World
  bel : Below w0.heap.size w0 w
instance (w0 : World) : Nonempty (Aft w0) := ⟨⟨w0, Below.refl _ _⟩⟩
theorem aft_cell {w0 : World} {p : Addr} {v : Value} (h : w0.cell? p = some v) : ∀ x : Aft w0, x.w.cell? p = some v := fun x => (x.bel.cell (lt_of_cell h)).trans h
theorem wp_region_after {P : Program} {id : Nat} {Q : Exit → Act → World → Prop} {a : Act} {w0 : World} {l : List Oper} (hm : P.follows .mixedOrders = true) (hB : Region.lexB .any l.toArray = true)
    (h : wpQuiet P l.toArray (fun w' => ∃ x : Aft w0, w' = x.w) (fun a' => ∀ w', (∃ x : Aft w0, w' = x.w) → Q .normal a' w') l a) : (Code.region id l.toArray true).wp P Q a w0 :=
  wp_region_quiet (C := fun w' => ∃ x : Aft w0, w' = x.w) hm hB ⟨⟨_, (Below.refl _ w0).drew⟩, rfl⟩ (by simpa using h)
theorem Calls.after {P : Program} {f : FuncId} {args : Array Value} {w0 : World} {x : Aft w0} {v : Value} (h : Calls P f args x.w fun e w' => e = .returned v ∧ Below x.w.heap.size x.w w') :
    Calls P f args x.w fun e w'' => e = .returned v ∧ ∃ y : Aft w0, w'' = y.w :=
  h.mono fun _ w'' ⟨he, hb⟩ => ⟨he, ⟨w'', x.bel.trans (hb.mono x.bel.size)⟩, rfl⟩
end Go.Proofs.YtgcfpbjifjklbaaDoor
namespace Go.Proofs.YtgcfpbjifjklbaaDoor
open Go.RowKit
section
variable {P : Program} {ops : Array Oper} {md : Region.Mode} {C : World → Prop}
end
end Go.Proofs.YtgcfpbjifjklbaaDoor
namespace Go.Proofs.YtgcfpbjifjklbaaDoor
open Go.RowKit
mutual
theorem Rd.ones {S : Nat → Prop} {w : World} : ∀ (d : D) (cs : List Value), Rd S w d cs → ∀ u ∈ cs, u.oneCell' = true
  | .int n, cs, h => by simp [Rd] at h; subst h; simp [Value.oneCell']
  | .bool n, cs, h => by simp [Rd] at h; subst h; simp [Value.oneCell']
  | .str n, cs, h => by simp [Rd] at h; subst h; simp [Value.oneCell']
  | .sl ds, cs, h => by obtain ⟨a, cap, L, rfl, _⟩ := h; simp [Value.oneCell']
  | .agg ds, cs, h => RdAll.ones ds cs h
theorem RdAll.ones {S : Nat → Prop} {w : World} : ∀ (ds : List D) (cs : List Value), RdAll S w ds cs → ∀ u ∈ cs, u.oneCell' = true
  | [], cs, h => by simp [RdAll] at h; subst h; simp
  | d :: ds, cs, h => by
    obtain ⟨c1, c2, rfl, h1, h2⟩ := h
    intro u hu
    rcases List.mem_append.1 hu with hu | hu
    · exact Rd.ones d c1 h1 u hu
    · exact RdAll.ones ds c2 h2 u hu
end
structure RowD (S : Nat → Prop) (B : Nat) (e : TypeId) (size : Nat) (ds : List D) (v : Value) (wr : World) : Prop where
  own : ∃ xs, wr.ownsRow B e size v ds.length xs ∧ RdAll (fun k => S k ∧ v.ownBlock ≠ some k) wr ds xs
  le : B ≤ wr.heap.size
theorem RowD.keep {S : Nat → Prop} {B : Nat} {e : TypeId} {size : Nat} {ds : List D} {v : Value} {wr w' : World} (h : RowD S B e size ds v wr) (hb : Below wr.heap.size wr w') : RowD S B e size ds v w' := by
  obtain ⟨⟨xs, h1, h2⟩, h3⟩ := h
  exact ⟨⟨xs, own_keep h1 hb, h2.below hb⟩, Nat.le_trans h3 hb.size⟩
theorem RowD.form {S : Nat → Prop} {B : Nat} {e : TypeId} {size : Nat} {ds : List D} {v : Value} {wr : World} (h : RowD S B e size ds v wr) : ∃ a cap, v = .slice a ds.length cap ∧ ds.length ≤ cap ∧ cap ≤ maxLen ∧ ∀ k, v.ownBlock = some k → B ≤ k ∧ k < wr.heap.size := by
  obtain ⟨⟨xs, h1, h2⟩, h3⟩ := h
  obtain ⟨a, cap, rfl, e1, e2⟩ := own_len h1
  exact ⟨a, cap, rfl, e1, e2, h1.lt⟩
theorem RowD.rd {S : Nat → Prop} {B : Nat} {e : TypeId} {size : Nat} {ds : List D} {v : Value} {wr : World} (h : RowD S B e size ds v wr) : Rd (fun k => S k ∨ B ≤ k) wr (.sl ds) [v] := by
  obtain ⟨⟨xs, h1, h2⟩, h3⟩ := h
  exact rd_of_own h1 (h2.mono fun k hk _ => .inl hk.1) rfl (fun k e => .inr (h1.lt k e).1)
theorem RowD.nil (S : Nat → Prop) (B : Nat) (e : TypeId) (size : Nat) (w : World) (h : B ≤ w.heap.size) : RowD S B e size [] (.slice none 0 0) w := ⟨⟨[], World.ownsRow_nil _ _ _ _, by simp [RdAll]⟩, h⟩
theorem RowD.step {S T : Nat → Prop} {B : Nat} {e : TypeId} {size : Nat} {ds es : List D} {v v' : Value} {W0 W1 : World} {xs news : List Value} {n : Nat} (h1 : W0.ownsRow B e size v n xs) (h2 : RdAll (fun k => S k ∧ v.ownBlock ≠ some k) W0 ds xs) (hn : n = ds.length)
    (hp : RdAll T W0 es news) (hT : ∀ k, T k → k < W0.heap.size → S k ∧ v.ownBlock ≠ some k) (hB : B ≤ W0.heap.size)
    (ho : W1.ownsRow B e size v' (n + es.length) (xs ++ news)) (hg : W0.grownBy W1 v.ownBlock) (hat : v'.ownBlock = v.ownBlock ∨ ∃ k, v'.ownBlock = some k ∧ W0.heap.size ≤ k) : RowD S B e size (ds ++ es) v' W1 := by
  subst hn
  exact ⟨⟨xs ++ news, by rw [List.length_append]; exact ho, own_step h2 (hp.mono hT) hg hat⟩, Nat.le_trans hB hg.size⟩
end Go.Proofs.YtgcfpbjifjklbaaDoor
namespace Go.Proofs.YtgcfpbjifjklbaaDoor
open Go.RowKit
section
variable {P : Program} {ops : Array Oper} {Q : Exit → Act → World → Prop} {md : Region.Mode} {S : World → Prop} {n : Nat}
def wpU (P : Program) (md : Region.Mode) (ops : Array Oper) (Q : Exit → Act → World → Prop) (S : World → Prop) (n : Nat) : Nat → Array Bool → Act → World → Prop
  | 0, listed, a, w => Region.ready md ops listed = [] ∧ Q .normal a w
  | f + 1, listed, a, w =>
    (Region.ready md ops listed = [] → Q .normal a w) ∧
    ∀ i ∈ Region.ready md ops listed, wpOp P ops Q i (fun a' w' => ((listed.setIfInBounds i true).getD n true = false → S w') ∧ wpU P md ops Q S n f (listed.setIfInBounds i true) a' w') a w
theorem wpAny_of_U : ∀ (f : Nat) (listed : Array Bool) (a : Act) (w : World), wpU P md ops Q S n f listed a w → wpAny P md ops Q f listed a w
  | 0, _, _, _, h => h
  | f + 1, _, _, _, h => ⟨h.1, fun i hi => wpOp_mono (fun a' w' h' => wpAny_of_U f _ a' w' h'.2) (h.2 i hi)⟩
theorem wpU_first {i : Nat} {oi : Oper} {v : Value} (hi : ops[i]? = some oi) (hsel : ∀ (j : Nat) (o : Oper) cs b, ops[j]? = some o → o.op ≠ .select cs b)
    (hQ : ∀ c a w, Q (.panic c) (a.put oi.dst v) w → Q (.panic c) a w) (hs : Region.sinkB md ops n = true) (hc : Region.chainB md ops n = true) (hn : n < ops.size) (hin : i < n) :
    ∀ (f : Nat) (listed : Array Bool) (a : Act) (w : World), HeadInv md ops n listed →
      (∀ j oj, ops[j]? = some oj → j ≠ i → listed.getD j true = false → (∀ e ∈ oj.after, Region.binds md e = true → e.on ≠ i) → oi.apart ops oj = true) →
      i ∈ Region.ready md ops listed → YieldsIf P ops S oi v a → S w →
      wpU P md ops Q S n f (listed.setIfInBounds i true) (a.put oi.dst v) w → wpU P md ops Q S n (f + 1) listed a w := by
  intro f
  induction f with
  | zero =>
    intro listed a w inv _ hr hy hS H
    refine ⟨fun h => (by rw [h] at hr; cases hr), fun j hj => ?_⟩
    by_cases hji : j = i
    · subst hji; exact hy.wpOp hi hS ⟨fun _ => hS, H⟩
    · have h1 := ready_mono hj hji
      rw [H.1] at h1
      cases h1
  | succ f ih =>
    intro listed a w inv hfree hr hy hS H
    have hun := (mem_ready.1 hr).1
    refine ⟨fun h => (by rw [h] at hr; cases hr), fun j hj => ?_⟩
    have hjn : j < n := by
      rcases Nat.lt_or_ge j n with h | h
      · exact h
      · exact absurd hj (tail_waits hs hc hn inv _ i rfl hin hun j h)
    by_cases hji : j = i
    · subst hji; exact hy.wpOp hi hS ⟨fun _ => hS, H⟩
    · have h1 := H.2 j (ready_mono hj hji)
      obtain ⟨hjun, oj, hoj, hall⟩ := mem_ready.1 hj
      have hnot : ∀ e ∈ oj.after, Region.binds md e = true → e.on ≠ i := fun e he hb heq => by
        have h1 := hall e he hb
        rw [heq, getD_both hun] at h1
        cases h1
      have h2 := wpOp_putIf hoj (hfree j oj hoj hji hjun hnot) (fun cs b => hsel i oi cs b hi) (fun cs b => hsel j oj cs b hoj) hQ hy h1
      have hfree' : ∀ k ok, ops[k]? = some ok → k ≠ i → (listed.setIfInBounds j true).getD k true = false →
          (∀ e ∈ ok.after, Region.binds md e = true → e.on ≠ i) → oi.apart ops ok = true := fun k ok hk hki hun hno => by
        refine hfree k ok hk hki ?_ hno
        by_cases hjk : j = k
        · subst hjk; exact hjun
        · rw [getD_set_ne true hjk] at hun; exact hun
      have hnn : ((listed.setIfInBounds i true).setIfInBounds j true).getD n true = false := by
        rw [getD_set_ne true (by omega), getD_set_ne true (by omega)]
        exact inv.tail n (Nat.le_refl _) hn
      refine wpOp_mono (fun a' w' h3 => ⟨fun _ => h3.2.1 hnn, ih (listed.setIfInBounds j true) a' w' (inv.set hj hjn) hfree' (ready_mono hr (Ne.symm hji)) h3.1 (h3.2.1 hnn) ?_⟩) h2
      rw [Array.setIfInBounds_comm _ _ hji]
      exact h3.2.2
theorem wpU_take {i : Nat} {oi : Oper} {v : Value} {f : Nat} {listed : Array Bool} {a : Act} {w : World} (hi : ops[i]? = some oi) (inv : HeadInv md ops n listed) (hs : Region.sinkB md ops n = true) (hc : Region.chainB md ops n = true) (hn : n < ops.size) (hin : i < n)
    (hsel : Region.noSelect ops = true) (hf : Region.free md ops listed i = true) (hr : (Region.ready md ops listed).contains i = true)
    (hQ : ∀ c a w, Q (.panic c) (a.put oi.dst v) w → Q (.panic c) a w) (hy : YieldsIf P ops S oi v a) (hS : S w)
    (h : HeadInv md ops n (listed.setIfInBounds i true) → wpU P md ops Q S n f (listed.setIfInBounds i true) (a.put oi.dst v) w) : wpU P md ops Q S n (f + 1) listed a w :=
  wpU_first hi (Region.noSelect_spec hsel) hQ hs hc hn hin f listed a w inv (Region.free_spec hi hf) (by simpa using hr) hy hS (h (inv.set (by simpa using hr) hin))
theorem wp_region_U {id : Nat} {a : Act} {w : World} (n : Nat) (hm : P.follows .mixedOrders = true)
    (h : HeadInv .any ops n (Array.replicate ops.size false) → wpU P .any ops Q S n ops.size (Array.replicate ops.size false) a w.drew) : (Code.region id ops true).wp P Q a w :=
  wp_region_any hm (wpAny_of_U _ _ _ _ (h ⟨by simp, fun j oj _ hl => (by rw [getD_replicate_false] at hl; cases hl), fun t _ ht => getD_in (by simpa using ht) (getD_replicate_false _ _)⟩))
def OnU (P : Program) (md : Region.Mode) (ops : Array Oper) (Q : Exit → Act → World → Prop) (S : World → Prop) (n f : Nat) (listed : Array Bool) (K : Act → World → Prop) : Prop :=
  ∀ a w, (listed.getD n true = false → S w) → wpU P md ops Q S n f listed a w → K a w
theorem OnU.out {f : Nat} {listed : Array Bool} {K : Act → World → Prop} (h : OnU P md ops Q S n f listed K) (a : Act) (w : World) (hS : listed.getD n true = false → S w) (hw : wpU P md ops Q S n f listed a w) : K a w := h a w hS hw
theorem wpU_one {i : Nat} {o : Oper} {f : Nat} {listed : Array Bool} {a : Act} {w : World} (hr : Region.ready md ops listed = [i]) (ho : ops[i]? = some o)
    (h : ∀ K : Act → World → Prop, OnU P md ops Q S n f (listed.setIfInBounds i true) K → if Region.wanted o (yielded ops a.tmps) = true then Oper.wp P o a w K Q else K (a.put o.dst undef) w) : wpU P md ops Q S n (f + 1) listed a w := by
  refine ⟨fun h0 => (by rw [hr] at h0; cases h0), fun j hj => ?_⟩
  rw [hr] at hj
  obtain rfl : j = i := by simpa using hj
  exact wpOp_step ho (fun K hK => h K (fun a w hS hW => hK a w ⟨hS, hW⟩))
theorem wpU_done {listed : Array Bool} {a : Act} {w : World} (hr : Region.ready md ops listed = []) (h : Q .normal a w) : ∀ f, wpU P md ops Q S n f listed a w
  | 0 => ⟨hr, h⟩
  | _ + 1 => ⟨fun _ => h, by rw [hr]; simp⟩
end
end Go.Proofs.YtgcfpbjifjklbaaDoor
namespace Go.Proofs.YtgcfpbjifjklbaaDoor
def rootS (g : Gram) (t : Tree) : Sym := if t.rule < 0 then ⟨true, t.term⟩ else match g.rules[t.rule.toNat]? with | some r => ⟨false, r.left⟩ | none => ⟨true, t.term⟩
def kidOk (g : Gram) (k : Tree) (s : Sym) : Bool := decide (-1 ≤ k.rule) && (decide (k.rule < g.rules.length) && decide (rootS g k = s))
def kidsOk (g : Gram) (ks : List Tree) (l : List Sym) : Bool := decide (ks.length = l.length) && (List.zip ks l).all fun x => kidOk g x.1 x.2
def nodeOk (g : Gram) (t : Tree) : Bool :=
  if t.rule = -1 then decide (0 ≤ t.term) && (decide (t.term < g.terms) && decide (t.kids.length = 0))
  else if t.rule < 0 then false else match g.rules[t.rule.toNat]? with
    | none => false
    | some r => decide (t.term = 0) && kidsOk g t.kids r.right
def validT (g : Gram) (t : Tree) : Bool := (nodes t).all (nodeOk g)
def checkT (g : Gram) (t : Tree) : Int := if checkG g ≠ 0 then checkG g else if 5000 < (nodes t).length then 2 else if validT g t then 0 else 3
def label (g : Gram) (t : Tree) : Option Sym :=
  if t.rule = -1 ∧ t.kids.length = 0 ∧ 0 ≤ t.term ∧ t.term < g.terms then some ⟨true, t.term⟩
  else if t.rule < 0 ∨ t.term ≠ 0 then none else (g.rules[t.rule.toNat]?).map fun r => ⟨false, r.left⟩
def refNode (g : Gram) (t : Tree) : Bool :=
  (label g t).isSome && (decide (t.rule = -1) || ((t.kids.all fun k => (label g k).isSome) && match g.rules[t.rule.toNat]? with | some r => decide (t.kids.map (label g) = r.right.map some) | none => false))
theorem label_root {g : Gram} {t : Tree} {s : Sym} (h : label g t = some s) : rootS g t = s ∧ -1 ≤ t.rule ∧ t.rule < g.rules.length := by
  unfold label at h
  by_cases h1 : t.rule = -1 ∧ t.kids.length = 0 ∧ 0 ≤ t.term ∧ t.term < g.terms
  · rw [if_pos h1] at h
    simp at h
    subst h
    refine ⟨by simp [rootS, h1.1], by omega, by omega⟩
  · rw [if_neg h1] at h
    by_cases h2 : t.rule < 0 ∨ t.term ≠ 0
    · rw [if_pos h2] at h; simp at h
    · rw [if_neg h2] at h
      cases h3 : g.rules[t.rule.toNat]? with
      | none => rw [h3] at h; simp at h
      | some r =>
        rw [h3] at h
        simp at h
        subst h
        obtain ⟨h4, _⟩ := List.getElem?_eq_some_iff.1 h3
        refine ⟨?_, by omega, by omega⟩
        simp only [rootS, if_neg (show ¬ t.rule < 0 by omega), h3]
theorem nodeOk_label {g : Gram} {t : Tree} (h : nodeOk g t = true) : label g t = some (rootS g t) := by
  unfold nodeOk at h
  unfold label rootS
  by_cases h1 : t.rule = -1
  · rw [if_pos h1] at h
    simp at h
    rw [if_pos ⟨h1, by simp [h.2.2], h.1, h.2.1⟩, if_pos (by omega)]
  · rw [if_neg h1] at h
    by_cases h2 : t.rule < 0
    · rw [if_pos h2] at h; simp at h
    · rw [if_neg h2] at h
      cases h3 : g.rules[t.rule.toNat]? with
      | none => rw [h3] at h; simp at h
      | some r =>
        rw [h3] at h
        simp at h
        rw [if_neg (fun h4 => h1 h4.1), if_neg (by omega), if_neg h2]
        rfl
mutual
theorem kid_node : ∀ (t x k : Tree), x ∈ nodes t → x.rule ≠ -1 → k ∈ x.kids → k ∈ nodes t
  | .node r tm ks, x, k, hx, hr, hk => by
    rw [nodes] at hx ⊢
    rcases List.mem_cons.1 hx with rfl | hx
    · simp only [Tree.rule, Tree.kids] at hr hk
      rw [if_neg hr]
      exact List.mem_cons_of_mem _ (kid_mem ks k hk)
    · by_cases h : r = -1
      · rw [if_pos h] at hx; simp at hx
      · rw [if_neg h] at hx ⊢
        exact List.mem_cons_of_mem _ (kid_nodeL ks x k hx hr hk)
theorem kid_nodeL : ∀ (ks : List Tree) (x k : Tree), x ∈ nodesL ks → x.rule ≠ -1 → k ∈ x.kids → k ∈ nodesL ks
  | [], x, k, hx, _, _ => by simp [nodesL] at hx
  | y :: ks, x, k, hx, hr, hk => by
    rw [nodesL] at hx ⊢
    rcases List.mem_append.1 hx with h | h
    · exact List.mem_append_left _ (kid_node y x k h hr hk)
    · exact List.mem_append_right _ (kid_nodeL ks x k h hr hk)
theorem kid_mem : ∀ (ks : List Tree) (k : Tree), k ∈ ks → k ∈ nodesL ks
  | [], k, h => by simp at h
  | y :: ks, k, h => by
    rw [nodesL]
    rcases List.mem_cons.1 h with rfl | h
    · refine List.mem_append_left _ ?_
      rw [nodes_eq]; exact List.mem_cons_self
    · exact List.mem_append_right _ (kid_mem ks k h)
end
theorem kidsOk_map {g : Gram} : ∀ {ks : List Tree} {l : List Sym}, (∀ k ∈ ks, label g k = some (rootS g k)) → (kidsOk g ks l = true ↔ (∀ k ∈ ks, -1 ≤ k.rule ∧ k.rule < g.rules.length) ∧ ks.map (label g) = l.map some)
  | [], [], _ => by simp [kidsOk]
  | [], _ :: _, _ => by simp [kidsOk]
  | _ :: _, [], _ => by simp [kidsOk]
  | k :: ks, s :: l, h => by
    have ih := kidsOk_map (g := g) (ks := ks) (l := l) (fun x hx => h x (List.mem_cons_of_mem _ hx))
    have hk := h k List.mem_cons_self
    unfold kidsOk at ih ⊢
    simp only [List.length_cons, List.zip_cons_cons, List.all_cons, List.map_cons, Bool.and_eq_true, decide_eq_true_eq] at ih ⊢
    simp only [kidOk, Bool.and_eq_true, decide_eq_true_eq]
    rw [hk]
    constructor
    · rintro ⟨h1, ⟨h2, h3, h4⟩, h5⟩
      obtain ⟨h6, h7⟩ := ih.1 ⟨by omega, h5⟩
      refine ⟨fun x hx => ?_, by rw [h4, h7]⟩
      rcases List.mem_cons.1 hx with rfl | hx
      · exact ⟨h2, h3⟩
      · exact h6 x hx
    · rintro ⟨h1, h2⟩
      simp at h2
      obtain ⟨h3, h4⟩ := ih.2 ⟨fun x hx => h1 x (List.mem_cons_of_mem _ hx), h2.2⟩
      have h5 := h1 k List.mem_cons_self
      exact ⟨by omega, ⟨h5.1, h5.2, h2.1⟩, h4⟩
theorem valid_ref (g : Gram) (t : Tree) : validT g t = (nodes t).all (refNode g) := by
  rw [Bool.eq_iff_iff]
  unfold validT
  rw [List.all_eq_true, List.all_eq_true]
  constructor
  · intro h x hx
    have hl := nodeOk_label (h x hx)
    have hn := h x hx
    unfold refNode
    rw [hl]
    by_cases hr : x.rule = -1
    · simp [hr]
    · have hkl : ∀ k ∈ x.kids, label g k = some (rootS g k) := fun k hk => nodeOk_label (h k (kid_node t x k hx hr hk))
      unfold nodeOk at hn
      rw [if_neg hr] at hn
      by_cases h2 : x.rule < 0
      · rw [if_pos h2] at hn; simp at hn
      · rw [if_neg h2] at hn
        cases h3 : g.rules[x.rule.toNat]? with
        | none => rw [h3] at hn; simp at hn
        | some r =>
          rw [h3] at hn
          simp only [Bool.and_eq_true] at hn
          have h4 := ((kidsOk_map hkl).1 hn.2).2
          have h5 : (x.kids.all fun k => (label g k).isSome) = true := List.all_eq_true.2 fun k hk => by rw [hkl k hk]; rfl
          simp [hr, h4, h5]
  · intro h x hx
    have hn := h x hx
    unfold refNode at hn
    rw [Bool.and_eq_true] at hn
    obtain ⟨s, hs⟩ := Option.isSome_iff_exists.1 hn.1
    unfold nodeOk
    by_cases hr : x.rule = -1
    · rw [if_pos hr]
      unfold label at hs
      by_cases h1 : x.rule = -1 ∧ x.kids.length = 0 ∧ 0 ≤ x.term ∧ x.term < g.terms
      · simp only [h1.2.1, h1.2.2.1, h1.2.2.2]; rfl
      · rw [if_neg h1, if_pos (by omega)] at hs; simp at hs
    · rw [if_neg hr]
      unfold label at hs
      rw [if_neg (fun h1 => hr h1.1)] at hs
      by_cases h2 : x.rule < 0 ∨ x.term ≠ 0
      · rw [if_pos h2] at hs; simp at hs
      · rw [if_neg (by omega)]
        have hm := hn.2
        rw [Bool.or_eq_true] at hm
        rcases hm with hm | hm
        · simp at hm; exact absurd hm hr
        · cases h3 : g.rules[x.rule.toNat]? with
          | none => rw [h3] at hm; simp at hm
          | some r =>
            rw [h3] at hm
            simp only [Bool.and_eq_true, decide_eq_true_eq] at hm ⊢
            have hkl : ∀ k ∈ x.kids, label g k = some (rootS g k) := fun k hk => by
              obtain ⟨y, hy⟩ := Option.isSome_iff_exists.1 (List.all_eq_true.1 hm.1 k hk)
              rw [hy, (label_root hy).1]
            exact ⟨by omega, (kidsOk_map hkl).2 ⟨fun k hk => (label_root (hkl k hk)).2, hm.2⟩⟩
end Go.Proofs.YtgcfpbjifjklbaaDoor
namespace Go.Proofs.YtgcfpbjifjklbaaDoor
open Go.RowKit
def KidsPost (w0 : World) (t : Tree) (w : World) (e : Ending) (w' : World) : Prop :=
  ∃ a cap, e = .returned (.slice a (kidsOf t).length cap) ∧ Rd AnyB w0 (.sl ((kidsOf t).map Tree.d)) [.slice a (kidsOf t).length cap] ∧ Below w.heap.size w w'
theorem rd_nil (S : Nat → Prop) (w : World) : Rd S w (.sl []) [.slice none 0 0] := ⟨none, 0, [], rfl, by simp, by simp [maxLen], fun _ => rfl, fun i hi => by simp at hi, rfl⟩
set_option maxHeartbeats 400000 in
theorem kidsE (w0 : World) (t : Tree) (v : Value) (w : World) (hv : Rd AnyB w0 (.sl (t.kids.map Tree.d)) [v]) :
    Calls Tryd.prog 81 #[.agg #[.int .i64 t.rule, .int .i64 t.term, v]] w (KidsPost w0 t w) := by
  obtain ⟨a, cap, rfl, hc1, hc2⟩ := hv.form
  have HV := Lib.hid hv
  clear hv hc1 hc2
  cases t with
  | node r tm ks =>
  simp only [Tree.rule, Tree.term, Tree.kids, List.length_map] at HV ⊢
  by_cases hr : r = -1
  · subst hr
    go_enter Tryd.func81, Tryd.ntmps81
    go_wp2
    go_ret
    exact ⟨none, 0, rfl, rd_nil _ _, (Below.refl _ _).alloc (Nat.le_refl _) _⟩
  · have hr' : (r == -1) = false := by simpa using hr
    have HR := Lib.hid hr
    clear hr
    go_enter Tryd.func81, Tryd.ntmps81
    go_wp2
    go_ret
    refine ⟨a, cap, ?_, ?_, (Below.refl _ _).alloc (Nat.le_refl _) _⟩
    · simp [kidsOf, Tree.rule, Tree.kids, HR.out]
    · have e : kidsOf (.node r tm ks) = ks := by simp [kidsOf, Tree.rule, Tree.kids, HR.out]
      rw [e]; exact HV.out
structure NodeFn (g : Nat) (lb : Array Value) (w0 : World) (p : Tree → Bool) (N : Nat) (I : List Tree → (Nat → Prop) → World → Prop) : Prop where
  below : ∀ {s S W}, I s S W → Below w0.heap.size w0 W
  own : ∀ {s S W}, I s S W → ∀ k, S k → w0.heap.size ≤ k ∧ k < W.heap.size
  keep : ∀ {s S W W'}, I s S W → Below W.heap.size W W' → I s S W'
  call : ∀ s S W (t : Tree) (v : Value), I s S W → Rd AnyB w0 (.sl (t.kids.map Tree.d)) [v] → s.length < N →
    Calls Tryd.prog g (#[.agg #[.int .i64 t.rule, .int .i64 t.term, v]] ++ lb) W fun e W' => ∃ S', e = .returned (.bool (p t)) ∧ I (s ++ [t]) S' W' ∧ Keeps S W W' ∧ ∀ k, S' k → S k ∨ W.heap.size ≤ k
def WalkPost (p : Tree → Bool) (I : List Tree → (Nat → Prop) → World → Prop) (t : Tree) (s : List Tree) (S : Nat → Prop) (W : World) (e : Ending) (W' : World) : Prop :=
  ∃ S', e = .returned (.bool ((nodes t).all p)) ∧ I (s ++ upTo p (nodes t)) S' W' ∧ Keeps S W W' ∧ ∀ k, S' k → S k ∨ W.heap.size ≤ k
structure WalkRel (p : Tree → Bool) (I : List Tree → (Nat → Prop) → World → Prop) (t : Tree) (s : List Tree) (S : Nat → Prop) (W : World) (i : Nat) (S' : Nat → Prop) (W' : World) : Prop where
  inv : I (s ++ t :: nodesL ((kidsOf t).take i)) S' W'
  kps : Keeps S W W'
  sub : ∀ k, S' k → S k ∨ W.heap.size ≤ k
  all : (t :: nodesL ((kidsOf t).take i)).all p = true
set_option maxHeartbeats 2000000 in
set_option maxRecDepth 100000 in
theorem walkE (g : Nat) (lb : Array Value) (w0 : World) (p : Tree → Bool) (N : Nat) (I : List Tree → (Nat → Prop) → World → Prop) (eg : ∀ args w, (callFunc g args).run Tryd.prog w = .ok (.enter g args) w) (hF : NodeFn g lb w0 p N I) :
    ∀ (m : Nat) (t : Tree) (v : Value) (s : List Tree) (S : Nat → Prop) (W : World), (nodes t).length ≤ m → I s S W → Rd AnyB w0 (.sl (t.kids.map Tree.d)) [v] → s.length + (nodes t).length ≤ N →
      Calls Tryd.prog 58 #[.agg #[.int .i64 t.rule, .int .i64 t.term, v], .func (.func g) #[] lb] W (WalkPost p I t s S W) := by
  intro m
  induction m with
  | zero => intro t v s S W hm; have := nodes_pos t; omega
  | succ m ih =>
  intro t v s S W hm hI hv hN
  obtain ⟨a, cap, rfl, hc1, hc2⟩ := hv.form
  have HV := Lib.hid hv
  have HI := Lib.hid hI
  have HF := Lib.hid hF
  have IH := Lib.hid ih
  have HM := Lib.hid hm
  have HN := Lib.hid hN
  have hn0 := nodes_pos t
  have hsl : s.length < N := by omega
  clear hv hI hF ih hc1 hc2 hm hN hn0
  obtain ⟨r, HRr⟩ := nameIt t.rule
  obtain ⟨tm, HRt⟩ := nameIt t.term
  obtain ⟨nk, HRn⟩ := nameIt (t.kids.map Tree.d).length
  have hk := fun W => kidsE w0 t _ W HV.out
  have hcall := fun W h => HF.out.call s S W t _ h HV.out hsl
  rw [HRr.out, HRt.out, HRn.out] at hk hcall
  rw [HRr.out, HRt.out, HRn.out]
  have HK := Lib.hid hk
  have HC := Lib.hid hcall
  clear hk hcall
  go_enter Tryd.func58, Tryd.ntmps58
  go_wp2_with fail
  refine (HC.out _ (HF.out.keep HI.out ((Below.refl _ _).alloc (Nat.le_refl _) _))).mono ?_
  rintro e W1 ⟨S1, rfl, hI1, hk1, hs1⟩
  have hx := hk1.cells (bx_new W _ W.heap.size rfl) (fun h => by have := (HF.out.own HI.out _ h).2; omega)
  have HI1 := Lib.hid hI1
  have HK1 : Hid (Keeps S W W1) := (Below.keeps (S := S) ((Below.refl W.heap.size W).alloc (Nat.le_refl _) (.cells #[.int .i64 r, .int .i64 tm, .slice a nk cap] 32))).trans hk1 (fun k h => .inl h)
  have HS1 : Hid (∀ k, S1 k → S k ∨ W.heap.size ≤ k) := fun k h => (hs1 k h).elim .inl (fun h => .inr (by simp at h; omega))
  obtain ⟨x0, x1, x2⟩ := bx_cells3 hx
  clear hI1 hk1 hs1 hx
  cases hp : p t with
  | false =>
    have HP := Lib.hid hp
    clear hp
    go_wp2
    go_ret
    refine ⟨S1, ?_, ?_, HK1.out, HS1.out⟩
    · rw [nodes_eq, List.all_cons, HP.out]; rfl
    · rw [nodes_eq, upTo, HP.out, if_neg (by decide)]; exact HI1.out
  | true =>
    have HP := Lib.hid hp
    clear hp
    go_wp2_with fail
    refine (HK.out W1).mono ?_
    rintro e W2 ⟨ak, ck, rfl, hrk, hb2⟩
    have HRK := Lib.hid hrk
    have HR : Hid (WalkRel p I t s S W 0 S1 W2) := ⟨by simpa [nodesL] using HF.out.keep HI1.out hb2, HK1.out.trans (Below.keeps (S := S1) hb2) HS1.out, HS1.out, by simpa [nodesL] using HP.out⟩
    obtain ⟨K, HKN⟩ := nameIt (kidsOf t)
    have hkl := hrk.bounds
    rw [HKN.out] at hkl
    rw [HKN.out] at HRK
    rw [HKN.out]
    unfold maxLen at hkl
    obtain ⟨-, hkl1, hkl2⟩ := hkl
    clear hrk hb2 x0 x1 x2 HI1 HK1 HS1 HK HC HI HRn
    go_wp2_with fail
    go_loopg [14] K.length (fun gg v14 wr => ∃ (i : Nat) (S' : Nat → Prop), i ≤ K.length ∧ K.length - i ≤ gg ∧ v14 = .int .i64 i ∧ Hid (WalkRel p I t s S W i S' wr))
    case atStart => exact ⟨0, S1, by omega, by omega, rfl, HR⟩
    case round =>
      clear HR
      obtain ⟨i, S', hi, hg, rfl, HR⟩ := hrel
      by_cases hlt : i < K.length
      · have hlt' : (i : Int) < (K.length : Int) := by omega
        obtain ⟨b, off, v, hae, -, hbl, c0, c1, c2, hkid⟩ := HRK.out.kid hlt
        obtain ⟨av, cv, rfl, -, -⟩ := hkid.form
        obtain ⟨nv, HNV⟩ := nameIt (K[i].kids.map Tree.d).length
        rw [HNV.out] at c2 hkid
        have hbel := HF.out.below HR.out.inv
        have e0 := (hbel.cell (p := ⟨b, off + i * 3, none⟩) hbl).trans c0
        have e1 := (hbel.cell (p := ⟨b, off + i * 3 + 1, none⟩) hbl).trans c1
        have e2 := (hbel.cell (p := ⟨b, off + i * 3 + 2, none⟩) hbl).trans c2
        have hme : (nodes K[i]).length ≤ m := by
          have h1 := HM.out
          rw [nodes_eq, HKN.out] at h1
          have h2 := nodesL_kid hlt
          simp at h1; omega
        have hne : (s ++ t :: nodesL (K.take i)).length + (nodes K[i]).length ≤ N := by
          have h1 := HN.out
          rw [nodes_eq, HKN.out] at h1
          have h2 := nodesL_kid hlt
          simp at h1 ⊢; omega
        have hinv := HR.out.inv
        rw [HKN.out] at hinv
        have hih := IH.out K[i] _ _ S' _ hme (HF.out.keep hinv ((Below.refl _ _).alloc (Nat.le_refl _) (.cells #[.int .i64 K[i].rule, .int .i64 K[i].term, .slice av nv cv] 32))) hkid hne
        obtain ⟨q0, HQ0⟩ := nameIt K[i].rule
        obtain ⟨q1, HQ1⟩ := nameIt K[i].term
        rw [HQ0.out] at e0 hih
        rw [HQ1.out] at e1 hih
        have HIH := Lib.hid hih
        subst hae
        clear hbel c0 c1 c2 hme hne hinv hih hkid
        go_wp2_with fail
        refine HIH.out.mono ?_
        rintro e W3 ⟨S3, rfl, hI3, hk3, hs3⟩
        have HI3 := Lib.hid hI3
        have hbb := (Below.refl wr.heap.size wr).alloc (Nat.le_refl _) (.cells #[.int .i64 q0,   .int .i64 q1, .slice av nv cv] 32)
        have HK3 : Hid (Keeps S W W3) := (HR.out.kps.trans (Below.keeps (S := S') hbb) HR.out.sub).trans hk3 HR.out.sub
        have HS3 : Hid (∀ k, S3 k → S k ∨ W.heap.size ≤ k) := fun k h => (hs3 k h).elim (HR.out.sub k) (fun h => .inr (by have := HR.out.kps.size; simp at h; omega))
        clear hI3 hk3 hs3 hbb HIH e0 e1 e2
        cases hp : (nodes K[i]).all p with
        | false =>
          have HP' := Lib.hid hp
          clear hp
          go_wp2
          go_ret
          have h1 := HR.out.all
          rw [HKN.out] at h1
          have h2 : nodes t = (t :: nodesL (K.take i)) ++ (nodes K[i] ++ nodesL (K.drop (i + 1))) := by rw [nodes_eq, HKN.out, nodesL_split hlt]; rfl
          refine ⟨S3, ?_, ?_, HK3.out, HS3.out⟩
          · rw [h2, List.all_append, List.all_append, HP'.out]; simp
          · rw [h2, upTo_append h1, upTo_stop HP'.out]
            have := HI3.out
            simpa using this
        | true =>
          have HR' : Hid (WalkRel p I t s S W (i + 1) S3 W3) := by
            refine ⟨?_, HK3.out, HS3.out, ?_⟩
            · rw [HKN.out, nodesL_take hlt]
              have := HI3.out
              rw [upTo_all hp] at this
              simpa using this
            · have h1 := HR.out.all
              rw [HKN.out] at h1
              rw [HKN.out, nodesL_take hlt]
              rw [← List.cons_append, List.all_append, h1, hp]; rfl
          clear hp
          go_wp2
          go_roundg (K.length - (i + 1))
          case measure => omega
          case rel => exact ⟨i + 1, S3, by omega, by omega, by go_num, HR'⟩
      · have hlt' : ¬ (i : Int) < (K.length : Int) := by omega
        go_wp2
        go_ret
        have h1 := HR.out.all
        have h3 := HR.out.inv
        rw [HKN.out, List.take_of_length_le (by omega)] at h1 h3
        have h2 : nodes t = t :: nodesL K := by rw [nodes_eq, HKN.out]
        refine ⟨S', ?_, ?_, HR.out.kps, HR.out.sub⟩
        · rw [h2, h1]; rfl
        · rw [h2, upTo_all h1]; exact h3
end Go.Proofs.YtgcfpbjifjklbaaDoor
namespace Go.Proofs.YtgcfpbjifjklbaaDoor
open Go.RowKit
theorem treeBox {w0 : World} {t : Tree} {v : Value} (hv : Rd AnyB w0 (.sl (t.kids.map Tree.d)) [v]) : ∃ a n cap, v = .slice a n cap := by
  obtain ⟨a, cap, rfl, _⟩ := hv.form; exact ⟨a, _, cap, rfl⟩
def SizeI (w0 : World) (nb : Nat) (s : List Tree) (S : Nat → Prop) (W : World) : Prop :=
  Below w0.heap.size w0 W ∧ w0.heap.size ≤ nb ∧ W.heap[nb]? = some (.cells #[.int .i64 s.length] 3 (0, 0)) ∧ ∀ k, S k ↔ k = nb
set_option maxHeartbeats 400000 in
theorem sizeF (w0 : World) (nb N : Nat) (hN : N ≤ 4611686018427387904) : NodeFn 76 #[.pointer (some ⟨nb, 0, none⟩)] w0 (fun _ => true) N (SizeI w0 nb) where
  below := fun h => h.1
  own := fun {s S W} h k hk => by
    obtain ⟨h1, h2, h3, h4⟩ := h
    rw [h4] at hk
    subst hk
    exact ⟨h2, (Array.getElem?_eq_some_iff.1 h3).1⟩
  keep := fun {s S W W'} h hb => ⟨h.1.trans (hb.mono h.1.size), h.2.1, bx_keep h.2.2.1 hb, h.2.2.2⟩
  call := by
    intro s S W t v h hv hs
    obtain ⟨a, n, cap, rfl⟩ := treeBox hv
    obtain ⟨h1, h2, h3, h4⟩ := h
    have H1 := Lib.hid h1
    have H3 := Lib.hid h3
    have H4 := Lib.hid h4
    have c0 := bx_cells1 h3
    have f0 := bx_free1 h3
    have hlt := (Array.getElem?_eq_some_iff.1 h3).1
    obtain ⟨m, HM⟩ := nameIt s.length
    rw [HM.out] at c0 hs
    clear h1 h3 h4 hv
    go_enter Tryd.func76, Tryd.ntmps76
    go_wp2
    go_ret
    obtain ⟨W', HW⟩ := nameIt (W.setCell ⟨nb, 0, none⟩ (.int .i64 (m + 1)))
    rw [HW.out]
    have hb := (Below.refl W'.heap.size W').alloc (Nat.le_refl _) (.cells #[.int .i64 t.rule, .int .i64 t.term, .slice a n cap] 32)
    have h3 := bx_set H3.out 0 (.int .i64 (m + 1))
    have h1 := H1.out.setCell (p := ⟨nb, 0, none⟩) h2 (.int .i64 (m + 1))
    rw [HW.out] at h3 h1
    refine ⟨S, rfl, ⟨h1.trans (hb.mono h1.size), h2, ?_, H4.out⟩, ?_, fun k h => .inl h⟩
    · rw [bx_keep h3 hb]; simp [HM.out]
    · have hk : Keeps S W W' := by
        rw [← HW.out]
        exact ⟨rfl, rfl, rfl, by simp [World.setCell], fun k hk hn => Below.heap_setCell _ _ _ _ (fun e => hn ((H4.out k).2 e))⟩
      exact hk.trans (Below.keeps (S := S) hb) (fun k h => .inl h)
set_option maxHeartbeats 400000 in
theorem sizeE (t : Tree) (v : Value) (w : World) (hv : Rd AnyB w (.sl (t.kids.map Tree.d)) [v]) (hN : (nodes t).length ≤ 4611686018427387904) :
    Calls Tryd.prog 56 #[.agg #[.int .i64 t.rule, .int .i64 t.term, v]] w fun e w' => e = .returned (.int .i64 (nodes t).length) ∧ Below w.heap.size w w' := by
  obtain ⟨a, n, cap, rfl⟩ := treeBox hv
  have HV := Lib.hid hv
  have hI : SizeI w (w.heap.size + 1) [] (fun k => k = w.heap.size + 1) ((w.alloc (.cells #[.int .i64 t.rule, .int .i64 t.term, .slice a n cap] 32)).alloc (.cells #[.int .i64 0] 3)) :=
    ⟨((Below.refl _ _).alloc (Nat.le_refl _) _).alloc (by simp) _, by omega, bx_new _ _ _ (by simp), fun _ => Iff.rfl⟩
  have hw := walkE 76 #[.pointer (some ⟨w.heap.size + 1, 0, none⟩)] w (fun _ => true) (nodes t).length _ (fun _ _ => by kernel_rfl) (sizeF w (w.heap.size + 1) (nodes t).length hN) (nodes t).length t _ [] _ _ (Nat.le_refl _) hI hv (by simp)
  have HW := Lib.hid hw
  clear hw hI hv hN
  go_enter Tryd.func56, Tryd.ntmps56
  go_wp2_with fail
  refine HW.out.mono ?_
  rintro e w1 ⟨S', rfl, ⟨h1, h2, h3, h4⟩, h5, h6⟩
  rw [upTo_all (by simp)] at h3
  simp only [List.nil_append] at h3
  have c0 := bx_cells1 h3
  have HB := Lib.hid h1
  clear h1 h2 h3 h4 h5 h6
  go_wp2
  go_ret
  exact ⟨rfl, HB.out⟩
end Go.Proofs.YtgcfpbjifjklbaaDoor
namespace Go.Proofs.YtgcfpbjifjklbaaDoor
open Go.RowKit
set_option maxHeartbeats 1000000 in
set_option maxRecDepth 100000 in
theorem rootE (g : Gram) (ar : Option Addr) (cr : Nat) (t : Tree) (at' : Option Addr) (nt ct : Nat) (w : World) (hr : Rd AnyB w (.sl (g.rules.map Rule.d)) [.slice ar g.rules.length cr]) :
    Calls Tryd.prog 80 #[.agg #[.int .i64 g.terms, .int .i64 g.nons, .int .i64 g.start, .slice ar g.rules.length cr], .agg #[.int .i64 t.rule, .int .i64 t.term, .slice at' nt ct]] w fun e w' =>
      e = .returned (.agg #[.bool (rootS g t).term, .int .i64 (rootS g t).n]) ∧ Below w.heap.size w w' := by
  have hbs := hr.bounds.2
  unfold maxLen at hbs
  obtain ⟨hc1, hc2⟩ := hbs
  obtain ⟨gt, HGT⟩ := nameIt g.terms
  obtain ⟨gn, HGN⟩ := nameIt g.nons
  obtain ⟨gs, HGS⟩ := nameIt g.start
  obtain ⟨K, HK⟩ := nameIt g.rules
  obtain ⟨r, HRr⟩ := nameIt t.rule
  obtain ⟨tm, HRt⟩ := nameIt t.term
  obtain ⟨S, HS⟩ := nameIt (rootS g t)
  have HSV : Hid (S = if r < 0 then ⟨true, tm⟩ else match K[r.toNat]? with | some x => ⟨false, x.left⟩ | none => ⟨true, tm⟩) := by
    show _ = _; rw [← HS.out]; unfold rootS; rw [HRr.out, HRt.out, HK.out]; try rfl
  have HR := Lib.hid hr
  rw [HK.out] at HR hc1
  rw [HGT.out, HGN.out, HGS.out, HK.out, HRr.out, HRt.out, HS.out]
  have hB : Below w.heap.size w (((w.alloc (.cells #[.int .i64 gt, .int .i64 gn, .int .i64 gs, .slice ar K.length cr] 24)).alloc (.cells #[.int .i64 r, .int .i64 tm, .slice at' nt ct] 32)).alloc (.cells #[.bool S.term, .int .i64 S.n] 60)) := (((Below.refl _ _).alloc (Nat.le_refl _) _).alloc (by simp) _).alloc (by first | (simp; done) | (simp; omega)) _
  have HB := Lib.hid hB
  clear hr hB
  by_cases h0 : r < 0
  · obtain rfl : S = ⟨true, tm⟩ := by rw [HSV.out, if_pos h0]
    have b0 : decide (r < 0) = true := by simpa using h0
    clear h0
    go_enter Tryd.func80, Tryd.ntmps80
    go_wp2_with fail
    exact bodyPost_ret (v := .agg #[.bool true, .int .i64 tm]) (by simp [results, Tryd.results80, go_sem]) rfl ⟨rfl, HB.out⟩
  · obtain ⟨j, rfl⟩ := Int.eq_ofNat_of_zero_le (show 0 ≤ r by omega)
    have b0 : decide ((j : Int) < 0) = false := by simp
    by_cases h1 : j < K.length
    · have b1 : decide ((K.length : Int) ≤ (j : Int)) = false := by simp; omega
      have b1' : decide (K.length ≤ j) = false := by simp; omega
      have h1' : (j : Int) < (K.length : Int) := by omega
      obtain ⟨b, off, vr, hae, -, hbl, c0, -, -⟩ := HR.out.rule_at h1
      have hS : S = ⟨false, K[j].left⟩ := by rw [HSV.out, if_neg h0]; simp [h1]
      obtain ⟨lf, HLF⟩ := nameIt (K[j]'h1).left
      rw [HLF.out] at c0 hS
      subst hS
      subst hae
      clear h0
      have hbl1 : b < w.heap.size + 1 := by omega
      have hbl2 : b < w.heap.size + 1 + 1 := by omega
      have hn0 : ¬ b = w.heap.size := by omega
      have hn1 : ¬ b = w.heap.size + 1 := by omega
      have hn2 : ¬ b = w.heap.size + 1 + 1 := by omega
      go_enter Tryd.func80, Tryd.ntmps80
      go_wp2_with fail
      exact bodyPost_ret (v := .agg #[.bool false, .int .i64 lf]) (by simp [results, Tryd.results80, go_sem]) rfl ⟨rfl, HB.out⟩
    · have b1 : decide ((K.length : Int) ≤ (j : Int)) = true := by simp; omega
      have b1' : decide (K.length ≤ j) = true := by simp; omega
      obtain rfl : S = ⟨true, tm⟩ := by rw [HSV.out, if_neg h0]; simp [show K.length ≤ j by omega]
      clear h0
      go_enter Tryd.func80, Tryd.ntmps80
      go_wp2_with fail
      exact bodyPost_ret (v := .agg #[.bool true, .int .i64 tm]) (by simp [results, Tryd.results80, go_sem]) rfl ⟨rfl, HB.out⟩
theorem symEq (a c : Bool) (b d : Int) (w : World) : (binOp .eql 60 (.agg #[.bool a, .int .i64 b]) (.agg #[.bool c, .int .i64 d])).run Tryd.prog w = .ok (.bool (a == c && b == d)) w := by
  have h1 : Tryd.prog.underlying 60 = some (.struct (Tryd.prog.fieldsOf 60)) := by kernel_rfl
  have h2 : Tryd.prog.stoodInHeld 60 = false := by kernel_rfl
  have h3 := Tryd.underlying60
  have h4 := Tryd.underlying4
  have h5 := Tryd.underlying3
  rw [run_eql_struct, run_equalIn_agg (d := 9999) _ _ _ _ h1 h2]
  simp only [Program.fieldsOf, h3]
  cases hac : (a == c) <;> by_cases hbd : b = d <;> simp [Op.eqFields, go_sem, h4, h5, hac, hbd]
theorem cells9 {W w' : World} (hb : Below W.heap.size W w') {b1 b2 b3 : Nat} {T1 T2 T3 : TypeId} {a0 a1 a2 a3 c0 c1 c2 d0 d1 : Value} (h1 : W.heap[b1]? = some (.cells #[a0, a1, a2, a3] T1 (0, 0))) (h2 : W.heap[b2]? = some (.cells #[c0, c1, c2] T2 (0, 0))) (h3 : W.heap[b3]? = some (.cells #[d0, d1] T3 (0, 0))) :
    w'.cell? ⟨b1, 0, none⟩ = some a0 ∧ w'.cell? ⟨b1, 0 + 1, none⟩ = some a1 ∧ w'.cell? ⟨b1, 0 + 2, none⟩ = some a2 ∧ w'.cell? ⟨b1, 0 + 3, none⟩ = some a3 ∧ w'.cell? ⟨b2, 0, none⟩ = some c0 ∧ w'.cell? ⟨b2, 0 + 1, none⟩ = some c1 ∧ w'.cell? ⟨b2, 0 + 2, none⟩ = some c2 ∧ w'.cell? ⟨b3, 0, none⟩ = some d0 ∧ w'.cell? ⟨b3, 0 + 1, none⟩ = some d1 := by
  obtain ⟨x1, x2, x3, x4⟩ := bx_cells4 (bx_keep h1 hb)
  obtain ⟨y1, y2, y3⟩ := bx_cells3 (bx_keep h2 hb)
  obtain ⟨z1, z2⟩ := bx_cells2 (bx_keep h3 hb)
  exact ⟨x1, x2, x3, x4, y1, y2, y3, z1, z2⟩
set_option maxHeartbeats 2000000 in
set_option maxRecDepth 100000 in
theorem kidOkE (g : Gram) (b : Nat) (ar : Option Addr) (cr : Nat) (k : Tree) (ak : Option Addr) (nk ck : Nat) (s : Sym) (w : World) (hx : w.heap[b]? = some (.cells #[.int .i64 g.terms, .int .i64 g.nons, .int .i64 g.start, .slice ar g.rules.length cr] 24 (0, 0)))
    (hr : Rd AnyB w (.sl (g.rules.map Rule.d)) [.slice ar g.rules.length cr]) :
    Calls Tryd.prog 79 #[.agg #[.int .i64 k.rule, .int .i64 k.term, .slice ak nk ck], .agg #[.bool s.term, .int .i64 s.n], .pointer (some ⟨b, 0, none⟩)] w fun e w' => e = .returned (.bool (kidOk g k s)) ∧ Below w.heap.size w w' := by
  have hbs := hr.bounds.2
  unfold maxLen at hbs
  obtain ⟨hc1, hc2⟩ := hbs
  obtain ⟨w0, HW0⟩ := nameIt ((w.alloc (.cells #[.int .i64 k.rule, .int .i64 k.term, .slice ak nk ck] 32)).alloc (.cells #[.bool s.term, .int .i64 s.n] 60))
  have hb0 : Below w.heap.size w w0 := by rw [← HW0.out]; exact ((Below.refl _ _).alloc (Nat.le_refl _) _).alloc (by simp) _
  have X1 := Lib.hid (bx_keep hx hb0)
  have X3 : Hid (w0.heap[w.heap.size]? = some (.cells #[.int .i64 k.rule, .int .i64 k.term, .slice ak nk ck] 32 (0, 0))) := by
    rw [← HW0.out]; exact bx_keep (bx_new _ _ _ rfl) ((Below.refl _ _).alloc (Nat.le_refl _) _)
  have X4 : Hid (w0.heap[w.heap.size + 1]? = some (.cells #[.bool s.term, .int .i64 s.n] 60 (0, 0))) := by
    rw [← HW0.out]; exact bx_new _ _ _ (by simp)
  have CR := Lib.hid (fun W (hb : Below w0.heap.size w0 W) => rootE g ar cr k ak nk ck W ((hr.below hb0).below hb))
  have HB0 := Lib.hid hb0
  obtain ⟨B, HBn⟩ := nameIt (kidOk g k s)
  have HBV : Hid (B = (decide (-1 ≤ k.rule) && (decide (k.rule < g.rules.length) && decide (rootS g k = s)))) := by show _ = _; rw [← HBn.out]; rfl
  obtain ⟨gt, HGT⟩ := nameIt g.terms
  obtain ⟨gn, HGN⟩ := nameIt g.nons
  obtain ⟨gs, HGS⟩ := nameIt g.start
  obtain ⟨n, HKn⟩ := nameIt g.rules.length
  obtain ⟨r, HRr⟩ := nameIt k.rule
  obtain ⟨tm, HRt⟩ := nameIt k.term
  obtain ⟨S, HS⟩ := nameIt (rootS g k)
  obtain ⟨s0, HS0⟩ := nameIt s.term
  obtain ⟨s1, HS1⟩ := nameIt s.n
  rw [HGT.out, HGN.out, HGS.out, HKn.out] at X1
  rw [HRr.out, HRt.out] at X3 HW0
  rw [HS0.out, HS1.out] at X4 HW0
  rw [HGT.out, HGN.out, HGS.out, HKn.out, HRr.out, HRt.out, HS.out] at CR
  rw [HRr.out, HKn.out, HS.out] at HBV
  rw [HKn.out] at hc1
  rw [HRr.out, HRt.out, HS0.out, HS1.out, HBn.out]
  have hk0 := cells9 (Below.refl w0.heap.size w0) X1.out X3.out X4.out
  obtain ⟨x0, x1, x2, x3, y0, y1, y2, z0, z1⟩ := hk0
  clear hx hr hb0
  go_enter Tryd.func79, Tryd.ntmps79
  go_wp2_with fail
  rw [HW0.out]
  by_cases h0 : -1 ≤ r
  · have b0 : decide (-1 ≤ r) = true := by simpa using h0
    by_cases h1 : r < n
    · have b1 : decide (r < (n : Int)) = true := by simpa using h1
      have HBV2 : Hid (B = decide (S = s)) := by show _ = _; rw [HBV.out, b0, b1]; rfl
      obtain ⟨S0, HSS0⟩ := nameIt S.term
      obtain ⟨S1, HSS1⟩ := nameIt S.n
      rw [HSS0.out, HSS1.out] at CR
      have HBV3 : Hid (B = (S0 == s0 && S1 == s1)) := by
        show _ = _
        rw [HBV2.out, ← HSS0.out, ← HSS1.out, ← HS0.out, ← HS1.out, Bool.eq_iff_iff]
        cases S; cases s; simp
      have heq := symEq S0 s0 S1 s1
      have heg : Tryd.prog.eqGuardType Tryd.prog.depth 60 = false := by kernel_rfl
      clear h0 h1
      go_region_held3 (fun w' => w'.cell? ⟨b, 0, none⟩ = some (.int .i64 gt) ∧ w'.cell? ⟨b, 0 + 1, none⟩ = some (.int .i64 gn) ∧ w'.cell? ⟨b, 0 + 2, none⟩ = some (.int .i64 gs) ∧ w'.cell? ⟨b, 0 + 3, none⟩ = some (.slice ar n cr) ∧ w'.cell? ⟨w.heap.size, 0, none⟩ = some (.int .i64 r) ∧ w'.cell? ⟨w.heap.size, 0 + 1, none⟩ = some (.int .i64 tm) ∧ w'.cell? ⟨w.heap.size, 0 + 2, none⟩ = some (.slice ak nk ck) ∧ w'.cell? ⟨w.heap.size + 1, 0, none⟩ = some (.bool s0) ∧ w'.cell? ⟨w.heap.size + 1, 0 + 1, none⟩ = some (.int .i64 s1))
        (first | exact cells9 (Below.refl _ _).drew X1.out X3.out X4.out | exact cells9 HB1.out X1.out X3.out X4.out | fail)
        (first
          | (go_at_call 80; (with_reducible refine (CR.out _ (Below.refl _ _).drew).mono ?_); rintro e w1 ⟨rfl, hb1⟩; have HB1 : Hid (Below w0.heap.size w0 w1) := (Below.refl _ _).drew.trans hb1; clear hb1)
          | fail)
      go_wp2_with fail
      go_ret
      exact ⟨by rw [HBV3.out]; rfl, HB0.out.trans (HB1.out.mono HB0.out.size)⟩
    · have b1 : decide (r < (n : Int)) = false := by simpa using h1
      obtain rfl : B = false := by rw [HBV.out, b1]; simp
      clear h0 h1
      go_quiet (fail)
      go_wp2_with fail
      go_ret
      exact ⟨rfl, HB0.out.trans ((below_drewN _ _).mono HB0.out.size)⟩
  · have b0 : decide (-1 ≤ r) = false := by simpa using h0
    obtain rfl : B = false := by rw [HBV.out, b0]; simp
    clear h0
    go_quiet (fail)
    go_wp2_with fail
    go_ret
    exact ⟨rfl, HB0.out.trans ((below_drewN _ _).mono HB0.out.size)⟩
end Go.Proofs.YtgcfpbjifjklbaaDoor
namespace Go.Proofs.YtgcfpbjifjklbaaDoor
open Go.RowKit
def PairAt (g : Nat) (lb : Array Value) (p : Tree → Sym → Bool) (w : World) : Prop :=
  ∀ (W : World) (k : Tree) (v : Value) (s : Sym), Below w.heap.size w W → Rd AnyB W (.sl (k.kids.map Tree.d)) [v] → Calls Tryd.prog g (#[.agg #[.int .i64 k.rule, .int .i64 k.term, v], .agg #[.bool s.term, .int .i64 s.n]] ++ lb) W fun e w' => e = .returned (.bool (p k s)) ∧ Below W.heap.size W w'
def eqAll (p : Tree → Sym → Bool) (ks : List Tree) (l : List Sym) : Bool := decide (ks.length = l.length) && (List.zip ks l).all fun x => p x.1 x.2
theorem eqAll_ne {p : Tree → Sym → Bool} {ks : List Tree} {l : List Sym} (h : ks.length ≠ l.length) : eqAll p ks l = false := by simp [eqAll, h]
theorem eqAll_bad {p : Tree → Sym → Bool} {ks : List Tree} {l : List Sym} {i : Nat} (h : i < ks.length) (h2 : i < l.length) (hp : p ks[i] l[i] = false) : eqAll p ks l = false := by
  unfold eqAll
  rw [Bool.and_eq_false_iff]
  right
  rw [List.all_eq_false]
  exact ⟨(ks[i], l[i]), List.mem_iff_getElem.2 ⟨i, by simp; omega, by simp⟩, by simp [hp]⟩
theorem eqAll_good {p : Tree → Sym → Bool} {ks : List Tree} {l : List Sym} (h : ks.length = l.length) (hp : ∀ i (h1 : i < ks.length) (h2 : i < l.length), p ks[i] l[i] = true) : eqAll p ks l = true := by
  unfold eqAll
  rw [Bool.and_eq_true]
  refine ⟨by simpa using h, List.all_eq_true.2 ?_⟩
  intro x hx
  obtain ⟨i, hi, rfl⟩ := List.mem_iff_getElem.1 hx
  simp at hi
  simpa using hp i (by omega) (by omega)
set_option maxHeartbeats 1000000 in
set_option maxRecDepth 100000 in
theorem equalFuncTS (g : Nat) (lb : Array Value) (p : Tree → Sym → Bool) (a a' : Option Addr) (c c' : Nat) (ks : List Tree) (l : List Sym) (w : World) (eg : ∀ args w, (callFunc g args).run Tryd.prog w = .ok (.enter g args) w) (hf : PairAt g lb p w)
    (hk : Rd AnyB w (.sl (ks.map Tree.d)) [.slice a ks.length c]) (hl : Rd AnyB w (.sl (l.map Sym.d)) [.slice a' l.length c']) :
    Calls Tryd.prog 78 #[.slice a ks.length c, .slice a' l.length c', .func (.func g) #[] lb] w fun e w' => e = .returned (.bool (eqAll p ks l)) ∧ Below w.heap.size w w' := by
  have HK := Lib.hid hk
  have HL := Lib.hid hl
  have HF := Lib.hid hf
  have hc := hk.bounds.2
  have hc' := hl.bounds.2
  unfold maxLen at hc hc'
  obtain ⟨hc1, hc2⟩ := hc
  obtain ⟨hc3, hc4⟩ := hc'
  clear hk hl hf
  by_cases hlen : ks.length = l.length
  · have hlb : ((ks.length : Int) != (l.length : Int)) = false := by simp [hlen]
    have HLEN := Lib.hid hlen
    have hle : ks.length ≤ l.length := by omega
    clear hlen
    go_enter Tryd.func78, Tryd.ntmps78
    go_wp2_with fail
    go_loopg [17] ks.length (fun gg v17 wr => ∃ i : Nat, i ≤ ks.length ∧ ks.length - i ≤ gg ∧ v17 = .int .i64 i ∧ Hid (Below w.heap.size w wr) ∧ Hid (∀ j (h1 : j < ks.length) (h2 : j < l.length), j < i → p ks[j] l[j] = true))
    case atStart => exact ⟨0, by omega, by omega, rfl, Below.refl _ _, fun j _ _ hj => by omega⟩
    case round =>
      obtain ⟨i, hi, hg, rfl, HB, HN⟩ := hrel
      by_cases hlt : i < ks.length
      · have hlt' : (i : Int) < (ks.length : Int) := by omega
        have hlt2 : i < l.length := by omega
        have hlt2' : (i : Int) < (l.length : Int) := by omega
        obtain ⟨b, off, v, hae, -, hbl, c0, c1, c2, hkid⟩ := (HK.out.below HB.out).kid hlt
        obtain ⟨av, cv, rfl, -, -⟩ := hkid.form
        obtain ⟨nv, HNV⟩ := nameIt (ks[i].kids.map Tree.d).length
        rw [HNV.out] at c2 hkid
        obtain ⟨b', off', hae', -, hbl', d0, d1⟩ := (HL.out.below HB.out).sym_at hlt2
        have hcall := fun W (hb : Below wr.heap.size wr W) => HF.out W ks[i] _ l[i] (HB.out.trans (hb.mono HB.out.size)) (hkid.below hb)
        obtain ⟨q0, HQ0⟩ := nameIt (ks[i]'hlt).rule
        obtain ⟨q1, HQ1⟩ := nameIt (ks[i]'hlt).term
        obtain ⟨s0, HS0⟩ := nameIt (l[i]'hlt2).term
        obtain ⟨s1, HS1⟩ := nameIt (l[i]'hlt2).n
        obtain ⟨B, HBn⟩ := nameIt (p (ks[i]'hlt) (l[i]'hlt2))
        rw [HQ0.out] at c0 hcall
        rw [HQ1.out] at c1 hcall
        rw [HS0.out] at d0 hcall
        rw [HS1.out] at d1 hcall
        rw [HBn.out] at hcall
        have hn1 : ¬ b' = wr.heap.size := by omega
        have HC := Lib.hid (hcall _ (((Below.refl wr.heap.size wr).alloc (Nat.le_refl _) (.cells #[.int .i64 q0, .int .i64 q1, .slice av nv cv] 32)).alloc (by simp) (.cells #[.bool s0, .int .i64 s1] 60)))
        have HBB := Lib.hid (HB.out.trans ((((Below.refl wr.heap.size wr).alloc (Nat.le_refl _) (.cells #[.int .i64 q0, .int .i64 q1, .slice av nv cv] 32)).alloc (by simp) (.cells #[.bool s0, .int .i64 s1] 60)).mono HB.out.size))
        subst hae hae'
        clear hkid hcall
        go_wp2_with fail
        refine HC.out.mono ?_
        rintro e w6 ⟨rfl, hb6⟩
        have HB6 := Lib.hid (HBB.out.trans (hb6.mono HBB.out.size))
        clear hb6 c0 c1 c2 d0 d1 HC
        cases B with
        | false =>
          have HE : Hid (eqAll p ks l = false) := eqAll_bad hlt hlt2 HBn.out
          go_wp2_with fail
          go_ret
          exact ⟨by rw [HE.out]; rfl, HB6.out⟩
        | true =>
          have HN2 : Hid (∀ j (h1 : j < ks.length) (h2 : j < l.length), j < i + 1 → p ks[j] l[j] = true) := by
            intro j h1 h2 hj
            by_cases e : j = i
            · subst e; exact HBn.out
            · exact HN.out j h1 h2 (by omega)
          go_wp2_with fail
          go_roundg (ks.length - (i + 1))
          case measure => omega
          case rel => exact ⟨i + 1, by omega, by omega, by go_num, HB6, HN2⟩
      · have hlt' : ¬ (i : Int) < (ks.length : Int) := by omega
        have HE : Hid (eqAll p ks l = true) := eqAll_good HLEN.out fun j h1 h2 => HN.out j h1 h2 (by omega)
        go_wp2_with fail
        go_ret
        exact ⟨by rw [HE.out]; rfl, HB.out⟩
  · have hlb : ((ks.length : Int) != (l.length : Int)) = true := by simp; omega
    have HE : Hid (eqAll p ks l = false) := eqAll_ne hlen
    clear hlen
    go_enter Tryd.func78, Tryd.ntmps78
    go_wp2_with fail
    go_ret
    exact ⟨by rw [HE.out]; rfl, Below.refl _ _⟩
def ValidI (w0 : World) (_ : List Tree) (S : Nat → Prop) (W : World) : Prop := Below w0.heap.size w0 W ∧ ∀ k, ¬ S k
theorem cells7 {W w' : World} (hb : Below W.heap.size W w') {b1 b2 : Nat} {T1 T2 : TypeId} {a0 a1 a2 a3 c0 c1 c2 : Value} (h1 : W.heap[b1]? = some (.cells #[a0, a1, a2, a3] T1 (0, 0))) (h2 : W.heap[b2]? = some (.cells #[c0, c1, c2] T2 (0, 0))) :
    w'.cell? ⟨b1, 0, none⟩ = some a0 ∧ w'.cell? ⟨b1, 0 + 1, none⟩ = some a1 ∧ w'.cell? ⟨b1, 0 + 2, none⟩ = some a2 ∧ w'.cell? ⟨b1, 0 + 3, none⟩ = some a3 ∧ w'.cell? ⟨b2, 0, none⟩ = some c0 ∧ w'.cell? ⟨b2, 0 + 1, none⟩ = some c1 ∧ w'.cell? ⟨b2, 0 + 2, none⟩ = some c2 := by
  obtain ⟨x1, x2, x3, x4⟩ := bx_cells4 (bx_keep h1 hb)
  obtain ⟨y1, y2, y3⟩ := bx_cells3 (bx_keep h2 hb)
  exact ⟨x1, x2, x3, x4, y1, y2, y3⟩
end Go.Proofs.YtgcfpbjifjklbaaDoor
namespace Go.Proofs.YtgcfpbjifjklbaaDoor
open Go.RowKit
theorem cells8 {W w' : World} (hb : Below W.heap.size W w') {b1 b2 b3 o3 : Nat} {T1 T2 : TypeId} {a0 a1 a2 a3 c0 c1 c2 d : Value} (h1 : W.heap[b1]? = some (.cells #[a0, a1, a2, a3] T1 (0, 0))) (h2 : W.heap[b2]? = some (.cells #[c0, c1, c2] T2 (0, 0))) (h3 : W.cell? ⟨b3, o3, none⟩ = some d) :
    w'.cell? ⟨b1, 0, none⟩ = some a0 ∧ w'.cell? ⟨b1, 0 + 1, none⟩ = some a1 ∧ w'.cell? ⟨b1, 0 + 2, none⟩ = some a2 ∧ w'.cell? ⟨b1, 0 + 3, none⟩ = some a3 ∧ w'.cell? ⟨b2, 0, none⟩ = some c0 ∧ w'.cell? ⟨b2, 0 + 1, none⟩ = some c1 ∧ w'.cell? ⟨b2, 0 + 2, none⟩ = some c2 ∧ w'.cell? ⟨b3, o3, none⟩ = some d := by
  obtain ⟨x1, x2, x3, x4, y1, y2, y3⟩ := cells7 hb h1 h2
  exact ⟨x1, x2, x3, x4, y1, y2, y3, (hb.cell (p := ⟨b3, o3, none⟩) (lt_of_cell h3)).trans h3⟩
set_option maxHeartbeats 4000000 in
set_option maxRecDepth 100000 in
theorem nodeOkE (g : Gram) (b : Nat) (ar : Option Addr) (cr : Nat) (t : Tree) (ak : Option Addr) (ck : Nat) (w : World) (hx : w.heap[b]? = some (.cells #[.int .i64 g.terms, .int .i64 g.nons, .int .i64 g.start, .slice ar g.rules.length cr] 24 (0, 0)))
    (hr : Rd AnyB w (.sl (g.rules.map Rule.d)) [.slice ar g.rules.length cr]) (hk : Rd AnyB w (.sl (t.kids.map Tree.d)) [.slice ak t.kids.length ck]) :
    Calls Tryd.prog 77 #[.agg #[.int .i64 t.rule, .int .i64 t.term, .slice ak t.kids.length ck], .pointer (some ⟨b, 0, none⟩)] w fun e w' => e = .returned (.bool (nodeOk g t)) ∧ Below w.heap.size w w' := by
  have hbs := hr.bounds.2
  have hbk := hk.bounds.2
  unfold maxLen at hbs hbk
  obtain ⟨hc1, hc2⟩ := hbs
  obtain ⟨hc3, hc4⟩ := hbk
  obtain ⟨w0, HW0⟩ := nameIt (w.alloc (.cells #[.int .i64 t.rule, .int .i64 t.term, .slice ak t.kids.length ck] 32))
  have hb0 : Below w.heap.size w w0 := by rw [← HW0.out]; exact (Below.refl _ _).alloc (Nat.le_refl _) _
  have X1 := Lib.hid (bx_keep hx hb0)
  have X2 : Hid (w0.heap[w.heap.size]? = some (.cells #[.int .i64 t.rule, .int .i64 t.term, .slice ak t.kids.length ck] 32 (0, 0))) := by
    rw [← HW0.out]; exact bx_new _ _ _ rfl
  have HX1 := X1
  have HR := Lib.hid (hr.below hb0)
  have HKD := Lib.hid (hk.below hb0)
  have HB0 := Lib.hid hb0
  have PA : Hid (∀ W, Below w0.heap.size w0 W → PairAt 79 #[.pointer (some ⟨b, 0, none⟩)] (kidOk g) W) := by
    intro W hb W' k v s hb' hv
    obtain ⟨a, n, c, rfl⟩ := treeBox hv
    have hbb := hb.trans (hb'.mono hb.size)
    exact kidOkE g b ar cr k a n c s W' (bx_keep HX1.out hbb) (HR.out.below hbb)
  obtain ⟨B, HBn⟩ := nameIt (nodeOk g t)
  have HBV : Hid (nodeOk g t = B) := HBn
  obtain ⟨gt, HGT⟩ := nameIt g.terms
  obtain ⟨gn, HGN⟩ := nameIt g.nons
  obtain ⟨gs, HGS⟩ := nameIt g.start
  obtain ⟨R, HRn⟩ := nameIt g.rules
  obtain ⟨r, HRr⟩ := nameIt t.rule
  obtain ⟨tm, HRt⟩ := nameIt t.term
  obtain ⟨K, HKn⟩ := nameIt t.kids
  rw [HGT.out, HGN.out, HGS.out, HRn.out] at X1
  rw [HRr.out, HRt.out, HKn.out] at X2 HW0
  rw [HKn.out] at HKD hc3
  rw [HRn.out] at HR hc1
  unfold nodeOk at HBV
  rw [HRr.out, HRt.out, HKn.out, HGT.out, HRn.out] at HBV
  rw [HRr.out, HRt.out, HKn.out, HBn.out]
  obtain ⟨x0, x1, x2, x3, y0, y1, y2⟩ := cells7 (Below.refl w0.heap.size w0) X1.out X2.out
  clear hx hr hk hb0
  go_enter Tryd.func77, Tryd.ntmps77
  go_upto_region 1 with fail
  rw [HW0.out]
  by_cases h0 : r = -1
  · have hv := HBV.out
    rw [if_pos h0] at hv
    have hrb : (r == -1) = true := by simpa using h0
    clear h0
    by_cases h1 : 0 ≤ tm
    · have b1 : decide (0 ≤ tm) = true := by simpa using h1
      by_cases h2 : tm < gt
      · have b2 : decide (tm < gt) = true := by simpa using h2
        have HE : Hid (B = ((K.length : Int) == 0)) := by show _ = _; rw [← hv, b1, b2, Bool.eq_iff_iff]; simp
        clear hv
        go_wp2_with fail
        go_ret
        exact ⟨by rw [HE.out]; rfl, HB0.out⟩
      · have b2 : decide (tm < gt) = false := by simpa using h2
        obtain rfl : B = false := by rw [← hv, b2]; simp
        clear hv
        go_wp2_with fail
        go_ret
        exact ⟨rfl, HB0.out⟩
    · have b1 : decide (0 ≤ tm) = false := by simpa using h1
      obtain rfl : B = false := by rw [← hv, b1]; simp
      clear hv
      go_wp2_with fail
      go_ret
      exact ⟨rfl, HB0.out⟩
  · have hv := HBV.out
    rw [if_neg h0] at hv
    have hrb : (r == -1) = false := by simpa using h0
    clear h0
    by_cases h1 : r < 0
    · have b1 : decide (r < 0) = true := by simpa using h1
      obtain rfl : B = false := by rw [← hv, if_pos h1]
      clear hv
      go_wp2_with fail
      go_ret
      exact ⟨rfl, HB0.out⟩
    · rw [if_neg h1] at hv
      obtain ⟨j, rfl⟩ := Int.eq_ofNat_of_zero_le (show 0 ≤ r by omega)
      have b1 : decide ((j : Int) < 0) = false := by simp
      by_cases h2 : j < R.length
      · have b2 : decide (R.length ≤ j) = false := by simp; omega
        have b2' : decide ((R.length : Int) ≤ (j : Int)) = false := by simp; omega
        have h2' : (j : Int) < (R.length : Int) := by omega
        have h2'' : (0 : Int) ≤ (j : Int) := by omega
        rw [show R[(j : Int).toNat]? = some R[j] by simp [h2]] at hv
        by_cases h3 : tm = 0
        · subst h3
          obtain ⟨br, orr, vr, hae, -, hbl, -, e1, hkr⟩ := HR.out.rule_at h2
          obtain ⟨av, cv, rfl, -, -⟩ := hkr.form
          rw [List.length_map] at e1 hkr
          obtain ⟨L, HLn⟩ := nameIt (R[j]'h2).right
          rw [HLn.out] at e1 hkr
          have hv' : (decide ((0 : Int) = 0) && kidsOk g K (R[j]'h2).right) = B := hv
          rw [HLn.out] at hv'
          have HE : Hid (eqAll (kidOk g) K L = B) := by show _ = _; rw [← hv']; simp [kidsOk, eqAll]
          clear hv'
          have CE := Lib.hid (fun W (hb : Below w0.heap.size w0 W) => equalFuncTS 79 #[.pointer (some ⟨b, 0, none⟩)] (kidOk g) ak av ck cv K L W (fun _ _ => by kernel_rfl) (PA.out W hb) (HKD.out.below hb) (hkr.below hb))
          rw [HE.out] at CE
          have E1 := Lib.hid e1
          subst hae
          clear hv hkr
          go_upto_region 5 with fail
          go_region_held3 (fun w' => w'.cell? ⟨b, 0, none⟩ = some (.int .i64 gt) ∧ w'.cell? ⟨b, 0 + 1, none⟩ = some (.int .i64 gn) ∧ w'.cell? ⟨b, 0 + 2, none⟩ = some (.int .i64 gs) ∧ w'.cell? ⟨b, 0 + 3, none⟩ = some (.slice (some ⟨br, orr, none⟩) R.length cr) ∧ w'.cell? ⟨w.heap.size, 0, none⟩ = some (.int .i64 j) ∧ w'.cell? ⟨w.heap.size, 0 + 1, none⟩ = some (.int .i64 0) ∧ w'.cell? ⟨w.heap.size, 0 + 2, none⟩ = some (.slice ak K.length ck) ∧ w'.cell? ⟨br, orr + j * 2 + 1, none⟩ = some (.slice av L.length cv))
            (first | exact cells8 (Below.refl _ _).drew X1.out X2.out E1.out | exact cells8 HB1.out X1.out X2.out E1.out | fail)
            (first
              | (go_at_call 78; (with_reducible refine (CE.out _ (Below.refl _ _).drew).mono ?_); rintro e w1 ⟨rfl, hb1⟩; have HB1 : Hid (Below w0.heap.size w0 w1) := (Below.refl _ _).drew.trans hb1; clear hb1)
              | fail)
          go_wp2_with fail
          go_ret
          exact ⟨rfl, HB0.out.trans (HB1.out.mono HB0.out.size)⟩
        · have b3 : (tm != 0) = true := by simpa using h3
          obtain rfl : B = false := by rw [← hv]; simp [h3]
          clear hv h3
          go_wp2_with fail
          go_ret
          exact ⟨rfl, HB0.out⟩
      · have b2 : decide (R.length ≤ j) = true := by simp; omega
        have b2' : decide ((R.length : Int) ≤ (j : Int)) = true := by simp; omega
        obtain rfl : B = false := by rw [← hv, show R[(j : Int).toNat]? = none by simp; omega]
        clear hv
        go_wp2_with fail
        go_ret
        exact ⟨rfl, HB0.out⟩
theorem validF (g : Gram) (b : Nat) (ar : Option Addr) (cr : Nat) (w0 : World) (N : Nat) (hx : w0.heap[b]? = some (.cells #[.int .i64 g.terms, .int .i64 g.nons, .int .i64 g.start, .slice ar g.rules.length cr] 24 (0, 0)))
    (hr : Rd AnyB w0 (.sl (g.rules.map Rule.d)) [.slice ar g.rules.length cr]) : NodeFn 77 #[.pointer (some ⟨b, 0, none⟩)] w0 (nodeOk g) N (ValidI w0) where
  below := fun h => h.1
  own := fun h k hk => absurd hk (h.2 k)
  keep := fun h hb => ⟨h.1.trans (hb.mono h.1.size), h.2⟩
  call := by
    intro s S W t v h hv _
    obtain ⟨a, c, rfl, -, -⟩ := hv.form
    rw [List.length_map] at hv ⊢
    refine (nodeOkE g b ar cr t a c W (bx_keep hx h.1) (hr.below h.1) (hv.below h.1)).mono ?_
    rintro e W' ⟨rfl, hb⟩
    exact ⟨S, rfl, ⟨h.1.trans (hb.mono h.1.size), h.2⟩, Below.keeps hb, fun k hk => .inl hk⟩
set_option maxHeartbeats 1000000 in
set_option maxRecDepth 100000 in
theorem validE (g : Gram) (ar : Option Addr) (cr : Nat) (t : Tree) (at' : Option Addr) (ct : Nat) (w : World) (hr : Rd AnyB w (.sl (g.rules.map Rule.d)) [.slice ar g.rules.length cr]) (hk : Rd AnyB w (.sl (t.kids.map Tree.d)) [.slice at' t.kids.length ct]) :
    Calls Tryd.prog 57 #[.agg #[.int .i64 g.terms, .int .i64 g.nons, .int .i64 g.start, .slice ar g.rules.length cr], .agg #[.int .i64 t.rule, .int .i64 t.term, .slice at' t.kids.length ct]] w fun e w' => e = .returned (.bool (validT g t)) ∧ Below w.heap.size w w' := by
  obtain ⟨w0, HW0⟩ := nameIt ((w.alloc (.cells #[.int .i64 g.terms, .int .i64 g.nons, .int .i64 g.start, .slice ar g.rules.length cr] 24)).alloc (.cells #[.int .i64 t.rule, .int .i64 t.term, .slice at' t.kids.length ct] 32))
  have hb0 : Below w.heap.size w w0 := by rw [← HW0.out]; exact ((Below.refl _ _).alloc (Nat.le_refl _) _).alloc (by simp) _
  have hx : w0.heap[w.heap.size]? = some (.cells #[.int .i64 g.terms, .int .i64 g.nons, .int .i64 g.start, .slice ar g.rules.length cr] 24 (0, 0)) := by
    rw [← HW0.out]; exact bx_keep (bx_new _ _ _ rfl) ((Below.refl _ _).alloc (Nat.le_refl _) _)
  have X2 : Hid (w0.heap[w.heap.size + 1]? = some (.cells #[.int .i64 t.rule, .int .i64 t.term, .slice at' t.kids.length ct] 32 (0, 0))) := by
    rw [← HW0.out]; exact bx_new _ _ _ (by simp)
  have HC := Lib.hid (walkE 77 #[.pointer (some ⟨w.heap.size, 0, none⟩)] w0 (nodeOk g) (nodes t).length (ValidI w0) (fun _ _ => by kernel_rfl) (validF g w.heap.size ar cr w0 _ hx (hr.below hb0)) (nodes t).length t _ [] (fun _ => False) w0 (Nat.le_refl _) ⟨Below.refl _ _, fun _ h => h⟩ (hk.below hb0) (by simp))
  have HB0 := Lib.hid hb0
  obtain ⟨y0, y1, y2⟩ := bx_cells3 X2.out
  obtain ⟨gt, HGT⟩ := nameIt g.terms
  obtain ⟨gn, HGN⟩ := nameIt g.nons
  obtain ⟨gs, HGS⟩ := nameIt g.start
  obtain ⟨n, HKn⟩ := nameIt g.rules.length
  obtain ⟨r, HRr⟩ := nameIt t.rule
  obtain ⟨tm, HRt⟩ := nameIt t.term
  obtain ⟨m, HMn⟩ := nameIt t.kids.length
  rw [HGT.out, HGN.out, HGS.out, HKn.out, HRr.out, HRt.out, HMn.out] at HW0
  rw [HRr.out] at y0
  rw [HRt.out] at y1
  rw [HMn.out] at y2
  rw [HRr.out, HRt.out, HMn.out] at HC
  rw [HGT.out, HGN.out, HGS.out, HKn.out, HRr.out, HRt.out, HMn.out]
  clear hr hk hx hb0
  go_enter Tryd.func57, Tryd.ntmps57
  go_upto_region 1 with fail
  rw [HW0.out]
  go_wp2_with fail
  refine HC.out.mono ?_
  rintro e w1 ⟨S', rfl, ⟨h1, h2⟩, h3, h4⟩
  have HB1 := Lib.hid h1
  obtain ⟨B, HBn⟩ := nameIt ((nodes t).all (nodeOk g))
  rw [HBn.out]
  clear h1 h2 h3 h4
  go_wp2_with fail
  go_ret
  exact ⟨by rw [← HBn.out]; rfl, HB0.out.trans (HB1.out.mono HB0.out.size)⟩
set_option maxHeartbeats 1000000 in
set_option maxRecDepth 100000 in
theorem treeCheckE (g : Gram) (ar : Option Addr) (cr : Nat) (t : Tree) (at' : Option Addr) (ct : Nat) (w : World) (hr : Rd AnyB w (.sl (g.rules.map Rule.d)) [.slice ar g.rules.length cr]) (hk : Rd AnyB w (.sl (t.kids.map Tree.d)) [.slice at' t.kids.length ct]) (hN : (nodes t).length ≤ 1099511627776) :
    Calls Tryd.prog 37 #[.agg #[.int .i64 g.terms, .int .i64 g.nons, .int .i64 g.start, .slice ar g.rules.length cr], .agg #[.int .i64 t.rule, .int .i64 t.term, .slice at' t.kids.length ct]] w fun e w' => e = .returned (.int .i64 (checkT g t)) ∧ Below w.heap.size w w' := by
  obtain ⟨w0, HW0⟩ := nameIt ((w.alloc (.cells #[.int .i64 g.terms, .int .i64 g.nons, .int .i64 g.start, .slice ar g.rules.length cr] 24)).alloc (.cells #[.int .i64 t.rule, .int .i64 t.term, .slice at' t.kids.length ct] 32))
  have hb0 : Below w.heap.size w w0 := by rw [← HW0.out]; exact ((Below.refl _ _).alloc (Nat.le_refl _) _).alloc (by simp) _
  have X1 : Hid (w0.heap[w.heap.size]? = some (.cells #[.int .i64 g.terms, .int .i64 g.nons, .int .i64 g.start, .slice ar g.rules.length cr] 24 (0, 0))) := by
    rw [← HW0.out]; exact bx_keep (bx_new _ _ _ rfl) ((Below.refl _ _).alloc (Nat.le_refl _) _)
  have X2 : Hid (w0.heap[w.heap.size + 1]? = some (.cells #[.int .i64 t.rule, .int .i64 t.term, .slice at' t.kids.length ct] 32 (0, 0))) := by
    rw [← HW0.out]; exact bx_new _ _ _ (by simp)
  have C1 := Lib.hid (checkE g ar cr w0 (hr.below hb0))
  have C2 := Lib.hid (fun W (hb : Below w0.heap.size w0 W) => sizeE t _ W ((hk.below hb0).below hb) (by omega))
  have C3 := Lib.hid (fun W (hb : Below w0.heap.size w0 W) => validE g ar cr t at' ct W ((hr.below hb0).below hb) ((hk.below hb0).below hb))
  have HB0 := Lib.hid hb0
  obtain ⟨E1, HE1⟩ := nameIt (checkG g)
  obtain ⟨M, HM⟩ := nameIt (nodes t).length
  obtain ⟨V, HV⟩ := nameIt (validT g t)
  obtain ⟨B, HBn⟩ := nameIt (checkT g t)
  have HBV : Hid (B = if E1 ≠ 0 then E1 else if 5000 < M then 2 else if V then 0 else 3) := by show _ = _; rw [← HBn.out]; unfold checkT; rw [HE1.out, HM.out, HV.out]
  obtain ⟨gt, HGT⟩ := nameIt g.terms
  obtain ⟨gn, HGN⟩ := nameIt g.nons
  obtain ⟨gs, HGS⟩ := nameIt g.start
  obtain ⟨n, HKn⟩ := nameIt g.rules.length
  obtain ⟨r, HRr⟩ := nameIt t.rule
  obtain ⟨tm, HRt⟩ := nameIt t.term
  obtain ⟨m, HMn⟩ := nameIt t.kids.length
  rw [HGT.out, HGN.out, HGS.out, HKn.out, HRr.out, HRt.out, HMn.out] at HW0
  rw [HGT.out, HGN.out, HGS.out, HKn.out] at X1
  rw [HRr.out, HRt.out, HMn.out] at X2
  rw [HGT.out, HGN.out, HGS.out, HKn.out, HE1.out] at C1
  rw [HRr.out, HRt.out, HMn.out, HM.out] at C2
  rw [HGT.out, HGN.out, HGS.out, HKn.out, HRr.out, HRt.out, HMn.out, HV.out] at C3
  rw [HGT.out, HGN.out, HGS.out, HKn.out, HRr.out, HRt.out, HMn.out, HBn.out]
  rw [HM.out] at hN
  obtain ⟨x0, x1, x2, x3, y0, y1, y2⟩ := cells7 (Below.refl w0.heap.size w0) X1.out X2.out
  clear hr hk hb0
  go_enter Tryd.func37, Tryd.ntmps37
  go_upto_region 1 with fail
  rw [HW0.out]
  go_wp2_with fail
  refine C1.out.mono ?_
  rintro e w1 ⟨rfl, hb1⟩
  have HB1 := Lib.hid hb1
  obtain ⟨x0, x1, x2, x3, y0, y1, y2⟩ := cells7 hb1 X1.out X2.out
  clear hb1
  by_cases h1 : E1 = 0
  · subst h1
    have hv := HBV.out
    rw [if_neg (by simp)] at hv
    have HV2 := Lib.hid hv
    clear hv
    go_wp2_with fail
    refine (C2.out _ HB1.out).mono ?_
    rintro e w2 ⟨rfl, hb2⟩
    have HB2 := Lib.hid (HB1.out.trans (hb2.mono HB1.out.size))
    clear hb2 x0 x1 x2 x3 y0 y1 y2
    obtain ⟨x0, x1, x2, x3, y0, y1, y2⟩ := cells7 HB2.out X1.out X2.out
    by_cases h2 : 5000 < M
    · have h2' : (5000 : Int) < (M : Int) := by omega
      obtain rfl : B = 2 := by rw [HV2.out, if_pos h2]
      go_wp2_with fail
      go_ret
      exact ⟨rfl, HB0.out.trans (HB2.out.mono HB0.out.size)⟩
    · have h2' : ¬ (5000 : Int) < (M : Int) := by omega
      have hv := HV2.out
      rw [if_neg h2] at hv
      have HV3 := Lib.hid hv
      clear hv
      go_wp2_with fail
      refine (C3.out _ HB2.out).mono ?_
      rintro e w3 ⟨rfl, hb3⟩
      have HB3 := Lib.hid (HB2.out.trans (hb3.mono HB2.out.size))
      clear hb3 x0 x1 x2 x3 y0 y1 y2
      cases V with
      | true =>
        obtain rfl : B = 0 := by rw [HV3.out]; rfl
        go_wp2_with fail
        go_ret
        exact ⟨rfl, HB0.out.trans (HB3.out.mono HB0.out.size)⟩
      | false =>
        obtain rfl : B = 3 := by rw [HV3.out]; rfl
        go_wp2_with fail
        go_ret
        exact ⟨rfl, HB0.out.trans (HB3.out.mono HB0.out.size)⟩
  · have hne : (E1 != 0) = true := by simpa using h1
    obtain rfl : B = E1 := by rw [HBV.out, if_pos h1]
    clear h1
    go_wp2_with fail
    go_ret
    exact ⟨rfl, HB0.out.trans (HB1.out.mono HB0.out.size)⟩
end Go.Proofs.YtgcfpbjifjklbaaDoor
namespace Go.Proofs.YtgcfpbjifjklbaaDoor
open Go.RowKit
theorem below_box2 {B b : Nat} {w w' : World} (h : Below B w w') (hb : B ≤ b) (x y : Value) : Below B w ((w'.setCell ⟨b, 0, none⟩ x).setCell ⟨b, 1, none⟩ y) :=
  (h.setCell (p := ⟨b, 0, none⟩) hb x).setCell (p := ⟨b, 1, none⟩) hb y
theorem bx_set2 {w : World} {b : Nat} {x0 x1 : Value} {T : TypeId} (h : w.heap[b]? = some (.cells #[x0, x1] T (0, 0))) (y0 y1 : Value) : ((w.setCell ⟨b, 0, none⟩ y0).setCell ⟨b, 1, none⟩ y1).heap[b]? = some (.cells #[y0, y1] T (0, 0)) := by
  exact bx_set (bx_set h 0 y0) 1 y1
def labS (g : Gram) (t : Tree) : Sym := (label g t).getD ⟨false, 0⟩
set_option maxHeartbeats 1000000 in
set_option maxRecDepth 100000 in
theorem labelE (g : Gram) (ar : Option Addr) (cr : Nat) (t : Tree) (at' : Option Addr) (ct : Nat) (w : World) (hr : Rd AnyB w (.sl (g.rules.map Rule.d)) [.slice ar g.rules.length cr]) :
    Calls Tryd.prog 35 #[.agg #[.int .i64 g.terms, .int .i64 g.nons, .int .i64 g.start, .slice ar g.rules.length cr], .agg #[.int .i64 t.rule, .int .i64 t.term, .slice at' t.kids.length ct]] w fun e w' => e = .returned (.tuple #[.agg #[.bool (labS g t).term, .int .i64 (labS g t).n], .bool (label g t).isSome]) ∧ Below w.heap.size w w' := by
  have hbs := hr.bounds.2
  unfold maxLen at hbs
  obtain ⟨hc1, hc2⟩ := hbs
  obtain ⟨gt, HGT⟩ := nameIt g.terms
  obtain ⟨gn, HGN⟩ := nameIt g.nons
  obtain ⟨gs, HGS⟩ := nameIt g.start
  obtain ⟨K, HK⟩ := nameIt g.rules
  obtain ⟨r, HRr⟩ := nameIt t.rule
  obtain ⟨tm, HRt⟩ := nameIt t.term
  obtain ⟨m, HMn⟩ := nameIt t.kids.length
  obtain ⟨S, HS⟩ := nameIt (labS g t)
  obtain ⟨q, HQ⟩ := nameIt (label g t)
  have HSV : Hid (S = q.getD ⟨false, 0⟩) := by show _ = _; rw [← HS.out, ← HQ.out]; rfl
  have HQV : Hid (q = if r = -1 ∧ m = 0 ∧ 0 ≤ tm ∧ tm < gt then some ⟨true, tm⟩ else if r < 0 ∨ tm ≠ 0 then none else (K[r.toNat]?).map fun x => ⟨false, x.left⟩) := by
    show _ = _; rw [← HQ.out]; unfold label; rw [HRr.out, HRt.out, HK.out, HMn.out, HGT.out]
  have HR := Lib.hid hr
  rw [HK.out] at HR hc1
  rw [HGT.out, HGN.out, HGS.out, HK.out, HRr.out, HRt.out, HMn.out, HS.out, HQ.out]
  have HB : Hid (Below w.heap.size w (((w.alloc (.cells #[.int .i64 gt, .int .i64 gn, .int .i64 gs, .slice ar K.length cr] 24)).alloc (.cells #[.int .i64 r, .int .i64 tm, .slice at' m ct] 32)).alloc (.cells #[.bool S.term, .int .i64 S.n] 60))) := (((Below.refl _ _).alloc (Nat.le_refl _) _).alloc (by simp) _).alloc (by simp; omega) _
  clear hr
  by_cases h0 : r = -1
  · have a0 : (r == -1) = true := by simpa using h0
    have a5 : decide (0 ≤ r) = false := by simp; omega
    by_cases h1 : m = 0
    · have a1 : ((m : Int) == 0) = true := by simpa using h1
      by_cases h2 : 0 ≤ tm
      · have a2 : decide (0 ≤ tm) = true := by simpa using h2
        by_cases h3 : tm < gt
        · have a3 : decide (tm < gt) = true := by simpa using h3
          obtain rfl : q = some ⟨true, tm⟩ := by rw [HQV.out, if_pos ⟨h0, h1, h2, h3⟩]
          obtain rfl : S = ⟨true, tm⟩ := HSV.out
          clear h0 h1 h2 h3
          go_enter Tryd.func35, Tryd.ntmps35
          go_wp2_with fail
          exact bodyPost_ret (v := .tuple #[.agg #[.bool true, .int .i64 tm], .bool true]) (by simp [results, Tryd.results35, go_sem]) rfl ⟨rfl, HB.out⟩
        · have a3 : decide (tm < gt) = false := by simpa using h3
          obtain rfl : q = none := by rw [HQV.out, if_neg (by omega), if_pos (by omega)]
          obtain rfl : S = ⟨false, 0⟩ := HSV.out
          clear h0 h1 h2 h3
          go_enter Tryd.func35, Tryd.ntmps35
          go_wp2_with fail
          exact bodyPost_ret (v := .tuple #[.agg #[.bool false, .int .i64 0], .bool false]) (by simp [results, Tryd.results35, go_sem]) rfl ⟨rfl, HB.out⟩
      · have a2 : decide (0 ≤ tm) = false := by simpa using h2
        obtain rfl : q = none := by rw [HQV.out, if_neg (by omega), if_pos (by omega)]
        obtain rfl : S = ⟨false, 0⟩ := HSV.out
        clear h0 h1 h2
        go_enter Tryd.func35, Tryd.ntmps35
        go_wp2_with fail
        exact bodyPost_ret (v := .tuple #[.agg #[.bool false, .int .i64 0], .bool false]) (by simp [results, Tryd.results35, go_sem]) rfl ⟨rfl, HB.out⟩
    · have a1 : ((m : Int) == 0) = false := by simpa using h1
      obtain rfl : q = none := by rw [HQV.out, if_neg (by omega), if_pos (by omega)]
      obtain rfl : S = ⟨false, 0⟩ := HSV.out
      clear h0 h1
      go_enter Tryd.func35, Tryd.ntmps35
      go_wp2_with fail
      exact bodyPost_ret (v := .tuple #[.agg #[.bool false, .int .i64 0], .bool false]) (by simp [results, Tryd.results35, go_sem]) rfl ⟨rfl, HB.out⟩
  · have a0 : (r == -1) = false := by simpa using h0
    have hq := HQV.out
    rw [if_neg (fun h => h0 h.1)] at hq
    clear h0
    by_cases h1 : r < 0
    · have a5 : decide (0 ≤ r) = false := by simpa using h1
      obtain rfl : q = none := by rw [hq, if_pos (.inl h1)]
      obtain rfl : S = ⟨false, 0⟩ := HSV.out
      clear h1 hq
      go_enter Tryd.func35, Tryd.ntmps35
      go_wp2_with fail
      exact bodyPost_ret (v := .tuple #[.agg #[.bool false, .int .i64 0], .bool false]) (by simp [results, Tryd.results35, go_sem]) rfl ⟨rfl, HB.out⟩
    · obtain ⟨j, rfl⟩ := Int.eq_ofNat_of_zero_le (show 0 ≤ r by omega)
      have b0 : decide ((j : Int) < 0) = false := by simp
      have b0' : (0 : Int) ≤ (j : Int) := by omega
      by_cases h2 : j < K.length
      · have b1 : decide ((j : Int) < (K.length : Int)) = true := by simp; omega
        have b1' : decide (j < K.length) = true := by simp; omega
        have h2' : (j : Int) < (K.length : Int) := by omega
        by_cases h3 : tm = 0
        · subst h3
          obtain ⟨b, off, vr, hae, -, hbl, c0, -, -⟩ := HR.out.rule_at h2
          obtain ⟨lf, HLF⟩ := nameIt (K[j]'h2).left
          obtain rfl : q = some ⟨false, lf⟩ := by rw [hq, if_neg (by omega)]; simp [h2, HLF.out]
          obtain rfl : S = ⟨false, lf⟩ := HSV.out
          rw [HLF.out] at c0
          subst hae
          clear h1 hq
          have hbl1 : b < w.heap.size + 1 := by omega
          have hbl2 : b < w.heap.size + 1 + 1 := by omega
          have hn0 : ¬ b = w.heap.size := by omega
          have hn1 : ¬ b = w.heap.size + 1 := by omega
          have hn2 : ¬ b = w.heap.size + 1 + 1 := by omega
          go_enter Tryd.func35, Tryd.ntmps35
          go_wp2_with fail
          exact bodyPost_ret (v := .tuple #[.agg #[.bool false, .int .i64 lf], .bool true]) (by simp [results, Tryd.results35, go_sem]) rfl ⟨rfl, HB.out⟩
        · have b3 : (tm == 0) = false := by simpa using h3
          obtain rfl : q = none := by rw [hq, if_pos (.inr h3)]
          obtain rfl : S = ⟨false, 0⟩ := HSV.out
          clear h1 h3 hq
          go_enter Tryd.func35, Tryd.ntmps35
          go_wp2_with fail
          exact bodyPost_ret (v := .tuple #[.agg #[.bool false, .int .i64 0], .bool false]) (by simp [results, Tryd.results35, go_sem]) rfl ⟨rfl, HB.out⟩
      · have b1 : decide ((j : Int) < (K.length : Int)) = false := by simp; omega
        have b1' : decide (j < K.length) = false := by simp; omega
        obtain rfl : q = none := by
          rw [hq]
          by_cases h3 : tm = 0
          · rw [if_neg (by omega)]; simp [show K.length ≤ j by omega]
          · rw [if_pos (.inr h3)]
        obtain rfl : S = ⟨false, 0⟩ := HSV.out
        clear h1 hq
        go_enter Tryd.func35, Tryd.ntmps35
        go_wp2_with fail
        exact bodyPost_ret (v := .tuple #[.agg #[.bool false, .int .i64 0], .bool false]) (by simp [results, Tryd.results35, go_sem]) rfl ⟨rfl, HB.out⟩
end Go.Proofs.YtgcfpbjifjklbaaDoor
