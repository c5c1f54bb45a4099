/- mini.Same: the list of pairs of states, the set of those seen. -/
import Derived.Test.YtenkhjmedolknaaDfaSame
import Derived.Test.YtenkhjmedolknaaSetM
import Derived.Test.YtenkhjmedolknaaAlign
import Derived.WideKeyPair
namespace Go.Proofs.Ytenkhjmedolknaa
open Go.RowKit
namespace Df

theorem arrKD : Go.WideMaps.ArrKey Try.prog 62 3 2 := ⟨Try.underlying62, by kernel_rfl, by kernel_rfl, by kernel_rfl⟩
theorem keyedD : Go.Maps.Keyed Try.prog 62 := .of_law arrKD.law
def klD (x y : Int) : Lit := .string (keyBytes [.int .i64 x, .int .i64 y])
def sm (x : Int) : Prop := -1 ≤ x ∧ x ≤ 200
theorem wfD {x : Int} (h : sm x) : (Lit.int .i64 x).wf = true := by
  unfold sm at h
  simp [Lit.wf, IntKind.min, IntKind.max, IntKind.signed, IntKind.bits]; omega
theorem keyD {x y : Int} (hx : sm x) (hy : sm y) : keyOf Try.prog 62 (.agg #[.int .i64 x, .int .i64 y]) = some (klD x y) :=
  Go.WideMaps.keyOf_pair arrKD Try.underlying3 ⟨Try.prog.types.size - 1, by have h : 0 < Try.prog.types.size := of_decide_eq_true (by kernel_rfl); omega⟩ (wfD hx) (wfD hy)
theorem klD_inj {x y x' y' : Int} (hx : sm x) (hy : sm y) (hx' : sm x') (hy' : sm y') (h : klD x y = klD x' y') : x = x' ∧ y = y' := by
  have h1 := keyD hx hy
  have h2 := keyD hx' hy'
  rw [← h] at h2
  have := keyedD.inj h1 h2
  simpa using this
theorem zeroBD (w : World) : (zeroValue 4).run Try.prog w = .ok (.bool false) w := by
  obtain ⟨i, hi, hz, _⟩ := info_parts (show (Try.prog.info? 4).map (fun i => (i.zero, i.size, i.bytes)) = some (some (.bool false), 1, 1) by kernel_rfl)
  simp [zeroValue, typeInfo, hi, hz]

abbrev It := (Int × Int) × List Nat
open Classical in
noncomputable def inP (L : List It) (l : Lit) : Bool := L.any fun p => decide (klD p.1.1 p.1.2 = l)
def smL (L : List It) : Prop := ∀ p ∈ L, sm p.1.1 ∧ sm p.1.2
open Classical in
theorem inP_at {L : List It} (hL : smL L) {x y : Int} (hx : sm x) (hy : sm y) : inP L (klD x y) = decide (∃ p ∈ L, p.1 = (x, y)) := by
  unfold inP
  rw [Bool.eq_iff_iff, List.any_eq_true, decide_eq_true_iff]
  constructor
  · rintro ⟨p, hp, h⟩
    simp only [decide_eq_true_eq] at h
    obtain ⟨h1, h2⟩ := klD_inj (hL p hp).1 (hL p hp).2 hx hy h
    exact ⟨p, hp, Prod.ext h1 h2⟩
  · rintro ⟨p, hp, h⟩
    exact ⟨p, hp, by simp [h]⟩
open Classical in
theorem inP_same (L : List It) (q : It) : inP (L ++ [q]) (klD q.1.1 q.1.2) = true := by
  unfold inP
  rw [List.any_append]
  simp
open Classical in
theorem inP_other (L : List It) (q : It) {l : Lit} (h : l ≠ klD q.1.1 q.1.2) : inP (L ++ [q]) l = inP L l := by
  unfold inP
  rw [List.any_append]
  have : (decide (klD q.1.1 q.1.2 = l)) = false := by simp; exact fun e => h e.symm
  simp [this]

structure Nd where
  x : Int
  y : Int
  fr : Int
  sym : Int
def nds (M : List Nd) : List Value := M.flatMap fun m => [.int .i64 m.x, .int .i64 m.y, .int .i64 m.fr, .int .i64 m.sym]
theorem nds_len (M : List Nd) : (nds M).length = M.length * 4 := by
  induction M with
  | nil => rfl
  | cons m M ih => unfold nds at ih ⊢; simp only [List.flatMap_cons, List.length_append, ih, List.length_cons, List.length_nil]; omega
theorem nds_at : ∀ {M : List Nd} {i : Nat} {m : Nd}, M[i]? = some m → (nds M)[i * 4]? = some (.int .i64 m.x) ∧ (nds M)[i * 4 + 1]? = some (.int .i64 m.y) ∧ (nds M)[i * 4 + 2]? = some (.int .i64 m.fr) ∧ (nds M)[i * 4 + 3]? = some (.int .i64 m.sym)
  | [], i, m, h => by simp at h
  | a :: M, 0, m, h => by simp at h; subst h; exact ⟨rfl, rfl, rfl, rfl⟩
  | a :: M, i + 1, m, h => by
    have ih := nds_at (M := M) (i := i) (m := m) (by simpa using h)
    have e : ∀ j, (nds (a :: M))[(i + 1) * 4 + j]? = (nds M)[i * 4 + j]? := fun j => by
      have : (i + 1) * 4 + j = (i * 4 + j) + 4 := by omega
      rw [this]
      rfl
    exact ⟨(e 0).trans ih.1, (e 1).trans ih.2.1, (e 2).trans ih.2.2.1, (e 3).trans ih.2.2.2⟩
theorem nds_app (M : List Nd) (m : Nd) : nds (M ++ [m]) = nds M ++ [.int .i64 m.x, .int .i64 m.y, .int .i64 m.fr, .int .i64 m.sym] := by
  unfold nds
  rw [List.flatMap_append]
  simp
/-- the nodes are the search's items; each tells where it came from -/
structure Lk (M : List Nd) (L : List It) : Prop where
  len : M.length = L.length
  at' : ∀ (j : Nat) (m : Nd) (p : It), M[j]? = some m → L[j]? = some p → m.x = p.1.1 ∧ m.y = p.1.2 ∧ ((m.fr = -1 ∧ p.2 = []) ∨ ∃ (f s : Nat) (q : It), m.fr = (f : Int) ∧ f < j ∧ L[f]? = some q ∧ m.sym = (s : Int) ∧ p.2 = q.2 ++ [s])
theorem Lk.start (a b : Int) : Lk [⟨a, b, -1, -1⟩] [((a, b), [])] := ⟨rfl, fun j m p h1 h2 => by
  cases j with
  | zero => simp at h1 h2; subst h1 h2; exact ⟨rfl, rfl, .inl ⟨rfl, rfl⟩⟩
  | succ j => simp at h1⟩
theorem Lk.add {M : List Nd} {L : List It} (h : Lk M L) {i : Nat} {p : It} (hi : L[i]? = some p) (k : Int × Int) (c : Nat) : Lk (M ++ [⟨k.1, k.2, (i : Int), (c : Int)⟩]) (L ++ [(k, p.2 ++ [c])]) := by
  have hil := (List.getElem?_eq_some_iff.1 hi).1
  have hlen := h.len
  refine ⟨by simp [h.len], fun j m q h1 h2 => ?_⟩
  by_cases hj : j < L.length
  · rw [List.getElem?_append_left (by omega)] at h1
    rw [List.getElem?_append_left hj] at h2
    obtain ⟨k1, k2, k3⟩ := h.at' j m q h1 h2
    refine ⟨k1, k2, k3.imp id ?_⟩
    rintro ⟨f, s, r, a1, a2, a3, a4, a5⟩
    exact ⟨f, s, r, a1, a2, by rw [List.getElem?_append_left (by omega)]; exact a3, a4, a5⟩
  · have hj2 : j = L.length := by
      have := (List.getElem?_eq_some_iff.1 h2).1
      simp at this; omega
    subst hj2
    rw [← hlen, List.getElem?_concat_length] at h1
    rw [List.getElem?_concat_length] at h2
    cases h1; cases h2
    exact ⟨rfl, rfl, .inr ⟨i, c, p, rfl, hil, by rw [List.getElem?_append_left hil]; exact hi, rfl, rfl⟩⟩

theorem pairs_in {x y : Dfa} (hx : Right x) (hy : Right y) : ∀ (w : List Nat) (n : Int × Int), inS x n.1 ∧ inS y n.2 → inS x (Bf.run (stepP x y) n w).1 ∧ inS y (Bf.run (stepP x y) n w).2
  | [], n, h => h
  | c :: w, n, _ => pairs_in hx hy w _ ⟨toS_in hx n.1 c, toS_in hy n.2 c⟩
theorem start_in {x : Dfa} (hx : Right x) : inS x x.start := ⟨by have := hx.start; omega, hx.start.2⟩
theorem inv_in {x y : Dfa} (hx : Right x) (hy : Right y) {L : List It} {i c k : Nat} {bad : Int × Int → Bool} (h : Bf.Inv (stepP x y) k (x.start, y.start) bad L i c) : ∀ p ∈ L, inS x p.1.1 ∧ inS y p.1.2 := by
  intro p hp
  have := pairs_in hx hy p.2 (x.start, y.start) ⟨start_in hx, start_in hy⟩
  rw [(h.reach p hp).1] at this
  exact this
theorem sm_of {x : Dfa} (hx : Right x) {s : Int} (h : inS x s) : sm s := ⟨h.1, by have := h.2; have := hx.states; omega⟩
theorem inv_sm {x y : Dfa} (hx : Right x) (hy : Right y) {L : List It} {i c k : Nat} {bad : Int × Int → Bool} (h : Bf.Inv (stepP x y) k (x.start, y.start) bad L i c) : smL L := fun p hp => by
  obtain ⟨h1, h2⟩ := inv_in hx hy h p hp
  exact ⟨sm_of hx h1, sm_of hy h2⟩
theorem flat_lenD {α : Type} (l : List Int) (g : Int → List α) (c : Nat) (h : ∀ a, (g a).length = c) : (l.flatMap g).length = l.length * c := by
  induction l with
  | nil => simp
  | cons a l ih => simp only [List.flatMap_cons, List.length_append, List.length_cons, Nat.add_mul, ih, h]; omega
theorem few_of {L : List It} (h : smL L) (hn : (L.map Prod.fst).Nodup) : L.length ≤ 40804 := by
  have := Al.nodup_le (L.map Prod.fst) (((List.range 202).map fun n : Nat => (n : Int) - 1).flatMap fun i => ((List.range 202).map fun n : Nat => (n : Int) - 1).map fun j => (i, j)) hn (fun q hq => by
    obtain ⟨p, hp, rfl⟩ := List.mem_map.1 hq
    obtain ⟨⟨a1, a2⟩, a3, a4⟩ := h p hp
    rw [List.mem_flatMap]
    refine ⟨p.1.1, List.mem_map.2 ⟨(p.1.1 + 1).toNat, by simp; omega, by omega⟩, List.mem_map.2 ⟨p.1.2, List.mem_map.2 ⟨(p.1.2 + 1).toNat, by simp; omega, by omega⟩, rfl⟩⟩)
  rw [List.length_map] at this
  refine Nat.le_trans this ?_
  rw [flat_lenD _ _ 202 (fun a => by simp)]
  simp
/-- an automaton whose results are 0 and -1 -/
def Flat (x : Dfa) : Prop := ∀ v ∈ x.acc, v ≤ 0
theorem flat_at {x : Dfa} (hx : Right x) (hf : Flat x) {s : Int} (hs : inS x s) : atS x s = if goodS x s then 0 else -1 := by
  rw [goodS_at]
  unfold atS
  by_cases h : s < 0
  · rw [if_pos h]; rfl
  · rw [if_neg h]
    have hlt : s.toNat < x.acc.length := by have := hs.2; have := hx.accs; omega
    rw [List.getElem?_eq_getElem hlt, Option.getD_some]
    have h1 := hf _ (List.getElem_mem hlt)
    have h2 := hx.acc _ (List.getElem_mem hlt)
    by_cases h0 : 0 ≤ x.acc[s.toNat]
    · simp [h0]; omega
    · simp [h0]; omega
theorem flat_ne {x y : Dfa} (hx : Right x) (hy : Right y) (hfx : Flat x) (hfy : Flat y) {n : Int × Int} (h1 : inS x n.1) (h2 : inS y n.2) : (atS x n.1 != atS y n.2) = badP x y n := by
  rw [flat_at hx hfx h1, flat_at hy hfy h2]
  unfold badP
  cases goodS x n.1 <;> cases goodS y n.2 <;> rfl

structure SI (w0 : World) (mb : Nat) (L : List It) (M : List Nd) (v : Value) (wr : World) : Prop where
  bel : Below w0.heap.size w0 wr
  row : wr.ownsRow w0.heap.size 60 4 v M.length (nds M)
  set : SetM Try.prog 62 4 mb L.length (inP L) wr
  mge : w0.heap.size ≤ mb
  ne : ∀ k, v.ownBlock = some k → k ≠ mb
theorem SI.keep {w0 : World} {mb : Nat} {L : List It} {M : List Nd} {v : Value} {wr W : World} (h : SI w0 mb L M v wr) (hb : Below wr.heap.size wr W) : SI w0 mb L M v W :=
  ⟨h.bel.trans (hb.mono h.bel.size), own_keep h.row hb, h.set.keep hb, h.mge, h.ne⟩
theorem SI.add {w0 : World} {mb : Nat} {L : List It} {M : List Nd} {v v' : Value} {wr W W' : World} {q : It} {m : Nd} (h : SI w0 mb L M v wr) (hs : SetM Try.prog 62 4 mb (L.length + 1) (inP (L ++ [q])) W) (hg : wr.grownBy W (some mb))
    (ho : W'.ownsRow w0.heap.size 60 4 v' (M.length + 1) (nds M ++ [.int .i64 m.x, .int .i64 m.y, .int .i64 m.fr, .int .i64 m.sym])) (hg2 : W.grownBy W' v.ownBlock) (hat : v'.ownBlock = v.ownBlock ∨ ∃ k, v'.ownBlock = some k ∧ W.heap.size ≤ k) : SI w0 mb (L ++ [q]) (M ++ [m]) v' W' := by
  obtain ⟨h1, h2, h3, h4, h5⟩ := h
  refine ⟨(h1.grown hg h1.size (fun k e => by cases e; exact h4)).grown hg2 (Nat.le_trans h1.size hg.size) (fun k e => (h2.lt k e).1), ?_, ?_, h4, ?_⟩
  · rw [nds_app, List.length_append]; exact ho
  · rw [List.length_append]
    exact hs.kept hg2 (fun e => h5 mb e.symm rfl)
  · intro k e
    rcases hat with e' | ⟨j, e', hj⟩
    · exact h5 k (e'.symm.trans e)
    · rw [e'] at e; cases e
      have := hs.lt
      omega
/-- the result of mini.Same -/
def SamePost (x y : Dfa) (w : World) (e : Ending) (w' : World) : Prop :=
  Below w.heap.size w w' ∧ ((∃ u a n cap, LeastW x y u ∧ u.length ≤ 40804 ∧ e = .returned (.tuple #[.bool false, .slice a n cap, .int .i64 0]) ∧ Sl w' (.slice a n cap) (ints (List.map (fun (n : Nat) => (n : Int)) u))) ∨ (Alike x y ∧ e = .returned (.tuple #[.bool true, .slice none 0 0, .int .i64 0])))
end Df
end Go.Proofs.Ytenkhjmedolknaa
