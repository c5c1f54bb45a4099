/- The contract of guess.Rules. -/
import Derived.Test.YtfbacnifankfkaaGram
import Derived.Test.YtfbacnifankfkaaNodes
namespace Go.Proofs.Ytfbacnifankfkaa
open Go.RowKit
namespace Guess

theorem own_of_block' {w : World} {g : Nat} {e : TypeId} {size n : Nat} {cur : Array Value} (h : w.heap[g]? = some (.cells cur e (0, 0))) (hn : cur.size = n * size) (hm : n ≤ maxLen) : w.ownsRow 0 e size (.slice (some ⟨g, 0, none⟩) n n) n cur.toList :=
  ⟨by simpa using hn, .inr ⟨_, n, cur, rfl, Nat.zero_le _, h, Nat.le_refl _, hm, hn, by rw [← hn]; exact List.take_of_length_le (by simp)⟩⟩
theorem symCells' {S S' : Nat → Prop} {w w' : World} {sy : List Sym} {xs : List Value} (h : RdAll S w (sy.map Sym.d) xs) : RdAll S' w' (sy.map Sym.d) xs := by
  induction sy generalizing xs with
  | nil => exact h
  | cons s sy ih =>
    obtain ⟨c1, c2, rfl, h1, h2⟩ := h
    obtain rfl := h1.sym
    exact ⟨_, _, rfl, rd_sym s, ih h2⟩

/-- the rules that have been gathered; where they lie -/
structure OutRel (w2 : World) (b9 : Nat) (done : List Rule) (vo : Value) (W : World) : Prop where
  box : W.heap[b9]? = some (.cells #[vo] 36 (0, 0))
  own : ∃ xs, W.ownsRow (b9 + 1) 41 2 vo done.length xs ∧ RdAll (fun k => k ≠ b9 ∧ vo.ownBlock ≠ some k) W (done.map Rule.d) xs
  le : b9 + 1 ≤ W.heap.size
  bel : Below b9 w2 W
structure AddRel (w2 : World) (b9 b10 : Nat) (j : Int) (done : List Rule) (vo : Value) (W : World) : Prop where
  out : OutRel w2 b9 done vo W
  nb : W.heap[b10]? = some (.cells #[.int .i64 j] 3 (0, 0))
  ap : vo.ownBlock ≠ some b10
  ne : b9 < b10

theorem OutRel.keep {w2 : World} {b9 : Nat} {done : List Rule} {vo : Value} {W W' : World} (h : OutRel w2 b9 done vo W) (hb : Below W.heap.size W W') : OutRel w2 b9 done vo W' := by
  obtain ⟨xs, h1, h2⟩ := h.own
  exact ⟨bx_keep h.box hb, ⟨xs, own_keep h1 hb, h2.below hb⟩, Nat.le_trans h.le hb.size, h.bel.trans (hb.mono (by have := h.le; omega))⟩
theorem AddRel.keep {w2 : World} {b9 b10 : Nat} {j : Int} {done : List Rule} {vo : Value} {W W' : World} (h : AddRel w2 b9 b10 j done vo W) (hb : Below W.heap.size W W') : AddRel w2 b9 b10 j done vo W' :=
  ⟨h.out.keep hb, bx_keep h.nb hb, h.ap, h.ne⟩
/-- a new slice of symbols -/
theorem argRd {w2 : World} {b9 b10 : Nat} {j : Int} {done : List Rule} {vo : Value} {W : World} (h : AddRel w2 b9 b10 j done vo W) {g n : Nat} {cur : Array Value} {l : List Sym} (hx : W.heap[g]? = some (.cells cur 43 (0, 0))) (hr : RdAll AnyB W (l.map Sym.d) cur.toList) (hn : l.length = n) (hs : cur.size = n * 2) (hm : n ≤ 100) (h9 : g ≠ b9) (ho : vo.ownBlock ≠ some g) :
    Rd (fun k => k ≠ b9 ∧ vo.ownBlock ≠ some k) W (.sl (l.map Sym.d)) [.slice (some ⟨g, 0, none⟩) n n] :=
  rd_of_own (own_of_block' hx hs (by unfold maxLen; omega)) (symCells' hr) (by simpa using hn) (fun k e => by simp [Value.ownBlock] at e; subst e; exact ⟨h9, ho⟩)

def AddPost (w2 : World) (b9 b10 : Nat) (j : Int) (done : List Rule) (vo : Value) (W : World) (_ : Ending) (W' : World) : Prop :=
  ∃ vo', AddRel w2 b9 b10 j done vo' W' ∧ Keeps (fun k => k = b9 ∨ vo.ownBlock = some k) W W' ∧ (vo'.ownBlock = vo.ownBlock ∨ ∃ k, vo'.ownBlock = some k ∧ W.heap.size ≤ k)

set_option maxHeartbeats 1000000 in
theorem addE (w2 : World) (b9 b10 : Nat) (j : Int) (done : List Rule) (vo : Value) (l : List Sym) (al : Option Addr) (cl : Nat) (W : World) (h : AddRel w2 b9 b10 j done vo W) (hl : Rd (fun k => k ≠ b9 ∧ vo.ownBlock ≠ some k) W (.sl (l.map Sym.d)) [.slice al l.length cl]) (hd : done.length ≤ 1000) :
    Calls Try.prog 81 #[.slice al l.length cl, .pointer (some ⟨b9, 0, none⟩), .pointer (some ⟨b10, 0, none⟩)] W fun e W' => (∃ v, e = .returned v) ∧ AddPost w2 b9 b10 j (done ++ [⟨j, l⟩]) vo W e W' := by
  have H := Lib.hid h
  have HL := Lib.hid hl
  obtain ⟨xs, ho, hr⟩ := h.out.own
  obtain ⟨a, c, rfl, hc1, hc2⟩ := own_len ho
  have HO := Lib.hid ho
  have HR := Lib.hid hr
  have c0 := bx_cells1 h.out.box
  have f0 := bx_free1 h.out.box
  have c1 := bx_cells1 h.nb
  have hle := h.out.le
  have hlt9 : b9 < W.heap.size := (Array.getElem?_eq_some_iff.1 h.out.box).1
  have hlt10 : b10 < W.heap.size := (Array.getElem?_eq_some_iff.1 h.nb).1
  unfold maxLen at hc2
  clear h hl ho hr
  go_enter Try.func81, Try.ntmps81
  go_wp2_with (at_builtin; refine wp_app1at elRule rfl _ _ rfl HO.out rfl rfl rfl rfl rfl (by omega) (by unfold maxLen; omega) (by omega) ?_)
  intro v' W1 ho1 hg1 hat1
  have hr1 := own_step (S := fun k => k ≠ b9) HR.out (RdAll.one (rd_rule (r := ⟨j, l⟩) HL.out)) hg1 hat1
  obtain ⟨a1, c1', hv', -, -⟩ := own_len ho1
  have hb9 : W1.heap[b9]? = some (.cells #[.slice a done.length c] 36 (0, 0)) := by
    rw [hg1.block b9 hlt9 (fun e => by have := (HO.out.lt _ e.symm).1; omega)]; exact H.out.out.box
  have hb10 : W1.heap[b10]? = some (.cells #[.int .i64 j] 3 (0, 0)) := by
    rw [hg1.block b10 hlt10 (fun e => H.out.ap e.symm)]; exact H.out.nb
  have hne9 : v'.ownBlock ≠ some b9 := fun e => by have := (ho1.lt _ e).1; omega
  have hR : AddRel w2 b9 b10 j (done ++ [⟨j, l⟩]) v' (W1.setCell ⟨b9, 0, none⟩ v') := by
    refine ⟨⟨by rw [bx_set hb9]; rfl, ⟨_, by rw [List.length_append]; exact ho1.kept (grown_cell W1 ⟨b9, 0, none⟩ v') (.inr hne9), ?_⟩, by simp [World.setCell]; exact Nat.le_trans hle hg1.size, ?_⟩, bx_other hb10 (by have := H.out.ne; omega) _ _, ?_, H.out.ne⟩
    · rw [List.map_append]
      exact RdAll.keep (fun k hk _ => ⟨hk, Below.heap_setCell _ _ _ _ hk.1⟩) _ _ hr1
    · exact (H.out.out.bel.grown hg1 (by omega) (fun k e => by have := (HO.out.lt _ e).1; omega)).setCell (by simp) _
    · rcases hat1 with e | ⟨k, e, hk⟩
      · rw [e]; exact H.out.ap
      · rw [e]; intro e2; cases e2; omega
  have hK : Keeps (fun k => k = b9 ∨ (Value.slice a done.length c).ownBlock = some k) W (W1.setCell ⟨b9, 0, none⟩ v') :=
    ⟨hg1.os, hg1.tape, hg1.output, by simp [World.setCell]; exact hg1.size, fun k hk hn => by
      rw [Below.heap_setCell _ _ _ _ (fun e => hn (.inl e)), hg1.block k hk (fun e => hn (.inr e.symm))]⟩
  have HRR := Lib.hid hR
  have HKK := Lib.hid hK
  have HAT := Lib.hid hat1
  have f1 := bx_free1 hb9
  have c2 := bx_cells1 hb9
  subst hv'
  clear ho1 hg1 hat1 hr1 hb9 hb10 hne9 hR hK
  go_wp2
  go_end0
  exact ⟨⟨_, rfl⟩, _, HRR.out, HKK.out, HAT.out⟩

def symL (b : Bool) (n : Nat) : List Sym := (List.range n).map fun (i : Nat) => ⟨b, (i : Int)⟩
theorem symL_len (b : Bool) (n : Nat) : (symL b n).length = n := by simp [symL]
theorem symL_succ (b : Bool) (n : Nat) : symL b (n + 1) = symL b n ++ [⟨b, (n : Int)⟩] := by simp [symL, List.range_succ]
def symsOf (t n : Nat) : List Sym := symL true t ++ symL false n
def rulesAt (sy : List Sym) (j : Int) : List Rule := ⟨j, []⟩ :: (sy.map (fun x => ⟨j, [x]⟩) ++ sy.flatMap (fun x => sy.map fun y => ⟨j, [x, y]⟩))
def rulesL (sy : List Sym) (n : Nat) : List Rule := (List.range n).flatMap fun (j : Nat) => rulesAt sy (j : Int)
theorem flat_len (a b : List Sym) (j : Int) (ha : a.length ≤ 4) (hb : b.length ≤ 4) : (a.flatMap fun x => b.map fun y => (⟨j, [x, y]⟩ : Rule)).length ≤ 16 := by
  have h : ∀ (a b : List Sym), (a.flatMap fun x => b.map fun y => (⟨j, [x, y]⟩ : Rule)).length = a.length * b.length := by
    intro a b
    induction a with
    | nil => simp
    | cons x a ih => simp [List.flatMap_cons, ih, Nat.add_mul]; omega
  rw [h]
  exact Nat.mul_le_mul ha hb
theorem rulesAt_len (sy : List Sym) (j : Int) : (rulesAt sy j).length = 1 + sy.length + sy.length * sy.length := by
  have h : ∀ (a b : List Sym), (a.flatMap fun x => b.map fun y => (⟨j, [x, y]⟩ : Rule)).length = a.length * b.length := by
    intro a b
    induction a with
    | nil => simp
    | cons x a ih => simp [List.flatMap_cons, ih, Nat.add_mul]; omega
  simp only [rulesAt, List.length_cons, List.length_append, List.length_map, h]
  omega
theorem rulesL_len (sy : List Sym) (k : Nat) (h : sy.length ≤ 4) (hk : k ≤ 2) : (rulesL sy k).length ≤ 42 := by
  have h1 : ∀ j : Int, (rulesAt sy j).length ≤ 21 := by
    intro j
    rw [rulesAt_len]
    have : sy.length * sy.length ≤ 4 * 4 := Nat.mul_le_mul h h
    omega
  have a0 := h1 0
  have a1 := h1 1
  match k, hk with
  | 0, _ => simp [rulesL]
  | 1, _ => simp [rulesL, List.range_succ]; omega
  | 2, _ => simp [rulesL, List.range_succ]; omega
theorem rulesL_succ (sy : List Sym) (n : Nat) : rulesL sy (n + 1) = rulesL sy n ++ rulesAt sy (n : Int) := by simp [rulesL, List.range_succ]

/-- the symbols that have been gathered -/
structure SymRel (w : World) (sy : List Sym) (v : Value) (W : World) : Prop where
  own : ∃ xs, W.ownsRow w.heap.size 43 2 v sy.length xs ∧ RdAll AnyB W (sy.map Sym.d) xs
  bel : Below w.heap.size w W
theorem SymRel.step {w : World} {sy : List Sym} {s : Sym} {v v' : Value} {W w1 W' : World} {xs : List Value} (h : SymRel w sy v W) (hb : Below W.heap.size W w1) (ho : W.ownsRow w.heap.size 43 2 v sy.length xs) (hd : RdAll AnyB W (sy.map Sym.d) xs)
    (ho' : W'.ownsRow w.heap.size 43 2 v' (sy.length + 1) (xs ++ [.bool s.term, .int .i64 s.n])) (hg : w1.grownBy W' v.ownBlock) : SymRel w (sy ++ [s]) v' W' := by
  refine ⟨⟨_, by rw [List.length_append]; exact ho', ?_⟩, (h.bel.trans (hb.mono h.bel.size)).grown hg (Nat.le_trans h.bel.size hb.size) (fun k e => (ho.lt k e).1)⟩
  rw [List.map_append]
  exact RdAll.append (symCells' hd) (RdAll.one (rd_sym s))

def RulesPost (e0 : Int) (rl : List Rule) (w : World) (e : Ending) (w' : World) : Prop := ∃ v, e = .returned (.tuple #[v, .int .i64 e0]) ∧ Rd AnyB w' (.sl (rl.map Rule.d)) [v] ∧ Below w.heap.size w w'

set_option maxHeartbeats 4000000 in
set_option maxRecDepth 100000 in
theorem rulesE (t n : Nat) (w : World) (ht : 1 ≤ t) (ht2 : t ≤ 2) (hn : 1 ≤ n) (hn2 : n ≤ 2) :
    Calls Try.prog 21 #[.int .i64 t, .int .i64 n] w (RulesPost 0 (rulesL (symsOf t n) n) w) := by
  have b1 : decide ((t : Int) < 1) = false := by simp; omega
  have b2 : decide ((2 : Int) < (t : Int)) = false := by simp; omega
  have b3 : decide ((n : Int) < 1) = false := by simp; omega
  have b4 : decide ((2 : Int) < (n : Int)) = false := by simp; omega
  go_enter Try.func21, Try.ntmps21
  go_wp2_with fail
  go_loopg [6, 33] t (fun gg v6 v33 wr => ∃ i : Nat, i ≤ t ∧ t - i ≤ gg ∧ v33 = .int .i64 i ∧ Hid (SymRel w (symL true i) v6 wr))
  case atStart => exact ⟨0, by omega, by omega, rfl, ⟨⟨[], World.ownsRow_nil _ _ _ _, by simp [RdAll, symL]⟩, Below.refl _ _⟩⟩
  case round =>
    obtain ⟨i, hi, hg, rfl, HR⟩ := hrel
    obtain ⟨xs, ho, hd⟩ := HR.out.own
    have hl0 : (symL true i).length = i := by simp [symL_len]
    obtain ⟨a6, c6, hv6, h61, h62⟩ := own_len ho
    rw [hl0] at hv6 h61
    subst hv6
    unfold maxLen at h62
    by_cases hlt : i < t
    · have hlt' : (i : Int) < (t : Int) := by omega
      have HO := Lib.hid ho
      have HD := Lib.hid hd
      have HL0 := Lib.hid hl0
      clear ho hd hl0
      go_wp2_with fail
      refine (gramT i _).mono ?_
      rintro e w1 ⟨rfl, hb1⟩
      have HB1 := Lib.hid hb1
      have hs1 := hb1.size
      have hs2 := HR.out.bel.size
      have HO1 : Hid (w1.ownsRow w.heap.size 43 2 (.slice a6 (i) c6) (i) xs) := by have h := own_keep HO.out hb1; rw [HL0.out] at h; exact h
      clear hb1
      go_wp2_with (at_builtin; refine wp_app1at elSym rfl _ _ rfl HO1.out rfl rfl rfl rfl rfl (by omega) (by unfold maxLen; omega) (by omega) ?_)
      intro v' w2 ho2 hg2 hat2
      have HR2 : Hid (SymRel w (symL true (i + 1)) v' w2) := by
        rw [symL_succ]
        exact HR.out.step HB1.out HO.out HD.out (by rw [HL0.out]; exact ho2) hg2
      obtain ⟨a', c', rfl, -, -⟩ := own_len ho2
      clear ho2 hg2 hat2
      go_wp2_with fail
      go_roundg (t - (i + 1))
      case measure => omega
      case rel => exact ⟨i + 1, by omega, by omega, by go_num, HR2⟩
    · have hlt' : ¬ (i : Int) < (t : Int) := by omega
      have hit : t = i := by omega
      subst hit
      clear hg hlt ho hd xs h61
      go_wp2_with fail
      go_loopg [6, 43] n (fun gg v6 v43 wr => ∃ i : Nat, i ≤ n ∧ n - i ≤ gg ∧ v43 = .int .i64 i ∧ Hid (SymRel w (symL true t ++ symL false i) v6 wr))
      case atStart => exact ⟨0, by omega, by omega, rfl, by have h := HR; simpa [symL] using h⟩
      case round =>
        clear HR
        obtain ⟨i, hi, hg, rfl, HR⟩ := hrel
        obtain ⟨xs, ho, hd⟩ := HR.out.own
        have hl0 : (symL true t ++ symL false i).length = t + i := by simp [symL_len]
        obtain ⟨a6, c6, hv6, h61, h62⟩ := own_len ho
        rw [hl0] at hv6 h61
        subst hv6
        unfold maxLen at h62
        by_cases hlt : i < n
        · have hlt' : (i : Int) < (n : Int) := by omega
          have HO := Lib.hid ho
          have HD := Lib.hid hd
          have HL0 := Lib.hid hl0
          clear ho hd hl0
          go_wp2_with fail
          refine (gramN i _).mono ?_
          rintro e w1 ⟨rfl, hb1⟩
          have HB1 := Lib.hid hb1
          have hs1 := hb1.size
          have hs2 := HR.out.bel.size
          have HO1 : Hid (w1.ownsRow w.heap.size 43 2 (.slice a6 (t + i) c6) (t + i) xs) := by have h := own_keep HO.out hb1; rw [HL0.out] at h; exact h
          clear hb1
          go_wp2_with (at_builtin; refine wp_app1at elSym rfl _ _ rfl HO1.out rfl rfl rfl rfl rfl (by omega) (by unfold maxLen; omega) (by omega) ?_)
          intro v' w2 ho2 hg2 hat2
          have HR2 : Hid (SymRel w (symL true t ++ symL false (i + 1)) v' w2) := by
            rw [symL_succ, ← List.append_assoc]
            exact HR.out.step HB1.out HO.out HD.out (by rw [HL0.out]; exact ho2) hg2
          obtain ⟨a', c', rfl, -, -⟩ := own_len ho2
          clear ho2 hg2 hat2
          go_wp2_with fail
          go_roundg (n - (i + 1))
          case measure => omega
          case rel => exact ⟨i + 1, by omega, by omega, by go_num, HR2⟩
        · have hlt' : ¬ (i : Int) < (n : Int) := by omega
          have hin : n = i := by omega
          subst hin
          clear hg hlt ho hd xs h61
          obtain ⟨sy, HSY⟩ := nameIt (symsOf t n)
          have hsyr := HR.out
          rw [show symL true t ++ symL false n = sy from HSY.out] at hsyr
          have hsl : sy.length = t + n := by rw [← HSY.out]; simp [symsOf, symL_len]
          obtain ⟨xs, ho, hd⟩ := hsyr.own
          have hrd : Rd AnyB wr (.sl (sy.map Sym.d)) [.slice a6 (t + n) c6] := rd_of_own ho hd (by simp) (fun _ _ => trivial)
          obtain ⟨wo, rfl⟩ : ∃ wo : World, wo = wr := ⟨_, rfl⟩
          obtain ⟨b9, HB9⟩ := nameIt wo.heap.size
          obtain ⟨w3, HW3⟩ := nameIt (wo.alloc (.cells #[.slice none 0 0] 36))
          have HR3 : Hid (OutRel wo b9 (rulesL sy 0) (.slice none 0 0) w3) := by
            rw [← HW3.out, ← HB9.out]
            exact ⟨bx_new _ _ _ rfl, ⟨[], World.ownsRow_nil _ _ _ _, by simp [rulesL, RdAll]⟩, by simp, (Below.refl _ _).alloc (Nat.le_refl _) _⟩
          have HBW := Lib.hid hsyr.bel
          have HRD := Lib.hid hrd
          have HSL := Lib.hid hsl
          have hb9 : w.heap.size ≤ b9 := by rw [← HB9.out]; exact hsyr.bel.size
          have hsl4 : t + n ≤ 4 := by omega
          clear HR hsyr hrd ho hd hl0 hlt'
          go_upto_region 15 with fail
          rw [HW3.out, HB9.out]
          go_wp2_with fail
          go_loopg [53] n (fun gg v53 wr => ∃ (j : Nat) (vo : Value), j ≤ n ∧ n - j ≤ gg ∧ v53 = .int .i64 j ∧ Hid (OutRel wo b9 (rulesL sy j) vo wr))
          case atStart => exact ⟨0, _, by omega, by omega, rfl, HR3⟩
          case round =>
            clear HR3 HW3
            obtain ⟨j, vo, hj, hg, rfl, HR⟩ := hrel
            by_cases hlt : j < n
            · have hlt' : (j : Int) < (n : Int) := by omega
              obtain ⟨wp, rfl⟩ : ∃ wp : World, wp = wr := ⟨_, rfl⟩
              obtain ⟨b10, HB10⟩ := nameIt wp.heap.size
              obtain ⟨w4, HW4⟩ := nameIt (wp.alloc (.cells #[.int .i64 j] 3))
              have hle9 : b9 < b10 := by rw [← HB10.out]; have := HR.out.le; omega
              have HA4 : Hid (AddRel wo b9 b10 j (rulesL sy j) vo w4) := by
                rw [← HW4.out]
                refine ⟨HR.out.keep ((Below.refl _ _).alloc (Nat.le_refl _) _), bx_new _ _ _ HB10.out.symm, fun e => ?_, hle9⟩
                obtain ⟨xs, ho, _⟩ := HR.out.own
                have := (ho.lt _ e).2
                have := HB10.out
                omega
              obtain ⟨xo, hoo, _⟩ := HR.out.own
              obtain ⟨ao, co, rfl, -, -⟩ := own_len hoo
              have HLD : Hid (∀ k, k ≤ 2 → (rulesL sy k).length ≤ 42) := fun k hk => rulesL_len sy k (by rw [HSL.out]; omega) hk
              have hld := HLD.out j (by omega)
              have C4 := Lib.hid (addE wo b9 b10 j (rulesL sy j) _ [] none 0 w4 HA4.out ⟨none, 0, [], rfl, by simp, by simp [maxLen], fun _ => rfl, fun i hi => by simp at hi, rfl⟩ (by omega))
              clear hoo HR
              go_upto_region 18 with fail
              rw [HW4.out, HB10.out]
              go_wp2_with fail
              refine C4.out.mono ?_
              rintro e w5 ⟨⟨ve, rfl⟩, vo5, hA5, -, -⟩
              have HA5 : Hid (AddRel wo b9 b10 j (rulesL sy j ++ (⟨(j : Int), []⟩ :: (sy.take 0).map fun x => ⟨(j : Int), [x]⟩)) vo5 w5) := by show AddRel _ _ _ _ _ _ _; simpa using hA5
              clear hA5 C4 HA4 HW4
              go_wp2_with fail
              go_loopg [61] (t + n) (fun gg v61 wq => ∃ (i : Nat) (vo : Value), i ≤ t + n ∧ t + n - i ≤ gg ∧ v61 = .int .i64 i ∧ Hid (AddRel wo b9 b10 j (rulesL sy j ++ (⟨(j : Int), []⟩ :: (sy.take i).map fun x => ⟨(j : Int), [x]⟩)) vo wq))
              case atStart => exact ⟨0, _, by omega, by omega, rfl, HA5⟩
              case round =>
                clear HA5
                obtain ⟨i, vo, hi, hgi, rfl, HA⟩ := hrel
                by_cases hlti : i < t + n
                · have hlti' : (i : Int) < (t : Int) + (n : Int) := by omega
                  have hlti2 : (i : Int) < ((t + n : Nat) : Int) := by omega
                  have hisy : i < sy.length := by rw [HSL.out]; exact hlti
                  obtain ⟨b, off, hae, -, hbl, e0, e1⟩ := HRD.out.sym_at hisy
                  rw [HB9.out] at hbl
                  have hbel := HA.out.out.bel
                  have d0 := (hbel.cell (p := ⟨b, off + i * 2, none⟩) hbl).trans e0
                  have d1 := (hbel.cell (p := ⟨b, off + i * 2 + 1, none⟩) hbl).trans e1
                  obtain ⟨x, HX⟩ := nameIt (sy[i]'hisy)
                  rw [HX.out] at d0 d1
                  obtain ⟨q0, HQ0⟩ := nameIt x.term
                  obtain ⟨q1, HQ1⟩ := nameIt x.n
                  rw [HQ0.out] at d0
                  rw [HQ1.out] at d1
                  obtain ⟨xo, hoo, _⟩ := HA.out.out.own
                  obtain ⟨ao, co, rfl, -, -⟩ := own_len hoo
                  have hown := hoo.lt
                  have hle := HA.out.out.le
                  obtain ⟨wb, HWB⟩ := nameIt ((wr.alloc (.cells #[.bool q0, .int .i64 q1] 43)).alloc (.cells #[.bool q0, .int .i64 q1] 43))
                  have hbb : Below wr.heap.size wr wb := by rw [← HWB.out]; exact ((Below.refl _ _).alloc (Nat.le_refl _) _).alloc (by simp) _
                  have hAb := HA.out.keep hbb
                  have hx : wb.heap[wr.heap.size + 1]? = some (.cells #[.bool q0, .int .i64 q1] 43 (0, 0)) := by rw [← HWB.out]; exact bx_new _ _ _ (by simp)
                  have hrdx : RdAll AnyB wb ([x].map Sym.d) [.bool q0, .int .i64 q1] := by rw [← HQ0.out, ← HQ1.out]; exact RdAll.one (rd_sym x)
                  have harg := argRd hAb hx (l := [x]) (n := 1) hrdx rfl rfl (by omega) (by omega) (fun e => by have := (hown _ e).2; omega)
                  have HST : Hid ((rulesL sy j ++ (⟨(j : Int), []⟩ :: (sy.take i).map fun x => ⟨(j : Int), [x]⟩)) ++ [⟨(j : Int), [x]⟩] = rulesL sy j ++ (⟨(j : Int), []⟩ :: (sy.take (i + 1)).map fun x => ⟨(j : Int), [x]⟩)) := by
                    show _ = _
                    rw [List.take_succ_eq_append_getElem hisy, HX.out]; simp
                  have C5 := addE wo b9 b10 j _ _ [x] _ 1 wb hAb harg (by have := HLD.out j (by omega); simp; omega)
                  rw [HST.out] at C5
                  have HC5 := Lib.hid C5
                  subst hae
                  clear e0 e1 hbel hAb hx hrdx harg C5 hoo hown HA
                  go_wp2_with fail
                  rw [HWB.out]
                  refine HC5.out.mono ?_
                  rintro e w6 ⟨⟨ve6, rfl⟩, vo6, hA6, -, -⟩
                  have HA6 := Lib.hid hA6
                  clear hA6 HC5 d0 d1
                  go_wp2_with fail
                  go_roundg (t + n - (i + 1))
                  case measure => omega
                  case rel => exact ⟨i + 1, _, by omega, by omega, by go_num, HA6⟩
                · have hlti' : ¬ (i : Int) < (t : Int) + (n : Int) := by omega
                  have HA7 : Hid (AddRel wo b9 b10 j (rulesL sy j ++ (⟨(j : Int), []⟩ :: sy.map fun x => ⟨(j : Int), [x]⟩)) vo wr) := by
                    have h := HA.out
                    rw [List.take_of_length_le (by rw [HSL.out]; omega)] at h
                    exact h
                  clear HA
                  go_wp2_with fail
                  obtain ⟨base, HBS⟩ := nameIt (rulesL sy j ++ (⟨(j : Int), []⟩ :: sy.map fun x => ⟨(j : Int), [x]⟩))
                  rw [HBS.out] at HA7
                  have hbl : base.length ≤ 42 + 1 + 4 := by rw [← HBS.out]; have := HLD.out j (by omega); simp; rw [HSL.out]; omega
                  have HF0 : Hid (AddRel wo b9 b10 j (base ++ (sy.take 0).flatMap fun x => sy.map fun y => ⟨(j : Int), [x, y]⟩) vo wr) := by show AddRel _ _ _ _ _ _ _; simpa using HA7.out
                  clear HA7
                  go_loopg [72] (t + n) (fun gg v72 wq => ∃ (i : Nat) (vo : Value), i ≤ t + n ∧ t + n - i ≤ gg ∧ v72 = .int .i64 i ∧ Hid (AddRel wo b9 b10 j (base ++ (sy.take i).flatMap fun x => sy.map fun y => ⟨(j : Int), [x, y]⟩) vo wq))
                  case atStart => exact ⟨0, _, by omega, by omega, rfl, HF0⟩
                  case round =>
                    clear HF0 hlti hlti' hgi hi
                    obtain ⟨i, vo, hi, hgi, rfl, HA⟩ := hrel
                    by_cases hlti : i < t + n
                    · have hlti' : (i : Int) < (t : Int) + (n : Int) := by omega
                      have hisy : i < sy.length := by rw [HSL.out]; exact hlti
                      obtain ⟨b, off, hae, -, hbl2, e0, e1⟩ := HRD.out.sym_at hisy
                      rw [HB9.out] at hbl2
                      have hbel := HA.out.out.bel
                      have d0 := (hbel.cell (p := ⟨b, off + i * 2, none⟩) hbl2).trans e0
                      have d1 := (hbel.cell (p := ⟨b, off + i * 2 + 1, none⟩) hbl2).trans e1
                      obtain ⟨x, HX⟩ := nameIt (sy[i]'hisy)
                      rw [HX.out] at d0 d1
                      obtain ⟨q0, HQ0⟩ := nameIt x.term
                      obtain ⟨q1, HQ1⟩ := nameIt x.n
                      rw [HQ0.out] at d0
                      rw [HQ1.out] at d1
                      have HRD' := HRD
                      rw [hae] at HRD'
                      obtain ⟨wq, rfl⟩ : ∃ wq : World, wq = wr := ⟨_, rfl⟩
                      obtain ⟨c15, HC15⟩ := nameIt wq.heap.size
                      obtain ⟨w8, HW8⟩ := nameIt (wq.alloc (.cells #[.bool q0, .int .i64 q1] 43))
                      have hb8 : Below wq.heap.size wq w8 := by rw [← HW8.out]; exact (Below.refl _ _).alloc (Nat.le_refl _) _
                      obtain ⟨F, HF⟩ := nameIt (base ++ (sy.take i).flatMap fun x => sy.map fun y => (⟨(j : Int), [x, y]⟩ : Rule))
                      have hfl : F.length ≤ 42 + 1 + 4 + 16 := by
                        rw [← HF.out, List.length_append]
                        have h : ((sy.take i).flatMap fun x => sy.map fun y => (⟨(j : Int), [x, y]⟩ : Rule)).length ≤ 16 := flat_len _ _ _ (by simp; omega) (by rw [HSL.out]; omega)
                        omega
                      have HFS : Hid (F ++ (sy.map fun y => ⟨(j : Int), [x, y]⟩) = base ++ (sy.take (i + 1)).flatMap fun x => sy.map fun y => ⟨(j : Int), [x, y]⟩) := by
                        show _ = _
                        rw [← HF.out, List.take_succ_eq_append_getElem hisy, HX.out]; simp
                      rw [HF.out] at HA
                      have hc9 : b9 < c15 := by rw [← HC15.out]; have := HA.out.out.le; omega
                      have hc15 : vo.ownBlock ≠ some c15 := fun e => by
                        obtain ⟨xo, hoo, _⟩ := HA.out.out.own
                        have := (hoo.lt _ e).2
                        have := HC15.out
                        omega
                      have HI0 : Hid (AddRel wo b9 b10 j (F ++ (sy.take 0).map fun y => ⟨(j : Int), [x, y]⟩) vo w8 ∧ w8.heap[c15]? = some (.cells #[.bool q0, .int .i64 q1] 43 (0, 0)) ∧ vo.ownBlock ≠ some c15) := by
                        refine ⟨by simpa using HA.out.keep hb8, ?_, hc15⟩
                        rw [← HW8.out]; exact bx_new _ _ _ HC15.out.symm
                      subst hae
                      clear e0 e1 hbel hb8 hc15
                      go_upto_region 28 with fail
                      rw [HW8.out, HC15.out]
                      clear d0 d1
                      go_wp2_with fail
                      go_loopg [78] (t + n) (fun gg v78 wy => ∃ (k : Nat) (vo : Value), k ≤ t + n ∧ t + n - k ≤ gg ∧ v78 = .int .i64 k ∧ Hid (AddRel wo b9 b10 j (F ++ (sy.take k).map fun y => ⟨(j : Int), [x, y]⟩) vo wy ∧ wy.heap[c15]? = some (.cells #[.bool q0, .int .i64 q1] 43 (0, 0)) ∧ vo.ownBlock ≠ some c15))
                      case atStart => exact ⟨0, _, by omega, by omega, rfl, HI0⟩
                      case round =>
                        clear HI0 HA HW8
                        obtain ⟨k, vo, hk, hgk, rfl, HI⟩ := hrel
                        by_cases hltk : k < t + n
                        · have hltk' : (k : Int) < (t : Int) + (n : Int) := by omega
                          have hksy : k < sy.length := by rw [HSL.out]; exact hltk
                          obtain ⟨b', off', hae', -, hbl3, e0, e1⟩ := HRD'.out.sym_at hksy
                          cases hae'
                          have hbel := HI.out.1.out.bel
                          rw [HB9.out] at hbl3
                          have d0 := (hbel.cell (p := ⟨b, off + k * 2, none⟩) hbl3).trans e0
                          have d1 := (hbel.cell (p := ⟨b, off + k * 2 + 1, none⟩) hbl3).trans e1
                          obtain ⟨y, HY⟩ := nameIt (sy[k]'hksy)
                          rw [HY.out] at d0 d1
                          obtain ⟨p0, HP0⟩ := nameIt y.term
                          obtain ⟨p1, HP1⟩ := nameIt y.n
                          rw [HP0.out] at d0
                          rw [HP1.out] at d1
                          obtain ⟨x0, x1⟩ := bx_cells2 HI.out.2.1
                          have hltc : c15 < wr.heap.size := (Array.getElem?_eq_some_iff.1 HI.out.2.1).1
                          obtain ⟨xo, hoo, _⟩ := HI.out.1.out.own
                          obtain ⟨ao, co, rfl, -, -⟩ := own_len hoo
                          have hown := hoo.lt
                          have hle := HI.out.1.out.le
                          obtain ⟨wb, HWB⟩ := nameIt ((wr.alloc (.cells #[.bool p0, .int .i64 p1] 43)).alloc (.cells #[.bool q0, .int .i64 q1, .bool p0, .int .i64 p1] 43))
                          have hbb : Below wr.heap.size wr wb := by rw [← HWB.out]; exact ((Below.refl _ _).alloc (Nat.le_refl _) _).alloc (by simp) _
                          have hAb := HI.out.1.keep hbb
                          have hx : wb.heap[wr.heap.size + 1]? = some (.cells #[.bool q0, .int .i64 q1, .bool p0, .int .i64 p1] 43 (0, 0)) := by rw [← HWB.out]; exact bx_new _ _ _ (by simp)
                          have hrdx : RdAll AnyB wb ([x, y].map Sym.d) [.bool q0, .int .i64 q1, .bool p0, .int .i64 p1] := by
                            rw [← HQ0.out, ← HQ1.out, ← HP0.out, ← HP1.out]; exact ⟨_, _, rfl, rd_sym x, RdAll.one (rd_sym y)⟩
                          have harg := argRd hAb hx (l := [x, y]) (n := 2) hrdx rfl rfl (by omega) (by omega) (fun e => by have := (hown _ e).2; omega)
                          have HST : Hid ((F ++ (sy.take k).map fun y => (⟨(j : Int), [x, y]⟩ : Rule)) ++ [⟨(j : Int), [x, y]⟩] = F ++ (sy.take (k + 1)).map fun y => ⟨(j : Int), [x, y]⟩) := by
                            show _ = _
                            rw [List.take_succ_eq_append_getElem hksy, HY.out]; simp
                          have C5 := addE wo b9 b10 j _ _ [x, y] _ 2 wb hAb harg (by simp; omega)
                          rw [HST.out] at C5
                          have HC5 := Lib.hid C5
                          have HXB := Lib.hid (bx_keep HI.out.2.1 hbb)
                          have HAP := Lib.hid HI.out.2.2
                          have hszb := hbb.size
                          clear e0 e1 hbel hAb hx hrdx harg C5 hoo hown HI
                          go_wp2_with fail
                          rw [HWB.out]
                          refine HC5.out.mono ?_
                          rintro e w6 ⟨⟨ve6, rfl⟩, vo6, hA6, hK6, hat6⟩
                          have HI6 : Hid (AddRel wo b9 b10 j (F ++ (sy.take (k + 1)).map fun y => ⟨(j : Int), [x, y]⟩) vo6 w6 ∧ w6.heap[c15]? = some (.cells #[.bool q0, .int .i64 q1] 43 (0, 0)) ∧ vo6.ownBlock ≠ some c15) := by
                            refine ⟨hA6, hK6.cells HXB.out ?_, ?_⟩
                            · rintro (e | e)
                              · omega
                              · exact HAP.out e
                            · rcases hat6 with e | ⟨z, e, hz⟩
                              · rw [e]; exact HAP.out
                              · rw [e]; intro e2; cases e2; omega
                          clear hA6 hK6 hat6 HC5 d0 d1 x0 x1 HXB HAP
                          go_wp2_with fail
                          go_roundg (t + n - (k + 1))
                          case measure => omega
                          case rel => exact ⟨k + 1, _, by omega, by omega, by go_num, HI6⟩
                        · have hltk' : ¬ (k : Int) < (t : Int) + (n : Int) := by omega
                          have HA8 : Hid (AddRel wo b9 b10 j (base ++ (sy.take (i + 1)).flatMap fun x => sy.map fun y => ⟨(j : Int), [x, y]⟩) vo wr) := by
                            have h := HI.out.1
                            rw [List.take_of_length_le (by rw [HSL.out]; omega), HFS.out] at h
                            exact h
                          clear HI
                          go_wp2_with fail
                          go_roundg (t + n - (i + 1))
                          case measure => omega
                          case rel => exact ⟨i + 1, _, by omega, by omega, by go_num, HA8⟩
                    · have hlti' : ¬ (i : Int) < (t : Int) + (n : Int) := by omega
                      have HO9 : Hid (OutRel wo b9 (rulesL sy (j + 1)) vo wr) := by
                        have h := HA.out.out
                        rw [List.take_of_length_le (by rw [HSL.out]; omega), ← HBS.out] at h
                        show OutRel _ _ _ _ _
                        rw [rulesL_succ, rulesAt]
                        simpa using h
                      clear HA
                      go_wp2_with fail
                      go_roundg (n - (j + 1))
                      case measure => omega
                      case rel => exact ⟨j + 1, _, by omega, by omega, by go_num, HO9⟩
            · have hlt' : ¬ (j : Int) < (n : Int) := by omega
              have hjn : n = j := by omega
              subst hjn
              obtain ⟨xo, hoo, hro⟩ := HR.out.own
              have hrd : Rd AnyB wr (.sl ((rulesL sy n).map Rule.d)) [vo] := rd_of_own hoo hro.any (by simp) (fun _ _ => trivial)
              obtain ⟨ao, co, rfl, -, -⟩ := own_len hoo
              have c0 := bx_cells1 HR.out.box
              have HRD2 := Lib.hid hrd
              clear hoo hro hrd
              go_wp2_with fail
              go_ret2
              refine ⟨_, rfl, by rw [HSY.out]; exact HRD2.out, HBW.out.trans (HR.out.bel.mono hb9)⟩

set_option maxHeartbeats 400000 in
theorem rulesArg (t n : Int) (w : World) (h : t < 1 ∨ 2 < t ∨ n < 1 ∨ 2 < n) :
    Calls Try.prog 21 #[.int .i64 t, .int .i64 n] w (RulesPost 1 [] w) := by
  have h' : (t < 1) ∨ (¬ t < 1 ∧ 2 < t) ∨ (¬ t < 1 ∧ ¬ 2 < t ∧ n < 1) ∨ (¬ t < 1 ∧ ¬ 2 < t ∧ ¬ n < 1 ∧ 2 < n) := by omega
  clear h
  rcases h' with h1 | ⟨h1, h2⟩ | ⟨h1, h2, h3⟩ | ⟨h1, h2, h3, h4⟩
  · have b1 : decide (t < 1) = true := by simpa using h1
    go_enter Try.func21, Try.ntmps21
    go_wp2_with fail
    go_ret2
    exact ⟨_, rfl, ⟨none, 0, [], rfl, by simp, by simp [maxLen], fun _ => rfl, fun i hi => by simp at hi, rfl⟩, Below.refl _ _⟩
  · have b1 : decide (t < 1) = false := by simpa using h1
    have b2 : decide (2 < t) = true := by simpa using h2
    go_enter Try.func21, Try.ntmps21
    go_wp2_with fail
    go_ret2
    exact ⟨_, rfl, ⟨none, 0, [], rfl, by simp, by simp [maxLen], fun _ => rfl, fun i hi => by simp at hi, rfl⟩, Below.refl _ _⟩
  · have b1 : decide (t < 1) = false := by simpa using h1
    have b2 : decide (2 < t) = false := by simpa using h2
    have b3 : decide (n < 1) = true := by simpa using h3
    go_enter Try.func21, Try.ntmps21
    go_wp2_with fail
    go_ret2
    exact ⟨_, rfl, ⟨none, 0, [], rfl, by simp, by simp [maxLen], fun _ => rfl, fun i hi => by simp at hi, rfl⟩, Below.refl _ _⟩
  · have b1 : decide (t < 1) = false := by simpa using h1
    have b2 : decide (2 < t) = false := by simpa using h2
    have b3 : decide (n < 1) = false := by simpa using h3
    have b4 : decide (2 < n) = true := by simpa using h4
    go_enter Try.func21, Try.ntmps21
    go_wp2_with fail
    go_ret2
    exact ⟨_, rfl, ⟨none, 0, [], rfl, by simp, by simp [maxLen], fun _ => rfl, fun i hi => by simp at hi, rfl⟩, Below.refl _ _⟩
end Guess
end Go.Proofs.Ytfbacnifankfkaa
