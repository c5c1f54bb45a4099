/- The contracts of Nodes, Yield and Codes. The contract of Paths. Plain: which trees a filter permits, node by node, and path by path. slices.Index, Contains, IndexFunc and ContainsFunc of whole numbers. The contracts of Yield and Codes. The closures of parlref4.Banned: the first level that has a rule. The comparison of two bans, and slices.SortFunc at bans (AttrRefCmp and AttrSort turned). The row of bans while it is made; the list of bans, step by step. copy between slices of elements of several cells, into a block that is known whole. -/
import Derived.Test.YtgcfpbjifjklbaaDoorJFilterBansRow3
import Derived.WalkSmall
import Derived.Test.YtgcfpbjifjklbaaDoorJFilterBansRow2
import Derived.Test.YtgcfpbjifjklbaaDoorJFilterBansRow1
import Derived.Deep.LoopGhost
import Derived.Deep.Cut
import Derived.Shelf.Abstract
import Derived.Shelf.SlSortCmp.NoneTotal
import Derived.Shelf.Lay
import Derived.Ground.SlsfProg
import Derived.Laws.CopyRow
import Derived.Lib.Overlaps
namespace Go.Proofs.YtgcfpbjifjklbaaDoor
open Go.RowKit
theorem len_nodesL : ∀ (l : List Tree), l.length ≤ (nodesL l).length
  | [] => by simp
  | t :: l => by have := len_nodesL l; have := nodes_pos t; simp [nodesL]; omega
theorem own_lit {w : World} {B g : Nat} {e : TypeId} {size n : Nat} {news : Array Value} (hg : g = w.heap.size) (hB : B ≤ w.heap.size) (hn : news.size = n * size) (hm : n ≤ maxLen) : (w.alloc (.cells news e)).ownsRow B e size (.slice (some ⟨g, 0, none⟩) n n) n news.toList := by
  subst hg
  exact ⟨by simpa using hn, .inr ⟨_, n, news, rfl, hB, heap_alloc_new w _, Nat.le_refl _, hm, hn, by rw [← hn]; exact List.take_of_length_le (by simp)⟩⟩
def RowT (w : World) (B : Nat) (v : Value) (ts : List Tree) (wr : World) : Prop := ∃ xs, wr.ownsRow B 32 3 v ts.length xs ∧ RdAll AnyB w (ts.map Tree.d) xs
theorem RowT.form {w : World} {B : Nat} {v : Value} {ts : List Tree} {wr : World} (h : RowT w B v ts wr) : ∃ a cap, v = .slice a ts.length cap ∧ ts.length ≤ cap ∧ cap ≤ maxLen := by
  obtain ⟨xs, h1, _⟩ := h; exact own_len h1
theorem RowT.lt {w : World} {B : Nat} {v : Value} {ts : List Tree} {wr : World} (h : RowT w B v ts wr) : ∀ k, v.ownBlock = some k → B ≤ k ∧ k < wr.heap.size := by
  obtain ⟨xs, h1, _⟩ := h; exact h1.lt
theorem RowT.keep {w : World} {B : Nat} {v : Value} {ts : List Tree} {wr w' : World} (h : RowT w B v ts wr) (hb : Below wr.heap.size wr w') : RowT w B v ts w' := by
  obtain ⟨xs, h1, h2⟩ := h; exact ⟨xs, own_keep h1 hb, h2⟩
theorem RowT.kept {w : World} {B : Nat} {v : Value} {ts : List Tree} {wr w' : World} {row : Option Nat} (h : RowT w B v ts wr) (hg : wr.grownBy w' row) (hne : ∀ k, v.ownBlock = some k → row ≠ some k) : RowT w B v ts w' := by
  obtain ⟨xs, h1, h2⟩ := h
  refine ⟨xs, h1.kept hg ?_, h2⟩
  cases e : v.ownBlock with
  | none => exact .inl rfl
  | some k => exact .inr fun h => hne k e h.symm
theorem RowT.rd {w : World} {B : Nat} {v : Value} {ts : List Tree} {wr : World} (h : RowT w B v ts wr) (hb : Below w.heap.size w wr) : Rd AnyB wr (.sl (ts.map Tree.d)) [v] := by
  obtain ⟨xs, h1, h2⟩ := h
  exact rd_of_own h1 (h2.below hb) (by simp) (fun _ _ => trivial)
theorem RowT.step {w : World} {B : Nat} {v' u : Value} {ts : List Tree} {t : Tree} {w' : World} {xs : List Value} {n : Nat} (hn : ts.length = n) (hd : RdAll AnyB w (ts.map Tree.d) xs) (hk : Rd AnyB w (.sl (t.kids.map Tree.d)) [u])
    (ho : w'.ownsRow B 32 3 v' (n + 1) (xs ++ [.int .i64 t.rule, .int .i64 t.term, u])) : RowT w B v' (ts ++ [t]) w' :=
  ⟨_, by rw [List.length_append, hn]; exact ho, by rw [List.map_append]; exact RdAll.append hd (RdAll.one (rd_tree hk))⟩
theorem RowT.pop {w : World} {B g cap n : Nat} {ts : List Tree} {t : Tree} {wr : World} (hn : ts.length = n) (h : RowT w B (.slice (some ⟨g, 0, none⟩) (n + 1) cap) (ts ++ [t]) wr) : RowT w B (.slice (some ⟨g, 0, none⟩) n cap) ts wr := by
  obtain ⟨xs, h1, h2⟩ := h
  rw [List.map_append] at h2
  obtain ⟨c1, c2, rfl, h3, h4⟩ := h2.split
  refine ⟨c1, ?_, h3⟩
  rw [List.length_append, hn] at h1
  rw [hn]
  exact ownsRow_pop (by rw [RdAll.len _ _ h3, cellsAll_eq (trees_cells ts)]; simp [hn]) h1
theorem RowT.top {w : World} {B g cap n : Nat} {ts : List Tree} {t : Tree} {wr : World} (hn : ts.length = n) (h : RowT w B (.slice (some ⟨g, 0, none⟩) (n + 1) cap) (ts ++ [t]) wr) :
    ∃ u, wr.cell? ⟨g, n * 3, none⟩ = some (.int .i64 t.rule) ∧ wr.cell? ⟨g, n * 3 + 1, none⟩ = some (.int .i64 t.term) ∧ wr.cell? ⟨g, n * 3 + 2, none⟩ = some u ∧ Rd AnyB w (.sl (t.kids.map Tree.d)) [u] := by
  obtain ⟨xs, h1, h2⟩ := h
  rw [List.map_append] at h2
  obtain ⟨c1, c2, rfl, h3, h4⟩ := h2.split
  rw [List.map_cons, List.map_nil, RdAll.one_iff] at h4
  obtain ⟨u, rfl, hk⟩ := h4.tree
  have hl : c1.length = n * 3 := by rw [RdAll.len _ _ h3, cellsAll_eq (trees_cells ts)]; simp [hn]
  have hc := fun j u hj => h1.cells (g := g) rfl j u hj
  simp only [add_at, Nat.zero_add] at hc
  refine ⟨u, hc _ _ ?_, hc _ _ ?_, hc _ _ ?_, hk⟩ <;> simp [← hl]
theorem RowT.block {w : World} {B n : Nat} {v : Value} {ts : List Tree} {wr : World} (h : RowT w B v ts wr) (hn : ts.length = n + 1) : ∃ g cap, v = .slice (some ⟨g, 0, none⟩) (n + 1) cap ∧ n + 1 ≤ cap ∧ cap ≤ maxLen ∧ B ≤ g ∧ g < wr.heap.size := by
  obtain ⟨xs, h1, h2⟩ := h
  have hlt := h1.lt
  rcases h1.2 with ⟨_, h0⟩ | ⟨g, cap, cur, hv, hg, hh, hn', hc, _⟩
  · omega
  · rw [hn] at hv hn'
    subst hv
    exact ⟨g, cap, rfl, hn', hc, (hlt g rfl).1, (hlt g rfl).2⟩
structure NodesRel (w : World) (st out : List Tree) (vt vo : Value) (wr : World) : Prop where
  ot : RowT w w.heap.size vt st wr
  oo : RowT w w.heap.size vo out wr
  ne : ∀ k, vt.ownBlock = some k → vo.ownBlock ≠ some k
  bel : Below w.heap.size w wr
structure InnerRel (w : World) (st out : List Tree) (vt vo : Value) (bx : Nat) (cs : Array Value) (wr : World) : Prop where
  rel : NodesRel w st out vt vo wr
  box : wr.heap[bx]? = some (.cells cs 32 (0, 0))
  apart : vt.ownBlock ≠ some bx
theorem nodes_leaf {t x : Tree} {s' out : List Tree} (h : out ++ nodesL (s' ++ [x]).reverse = nodes t) (hr : x.rule = -1) : (out ++ [x]) ++ nodesL s'.reverse = nodes t := by
  rw [← h]
  simp [nodesL, nodes_eq x, kidsOf, hr]
theorem nodes_inner {t x : Tree} {s' out : List Tree} (h : out ++ nodesL (s' ++ [x]).reverse = nodes t) (hr : x.rule ≠ -1) : (out ++ [x]) ++ nodesL (s' ++ x.kids.reverse).reverse = nodes t := by
  rw [← h]
  simp [nodesL, nodes_eq x, kidsOf, hr, nodesL_append]
theorem nodesL_rev_cons (s' : List Tree) (x : Tree) : (nodesL (s' ++ [x]).reverse).length = (nodes x).length + (nodesL s'.reverse).length := by simp [nodesL]
def NodesPost (t : Tree) (w : World) (e : Ending) (w' : World) : Prop := ∃ v, e = .returned v ∧ Rd AnyB w' (.sl ((nodes t).map Tree.d)) [v] ∧ Below w.heap.size w w'
set_option maxHeartbeats 2000000 in
set_option maxRecDepth 100000 in
theorem nodesE (t : Tree) (v : Value) (w : World) (hv : Rd AnyB w (.sl (t.kids.map Tree.d)) [v]) (hN : (nodes t).length ≤ 1099511627776) :
    Calls Tryd.prog 34 #[.agg #[.int .i64 t.rule, .int .i64 t.term, v]] w (NodesPost t w) := by
  obtain ⟨a, cap, rfl, -, -⟩ := hv.form
  obtain ⟨n, HN⟩ := nameIt (t.kids.map Tree.d).length
  rw [HN.out] at hv
  rw [HN.out]
  obtain ⟨w0, HW0⟩ := nameIt ((w.alloc (.cells #[.int .i64 t.rule, .int .i64 t.term, .slice a n cap] 32)).alloc (.cells #[.int .i64 t.rule, .int .i64 t.term, .slice a n cap] 32))
  have HR0 : Hid (NodesRel w [t] [] (.slice (some ⟨w.heap.size + 1, 0, none⟩) 1 1) (.slice none 0 0) w0) := by
    rw [← HW0.out]
    refine ⟨⟨_, own_lit (by simp) (by simp) rfl (by simp [maxLen]), RdAll.one (rd_tree hv)⟩, ⟨[], World.ownsRow_nil _ _ _ _, by simp [RdAll]⟩, by simp [Value.ownBlock], ((Below.refl _ _).alloc (Nat.le_refl _) _).alloc (by simp) _⟩
  have HNN := Lib.hid hN
  clear hv hN
  go_enter Tryd.func34, Tryd.ntmps34
  go_wp2_with fail
  rw [HW0.out]
  go_loopg [3, 4] (nodes t).length (fun gg v3 v4 wr => ∃ (st out : List Tree), Hid (out ++ nodesL st.reverse = nodes t) ∧ (nodesL st.reverse).length ≤ gg ∧ Hid (NodesRel w st out v3 v4 wr))
  case atStart => exact ⟨[t], [], by show _ = _; simp [nodesL], by simp [nodesL], HR0⟩
  case round =>
    clear HR0 HW0
    obtain ⟨wo, rfl⟩ : ∃ wo : World, wo = wr := ⟨_, rfl⟩
    obtain ⟨st, out, HE, hg, HR⟩ := hrel
    obtain ⟨a4, c4, rfl, ho1, ho2⟩ := HR.out.oo.form
    unfold maxLen at ho2
    rcases List.eq_nil_or_concat st with rfl | ⟨s', x, rfl⟩
    · obtain ⟨a3, c3, rfl, ht1, ht2⟩ := HR.out.ot.form
      have HE2 : Hid (nodes t = out) := by have h := HE.out; simp [nodesL] at h; exact h.symm
      simp only [List.length_nil]
      clear HE
      go_wp2_with fail
      go_ret
      exact ⟨_, rfl, by rw [HE2.out]; exact HR.out.oo.rd HR.out.bel, HR.out.bel⟩
    · rw [List.concat_eq_append] at *
      obtain ⟨k, HK⟩ := nameIt s'.length
      obtain ⟨gt, ct, rfl, ht1, ht2, ht3, ht4⟩ := HR.out.ot.block (n := k) (by simp [HK.out])
      obtain ⟨u, x0, x1, x2, hku⟩ := HR.out.ot.top HK.out
      obtain ⟨au, cu, rfl, hqq, hcu⟩ := hku.form
      obtain ⟨q, HQ⟩ := nameIt (x.kids.map Tree.d).length
      rw [HQ.out] at hqq
      rw [HQ.out] at x2 hku
      have HKU := Lib.hid hku
      have HPOP := Lib.hid (HR.out.ot.pop HK.out)
      obtain ⟨xs, hoo, hdo⟩ := HR.out.oo
      have HOO := Lib.hid hoo
      have HDO := Lib.hid hdo
      have hsz := HR.out.bel.size
      have hout : out.length ≤ (nodes t).length := by have h := congrArg List.length HE.out; simp at h; omega
      have hout2 : k + 1 ≤ (nodes t).length := by
        have h := congrArg List.length HE.out
        have h2 := len_nodesL (s' ++ [x]).reverse
        have h3 := HK.out
        simp at h h2; omega
      have hNN := HNN.out
      unfold maxLen at ht2 hcu
      obtain ⟨r, HXr⟩ := nameIt x.rule
      obtain ⟨tm, HXt⟩ := nameIt x.term
      rw [HXr.out] at x0
      rw [HXt.out] at x1
      have HB1 := Lib.hid ((Below.refl wo.heap.size wo).alloc (Nat.le_refl _) (.cells #[.int .i64 r, .int .i64 tm, .slice au q cu] 32))
      clear hku hoo hdo
      go_wp2_with (at_builtin; refine wp_app1at elTree rfl _ _ rfl (own_keep HOO.out HB1.out) rfl rfl (by simp) rfl rfl (by omega) (by unfold maxLen; omega) (by simp; omega) ?_)
      intro v' w' ho hg2 hat
      have hat' : v'.ownBlock = (Value.slice a4 out.length c4).ownBlock ∨ ∃ k, v'.ownBlock = some k ∧ wo.heap.size < k := by
        rcases hat with e | ⟨k, e, hk⟩
        · exact .inl e
        · exact .inr ⟨k, e, by first | omega | (simp at hk; omega)⟩
      have hR' : NodesRel w s' (out ++ [x]) (.slice (some ⟨gt, 0, none⟩) k ct) v' w' := by
        refine ⟨(HPOP.out.keep HB1.out).kept hg2 (fun k' e => fun h => HR.out.ne k' e h), RowT.step rfl HDO.out HKU.out (by rw [HXr.out, HXt.out]; exact ho), ?_, (HR.out.bel.trans (HB1.out.mono hsz)).grown hg2 (by simp; omega) (fun k' e => (HOO.out.lt k' e).1)⟩
        intro k' e
        rcases hat' with h | ⟨j, h, hj⟩
        · rw [h]; exact HR.out.ne k' e
        · rw [h]; intro h2; cases h2; have : gt = k' := (by simpa [Value.ownBlock] using e); omega
      have hbx : w'.heap[wo.heap.size]? = some (.cells #[.int .i64 r, .int .i64 tm, .slice au q cu] 32 (0, 0)) := by
        rw [hg2.block _ (by simp) (fun e => by have := (HOO.out.lt _ e.symm).2; omega)]
        exact bx_new _ _ _ rfl
      obtain ⟨a5, c5, hv', -, -⟩ := own_len ho
      subst hv'
      have HR' := Lib.hid hR'
      have HBX := Lib.hid hbx
      have hgtw : wo.heap.size < w'.heap.size := (Array.getElem?_eq_some_iff.1 hbx).1
      obtain ⟨y0, y1, y2⟩ := bx_cells3 hbx
      clear ho hg2 hat hat' hR' hbx HOO HDO HPOP HB1 x0 x1 x2
      by_cases hr : r = -1
      · have HE2 := Lib.hid (nodes_leaf HE.out (by rw [HXr.out, hr]))
        have hms : (nodesL s'.reverse).length < gk := by rw [nodesL_rev_cons] at hg; have := nodes_pos x; omega
        subst hr
        go_wp2_with fail
        go_roundg (nodesL s'.reverse).length
        case measure => exact hms
        case rel => exact ⟨s', out ++ [x], HE2, Nat.le_refl _, HR'⟩
      · have HE2 := Lib.hid (nodes_inner HE.out (by rw [HXr.out]; exact hr))
        have hrb : (r == -1) = false := by simpa using hr
        have HQK : Hid (x.kids.length = q) := by have h := HQ.out; rw [List.length_map] at h; exact h
        clear hr
        have HI0 : Hid (InnerRel w (s' ++ (x.kids.drop q).reverse) (out ++ [x]) (.slice (some ⟨gt, 0, none⟩) k ct) (.slice a5 (out.length + 1) c5) wo.heap.size #[.int .i64 r, .int .i64 tm, .slice au q cu] w') := by
          refine ⟨?_, HBX.out, by simp [Value.ownBlock]; omega⟩
          rw [List.drop_of_length_le (by rw [HQK.out]; omega)]
          simpa using HR'.out
        have hkq : ∀ j, (s' ++ (x.kids.drop j).reverse).length ≤ (nodes t).length := by
          intro j
          have h1 := congrArg List.length HE2.out
          have h2 := len_nodesL (s' ++ x.kids.reverse).reverse
          simp at h1 h2 ⊢
          omega
        have HKQ := Lib.hid hkq
        have hms : (nodesL (s' ++ x.kids.reverse).reverse).length < gk := by
          have h1 := congrArg List.length HE.out
          have h2 := congrArg List.length HE2.out
          simp only [List.length_append, List.length_cons, List.length_nil] at h1 h2
          omega
        clear HR' HBX hkq
        go_wp2_with fail
        go_loopg [3, 6] q (fun gg v3 v6 wq => ∃ (j : Nat) (z : Int), v6 = .int .i64 z ∧ Hid (z = (j : Int) - 1) ∧ j ≤ q ∧ j ≤ gg ∧ Hid (InnerRel w (s' ++ (x.kids.drop j).reverse) (out ++ [x]) v3 (.slice a5 (out.length + 1) c5) wo.heap.size #[.int .i64 r, .int .i64 tm, .slice au q cu] wq))
        case atStart => exact ⟨q, _, rfl, rfl, by omega, by omega, HI0⟩
        case round =>
          clear HI0 y0 y1 y2
          obtain ⟨j, z, rfl, HZ, hj, hjg, HI⟩ := hrel
          obtain ⟨y0, y1, y2⟩ := bx_cells3 HI.out.box
          cases j with
          | zero =>
            obtain rfl : z = -1 := by have := HZ.out; omega
            go_wp2_with fail
            go_roundg (nodesL (s' ++ x.kids.reverse).reverse).length
            case measure => exact hms
            case rel => exact ⟨_, out ++ [x], HE2, Nat.le_refl _, HI.out.rel⟩
          | succ i =>
            obtain rfl : z = (i : Int) := by have := HZ.out; omega
            have hiq : i < x.kids.length := by rw [HQK.out]; omega
            obtain ⟨b, off, u, hae, -, hbl, c0, c1, c2, hkid⟩ := HKU.out.kid hiq
            obtain ⟨av, cv, rfl, -, -⟩ := hkid.form
            obtain ⟨nv, HNV⟩ := nameIt (x.kids[i].kids.map Tree.d).length
            rw [HNV.out] at c2 hkid
            have hbel := HI.out.rel.bel
            have e0 := (hbel.cell (p := ⟨b, off + i * 3, none⟩) hbl).trans c0
            have e1 := (hbel.cell (p := ⟨b, off + i * 3 + 1, none⟩) hbl).trans c1
            have e2 := (hbel.cell (p := ⟨b, off + i * 3 + 2, none⟩) hbl).trans c2
            have HST : Hid (s' ++ (x.kids.drop i).reverse = (s' ++ (x.kids.drop (i + 1)).reverse) ++ [x.kids[i]]) := by
              show _ = _
              rw [List.drop_eq_getElem_cons hiq]; simp
            obtain ⟨kid, HKI⟩ := nameIt (x.kids[i]'hiq)
            rw [HKI.out] at e0 e1 hkid HST
            obtain ⟨q0, HQ0⟩ := nameIt kid.rule
            obtain ⟨q1, HQ1⟩ := nameIt kid.term
            rw [HQ0.out] at e0
            rw [HQ1.out] at e1
            obtain ⟨st, HSTN⟩ := nameIt (s' ++ (x.kids.drop (i + 1)).reverse)
            have hstl := HKQ.out (i + 1)
            rw [HSTN.out] at HI HST hstl
            obtain ⟨xs, hot, hdt⟩ := HI.out.rel.ot
            obtain ⟨at', ct', rfl, -, hct'⟩ := own_len hot
            unfold maxLen at hct'
            have hsz2 := hbel.size
            have hlt5 := (Array.getElem?_eq_some_iff.1 HI.out.box).1
            have HKD := Lib.hid hkid
            have HOT := Lib.hid hot
            have HDT := Lib.hid hdt
            subst hae
            clear hkid hot hdt hbel c0 c1 c2
            have i1 : (i : Int) < (q : Int) := by omega
            go_wp2_with (at_builtin; refine wp_app1at elTree rfl _ _ rfl HOT.out rfl rfl (by simp) rfl rfl (by omega) (by unfold maxLen; omega) (by omega) ?_)
            intro v3' w3 ho hg3 hat
            have hI' : InnerRel w (s' ++ (x.kids.drop i).reverse) (out ++ [x]) v3' (.slice a5 (out.length + 1) c5) wo.heap.size #[.int .i64 r, .int .i64 tm, .slice (some ⟨b, off, none⟩) q cu] w3 := by
              rw [HST.out]
              refine ⟨⟨RowT.step rfl HDT.out HKD.out (by rw [HQ0.out, HQ1.out]; exact ho), HI.out.rel.oo.kept hg3 (fun k' e h => HI.out.rel.ne k' h e), ?_, HI.out.rel.bel.grown hg3 (by omega) (fun k' e => (HOT.out.lt k' e).1)⟩, ?_, ?_⟩
              · intro k' e
                rcases hat with h | ⟨j', h, hj'⟩
                · rw [h] at e; exact HI.out.rel.ne k' e
                · rw [h] at e
                  cases e
                  intro h2
                  have := (HI.out.rel.oo.lt _ h2).2
                  omega
              · rw [hg3.block _ hlt5 (fun e => HI.out.apart e.symm)]; exact HI.out.box
              · rcases hat with h | ⟨j', h, hj'⟩
                · rw [h]; exact HI.out.apart
                · rw [h]; intro e; cases e; omega
            have HI' := Lib.hid hI'
            obtain ⟨a6, c6, hv6, -, -⟩ := own_len ho
            subst hv6
            clear ho hg3 hat hI' HKD HOT HDT HI y0 y1 y2 e0 e1 e2
            go_wp2_with fail
            go_roundg i
            case measure => omega
            case rel => exact ⟨i, _, rfl, by show _ = _; go_num, by omega, by omega, HI'⟩
end Go.Proofs.YtgcfpbjifjklbaaDoor
namespace Go.Proofs.YtgcfpbjifjklbaaDoor
open Go.RowKit
theorem paths_eq (t : Tree) : paths t = [] :: pathsL 0 (kidsOf t) := by
  cases t with
  | node r tm ks => by_cases h : r = -1 <;> simp [paths, kidsOf, Tree.rule, Tree.kids, h, pathsL]
theorem pathsL_append : ∀ (a b : List Tree) (n : Nat), pathsL n (a ++ b) = pathsL n a ++ pathsL (n + a.length) b
  | [], b, n => by simp [pathsL]
  | x :: a, b, n => by
    rw [List.cons_append, pathsL, pathsL, pathsL_append a b, List.append_assoc, List.length_cons]
    congr 3; omega
theorem pathsL_take {ks : List Tree} {i : Nat} (h : i < ks.length) : pathsL 0 (ks.take (i + 1)) = pathsL 0 (ks.take i) ++ (paths ks[i]).map (fun p => (i : Int) :: p) := by
  rw [List.take_succ_eq_append_getElem h, pathsL_append]
  simp [pathsL, Nat.min_eq_left (Nat.le_of_lt h)]
mutual
theorem paths_len : ∀ (t : Tree), (paths t).length = (nodes t).length
  | .node r tm ks => by
    rw [paths, nodes]
    by_cases h : r = -1
    · simp [h]
    · simp [h, pathsL_len ks 0]
theorem pathsL_len : ∀ (ks : List Tree) (n : Nat), (pathsL n ks).length = (nodesL ks).length
  | [], n => by simp [pathsL, nodesL]
  | k :: ks, n => by simp [pathsL, nodesL, paths_len k, pathsL_len ks]
end
mutual
theorem path_le : ∀ (t : Tree), ∀ p ∈ paths t, p.length < (nodes t).length
  | .node r tm ks => by
    rw [paths, nodes]
    by_cases h : r = -1
    · simp [h]
    · have := pathL_le ks 0
      simp only [h, if_false, List.mem_cons, List.length_cons]
      rintro p (rfl | hp)
      · simp
      · have := this p hp; omega
theorem pathL_le : ∀ (ks : List Tree) (n : Nat), ∀ p ∈ pathsL n ks, p.length ≤ (nodesL ks).length
  | [], n => by simp [pathsL]
  | k :: ks, n => by
    rw [pathsL, nodesL]
    intro p hp
    rw [List.mem_append] at hp
    rcases hp with hp | hp
    · rw [List.mem_map] at hp
      obtain ⟨q, hq, rfl⟩ := hp
      have := path_le k q hq
      simp; omega
    · have := pathL_le ks (n + 1) p hp
      simp; omega
end
theorem kid_nodes_lt' {t : Tree} (hr : t.rule ≠ -1) {i : Nat} (h : i < t.kids.length) : (nodes t.kids[i]).length < (nodes t).length := by
  have e : kidsOf t = t.kids := by simp [kidsOf, hr]
  have := nodesL_kid h
  rw [nodes_eq t, e]
  simp; omega
theorem elInts : ElemT Tryd.prog 89 37 1 24 := ElemT.mk' (z := .slice none 0 0) Tryd.underlying89 (by kernel_rfl) rfl (by decide)
theorem intsD_cells (l : List (List Int)) : ∀ d ∈ l.map D.ints, d.cells = 1 := by
  intro d hd
  simp at hd
  obtain ⟨p, _, rfl⟩ := hd
  rfl
structure RowP (w : World) (l : List (List Int)) (v : Value) (wr : World) : Prop where
  own : ∃ xs, wr.ownsRow w.heap.size 37 1 v l.length xs ∧ RdAll (fun k => w.heap.size ≤ k ∧ v.ownBlock ≠ some k) wr (l.map D.ints) xs
  bel : Below w.heap.size w wr
theorem RowP.keep {w : World} {l : List (List Int)} {v : Value} {wr w' : World} (h : RowP w l v wr) (hb : Below wr.heap.size wr w') : RowP w l v w' := by
  obtain ⟨⟨xs, h1, h2⟩, h3⟩ := h
  exact ⟨⟨xs, own_keep h1 hb, h2.below hb⟩, h3.trans (hb.mono h3.size)⟩
theorem RowP.form {w : World} {l : List (List Int)} {v : Value} {wr : World} (h : RowP w l v wr) : ∃ a cap, v = .slice a l.length cap ∧ l.length ≤ cap ∧ cap ≤ maxLen ∧ ∀ k, v.ownBlock = some k → w.heap.size ≤ k ∧ k < wr.heap.size := by
  obtain ⟨⟨xs, h1, h2⟩, h3⟩ := h
  obtain ⟨a, cap, rfl, e1, e2⟩ := own_len h1
  exact ⟨a, cap, rfl, e1, e2, h1.lt⟩
theorem RowP.rd {w : World} {l : List (List Int)} {v : Value} {wr : World} (h : RowP w l v wr) : Rd (fun k => w.heap.size ≤ k) wr (.sl (l.map D.ints)) [v] := by
  obtain ⟨⟨xs, h1, h2⟩, h3⟩ := h
  exact rd_of_own h1 (h2.mono fun k hk _ => hk.1) (by simp) (fun k e => (h1.lt k e).1)
theorem RowP.step {w : World} {l : List (List Int)} {v v' pv : Value} {wr W0 W1 : World} {p : List Int} {g : Nat} (hh : wr.heap.size ≤ g) {xs : List Value} (h1 : wr.ownsRow w.heap.size 37 1 v l.length xs) (h2 : RdAll (fun k => w.heap.size ≤ k ∧ v.ownBlock ≠ some k) wr (l.map D.ints) xs) (h3 : Below w.heap.size w wr)
    (hb : Below wr.heap.size wr W0) (hp : Rd (fun k => k = g) W0 (D.ints p) [pv])
    (ho : W1.ownsRow w.heap.size 37 1 v' (l.length + 1) (xs ++ [pv])) (hg : W0.grownBy W1 v.ownBlock) (hat : v'.ownBlock = v.ownBlock ∨ ∃ k, v'.ownBlock = some k ∧ W0.heap.size ≤ k) : RowP w (l ++ [p]) v' W1 := by
  have hs := hb.size
  have hsw := h3.size
  refine ⟨⟨xs ++ [pv], by simpa using ho, ?_⟩, (h3.trans (hb.mono h3.size)).grown hg (by omega) (fun k e => (h1.lt k e).1)⟩
  rw [List.map_append]
  refine own_step (h2.below hb) (RdAll.one (hp.mono fun k hk hlt => ⟨by omega, fun e => ?_⟩)) hg hat
  have := (h1.lt k e).2
  omega
def PathsPost (l : List (List Int)) (w : World) (e : Ending) (w' : World) : Prop := ∃ v, e = .returned v ∧ Rd (fun k => w.heap.size ≤ k) w' (.sl (l.map D.ints)) [v] ∧ Below w.heap.size w w'
structure InRel (w : World) (l C : List (List Int)) (H1 H2 : Nat) (v cv : Value) (wr : World) : Prop where
  row : RowP w l v wr
  apart : ∀ k, v.ownBlock = some k → k < H1 ∨ H2 ≤ k
  kid : Rd (fun k => H1 ≤ k ∧ k < H2) wr (.sl (C.map D.ints)) [cv]
  sz : H2 ≤ wr.heap.size
set_option maxHeartbeats 2000000 in
set_option maxRecDepth 100000 in
theorem pathsE : ∀ (m : Nat) (t : Tree) (v : Value) (w : World), (nodes t).length ≤ m → Rd AnyB w (.sl (t.kids.map Tree.d)) [v] → (nodes t).length ≤ 1099511627776 →
    Calls Tryd.prog 44 #[.agg #[.int .i64 t.rule, .int .i64 t.term, v]] w (PathsPost (paths t) w) := by
  intro m
  induction m with
  | zero => intro t v w hm; have := nodes_pos t; omega
  | succ m ih =>
  intro t v w hm hv hN
  obtain ⟨a, nk, cap, rfl⟩ := treeBox hv
  have HV := Lib.hid hv
  have IH := Lib.hid ih
  have HM := Lib.hid hm
  have HN := Lib.hid hN
  have HNK : Hid (t.kids.length = nk) := by show _ = _; have := hv.bounds.1; simpa using this.symm
  have hcap : nk ≤ 9223372036854775807 := by have := hv.bounds; unfold maxLen at this; omega
  obtain ⟨r, HRr⟩ := nameIt t.rule
  obtain ⟨tm, HRt⟩ := nameIt t.term
  rw [HRr.out, HRt.out]
  obtain ⟨w0, HW0⟩ := nameIt ((w.alloc (.cells #[.int .i64 r, .int .i64 tm, .slice a nk cap] 32)).alloc (.cells #[.slice none 0 0] 37))
  have X0 : Hid (w0.heap[w.heap.size]? = some (.cells #[.int .i64 r, .int .i64 tm, .slice a nk cap] 32 (0, 0))) := by
    rw [← HW0.out]; exact bx_keep (bx_new _ _ _ rfl) ((Below.refl _ _).alloc (Nat.le_refl _) _)
  have HR0 : Hid (RowP w [[]] (.slice (some ⟨w.heap.size + 1, 0, none⟩) 1 1) w0) := by
    rw [← HW0.out]
    refine ⟨⟨[.slice none 0 0], own_lit (n := 1) (by simp) (by simp) rfl (by simp [maxLen]), RdAll.one ?_⟩, ((Below.refl _ _).alloc (Nat.le_refl _) _).alloc (by simp) _⟩
    exact rd_nil _ _
  obtain ⟨x0, x1, x2⟩ := bx_cells3 X0.out
  clear hv ih hm hN
  go_enter Tryd.func44, Tryd.ntmps44
  by_cases hr : r = -1
  · have hrb : (r == -1) = true := by simpa using hr
    have HE : Hid (paths t = [[]]) := by show _ = _; rw [paths_eq, kidsOf, HRr.out, if_pos hr]; simp [pathsL]
    clear hr
    go_upto_region 2 with fail
    rw [HW0.out]
    go_wp2_with fail
    go_ret
    refine ⟨_, rfl, ?_, HR0.out.bel⟩
    rw [HE.out]
    exact HR0.out.rd
  · have hrb : (r == -1) = false := by simpa using hr
    have HKE : Hid (kidsOf t = t.kids) := by show _ = _; rw [kidsOf, HRr.out, if_neg hr]
    have HCR : Hid (t.rule ≠ -1) := by show _ ≠ _; rw [HRr.out]; exact hr
    have HS0 : Hid (RowP w ([] :: pathsL 0 (t.kids.take 0)) (.slice (some ⟨w.heap.size + 1, 0, none⟩) 1 1) w0) := by show RowP _ _ _ _; simpa [pathsL] using HR0.out
    clear hr
    go_upto_region 2 with fail
    rw [HW0.out]
    go_wp2_with fail
    go_loopg [3, 16] nk (fun gg v3 v16 wr => ∃ i : Nat, i ≤ nk ∧ nk - i ≤ gg ∧ v16 = .int .i64 i ∧ Hid (RowP w ([] :: pathsL 0 (t.kids.take i)) v3 wr))
    case atStart => exact ⟨0, by omega, by omega, rfl, HS0⟩
    case round =>
      clear HS0 HR0 x0 x1 x2 X0 HW0
      obtain ⟨wo, rfl⟩ : ∃ wo : World, wo = wr := ⟨_, rfl⟩
      obtain ⟨i, hi, hg, rfl, HR⟩ := hrel
      obtain ⟨a3, c3, rfl, hc1, hc2, hc3⟩ := HR.out.form
      have HOL := Lib.hid hc3
      unfold maxLen at hc2
      clear hc3
      by_cases hlt : i < nk
      · have hlt' : (i : Int) < (nk : Int) := by omega
        have hik : i < t.kids.length := by rw [HNK.out]; exact hlt
        obtain ⟨b, off, v, hae, -, hbl, k0, k1, k2, hkid⟩ := HV.out.kid hik
        obtain ⟨av, nv, cv, rfl⟩ := treeBox hkid
        have e0 := (HR.out.bel.cell (p := ⟨b, off + i * 3, none⟩) hbl).trans k0
        have e1 := (HR.out.bel.cell (p := ⟨b, off + i * 3 + 1, none⟩) hbl).trans k1
        have e2 := (HR.out.bel.cell (p := ⟨b, off + i * 3 + 2, none⟩) hbl).trans k2
        have hnk := kid_nodes_lt' HCR.out hik
        have HT := Lib.hid (pathsL_take hik)
        have HLN : Hid ((pathsL 0 (t.kids.take (i + 1))).length + 1 ≤ 1099511627776) := by
          show _ ≤ _
          have h1 := HN.out
          rw [nodes_eq, HKE.out] at h1
          have h2 := nodesL_take_le t.kids (i + 1)
          rw [pathsL_len]
          simp at h1; omega
        obtain ⟨x, HX⟩ := nameIt (t.kids[i]'hik)
        rw [HX.out] at e0 e1 hkid HT hnk
        obtain ⟨q0, HQ0⟩ := nameIt x.rule
        obtain ⟨q1, HQ1⟩ := nameIt x.term
        have hb3 := (Below.refl wo.heap.size wo).alloc (Nat.le_refl _) (.cells #[.int .i64 q0, .int .i64 q1, .slice av nv cv] 32)
        have hlc := IH.out x _ _ (by have := HM.out; omega) ((hkid.below HR.out.bel).below hb3) (by have := HN.out; omega)
        rw [HQ0.out] at e0 hlc
        rw [HQ1.out] at e1 hlc
        have HLC := Lib.hid hlc
        have HB3 := Lib.hid hb3
        have HPX : Hid (∀ p ∈ paths x, p.length + 1 ≤ 1099511627776) := fun p hp => by
          have h1 := path_le x p hp
          have h2 := HN.out
          omega
        have hxn : (paths x).length ≤ 1099511627776 := by rw [paths_len]; have := HN.out; omega
        obtain ⟨L, HL⟩ := nameIt ([] :: pathsL 0 (t.kids.take i))
        obtain ⟨C, HC⟩ := nameIt (paths x)
        rw [HC.out] at HLC HT HPX hxn
        rw [HL.out] at HR HOL hc1
        rw [HL.out]
        have HLC2 : Hid (L.length + C.length ≤ 1099511627776) := by
          show _ ≤ _
          have h1 := HLN.out
          rw [HT.out] at h1
          rw [← HL.out]
          simp at h1 ⊢; omega
        subst hae
        clear k0 k1 k2 hkid hlc hb3 hnk HLN
        go_wp2_with fail
        refine HLC.out.mono ?_
        rintro e w1 ⟨v1, rfl, hr1, hb1⟩
        obtain ⟨a1, c1, rfl, hd1, hd2⟩ := hr1.form
        rw [List.length_map] at hr1 hd1
        rw [List.length_map]
        unfold maxLen at hd2
        obtain ⟨H1, HH1⟩ : ∃ h, Hid (wo.heap.size + 1 = h) := ⟨_, rfl⟩
        obtain ⟨H2, HH2⟩ : ∃ h, Hid (w1.heap.size = h) := ⟨_, rfl⟩
        have HI0 : Hid (InRel w (L ++ (C.take 0).map (fun p => (i : Int) :: p)) C H1 H2 (.slice a3 L.length c3) (.slice a1 C.length c1) w1) := by
          have hbb := HB3.out.trans (hb1.mono HB3.out.size)
          refine ⟨by simpa using HR.out.keep hbb, fun k e => .inl (by have := (HOL.out k e).2; have := HH1.out; omega), hr1.mono fun k hk hlt => ⟨by have := HH1.out; simp at hk; omega, by have := HH2.out; omega⟩, by have := HH2.out; omega⟩
        have HBI : Hid (Below w.heap.size w w1) := HI0.out.row.bel
        clear hr1 hb1 HLC e0 e1 e2 HB3 HR HOL
        go_wp2_with fail
        go_loopg [3, 24] C.length (fun gg' v3 v24 wr => ∃ j : Nat, j ≤ C.length ∧ C.length - j ≤ gg' ∧ v24 = .int .i64 j ∧ Hid (InRel w (L ++ (C.take j).map (fun p => (i : Int) :: p)) C H1 H2 v3 (.slice a1 C.length c1) wr))
        case atStart => exact ⟨0, by omega, by omega, rfl, HI0⟩
        case round =>
          clear HI0 HBI
          obtain ⟨j, hj, hgj, rfl, HJ⟩ := hrel
          by_cases hjl : j < C.length
          · have hjl' : (j : Int) < (C.length : Int) := by omega
            obtain ⟨b1, off1, cs, hae1, hb1S, hb1l, hcs, hcl, hcc⟩ := HJ.out.kid.at (intsD_cells C) (by decide) (i := j) (by simpa using hjl)
            rw [List.getElem_map] at hcs
            obtain ⟨pv, rfl⟩ := List.length_eq_one_iff.1 hcl
            have d0 := hcc 0 (by simp)
            simp only [Nat.mul_one, Nat.add_zero, List.getElem_cons_zero] at d0
            have hpl := HPX.out C[j] (List.getElem_mem hjl)
            have HTJ : Hid (L ++ (C.take (j + 1)).map (fun p => (i : Int) :: p) = (L ++ (C.take j).map (fun p => (i : Int) :: p)) ++ [(i : Int) :: C[j]]) := by
              show _ = _
              rw [List.take_succ_eq_append_getElem hjl, List.map_append, List.append_assoc]; rfl
            have HJL : Hid ((L ++ (C.take j).map (fun p => (i : Int) :: p)).length + 1 ≤ 1099511627776) := by
              show _ ≤ _
              have := HLC2.out
              simp; omega
            have hsl := sl_rd hcs
            obtain ⟨ap, cp, rfl⟩ := hsl.form
            rw [ints_len] at hsl d0
            obtain ⟨p, HP⟩ := nameIt (C[j]'hjl)
            rw [HP.out] at hsl d0 HTJ hpl
            obtain ⟨M, HMM⟩ := nameIt (L ++ (C.take j).map (fun p => (i : Int) :: p))
            rw [HMM.out] at HJ HTJ HJL
            have hML := HJL.out
            have HRow := HJ.out.row.own
            obtain ⟨xs, ho1, ho2⟩ := HRow
            have HO1 := Lib.hid ho1
            have HO2 := Lib.hid ho2
            obtain ⟨am, cm, rfl, hm1, hm2⟩ := own_len ho1
            unfold maxLen at hm2
            have hsz := HJ.out.row.bel.size
            have HSL := Lib.hid (hsl.keep ((Below.refl wr.heap.size wr).alloc (Nat.le_refl _) (.cells #[.int .i64 (i : Int)] 3)))
            have HLT1 := Lib.hid ho1.lt
            subst hae1
            clear hcs hcl hcc hsl ho1 ho2
            go_wp2_with (at_builtin; refine wp_appS elInt rfl _ _ rfl (own_lit (B := wr.heap.size) (n := 1) rfl (Nat.le_refl _) rfl (by simp [maxLen])) rfl HSL.out rfl (ints_one p) (by rw [ints_len]; omega) (by rw [ints_len]; unfold maxLen; omega) (by simp) ?_)
            intro v5 w5 ho5 hg5
            obtain ⟨g5, c5, rfl⟩ := own_form ho5 (by omega)
            have hg5l := ho5.lt g5 rfl
            have HB5 : Hid (Below wr.heap.size wr w5) := ((Below.refl wr.heap.size wr).alloc (Nat.le_refl _) (.cells #[.int .i64 (i : Int)] 3)).grown hg5 (by simp) (fun k e => by simp [Value.ownBlock] at e; omega)
            have HRP : Hid (Rd (fun k => k = g5) w5 (D.ints ((i : Int) :: p)) [.slice (some ⟨g5, 0, none⟩) (1 + (ints p).length) c5]) := by
              refine rd_of_own ho5 ((rdAll_ints ((i : Int) :: p) _).2 rfl) (by simp [ints]; omega) (fun k e => ?_)
              simp [Value.ownBlock] at e
              exact e.symm
            obtain ⟨N5, HN5⟩ := nameIt (1 + (ints p).length)
            rw [HN5.out] at HRP
            rw [HN5.out]
            have hs5 : wr.heap.size ≤ w5.heap.size := HB5.out.size
            clear ho5 hg5
            go_wp2_with (at_builtin; refine wp_app1at elInts rfl _ _ rfl (own_keep HO1.out HB5.out) rfl rfl (by simp) rfl rfl (by omega) (by unfold maxLen; omega) (by omega) ?_)
            intro v' w' ho hg2 hat
            have HJ' : Hid (InRel w (M ++ [(i : Int) :: p]) C H1 H2 v' (.slice (some ⟨b1, off1, none⟩) C.length c1) w') := by
              have hst := RowP.step hg5l.1 HO1.out HO2.out HJ.out.row.bel HB5.out HRP.out ho hg2 hat
              refine ⟨hst, fun k e => ?_, ?_, ?_⟩
              · rcases hat with h | ⟨z, h, hz⟩
                · exact HJ.out.apart k (by rw [← h]; exact e)
                · rw [h] at e; cases e
                  have := HJ.out.sz
                  exact .inr (by omega)
              · refine Rd.keep (fun k hk hkl => ⟨hk, ?_⟩) _ _ HJ.out.kid
                rw [hg2.block k (by omega) (fun e => by have := HJ.out.apart k e.symm; omega), HB5.out.block k hkl]
              · have := HJ.out.sz
                have := hg2.size
                omega
            obtain ⟨a', c', rfl, -, -⟩ := own_len ho
            rw [← HTJ.out] at HJ'
            clear ho hg2 hat
            go_wp2_with fail
            go_roundg (C.length - (j + 1))
            case measure => omega
            case rel => exact ⟨j + 1, by omega, by omega, by go_num, HJ'⟩
          · have hjl' : ¬ (j : Int) < (C.length : Int) := by omega
            have HE : Hid (L ++ (C.take j).map (fun p => (i : Int) :: p) = [] :: pathsL 0 (t.kids.take (i + 1))) := by
              show _ = _
              rw [List.take_of_length_le (by omega), HT.out, ← HL.out]; simp
            have HRR := Lib.hid HJ.out.row
            rw [HE.out] at HRR
            go_wp2_with fail
            go_roundg (nk - (i + 1))
            case measure => omega
            case rel => exact ⟨i + 1, by omega, by omega, by go_num, HRR⟩
      · have hlt' : ¬ (i : Int) < (nk : Int) := by omega
        have HPE : Hid (paths t = [] :: pathsL 0 (t.kids.take i)) := by
          show _ = _
          rw [paths_eq, HKE.out, List.take_of_length_le (by have := HNK.out; omega)]
        obtain ⟨L, HL⟩ := nameIt ([] :: pathsL 0 (t.kids.take i))
        rw [HL.out] at HR HPE
        rw [HL.out]
        clear HOL hc1
        go_wp2_with fail
        go_ret
        refine ⟨_, rfl, ?_, HR.out.bel⟩
        rw [HPE.out]
        exact HR.out.rd
end Go.Proofs.YtgcfpbjifjklbaaDoor
namespace Go.Proofs.YtgcfpbjifjklbaaDoor
open Go.RowKit
namespace Fb
abbrev NodeP := Tree → Nat → Nat → Bool
mutual
def okH (P : NodeP) : Tree → Nat → Bool
  | .node r t ks, n => (r == -1) || (okHL P ks n && P (.node r t ks) n (n + lvs ks))
def okHL (P : NodeP) : List Tree → Nat → Bool
  | [], _ => true
  | k :: ks, n => okH P k n && okHL P ks (n + lv k)
end
section
variable {P P' : NodeP}
theorem okH_leaf {t : Tree} {n : Nat} (h : t.rule = -1) : okH P t n = true := by
  cases t with
  | node r tm ks => have h : r = -1 := h; rw [okH, h]; rfl
theorem okH_node {t : Tree} {n : Nat} (h : t.rule ≠ -1) : okH P t n = (okHL P t.kids n && P t n (n + lvs t.kids)) := by
  cases t with
  | node r tm ks =>
    have h : r ≠ -1 := h
    rw [okH, show (r == -1) = false from by simpa using h]
    rfl
theorem okHL_append : ∀ (a b : List Tree) (n : Nat), okHL P (a ++ b) n = (okHL P a n && okHL P b (n + lvs a))
  | [], b, n => by simp [okHL, lvs]
  | x :: a, b, n => by rw [List.cons_append, okHL, okHL, okHL_append a b, lvs, Bool.and_assoc, Nat.add_assoc]
theorem okHL_take {ks : List Tree} {i : Nat} (h : i < ks.length) (n : Nat) : okHL P (ks.take (i + 1)) n = (okHL P (ks.take i) n && okH P ks[i] (n + lvs (ks.take i))) := by
  rw [List.take_succ_eq_append_getElem h, okHL_append]
  simp [okHL]
theorem okHL_false {ks : List Tree} {i : Nat} {n : Nat} (h : okHL P (ks.take i) n = false) : okHL P ks n = false := by
  rw [← List.take_append_drop i ks, okHL_append, h]; rfl
mutual
theorem okH_congr {M : Nat} (hP : ∀ y i j, i ≤ j → j ≤ M → P y i j = P' y i j) : ∀ (t : Tree) (n : Nat), n + lv t ≤ M → okH P t n = okH P' t n
  | .node r tm ks, n, h => by
    rw [okH, okH]
    by_cases hr : r = -1
    · rw [show (r == -1) = true from by simpa using hr]; rfl
    · have hl : lv (.node r tm ks) = lvs ks := lv_inner (t := .node r tm ks) hr
      rw [hl] at h
      rw [okHL_congr hP ks n h, hP _ _ _ (by omega) h]
theorem okHL_congr {M : Nat} (hP : ∀ y i j, i ≤ j → j ≤ M → P y i j = P' y i j) : ∀ (ks : List Tree) (n : Nat), n + lvs ks ≤ M → okHL P ks n = okHL P' ks n
  | [], n, _ => by rw [okHL, okHL]
  | k :: ks, n, h => by
    rw [lvs] at h
    rw [okHL, okHL, okH_congr hP k n (by omega), okHL_congr hP ks (n + lv k) (by omega)]
end
def atP (P : NodeP) (t : Tree) (n : Nat) (p : List Int) : Bool := match belowT t p with
  | some y => (y.rule == -1) || P y (n + (rangeT t p).1) (n + (rangeT t p).2)
  | none => true
mutual
theorem okH_paths : ∀ (t : Tree) (n : Nat), okH P t n = (paths t).all (atP P t n)
  | .node r tm ks, n => by
    rw [okH, paths]
    have h0 : atP P (.node r tm ks) n [] = ((r == -1) || P (.node r tm ks) n (n + lv (.node r tm ks))) := by
      unfold atP
      rw [belowT, rangeT]
      rfl
    by_cases h : r = -1
    · rw [if_pos h, List.all_cons, h0, show (r == -1) = true from by simpa using h]; rfl
    · have hb : (r == -1) = false := by simpa using h
      have hl : lv (.node r tm ks) = lvs ks := lv_inner (t := .node r tm ks) h
      rw [if_neg h, List.all_cons, h0, hb, Bool.false_or, Bool.false_or, hl]
      have := okHL_paths ks (.node r tm ks) [] n h (by simp [Tree.kids])
      rw [show n + lvs ([] : List Tree) = n from rfl] at this
      rw [this, Bool.and_comm]; rfl
theorem okHL_paths : ∀ (ks : List Tree) (t : Tree) (pre : List Tree) (n : Nat), t.rule ≠ -1 → t.kids = pre ++ ks → okHL P ks (n + lvs pre) = (pathsL pre.length ks).all (atP P t n)
  | [], t, pre, n, _, h => by simp [okHL, pathsL]
  | k :: ks, t, pre, n, hr, h => by
    rw [okHL, pathsL, List.all_append, List.all_map]
    congr 1
    · rw [okH_paths k]
      have hk : t.kids[pre.length]? = some k := by rw [h]; simp
      refine congrArg (fun f => List.all (paths k) f) (funext fun p => ?_)
      show atP P k (n + lvs pre) p = atP P t n ((pre.length : Int) :: p)
      unfold atP
      rw [belowT, rangeT_cons hk]
      have hka : kidAt t (pre.length : Int) = some k := by
        unfold kidAt
        rw [if_neg (by simp [hr]), Int.toNat_natCast, hk]
      rw [hka, Option.bind_some]
      have ht : lvs (t.kids.take pre.length) = lvs pre := by rw [h]; simp
      rw [ht]
      simp [shift, Nat.add_assoc]
    · have := okHL_paths ks t (pre ++ [k]) n hr (by rw [h]; simp)
      have e : lvs (pre ++ [k]) = lvs pre + lv k := by rw [lvs_append]; simp [lvs]
      rw [e, List.length_append] at this
      rw [Nat.add_assoc]
      exact this
end
end
def banHit (bans : List Ban) (y : Tree) (i : Nat) : Bool := match y.kids[i]? with
  | some k => decide ((⟨y.rule, (i : Int), k.rule⟩ : Ban) ∈ bans)
  | none => false
def banAny (bans : List Ban) (y : Tree) (n : Nat) : Bool := (List.range n).any (banHit bans y)
theorem banAny_succ (bans : List Ban) (y : Tree) (n : Nat) : banAny bans y (n + 1) = (banAny bans y n || banHit bans y n) := by
  unfold banAny
  rw [List.range_succ, List.any_append]
  simp
theorem banAny_true {bans : List Ban} {y : Tree} {n m : Nat} (h : banAny bans y n = true) (hm : n ≤ m) : banAny bans y m = true := by
  unfold banAny at *
  rw [List.any_eq_true] at *
  obtain ⟨i, hi, h⟩ := h
  exact ⟨i, List.mem_range.2 (by have := List.mem_range.1 hi; omega), h⟩
theorem banHit_at {bans : List Ban} {y : Tree} {i : Nat} (h : i < y.kids.length) : banHit bans y i = decide ((⟨y.rule, (i : Int), y.kids[i].rule⟩ : Ban) ∈ bans) := by
  unfold banHit
  rw [List.getElem?_eq_getElem h]
def rejHit (rejs : List Rej) (lf : Int) (T : Int → Nat → Nat → Bool) (i j : Nat) : Bool := rejs.any fun q => (q.n == lf) && T q.m i j
def permP (g : Gram) (x : Filt) (T : Int → Nat → Nat → Bool) : NodeP := fun y i j => !banAny x.bans y y.kids.length && !rejHit x.rejs (ruleAt g y.rule).left T i j
theorem rejHit_congr {rejs : List Rej} {lf : Int} {T T' : Int → Nat → Nat → Bool} {i j : Nat} (h : ∀ q ∈ rejs, T q.m i j = T' q.m i j) : rejHit rejs lf T i j = rejHit rejs lf T' i j := by
  unfold rejHit
  induction rejs with
  | nil => rfl
  | cons q l ih =>
    rw [List.any_cons, List.any_cons, h q (by simp), ih fun q hq => h q (List.mem_cons_of_mem _ hq)]
def allowB (g : Gram) (x : Filt) (T : Int → Nat → Nat → Bool) (t : Tree) : Bool := (paths t).all (atP (permP g x T) t 0)
def holdB (g : Gram) (x : Filt) (T : Int → Nat → Nat → Bool) (t : Tree) : Bool := okH (permP g x T) t 0
theorem hold_allow {g : Gram} {x : Filt} {T T' : Int → Nat → Nat → Bool} {t : Tree} (h : ∀ q ∈ x.rejs, ∀ i j, i ≤ j → j ≤ lv t → T q.m i j = T' q.m i j) : holdB g x T t = allowB g x T' t := by
  unfold holdB allowB
  rw [← okH_paths]
  refine okH_congr (M := lv t) (fun y i j h1 h2 => ?_) t 0 (by omega)
  unfold permP
  rw [rejHit_congr fun q hq => h q hq i j h1 h2]
theorem filtF_bans {g : Gram} {x : Filt} (h : filtF g x = 0) : x.bans.length ≤ 400 ∧ x.rejs.length ≤ 20 ∧ (∀ b ∈ x.bans, 0 ≤ b.kid) ∧ ∀ q ∈ x.rejs, 0 ≤ q.n ∧ q.n < g.nons ∧ 0 ≤ q.m ∧ q.m < g.nons := by
  unfold filtF at h
  by_cases h1 : 400 < x.bans.length ∨ 20 < x.rejs.length
  · rw [if_pos h1] at h; exact absurd h (by decide)
  rw [if_neg h1] at h
  by_cases h2 : firstF (banF g) x.bans = 0
  · rw [if_neg (by simpa using h2)] at h
    refine ⟨by omega, by omega, fun b hb => ?_, fun q hq => ?_⟩
    · have := firstF_zero h2 b hb
      unfold banF at this
      cases ha : banArg g b with
      | true => rw [ha] at this; simp at this
      | false =>
        obtain ⟨i, k, p, e1, e2, _⟩ := banArg_ok ha
        omega
    · have := firstF_zero h q hq
      unfold rejF at this
      cases ha : rejBad g q with
      | true => rw [ha] at this; simp at this
      | false =>
        unfold rejBad at ha
        simp only [Bool.or_eq_false_iff, decide_eq_false_iff_not] at ha
        omega
  · rw [if_pos h2] at h; exact absurd h h2
end Fb
end Go.Proofs.YtgcfpbjifjklbaaDoor
namespace Go.Proofs.YtgcfpbjifjklbaaDoor
open Go.RowKit
def idxBy (p : Int → Bool) (l : List Int) : Int := if l.any p then (l.findIdx p : Int) else -1
theorem idxBy_hit {p : Int → Bool} {l : List Int} {i : Nat} (hi : i < l.length) (h : p l[i] = true) (hn : ∀ j (h : j < l.length), j < i → p l[j] = false) : idxBy p l = i := by
  have h1 : l.any p = true := List.any_eq_true.2 ⟨l[i], List.getElem_mem hi, h⟩
  rw [idxBy, if_pos h1]
  have : l.findIdx p = i := by
    rw [List.findIdx_eq hi]
    exact ⟨h, fun j hj => by simp [hn j (by omega) hj]⟩
  rw [this]
theorem idxBy_none {p : Int → Bool} {l : List Int} (hn : ∀ j (h : j < l.length), p l[j] = false) : idxBy p l = -1 := by
  have h1 : l.any p = false := by
    rw [List.any_eq_false]
    intro x hx
    obtain ⟨j, hj, rfl⟩ := List.getElem_of_mem hx
    simp [hn j hj]
  rw [idxBy, if_neg (by simp [h1])]
theorem idxBy_ge (p : Int → Bool) (l : List Int) : decide (0 ≤ idxBy p l) = l.any p := by
  unfold idxBy
  cases h : l.any p <;> simp [h]
set_option maxHeartbeats 1000000 in
theorem indexInt (a : Option Addr) (cap : Nat) (l : List Int) (x : Int) (w : World) (hl : Sl w (.slice a l.length cap) (ints l)) :
    Calls Tryd.prog 55 #[.slice a l.length cap, .int .i64 x] w fun e w' => e = .returned (.int .i64 (idxBy (fun y => x == y) l)) ∧ w = w' := by
  have HL := Lib.hid hl
  have hc := hl.len.2
  unfold maxLen at hc
  obtain ⟨hc1, hc2⟩ := hc
  clear hl
  go_enter Tryd.func55, Tryd.ntmps55
  go_wp2
  go_loopg [8] l.length (fun gg v8 wr => ∃ i : Nat, i ≤ l.length ∧ l.length - i ≤ gg ∧ v8 = .int .i64 i ∧ wr = w ∧ Hid (∀ j (h : j < l.length), j < i → (x == l[j]) = false))
  case atStart => exact ⟨0, by omega, by omega, rfl, rfl, fun j _ hj => by omega⟩
  case round =>
    obtain ⟨i, hi, hg, rfl, rfl, HN⟩ := hrel
    by_cases hlt : i < l.length
    · have hlt' : (i : Int) < (l.length : Int) := by omega
      obtain ⟨ba, oa, hae, hca⟩ := HL.out.at hlt
      have c1 := hca i (by rw [ints_len]; exact hlt)
      rw [ints_get] at c1
      obtain ⟨y, HX⟩ := nameIt (l[i]'hlt)
      rw [HX.out] at c1
      subst hae
      clear hca
      cases hp : (x == y) with
      | true =>
        have HE : Hid (idxBy (fun y => x == y) l = i) := idxBy_hit hlt (by rw [HX.out]; exact hp) HN.out
        go_wp2
        go_ret
        exact ⟨by rw [HE.out]; rfl, rfl⟩
      | false =>
        have HN2 : Hid (∀ j (h : j < l.length), j < i + 1 → (x == l[j]) = false) := by
          intro j h hj
          by_cases e : j = i
          · subst e; rw [HX.out]; exact hp
          · exact HN.out j h (by omega)
        go_wp2
        go_roundg (l.length - (i + 1))
        case measure => omega
        case rel => exact ⟨i + 1, by omega, by omega, by go_num, rfl, HN2⟩
    · have hlt' : ¬ (i : Int) < (l.length : Int) := by omega
      have HE : Hid (idxBy (fun y => x == y) l = -1) := idxBy_none fun j hj => HN.out j hj (by omega)
      go_wp2
      go_ret
      exact ⟨by rw [HE.out]; rfl, rfl⟩
set_option maxHeartbeats 1000000 in
theorem containsInt (a : Option Addr) (cap : Nat) (l : List Int) (x : Int) (w : World) (hl : Sl w (.slice a l.length cap) (ints l)) :
    Calls Tryd.prog 29 #[.slice a l.length cap, .int .i64 x] w fun e w' => e = .returned (.bool (l.any fun y => x == y)) ∧ w = w' := by
  have HL := Lib.hid hl
  clear hl
  go_enter Tryd.func29, Tryd.ntmps29
  go_wp2_with fail
  refine (indexInt a cap l x w HL.out).mono ?_
  rintro e w1 ⟨rfl, rfl⟩
  go_wp2
  go_ret
  exact ⟨by rw [idxBy_ge]; rfl, rfl⟩
end Go.Proofs.YtgcfpbjifjklbaaDoor
namespace Go.Proofs.YtgcfpbjifjklbaaDoor
open Go.RowKit
structure GathRel (f : List Tree → List Int) (w w1 : World) (l : List Tree) (i : Nat) (v : Value) (wr : World) : Prop where
  own : wr.ownsRow w.heap.size 3 1 v (f (l.take i)).length (ints (f (l.take i)))
  bel : Below w.heap.size w wr
  belo : Below w1.heap.size w1 wr
  apart : ∀ k, v.ownBlock = some k → w1.heap.size ≤ k
theorem leavesOf_take {l : List Tree} {i : Nat} (h : i < l.length) : leavesOf (l.take (i + 1)) = leavesOf (l.take i) ++ if l[i].rule = -1 then [l[i].term] else [] := by
  rw [List.take_succ_eq_append_getElem h, leavesOf, List.filterMap_append]
  by_cases e : l[i].rule = -1 <;> simp [leavesOf, e]
theorem leavesOf_take_le (l : List Tree) (i : Nat) : (leavesOf (l.take i)).length ≤ l.length := by
  have := leavesOf_le (l.take i); simp at this; omega
theorem gath_step {f : List Tree → List Int} {w w1 : World} {l : List Tree} {i : Nat} {v v' : Value} {wr w0 w' : World} {x : Int} (h : GathRel f w w1 l i v wr) (hf : f (l.take (i + 1)) = f (l.take i) ++ [x]) (hb : Below wr.heap.size wr w0)
    (ho : w'.ownsRow w.heap.size 3 1 v' ((f (l.take i)).length + 1) (ints (f (l.take i)) ++ [.int .i64 x])) (hg : w0.grownBy w' v.ownBlock) (hat : v'.ownBlock = v.ownBlock ∨ ∃ k, v'.ownBlock = some k ∧ w0.heap.size ≤ k) : GathRel f w w1 l (i + 1) v' w' := by
  have hs := hb.size
  have hs1 := h.belo.size
  have hs2 := h.bel.size
  refine ⟨?_, (h.bel.trans (hb.mono h.bel.size)).grown hg (by omega) (fun k e => (h.own.lt k e).1), (h.belo.trans (hb.mono h.belo.size)).grown hg (by omega) h.apart, ?_⟩
  · rw [hf]
    have e : ints (f (l.take i) ++ [x]) = ints (f (l.take i)) ++ [.int .i64 x] := by simp [ints]
    rw [e, List.length_append]
    exact ho
  · intro k e
    rcases hat with h2 | ⟨j, h2, hj⟩
    · exact h.apart k (by rw [← h2]; exact e)
    · rw [h2] at e; cases e; omega
set_option maxHeartbeats 1000000 in
set_option maxRecDepth 100000 in
theorem yieldE (t : Tree) (v : Value) (w : World) (hv : Rd AnyB w (.sl (t.kids.map Tree.d)) [v]) (hN : (nodes t).length ≤ 1099511627776) :
    Calls Tryd.prog 13 #[.agg #[.int .i64 t.rule, .int .i64 t.term, v]] w (IntsPost (leavesOf (nodes t)) w) := by
  obtain ⟨a, n, cap, rfl⟩ := treeBox hv
  have hb := (Below.refl w.heap.size w).alloc (Nat.le_refl _) (.cells #[.int .i64 t.rule, .int .i64 t.term, .slice a n cap] 32)
  have HN := Lib.hid (nodesE t _ _ (hv.below hb) hN)
  have HB := Lib.hid hb
  clear hv hb
  go_enter Tryd.func13, Tryd.ntmps13
  go_wp2_with fail
  refine HN.out.mono ?_
  rintro e w1 ⟨v1, rfl, hr1, hb1⟩
  obtain ⟨a1, c1, rfl, hc1, hc2⟩ := hr1.form
  obtain ⟨l, HL⟩ := nameIt (nodes t)
  rw [List.length_map, HL.out] at hc1
  rw [HL.out, List.length_map] at hr1
  rw [HL.out] at hN
  rw [List.length_map, HL.out]
  unfold maxLen at hc2
  have HR1 := Lib.hid hr1
  have HB1 := Lib.hid (HB.out.trans (hb1.mono HB.out.size))
  have HR0 : Hid (GathRel leavesOf w w1 l 0 (.slice none 0 0) w1) := ⟨by simpa [leavesOf, ints] using World.ownsRow_nil _ _ _ _, HB1.out, Below.refl _ _, by simp [Value.ownBlock]⟩
  clear hr1 hb1 HN HB
  go_wp2_with fail
  go_loopg [3, 9] l.length (fun gg v3 v9 wr => ∃ i : Nat, i ≤ l.length ∧ l.length - i ≤ gg ∧ v9 = .int .i64 i ∧ Hid (GathRel leavesOf w w1 l i v3 wr))
  case atStart => exact ⟨0, by omega, by omega, rfl, HR0⟩
  case round =>
    clear HR0
    obtain ⟨i, hi, hg, rfl, HR⟩ := hrel
    obtain ⟨av, cv, rfl, hcv1, hcv2⟩ := own_len HR.out.own
    unfold maxLen at hcv2
    by_cases hlt : i < l.length
    · have hlt' : (i : Int) < (l.length : Int) := by omega
      obtain ⟨b, off, u, hae, -, hbl, e0, e1, e2, hkid⟩ := (HR1.out.below HR.out.belo).kid hlt
      obtain ⟨au, cu, rfl, -, -⟩ := hkid.form
      have HT := Lib.hid (leavesOf_take hlt)
      obtain ⟨nu, HNU⟩ := nameIt (l[i].kids.map Tree.d).length
      rw [HNU.out] at e2
      obtain ⟨x, HX⟩ := nameIt (l[i]'hlt)
      rw [HX.out] at e0 e1 HT
      obtain ⟨r, HXr⟩ := nameIt x.rule
      obtain ⟨tm, HXt⟩ := nameIt x.term
      rw [HXr.out] at e0 HT
      rw [HXt.out] at e1 HT
      have hlen := leavesOf_take_le l i
      have hsz := HR.out.bel.size
      have HBX := Lib.hid ((Below.refl wr.heap.size wr).alloc (Nat.le_refl _) (.cells #[.int .i64 r, .int .i64 tm, .slice au nu cu] 32))
      subst hae
      clear hkid hbl
      by_cases hr : r = -1
      · subst hr
        go_wp2_with (at_builtin; refine wp_app1at elInt rfl _ _ rfl (own_keep HR.out.own HBX.out) rfl rfl (by simp) rfl rfl (by omega) (by unfold maxLen; omega) (by simp; omega) ?_)
        intro v' w' ho hg2 hat
        have HR' := Lib.hid (gath_step HR.out (by rw [HT.out]; simp) HBX.out ho hg2 (by simpa using hat))
        obtain ⟨a', c', rfl, -, -⟩ := own_len ho
        clear ho hg2 hat
        go_wp2_with fail
        go_roundg (l.length - (i + 1))
        case measure => omega
        case rel => exact ⟨i + 1, by omega, by omega, by go_num, HR'⟩
      · have hrb : (r == -1) = false := by simpa using hr
        have HR' : Hid (GathRel leavesOf w w1 l (i + 1) (.slice av (leavesOf (l.take i)).length cv) (wr.alloc (.cells #[.int .i64 r, .int .i64 tm, .slice au nu cu] 32))) := by
          have e : leavesOf (l.take (i + 1)) = leavesOf (l.take i) := by rw [HT.out, if_neg hr]; simp
          refine ⟨by rw [e]; exact own_keep HR.out.own HBX.out, HR.out.bel.trans (HBX.out.mono HR.out.bel.size), HR.out.belo.trans (HBX.out.mono HR.out.belo.size), HR.out.apart⟩
        clear hr
        go_wp2_with fail
        go_roundg (l.length - (i + 1))
        case measure => omega
        case rel => exact ⟨i + 1, by omega, by omega, by go_num, HR'⟩
    · have hlt' : ¬ (i : Int) < (l.length : Int) := by omega
      have HE : Hid (l.take i = l) := List.take_of_length_le (by omega)
      go_wp2_with fail
      go_ret
      have h := sl_of_own HR.out.own
      rw [HE.out] at h
      refine ⟨_, rfl, ?_, HR.out.bel⟩
      rw [HL.out]
      rw [HE.out]
      exact h
end Go.Proofs.YtgcfpbjifjklbaaDoor
namespace Go.Proofs.YtgcfpbjifjklbaaDoor
open Go.RowKit
namespace Fb
set_option maxHeartbeats 1000000 in
set_option maxRecDepth 100000 in
theorem hasLvE (x : Level) (r : Int) (b : Nat) (ax : Option Addr) (cx : Nat) (W : World) (hx : W.heap[b]? = some (.cells #[.int .i64 r] 3 (0, 0))) (hs : Sl W (.slice ax x.rules.length cx) (ints x.rules)) :
    Calls Tryd.prog 32 #[.agg #[.slice ax x.rules.length cx, .int .i64 x.assoc], .pointer (some ⟨b, 0, none⟩)] W fun e w' => e = .returned (.bool (decide (r ∈ x.rules))) ∧ Below W.heap.size W w' := by
  obtain ⟨xs, xa⟩ := x
  simp only at hs ⊢
  obtain ⟨w0, HW0⟩ := nameIt (W.alloc (.cells #[.slice ax xs.length cx, .int .i64 xa] 39))
  have hb0 : Below W.heap.size W w0 := by rw [← HW0.out]; exact (Below.refl _ _).alloc (Nat.le_refl _) _
  have X1 : Hid (w0.heap[W.heap.size]? = some (.cells #[.slice ax xs.length cx, .int .i64 xa] 39 (0, 0))) := by rw [← HW0.out]; exact bx_new _ _ _ rfl
  have HC := Lib.hid (containsInt ax cx xs r w0 (hs.keep hb0))
  have HBE : Hid ((xs.any fun y => r == y) = decide (r ∈ xs)) := by
    show _ = _
    rw [Bool.eq_iff_iff, List.any_eq_true, decide_eq_true_eq]
    constructor
    · rintro ⟨y, hy, e⟩; rw [show r = y by simpa using e]; exact hy
    · intro h; exact ⟨r, h, by simp⟩
  rw [HBE.out] at HC
  obtain ⟨B, HBn⟩ := nameIt (decide (r ∈ xs))
  rw [HBn.out] at HC
  rw [HBn.out]
  obtain ⟨xn, HXN⟩ := nameIt xs.length
  rw [HXN.out] at HC HW0 X1
  rw [HXN.out]
  obtain ⟨x0, x1⟩ := bx_cells2 X1.out
  have y0 := bx_cells1 (bx_keep hx hb0)
  have HB0 := Lib.hid hb0
  have hl1 := (Array.getElem?_eq_some_iff.1 (bx_keep hx hb0)).1
  clear hx hs hb0
  go_enter Tryd.func32, Tryd.ntmps32
  go_upto_region 1 with fail
  rw [HW0.out]
  clear HW0
  go_wp2_with fail
  refine HC.out.mono ?_
  rintro e w1 ⟨rfl, rfl⟩
  go_wp2_with fail
  go_ret
  exact ⟨rfl, HB0.out⟩
theorem lvFrom_drop {l : List Level} {r : Int} {i : Nat} (h : i < l.length) : lvFrom i (l.drop i) r = if r ∈ l[i].rules then (i : Int) else lvFrom (i + 1) (l.drop (i + 1)) r := by
  rw [List.drop_eq_getElem_cons h, lvFrom]
set_option maxHeartbeats 1000000 in
set_option maxRecDepth 100000 in
theorem indexLvE (l : List Level) (r : Int) (b : Nat) (la : Option Addr) (lc : Nat) (W : World) (hx : W.heap[b]? = some (.cells #[.int .i64 r] 3 (0, 0))) (hl : Rd AnyB W (.sl (l.map Level.d)) [.slice la l.length lc]) :
    Calls Tryd.prog 31 #[.slice la l.length lc, .func (.func 32) #[] #[.pointer (some ⟨b, 0, none⟩)]] W fun e w' => e = .returned (.int .i64 (lvOf l r)) ∧ Below W.heap.size W w' := by
  obtain ⟨hc3, hc4⟩ := hl.bounds.2
  unfold maxLen at hc4
  have HS : Hid (lvFrom 0 (l.drop 0) r = lvOf l r) := rfl
  obtain ⟨q, HQ⟩ := nameIt (lvOf l r)
  rw [HQ.out] at HS
  obtain ⟨ln, HLN⟩ := nameIt l.length
  rw [HLN.out] at hc3
  rw [HLN.out] at hl
  have HL := Lib.hid hl
  have HX := Lib.hid hx
  rw [HQ.out, HLN.out]
  have eg : ∀ args w, (callFunc 32 args).run Tryd.prog w = .ok (.enter 32 args) w := enters_of Tryd.func32 (by kernel_rfl) rfl
  clear hl hx
  go_enter Tryd.func31, Tryd.ntmps31
  go_wp2_with fail
  go_loopg [8] ln (fun gg v8 wr => ∃ i : Nat, i ≤ ln ∧ ln - i ≤ gg ∧ v8 = .int .i64 i ∧ Hid (Below W.heap.size W wr) ∧ Hid (lvFrom i (l.drop i) r = q))
  case atStart => exact ⟨0, by omega, by omega, rfl, Below.refl _ _, HS.out⟩
  case round =>
    obtain ⟨i, hi, hg, rfl, HB, HF⟩ := hrel
    by_cases hlt : i < ln
    · have hlt' : (i : Int) < (ln : Int) := by omega
      have hlc : (i : Int) ≤ (lc : Int) := by omega
      obtain ⟨bb, bo, vx, hae, -, hbl, c0, c1, hrx⟩ := Rd.level_at (HL.out.below HB.out) (show i < l.length by rw [HLN.out]; exact hlt)
      have HF1 := HF.out
      rw [lvFrom_drop (show i < l.length by rw [HLN.out]; exact hlt)] at HF1
      obtain ⟨x, HXn⟩ := nameIt (l[i]'(by rw [HLN.out]; exact hlt))
      rw [HXn.out] at c1 hrx HF1
      obtain ⟨ax, cx, rfl, hcx1, hcx2⟩ := hrx.form
      rw [List.length_map] at c0 hrx
      have HP := Lib.hid (hasLvE x r b ax cx wr (bx_keep HX.out HB.out) (sl_rd hrx))
      obtain ⟨xn, HXN⟩ := nameIt x.rules.length
      obtain ⟨xa, HXA⟩ := nameIt x.assoc
      rw [HXN.out] at c0 HP
      rw [HXA.out] at c1 HP
      have HF2 := Lib.hid HF1
      obtain ⟨B, HBn⟩ := nameIt (decide (r ∈ x.rules))
      rw [HBn.out] at HP
      subst hae
      clear hrx hcx1 hcx2 hbl HF1
      go_wp2_with fail
      refine HP.out.mono ?_
      rintro e w1 ⟨rfl, hb1⟩
      have HB1 := Lib.hid (HB.out.trans (hb1.mono HB.out.size))
      clear hb1 c0 c1
      cases B with
      | true =>
        have HE : Hid (q = (i : Int)) := by have h := HF2.out; rw [if_pos (of_decide_eq_true HBn.out)] at h; exact h.symm
        go_wp2_with fail
        go_ret
        exact ⟨by rw [HE.out]; rfl, HB1.out⟩
      | false =>
        have HE : Hid (lvFrom (i + 1) (l.drop (i + 1)) r = q) := by have h := HF2.out; rw [if_neg (of_decide_eq_false HBn.out)] at h; exact h
        go_wp2_with fail
        go_roundg (ln - (i + 1))
        case measure => omega
        case rel => exact ⟨i + 1, by omega, by omega, by go_num, HB1.out, HE.out⟩
    · have hlt' : ¬ (i : Int) < (ln : Int) := by omega
      have HE : Hid (q = -1) := by have h := HF.out; rw [List.drop_eq_nil_of_le (by rw [HLN.out]; omega), lvFrom] at h; exact h.symm
      go_wp2_with fail
      go_ret
      exact ⟨by rw [HE.out]; rfl, HB.out⟩
set_option maxHeartbeats 1000000 in
set_option maxRecDepth 100000 in
theorem levelE (l : List Level) (r : Int) (b : Nat) (la : Option Addr) (lc : Nat) (W : World) (hx : W.heap[b]? = some (.cells #[.slice la l.length lc] 29 (0, 0))) (hl : Rd AnyB W (.sl (l.map Level.d)) [.slice la l.length lc]) :
    Calls Tryd.prog 30 #[.int .i64 r, .pointer (some ⟨b, 0, none⟩)] W fun e w' => e = .returned (.int .i64 (lvOf l r)) ∧ Below W.heap.size W w' := by
  obtain ⟨w0, HW0⟩ := nameIt (W.alloc (.cells #[.int .i64 r] 3))
  have hb0 : Below W.heap.size W w0 := by rw [← HW0.out]; exact (Below.refl _ _).alloc (Nat.le_refl _) _
  have X1 : Hid (w0.heap[W.heap.size]? = some (.cells #[.int .i64 r] 3 (0, 0))) := by rw [← HW0.out]; exact bx_new _ _ _ rfl
  have HC := Lib.hid (indexLvE l r W.heap.size la lc w0 X1.out (hl.below hb0))
  obtain ⟨q, HQ⟩ := nameIt (lvOf l r)
  obtain ⟨ln, HLN⟩ := nameIt l.length
  rw [HQ.out, HLN.out] at HC
  rw [HLN.out] at hx
  rw [HQ.out]
  have y0 := bx_cells1 (bx_keep hx hb0)
  have HB0 := Lib.hid hb0
  have hl1 := (Array.getElem?_eq_some_iff.1 (bx_keep hx hb0)).1
  clear hx hl hb0
  go_enter Tryd.func30, Tryd.ntmps30
  go_upto_region 1 with fail
  rw [HW0.out]
  clear HW0
  go_wp2_with fail
  refine HC.out.mono ?_
  rintro e w1 ⟨rfl, hb1⟩
  have HE := Lib.hid (HB0.out.trans (hb1.mono HB0.out.size))
  clear hb1
  go_wp2_with fail
  go_ret
  exact ⟨rfl, HE.out⟩
end Fb
end Go.Proofs.YtgcfpbjifjklbaaDoor
namespace Go.Proofs.YtgcfpbjifjklbaaDoor
open Go.RowKit Go.Shelf Go.Lib Go.Sort
shelf_lay_g SlLaysF0.n6 Slsf 6 at Tryd 18 as Tryd.sortBan
namespace Fb
def banC (l : List Ban) : List Value := l.flatMap fun x => [.int .i64 x.rule, .int .i64 x.pos, .int .i64 x.kid]
theorem banC_len : ∀ l : List Ban, (banC l).length = l.length * 3
  | [] => rfl
  | x :: l => by
    have e : banC (x :: l) = .int .i64 x.rule :: .int .i64 x.pos :: .int .i64 x.kid :: banC l := by simp [banC]
    rw [e]; simp only [List.length_cons, banC_len l]; omega
theorem cells6 {W w' : World} (hb : Below W.heap.size W w') {b1 b2 : Nat} {T : TypeId} {a0 a1 a2 c0 c1 c2 : Value} (h1 : W.heap[b1]? = some (.cells #[a0, a1, a2] T (0, 0))) (h2 : W.heap[b2]? = some (.cells #[c0, c1, c2] T (0, 0))) :
    w'.cell? ⟨b1, 0, none⟩ = some a0 ∧ w'.cell? ⟨b1, 0 + 1, none⟩ = some a1 ∧ w'.cell? ⟨b1, 0 + 2, none⟩ = some a2 ∧ w'.cell? ⟨b2, 0, none⟩ = some c0 ∧ w'.cell? ⟨b2, 0 + 1, none⟩ = some c1 ∧ w'.cell? ⟨b2, 0 + 2, none⟩ = some c2 := by
  obtain ⟨x0, x1, x2⟩ := bx_cells3 (bx_keep h1 hb)
  obtain ⟨y0, y1, y2⟩ := bx_cells3 (bx_keep h2 hb)
  exact ⟨x0, x1, x2, y0, y1, y2⟩
def cmpBan (x y : Ban) : Int := orL [cmp3 x.rule y.rule, cmp3 x.pos y.pos, cmp3 x.kid y.kid]
set_option maxHeartbeats 1000000 in
set_option maxRecDepth 100000 in
theorem banCmpE (x y : Ban) (w : World) :
    Calls Tryd.prog 19 #[.agg #[.int .i64 x.rule, .int .i64 x.pos, .int .i64 x.kid], .agg #[.int .i64 y.rule, .int .i64 y.pos, .int .i64 y.kid]] w fun e w' => e = .returned (.int .i64 (cmpBan x y)) ∧ ∃ q os', w' = Go.Sort.grow (w.drewN q) os' := by
  obtain ⟨xa, HXA⟩ := nameIt x.rule
  obtain ⟨xi, HXI⟩ := nameIt x.pos
  obtain ⟨xk, HXK⟩ := nameIt x.kid
  obtain ⟨ya, HYA⟩ := nameIt y.rule
  obtain ⟨yi, HYI⟩ := nameIt y.pos
  obtain ⟨yk, HYK⟩ := nameIt y.kid
  obtain ⟨w0, HW0⟩ := nameIt ((w.alloc (.cells #[.int .i64 xa, .int .i64 xi, .int .i64 xk] 42)).alloc (.cells #[.int .i64 ya, .int .i64 yi, .int .i64 yk] 42))
  have HWG : Hid (∃ os', w0 = Go.Sort.grow w os') := ⟨_, by rw [← HW0.out, Go.Sort.alloc_eq_grow, Go.Sort.alloc_eq_grow, Go.Sort.grow_grow]⟩
  have HB : Hid (Below w.heap.size w w0) := by rw [← HW0.out]; exact ((Below.refl _ _).alloc (Nat.le_refl _) _).alloc (by simp) _
  have X1 : Hid (w0.heap[w.heap.size]? = some (.cells #[.int .i64 xa, .int .i64 xi, .int .i64 xk] 42 (0, 0))) := by
    rw [← HW0.out]; exact bx_keep (bx_new _ _ _ rfl) ((Below.refl _ _).alloc (Nat.le_refl _) _)
  have X2 : Hid (w0.heap[w.heap.size + 1]? = some (.cells #[.int .i64 ya, .int .i64 yi, .int .i64 yk] 42 (0, 0))) := by
    rw [← HW0.out]; exact bx_new _ _ _ (by simp)
  obtain ⟨q1, HQ1⟩ := nameIt (cmp3 xa ya)
  obtain ⟨q2, HQ2⟩ := nameIt (cmp3 xi yi)
  obtain ⟨q3, HQ3⟩ := nameIt (cmp3 xk yk)
  have C1 := Lib.hid (fun W => compareInt xa ya W)
  have C2 := Lib.hid (fun W => compareInt xi yi W)
  have C3 := Lib.hid (fun W => compareInt xk yk W)
  rw [HQ1.out] at C1
  rw [HQ2.out] at C2
  rw [HQ3.out] at C3
  have HR : Hid (cmpBan x y = orL [q1, q2, q3]) := by show _ = _; unfold cmpBan; rw [HXA.out, HYA.out, HXI.out, HYI.out, HXK.out, HYK.out, HQ1.out, HQ2.out, HQ3.out]
  rw [HXA.out, HXI.out, HXK.out, HYA.out, HYI.out, HYK.out]
  obtain ⟨x0, x1, x2⟩ := bx_cells3 X1.out
  obtain ⟨y0, y1, y2⟩ := bx_cells3 X2.out
  go_enter Tryd.func19, Tryd.ntmps19
  go_wp2_with fail
  rw [HW0.out]
  go_region_held3 (fun w' => w'.cell? ⟨w.heap.size, 0, none⟩ = some (.int .i64 xa) ∧ w'.cell? ⟨w.heap.size, 0 + 1, none⟩ = some (.int .i64 xi) ∧ w'.cell? ⟨w.heap.size, 0 + 2, none⟩ = some (.int .i64 xk) ∧ w'.cell? ⟨w.heap.size + 1, 0, none⟩ = some (.int .i64 ya) ∧ w'.cell? ⟨w.heap.size + 1, 0 + 1, none⟩ = some (.int .i64 yi) ∧ w'.cell? ⟨w.heap.size + 1, 0 + 2, none⟩ = some (.int .i64 yk))
    (first | exact cells6 (Below.refl _ _).drew X1.out X2.out | exact cells6 ((Below.refl _ _).drew.alloc (Nat.le_refl _) _) X1.out X2.out | fail)
    (first
      | (go_at_call 21; (with_reducible refine (C1.out _).mono ?_); rintro e w' ⟨rfl, rfl⟩)
      | (go_at_call 21; (with_reducible refine (C2.out _).mono ?_); rintro e w' ⟨rfl, rfl⟩)
      | (go_at_call 21; (with_reducible refine (C3.out _).mono ?_); rintro e w' ⟨rfl, rfl⟩)
      | (go_at_call 20; (with_reducible refine (orInt _ [q1, q2, q3] _ (sl_lit (v := #[.int .i64 q1, .int .i64 q2, .int .i64 q3]) rfl (of_decide_eq_true rfl))).mono ?_); rintro e w' ⟨rfl, rfl⟩)
      | fail)
  go_wp2_with fail
  go_ret
  obtain ⟨os, ho⟩ := HWG.out
  exact ⟨by rw [HR.out]; rfl, 1, os ++ _, by rw [ho, Go.Sort.alloc_eq_grow, ← Go.Sort.grow_grow]; rfl⟩
def encBan (x : Ban) : List Value := [.int .i64 x.rule, .int .i64 x.pos, .int .i64 x.kid]
instance : Inhabited Ban := ⟨⟨0, 0, 0⟩⟩
theorem cmpBan_lt (x y : Ban) : ltOf cmpBan x y = decide (x.rule < y.rule ∨ (x.rule = y.rule ∧ (x.pos < y.pos ∨ (x.pos = y.pos ∧ x.kid < y.kid)))) := by
  unfold ltOf cmpBan
  simp only [orL, cmp3]
  by_cases h1 : x.rule < y.rule
  · simp [h1]
  · by_cases h2 : y.rule < x.rule
    · have h3 : ¬ x.rule = y.rule := by omega
      simp [h1, h2, h3]
    · have h3 : x.rule = y.rule := by omega
      by_cases h4 : x.pos < y.pos
      · simp [h3, h4]
      · by_cases h5 : y.pos < x.pos
        · have h6 : ¬ x.pos = y.pos := by omega
          simp [h3, h4, h5, h6]
        · have h6 : x.pos = y.pos := by omega
          by_cases h7 : x.kid < y.kid
          · simp [h3, h6, h7]
          · by_cases h8 : y.kid < x.kid <;> simp [h3, h6, h7, h8]
theorem swoBan : SWO (ltOf cmpBan) where
  irrefl x := by rw [cmpBan_lt]; simp
  trans x y z h1 h2 := by rw [cmpBan_lt] at *; simp at *; omega
  ntrans x y z h1 h2 := by rw [cmpBan_lt] at *; simp only [decide_eq_false_iff_not] at *; omega
theorem totBan (x y : Ban) (h1 : ltOf cmpBan x y = false) (h2 : ltOf cmpBan y x = false) : x = y := by
  rw [cmpBan_lt] at *
  simp only [decide_eq_false_iff_not] at *
  obtain ⟨a, b, c⟩ := x
  obtain ⟨d, e, f⟩ := y
  simp only at h1 h2
  have e1 : a = d := by omega
  have e2 : b = e := by omega
  have e3 : c = f := by omega
  rw [e1, e2, e3]
theorem cmpLaysBan (blk off size : Nat) (w : World) : CmpLays Tryd.prog 19 #[] encBan 3 cmpBan blk off size w :=
  fun _ _ _ _ x y => banCmpE x y _
def sortB (l : List Ban) : List Ban := l.mergeSort fun x y => !(ltOf cmpBan) y x
theorem banC_at : ∀ (l : List Ban) (k : Nat) (h : k < l.length), (banC l)[k * 3]? = some (.int .i64 l[k].rule) ∧ (banC l)[k * 3 + 1]? = some (.int .i64 l[k].pos) ∧ (banC l)[k * 3 + 2]? = some (.int .i64 l[k].kid)
  | [], _, h => by simp at h
  | x :: l, 0, _ => by simp [banC]
  | x :: l, k + 1, h => by
    have ih := banC_at l k (by simpa using h)
    have e : banC (x :: l) = .int .i64 x.rule :: .int .i64 x.pos :: .int .i64 x.kid :: banC l := by simp [banC]
    rw [e, show (k + 1) * 3 = k * 3 + 1 + 1 + 1 by omega]
    simpa using ih
theorem flat_banC (l : List Ban) : (flatK encBan 3 l.toArray).toList = banC l := by
  apply List.ext_getElem?
  intro t
  by_cases ht : t < l.length * 3
  · have h1 : (flatK encBan 3 l.toArray).toList[t]? = some ((flatK encBan 3 l.toArray)[t]!) := by
      rw [Array.getElem?_toList, getElem!_pos _ t (by simpa using ht)]
      exact Array.getElem?_eq_getElem (by simpa using ht)
    rw [h1, get_flatK _ _ _ _ (by simpa using ht)]
    have hk : t / 3 < l.length := by omega
    have hd : (l.toArray)[t / 3]! = l[t / 3] := by rw [getElem!_pos _ _ (by simpa using hk)]; simp
    rw [hd]
    obtain ⟨c0, c1, c2⟩ := banC_at l (t / 3) hk
    rcases (show t % 3 = 0 ∨ t % 3 = 1 ∨ t % 3 = 2 by omega) with e | e | e
    · rw [show t / 3 * 3 = t by omega] at c0
      rw [c0, e]; rfl
    · rw [show t / 3 * 3 + 1 = t by omega] at c1
      rw [c1, e]; rfl
    · rw [show t / 3 * 3 + 2 = t by omega] at c2
      rw [c2, e]; rfl
  · rw [List.getElem?_eq_none (by simp; omega), List.getElem?_eq_none (by rw [banC_len]; omega)]
theorem put_flat (F : Array Value) (cur : Array Value) (h : F.size ≤ cur.size) : (putCells id 0 F cur).toList = F.toList ++ cur.toList.drop F.size := by
  apply List.ext_getElem?
  intro t
  rw [Array.getElem?_toList]
  unfold putCells
  rw [Array.getElem?_mapIdx]
  by_cases ht : t < F.size
  · rw [List.getElem?_append_left (by simpa using ht), Array.getElem?_eq_getElem (by omega : t < cur.size)]
    simp [ht]
  · rw [List.getElem?_append_right (by simpa using ht)]
    simp only [Array.length_toList, List.getElem?_drop]
    rw [show F.size + (t - F.size) = t by omega, Array.getElem?_toList]
    cases cur[t]? with
    | none => rfl
    | some y => simp [ht]
def SortPost (B : Nat) (l : List Ban) (u : Value) (w : World) (e : Ending) (w' : World) : Prop :=
  e = .returned (.tuple #[]) ∧ w'.ownsRow B 42 3 u l.length (banC (sortB l)) ∧ w.grownBy w' u.ownBlock
theorem sortB_len (l : List Ban) : (sortB l).length = l.length := by unfold sortB; exact List.length_mergeSort l
theorem sortBan (B : Nat) (l : List Ban) (u : Value) (w : World) (hown : w.ownsRow B 42 3 u l.length (banC l)) (hl : l.length ≤ 100000) :
    Calls Tryd.prog 18 #[u, .func (.func 19) #[] #[]] w (SortPost B l u w) := by
  rcases hown.2 with ⟨rfl, h0⟩ | ⟨g, cap, cur, rfl, hg, hh, hnc, hcm, hcs, htk⟩
  · obtain rfl : l = [] := by simpa using h0
    have h := AnyF.slices_SortFunc_none Tryd.sortBan none 0 (.func (.func 19) #[] #[]) w
    refine Calls.mono (P := Tryd.prog) (f := 18) h ?_
    rintro e w' ⟨rfl, rfl⟩
    exact ⟨rfl, by simpa [sortB] using hown, ⟨rfl, rfl, rfl, Nat.le_refl _, fun _ _ _ => rfl⟩⟩
  · have hglt := (Array.getElem?_eq_some_iff.1 hh).1
    have eg : ∀ args w, (callFunc 19 args).run Tryd.prog w = .ok (.enter 19 args) w := enters_of Tryd.func19 (by kernel_rfl) rfl
    have hH : HoldsK encBan 3 w g 0 l.toArray := by
      intro j hj
      have hj' : j < l.length * 3 := by simpa using hj
      have h1 : cur[j]? = some ((flatK encBan 3 l.toArray)[j]!) := by
        have hsz0 : (flatK encBan 3 l.toArray).size = l.length * 3 := by simp
        have e := congrArg (fun m : List Value => m[j]?) (htk.trans (flat_banC l).symm)
        simp only [List.getElem?_take] at e
        rw [if_pos hj', Array.getElem?_toList, Array.getElem?_toList] at e
        rw [e, getElem!_pos (flatK encBan 3 l.toArray) j (by simpa using hj')]
        exact Array.getElem?_eq_getElem (by simpa using hj')
      refine ⟨?_, ?_⟩
      · simp [World.cell?, hh, h1]
      · simp [World.frozen?, hh]
    have h := AnyQ.slices_SortFunc_total Tryd.sortBan 3 Tryd.isAgg42 Tryd.sizeOf42 encBan (fun _ => rfl) (fun x v hv => by simp [encBan] at hv; rcases hv with rfl | rfl | rfl <;> rfl) cmpBan swoBan 19 #[] g 0 cap l.toArray w eg (cmpLaysBan g 0 _ w) hH hglt (by simp; omega) totBan
    refine Calls.mono (P := Tryd.prog) (f := 18) h ?_
    rintro e w' ⟨rfl, n, os, rfl⟩
    have hF : (flatK encBan 3 (sortB l).toArray).toList = banC (sortB l) := flat_banC _
    have hsz : (flatK encBan 3 (sortB l).toArray).size = l.length * 3 := by rw [size_flatK]; simp [sortB_len]
    have hblk : (sortWorldK encBan 3 w g 0 n (sortB l).toArray os).heap[g]? = some (.cells (putCells id 0 (flatK encBan 3 (sortB l).toArray) cur) 42 (0, 0)) := by
      unfold sortWorldK grow putRowK putRow mapBlock
      simp only
      rw [Array.getElem?_append_left (by simpa [Sort.ahead] using hglt), Array.getElem?_modify, if_pos rfl]
      show Option.map _ w.heap[g]? = _
      rw [hh]; rfl
    refine ⟨rfl, ⟨by rw [banC_len, sortB_len], .inr ⟨g, cap, _, rfl, hg, hblk, hnc, hcm, by rw [← hcs]; simp [putCells], ?_⟩⟩, ?_⟩
    · rw [put_flat _ _ (by rw [hsz, hcs]; exact Nat.mul_le_mul_right _ hnc), List.take_append_of_le_length (by simp [hsz]), hF]
      exact List.take_of_length_le (by rw [banC_len, sortB_len]; omega)
    · refine ⟨rfl, rfl, rfl, ?_, fun k hk hne => ?_⟩
      · unfold sortWorldK; simp [putRowK, putRow, mapBlock, Sort.ahead]
      · have hkg : g ≠ k := fun e => hne (by rw [← e]; rfl)
        unfold sortWorldK grow putRowK putRow mapBlock
        simp only
        rw [Array.getElem?_append_left (by simpa [Sort.ahead] using hk), Array.getElem?_modify, if_neg hkg]
        rfl
end Fb
end Go.Proofs.YtgcfpbjifjklbaaDoor
namespace Go.Proofs.YtgcfpbjifjklbaaDoor
open Go.RowKit
namespace Fb
structure BnI (w wb : World) (X : Nat → Prop) (L : List Ban) (v : Value) (wr : World) : Prop where
  own : wr.ownsRow w.heap.size 42 3 v L.length (banC L)
  bel : Below w.heap.size w wr
  apart : ∀ k, v.ownBlock = some k → ¬ X k
  lt : ∀ k, X k → k < wb.heap.size
  sz : wb.heap.size ≤ wr.heap.size
  box : ∀ k, X k → wr.heap[k]? = wb.heap[k]?
variable {w wb wb' wr w' : World} {X X' : Nat → Prop} {L : List Ban} {v v' : Value}
theorem below_at (hb : Below wr.heap.size wr w') {k : Nat} (hk : k < wr.heap.size) : w'.heap[k]? = wr.heap[k]? := by
  obtain ⟨_, _, _, _, h⟩ := hb
  exact h k hk
theorem BnI.start (w : World) : BnI w w (fun _ => False) [] (.slice none 0 0) w :=
  ⟨by simpa [banC] using World.ownsRow_nil _ _ _ _, Below.refl _ _, fun _ _ h => h, fun _ h => h.elim, Nat.le_refl _, fun _ h => h.elim⟩
theorem BnI.keep (h : BnI w wb X L v wr) (hb : Below wr.heap.size wr w') : BnI w wb X L v w' :=
  ⟨own_keep h.own hb, h.bel.trans (hb.mono h.bel.size), h.apart, h.lt, Nat.le_trans h.sz hb.size, fun k hk => (below_at hb (Nat.lt_of_lt_of_le (h.lt k hk) h.sz)).trans (h.box k hk)⟩
theorem BnI.push (h : BnI w wb X L v wr) (o : Obj) : BnI w (wr.alloc o) (fun k => X k ∨ k = wr.heap.size) L v (wr.alloc o) := by
  have hb : Below wr.heap.size wr (wr.alloc o) := (Below.refl _ _).alloc (Nat.le_refl _) _
  refine ⟨own_keep h.own hb, h.bel.trans (hb.mono h.bel.size), fun k e hk => ?_, fun k hk => ?_, Nat.le_refl _, fun _ _ => rfl⟩
  · rcases hk with hk | rfl
    · exact h.apart k e hk
    · exact absurd (h.own.lt _ e).2 (Nat.lt_irrefl _)
  · rcases hk with hk | rfl
    · exact Nat.lt_of_lt_of_le (Nat.lt_of_lt_of_le (h.lt k hk) h.sz) hb.size
    · simp
theorem BnI.pop (h : BnI w wb' X' L v wr) (hX : ∀ k, X k → X' k) (hw : ∀ k, X k → k < wb.heap.size ∧ wb'.heap[k]? = wb.heap[k]?) (hs : wb.heap.size ≤ wb'.heap.size) : BnI w wb X L v wr :=
  ⟨h.own, h.bel, fun k e hk => h.apart k e (hX k hk), fun k hk => (hw k hk).1, Nat.le_trans hs h.sz, fun k hk => (h.box k (hX k hk)).trans (hw k hk).2⟩
theorem BnI.app (h : BnI w wb X L v wr) {x : Ban} (ho : w'.ownsRow w.heap.size 42 3 v' (L.length + 1) (banC L ++ [.int .i64 x.rule, .int .i64 x.pos, .int .i64 x.kid])) (hg : wr.grownBy w' v.ownBlock)
    (hat : v'.ownBlock = v.ownBlock ∨ ∃ k, v'.ownBlock = some k ∧ wr.heap.size ≤ k) : BnI w wb X (L ++ [x]) v' w' := by
  have hs := h.bel.size
  refine ⟨?_, h.bel.grown hg (by omega) (fun k e => (h.own.lt k e).1), fun k e hk => ?_, h.lt, Nat.le_trans h.sz hg.size, fun k hk => ?_⟩
  · have e : banC (L ++ [x]) = banC L ++ [.int .i64 x.rule, .int .i64 x.pos, .int .i64 x.kid] := by simp [banC]
    rw [e, List.length_append]
    exact ho
  · rcases hat with h2 | ⟨j, h2, hj⟩
    · exact h.apart k (by rw [← h2]; exact e) hk
    · rw [h2] at e; cases e
      have := h.lt _ hk; have := h.sz; omega
  · have hk2 := Nat.lt_of_lt_of_le (h.lt k hk) h.sz
    exact (hg.block k hk2 (fun e => h.apart k e.symm hk)).trans (h.box k hk)
theorem row_succ (g : Gram) (l : List Level) (r p k : Nat) : row g l r p (k + 1) = row g l r p k ++ (if banned g l r p k then [⟨r, p, k⟩] else []) := by
  unfold row
  rw [List.range_succ, List.filterMap_append]
  congr 1
  by_cases h : banned g l r p k <;> simp [h]
theorem rows_succ (g : Gram) (l : List Level) (r p : Nat) : rows g l r (p + 1) = rows g l r p ++ row g l r p g.rules.length := by
  unfold rows
  rw [List.range_succ, List.flatMap_append]
  simp
theorem allB_succ (g : Gram) (l : List Level) (r : Nat) : allB g l (r + 1) = allB g l r ++ rows g l r (lenR g r) := by
  unfold allB
  rw [List.range_succ, List.flatMap_append]
  simp
theorem row_le (g : Gram) (l : List Level) (r p k : Nat) : (row g l r p k).length ≤ k := by
  unfold row
  exact Nat.le_trans (List.length_filterMap_le _ _) (by simp)
theorem rows_le {g : Gram} (hK : g.rules.length ≤ 32) (l : List Level) (r : Nat) : ∀ p, (rows g l r p).length ≤ p * 32
  | 0 => by simp [rows]
  | p + 1 => by
    rw [rows_succ, List.length_append]
    have := rows_le hK l r p
    have := row_le g l r p g.rules.length
    omega
theorem allB_le {g : Gram} (hK : g.rules.length ≤ 32) (hR : ∀ x ∈ g.rules, x.right.length ≤ 4) (l : List Level) : ∀ r, r ≤ g.rules.length → (allB g l r).length ≤ r * 128
  | 0, _ => by simp [allB]
  | r + 1, h => by
    rw [allB_succ, List.length_append]
    have h1 := allB_le hK hR l r (by omega)
    have h2 := rows_le hK l r (lenR g r)
    have h3 : lenR g r ≤ 4 := by
      unfold lenR
      rw [List.getElem?_eq_getElem (show r < g.rules.length by omega)]
      exact hR _ (List.getElem_mem _)
    have h4 : lenR g r * 32 ≤ 4 * 32 := Nat.mul_le_mul_right _ h3
    omega
theorem lenR_at {g : Gram} {r : Nat} (h : r < g.rules.length) : lenR g r = (g.rules[r]).right.length := by
  unfold lenR
  rw [List.getElem?_eq_getElem h]
  rfl
def skipB (yt : Bool) (yn zl i j : Int) : Bool := yt || (yn != zl) || decide (i < 0) || decide (j < 0) || decide (i < j)
def sameB (first last : Bool) (a : Int) : Bool := first && (a != 1) || last && (a != 2)
theorem banned_at {g : Gram} {l : List Level} {r p k : Nat} (hr : r < g.rules.length) (hk : k < g.rules.length) (hp : p < (g.rules[r]).right.length) :
    banned g l r p k = (!skipB (g.rules[r]).right[p].term (g.rules[r]).right[p].n (g.rules[k]).left (lvOf l r) (lvOf l k) &&
      (decide (lvOf l k < lvOf l r) && (decide (p = 0) || decide (p + 1 = (g.rules[r]).right.length)) || decide (lvOf l k = lvOf l r) && sameB (decide (p = 0)) (decide (p + 1 = (g.rules[r]).right.length)) (assocAt l (lvOf l r)))) := by
  unfold banned
  rw [List.getElem?_eq_getElem hr, List.getElem?_eq_getElem hk]
  simp only
  rw [List.getElem?_eq_getElem hp]
  simp only
  unfold skipB sameB
  have e1 : decide ((g.rules[r]).right[p].n ≠ (g.rules[k]).left) = ((g.rules[r]).right[p].n != (g.rules[k]).left) := by
    rw [Bool.eq_iff_iff]; simp
  have e2 : ∀ c : Int, decide (assocAt l (lvOf l r) ≠ c) = (assocAt l (lvOf l r) != c) := by
    intro c; rw [Bool.eq_iff_iff]; simp
  rw [e1, e2, e2]
theorem skip_cases {yt : Bool} {yn zl li lj : Int} (h : skipB yt yn zl li lj = true) : (yt = true) ∨ (yt = false ∧ (yn != zl) = true) ∨ (yt = false ∧ (yn != zl) = false ∧ decide (li < 0) = true) ∨ (yt = false ∧ (yn != zl) = false ∧ decide (li < 0) = false ∧ decide (lj < 0) = true) ∨ (yt = false ∧ (yn != zl) = false ∧ decide (li < 0) = false ∧ decide (lj < 0) = false ∧ decide (li < lj) = true) := by
  unfold skipB at h
  generalize (yn != zl) = b1 at *
  generalize decide (li < 0) = b2 at *
  generalize decide (lj < 0) = b3 at *
  generalize decide (li < lj) = b4 at *
  revert h
  revert yt b1 b2 b3 b4
  decide
theorem skip_not {yt : Bool} {yn zl li lj : Int} (h : ¬ skipB yt yn zl li lj = true) : yt = false ∧ yn = zl ∧ 0 ≤ li ∧ 0 ≤ lj ∧ lj ≤ li := by
  unfold skipB at h
  simp only [Bool.or_eq_true, decide_eq_true_eq, bne_iff_ne, not_or] at h
  obtain ⟨⟨⟨⟨h1, h2⟩, h3⟩, h4⟩, h5⟩ := h
  exact ⟨by simpa using h1, by simpa using h2, by omega, by omega, by omega⟩
end Fb
end Go.Proofs.YtgcfpbjifjklbaaDoor
namespace Go.Proofs.YtgcfpbjifjklbaaDoor
open Go.RowKit
theorem wp_copyK {P : Program} (w : World) {o : Oper} {a : Act} {K : Act → World → Prop} {Q : Exit → Act → World → Prop} (d s : Operand) (t t' : TypeId)
    (ho : o.op = .call { callee := .builtin .copy, args := #[d, s], argTypes := #[t, t'] }) {v u v' : Value} {w' : World} (hd : a.eval d = v) (hs : a.eval s = u)
    (hr : (Builtin.copy_ #[t, t'] o.type #[v, u]).run P w = .ok v' w') (h : K (a.put o.dst v') w') : o.wp P a w K Q := by
  unfold Oper.wp execOp
  simp only [ho, resolve, invoke, builtin, Sem.run_bind, Sem.run_pure, Result.andThen_ok, List.map_toArray, List.map_cons, List.map_nil, hd, hs, hr]
  exact h
theorem wpl_copyK {P : Program} (w : World) {ops : Array Oper} {rest : List Oper} {o : Oper} {a : Act} {Q : Exit → Act → World → Prop} (hgd : o.guard = none) (d s : Operand) (t t' : TypeId)
    (ho : o.op = .call { callee := .builtin .copy, args := #[d, s], argTypes := #[t, t'] }) {v u v' : Value} {w' : World} (hd : a.eval d = v) (hs : a.eval s = u)
    (hr : (Builtin.copy_ #[t, t'] o.type #[v, u]).run P w = .ok v' w') (h : wpList P ops Q rest (a.put o.dst v') w') : wpList P ops Q (o :: rest) a w :=
  wpList_plain hgd fun _ hK => wp_copyK w d s t t' ho hd hs hr (hK _ _ h)
theorem step_copyK {P : Program} {ops : Array Oper} {o : Oper} {a : Act} {w : World} {K : Act → World → Prop} {Q : Exit → Act → World → Prop} {E : Prop} (hg : o.guard = none) (d x : Operand) (dT sT : TypeId)
    (hop : o.op = .call { callee := .builtin .copy, args := #[d, x], argTypes := #[dT, sT] }) {v u v' : Value} {w' : World} (hd : a.eval d = v) (hx : a.eval x = u)
    (hr : (Builtin.copy_ #[dT, sT] o.type #[v, u]).run P w = .ok v' w') (hK : K (a.put o.dst v') w') : if Region.wanted o (yielded ops a.tmps) = true then Oper.wp P o a w K Q else E := by
  have hw : Region.wanted o (yielded ops a.tmps) = true := by simp [Region.wanted, hg]
  rw [if_pos hw]
  exact wp_copyK w d x dT sT hop hd hx hr hK
theorem setRow_block (w : World) (g : Nat) (cs : Array Value) {k : Nat} (h : k ≠ g) : (w.setRow g cs).heap[k]? = w.heap[k]? := by
  unfold World.setRow
  simp [Array.getElem?_modify, show ¬ g = k from fun e => h e.symm]
theorem grown_setRow (w : World) (g : Nat) (cs : Array Value) : w.grownBy (w.setRow g cs) (some g) :=
  ⟨rfl, rfl, rfl, by simp [World.setRow], fun k _ hn => setRow_block w g cs (fun e => hn (by rw [e]))⟩
end Go.Proofs.YtgcfpbjifjklbaaDoor
