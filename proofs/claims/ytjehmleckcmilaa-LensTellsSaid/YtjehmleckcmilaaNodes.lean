/- The contracts of Nodes, Yield and Codes. -/
import Derived.Test.YtjehmleckcmilaaTreeCopy
import Derived.WalkSmall
namespace Go.Proofs.Ytjehmleckcmilaa
open Go.RowKit

theorem len_nodesL : ∀ (l : List Tree), l.length ≤ (nodesL l).length
  | [] => by simp
  | t :: l => by have := len_nodesL l; have := nodes_pos t; simp [nodesL]; omega

/-- a block that has just been laid is a row of the call's own -/
theorem own_lit {w : World} {B g : Nat} {e : TypeId} {size n : Nat} {news : Array Value} (hg : g = w.heap.size) (hB : B ≤ w.heap.size) (hn : news.size = n * size) (hm : n ≤ maxLen) : (w.alloc (.cells news e)).ownsRow B e size (.slice (some ⟨g, 0, none⟩) n n) n news.toList := by
  subst hg
  exact ⟨by simpa using hn, .inr ⟨_, n, news, rfl, hB, heap_alloc_new w _, Nat.le_refl _, hm, hn, by rw [← hn]; exact List.take_of_length_le (by simp)⟩⟩

/-- a row of trees of the call's own, whose subtrees lie where they lay at first -/
def RowT (w : World) (B : Nat) (v : Value) (ts : List Tree) (wr : World) : Prop := ∃ xs, wr.ownsRow B 43 3 v ts.length xs ∧ RdAll AnyB w (ts.map Tree.d) xs
theorem RowT.form {w : World} {B : Nat} {v : Value} {ts : List Tree} {wr : World} (h : RowT w B v ts wr) : ∃ a cap, v = .slice a ts.length cap ∧ ts.length ≤ cap ∧ cap ≤ maxLen := by
  obtain ⟨xs, h1, _⟩ := h; exact own_len h1
theorem RowT.lt {w : World} {B : Nat} {v : Value} {ts : List Tree} {wr : World} (h : RowT w B v ts wr) : ∀ k, v.ownBlock = some k → B ≤ k ∧ k < wr.heap.size := by
  obtain ⟨xs, h1, _⟩ := h; exact h1.lt
theorem RowT.keep {w : World} {B : Nat} {v : Value} {ts : List Tree} {wr w' : World} (h : RowT w B v ts wr) (hb : Below wr.heap.size wr w') : RowT w B v ts w' := by
  obtain ⟨xs, h1, h2⟩ := h; exact ⟨xs, own_keep h1 hb, h2⟩
theorem RowT.kept {w : World} {B : Nat} {v : Value} {ts : List Tree} {wr w' : World} {row : Option Nat} (h : RowT w B v ts wr) (hg : wr.grownBy w' row) (hne : ∀ k, v.ownBlock = some k → row ≠ some k) : RowT w B v ts w' := by
  obtain ⟨xs, h1, h2⟩ := h
  refine ⟨xs, h1.kept hg ?_, h2⟩
  cases e : v.ownBlock with
  | none => exact .inl rfl
  | some k => exact .inr fun h => hne k e h.symm
theorem RowT.rd {w : World} {B : Nat} {v : Value} {ts : List Tree} {wr : World} (h : RowT w B v ts wr) (hb : Below w.heap.size w wr) : Rd AnyB wr (.sl (ts.map Tree.d)) [v] := by
  obtain ⟨xs, h1, h2⟩ := h
  exact rd_of_own h1 (h2.below hb) (by simp) (fun _ _ => trivial)
theorem RowT.step {w : World} {B : Nat} {v' u : Value} {ts : List Tree} {t : Tree} {w' : World} {xs : List Value} {n : Nat} (hn : ts.length = n) (hd : RdAll AnyB w (ts.map Tree.d) xs) (hk : Rd AnyB w (.sl (t.kids.map Tree.d)) [u])
    (ho : w'.ownsRow B 43 3 v' (n + 1) (xs ++ [.int .i64 t.rule, .int .i64 t.term, u])) : RowT w B v' (ts ++ [t]) w' :=
  ⟨_, by rw [List.length_append, hn]; exact ho, by rw [List.map_append]; exact RdAll.append hd (RdAll.one (rd_tree hk))⟩
theorem RowT.pop {w : World} {B g cap n : Nat} {ts : List Tree} {t : Tree} {wr : World} (hn : ts.length = n) (h : RowT w B (.slice (some ⟨g, 0, none⟩) (n + 1) cap) (ts ++ [t]) wr) : RowT w B (.slice (some ⟨g, 0, none⟩) n cap) ts wr := by
  obtain ⟨xs, h1, h2⟩ := h
  rw [List.map_append] at h2
  obtain ⟨c1, c2, rfl, h3, h4⟩ := h2.split
  refine ⟨c1, ?_, h3⟩
  rw [List.length_append, hn] at h1
  rw [hn]
  exact ownsRow_pop (by rw [RdAll.len _ _ h3, cellsAll_eq (trees_cells ts)]; simp [hn]) h1

theorem RowT.top {w : World} {B g cap n : Nat} {ts : List Tree} {t : Tree} {wr : World} (hn : ts.length = n) (h : RowT w B (.slice (some ⟨g, 0, none⟩) (n + 1) cap) (ts ++ [t]) wr) :
    ∃ u, wr.cell? ⟨g, n * 3, none⟩ = some (.int .i64 t.rule) ∧ wr.cell? ⟨g, n * 3 + 1, none⟩ = some (.int .i64 t.term) ∧ wr.cell? ⟨g, n * 3 + 2, none⟩ = some u ∧ Rd AnyB w (.sl (t.kids.map Tree.d)) [u] := by
  obtain ⟨xs, h1, h2⟩ := h
  rw [List.map_append] at h2
  obtain ⟨c1, c2, rfl, h3, h4⟩ := h2.split
  rw [List.map_cons, List.map_nil, RdAll.one_iff] at h4
  obtain ⟨u, rfl, hk⟩ := h4.tree
  have hl : c1.length = n * 3 := by rw [RdAll.len _ _ h3, cellsAll_eq (trees_cells ts)]; simp [hn]
  have hc := fun j u hj => h1.cells (g := g) rfl j u hj
  simp only [add_at, Nat.zero_add] at hc
  refine ⟨u, hc _ _ ?_, hc _ _ ?_, hc _ _ ?_, hk⟩ <;> simp [← hl]
theorem RowT.block {w : World} {B n : Nat} {v : Value} {ts : List Tree} {wr : World} (h : RowT w B v ts wr) (hn : ts.length = n + 1) : ∃ g cap, v = .slice (some ⟨g, 0, none⟩) (n + 1) cap ∧ n + 1 ≤ cap ∧ cap ≤ maxLen ∧ B ≤ g ∧ g < wr.heap.size := by
  obtain ⟨xs, h1, h2⟩ := h
  have hlt := h1.lt
  rcases h1.2 with ⟨_, h0⟩ | ⟨g, cap, cur, hv, hg, hh, hn', hc, _⟩
  · omega
  · rw [hn] at hv hn'
    subst hv
    exact ⟨g, cap, rfl, hn', hc, (hlt g rfl).1, (hlt g rfl).2⟩

/-- the state of the loops -/
structure NodesRel (w : World) (st out : List Tree) (vt vo : Value) (wr : World) : Prop where
  ot : RowT w w.heap.size vt st wr
  oo : RowT w w.heap.size vo out wr
  ne : ∀ k, vt.ownBlock = some k → vo.ownBlock ≠ some k
  bel : Below w.heap.size w wr

structure InnerRel (w : World) (st out : List Tree) (vt vo : Value) (bx : Nat) (cs : Array Value) (wr : World) : Prop where
  rel : NodesRel w st out vt vo wr
  box : wr.heap[bx]? = some (.cells cs 43 (0, 0))
  apart : vt.ownBlock ≠ some bx
theorem nodes_leaf {t x : Tree} {s' out : List Tree} (h : out ++ nodesL (s' ++ [x]).reverse = nodes t) (hr : x.rule = -1) : (out ++ [x]) ++ nodesL s'.reverse = nodes t := by
  rw [← h]
  simp [nodesL, nodes_eq x, kidsOf, hr]
theorem nodes_inner {t x : Tree} {s' out : List Tree} (h : out ++ nodesL (s' ++ [x]).reverse = nodes t) (hr : x.rule ≠ -1) : (out ++ [x]) ++ nodesL (s' ++ x.kids.reverse).reverse = nodes t := by
  rw [← h]
  simp [nodesL, nodes_eq x, kidsOf, hr, nodesL_append]
theorem nodesL_rev_cons (s' : List Tree) (x : Tree) : (nodesL (s' ++ [x]).reverse).length = (nodes x).length + (nodesL s'.reverse).length := by simp [nodesL]

def NodesPost (t : Tree) (w : World) (e : Ending) (w' : World) : Prop := ∃ v, e = .returned v ∧ Rd AnyB w' (.sl ((nodes t).map Tree.d)) [v] ∧ Below w.heap.size w w'

set_option maxHeartbeats 2000000 in
set_option maxRecDepth 100000 in
theorem nodesE (t : Tree) (v : Value) (w : World) (hv : Rd AnyB w (.sl (t.kids.map Tree.d)) [v]) (hN : (nodes t).length ≤ 1099511627776) :
    Calls Try.prog 102 #[.agg #[.int .i64 t.rule, .int .i64 t.term, v]] w (NodesPost t w) := by
  obtain ⟨a, cap, rfl, -, -⟩ := hv.form
  obtain ⟨n, HN⟩ := nameIt (t.kids.map Tree.d).length
  rw [HN.out] at hv
  rw [HN.out]
  obtain ⟨w0, HW0⟩ := nameIt ((w.alloc (.cells #[.int .i64 t.rule, .int .i64 t.term, .slice a n cap] 43)).alloc (.cells #[.int .i64 t.rule, .int .i64 t.term, .slice a n cap] 43))
  have HR0 : Hid (NodesRel w [t] [] (.slice (some ⟨w.heap.size + 1, 0, none⟩) 1 1) (.slice none 0 0) w0) := by
    rw [← HW0.out]
    refine ⟨⟨_, own_lit (by simp) (by simp) rfl (by simp [maxLen]), RdAll.one (rd_tree hv)⟩, ⟨[], World.ownsRow_nil _ _ _ _, by simp [RdAll]⟩, by simp [Value.ownBlock], ((Below.refl _ _).alloc (Nat.le_refl _) _).alloc (by simp) _⟩
  have HNN := Lib.hid hN
  clear hv hN
  go_enter Try.func102, Try.ntmps102
  go_wp2_with fail
  rw [HW0.out]
  go_loopg [3, 4] (nodes t).length (fun gg v3 v4 wr => ∃ (st out : List Tree), Hid (out ++ nodesL st.reverse = nodes t) ∧ (nodesL st.reverse).length ≤ gg ∧ Hid (NodesRel w st out v3 v4 wr))
  case atStart => exact ⟨[t], [], by show _ = _; simp [nodesL], by simp [nodesL], HR0⟩
  case round =>
    clear HR0 HW0
    obtain ⟨wo, rfl⟩ : ∃ wo : World, wo = wr := ⟨_, rfl⟩
    obtain ⟨st, out, HE, hg, HR⟩ := hrel
    obtain ⟨a4, c4, rfl, ho1, ho2⟩ := HR.out.oo.form
    unfold maxLen at ho2
    rcases List.eq_nil_or_concat st with rfl | ⟨s', x, rfl⟩
    · obtain ⟨a3, c3, rfl, ht1, ht2⟩ := HR.out.ot.form
      have HE2 : Hid (nodes t = out) := by have h := HE.out; simp [nodesL] at h; exact h.symm
      simp only [List.length_nil]
      clear HE
      go_wp2_with fail
      go_ret
      exact ⟨_, rfl, by rw [HE2.out]; exact HR.out.oo.rd HR.out.bel, HR.out.bel⟩
    · rw [List.concat_eq_append] at *
      obtain ⟨k, HK⟩ := nameIt s'.length
      obtain ⟨gt, ct, rfl, ht1, ht2, ht3, ht4⟩ := HR.out.ot.block (n := k) (by simp [HK.out])
      obtain ⟨u, x0, x1, x2, hku⟩ := HR.out.ot.top HK.out
      obtain ⟨au, cu, rfl, hqq, hcu⟩ := hku.form
      obtain ⟨q, HQ⟩ := nameIt (x.kids.map Tree.d).length
      rw [HQ.out] at hqq
      rw [HQ.out] at x2 hku
      have HKU := Lib.hid hku
      have HPOP := Lib.hid (HR.out.ot.pop HK.out)
      obtain ⟨xs, hoo, hdo⟩ := HR.out.oo
      have HOO := Lib.hid hoo
      have HDO := Lib.hid hdo
      have hsz := HR.out.bel.size
      have hout : out.length ≤ (nodes t).length := by have h := congrArg List.length HE.out; simp at h; omega
      have hout2 : k + 1 ≤ (nodes t).length := by
        have h := congrArg List.length HE.out
        have h2 := len_nodesL (s' ++ [x]).reverse
        have h3 := HK.out
        simp at h h2; omega
      have hNN := HNN.out
      unfold maxLen at ht2 hcu
      obtain ⟨r, HXr⟩ := nameIt x.rule
      obtain ⟨tm, HXt⟩ := nameIt x.term
      rw [HXr.out] at x0
      rw [HXt.out] at x1
      have HB1 := Lib.hid ((Below.refl wo.heap.size wo).alloc (Nat.le_refl _) (.cells #[.int .i64 r, .int .i64 tm, .slice au q cu] 43))
      clear hku hoo hdo
      go_wp2_with (at_builtin; refine wp_app1at elTree rfl _ _ rfl (own_keep HOO.out HB1.out) rfl rfl (by simp) rfl rfl (by omega) (by unfold maxLen; omega) (by simp; omega) ?_)
      intro v' w' ho hg2 hat
      have hat' : v'.ownBlock = (Value.slice a4 out.length c4).ownBlock ∨ ∃ k, v'.ownBlock = some k ∧ wo.heap.size < k := by
        rcases hat with e | ⟨k, e, hk⟩
        · exact .inl e
        · exact .inr ⟨k, e, by first | omega | (simp at hk; omega)⟩
      have hR' : NodesRel w s' (out ++ [x]) (.slice (some ⟨gt, 0, none⟩) k ct) v' w' := by
        refine ⟨(HPOP.out.keep HB1.out).kept hg2 (fun k' e => fun h => HR.out.ne k' e h), RowT.step rfl HDO.out HKU.out (by rw [HXr.out, HXt.out]; exact ho), ?_, (HR.out.bel.trans (HB1.out.mono hsz)).grown hg2 (by simp; omega) (fun k' e => (HOO.out.lt k' e).1)⟩
        intro k' e
        rcases hat' with h | ⟨j, h, hj⟩
        · rw [h]; exact HR.out.ne k' e
        · rw [h]; intro h2; cases h2; have : gt = k' := (by simpa [Value.ownBlock] using e); omega
      have hbx : w'.heap[wo.heap.size]? = some (.cells #[.int .i64 r, .int .i64 tm, .slice au q cu] 43 (0, 0)) := by
        rw [hg2.block _ (by simp) (fun e => by have := (HOO.out.lt _ e.symm).2; omega)]
        exact bx_new _ _ _ rfl
      obtain ⟨a5, c5, hv', -, -⟩ := own_len ho
      subst hv'
      have HR' := Lib.hid hR'
      have HBX := Lib.hid hbx
      have hgtw : wo.heap.size < w'.heap.size := (Array.getElem?_eq_some_iff.1 hbx).1
      obtain ⟨y0, y1, y2⟩ := bx_cells3 hbx
      clear ho hg2 hat hat' hR' hbx HOO HDO HPOP HB1 x0 x1 x2
      by_cases hr : r = -1
      · have HE2 := Lib.hid (nodes_leaf HE.out (by rw [HXr.out, hr]))
        have hms : (nodesL s'.reverse).length < gk := by rw [nodesL_rev_cons] at hg; have := nodes_pos x; omega
        subst hr
        go_wp2_with fail
        go_roundg (nodesL s'.reverse).length
        case measure => exact hms
        case rel => exact ⟨s', out ++ [x], HE2, Nat.le_refl _, HR'⟩
      · have HE2 := Lib.hid (nodes_inner HE.out (by rw [HXr.out]; exact hr))
        have hrb : (r == -1) = false := by simpa using hr
        have HQK : Hid (x.kids.length = q) := by have h := HQ.out; rw [List.length_map] at h; exact h
        clear hr
        have HI0 : Hid (InnerRel w (s' ++ (x.kids.drop q).reverse) (out ++ [x]) (.slice (some ⟨gt, 0, none⟩) k ct) (.slice a5 (out.length + 1) c5) wo.heap.size #[.int .i64 r, .int .i64 tm, .slice au q cu] w') := by
          refine ⟨?_, HBX.out, by simp [Value.ownBlock]; omega⟩
          rw [List.drop_of_length_le (by rw [HQK.out]; omega)]
          simpa using HR'.out
        have hkq : ∀ j, (s' ++ (x.kids.drop j).reverse).length ≤ (nodes t).length := by
          intro j
          have h1 := congrArg List.length HE2.out
          have h2 := len_nodesL (s' ++ x.kids.reverse).reverse
          simp at h1 h2 ⊢
          omega
        have HKQ := Lib.hid hkq
        have hms : (nodesL (s' ++ x.kids.reverse).reverse).length < gk := by
          have h1 := congrArg List.length HE.out
          have h2 := congrArg List.length HE2.out
          simp only [List.length_append, List.length_cons, List.length_nil] at h1 h2
          omega
        clear HR' HBX hkq
        go_wp2_with fail
        go_loopg [3, 6] q (fun gg v3 v6 wq => ∃ (j : Nat) (z : Int), v6 = .int .i64 z ∧ Hid (z = (j : Int) - 1) ∧ j ≤ q ∧ j ≤ gg ∧ Hid (InnerRel w (s' ++ (x.kids.drop j).reverse) (out ++ [x]) v3 (.slice a5 (out.length + 1) c5) wo.heap.size #[.int .i64 r, .int .i64 tm, .slice au q cu] wq))
        case atStart => exact ⟨q, _, rfl, rfl, by omega, by omega, HI0⟩
        case round =>
          clear HI0 y0 y1 y2
          obtain ⟨j, z, rfl, HZ, hj, hjg, HI⟩ := hrel
          obtain ⟨y0, y1, y2⟩ := bx_cells3 HI.out.box
          cases j with
          | zero =>
            obtain rfl : z = -1 := by have := HZ.out; omega
            go_wp2_with fail
            go_roundg (nodesL (s' ++ x.kids.reverse).reverse).length
            case measure => exact hms
            case rel => exact ⟨_, out ++ [x], HE2, Nat.le_refl _, HI.out.rel⟩
          | succ i =>
            obtain rfl : z = (i : Int) := by have := HZ.out; omega
            have hiq : i < x.kids.length := by rw [HQK.out]; omega
            obtain ⟨b, off, u, hae, -, hbl, c0, c1, c2, hkid⟩ := HKU.out.kid hiq
            obtain ⟨av, cv, rfl, -, -⟩ := hkid.form
            obtain ⟨nv, HNV⟩ := nameIt (x.kids[i].kids.map Tree.d).length
            rw [HNV.out] at c2 hkid
            have hbel := HI.out.rel.bel
            have e0 := (hbel.cell (p := ⟨b, off + i * 3, none⟩) hbl).trans c0
            have e1 := (hbel.cell (p := ⟨b, off + i * 3 + 1, none⟩) hbl).trans c1
            have e2 := (hbel.cell (p := ⟨b, off + i * 3 + 2, none⟩) hbl).trans c2
            have HST : Hid (s' ++ (x.kids.drop i).reverse = (s' ++ (x.kids.drop (i + 1)).reverse) ++ [x.kids[i]]) := by
              show _ = _
              rw [List.drop_eq_getElem_cons hiq]; simp
            obtain ⟨kid, HKI⟩ := nameIt (x.kids[i]'hiq)
            rw [HKI.out] at e0 e1 hkid HST
            obtain ⟨q0, HQ0⟩ := nameIt kid.rule
            obtain ⟨q1, HQ1⟩ := nameIt kid.term
            rw [HQ0.out] at e0
            rw [HQ1.out] at e1
            obtain ⟨st, HSTN⟩ := nameIt (s' ++ (x.kids.drop (i + 1)).reverse)
            have hstl := HKQ.out (i + 1)
            rw [HSTN.out] at HI HST hstl
            obtain ⟨xs, hot, hdt⟩ := HI.out.rel.ot
            obtain ⟨at', ct', rfl, -, hct'⟩ := own_len hot
            unfold maxLen at hct'
            have hsz2 := hbel.size
            have hlt5 := (Array.getElem?_eq_some_iff.1 HI.out.box).1
            have HKD := Lib.hid hkid
            have HOT := Lib.hid hot
            have HDT := Lib.hid hdt
            subst hae
            clear hkid hot hdt hbel c0 c1 c2
            have i1 : (i : Int) < (q : Int) := by omega
            go_wp2_with (at_builtin; refine wp_app1at elTree rfl _ _ rfl HOT.out rfl rfl (by simp) rfl rfl (by omega) (by unfold maxLen; omega) (by omega) ?_)
            intro v3' w3 ho hg3 hat
            have hI' : InnerRel w (s' ++ (x.kids.drop i).reverse) (out ++ [x]) v3' (.slice a5 (out.length + 1) c5) wo.heap.size #[.int .i64 r, .int .i64 tm, .slice (some ⟨b, off, none⟩) q cu] w3 := by
              rw [HST.out]
              refine ⟨⟨RowT.step rfl HDT.out HKD.out (by rw [HQ0.out, HQ1.out]; exact ho), HI.out.rel.oo.kept hg3 (fun k' e h => HI.out.rel.ne k' h e), ?_, HI.out.rel.bel.grown hg3 (by omega) (fun k' e => (HOT.out.lt k' e).1)⟩, ?_, ?_⟩
              · intro k' e
                rcases hat with h | ⟨j', h, hj'⟩
                · rw [h] at e; exact HI.out.rel.ne k' e
                · rw [h] at e
                  cases e
                  intro h2
                  have := (HI.out.rel.oo.lt _ h2).2
                  omega
              · rw [hg3.block _ hlt5 (fun e => HI.out.apart e.symm)]; exact HI.out.box
              · rcases hat with h | ⟨j', h, hj'⟩
                · rw [h]; exact HI.out.apart
                · rw [h]; intro e; cases e; omega
            have HI' := Lib.hid hI'
            obtain ⟨a6, c6, hv6, -, -⟩ := own_len ho
            subst hv6
            clear ho hg3 hat hI' HKD HOT HDT HI y0 y1 y2 e0 e1 e2
            go_wp2_with fail
            go_roundg i
            case measure => omega
            case rel => exact ⟨i, _, rfl, by show _ = _; go_num, by omega, by omega, HI'⟩
end Go.Proofs.Ytjehmleckcmilaa
