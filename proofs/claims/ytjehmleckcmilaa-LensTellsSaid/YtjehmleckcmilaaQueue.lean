/- A row of the call's own that is also cut at its front: append to it. -/
import Derived.Test.YtjehmleckcmilaaRowD
namespace Go.Proofs.Ytjehmleckcmilaa
open Go.RowKit

/-- as World.ownsRow, but the row may begin anywhere in its block -/
def ownsQ (w : World) (B : Nat) (e : TypeId) (size : Nat) (v : Value) (n : Nat) (xs : List Value) : Prop :=
  xs.length = n * size ∧
  ((v = .slice none 0 0 ∧ n = 0) ∨
   ∃ g off cap cur, v = .slice (some ⟨g, off, none⟩) n cap ∧ B ≤ g ∧ w.heap[g]? = some (.cells cur e (0, 0)) ∧ n ≤ cap ∧ cap ≤ maxLen ∧ off + cap * size ≤ cur.size ∧ (cur.toList.drop off).take (n * size) = xs)
theorem ownsQ_of {w : World} {B : Nat} {e : TypeId} {size : Nat} {v : Value} {n : Nat} {xs : List Value} (h : w.ownsRow B e size v n xs) : ownsQ w B e size v n xs := by
  obtain ⟨h1, h2⟩ := h
  refine ⟨h1, ?_⟩
  rcases h2 with h2 | ⟨g, cap, cur, rfl, a, b, c, d, f, t⟩
  · exact .inl h2
  · exact .inr ⟨g, 0, cap, cur, rfl, a, b, c, d, by omega, by simpa using t⟩
section
variable {w w' : World} {B : Nat} {e : TypeId} {size : Nat} {v : Value} {n : Nat} {xs : List Value}
theorem ownsQ.lt (h : ownsQ w B e size v n xs) : ∀ k, v.ownBlock = some k → B ≤ k ∧ k < w.heap.size := by
  intro k hk
  rcases h.2 with ⟨rfl, _⟩ | ⟨g, off, cap, cur, rfl, a, b, _⟩
  · cases hk
  · cases hk; exact ⟨a, (Array.getElem?_eq_some_iff.1 b).1⟩
theorem ownsQ.other {row : Option Nat} (h : ownsQ w B e size v n xs) (hg : w.grownBy w' row) (hne : ∀ k, v.ownBlock = some k → row ≠ some k) : ownsQ w' B e size v n xs := by
  have hlt := h.lt
  obtain ⟨h1, h2⟩ := h
  refine ⟨h1, ?_⟩
  rcases h2 with h2 | ⟨g, off, cap, cur, rfl, a, b, r⟩
  · exact .inl h2
  · exact .inr ⟨g, off, cap, cur, rfl, a, (hg.block g (hlt g rfl).2 (fun e => hne g rfl e.symm)).trans b, r⟩
theorem ownsQ.keep (h : ownsQ w B e size v n xs) (hb : Below w.heap.size w w') : ownsQ w' B e size v n xs := h.other (grown_below hb none) (fun k _ e => by cases e)
theorem ownsQ.form (h : ownsQ w B e size v n xs) : ∃ a cap, v = .slice a n cap ∧ n ≤ cap ∧ cap ≤ maxLen := by
  rcases h.2 with ⟨rfl, rfl⟩ | ⟨g, off, cap, cur, rfl, _, _, h1, h2, _⟩
  · exact ⟨_, _, rfl, by simp, by simp⟩
  · exact ⟨_, _, rfl, h1, h2⟩
theorem ownsQ.cells (h : ownsQ w B e size v n xs) (hn : 0 < n) : ∃ g off cap, v = .slice (some ⟨g, off, none⟩) n cap ∧ ∀ j u, xs[j]? = some u → w.cell? ⟨g, off + j, none⟩ = some u := by
  rcases h.2 with ⟨_, h0⟩ | ⟨g, off, cap, cur, rfl, _, hh, h1, h2, h3, ht⟩
  · omega
  · refine ⟨g, off, cap, rfl, fun j u hj => ?_⟩
    have hl := h.1
    have hj2 := (List.getElem?_eq_some_iff.1 hj).1
    rw [← ht, List.getElem?_take, if_pos (by omega), List.getElem?_drop] at hj
    simp [World.cell?, hh]
    simpa using hj
/-- x[1:] -/
theorem ownsQ.tail {g off cap : Nat} {ys : List Value} (h : ownsQ w B e size (.slice (some ⟨g, off, none⟩) (n + 1) cap) (n + 1) (ys ++ xs)) (hy : ys.length = size) (hs : 0 < size) : ownsQ w B e size (.slice (if cap = 1 then some ⟨g, off, none⟩ else some ⟨g, off + size, none⟩) n (cap - 1)) n xs := by
  obtain ⟨h1, h2⟩ := h
  rw [List.length_append, Nat.add_mul, hy] at h1
  refine ⟨by omega, ?_⟩
  rcases h2 with ⟨h2, _⟩ | ⟨g', off', cap', cur, hv, a, b, c, d, f, t⟩
  · cases h2
  · cases hv
    right
    by_cases e1 : cap = 1
    · subst e1
      obtain rfl : n = 0 := by omega
      have hx : xs = [] := List.eq_nil_of_length_eq_zero (by omega)
      refine ⟨g, off, 0, cur, by simp, a, b, by omega, by unfold maxLen; omega, by omega, by simp [hx]⟩
    · refine ⟨g, off + size, cap - 1, cur, by simp [e1], a, b, by omega, by omega, ?_, ?_⟩
      · have : cap * size = size + (cap - 1) * size := by
          obtain ⟨c', rfl⟩ : ∃ c', cap = c' + 1 := ⟨cap - 1, by omega⟩
          simp [Nat.add_mul]; omega
        omega
      · have h3 : (cur.toList.drop off).take (n * size + size) = ys ++ xs := by rw [← t]; congr 1; simp [Nat.add_mul]
        have h4 := congrArg (List.drop size) h3
        have h5 : List.drop size (ys ++ xs) = xs := by rw [← hy]; simp
        rw [List.drop_take, List.drop_drop, h5, Nat.add_sub_cancel] at h4
        exact h4
end
theorem run_append_roomQ {P : Program} (w : World) (t ty e : TypeId) (i : TypeInfo) (ht : P.underlying t = some (.slice e)) (hi : P.info? e = some i)
    (g off sLen sCap : Nat) (cur : Array Value) (hg : w.heap[g]? = some (.cells cur e (0, 0)))
    (a : Addr) (m c : Nat) (news : List Value) (hl : news.length = m * i.size) (hnews : ∀ j u, news[j]? = some u → w.cell? (a.add j) = some u) (h1 : ∀ u ∈ news, u.oneCell' = true)
    (hroom : sLen + m ≤ sCap) (hfit : off + sLen * i.size + news.length ≤ cur.size) :
    (Builtin.append_ #[t, t] ty #[.slice (some ⟨g, off, none⟩) sLen sCap, .slice (some a) m c]).run P w =
      .ok (.slice (some ⟨g, off, none⟩) (sLen + m) sCap) (w.setRow g (cur.toList.take (off + sLen * i.size) ++ news ++ cur.toList.drop (off + sLen * i.size + news.length)).toArray) := by
  have hf := run_firstCells_some (P := P) w i.size m a m c news hl hnews
  have hst := run_storeCells_at P g (off + sLen * i.size) e news 0 cur w hg (by simpa using hfit) h1
  simp only [Nat.add_zero] at hst
  simp [Builtin.append_, run_underlying ht, sizeOf, typeInfo, hi, Builtin.lenOf, hroom, hf, add_at, hst]

theorem run_append_q {P : Program} (w : World) (B : Nat) (t ty e : TypeId) (i : TypeInfo) (z : Value) (size bytes : Nat) (ht : P.underlying t = some (.slice e)) (hi : P.info? e = some i) (hz : i.zero = some z)
    (hsize : i.size = size) (hby : i.bytes = bytes) (hzs : z.cells.size = size) (hsz : 0 < size)
    (v : Value) (n : Nat) (xs : List Value) (hown : ownsQ w B e size v n xs)
    (a : Addr) (m c : Nat) (news : List Value) (hl : news.length = m * size) (hnews : ∀ j u, news[j]? = some u → w.cell? (a.add j) = some u) (h1 : ∀ u ∈ news, u.oneCell' = true) (hm : 0 < m)
    (h63 : n + m ≤ maxLen) (hbytes : (n + m) * bytes ≤ 140737488355328) (hbase : B ≤ w.heap.size) :
    ∃ g off cap w', (Builtin.append_ #[t, t] ty #[v, .slice (some a) m c]).run P w = .ok (.slice (some ⟨g, off, none⟩) (n + m) cap) w' ∧ ownsQ w' B e size (.slice (some ⟨g, off, none⟩) (n + m) cap) (n + m) (xs ++ news) ∧ w.grownBy w' v.ownBlock ∧ ((∃ cap0, v = .slice (some ⟨g, off, none⟩) n cap0) ∨ (g = w.heap.size ∧ w.grownBy w' none)) ∧ g < w'.heap.size := by
  subst hsize
  subst hby
  have hsmall : n + m ≤ 9223372036854775807 := by simp only [maxLen] at h63; omega
  have hlen : (xs ++ news).length = (n + m) * i.size := by rw [List.length_append, hown.1, hl, Nat.add_mul]
  have grown : ∀ (old : Nat), old < n + m → ∀ (row : Option Nat),
      ownsQ (w.drew.alloc (.cells (xs.toArray ++ news.toArray ++ Builtin.zeroCells z.cells (grownCap w (n + m) old e - (n + m))) e)) B e i.size
        (.slice (some ⟨w.heap.size, 0, none⟩) (n + m) (grownCap w (n + m) old e)) (n + m) (xs ++ news) ∧
      w.grownBy (w.drew.alloc (.cells (xs.toArray ++ news.toArray ++ Builtin.zeroCells z.cells (grownCap w (n + m) old e - (n + m))) e)) row := by
    intro old ho row
    have hge := grownCap_ge w (n + m) old e
    have hcm : grownCap w (n + m) old e ≤ maxLen := grownCap_le_maxLen w (n + m) old e h63
    refine ⟨ownsQ_of ⟨hlen, .inr ⟨w.heap.size, _, _, rfl, hbase, heap_alloc_new w.drew _, hge, hcm, ?_, ?_⟩⟩, ⟨rfl, rfl, rfl, by simp, fun k hk _ => ((Below.refl w.drew.heap.size w.drew).alloc (Nat.le_refl _) _).block k hk⟩⟩
    · simp only [Array.size_append, List.size_toArray, size_zeroCells, hzs, hown.1, hl, ← Nat.add_mul]
      congr 1
      omega
    · simp only [Array.toList_append, List.append_assoc]
      rw [← List.append_assoc, ← hlen]
      exact List.take_left
  rcases hown.2 with ⟨rfl, rfl⟩ | ⟨g, off, cap, cur, rfl, hbg, hg, hnc, hcm, hcs, htake⟩
  · have hx : xs = [] := List.eq_nil_of_length_eq_zero (by simpa using hown.1)
    subst hx
    have hr := run_append_nil (P := P) w t ty e i z ht hi hz a m c news hl hnews (by omega) (by omega) (by have hb := hbytes; simp only [Nat.zero_add] at hb; omega)
    have hgr := grown 0 (by omega) (Value.ownBlock (.slice none 0 0))
    have hgn := grown 0 (by omega) none
    simp only [Nat.zero_add, List.nil_append, Array.empty_append] at hgr hgn ⊢
    exact ⟨_, _, _, _, hr, hgr.1, hgr.2, .inr ⟨rfl, hgn.2⟩, by simp⟩
  · by_cases hroom : n + m ≤ cap
    · have hfit : off + n * i.size + news.length ≤ cur.size := by
        have h2 := Nat.mul_le_mul_right i.size hroom
        rw [Nat.add_mul] at h2
        omega
      have hr := run_append_roomQ (P := P) w t ty e i ht hi g off n cap cur hg a m c news hl hnews h1 hroom hfit
      refine ⟨_, _, _, _, hr, ⟨hlen, .inr ⟨g, off, cap, _, rfl, hbg, setRow_heap w g cur _ e _ hg, hroom, hcm, ?_, ?_⟩⟩, ⟨rfl, rfl, rfl, by simp, fun k _ hk => setRow_other w g k _ (fun e => hk (by simp [Value.ownBlock, e]))⟩, .inl ⟨cap, rfl⟩, by simpa using (Array.getElem?_eq_some_iff.1 hg).1⟩
      · simp only [List.size_toArray, List.length_append, List.length_take, List.length_drop, Array.length_toList]
        omega
      · have h3 : cur.toList.take (off + n * i.size) = cur.toList.take off ++ xs := by rw [List.take_add, htake]
        have h4 : (cur.toList.take off).length = off := by simp; omega
        simp only [h3, List.append_assoc]
        rw [List.drop_append_of_le_length (by omega), List.drop_eq_nil_of_le (by omega), List.nil_append, ← List.append_assoc, ← hlen]
        exact List.take_left
    · have holds : ∀ j u, xs[j]? = some u → w.cell? ((⟨g, off, none⟩ : Addr).add j) = some u := by
        intro j u hj
        rw [add_at]
        have hj2 := (List.getElem?_eq_some_iff.1 hj).1
        have hl' := hown.1
        rw [← htake, List.getElem?_take, if_pos (by omega), List.getElem?_drop] at hj
        simp [World.cell?, hg]
        simpa using hj
      have hr := run_append_grow (P := P) w t ty e i z ht hi hz ⟨g, off, none⟩ n cap xs hown.1 holds a m c news hl hnews (by omega) (by omega) (growslice_fits (by omega) hbytes)
      have hgr := grown cap (by omega) (Value.ownBlock (.slice (some ⟨g, off, none⟩) n cap))
      have hgn := grown cap (by omega) none
      exact ⟨_, _, _, _, hr, hgr.1, hgr.2, .inr ⟨rfl, hgn.2⟩, by simp⟩
/-- append of what lies in one block, at a step of a region that draws its order -/
theorem step_appQ {P : Program} {ops : Array Oper} {o : Oper} {a : Act} {K : Act → World → Prop} {Q : Exit → Act → World → Prop} {E' : Prop} {w0 : World} {t e : TypeId} {size bytes : Nat} (E : ElemT P t e size bytes)
    (hgd : o.guard = none) (s x : Operand) (ho : o.op = .call { callee := .builtin .append, args := #[s, x], argTypes := #[t, t] })
    {B : Nat} {v : Value} {n : Nat} {xs : List Value} {news : Array Value} (hown : ownsQ w0 B e size v n xs) (hs : a.eval s = v) {g0 : Nat} (hx : a.eval x = .slice (some ⟨g0, 0, none⟩) 1 1) (hg0 : w0.heap[g0]? = some (.cells news e (0, 0)))
    (hn : news.size = size) (h1 : news.toList.all Value.oneCell' = true) (hb : (n + 1) * bytes ≤ 140737488355328) (hm : n + 1 ≤ maxLen) (hB : B ≤ w0.heap.size)
    (h : ∀ g off cap w', ownsQ w' B e size (.slice (some ⟨g, off, none⟩) (n + 1) cap) (n + 1) (xs ++ news.toList) → w0.grownBy w' v.ownBlock → ((∃ cap0, v = .slice (some ⟨g, off, none⟩) n cap0) ∨ (g = w0.heap.size ∧ w0.grownBy w' none)) → g < w'.heap.size → K (a.put o.dst (.slice (some ⟨g, off, none⟩) (n + 1) cap)) w') :
    if Region.wanted o (yielded ops a.tmps) = true then Oper.wp P o a w0 K Q else E' := by
  obtain ⟨hu, ⟨i, z, hi, hz, hsz, hby, hzs⟩, hp⟩ := E
  have hw : Region.wanted o (yielded ops a.tmps) = true := by simp [Region.wanted, hgd]
  rw [if_pos hw]
  obtain ⟨g, off, cap, w', hr, h2, h3, h4, h5⟩ := run_append_q (P := P) w0 B t o.type e i z size bytes hu hi hz hsz hby hzs hp v n xs hown ⟨g0, 0, none⟩ 1 1 news.toList (by simp [hn]) (World.news_of_block hg0) (List.all_eq_true.1 h1) (by omega) hm hb hB
  unfold Oper.wp execOp
  simp only [ho, resolve, invoke, builtin, Sem.run_bind, Sem.run_pure, Result.andThen_ok, List.map_toArray, List.map_cons, List.map_nil, hs, hx, hr]
  exact h g off cap w' h2 h3 h4 h5
end Go.Proofs.Ytjehmleckcmilaa
