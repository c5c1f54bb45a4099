/- Rows of nested data of the call's own: append of one datum, of a slice of data. -/
import Derived.Test.YtgpikophndbmeaaData
namespace Go.Proofs.Ytgpikophndbmeaa
open Go.RowKit

mutual
theorem Rd.ones {S : Nat → Prop} {w : World} : ∀ (d : D) (cs : List Value), Rd S w d cs → ∀ u ∈ cs, u.oneCell' = true
  | .int n, cs, h => by simp [Rd] at h; subst h; simp [Value.oneCell']
  | .bool n, cs, h => by simp [Rd] at h; subst h; simp [Value.oneCell']
  | .str n, cs, h => by simp [Rd] at h; subst h; simp [Value.oneCell']
  | .sl ds, cs, h => by obtain ⟨a, cap, L, rfl, _⟩ := h; simp [Value.oneCell']
  | .agg ds, cs, h => RdAll.ones ds cs h
theorem RdAll.ones {S : Nat → Prop} {w : World} : ∀ (ds : List D) (cs : List Value), RdAll S w ds cs → ∀ u ∈ cs, u.oneCell' = true
  | [], cs, h => by simp [RdAll] at h; subst h; simp
  | d :: ds, cs, h => by
    obtain ⟨c1, c2, rfl, h1, h2⟩ := h
    intro u hu
    rcases List.mem_append.1 hu with hu | hu
    · exact Rd.ones d c1 h1 u hu
    · exact RdAll.ones ds c2 h2 u hu
end

/-- append of a slice of data to a row of the call's own -/
theorem wp_appD {P : Program} {ops : Array Oper} {rest : List Oper} {o : Oper} {a : Act} {Q : Exit → Act → World → Prop} {w : World} {t e : TypeId} {size bytes : Nat} (E : ElemT P t e size bytes)
    (hgd : o.guard = none) (s x : Operand) (ho : o.op = .call { callee := .builtin .append, args := #[s, x], argTypes := #[t, t] })
    {B : Nat} {v u : Value} {n : Nat} {xs : List Value} {S : Nat → Prop} {ds : List D} (hown : w.ownsRow B e size v n xs) (hs : a.eval s = v) (hsl : Rd S w (.sl ds) [u]) (hx : a.eval x = u) (hk : ∀ d ∈ ds, d.cells = size)
    (hb : (n + ds.length) * bytes ≤ 140737488355328) (hm : n + ds.length ≤ maxLen) (hB : B ≤ w.heap.size)
    (h : ∀ v' w' L, RdAll S w ds L → w'.ownsRow B e size v' (n + ds.length) (xs ++ L) → w.grownBy w' v.ownBlock → (v'.ownBlock = v.ownBlock ∨ ∃ k, v'.ownBlock = some k ∧ w.heap.size ≤ k) → wpList P ops Q rest (a.put o.dst v') w') :
    wpList P ops Q (o :: rest) a w := by
  obtain ⟨hu, ⟨i, z, hi, hz, hsz, hby, hzs⟩, hp⟩ := E
  obtain ⟨a', cap, L, e1, hl, hc, hn, hcell, hd⟩ := hsl
  simp at e1
  subst e1
  have hL : L.length = ds.length * size := by rw [RdAll.len _ _ hd, cellsAll_eq hk]
  cases a' with
  | none =>
    obtain rfl : cap = 0 := hn rfl
    have h0 : ds.length = 0 := by omega
    have hL0 : L = [] := List.eq_nil_of_length_eq_zero (by rw [hL, h0]; simp)
    subst hL0
    rw [h0] at hx
    refine wpList_append_own_none hgd s x t ho B e i size hu hi v n xs hs hown hx (h v w [] hd (by simpa [h0] using hown) ?_ (.inl rfl))
    exact ⟨rfl, rfl, rfl, Nat.le_refl _, fun _ _ _ => rfl⟩
  | some ad =>
    refine wpList_append_own_at w hgd s x t ho B e i z size bytes hu hi hz hsz hby hzs hp v n xs hs hown ad ds.length cap L hx hL ?_ (RdAll.ones _ _ hd) hm hb hB fun v' w' h2 h3 _ h5 => h v' w' L hd h2 h3 (h5.imp id fun e => ⟨_, e, Nat.le_refl _⟩)
    intro j y hj
    obtain ⟨hj1, hj2⟩ := List.getElem?_eq_some_iff.1 hj
    obtain ⟨y', hy, _, h2⟩ := hcell j hj1
    cases hy
    rw [h2, hj2]

/-- append of what lies in one block, at a step of a region that draws its order -/
theorem step_appB {P : Program} {ops : Array Oper} {o : Oper} {a : Act} {K : Act → World → Prop} {Q : Exit → Act → World → Prop} {E' : Prop} {w0 : World} {t e : TypeId} {size bytes : Nat} (E : ElemT P t e size bytes)
    (hgd : o.guard = none) (s x : Operand) (ho : o.op = .call { callee := .builtin .append, args := #[s, x], argTypes := #[t, t] })
    {B : Nat} {v : Value} {n : Nat} {xs : List Value} {news : Array Value} (hown : w0.ownsRow B e size v n xs) (hs : a.eval s = v) {g0 : Nat} (hx : a.eval x = .slice (some ⟨g0, 0, none⟩) 1 1) (hg0 : w0.heap[g0]? = some (.cells news e (0, 0)))
    (hn : news.size = size) (h1 : news.toList.all Value.oneCell' = true) (hb : (n + 1) * bytes ≤ 140737488355328) (hm : n + 1 ≤ maxLen) (hB : B ≤ w0.heap.size)
    (h : ∀ g cap w', w'.ownsRow B e size (.slice (some ⟨g, 0, none⟩) (n + 1) cap) (n + 1) (xs ++ news.toList) → w0.grownBy w' v.ownBlock → (v.ownBlock = some g ∨ g = w0.heap.size) → g < w'.heap.size → K (a.put o.dst (.slice (some ⟨g, 0, none⟩) (n + 1) cap)) w') :
    if Region.wanted o (yielded ops a.tmps) = true then Oper.wp P o a w0 K Q else E' := by
  obtain ⟨hu, ⟨i, z, hi, hz, hsz, hby, hzs⟩, hp⟩ := E
  exact step_append_lies w0 hgd s x t ho B e i z size bytes hu hi hz hsz hby hzs hp v n xs hs hown ⟨g0, 0, none⟩ 1 1 news.toList hx (by simp [hn]) (World.news_of_block hg0) (List.all_eq_true.1 h1) (by omega) hm hb hB w0.heap.size rfl h

/-- append of a slice of data, not empty, at a step of a region that draws its order -/
theorem step_appD {P : Program} {ops : Array Oper} {o : Oper} {a : Act} {K : Act → World → Prop} {Q : Exit → Act → World → Prop} {E' : Prop} {w : World} {t e : TypeId} {size bytes : Nat} (E : ElemT P t e size bytes)
    (hgd : o.guard = none) (s x : Operand) (ho : o.op = .call { callee := .builtin .append, args := #[s, x], argTypes := #[t, t] })
    {B : Nat} {v u : Value} {n : Nat} {xs : List Value} {S : Nat → Prop} {ds : List D} (hown : w.ownsRow B e size v n xs) (hs : a.eval s = v) (hsl : Rd S w (.sl ds) [u]) (hx : a.eval x = u) (hk : ∀ d ∈ ds, d.cells = size) (h0 : 0 < ds.length)
    (hb : (n + ds.length) * bytes ≤ 140737488355328) (hm : n + ds.length ≤ maxLen) (hB : B ≤ w.heap.size)
    (h : ∀ g cap w' L, RdAll S w ds L → w'.ownsRow B e size (.slice (some ⟨g, 0, none⟩) (n + ds.length) cap) (n + ds.length) (xs ++ L) → w.grownBy w' v.ownBlock → (v.ownBlock = some g ∨ g = w.heap.size) → g < w'.heap.size → K (a.put o.dst (.slice (some ⟨g, 0, none⟩) (n + ds.length) cap)) w') :
    if Region.wanted o (yielded ops a.tmps) = true then Oper.wp P o a w K Q else E' := by
  obtain ⟨hu, ⟨i, z, hi, hz, hsz, hby, hzs⟩, hp⟩ := E
  obtain ⟨a', cap, L, e1, hl, hc, hn, hcell, hd⟩ := hsl
  simp at e1
  subst e1
  have hL : L.length = ds.length * size := by rw [RdAll.len _ _ hd, cellsAll_eq hk]
  cases a' with
  | none => have := hn rfl; omega
  | some ad =>
    refine step_append_lies w hgd s x t ho B e i z size bytes hu hi hz hsz hby hzs hp v n xs hs hown ad ds.length cap L hx hL ?_ (RdAll.ones _ _ hd) h0 hm hb hB w.heap.size rfl fun g cap w' h2 h3 h4 h5 => h g cap w' L hd h2 h3 h4 h5
    intro j y hj
    obtain ⟨hj1, hj2⟩ := List.getElem?_eq_some_iff.1 hj
    obtain ⟨y', hy, _, h2⟩ := hcell j hj1
    cases hy
    rw [h2, hj2]
theorem at_lies {v : Value} {g H n cap : Nat} (h : v.ownBlock = some g ∨ g = H) : (Value.slice (some ⟨g, 0, none⟩) n cap).ownBlock = v.ownBlock ∨ ∃ k, (Value.slice (some ⟨g, 0, none⟩) n cap).ownBlock = some k ∧ H ≤ k := by
  rcases h with h | h
  · exact .inl h.symm
  · exact .inr ⟨g, rfl, by omega⟩

/-- a row of data of the call's own, in blocks of S, and beside the row's own block -/
structure RowD (S : Nat → Prop) (B : Nat) (e : TypeId) (size : Nat) (ds : List D) (v : Value) (wr : World) : Prop where
  own : ∃ xs, wr.ownsRow B e size v ds.length xs ∧ RdAll (fun k => S k ∧ v.ownBlock ≠ some k) wr ds xs
  le : B ≤ wr.heap.size
theorem RowD.keep {S : Nat → Prop} {B : Nat} {e : TypeId} {size : Nat} {ds : List D} {v : Value} {wr w' : World} (h : RowD S B e size ds v wr) (hb : Below wr.heap.size wr w') : RowD S B e size ds v w' := by
  obtain ⟨⟨xs, h1, h2⟩, h3⟩ := h
  exact ⟨⟨xs, own_keep h1 hb, h2.below hb⟩, Nat.le_trans h3 hb.size⟩
theorem RowD.form {S : Nat → Prop} {B : Nat} {e : TypeId} {size : Nat} {ds : List D} {v : Value} {wr : World} (h : RowD S B e size ds v wr) : ∃ a cap, v = .slice a ds.length cap ∧ ds.length ≤ cap ∧ cap ≤ maxLen ∧ ∀ k, v.ownBlock = some k → B ≤ k ∧ k < wr.heap.size := by
  obtain ⟨⟨xs, h1, h2⟩, h3⟩ := h
  obtain ⟨a, cap, rfl, e1, e2⟩ := own_len h1
  exact ⟨a, cap, rfl, e1, e2, h1.lt⟩
theorem RowD.rd {S : Nat → Prop} {B : Nat} {e : TypeId} {size : Nat} {ds : List D} {v : Value} {wr : World} (h : RowD S B e size ds v wr) : Rd (fun k => S k ∨ B ≤ k) wr (.sl ds) [v] := by
  obtain ⟨⟨xs, h1, h2⟩, h3⟩ := h
  exact rd_of_own h1 (h2.mono fun k hk _ => .inl hk.1) rfl (fun k e => .inr (h1.lt k e).1)
theorem RowD.nil (S : Nat → Prop) (B : Nat) (e : TypeId) (size : Nat) (w : World) (h : B ≤ w.heap.size) : RowD S B e size [] (.slice none 0 0) w := ⟨⟨[], World.ownsRow_nil _ _ _ _, by simp [RdAll]⟩, h⟩
/-- behind an append: W0: before it -/
theorem RowD.step {S T : Nat → Prop} {B : Nat} {e : TypeId} {size : Nat} {ds es : List D} {v v' : Value} {W0 W1 : World} {xs news : List Value} {n : Nat} (h1 : W0.ownsRow B e size v n xs) (h2 : RdAll (fun k => S k ∧ v.ownBlock ≠ some k) W0 ds xs) (hn : n = ds.length)
    (hp : RdAll T W0 es news) (hT : ∀ k, T k → k < W0.heap.size → S k ∧ v.ownBlock ≠ some k) (hB : B ≤ W0.heap.size)
    (ho : W1.ownsRow B e size v' (n + es.length) (xs ++ news)) (hg : W0.grownBy W1 v.ownBlock) (hat : v'.ownBlock = v.ownBlock ∨ ∃ k, v'.ownBlock = some k ∧ W0.heap.size ≤ k) : RowD S B e size (ds ++ es) v' W1 := by
  subst hn
  exact ⟨⟨xs ++ news, by rw [List.length_append]; exact ho, own_step h2 (hp.mono hT) hg hat⟩, Nat.le_trans hB hg.size⟩
end Go.Proofs.Ytgpikophndbmeaa
