/- A list of trees that is being made, beside memory that is only read. -/
import Derived.Test.YtjehmleckcmilaaPartsWalk
namespace Go.Proofs.Ytjehmleckcmilaa
open Go.RowKit

/-- the rest of a slice of data without its first -/
theorem Rd.tail {S : Nat → Prop} {w : World} {ds : List D} {b off n cap k : Nat} (h : Rd S w (.sl ds) [.slice (some ⟨b, off, none⟩) n cap]) (hk : ∀ d ∈ ds, d.cells = k) (hn : 1 ≤ n) :
    Rd S w (.sl (ds.drop 1)) [.slice (some ⟨b, if cap = 1 then off else off + k, none⟩) (n - 1) (cap - 1)] := by
  obtain ⟨a', cap', L, e, h1, h2, h3, h4, h5⟩ := h
  simp at e
  obtain ⟨rfl, rfl, rfl⟩ := e
  cases ds with
  | nil => simp at hn
  | cons d ds =>
    obtain ⟨c1, c2, rfl, h6, h7⟩ := h5
    have hl : c1.length = k := by rw [Rd.len d c1 h6]; exact hk d List.mem_cons_self
    simp only [List.drop_succ_cons, List.drop_zero, List.length_cons] at *
    refine ⟨_, cap - 1, c2, rfl, by omega, by omega, (fun h => by cases h), fun i hi => ⟨_, rfl, ?_, ?_⟩, h7⟩
    · obtain ⟨x, hx, hS, _⟩ := h4 (c1.length + i) (by simp; omega)
      cases hx
      exact hS
    · obtain ⟨x, hx, _, hc⟩ := h4 (c1.length + i) (by simp; omega)
      cases hx
      rw [add_at] at hc ⊢
      have hc1 : ¬ cap = 1 := by
        intro e
        have : ds = [] := List.eq_nil_of_length_eq_zero (by omega)
        subst this
        simp [RdAll] at h7
        subst h7
        simp at hi
      rw [if_neg hc1, Nat.add_assoc, ← hl, hc]
      simp

theorem Rd.headed {S : Nat → Prop} {w : World} {ds : List D} {v : Value} {k : Nat} (h : Rd S w (.sl ds) [v]) (h0 : 0 < ds.length) (hk : ∀ d ∈ ds, d.cells = k) (hp : 0 < k) : ∃ b off cap, v = .slice (some ⟨b, off, none⟩) ds.length cap ∧ ds.length ≤ cap ∧ cap ≤ maxLen := by
  obtain ⟨a, cap, rfl, h1, h2⟩ := h.form
  obtain ⟨b, off, cs, ha, _⟩ := h.at hk hp h0
  subst ha
  exact ⟨b, off, cap, rfl, h1, h2⟩

/-- the inner loop's state: vo: the row when it began, in w3 -/
structure InR (Q : Nat → Prop) (B : Nat) (w3 : World) (vo : Value) (ds : List D) (v : Value) (wr : World) : Prop where
  row : RowD Q B 43 3 ds v wr
  gr : w3.grownBy wr vo.ownBlock
  at' : v.ownBlock = vo.ownBlock ∨ ∃ k, v.ownBlock = some k ∧ w3.heap.size ≤ k
theorem InR.start {Q : Nat → Prop} {B : Nat} {w3 : World} {vo : Value} {ds : List D} (h : RowD Q B 43 3 ds vo w3) : InR Q B w3 vo ds vo w3 := ⟨h, ⟨rfl, rfl, rfl, Nat.le_refl _, fun _ _ _ => rfl⟩, .inl rfl⟩
theorem InR.keep {Q : Nat → Prop} {B : Nat} {w3 : World} {vo : Value} {ds : List D} {v : Value} {wr w' : World} (h : InR Q B w3 vo ds v wr) (hb : Below wr.heap.size wr w') : InR Q B w3 vo ds v w' :=
  ⟨h.row.keep hb, grown_trans h.gr (grown_below hb _), h.at'⟩
/-- what is read beside the row -/
theorem InR.rd {Q : Nat → Prop} {B : Nat} {w3 : World} {vo : Value} {ds : List D} {v : Value} {wr : World} (h : InR Q B w3 vo ds v wr) {d : D} {cs : List Value} (hd : Rd (fun k => vo.ownBlock ≠ some k) w3 d cs) : Rd (fun k => k < wr.heap.size ∧ v.ownBlock ≠ some k) wr d cs := by
  refine Rd.keep (fun k hk hlt => ⟨⟨Nat.lt_of_lt_of_le hlt h.gr.size, fun e => ?_⟩, h.gr.block k hlt (fun e => hk e.symm)⟩) _ _ hd
  rcases h.at' with h2 | ⟨j, h2, hj⟩
  · rw [h2] at e; exact hk e
  · rw [h2] at e; cases e; omega
theorem InR.rdT {Q : Nat → Prop} {B : Nat} {w3 : World} {vo : Value} {ds : List D} {v : Value} {wr : World} {T : Nat → Prop} (h : InR Q B w3 vo ds v wr) {d : D} {cs : List Value} (hd : Rd (fun k => T k ∧ vo.ownBlock ≠ some k) w3 d cs) : Rd (fun k => T k ∧ k < wr.heap.size ∧ v.ownBlock ≠ some k) wr d cs := by
  refine Rd.keep (fun k hk hlt => ⟨⟨hk.1, Nat.lt_of_lt_of_le hlt h.gr.size, fun e => ?_⟩, h.gr.block k hlt (fun e => hk.2 e.symm)⟩) _ _ hd
  rcases h.at' with h2 | ⟨j, h2, hj⟩
  · rw [h2] at e; exact hk.2 e
  · rw [h2] at e; cases e; omega
theorem InR.block {Q : Nat → Prop} {B : Nat} {w3 : World} {vo : Value} {ds : List D} {v : Value} {wr : World} (h : InR Q B w3 vo ds v wr) {b : Nat} {o : Obj} (hb : w3.heap[b]? = some o) (hne : vo.ownBlock ≠ some b) : wr.heap[b]? = some o := by
  rw [h.gr.block b (Array.getElem?_eq_some_iff.1 hb).1 (fun e => hne e.symm)]; exact hb
theorem InR.below {Q : Nat → Prop} {B : Nat} {w1 w3 : World} {vo : Value} {ds : List D} {v : Value} {wr : World} (h : InR Q B w3 vo ds v wr) (hb : Below B w1 w3) (hB : B ≤ w3.heap.size) (hvo : ∀ k, vo.ownBlock = some k → B ≤ k) : Below B w1 wr := hb.grown h.gr hB hvo
theorem InR.step {Q : Nat → Prop} {B : Nat} {w3 : World} {vo : Value} {ds : List D} {v v' : Value} {W0 W1 : World} {xs : List Value} {n : Nat} {T : Nat → Prop} {t : Tree} {u : Value} (h : InR Q B w3 vo ds v W0) (ho : W0.ownsRow B 43 3 v n xs) (hd : RdAll (fun k => Q k ∧ v.ownBlock ≠ some k) W0 ds xs) (hn : n = ds.length)
    (hr : Rd T W0 (.sl (t.kids.map Tree.d)) [u]) (hT : ∀ k, T k → Q k ∧ v.ownBlock ≠ some k)
    (ho' : W1.ownsRow B 43 3 v' (n + 1) (xs ++ [.int .i64 t.rule, .int .i64 t.term, u])) (hg : W0.grownBy W1 v.ownBlock) (hat : v'.ownBlock = v.ownBlock ∨ ∃ k, v'.ownBlock = some k ∧ W0.heap.size ≤ k) : InR Q B w3 vo (ds ++ [t.d]) v' W1 := by
  refine ⟨RowD.step (es := [t.d]) ho hd hn (RdAll.one (rd_tree hr)) (fun k hk _ => hT k hk) h.row.le ho' hg hat, ?_, ?_⟩
  · refine ⟨hg.os.trans h.gr.os, hg.tape.trans h.gr.tape, hg.output.trans h.gr.output, Nat.le_trans h.gr.size hg.size, fun k hk hne => ?_⟩
    rw [hg.block k (Nat.lt_of_lt_of_le hk h.gr.size) ?_, h.gr.block k hk hne]
    intro e
    rcases h.at' with h2 | ⟨j, h2, hj⟩
    · exact hne (by rw [e, h2])
    · rw [h2] at e; cases e; omega
  · have := h.gr.size
    rcases hat with h2 | ⟨j, h2, hj⟩
    · rw [h2]; exact h.at'
    · exact .inr ⟨j, h2, by omega⟩
end Go.Proofs.Ytjehmleckcmilaa
