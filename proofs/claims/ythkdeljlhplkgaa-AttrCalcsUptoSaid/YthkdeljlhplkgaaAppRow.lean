/- Append of a whole row of the call's own to another. -/
import Derived.Test.YthkdeljlhplkgaaRowN
namespace Go.Proofs.Ythkdeljlhplkgaa
open Go.RowKit

theorem own_of_blockB {w : World} {B g : Nat} {e : TypeId} {size n : Nat} {cur : Array Value} (h : w.heap[g]? = some (.cells cur e (0, 0))) (hB : B ≤ g) (hn : cur.size = n * size) (hm : n ≤ maxLen) : w.ownsRow B e size (.slice (some ⟨g, 0, none⟩) n n) n cur.toList :=
  ⟨by simpa using hn, .inr ⟨_, n, cur, rfl, hB, h, Nat.le_refl _, hm, hn, by rw [← hn]; exact List.take_of_length_le (by simp)⟩⟩
theorem wp_appRow {P : Program} {ops : Array Oper} {rest : List Oper} {o : Oper} {a : Act} {Q : Exit → Act → World → Prop} {w : World} {t e : TypeId} {size bytes : Nat} (E : ElemT P t e size bytes)
    (hgd : o.guard = none) (s x : Operand) (ho : o.op = .call { callee := .builtin .append, args := #[s, x], argTypes := #[t, t] })
    {B B2 : Nat} {v u : Value} {n k : Nat} {xs ys : List Value} (hown : w.ownsRow B e size v n xs) (hs : a.eval s = v) (hr : w.ownsRow B2 e size u k ys) (hx : a.eval x = u) (h1 : ∀ y ∈ ys, y.oneCell' = true)
    (hb : (n + k) * bytes ≤ 140737488355328) (hm : n + k ≤ maxLen) (hB : B ≤ w.heap.size)
    (h : ∀ v' w', w'.ownsRow B e size v' (n + k) (xs ++ ys) → w.grownBy w' v.ownBlock → (v'.ownBlock = v.ownBlock ∨ ∃ q, v'.ownBlock = some q ∧ w.heap.size ≤ q) → wpList P ops Q rest (a.put o.dst v') w') :
    wpList P ops Q (o :: rest) a w := by
  obtain ⟨hu, ⟨i, z, hi, hz, hsz, hby, hzs⟩, hp⟩ := E
  have hcell := fun {g : Nat} (hg : u.ownBlock = some g) => hr.cells hg
  have hlen := hr.1
  rcases hr.2 with ⟨rfl, h0⟩ | ⟨g, cap, cur, rfl, _⟩
  · subst h0
    have : ys = [] := List.eq_nil_of_length_eq_zero (by rw [hlen]; simp)
    subst this
    exact wpList_append_own_none hgd s x t ho B e i size hu hi v n xs hs hown hx (h v w (by simpa using hown) ⟨rfl, rfl, rfl, Nat.le_refl _, fun _ _ _ => rfl⟩ (.inl rfl))
  · exact wpList_append_own_at w hgd s x t ho B e i z size bytes hu hi hz hsz hby hzs hp v n xs hs hown ⟨g, 0, none⟩ k cap ys hx hlen (hcell rfl) h1 hm hb hB fun v' w' h2 h3 _ h5 => h v' w' h2 h3 (h5.imp id fun e => ⟨_, e, Nat.le_refl _⟩)
end Go.Proofs.Ythkdeljlhplkgaa
