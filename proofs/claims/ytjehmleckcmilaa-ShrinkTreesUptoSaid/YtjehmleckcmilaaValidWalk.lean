/- The contracts of tree.valid, tree.Check and tree.Symbol. -/
import Derived.Test.YtjehmleckcmilaaRootWalk
namespace Go.Proofs.Ytjehmleckcmilaa
open Go.RowKit

def PairAt (g : Nat) (lb : Array Value) (p : Tree → Sym → Bool) (w : World) : Prop :=
  ∀ (W : World) (k : Tree) (v : Value) (s : Sym), Below w.heap.size w W → Rd AnyB W (.sl (k.kids.map Tree.d)) [v] → Calls Try.prog g (#[.agg #[.int .i64 k.rule, .int .i64 k.term, v], .agg #[.bool s.term, .int .i64 s.n]] ++ lb) W fun e w' => e = .returned (.bool (p k s)) ∧ Below W.heap.size W w'
def eqAll (p : Tree → Sym → Bool) (ks : List Tree) (l : List Sym) : Bool := decide (ks.length = l.length) && (List.zip ks l).all fun x => p x.1 x.2
theorem eqAll_ne {p : Tree → Sym → Bool} {ks : List Tree} {l : List Sym} (h : ks.length ≠ l.length) : eqAll p ks l = false := by simp [eqAll, h]
theorem eqAll_bad {p : Tree → Sym → Bool} {ks : List Tree} {l : List Sym} {i : Nat} (h : i < ks.length) (h2 : i < l.length) (hp : p ks[i] l[i] = false) : eqAll p ks l = false := by
  unfold eqAll
  rw [Bool.and_eq_false_iff]
  right
  rw [List.all_eq_false]
  exact ⟨(ks[i], l[i]), List.mem_iff_getElem.2 ⟨i, by simp; omega, by simp⟩, by simp [hp]⟩
theorem eqAll_good {p : Tree → Sym → Bool} {ks : List Tree} {l : List Sym} (h : ks.length = l.length) (hp : ∀ i (h1 : i < ks.length) (h2 : i < l.length), p ks[i] l[i] = true) : eqAll p ks l = true := by
  unfold eqAll
  rw [Bool.and_eq_true]
  refine ⟨by simpa using h, List.all_eq_true.2 ?_⟩
  intro x hx
  obtain ⟨i, hi, rfl⟩ := List.mem_iff_getElem.1 hx
  simp at hi
  simpa using hp i (by omega) (by omega)

set_option maxHeartbeats 1000000 in
set_option maxRecDepth 100000 in
theorem equalFuncTS (g : Nat) (lb : Array Value) (p : Tree → Sym → Bool) (a a' : Option Addr) (c c' : Nat) (ks : List Tree) (l : List Sym) (w : World) (eg : ∀ args w, (callFunc g args).run Try.prog w = .ok (.enter g args) w) (hf : PairAt g lb p w)
    (hk : Rd AnyB w (.sl (ks.map Tree.d)) [.slice a ks.length c]) (hl : Rd AnyB w (.sl (l.map Sym.d)) [.slice a' l.length c']) :
    Calls Try.prog 180 #[.slice a ks.length c, .slice a' l.length c', .func (.func g) #[] lb] w fun e w' => e = .returned (.bool (eqAll p ks l)) ∧ Below w.heap.size w w' := by
  have HK := Lib.hid hk
  have HL := Lib.hid hl
  have HF := Lib.hid hf
  have hc := hk.bounds.2
  have hc' := hl.bounds.2
  unfold maxLen at hc hc'
  obtain ⟨hc1, hc2⟩ := hc
  obtain ⟨hc3, hc4⟩ := hc'
  clear hk hl hf
  by_cases hlen : ks.length = l.length
  · have hlb : ((ks.length : Int) != (l.length : Int)) = false := by simp [hlen]
    have HLEN := Lib.hid hlen
    have hle : ks.length ≤ l.length := by omega
    clear hlen
    go_enter Try.func180, Try.ntmps180
    go_wp2_with fail
    go_loopg [17] ks.length (fun gg v17 wr => ∃ i : Nat, i ≤ ks.length ∧ ks.length - i ≤ gg ∧ v17 = .int .i64 i ∧ Hid (Below w.heap.size w wr) ∧ Hid (∀ j (h1 : j < ks.length) (h2 : j < l.length), j < i → p ks[j] l[j] = true))
    case atStart => exact ⟨0, by omega, by omega, rfl, Below.refl _ _, fun j _ _ hj => by omega⟩
    case round =>
      obtain ⟨i, hi, hg, rfl, HB, HN⟩ := hrel
      by_cases hlt : i < ks.length
      · have hlt' : (i : Int) < (ks.length : Int) := by omega
        have hlt2 : i < l.length := by omega
        have hlt2' : (i : Int) < (l.length : Int) := by omega
        obtain ⟨b, off, v, hae, -, hbl, c0, c1, c2, hkid⟩ := (HK.out.below HB.out).kid hlt
        obtain ⟨av, cv, rfl, -, -⟩ := hkid.form
        obtain ⟨nv, HNV⟩ := nameIt (ks[i].kids.map Tree.d).length
        rw [HNV.out] at c2 hkid
        obtain ⟨b', off', hae', -, hbl', d0, d1⟩ := (HL.out.below HB.out).sym_at hlt2
        have hcall := fun W (hb : Below wr.heap.size wr W) => HF.out W ks[i] _ l[i] (HB.out.trans (hb.mono HB.out.size)) (hkid.below hb)
        obtain ⟨q0, HQ0⟩ := nameIt (ks[i]'hlt).rule
        obtain ⟨q1, HQ1⟩ := nameIt (ks[i]'hlt).term
        obtain ⟨s0, HS0⟩ := nameIt (l[i]'hlt2).term
        obtain ⟨s1, HS1⟩ := nameIt (l[i]'hlt2).n
        obtain ⟨B, HBn⟩ := nameIt (p (ks[i]'hlt) (l[i]'hlt2))
        rw [HQ0.out] at c0 hcall
        rw [HQ1.out] at c1 hcall
        rw [HS0.out] at d0 hcall
        rw [HS1.out] at d1 hcall
        rw [HBn.out] at hcall
        have hn1 : ¬ b' = wr.heap.size := by omega
        have HC := Lib.hid (hcall _ (((Below.refl wr.heap.size wr).alloc (Nat.le_refl _) (.cells #[.int .i64 q0, .int .i64 q1, .slice av nv cv] 43)).alloc (by simp) (.cells #[.bool s0, .int .i64 s1] 88)))
        have HBB := Lib.hid (HB.out.trans ((((Below.refl wr.heap.size wr).alloc (Nat.le_refl _) (.cells #[.int .i64 q0, .int .i64 q1, .slice av nv cv] 43)).alloc (by simp) (.cells #[.bool s0, .int .i64 s1] 88)).mono HB.out.size))
        subst hae hae'
        clear hkid hcall
        go_wp2_with fail
        refine HC.out.mono ?_
        rintro e w6 ⟨rfl, hb6⟩
        have HB6 := Lib.hid (HBB.out.trans (hb6.mono HBB.out.size))
        clear hb6 c0 c1 c2 d0 d1 HC
        cases B with
        | false =>
          have HE : Hid (eqAll p ks l = false) := eqAll_bad hlt hlt2 HBn.out
          go_wp2_with fail
          go_ret
          exact ⟨by rw [HE.out]; rfl, HB6.out⟩
        | true =>
          have HN2 : Hid (∀ j (h1 : j < ks.length) (h2 : j < l.length), j < i + 1 → p ks[j] l[j] = true) := by
            intro j h1 h2 hj
            by_cases e : j = i
            · subst e; exact HBn.out
            · exact HN.out j h1 h2 (by omega)
          go_wp2_with fail
          go_roundg (ks.length - (i + 1))
          case measure => omega
          case rel => exact ⟨i + 1, by omega, by omega, by go_num, HB6, HN2⟩
      · have hlt' : ¬ (i : Int) < (ks.length : Int) := by omega
        have HE : Hid (eqAll p ks l = true) := eqAll_good HLEN.out fun j h1 h2 => HN.out j h1 h2 (by omega)
        go_wp2_with fail
        go_ret
        exact ⟨by rw [HE.out]; rfl, HB.out⟩
  · have hlb : ((ks.length : Int) != (l.length : Int)) = true := by simp; omega
    have HE : Hid (eqAll p ks l = false) := eqAll_ne hlen
    clear hlen
    go_enter Try.func180, Try.ntmps180
    go_wp2_with fail
    go_ret
    exact ⟨by rw [HE.out]; rfl, Below.refl _ _⟩

def ValidI (w0 : World) (_ : List Tree) (S : Nat → Prop) (W : World) : Prop := Below w0.heap.size w0 W ∧ ∀ k, ¬ S k

/-- the boxes of a grammar and of a tree -/
theorem cells7 {W w' : World} (hb : Below W.heap.size W w') {b1 b2 : Nat} {T1 T2 : TypeId} {a0 a1 a2 a3 c0 c1 c2 : Value} (h1 : W.heap[b1]? = some (.cells #[a0, a1, a2, a3] T1 (0, 0))) (h2 : W.heap[b2]? = some (.cells #[c0, c1, c2] T2 (0, 0))) :
    w'.cell? ⟨b1, 0, none⟩ = some a0 ∧ w'.cell? ⟨b1, 0 + 1, none⟩ = some a1 ∧ w'.cell? ⟨b1, 0 + 2, none⟩ = some a2 ∧ w'.cell? ⟨b1, 0 + 3, none⟩ = some a3 ∧ w'.cell? ⟨b2, 0, none⟩ = some c0 ∧ w'.cell? ⟨b2, 0 + 1, none⟩ = some c1 ∧ w'.cell? ⟨b2, 0 + 2, none⟩ = some c2 := by
  obtain ⟨x1, x2, x3, x4⟩ := bx_cells4 (bx_keep h1 hb)
  obtain ⟨y1, y2, y3⟩ := bx_cells3 (bx_keep h2 hb)
  exact ⟨x1, x2, x3, x4, y1, y2, y3⟩
end Go.Proofs.Ytjehmleckcmilaa
