/- The contracts of shrink.Smaller, of slices.IndexFunc of trees, and of the function that shrink.Tree hands it. -/
import Derived.Test.YtjehmleckcmilaaSmallC
import Derived.Test.YtjehmleckcmilaaValidE
import Derived.Deep.RegionHeld3
namespace Go.Proofs.Ytjehmleckcmilaa
open Go.RowKit

theorem check_good {g : Gram} {t : Tree} (h : checkT g t = 0) : good g t ∧ (nodes t).length ≤ 5000 := by
  unfold checkT at h
  split at h
  · contradiction
  · split at h
    · omega
    · split at h
      · rename_i h1 h2 h3
        exact ⟨good_of t h3, by omega⟩
      · omega
def smallerF (g : Gram) (t : Tree) : List Tree := if checkT g t = 0 ∧ (nodes t).length ≤ 60 then smallerC g t else []

theorem cells7' {W w' : World} (hb : Below W.heap.size W w') {b1 b2 : Nat} {T1 T2 : TypeId} {a0 a1 a2 a3 c0 c1 c2 : Value} (h1 : W.heap[b1]? = some (.cells #[a0, a1, a2, a3] T1 (0, 0))) (h2 : W.heap[b2]? = some (.cells #[c0, c1, c2] T2 (0, 0))) :
    w'.cell? ⟨b1, 0, none⟩ = some a0 ∧ w'.cell? ⟨b1, 0 + 1, none⟩ = some a1 ∧ w'.cell? ⟨b1, 0 + 2, none⟩ = some a2 ∧ w'.cell? ⟨b1, 0 + 3, none⟩ = some a3 ∧ w'.cell? ⟨b2, 0, none⟩ = some c0 ∧ w'.cell? ⟨b2, 0 + 1, none⟩ = some c1 ∧ w'.cell? ⟨b2, 0 + 2, none⟩ = some c2 := by
  obtain ⟨x1, x2, x3, x4⟩ := bx_cells4 (bx_keep h1 hb)
  obtain ⟨y1, y2, y3⟩ := bx_cells3 (bx_keep h2 hb)
  exact ⟨x1, x2, x3, x4, y1, y2, y3⟩

set_option maxHeartbeats 1000000 in
set_option maxRecDepth 100000 in
theorem smallerE (g : Gram) (ar : Option Addr) (cr : Nat) (t : Tree) (at' : Option Addr) (ct : Nat) (w : World) (hr : Rd AnyB w (.sl (g.rules.map Rule.d)) [.slice ar g.rules.length cr]) (hk : Rd AnyB w (.sl (t.kids.map Tree.d)) [.slice at' t.kids.length ct]) (hN : (nodes t).length ≤ 1099511627776) :
    Calls Try.prog 70 #[.agg #[.int .i64 g.terms, .int .i64 g.nons, .int .i64 g.start, .slice ar g.rules.length cr], .agg #[.int .i64 t.rule, .int .i64 t.term, .slice at' t.kids.length ct]] w (TreesPost AnyB (smallerF g t) w) := by
  obtain ⟨w0, HW0⟩ := nameIt ((w.alloc (.cells #[.int .i64 g.terms, .int .i64 g.nons, .int .i64 g.start, .slice ar g.rules.length cr] 77)).alloc (.cells #[.int .i64 t.rule, .int .i64 t.term, .slice at' t.kids.length ct] 43))
  have hb0 : Below w.heap.size w w0 := by rw [← HW0.out]; exact ((Below.refl _ _).alloc (Nat.le_refl _) _).alloc (by simp) _
  have X1 : Hid (w0.heap[w.heap.size]? = some (.cells #[.int .i64 g.terms, .int .i64 g.nons, .int .i64 g.start, .slice ar g.rules.length cr] 77 (0, 0))) := by
    rw [← HW0.out]; exact bx_keep (bx_new _ _ _ rfl) ((Below.refl _ _).alloc (Nat.le_refl _) _)
  have X2 : Hid (w0.heap[w.heap.size + 1]? = some (.cells #[.int .i64 t.rule, .int .i64 t.term, .slice at' t.kids.length ct] 43 (0, 0))) := by
    rw [← HW0.out]; exact bx_new _ _ _ (by simp)
  have C1 := Lib.hid (treeCheckE g ar cr t at' ct w0 (hr.below hb0) (hk.below hb0) hN)
  have C2 := Lib.hid (fun W (hb : Below w0.heap.size w0 W) => sizeE t _ W ((hk.below hb0).below hb) (by omega))
  have C3 := Lib.hid (fun W (hb : Below w0.heap.size w0 W) (hg : good g t) (hs : t.size ≤ 60) => smallCE g ar cr t _ W hg ((hr.below hb0).below hb) ((hk.below hb0).below hb) hs)
  have HB0 := Lib.hid hb0
  have HKG := Lib.hid (check_good (g := g) (t := t))
  obtain ⟨E1, HE1⟩ := nameIt (checkT g t)
  obtain ⟨M, HM⟩ := nameIt (nodes t).length
  obtain ⟨B, HBn⟩ := nameIt (smallerF g t)
  have HBV : Hid (B = if E1 = 0 ∧ M ≤ 60 then smallerC g t else []) := by show _ = _; rw [← HBn.out]; unfold smallerF; rw [HE1.out, HM.out]
  have HSG : Hid (good g t → t.size = M) := fun h => by rw [← HM.out, nodes_sizeG h]
  rw [HE1.out, HM.out] at HKG
  obtain ⟨gt, HGT⟩ := nameIt g.terms
  obtain ⟨gn, HGN⟩ := nameIt g.nons
  obtain ⟨gs, HGS⟩ := nameIt g.start
  obtain ⟨n, HKn⟩ := nameIt g.rules.length
  obtain ⟨r, HRr⟩ := nameIt t.rule
  obtain ⟨tm, HRt⟩ := nameIt t.term
  obtain ⟨m, HMn⟩ := nameIt t.kids.length
  rw [HGT.out, HGN.out, HGS.out, HKn.out, HRr.out, HRt.out, HMn.out] at HW0
  rw [HGT.out, HGN.out, HGS.out, HKn.out] at X1
  rw [HRr.out, HRt.out, HMn.out] at X2
  rw [HGT.out, HGN.out, HGS.out, HKn.out, HRr.out, HRt.out, HMn.out, HE1.out] at C1
  rw [HRr.out, HRt.out, HMn.out, HM.out] at C2
  rw [HGT.out, HGN.out, HGS.out, HKn.out, HRr.out, HRt.out, HMn.out] at C3
  rw [HGT.out, HGN.out, HGS.out, HKn.out, HRr.out, HRt.out, HMn.out, HBn.out]
  rw [HM.out] at hN
  obtain ⟨x0, x1, x2, x3, y0, y1, y2⟩ := cells7' (Below.refl w0.heap.size w0) X1.out X2.out
  clear hr hk hb0
  go_enter Try.func70, Try.ntmps70
  go_upto_region 1 with fail
  rw [HW0.out]
  go_wp2_with fail
  refine C1.out.mono ?_
  rintro e w1 ⟨rfl, hb1⟩
  have HB1 := Lib.hid hb1
  clear x0 x1 x2 x3 y0 y1 y2
  obtain ⟨x0, x1, x2, x3, y0, y1, y2⟩ := cells7' hb1 X1.out X2.out
  clear hb1
  by_cases h1 : E1 = 0
  · subst h1
    obtain ⟨hg, h5⟩ := HKG.out rfl
    have HGD := Lib.hid hg
    clear hg
    go_wp2_with fail
    refine (C2.out _ HB1.out).mono ?_
    rintro e w2 ⟨rfl, hb2⟩
    have HB2 := Lib.hid (HB1.out.trans (hb2.mono HB1.out.size))
    clear hb2 x0 x1 x2 x3 y0 y1 y2
    obtain ⟨x0, x1, x2, x3, y0, y1, y2⟩ := cells7' HB2.out X1.out X2.out
    by_cases h2 : M ≤ 60
    · have h2' : ¬ (60 : Int) < (M : Int) := by omega
      have HBB : Hid (smallerC g t = B) := by show _ = _; rw [HBV.out]; simp [h2]
      have HC3 := Lib.hid (C3.out _ HB2.out HGD.out (by rw [HSG.out HGD.out]; exact h2))
      rw [HBB.out] at HC3
      go_wp2_with fail
      refine HC3.out.mono ?_
      rintro e w3 ⟨v3, rfl, hr3, hb3⟩
      have HB3 := Lib.hid (HB2.out.trans (hb3.mono HB2.out.size))
      obtain ⟨a3, c3, rfl, -, -⟩ := hr3.form
      rw [List.length_map] at hr3 ⊢
      have HR3 : Hid (Rd (fun k => AnyB k ∨ w.heap.size ≤ k) w3 (.sl (B.map Tree.d)) [.slice a3 B.length c3]) := hr3.mono fun k _ _ => Or.inl trivial
      clear hb3 hr3 x0 x1 x2 x3 y0 y1 y2
      go_wp2_with fail
      go_ret
      exact ⟨_, rfl, HR3.out, HB0.out.trans (HB3.out.mono HB0.out.size)⟩
    · have h2' : (60 : Int) < (M : Int) := by omega
      obtain rfl : B = [] := by rw [HBV.out, if_neg (fun h => h2 h.2)]
      go_wp2_with fail
      go_ret
      exact ⟨_, rfl, rd_nil _ _, HB0.out.trans (HB2.out.mono HB0.out.size)⟩
  · have hne : (E1 != 0) = true := by simpa using h1
    obtain rfl : B = [] := by rw [HBV.out, if_neg (fun h => h1 h.1)]
    clear h1
    go_wp2_with fail
    go_ret
    exact ⟨_, rfl, rd_nil _ _, HB0.out.trans (HB1.out.mono HB0.out.size)⟩

/-- a condition of trees, as a function value -/
def FailsT (g : Nat) (lb : Array Value) (F : Tree → Bool) (w : World) : Prop :=
  ∀ (W : World) (t : Tree) (v : Value), Below w.heap.size w W → Rd AnyB W (.sl (t.kids.map Tree.d)) [v] → t.size ≤ 60 → Calls Try.prog g (#[.agg #[.int .i64 t.rule, .int .i64 t.term, v]] ++ lb) W fun e w' => e = .returned (.bool (F t)) ∧ Below W.heap.size W w'
theorem FailsT.later {g : Nat} {lb : Array Value} {F : Tree → Bool} {w W : World} (h : FailsT g lb F w) (hb : Below w.heap.size w W) : FailsT g lb F W :=
  fun W' t v hb' hv hs => h W' t v (hb.trans (hb'.mono hb.size)) hv hs

theorem cells4f {W w' : World} (hb : Below W.heap.size W w') {b1 b2 : Nat} {T1 T2 : TypeId} {a0 c0 c1 c2 : Value} (h1 : W.heap[b1]? = some (.cells #[a0] T1 (0, 0))) (h2 : W.heap[b2]? = some (.cells #[c0, c1, c2] T2 (0, 0))) :
    w'.cell? ⟨b1, 0, none⟩ = some a0 ∧ w'.cell? ⟨b2, 0, none⟩ = some c0 ∧ w'.cell? ⟨b2, 0 + 1, none⟩ = some c1 ∧ w'.cell? ⟨b2, 0 + 2, none⟩ = some c2 := by
  obtain ⟨y1, y2, y3⟩ := bx_cells3 (bx_keep h2 hb)
  exact ⟨bx_cells1 (bx_keep h1 hb), y1, y2, y3⟩

set_option maxHeartbeats 1000000 in
set_option maxRecDepth 100000 in
theorem tryE (gf : Nat) (lb : Array Value) (F : Tree → Bool) (eg : ∀ args w, (callFunc gf args).run Try.prog w = .ok (.enter gf args) w) (b : Nat) (w : World) (hx : w.heap[b]? = some (.cells #[.func (.func gf) #[] lb] 141 (0, 0))) (hf : FailsT gf lb F w) :
    FailsT 143 #[.pointer (some ⟨b, 0, none⟩)] F w := by
  intro W t v hbW hv hs
  obtain ⟨a, n, cap, rfl⟩ := treeBox hv
  have hx2 := bx_keep hx hbW
  obtain ⟨r, HRr⟩ := nameIt t.rule
  obtain ⟨tm, HRt⟩ := nameIt t.term
  obtain ⟨w0, HW0⟩ := nameIt (W.alloc (.cells #[.int .i64 r, .int .i64 tm, .slice a n cap] 43))
  have HB0 : Hid (Below W.heap.size W w0) := by rw [← HW0.out]; exact (Below.refl _ _).alloc (Nat.le_refl _) _
  have X2 : Hid (w0.heap[W.heap.size]? = some (.cells #[.int .i64 r, .int .i64 tm, .slice a n cap] 43 (0, 0))) := by rw [← HW0.out]; exact bx_new _ _ _ rfl
  have X1 := Lib.hid (bx_keep hx2 HB0.out)
  have hcl := fun W' (hb : Below w0.heap.size w0 W') => cloneT t _ W' (by omega) ((hv.below HB0.out).below hb)
  have hcf := fun W' v' (hb : Below w0.heap.size w0 W') (hv' : Rd AnyB W' (.sl (t.kids.map Tree.d)) [v']) => hf W' t v' ((hbW.trans (HB0.out.mono hbW.size)).trans (hb.mono (hbW.trans (HB0.out.mono hbW.size)).size)) hv' hs
  rw [HRr.out, HRt.out] at hcf
  rw [HRr.out, HRt.out] at hcl
  have HCL := Lib.hid hcl
  have HCF := Lib.hid hcf
  obtain ⟨B, HBn⟩ := nameIt (F t)
  rw [HBn.out] at HCF
  rw [HRr.out, HRt.out, HBn.out]
  obtain ⟨x0, y0, y1, y2⟩ := cells4f (Below.refl w0.heap.size w0) X1.out X2.out
  clear hx hx2 hcl hcf hv hf hs hbW
  go_enter Try.func143, Try.ntmps143
  go_upto_region 1 with fail
  rw [HW0.out]
  go_region_held3 (fun w' => w'.cell? ⟨b, 0, none⟩ = some (.func (.func gf) #[] lb) ∧ w'.cell? ⟨W.heap.size, 0, none⟩ = some (.int .i64 r) ∧ w'.cell? ⟨W.heap.size, 0 + 1, none⟩ = some (.int .i64 tm) ∧ w'.cell? ⟨W.heap.size, 0 + 2, none⟩ = some (.slice a n cap))
    (first | exact cells4f HB2.out X1.out X2.out | exact cells4f HB1.out X1.out X2.out | exact cells4f (Below.refl _ _).drew X1.out X2.out | fail)
    (first
      | (go_at_call 141; (with_reducible refine (HCL.out _ (Below.refl _ _).drew).mono ?_); rintro e w1 ⟨v1, rfl, hr1, hb1⟩; rw [HRr.out, HRt.out]; have HB1 : Hid (Below w0.heap.size w0 w1) := (Below.refl _ _).drew.trans hb1; have HR1 := Lib.hid hr1; obtain ⟨a1, n1, c1, rfl⟩ := treeBox hr1.any; clear hb1 hr1)
      | ((with_reducible refine (HCF.out _ _ HB1.out HR1.out.any).mono ?_); rintro e w2 ⟨rfl, hb2⟩; have HB2 : Hid (Below w0.heap.size w0 w2) := HB1.out.trans (hb2.mono HB1.out.size); clear hb2)
      | fail)
  go_wp2_with fail
  go_ret
  exact ⟨rfl, HB0.out.trans (HB2.out.mono HB0.out.size)⟩

/-- the first for which a condition holds, or -1 -/
def IdxIs (F : Tree → Bool) (l : List Tree) (z : Int) : Prop :=
  (z = -1 ∧ ∀ j (h : j < l.length), F l[j] = false) ∨ ∃ i : Nat, z = (i : Int) ∧ ∃ h : i < l.length, F l[i] = true ∧ ∀ j (h : j < i), F (l[j]'(by omega)) = false
def IdxPost (F : Tree → Bool) (l : List Tree) (w : World) (e : Ending) (w' : World) : Prop := ∃ z, e = .returned (.int .i64 z) ∧ IdxIs F l z ∧ Below w.heap.size w w'

set_option maxHeartbeats 1000000 in
set_option maxRecDepth 100000 in
theorem indexTE (gf : Nat) (lb : Array Value) (F : Tree → Bool) (eg : ∀ args w, (callFunc gf args).run Try.prog w = .ok (.enter gf args) w) (l : List Tree) (a : Option Addr) (n cap : Nat) (w : World) (hl : Rd AnyB w (.sl (l.map Tree.d)) [.slice a n cap]) (hf : FailsT gf lb F w) (hs : ∀ t ∈ l, t.size ≤ 60) :
    Calls Try.prog 142 #[.slice a n cap, .func (.func gf) #[] lb] w (IdxPost F l w) := by
  have HL := Lib.hid hl
  have HF := Lib.hid hf
  have HS := Lib.hid hs
  obtain ⟨hn, hn1, hn2⟩ := hl.bounds
  rw [List.length_map] at hn
  have HN := Lib.hid hn
  unfold maxLen at hn2
  clear hl hf hs hn
  go_enter Try.func142, Try.ntmps142
  go_wp2_with fail
  go_loopg [8] n (fun gg v8 wr => ∃ i : Nat, i ≤ n ∧ n - i ≤ gg ∧ v8 = .int .i64 i ∧ Hid (Below w.heap.size w wr) ∧ Hid (∀ j (h : j < l.length), j < i → F l[j] = false))
  case atStart => exact ⟨0, by omega, by omega, rfl, Below.refl _ _, fun j _ hj => by omega⟩
  case round =>
    obtain ⟨i, hi, hg, rfl, HB, HA⟩ := hrel
    by_cases hlt : i < n
    · have hlt' : (i : Int) < (n : Int) := by omega
      have hil : i < l.length := by rw [← HN.out]; exact hlt
      obtain ⟨b, off, v, hae, -, hbl, k0, k1, k2, hkid⟩ := (HL.out.below HB.out).kid hil
      obtain ⟨av, nv, cv, rfl⟩ := treeBox hkid
      have hcf := HF.out wr l[i] _ HB.out hkid (HS.out _ (List.getElem_mem hil))
      obtain ⟨q0, HQ0⟩ := nameIt (l[i]'hil).rule
      obtain ⟨q1, HQ1⟩ := nameIt (l[i]'hil).term
      obtain ⟨B, HBn⟩ := nameIt (F (l[i]'hil))
      rw [HQ0.out] at k0 hcf
      rw [HQ1.out] at k1 hcf
      rw [HBn.out] at hcf
      have HCF := Lib.hid hcf
      subst hae
      clear hcf hkid
      go_wp2_with fail
      refine HCF.out.mono ?_
      rintro e w1 ⟨rfl, hb1⟩
      have HB1 : Hid (Below w.heap.size w w1) := HB.out.trans (hb1.mono HB.out.size)
      clear hb1 k0 k1 k2
      cases B with
      | true =>
        have HI : Hid (IdxIs F l (i : Int)) := .inr ⟨i, rfl, hil, HBn.out, fun j hj => HA.out j (by omega) hj⟩
        go_wp2_with fail
        go_ret
        exact ⟨_, rfl, HI.out, HB1.out⟩
      | false =>
        have HA2 : Hid (∀ j (h : j < l.length), j < i + 1 → F l[j] = false) := by
          intro j h hj
          by_cases e : j = i
          · subst e; exact HBn.out
          · exact HA.out j h (by omega)
        go_wp2_with fail
        go_roundg (n - (i + 1))
        case measure => omega
        case rel => exact ⟨i + 1, by omega, by omega, by go_num, HB1, HA2⟩
    · have hlt' : ¬ (i : Int) < (n : Int) := by omega
      have HI : Hid (IdxIs F l (-1)) := .inl ⟨rfl, fun j h => HA.out j h (by have := HN.out; omega)⟩
      go_wp2_with fail
      go_ret
      exact ⟨_, rfl, HI.out, HB.out⟩
end Go.Proofs.Ytjehmleckcmilaa
