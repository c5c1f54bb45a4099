/- Contracts of the library's generic functions over slices of ints: Equal, Delete. -/
import Derived.Test.YtfbacnifankfkaaRows
import Derived.Test.YtfbacnifankfkaaLibTwo
namespace Go.Proofs.Ytfbacnifankfkaa
open Go.RowKit

def ints (l : List Int) : List Value := l.map (Value.int .i64)
theorem ints_len (l : List Int) : (ints l).length = l.length := by simp [ints]
theorem ints_get (l : List Int) (i : Nat) (h : i < (ints l).length) : (ints l)[i] = .int .i64 (l[i]'(by simpa [ints] using h)) := by simp [ints]
theorem ints_append (a b : List Int) : ints (a ++ b) = ints a ++ ints b := by simp [ints]

theorem elInt : ElemT Try.prog 29 3 1 8 := ElemT.mk' (z := .int .i64 0) Try.underlying29 (by kernel_rfl) rfl (by decide)

set_option maxHeartbeats 400000 in
theorem equal_ne (a a' : Option Addr) (n n' cap cap' : Nat) (w : World) (h : n ≠ n') (hn : n ≤ maxLen) (hn' : n' ≤ maxLen) :
    Calls Try.prog 19 #[.slice a n cap, .slice a' n' cap'] w fun e w' => e = .returned (.bool false) ∧ w = w' := by
  unfold maxLen at hn hn'
  have hb : ((n : Int) != (n' : Int)) = true := by rw [bne_iff_ne]; omega
  go_enter Try.func19, Try.ntmps19
  go_wp2
  go_ret
  exact ⟨rfl, rfl⟩

set_option maxHeartbeats 400000 in
theorem equal_eq (a a' : Option Addr) (cap cap' : Nat) (x y : List Int) (w : World) (hl : x.length = y.length) (hx : Sl w (.slice a x.length cap) (ints x)) (hy : Sl w (.slice a' x.length cap') (ints y)) :
    Calls Try.prog 19 #[.slice a x.length cap, .slice a' x.length cap'] w fun e w' => e = .returned (.bool (x == y)) ∧ Below w.heap.size w w' := by
  have HX := Lib.hid hx
  have HY := Lib.hid hy
  have hm := (hx.len).2
  have HL := Lib.hid hl
  clear hx hy hl
  unfold maxLen at hm
  obtain ⟨hm1, hm2⟩ := hm
  have hb : ((x.length : Int) != (x.length : Int)) = false := by simp
  go_enter Try.func19, Try.ntmps19
  go_wp2
  go_loopw [13] (fun t wr => ∃ k : Nat, k ≤ x.length ∧ t = .int .i64 k ∧ Hid (x.take k = y.take k) ∧ Hid (Below w.heap.size w wr)) (fun t _ => x.length - (intOf t).toNat)
  case atStart => exact ⟨0, by omega, rfl, rfl, Below.refl _ _⟩
  case round =>
    obtain ⟨k, hk, rfl, HT, HB⟩ := hrel
    by_cases hlt : k < x.length
    · obtain ⟨b, off, rfl, hc⟩ := (HX.out.keep HB.out).at hlt
      obtain ⟨b', off', rfl, hc'⟩ := (HY.out.keep HB.out).at hlt
      have hcell := hc k (by rw [ints_len]; exact hlt)
      have hcell' := hc' k (by rw [ints_len, ← HL.out]; exact hlt)
      rw [ints_get] at hcell hcell'
      clear hc hc'
      have h1 : (k : Int) < (x.length : Int) := by omega
      have HS : Hid (∀ p q, x[k] = p → y[k]'(by rw [← HL.out]; exact hlt) = q → (p = q → x.take (k + 1) = y.take (k + 1)) ∧ (p ≠ q → (x == y) = false)) := by
        intro p q hp hq
        constructor
        · intro e
          rw [List.take_succ_eq_append_getElem hlt, List.take_succ_eq_append_getElem (by rw [← HL.out]; exact hlt), HT.out, hp, hq, e]
        · intro e
          rw [beq_eq_false_iff_ne]
          intro exy
          subst exy
          exact e (hp.symm.trans hq)
      generalize hp : x[k] = p at *
      generalize hq : y[k]'(by rw [← HL.out]; exact hlt) = q at *
      have HS2 := Lib.hid (HS.out p q rfl rfl)
      clear HS hp hq
      by_cases hpq : p = q
      · subst hpq
        have hne : (p != p) = false := by simp
        have HE := Lib.hid (HS2.out.1 rfl)
        clear HS2
        go_wp2
        go_quiet (fail)
        go_wp2
        exact ⟨⟨k + 1, by omega, by go_num, HE.out, HB.out.trans ((below_drewN wr _).mono HB.out.size)⟩, by simp [intOf]; omega⟩
      · have hne : (p != q) = true := by rw [bne_iff_ne]; exact hpq
        have HE := Lib.hid (HS2.out.2 hpq)
        have HPQ := Lib.hid hpq
        clear HS2 hpq
        go_wp2
        go_quiet (fail)
        go_wp2
        go_ret
        rw [HE.out]
        exact ⟨rfl, HB.out.trans ((below_drewN wr _).mono HB.out.size)⟩
    · have HE : Hid ((x == y) = true) := by
        show _ = _
        have := HT.out
        rw [List.take_of_length_le (by omega), List.take_of_length_le (by have := HL.out; omega)] at this
        rw [this]; simp
      go_wp2
      go_ret
      rw [HE.out]
      exact ⟨rfl, HB.out⟩

/-- slices.Equal at []int -/
theorem equal (v v' : Value) (x y : List Int) (w : World) (hx : Sl w v (ints x)) (hy : Sl w v' (ints y)) :
    Calls Try.prog 19 #[v, v'] w fun e w' => e = .returned (.bool (x == y)) ∧ Below w.heap.size w w' := by
  obtain ⟨a, cap, rfl⟩ := hx.form
  obtain ⟨a', cap', rfl⟩ := hy.form
  rw [ints_len] at hx hy ⊢
  rw [ints_len]
  by_cases h : x.length = y.length
  · rw [← h] at hy ⊢
    exact equal_eq a a' cap cap' x y w h hx hy
  · refine (equal_ne a a' _ _ cap cap' w h ?_ ?_).mono ?_
    · exact Nat.le_trans hx.len.2.1 hx.len.2.2
    · exact Nat.le_trans hy.len.2.1 hy.len.2.2
    · rintro e w' ⟨rfl, rfl⟩
      have : (x == y) = false := by rw [beq_eq_false_iff_ne]; intro e; exact h (by rw [e])
      rw [this]
      exact ⟨rfl, Below.refl _ _⟩

/-- what a deletion in place leaves -/
theorem own_deleted {w : World} {B g n cap i j : Nat} {e : TypeId} {xs news zeros : List Value} (ho : w.ownsRow B e 1 (.slice (some ⟨g, 0, none⟩) n cap) n xs) (hij : i ≤ j) (hj : j ≤ n) (hnews : news = xs.drop j) :
    (((w.setCells g i news).setCells g (i + (n - j)) zeros)).ownsRow B e 1 (.slice (some ⟨g, 0, none⟩) (i + (n - j)) cap) (i + (n - j)) (xs.take i ++ xs.drop j) := by
  obtain ⟨h1, h2⟩ := ho
  rw [Nat.mul_one] at h1
  rcases h2 with ⟨h2, _⟩ | ⟨g', cap', cur, h2, hg, hh, hn, hc, hs, ht⟩
  · cases h2
  · cases h2
    obtain ⟨c1, a1, a2, a3⟩ := setCells_block news i w g cur e _ hh
    obtain ⟨c2, b1, b2, b3⟩ := setCells_block zeros (i + (n - j)) _ g c1 e _ a1
    have hln : news.length = n - j := by rw [hnews]; simp [h1]
    refine ⟨by simp [h1]; omega, .inr ⟨g, cap, c2, rfl, hg, b1, by omega, hc, by omega, ?_⟩⟩
    rw [Nat.mul_one] at *
    apply List.ext_getElem?
    intro k
    rw [List.getElem?_take]
    by_cases hk : k < i + (n - j)
    · rw [if_pos hk]
      have e1 : c2.toList[k]? = c2[k]? := by simp
      rw [e1, b3 k, if_neg (by omega), a3 k]
      by_cases hki : k < i
      · rw [if_neg (by omega), List.getElem?_append_left (by simp [h1]; omega), List.getElem?_take, if_pos hki]
        have : cur[k]? = cur.toList[k]? := by simp
        rw [this, ← ht, List.getElem?_take, if_pos (by omega)]
      · rw [if_pos (by omega), hnews, List.getElem?_append_right (by simp; omega)]
        congr 1
        simp [h1]; omega
    · rw [if_neg hk, List.getElem?_eq_none]
      simp [h1]; omega

set_option maxHeartbeats 1000000 in
set_option maxRecDepth 100000 in
/-- slices.Delete at []int, of a row of the call's own, at one place -/
theorem delete_own (w : World) (B g n cap i : Nat) (xs : List Value) (ho : w.ownsRow B 3 1 (.slice (some ⟨g, 0, none⟩) n cap) n xs) (hi : i < n) (h1 : ∀ u ∈ xs, u.oneCell' = true) :
    Calls Try.prog 20 #[.slice (some ⟨g, 0, none⟩) n cap, .int .i64 i, .int .i64 ((i : Int) + 1)] w fun e w' =>
      e = .returned (.slice (some ⟨g, 0, none⟩) (n - 1) cap) ∧ w'.ownsRow B 3 1 (.slice (some ⟨g, 0, none⟩) (n - 1) cap) (n - 1) (xs.take i ++ xs.drop (i + 1)) ∧ w.grownBy w' (some g) := by
  obtain ⟨hu, ⟨info, z, hinf, hz, hsz, hby, hzs⟩, hp⟩ := elInt
  have hcap : n ≤ cap ∧ cap ≤ maxLen := by
    rcases ho.2 with ⟨h2, _⟩ | ⟨g', cap', cur, h2, hg, hh, hn, hc, hs, ht⟩
    · cases h2
    · cases h2; exact ⟨hn, hc⟩
  have hlen : xs.length = n := by simpa using ho.1
  have hcells : ∀ t, t < n → w.cell? ⟨g, t, none⟩ = xs[t]? := fun t ht => ho.cellAt t (by omega)
  have hfz : ∀ t, w.frozen? ⟨g, t, none⟩ = false := fun t => ho.frozenAt t
  unfold maxLen at hcap
  obtain ⟨hc1, hc2⟩ := hcap
  obtain ⟨news, hnews⟩ : ∃ news, news = xs.drop (i + 1) := ⟨_, rfl⟩
  have hnl : news.length = n - (i + 1) := by rw [hnews]; simp [hlen]
  obtain ⟨A, hA, hsrc⟩ : ∃ A : Addr, (if cap = i + 1 then some (⟨g, 0, none⟩ : Addr) else some ⟨g, i + 1, none⟩) = some A ∧ Hid (∀ t u, news[t]? = some u → w.drew.cell? (A.add t) = some u) := by
    by_cases h : cap = i + 1
    · refine ⟨⟨g, 0, none⟩, by simp [h], fun t u hu => ?_⟩
      have h0 : news.length = 0 := by rw [hnl]; omega
      rw [List.length_eq_zero_iff.1 h0] at hu
      simp at hu
    · refine ⟨⟨g, i + 1, none⟩, by simp [h], fun t u hu => ?_⟩
      have ht : t < n - (i + 1) := by
        have := (List.getElem?_eq_some_iff.1 hu).1
        rwa [hnl] at this
      rw [Addr.add_lit]
      show w.cell? _ = _
      rw [hcells _ (by omega), ← hu, hnews, List.getElem?_drop]
  have s1 : Hid (news.length = (n - (i + 1)) * 1) := by rw [Nat.mul_one]; exact hnl
  have s2 : Hid (∀ u ∈ news, u.oneCell' = true) := by
    intro u hu
    rw [hnews] at hu
    exact h1 u (List.mem_of_mem_drop hu)
  have s3 : Hid (∀ t, t < news.length → (w.drew.cell? ⟨g, 0 + i * 1 + t, none⟩).isSome = true ∧ w.drew.frozen? ⟨g, 0 + i * 1 + t, none⟩ = false) := by
    intro t ht
    rw [hnl] at ht
    rw [Nat.mul_one, Nat.zero_add]
    refine ⟨?_, hfz _⟩
    show (w.cell? _).isSome = true
    rw [hcells _ (by omega), List.getElem?_eq_getElem (by omega)]; rfl
  obtain ⟨W1, hW1⟩ : ∃ W1, W1 = w.drew.setCells g (0 + i * 1) news := ⟨_, rfl⟩
  have hW1' : W1 = w.drew.setCells g i news := by rw [hW1]; simp
  have hod : w.drew.ownsRow B 3 1 (.slice (some ⟨g, 0, none⟩) n cap) n xs := ho
  have hcur : ∃ cur : Array Value, W1.heap[g]? = some (.cells cur 3 (0, 0)) ∧ cur.size = cap := by
    rcases ho.2 with ⟨h2, _⟩ | ⟨g', cap', cur, h2, hg, hh, hn, hc, hs, ht⟩
    · cases h2
    · cases h2
      obtain ⟨c1, a1, a2, _⟩ := setCells_block news i w.drew g cur _ _ hh
      rw [hW1']
      exact ⟨c1, a1, by omega⟩
  obtain ⟨cur, hcu1, hcu2⟩ := hcur
  have hcl : ∀ ty, (Builtin.clear_ #[29] ty #[.slice (some ⟨g, i + (n - (i + 1)), none⟩) (n - (i + (n - (i + 1)))) (cap - (i + (n - (i + 1))))]).run Try.prog W1 = .ok (.tuple #[]) (W1.setCells g (i + (n - (i + 1))) (List.replicate (n - (i + (n - (i + 1)))) (.int .i64 0))) :=
    fun ty => Lib.run_clear_slice W1 _ _ ty _ hu (fun w => by kernel_rfl) rfl rfl g (i + (n - (i + 1))) _ _ (by omega)
      (fun t ht => by simp only [World.cell?, hcu1]; simp; omega)
      (fun t ht => by simp only [World.frozen?, hcu1]; simp)
  have hfin : Hid ((W1.setCells g (i + (n - (i + 1))) (List.replicate (n - (i + (n - (i + 1)))) (.int .i64 0))).ownsRow B 3 1 (.slice (some ⟨g, 0, none⟩) (i + (n - (i + 1))) cap) (i + (n - (i + 1))) (xs.take i ++ xs.drop (i + 1))) := by
    rw [hW1']; exact own_deleted hod (by omega) (by omega) hnews
  have hgr : Hid (w.grownBy (W1.setCells g (i + (n - (i + 1))) (List.replicate (n - (i + (n - (i + 1)))) (.int .i64 0))) (some g)) := by
    rw [hW1']; exact grown_trans (grown_trans (grown_drew _ _) (grown_setCells g _ _ _)) (grown_setCells g _ _ _)
  have hW : Hid (W1 = w.drew.setCells g (0 + i * 1) news) := hW1
  have hic : i ≤ cap := by omega
  have hjc : i + 1 ≤ cap := by omega
  have hb1 : (0 : Int) ≤ (i : Int) + 1 := by omega
  have hb2 : (i : Int) + 1 ≤ (n : Int) := by omega
  have hne : ((i : Int) == (i : Int) + 1) = false := beq_eq_false_iff_ne.2 (by omega)
  clear hW1 hW1' hcu1 hcu2 hnl hnews hcells hfz ho hod h1 hlen
  go_enter Try.func20, Try.ntmps20
  go_wp2_with fail
  go_region_law (refine step_append_room rfl (.tmp 22) (.tmp 25) 29 rfl 3 info 1 hu hinf hsz g 0 i cap (by simp [Act.eval, Act.put]) A (n - (i + 1)) (cap - (i + 1)) news (by simp [Act.eval, Act.put]) s1.out hsrc.out s2.out (by omega) s3.out ?_; rw [← hW.out])
  go_wp2
  go_ret
  rw [show n - 1 = i + (n - (i + 1)) by omega]
  exact ⟨rfl, hfin.out, hgr.out⟩
end Go.Proofs.Ytfbacnifankfkaa
