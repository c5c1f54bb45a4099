/- docs: all nodes of a document. SameDoc of equal documents. -/
import Derived.Test.YtgpikophndbmeaaDocWalk
import Derived.Test.YtgpikophndbmeaaRowD
import Derived.Test.YtgpikophndbmeaaTreeCopy
import Derived.Deep.QuietTactic
import Derived.BigQuiet
namespace Go.Proofs.Ytgpikophndbmeaa
open Go.RowKit
namespace Dc

theorem elDoc : ElemT Try.prog 22 24 4 56 := ElemT.mk' (z := .agg #[.int .i64 0, .string ⟨#[]⟩, .int .i64 0, .slice none 0 0]) Try.underlying22 (by kernel_rfl) rfl (by decide)
theorem own_litD {w : World} {B g : Nat} {e : TypeId} {size n : Nat} {news : Array Value} (hg : g = w.heap.size) (hB : B ≤ w.heap.size) (hn : news.size = n * size) (hm : n ≤ maxLen) : (w.alloc (.cells news e)).ownsRow B e size (.slice (some ⟨g, 0, none⟩) n n) n news.toList := by
  subst hg
  exact ⟨by simpa using hn, .inr ⟨_, n, news, rfl, hB, heap_alloc_new w _, Nat.le_refl _, hm, hn, by rw [← hn]; exact List.take_of_length_le (by simp)⟩⟩
def DocsPost (S : Nat → Prop) (l : List Doc) (w : World) (e : Ending) (w' : World) : Prop := ∃ v, e = .returned v ∧ Rd (fun k => S k ∨ w.heap.size ≤ k) w' (.sl (l.map Doc.d)) [v] ∧ Below w.heap.size w w'
set_option maxHeartbeats 2000000 in
set_option maxRecDepth 100000 in
theorem docsE (S : Nat → Prop) : ∀ (m : Nat) (t : Doc) (v : Value) (w : World), (nodes t).length ≤ m → (∀ k, S k → k < w.heap.size) → Rd S w (.sl (t.kids.map Doc.d)) [v] → (nodes t).length ≤ 2000000 →
    Calls Try.prog 16 #[.agg #[.int .i64 t.kind, .string t.txt, .int .i64 t.n, v]] w (DocsPost S (nodes t) w) := by
  intro m
  induction m with
  | zero => intro t v w hm; have := nodes_pos t; omega
  | succ m ih =>
  intro t v w hm hS hv hN
  obtain ⟨a, cap, rfl, hca, hcb⟩ := hv.form
  obtain ⟨nk, HNK0⟩ := nameIt (t.kids.map Doc.d).length
  rw [HNK0.out] at hv hca
  rw [HNK0.out]
  have HV := Lib.hid hv
  have IH := Lib.hid ih
  have HM := Lib.hid hm
  have HN := Lib.hid hN
  have HS := Lib.hid hS
  have HNK : Hid (t.kids.length = nk) := by show _ = _; rw [← HNK0.out, List.length_map]
  have hcap : nk ≤ 9223372036854775807 := by unfold maxLen at hcb; omega
  obtain ⟨r, HRr⟩ := nameIt t.kind
  obtain ⟨tx, HRx⟩ := nameIt t.txt
  obtain ⟨tm, HRt⟩ := nameIt t.n
  rw [HRr.out, HRx.out, HRt.out]
  obtain ⟨w0, HW0⟩ := nameIt ((w.alloc (.cells #[.int .i64 r, .string tx, .int .i64 tm, .slice a nk cap] 24)).alloc (.cells #[.int .i64 r, .string tx, .int .i64 tm, .slice a nk cap] 24))
  have X0 : Hid (w0.heap[w.heap.size]? = some (.cells #[.int .i64 r, .string tx, .int .i64 tm, .slice a nk cap] 24 (0, 0))) := by
    rw [← HW0.out]; exact bx_keep (bx_new _ _ _ rfl) ((Below.refl _ _).alloc (Nat.le_refl _) _)
  have HB0 : Hid (Below w.heap.size w w0) := by rw [← HW0.out]; exact ((Below.refl _ _).alloc (Nat.le_refl _) _).alloc (by simp) _
  have HR0 : Hid (RowD (fun k => S k ∨ w.heap.size ≤ k) w.heap.size 24 4 ((t :: nodesL (t.kids.take 0)).map Doc.d) (.slice (some ⟨w.heap.size + 1, 0, none⟩) 1 1) w0) := by
    refine ⟨⟨[.int .i64 r, .string tx, .int .i64 tm, .slice a nk cap], by rw [← HW0.out]; simpa [nodesL] using own_litD (w := w.alloc (.cells #[.int .i64 r, .string tx, .int .i64 tm, .slice a nk cap] 24)) (B := w.heap.size) (e := 24) (size := 4) (n := 1) (news := #[.int .i64 r, .string tx, .int .i64 tm, .slice a nk cap]) (g := w.heap.size + 1) (by simp) (by simp) rfl (by simp [maxLen]), ?_⟩, HB0.out.size⟩
    simp only [List.take_zero, nodesL, List.map_cons, List.map_nil]
    rw [← HRr.out, ← HRx.out, ← HRt.out]
    exact RdAll.one (rd_doc ((HV.out.below HB0.out).mono fun k hk _ => ⟨.inl hk, fun e => by have := HS.out k hk; simp [Value.ownBlock] at e; omega⟩))
  obtain ⟨x0, x1, x2, x3⟩ := bx_cells4d X0.out
  clear hv ih hm hN hS
  go_enter Try.func16, Try.ntmps16
  go_upto_region 2 with fail
  rw [HW0.out]
  go_wp2_with fail
  go_loopg [3, 11] nk (fun gg v3 v11 wr => ∃ i : Nat, i ≤ nk ∧ nk - i ≤ gg ∧ v11 = .int .i64 i ∧ Hid (RowD (fun k => S k ∨ w.heap.size ≤ k) w.heap.size 24 4 ((t :: nodesL (t.kids.take i)).map Doc.d) v3 wr) ∧ Hid (Below w.heap.size w wr))
  case atStart => exact ⟨0, by omega, by omega, rfl, HR0, HB0⟩
  case round =>
    clear HR0 HB0 x0 x1 x2 x3 X0 HW0
    obtain ⟨i, hi, hg, rfl, HR, HB⟩ := hrel
    obtain ⟨a3, c3, rfl, hc1, hc2, hc3⟩ := HR.out.form
    have HOL := Lib.hid hc3
    unfold maxLen at hc2
    clear hc3
    by_cases hlt : i < nk
    · have hlt' : (i : Int) < (nk : Int) := by omega
      have hik : i < t.kids.length := by rw [HNK.out]; exact hlt
      obtain ⟨b, off, v, hae, -, hbl, k0, k1, k2, k3, hkid⟩ := Rd.kid HV.out hik
      obtain ⟨av, cv, rfl, -, -⟩ := hkid.form
      obtain ⟨nv, HNV⟩ := nameIt (t.kids[i].kids.map Doc.d).length
      rw [HNV.out] at k3 hkid
      have e0 := (HB.out.cell (p := ⟨b, off + i * 4, none⟩) hbl).trans k0
      have e1 := (HB.out.cell (p := ⟨b, off + i * 4 + 1, none⟩) hbl).trans k1
      have e2 := (HB.out.cell (p := ⟨b, off + i * 4 + 2, none⟩) hbl).trans k2
      have e3 := (HB.out.cell (p := ⟨b, off + i * 4 + 3, none⟩) hbl).trans k3
      have HT : Hid ((t :: nodesL (t.kids.take (i + 1))).map Doc.d = (t :: nodesL (t.kids.take i)).map Doc.d ++ (nodes t.kids[i]).map Doc.d) := by
        show _ = _
        rw [nodesL_take hik]; simp
      have hkl := nodesL_kid hik
      have hnt : (nodes t).length = (nodesL t.kids).length + 1 := by rw [nodes_eq]; simp
      have HLN : Hid (((t :: nodesL (t.kids.take i)).map Doc.d).length + ((nodes t.kids[i]).map Doc.d).length ≤ 2000000) := by
        show _ ≤ _
        have h1 := HN.out
        simp; omega
      have hms : (nodes t.kids[i]).length ≤ m := by have h1 := HM.out; omega
      have hms2 : (nodes t.kids[i]).length ≤ 2000000 := by have h1 := HN.out; omega
      obtain ⟨x, HX⟩ := nameIt (t.kids[i]'hik)
      rw [HX.out] at e0 e1 e2 hkid HT hms hms2 HLN
      obtain ⟨q0, HQ0⟩ := nameIt x.kind
      obtain ⟨q1, HQ1⟩ := nameIt x.txt
      obtain ⟨q2, HQ2⟩ := nameIt x.n
      have hb3 := (Below.refl wr.heap.size wr).alloc (Nat.le_refl _) (.cells #[.int .i64 q0, .string q1, .int .i64 q2, .slice av nv cv] 24)
      have hlc := IH.out x _ _ hms (fun k hk => by have h1 := HS.out k hk; have h2 := HB.out.size; have h3 := hb3.size; omega) ((hkid.below HB.out).below hb3) hms2
      rw [HQ0.out] at e0 hlc
      rw [HQ1.out] at e1 hlc
      rw [HQ2.out] at e2 hlc
      have HLC := Lib.hid hlc
      have HB3 := Lib.hid hb3
      obtain ⟨L, HL⟩ := nameIt ((t :: nodesL (t.kids.take i)).map Doc.d)
      rw [HL.out] at HR HOL HLN hc1 HT
      rw [HL.out]
      obtain ⟨C, HC⟩ := nameIt ((nodes x).map Doc.d)
      have HCC : Hid (∀ d ∈ C, d.cells = 4) := by rw [← HC.out]; exact docs_cells _
      subst hae
      clear k0 k1 k2 k3 hkid hlc hb3 hms hms2 hkl hnt
      go_wp2_with fail
      refine HLC.out.mono ?_
      rintro e w1 ⟨v1, rfl, hr1, hb1⟩
      rw [HC.out] at hr1 HLN HT
      obtain ⟨a1, c1, rfl, hd1, hd2⟩ := hr1.form
      have HR1 := Lib.hid hr1
      have HB1 := Lib.hid (HB3.out.trans (hb1.mono HB3.out.size))
      obtain ⟨xs, ho1, ho2⟩ := (HR.out.keep HB1.out).own
      have HO1 := Lib.hid ho1
      have HO2 := Lib.hid ho2
      have hln := HLN.out
      have hsz := HB.out.size
      have hsz1 := HB1.out.size
      clear hr1 hb1 HLC e0 e1 e2 e3 ho1 ho2 hd1 hd2
      go_wp2_with (at_builtin; refine wp_appD elDoc rfl _ _ rfl HO1.out rfl HR1.out rfl HCC.out (by omega) (by unfold maxLen; omega) (by omega) ?_)
      intro v' w' M hM ho hg2 hat
      have HN' : Hid (RowD (fun k => S k ∨ w.heap.size ≤ k) w.heap.size 24 4 (L ++ C) v' w') := by
        refine RowD.step HO1.out HO2.out rfl hM (fun k hk hlk => ?_) (by omega) ho hg2 hat
        rcases hk with hk | hk
        · exact ⟨.inl hk, fun e => by have h1 := HS.out k hk; have h2 := (HO1.out.lt k e).1; omega⟩
        · have h3 := HB3.out.size
          exact ⟨.inr (by omega), fun e => by have h2 := (HOL.out k e).2; omega⟩
      have HBN : Hid (Below w.heap.size w w') := (HB.out.trans (HB1.out.mono HB.out.size)).grown hg2 (by omega) (fun k e => (HO1.out.lt k e).1)
      obtain ⟨a', c', rfl, -, -⟩ := own_len ho
      rw [← HT.out] at HN'
      clear hM ho hg2 hat
      go_wp2_with fail
      go_roundg (nk - (i + 1))
      case measure => omega
      case rel => exact ⟨i + 1, by omega, by omega, by go_num, HN', HBN⟩
    · have hlt' : ¬ (i : Int) < (nk : Int) := by omega
      have HPE : Hid ((nodes t).map Doc.d = (t :: nodesL (t.kids.take i)).map Doc.d) := by
        show _ = _
        rw [nodes_eq, List.take_of_length_le (by have := HNK.out; omega)]
      obtain ⟨L, HL⟩ := nameIt ((t :: nodesL (t.kids.take i)).map Doc.d)
      rw [HL.out] at HR HPE
      rw [HL.out]
      clear HOL hc1
      go_wp2_with fail
      go_ret
      refine ⟨_, rfl, ?_, HB.out⟩
      rw [HPE.out]
      exact HR.out.rd.mono fun k hk _ => by rcases hk with (hk | hk) | hk <;> simp [hk]

theorem nodes_kid {ks : List Doc} : ∀ k ∈ ks, (nodes k).length ≤ (nodesL ks).length := by
  induction ks with
  | nil => intro k h; simp at h
  | cons x ks ih =>
    intro k h
    rcases List.mem_cons.1 h with rfl | h
    · simp [nodesL]
    · have := ih k h; simp [nodesL]; omega
/-- two documents in memory, at a call -/
def SameAt (t : Doc) : Prop := ∀ v v' W, Rd AnyB W (.sl (t.kids.map Doc.d)) [v] → Rd AnyB W (.sl (t.kids.map Doc.d)) [v'] →
    Calls Try.prog 9 #[.agg #[.int .i64 t.kind, .string t.txt, .int .i64 t.n, v], .agg #[.int .i64 t.kind, .string t.txt, .int .i64 t.n, v']] W fun e w' => e = .returned (.bool true) ∧ Below W.heap.size W w'
set_option maxHeartbeats 1000000 in
set_option maxRecDepth 100000 in
theorem eqDocs (l : List Doc) (a a' : Option Addr) (n n' cap cap' : Nat) (w : World) (hl : Rd AnyB w (.sl (l.map Doc.d)) [.slice a n cap]) (hm : Rd AnyB w (.sl (l.map Doc.d)) [.slice a' n' cap'])
    (hc : ∀ t ∈ l, SameAt t) :
    Calls Try.prog 23 #[.slice a n cap, .slice a' n' cap', .func (.func 9) #[] #[]] w fun e w' => e = .returned (.bool true) ∧ Below w.heap.size w w' := by
  have HL := Lib.hid hl
  have HM := Lib.hid hm
  have HC := Lib.hid hc
  obtain ⟨hn, hn1, hn2⟩ := hl.bounds
  obtain ⟨hn', hn1', hn2'⟩ := hm.bounds
  obtain rfl : n' = n := by rw [hn, hn']
  rw [List.length_map] at hn
  have HN := Lib.hid hn
  unfold maxLen at hn2 hn2'
  have hnb : ((n' : Int) != (n' : Int)) = false := by simp
  clear hl hm hc hn hn'
  have eg : ∀ args w, (callFunc 9 args).run Try.prog w = .ok (.enter 9 args) w := fun _ _ => by kernel_rfl
  go_enter Try.func23, Try.ntmps23
  go_wp2_with fail
  go_loopg [17] n' (fun gg v17 wr => ∃ i : Nat, i ≤ n' ∧ n' - i ≤ gg ∧ v17 = .int .i64 i ∧ Hid (Below w.heap.size w wr))
  case atStart => exact ⟨0, by omega, by omega, rfl, Below.refl _ _⟩
  case round =>
    obtain ⟨i, hi, hg, rfl, HB⟩ := hrel
    by_cases hlt : i < n'
    · have hlt' : (i : Int) < (n' : Int) := by omega
      have hil : i < l.length := by rw [← HN.out]; exact hlt
      obtain ⟨b, off, v, hae, -, hbl, k0, k1, k2, k3, hkid⟩ := Rd.kid (HL.out.below HB.out) hil
      obtain ⟨av, cv, rfl, -, -⟩ := hkid.form
      obtain ⟨b', off', v', hae', -, hbl', j0, j1, j2, j3, hkid'⟩ := Rd.kid (HM.out.below HB.out) hil
      obtain ⟨av', cv', rfl, -, -⟩ := hkid'.form
      obtain ⟨nv, HNV⟩ := nameIt ((l[i]'hil).kids.map Doc.d).length
      rw [HNV.out] at k3 j3 hkid hkid'
      obtain ⟨q0, HQ0⟩ := nameIt (l[i]'hil).kind
      obtain ⟨q1, HQ1⟩ := nameIt (l[i]'hil).txt
      obtain ⟨q2, HQ2⟩ := nameIt (l[i]'hil).n
      obtain ⟨w0, HW0⟩ := nameIt ((wr.alloc (.cells #[.int .i64 q0, .string q1, .int .i64 q2, .slice av nv cv] 24)).alloc (.cells #[.int .i64 q0, .string q1, .int .i64 q2, .slice av' nv cv'] 24))
      have HB0 : Hid (Below wr.heap.size wr w0) := by rw [← HW0.out]; exact ((Below.refl _ _).alloc (Nat.le_refl _) _).alloc (by simp) _
      have hcf := HC.out l[i] (List.getElem_mem hil) _ _ w0 (hkid.below HB0.out) (hkid'.below HB0.out)
      have X1 : Hid (w0.heap[wr.heap.size]? = some (.cells #[.int .i64 q0, .string q1, .int .i64 q2, .slice av nv cv] 24 (0, 0))) := by
        rw [← HW0.out]; exact bx_keep (bx_new _ _ _ rfl) ((Below.refl _ _).alloc (Nat.le_refl _) _)
      have X2 : Hid (w0.heap[wr.heap.size + 1]? = some (.cells #[.int .i64 q0, .string q1, .int .i64 q2, .slice av' nv cv'] 24 (0, 0))) := by
        rw [← HW0.out]; exact bx_new _ _ _ (by simp)
      rw [HQ0.out] at k0 j0 hcf
      rw [HQ1.out] at k1 j1 hcf
      rw [HQ2.out] at k2 j2 hcf
      have HCF := Lib.hid hcf
      obtain ⟨x0, x1, x2, x3⟩ := bx_cells4d X1.out
      obtain ⟨y0, y1, y2, y3⟩ := bx_cells4d X2.out
      have hne : ¬ b' = wr.heap.size := by omega
      subst hae hae'
      clear hcf hkid hkid'
      go_upto_region 7 with fail
      rw [HW0.out]
      go_wp2_with fail
      refine HCF.out.mono ?_
      rintro e w1 ⟨rfl, hb1⟩
      have HB1 : Hid (Below w.heap.size w w1) := by
        have h := HB.out.trans (HB0.out.mono HB.out.size)
        exact h.trans (hb1.mono h.size)
      clear hb1 k0 k1 k2 k3 j0 j1 j2 j3
      go_wp2_with fail
      go_roundg (n' - (i + 1))
      case measure => omega
      case rel => exact ⟨i + 1, by omega, by omega, by go_num, HB1⟩
    · have hlt' : ¬ (i : Int) < (n' : Int) := by omega
      go_wp2_with fail
      go_ret
      exact ⟨rfl, HB.out⟩

set_option maxHeartbeats 1000000 in
set_option maxRecDepth 100000 in
theorem sameDE : ∀ (m : Nat) (t : Doc), (nodes t).length ≤ m → SameAt t := by
  intro m
  induction m with
  | zero => intro t hm; have := nodes_pos t; omega
  | succ m ih =>
  intro t hm v v' w hv hv'
  obtain ⟨a, cap, rfl, -, -⟩ := hv.form
  obtain ⟨a', cap', rfl, -, -⟩ := hv'.form
  obtain ⟨n, HNN⟩ := nameIt (t.kids.map Doc.d).length
  rw [HNN.out] at hv hv'
  rw [HNN.out]
  obtain ⟨q0, HQ0⟩ := nameIt t.kind
  obtain ⟨q1, HQ1⟩ := nameIt t.txt
  obtain ⟨q2, HQ2⟩ := nameIt t.n
  obtain ⟨w0, HW0⟩ := nameIt ((w.alloc (.cells #[.int .i64 q0, .string q1, .int .i64 q2, .slice a n cap] 24)).alloc (.cells #[.int .i64 q0, .string q1, .int .i64 q2, .slice a' n cap'] 24))
  have HB0 : Hid (Below w.heap.size w w0) := by rw [← HW0.out]; exact ((Below.refl _ _).alloc (Nat.le_refl _) _).alloc (by simp) _
  have X1 : Hid (w0.heap[w.heap.size]? = some (.cells #[.int .i64 q0, .string q1, .int .i64 q2, .slice a n cap] 24 (0, 0))) := by
    rw [← HW0.out]; exact bx_keep (bx_new _ _ _ rfl) ((Below.refl _ _).alloc (Nat.le_refl _) _)
  have X2 : Hid (w0.heap[w.heap.size + 1]? = some (.cells #[.int .i64 q0, .string q1, .int .i64 q2, .slice a' n cap'] 24 (0, 0))) := by
    rw [← HW0.out]; exact bx_new _ _ _ (by simp)
  have HEQ := Lib.hid (eqDocs t.kids a a' n n cap cap' w0 (hv.below HB0.out) (hv'.below HB0.out) (fun k hk => ih k (by have := nodes_kid k hk; rw [nodes_eq] at hm; simp at hm; omega)))
  rw [HQ0.out, HQ1.out, HQ2.out]
  obtain ⟨x0, x1, x2, x3⟩ := bx_cells4d X1.out
  obtain ⟨y0, y1, y2, y3⟩ := bx_cells4d X2.out
  have hb0 : (q0 == q0) = true := by simp
  have hb2 : (q2 == q2) = true := by simp
  clear hv hv' ih hm
  go_enter Try.func9, Try.ntmps9
  go_upto_region 1 with fail
  rw [HW0.out]
  go_wp2_with fail
  refine HEQ.out.mono ?_
  rintro e w1 ⟨rfl, hb1⟩
  have HB1 : Hid (Below w.heap.size w w1) := HB0.out.trans (hb1.mono HB0.out.size)
  clear hb1
  go_wp2_with fail
  go_ret
  exact ⟨rfl, HB1.out⟩
end Dc
end Go.Proofs.Ytgpikophndbmeaa
