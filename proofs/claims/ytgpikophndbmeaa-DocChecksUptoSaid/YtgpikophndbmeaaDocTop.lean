/- doc.Norm; the documents text and pair of the law. -/
import Derived.Test.YtgpikophndbmeaaDocNorm
import Derived.Test.YtgpikophndbmeaaDocOne
namespace Go.Proofs.Ytgpikophndbmeaa
open Go.RowKit
namespace Dc

def zeroD : Doc := .mk 0 ⟨#[]⟩ 0 []
def NormPost (t : Doc) (w : World) (e : Ending) (w' : World) : Prop :=
  ∃ d u, e = .returned (.tuple #[.agg #[.int .i64 d.kind, .string d.txt, .int .i64 d.n, u], .int .i64 (docErr t)]) ∧ d = (if docErr t = 0 then nrm t else zeroD) ∧ Rd AnyB w' (.sl (d.kids.map Doc.d)) [u] ∧ Below w.heap.size w w'
theorem docErr_ok {t : Doc} (h : docErr t = 0) : (nodes t).length ≤ 400 ∧ okA t := by
  unfold docErr at h
  by_cases h1 : 400 < (nodes t).length
  · rw [if_pos h1] at h; omega
  · rw [if_neg h1] at h
    by_cases h2 : (nodes t).all okD = true
    · exact ⟨by omega, h2⟩
    · rw [if_neg h2] at h; omega
set_option maxHeartbeats 1000000 in
theorem normTopE (t : Doc) (v : Value) (w : World) (hv : Rd AnyB w (.sl (t.kids.map Doc.d)) [v]) (hN : (nodes t).length ≤ 2000000) :
    Calls Try.prog 7 #[.agg #[.int .i64 t.kind, .string t.txt, .int .i64 t.n, v]] w (NormPost t w) := by
  obtain ⟨a, cap, rfl, -, -⟩ := hv.form
  obtain ⟨w1, HW1⟩ := nameIt ((w.alloc (.cells #[.int .i64 t.kind, .string t.txt, .int .i64 t.n, .slice a (t.kids.map Doc.d).length cap] 24)).alloc (.cells #[.int .i64 0, .string ⟨#[]⟩, .int .i64 0, .slice none 0 0] 24))
  have hb1 : Below w.heap.size w w1 := by rw [← HW1.out]; exact ((Below.refl _ _).alloc (Nat.le_refl _) _).alloc (by simp) _
  have HX1 : Hid (w1.heap[w.heap.size]? = some (.cells #[.int .i64 t.kind, .string t.txt, .int .i64 t.n, .slice a (t.kids.map Doc.d).length cap] 24 (0, 0))) := by rw [← HW1.out]; exact bx_keep (bx_new _ _ _ rfl) ((Below.refl _ _).alloc (Nat.le_refl _) _)
  have HR1 : Hid (w1.heap[w.heap.size + 1]? = some (.cells #[.int .i64 0, .string ⟨#[]⟩, .int .i64 0, .slice none 0 0] 24 (0, 0))) := by rw [← HW1.out]; exact bx_new _ _ _ (by simp)
  have HB1 := Lib.hid hb1
  have HCK := Lib.hid (checkE t _ w1 (hv.below hb1) (by omega))
  have HNM := Lib.hid (fun (h : docErr t = 0) W (hb : Below w.heap.size w W) => normE (nodes t).length t _ W (Nat.le_refl _) (by have := (docErr_ok h).1; omega) (docErr_ok h).2 (hv.below hb))
  obtain ⟨PST, HP⟩ := nameIt (NormPost t w)
  have HFIN : Hid (∀ (d : Doc) u w', d = (if docErr t = 0 then nrm t else zeroD) → Rd AnyB w' (.sl (d.kids.map Doc.d)) [u] → Below w.heap.size w w' → PST (.returned (.tuple #[.agg #[.int .i64 d.kind, .string d.txt, .int .i64 d.n, u], .int .i64 (docErr t)])) w') := fun d u w' hd h1 h2 => by rw [← HP.out]; exact ⟨d, u, rfl, hd, h1, h2⟩
  rw [HP.out]
  obtain ⟨de, HDE⟩ := nameIt (docErr t)
  rw [HDE.out] at HCK HFIN HNM
  obtain ⟨x0, x1, x2, x3⟩ := bx_cells4d HX1.out
  obtain ⟨q0, HQ0⟩ := nameIt t.kind
  obtain ⟨q1, HQ1⟩ := nameIt t.txt
  obtain ⟨q2, HQ2⟩ := nameIt t.n
  obtain ⟨nk, HNK⟩ := nameIt (t.kids.map Doc.d).length
  rw [HQ0.out, HQ1.out, HQ2.out, HNK.out] at HW1 HCK HX1
  simp only [HQ0.out, HQ1.out, HQ2.out, HNK.out] at HNM
  rw [HQ0.out] at x0
  rw [HQ1.out] at x1
  rw [HQ2.out] at x2
  rw [HNK.out] at x3
  rw [HQ0.out, HQ1.out, HQ2.out, HNK.out]
  clear hv hb1
  go_enter Try.func7, Try.ntmps7
  go_upto_region 1 with fail
  rw [HW1.out]
  go_wp2_with fail
  refine HCK.out.mono ?_
  rintro e w2 ⟨rfl, hb2⟩
  have HX2 := Lib.hid (bx_keep HX1.out hb2)
  have HR2 := Lib.hid (bx_keep HR1.out hb2)
  have HB2 := Lib.hid (HB1.out.trans (hb2.mono HB1.out.size))
  have HS2 : Hid (w.heap.size + 1 < w2.heap.size) := (Array.getElem?_eq_some_iff.1 HR2.out).1
  clear hb2 x0 x1 x2 x3
  by_cases h0 : de = 0
  · have HNM2 := Lib.hid (HNM.out h0 w2 HB2.out)
    have HFN := Lib.hid (fun u w' => HFIN.out (nrm t) u w' (by rw [if_pos h0]))
    subst h0
    clear HNM HFIN
    obtain ⟨x0, x1, x2, x3⟩ := bx_cells4d HX2.out
    obtain ⟨nd, HND⟩ := nameIt (nrm t)
    rw [HND.out] at HNM2 HFN
    go_wp2_with fail
    refine HNM2.out.mono ?_
    rintro e w3 ⟨u, rfl, hr3, hb3⟩
    obtain ⟨au, cu, rfl, -, -⟩ := hr3.form
    have hr3x := bx_keep HR2.out hb3
    obtain ⟨y0, y1, y2, y3⟩ := bx_cells4d hr3x
    obtain ⟨f0, f1, f2, f3⟩ := bx_free4 hr3x
    have HB3 := Lib.hid (HB2.out.trans (hb3.mono HB2.out.size))
    have HST := Lib.hid (fun c0 c1 c2 c3 => stored4 (c0 := c0) (c1 := c1) (c2 := c2) (c3 := c3) HB3.out (Nat.le_succ w.heap.size))
    have HS3 := HS2.out
    have HR3 : Hid (∀ w', w3.grownBy w' (some (w.heap.size + 1)) → Rd AnyB w' (.sl (nd.kids.map Doc.d)) [.slice au (nd.kids.map Doc.d).length cu]) := fun w' hw => by
      refine (Rd.keep (S' := fun k => k ≠ w.heap.size + 1) (fun k hk hlt => ⟨?_, hw.block k hlt ?_⟩) _ _ hr3).any
      · have h := hk.resolve_left id; omega
      · intro e; have h := hk.resolve_left id; simp at e; omega
    have HF := Lib.hid (fun w' => HFN.out (.slice au (nd.kids.map Doc.d).length cu) w')
    obtain ⟨nv, HNV⟩ := nameIt (nd.kids.map Doc.d).length
    obtain ⟨k0, HK0⟩ := nameIt nd.kind
    obtain ⟨k1, HK1⟩ := nameIt nd.txt
    obtain ⟨k2, HK2⟩ := nameIt nd.n
    rw [HNV.out] at HF HR3 ⊢
    rw [HK0.out, HK1.out, HK2.out] at HF
    rw [HK0.out, HK1.out, HK2.out]
    clear hr3 hb3 hr3x x0 x1 x2 x3 HFN
    go_wp2_with fail
    refine bodyPost_ret (v := .tuple #[.agg #[.int .i64 k0, .string k1, .int .i64 k2, .slice au nv cu], .int .i64 0]) (by simp [results, Try.results7, go_sem, y0, y1, y2, y3]) rfl ?_
    have hst := HST.out (.int .i64 k0) (.string k1) (.int .i64 k2) (.slice au nv cu)
    exact HF.out _ (HR3.out _ hst.1) hst.2
  · have HF := Lib.hid (fun w' => HFIN.out zeroD (.slice none 0 0) w' (by rw [if_neg h0]) ⟨none, 0, [], rfl, by simp [zeroD, Doc.kids], by simp, fun _ => rfl, fun i hi => by simp at hi, by simp [zeroD, Doc.kids, RdAll]⟩)
    have h0' : (de != 0) = true := by simpa using h0
    obtain ⟨y0, y1, y2, y3⟩ := bx_cells4d HR2.out
    obtain ⟨f0, f1, f2, f3⟩ := bx_free4 HR2.out
    have HS3 := HS2.out
    have HST := Lib.hid (fun c0 c1 c2 c3 => stored4 (c0 := c0) (c1 := c1) (c2 := c2) (c3 := c3) HB2.out (Nat.le_succ w.heap.size))
    clear HFIN
    go_wp2_with fail
    refine bodyPost_ret (v := .tuple #[.agg #[.int .i64 0, .string ⟨#[]⟩, .int .i64 0, .slice none 0 0], .int .i64 de]) (by simp [results, Try.results7, go_sem, y0, y1, y2, y3]) rfl ?_
    exact HF.out _ (HST.out (.int .i64 0) (.string ⟨#[]⟩) (.int .i64 0) (.slice none 0 0)).2
theorem textE (s : ByteArray) (w : World) : Calls Try.prog 15 #[.string s] w fun e w' => e = .returned (.agg #[.int .i64 0, .string s, .int .i64 0, .slice none 0 0]) ∧ Below w.heap.size w w' := by
  obtain ⟨w1, HW1⟩ := nameIt (w.alloc (.cells #[.int .i64 0, .string ⟨#[]⟩, .int .i64 0, .slice none 0 0] 24))
  have hb1 : Below w.heap.size w w1 := by rw [← HW1.out]; exact (Below.refl _ _).alloc (Nat.le_refl _) _
  have hx1 : w1.heap[w.heap.size]? = some (.cells #[.int .i64 0, .string ⟨#[]⟩, .int .i64 0, .slice none 0 0] 24 (0, 0)) := by rw [← HW1.out]; exact bx_new _ _ _ rfl
  have hs1 : w.heap.size < w1.heap.size := (Array.getElem?_eq_some_iff.1 hx1).1
  obtain ⟨y0, y1, y2, y3⟩ := bx_cells4d hx1
  obtain ⟨f0, f1, f2, f3⟩ := bx_free4 hx1
  have HB1 := Lib.hid hb1
  clear hb1 hx1
  go_enter Try.func15, Try.ntmps15
  go_upto_region 1 with fail
  rw [HW1.out]
  go_wp2_with fail
  refine bodyPost_ret (v := .agg #[.int .i64 0, .string s, .int .i64 0, .slice none 0 0]) (by simp [results, Try.results15, go_sem, y0, y1, y2, y3]) rfl ?_
  exact ⟨rfl, (((HB1.out.setCell (Nat.le_refl _) _).setCell (Nat.le_refl _) _).setCell (Nat.le_refl _) _).setCell (Nat.le_refl _) _⟩
def txtD (s : ByteArray) : Doc := .mk 0 s 0 []
def pairD : Doc := .mk 6 ⟨#[]⟩ 0 [.mk 4 ⟨#[]⟩ 0 [txtD ⟨#[97, 98]⟩, .mk 1 ⟨#[]⟩ 0 [], txtD ⟨#[99, 100]⟩]]
theorem rd_nil {S : Nat → Prop} {w : World} : Rd S w (.sl []) [.slice none 0 0] := ⟨none, 0, [], rfl, by simp, by simp, fun _ => rfl, fun i hi => by simp at hi, by simp [RdAll]⟩
theorem pairD_err : docErr pairD = 0 := by decide +kernel
theorem pairD_flat : flatB pairD = [97, 98, 32, 99, 100] := by decide +kernel
theorem pairD_hard : (nodes pairD).any isHard = false := by decide +kernel
theorem pairD_nodes : (nodes pairD).length = 5 := by decide +kernel
theorem pairE (w : World) : Calls Try.prog 5 #[] w fun e w' => ∃ u, e = .returned (.agg #[.int .i64 6, .string ⟨#[]⟩, .int .i64 0, u]) ∧ Rd AnyB w' (.sl (pairD.kids.map Doc.d)) [u] ∧ Below w.heap.size w w' := by
  obtain ⟨w1, HW1⟩ := nameIt (w.alloc (.cells #[.int .i64 0, .string ⟨#[]⟩, .int .i64 0, .slice none 0 0] 24))
  have hb1 : Below w.heap.size w w1 := by rw [← HW1.out]; exact (Below.refl _ _).alloc (Nat.le_refl _) _
  have HX1 : Hid (w1.heap[w.heap.size]? = some (.cells #[.int .i64 0, .string ⟨#[]⟩, .int .i64 0, .slice none 0 0] 24 (0, 0))) := by rw [← HW1.out]; exact bx_new _ _ _ rfl
  have HB1 := Lib.hid hb1
  clear hb1
  go_enter Try.func5, Try.ntmps5
  go_upto_region 1 with fail
  rw [HW1.out]
  go_wp2_with fail
  refine (textE _ w1).mono ?_
  rintro e w2 ⟨rfl, hb2⟩
  have HB2 := Lib.hid (HB1.out.trans (hb2.mono HB1.out.size))
  have HX2 := Lib.hid (bx_keep HX1.out hb2)
  clear hb2
  go_wp2_with fail
  refine (textE _ w2).mono ?_
  rintro e w3 ⟨rfl, hb3⟩
  have HB3 := Lib.hid (HB2.out.trans (hb3.mono HB2.out.size))
  have HX3 := Lib.hid (bx_keep HX2.out hb3)
  have hs3 : w.heap.size < w3.heap.size := (Array.getElem?_eq_some_iff.1 HX3.out).1
  clear hb3
  obtain ⟨y0, y1, y2, y3⟩ := bx_cells4d HX3.out
  obtain ⟨f0, f1, f2, f3⟩ := bx_free4 HX3.out
  obtain ⟨ws, HWS⟩ := nameIt ((((w3.setCell ⟨w.heap.size, 0, none⟩ (.int .i64 6)).setCell ⟨w.heap.size, 1, none⟩ (.string ⟨#[]⟩)).setCell ⟨w.heap.size, 2, none⟩ (.int .i64 0)).setCell ⟨w.heap.size, 3, none⟩ (.slice (some ⟨w3.heap.size + 1, 0, none⟩) 1 1))
  have hss : ws.heap.size = w3.heap.size := by rw [← HWS.out]; simp only [size_set]
  have hbs : Below w.heap.size w ws := by rw [← HWS.out]; exact (((HB3.out.setCell (Nat.le_refl _) _).setCell (Nat.le_refl _) _).setCell (Nat.le_refl _) _).setCell (Nat.le_refl _) _
  obtain ⟨w5, HW5⟩ := nameIt (ws.alloc (.cells #[.int .i64 0, .string ⟨#[97, 98]⟩, .int .i64 0, .slice none 0 0, .int .i64 1, .string ⟨#[]⟩, .int .i64 0, .slice none 0 0, .int .i64 0, .string ⟨#[99, 100]⟩, .int .i64 0, .slice none 0 0] 24))
  obtain ⟨w4, HW4⟩ := nameIt (w5.alloc (.cells #[.int .i64 4, .string ⟨#[]⟩, .int .i64 0, .slice (some ⟨w3.heap.size, 0, none⟩) 3 3] 24))
  have hs5 : w5.heap.size = w3.heap.size + 1 := by rw [← HW5.out]; simp; exact hss
  have hb45 : Below w5.heap.size w5 w4 := by rw [← HW4.out]; exact (Below.refl _ _).alloc (Nat.le_refl _) _
  have hb4 : Below w.heap.size w w4 := by
    have h1 : Below w.heap.size w w5 := by rw [← HW5.out]; exact hbs.alloc (by omega) _
    rw [← HW4.out]; exact h1.alloc (by omega) _
  have HR4 : Hid (Rd AnyB w4 (.sl (pairD.kids.map Doc.d)) [.slice (some ⟨w3.heap.size + 1, 0, none⟩) 1 1]) := by
    have h1 := own_litD (w := ws) (B := w3.heap.size) (g := w3.heap.size) (e := 24) (size := 4) (n := 3) (news := #[.int .i64 0, .string ⟨#[97, 98]⟩, .int .i64 0, .slice none 0 0, .int .i64 1, .string ⟨#[]⟩, .int .i64 0, .slice none 0 0, .int .i64 0, .string ⟨#[99, 100]⟩, .int .i64 0, .slice none 0 0]) hss.symm (by omega) rfl (by simp [maxLen])
    rw [HW5.out] at h1
    have h3 : Rd (fun k => k = w3.heap.size) w5 (.sl (([txtD ⟨#[97, 98]⟩, .mk 1 ⟨#[]⟩ 0 [], txtD ⟨#[99, 100]⟩] : List Doc).map Doc.d)) [.slice (some ⟨w3.heap.size, 0, none⟩) 3 3] := by
      refine rd_of_own h1 ?_ rfl (fun k e => by cases e; rfl)
      refine ⟨_, _, rfl, rd_doc (t := txtD ⟨#[97, 98]⟩) rd_nil, _, _, rfl, rd_doc (t := .mk 1 ⟨#[]⟩ 0 []) rd_nil, _, _, rfl, rd_doc (t := txtD ⟨#[99, 100]⟩) rd_nil, rfl⟩
    have h4 := own_litD (w := w5) (B := w3.heap.size) (g := w3.heap.size + 1) (e := 24) (size := 4) (n := 1) (news := #[.int .i64 4, .string ⟨#[]⟩, .int .i64 0, .slice (some ⟨w3.heap.size, 0, none⟩) 3 3]) hs5.symm (by omega) rfl (by simp [maxLen])
    rw [HW4.out] at h4
    refine (rd_of_own (S := fun k => w3.heap.size ≤ k) h4 ?_ rfl (fun k e => by cases e; exact Nat.le_succ _)).any
    exact RdAll.one (rd_doc (t := .mk 4 ⟨#[]⟩ 0 [txtD ⟨#[97, 98]⟩, .mk 1 ⟨#[]⟩ 0 [], txtD ⟨#[99, 100]⟩]) ((h3.below hb45).mono fun k hk _ => by show _ ≤ _; omega))
  have HB4 := Lib.hid hb4
  clear hb4 hb45 hs5 hbs
  have hss' := Lib.hid hss
  clear hss
  go_wp2_with fail
  refine bodyPost_ret (v := .agg #[.int .i64 6, .string ⟨#[]⟩, .int .i64 0, .slice (some ⟨w3.heap.size + 1, 0, none⟩) 1 1]) (by simp [results, Try.results5, go_sem, y0, y1, y2, y3, hs3]) rfl ?_
  rw [HWS.out, HW5.out, HW4.out]
  exact ⟨_, rfl, HR4.out, HB4.out⟩
end Dc
end Go.Proofs.Ytgpikophndbmeaa
