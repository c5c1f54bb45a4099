/- OneLine and doc.Flat. -/
import Derived.Test.YtgpikophndbmeaaDocWrite
import Derived.Test.YtgpikophndbmeaaDocCheck
import Derived.Test.YtgpikophndbmeaaDocHas
import Derived.Test.YtgpikophndbmeaaDocPred
import Derived.Laws.IdiomStrings
namespace Go.Proofs.Ytgpikophndbmeaa
open Go.RowKit
namespace Dc

theorem conv_back {w : World} {B : Nat} {vo : Value} {l : List UInt8} (h : w.ownsRow B 5 1 vo l.length (bytesV l)) :
    ∃ s, (convert 41 9 vo).run Try.prog w = .ok (.string s) w ∧ BtsD s l := by
  have hcell := fun {g : Nat} (hg : vo.ownBlock = some g) => h.cells hg
  rcases h.2 with ⟨rfl, h0⟩ | ⟨g, cap, cur, rfl, -⟩
  · have : l = [] := List.eq_nil_of_length_eq_zero h0
    subst this
    exact ⟨ByteArray.empty, run_convert_bytes_nil w 41 5 Try.underlying41 Try.underlying5 0 0 9 Try.underlying9, rfl⟩
  · refine ⟨⟨l.toArray⟩, run_convert_bytes_back w 41 9 5 ⟨g, 0, none⟩ cap l Try.underlying41 Try.underlying5 Try.underlying9 (fun j hj => ?_), rfl⟩
    exact hcell rfl j _ (by simp [bytesV, hj])
set_option maxHeartbeats 1000000 in
theorem oneE (t : Doc) (v : Value) (w : World) (hv : Rd AnyB w (.sl (t.kids.map Doc.d)) [v]) (hok : (nodes t).all okD = true) (hlen : (flatB t).length ≤ 100000000) :
    Calls Try.prog 12 #[.agg #[.int .i64 t.kind, .string t.txt, .int .i64 t.n, v]] w fun e w' => ∃ s : ByteArray, e = .returned (.string s) ∧ BtsD s (flatB t) ∧ Below w.heap.size w w' := by
  obtain ⟨a, cap, rfl, -, -⟩ := hv.form
  obtain ⟨w1, HW1⟩ := nameIt ((w.alloc (.cells #[.int .i64 t.kind, .string t.txt, .int .i64 t.n, .slice a (t.kids.map Doc.d).length cap] 24)).alloc (.cells #[.slice none 0 0, .int .i64 0, .slice none 0 0, .bool false] 50))
  have hb1 : Below w.heap.size w w1 := by rw [← HW1.out]; exact ((Below.refl _ _).alloc (Nat.le_refl _) _).alloc (by simp) _
  have hx1 : w1.heap[w.heap.size]? = some (.cells #[.int .i64 t.kind, .string t.txt, .int .i64 t.n, .slice a (t.kids.map Doc.d).length cap] 24 (0, 0)) := by rw [← HW1.out]; exact bx_keep (bx_new _ _ _ rfl) ((Below.refl _ _).alloc (Nat.le_refl _) _)
  have hs1 : w1.heap.size = w.heap.size + 2 := by rw [← HW1.out]; simp
  have hI : WrI w (w.heap.size + 1) (w.heap.size + 2) [] (.slice none 0 0) w1 := ⟨by rw [← HW1.out]; exact bx_new _ _ _ (by simp), World.ownsRow_nil _ _ _ _, hb1, by omega, by omega, by omega⟩
  have HWR := Lib.hid (writeE w (w.heap.size + 1) (w.heap.size + 2) (nodes t).length t _ [] _ w1 0 (Nat.le_refl _) hok hv hI (by simpa using hlen))
  obtain ⟨PST, HP⟩ := nameIt (fun (e : Ending) (w' : World) => ∃ s : ByteArray, e = .returned (.string s) ∧ BtsD s (flatB t) ∧ Below w.heap.size w w')
  have HFIN : Hid (∀ s w', BtsD s (flatB t) → Below w.heap.size w w' → PST (.returned (.string s)) w') := fun s w' h1 h2 => by rw [← HP.out]; exact ⟨s, rfl, h1, h2⟩
  rw [HP.out]
  obtain ⟨x0, x1, x2, x3⟩ := bx_cells4d hx1
  obtain ⟨q0, HQ0⟩ := nameIt t.kind
  obtain ⟨q1, HQ1⟩ := nameIt t.txt
  obtain ⟨q2, HQ2⟩ := nameIt t.n
  obtain ⟨nk, HNK⟩ := nameIt (t.kids.map Doc.d).length
  rw [HQ0.out, HQ1.out, HQ2.out, HNK.out] at HW1 HWR
  rw [HQ0.out] at x0
  rw [HQ1.out] at x1
  rw [HQ2.out] at x2
  rw [HNK.out] at x3
  rw [HQ0.out, HQ1.out, HQ2.out, HNK.out]
  clear hv hb1 hx1 hI
  go_enter Try.func12, Try.ntmps12
  go_upto_region 2 with fail
  rw [HW1.out]
  go_wp2_with fail
  refine HWR.out.mono ?_
  rintro e w2 ⟨vo, rfl, hi2⟩
  rw [List.nil_append] at hi2
  obtain ⟨s, hcs, hbs⟩ := conv_back hi2.own
  obtain ⟨_, _, y2, _⟩ := bx_cells4d hi2.box
  obtain ⟨a9, c9, rfl, -, -⟩ := own_len hi2.own
  obtain ⟨nf, HNF⟩ := nameIt (flatB t).length
  rw [HNF.out] at y2 hcs
  have HE := Lib.hid (HFIN.out _ _ hbs hi2.bel)
  clear hi2 hbs x0 x1 x2 x3
  go_wp2_with fail
  exact HE.out
def FlatPost (t : Doc) (w : World) (e : Ending) (w' : World) : Prop :=
  ∃ s : ByteArray, e = .returned (.tuple #[.string s, .int .i64 (if docErr t = 0 then (if (nodes t).any isHard then 5 else 0) else docErr t)]) ∧ BtsD s (if docErr t = 0 then (if (nodes t).any isHard then [] else flatB t) else []) ∧ Below w.heap.size w w'
theorem any_hard (t : Doc) : ((nodes t).any fun x => ([3] : List Int).any fun y => x.kind == y) = (nodes t).any isHard := by
  congr 1
  funext x
  simp [isHard]
set_option maxHeartbeats 1000000 in
theorem flatTopE (t : Doc) (v : Value) (w : World) (hv : Rd AnyB w (.sl (t.kids.map Doc.d)) [v]) (hN : (nodes t).length ≤ 2000000) (hlen : docErr t = 0 → (flatB t).length ≤ 100000000) :
    Calls Try.prog 4 #[.agg #[.int .i64 t.kind, .string t.txt, .int .i64 t.n, v]] w (FlatPost t w) := by
  obtain ⟨a, cap, rfl, -, -⟩ := hv.form
  obtain ⟨w1, HW1⟩ := nameIt (w.alloc (.cells #[.int .i64 t.kind, .string t.txt, .int .i64 t.n, .slice a (t.kids.map Doc.d).length cap] 24))
  have hb1 : Below w.heap.size w w1 := by rw [← HW1.out]; exact (Below.refl _ _).alloc (Nat.le_refl _) _
  have hx1 : w1.heap[w.heap.size]? = some (.cells #[.int .i64 t.kind, .string t.txt, .int .i64 t.n, .slice a (t.kids.map Doc.d).length cap] 24 (0, 0)) := by rw [← HW1.out]; exact bx_new _ _ _ rfl
  have HB1 := Lib.hid hb1
  have HX1 := Lib.hid hx1
  have HCK := Lib.hid (checkE t _ w1 (hv.below hb1) (by omega))
  have HHS := Lib.hid (fun W (h : Below w.heap.size w W) (b c : Nat) (hs : Sl W (.slice (some ⟨b, 0, none⟩) 1 c) (ints [3])) => hasE [3] t _ (some ⟨b, 0, none⟩) c W (hv.below h) hs)
  have HFL := Lib.hid (fun W (h : Below w.heap.size w W) (hl : (flatB t).length ≤ 100000000) => flatE (nodes t).length t _ W (Nat.le_refl _) (hv.below h) hl)
  rw [any_hard] at HHS
  obtain ⟨PST, HP⟩ := nameIt (FlatPost t w)
  have HFIN : Hid (∀ (s : ByteArray) w', BtsD s (if docErr t = 0 then (if (nodes t).any isHard then [] else flatB t) else []) → Below w.heap.size w w' → PST (.returned (.tuple #[.string s, .int .i64 (if docErr t = 0 then (if (nodes t).any isHard then 5 else 0) else docErr t)])) w') := fun s w' h1 h2 => by rw [← HP.out]; exact ⟨s, rfl, h1, h2⟩
  rw [HP.out]
  have HDL := Lib.hid hlen
  obtain ⟨AH, HAH⟩ := nameIt ((nodes t).any isHard)
  rw [HAH.out] at HHS HFIN
  obtain ⟨de, HDE⟩ := nameIt (docErr t)
  rw [HDE.out] at HCK HFIN HDL
  obtain ⟨x0, x1, x2, x3⟩ := bx_cells4d hx1
  obtain ⟨q0, HQ0⟩ := nameIt t.kind
  obtain ⟨q1, HQ1⟩ := nameIt t.txt
  obtain ⟨q2, HQ2⟩ := nameIt t.n
  obtain ⟨nk, HNK⟩ := nameIt (t.kids.map Doc.d).length
  rw [HQ0.out, HQ1.out, HQ2.out, HNK.out] at HW1 HCK HHS HFL HX1
  rw [HQ0.out] at x0
  rw [HQ1.out] at x1
  rw [HQ2.out] at x2
  rw [HNK.out] at x3
  rw [HQ0.out, HQ1.out, HQ2.out, HNK.out]
  clear hv hb1 hx1 hlen
  go_enter Try.func4, Try.ntmps4
  go_upto_region 1 with fail
  rw [HW1.out]
  go_wp2_with fail
  refine HCK.out.mono ?_
  rintro e w2 ⟨rfl, hb2⟩
  have HX2 := Lib.hid (bx_keep HX1.out hb2)
  have HB2 := Lib.hid (HB1.out.trans (hb2.mono HB1.out.size))
  clear hb2 x0 x1 x2 x3
  by_cases h0 : de = 0
  · have HDM := Lib.hid (HDL.out h0)
    clear HDL
    subst h0
    rw [if_pos rfl, if_pos rfl] at HFIN
    obtain ⟨x0, x1, x2, x3⟩ := bx_cells4d HX2.out
    obtain ⟨w3, HW3⟩ := nameIt (w2.alloc (.cells #[.int .i64 3] 3))
    have hb3 : Below w2.heap.size w2 w3 := by rw [← HW3.out]; exact (Below.refl _ _).alloc (Nat.le_refl _) _
    have HB3 := Lib.hid (HB2.out.trans (hb3.mono HB2.out.size))
    have HX3 := Lib.hid (bx_keep HX2.out hb3)
    have HH3 := Lib.hid (HHS.out w3 HB3.out w2.heap.size 1 (by
      rw [← HW3.out]
      have h := sl_of_own (own_litD (w := w2) (B := 0) (g := w2.heap.size) (e := 3) (size := 1) (n := 1) (news := #[.int .i64 3]) rfl (Nat.zero_le _) (by rfl) (by simp [maxLen]))
      exact h))
    clear hb3
    go_wp2_with fail
    rw [HW3.out]
    refine HH3.out.mono ?_
    rintro e w4 ⟨rfl, hb4⟩
    have HX4 := Lib.hid (bx_keep HX3.out hb4)
    have HB4 := Lib.hid (HB3.out.trans (hb4.mono HB3.out.size))
    clear hb4 x0 x1 x2 x3
    cases AH with
    | true =>
      rw [if_pos rfl, if_pos rfl] at HFIN
      have HE := Lib.hid (HFIN.out ⟨#[]⟩ w4 rfl HB4.out)
      go_wp2_with fail
      first | exact HE.out | (refine bodyPost_ret (results_tmp2 Try.results4 _ _ _) rfl ?_; exact HE.out) | fail
    | false =>
      rw [if_neg (by decide), if_neg (by decide)] at HFIN
      obtain ⟨x0, x1, x2, x3⟩ := bx_cells4d HX4.out
      have HF4 := Lib.hid (HFL.out w4 HB4.out HDM.out)
      go_wp2_with fail
      refine HF4.out.mono ?_
      rintro e w5 ⟨s, rfl, hbs, hb5⟩
      have HE := Lib.hid (HFIN.out s w5 hbs (HB4.out.trans (hb5.mono HB4.out.size)))
      clear hbs hb5 x0 x1 x2 x3
      go_wp2_with fail
      first | exact HE.out | (refine bodyPost_ret (results_tmp2 Try.results4 _ _ _) rfl ?_; exact HE.out) | fail
  · rw [if_neg h0, if_neg h0] at HFIN
    have HE := Lib.hid (HFIN.out ⟨#[]⟩ w2 rfl HB2.out)
    have h0' : (de != 0) = true := by simpa using h0
    go_wp2_with fail
    first | exact HE.out | (refine bodyPost_ret (results_tmp2 Try.results4 _ _ _) rfl ?_; exact HE.out) | fail
end Dc
end Go.Proofs.Ytgpikophndbmeaa
