/- doc.has, the count of doc.Check. -/
import Derived.Test.YtgpikophndbmeaaDocWalk
import Derived.Test.YtgpikophndbmeaaPreds
import Derived.Laws.EntriesVeiled
namespace Go.Proofs.Ytgpikophndbmeaa
open Go.RowKit
namespace Dc

/-- the kinds that doc.has looks for -/
def notIn (K : List Int) (_ : Nat) (t : Doc) : Bool := !(K.any fun y => t.kind == y)
set_option maxHeartbeats 1000000 in
theorem hasNode (K : List Int) (kb : Nat) (a : Option Addr) (c : Nat) (w0 : World) (N : Nat) (hb : w0.heap[kb]? = some (.cells #[.slice a K.length c] 48 (0, 0))) (hs : Sl w0 (.slice a K.length c) (ints K)) :
    NodeFn 29 #[.pointer (some ⟨kb, 0, none⟩)] w0 (notIn K) N (fun _ S W => Below w0.heap.size w0 W ∧ ∀ k, ¬ S k) := by
  refine ⟨fun h => h.1, fun h k hk => absurd hk (h.2 k), fun h hb => ⟨h.1.trans (hb.mono h.1.size), h.2⟩, fun s S W t v hI hv _ => ?_⟩
  obtain ⟨hbW, hS⟩ := hI
  obtain ⟨a', c', rfl, -, -⟩ := hv.form
  obtain ⟨W1, HW1⟩ := nameIt (W.alloc (.cells #[.int .i64 t.kind, .string t.txt, .int .i64 t.n, .slice a' (t.kids.map Doc.d).length c'] 24))
  have hb1 : Below W.heap.size W W1 := by rw [← HW1.out]; exact (Below.refl _ _).alloc (Nat.le_refl _) _
  have hx1 : W1.heap[W.heap.size]? = some (.cells #[.int .i64 t.kind, .string t.txt, .int .i64 t.n, .slice a' (t.kids.map Doc.d).length c'] 24 (0, 0)) := by rw [← HW1.out]; exact bx_new _ _ _ rfl
  have k0 := bx_cells1 (bx_keep (bx_keep hb hbW) hb1)
  obtain ⟨x0, x1, x2, x3⟩ := bx_cells4d hx1
  have HC := Lib.hid (containsInt a c K t.kind W1 ((hs.keep hbW).keep hb1))
  have HB1 := Lib.hid hb1
  have HBW := Lib.hid hbW
  have HSS := Lib.hid hS
  obtain ⟨PST, HP⟩ := nameIt (fun (e : Ending) (W' : World) => ∃ S' : Nat → Prop, e = .returned (.bool (notIn K s.length t)) ∧ (Below w0.heap.size w0 W' ∧ ∀ k, ¬ S' k) ∧ Keeps S W W' ∧ ∀ k, S' k → S k ∨ W.heap.size ≤ k)
  have HFIN : Hid (PST (.returned (.bool (notIn K s.length t))) W1) := by
    rw [← HP.out]
    exact ⟨S, rfl, ⟨HBW.out.trans (HB1.out.mono HBW.out.size), HSS.out⟩, Below.keeps HB1.out, fun k h => .inl h⟩
  rw [HP.out]
  unfold notIn at HFIN
  obtain ⟨r, HR⟩ := nameIt (K.any fun y => t.kind == y)
  rw [HR.out] at HFIN HC
  obtain ⟨tk, HTK⟩ := nameIt t.kind
  obtain ⟨tx, HTX⟩ := nameIt t.txt
  obtain ⟨tn, HTN⟩ := nameIt t.n
  obtain ⟨nk, HNK⟩ := nameIt (t.kids.map Doc.d).length
  obtain ⟨lk, HLK⟩ := nameIt K.length
  rw [HTK.out, HTX.out, HTN.out, HNK.out] at HW1
  rw [HTK.out] at x0 HC
  rw [HLK.out] at k0 HC
  rw [HTK.out, HTX.out, HTN.out, HNK.out]
  clear hb hs hv hbW hS hb1 hx1 x1 x2 x3
  go_enter Try.func29, Try.ntmps29
  go_upto_region 1 with fail
  rw [HW1.out]
  go_wp2_with fail
  with_reducible refine HC.out.mono ?_
  rintro e w2 ⟨rfl, rfl⟩
  go_wp2_with fail
  exact HFIN.out
set_option maxHeartbeats 1000000 in
/-- doc.has -/
theorem hasE (K : List Int) (t : Doc) (v : Value) (a : Option Addr) (c : Nat) (w : World) (hv : Rd AnyB w (.sl (t.kids.map Doc.d)) [v]) (hs : Sl w (.slice a K.length c) (ints K)) :
    Calls Try.prog 13 #[.agg #[.int .i64 t.kind, .string t.txt, .int .i64 t.n, v], .slice a K.length c] w fun e w' => e = .returned (.bool ((nodes t).any fun x => K.any fun y => x.kind == y)) ∧ Below w.heap.size w w' := by
  obtain ⟨av, cv, rfl, -, -⟩ := hv.form
  obtain ⟨w1, HW1⟩ := nameIt ((w.alloc (.cells #[.int .i64 t.kind, .string t.txt, .int .i64 t.n, .slice av (t.kids.map Doc.d).length cv] 24)).alloc (.cells #[.slice a K.length c] 48))
  have hb1 : Below w.heap.size w w1 := by rw [← HW1.out]; exact ((Below.refl _ _).alloc (Nat.le_refl _) _).alloc (by simp) _
  have hx0 : w1.heap[w.heap.size]? = some (.cells #[.int .i64 t.kind, .string t.txt, .int .i64 t.n, .slice av (t.kids.map Doc.d).length cv] 24 (0, 0)) := by rw [← HW1.out]; exact bx_keep (bx_new _ _ _ rfl) ((Below.refl _ _).alloc (Nat.le_refl _) _)
  have hx1 : w1.heap[w.heap.size + 1]? = some (.cells #[.slice a K.length c] 48 (0, 0)) := by rw [← HW1.out]; exact bx_new _ _ _ (by simp)
  have HWK := Lib.hid (walkE 29 #[.pointer (some ⟨w.heap.size + 1, 0, none⟩)] w1 (notIn K) (nodes t).length _ (fun _ _ => rfl) (hasNode K (w.heap.size + 1) a c w1 (nodes t).length hx1 (hs.keep hb1)) (nodes t).length t _ [] (fun _ => False) w1 (Nat.le_refl _) ⟨Below.refl _ _, fun _ h => h⟩ (hv.below hb1) (by simp))
  obtain ⟨x0, x1, x2, x3⟩ := bx_cells4d hx0
  have HB1 := Lib.hid hb1
  have hall : allN (notIn K) 0 (nodes t) = !((nodes t).any fun x => K.any fun y => x.kind == y) := by
    rw [show notIn K = (fun _ x => !(K.any fun y => x.kind == y)) from rfl, allN_const]
    induction nodes t with
    | nil => rfl
    | cons x l ih => rw [List.all_cons, List.any_cons, ih, Bool.not_or]
  have HALL := Lib.hid hall
  obtain ⟨r, HR⟩ := nameIt ((nodes t).any fun x => K.any fun y => x.kind == y)
  rw [HR.out] at HALL ⊢
  obtain ⟨tk, HTK⟩ := nameIt t.kind
  obtain ⟨tx, HTX⟩ := nameIt t.txt
  obtain ⟨tn, HTN⟩ := nameIt t.n
  obtain ⟨nk, HNK⟩ := nameIt (t.kids.map Doc.d).length
  obtain ⟨lk, HLK⟩ := nameIt K.length
  rw [HTK.out, HTX.out, HTN.out, HNK.out] at HWK
  rw [HTK.out, HTX.out, HTN.out, HNK.out, HLK.out] at HW1
  rw [HTK.out] at x0
  rw [HTX.out] at x1
  rw [HTN.out] at x2
  rw [HNK.out] at x3
  rw [HTK.out, HTX.out, HTN.out, HNK.out, HLK.out]
  clear hv hs hb1 hx0 hx1 hall
  go_enter Try.func13, Try.ntmps13
  go_upto_region 1 with fail
  rw [HW1.out]
  go_wp2_with fail
  refine HWK.out.mono ?_
  rintro e w2 ⟨S2, rfl, hI2, hk2, -⟩
  have HB2 : Hid (Below w.heap.size w w2) := HB1.out.trans (hI2.1.mono HB1.out.size)
  have hl : ([] : List Doc).length = 0 := rfl
  rw [hl, HALL.out]
  clear hI2 hk2 x0 x1 x2 x3 hl
  go_wp2_with fail
  go_ret
  refine ⟨?_, HB2.out⟩
  cases r <;> rfl
end Dc
end Go.Proofs.Ytgpikophndbmeaa
