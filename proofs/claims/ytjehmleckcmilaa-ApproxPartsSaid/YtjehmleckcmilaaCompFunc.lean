/- slices.ContainsFunc over components. -/
import Derived.Test.YtjehmleckcmilaaCompRd
import Derived.Test.YtjehmleckcmilaaCheckWalk
namespace Go.Proofs.Ytjehmleckcmilaa
open Go.RowKit

def PredComp (g : Nat) (lb : Array Value) (l : List Comp) (p : Comp → Bool) (w : World) : Prop :=
  ∀ (W : World) (x : Comp) (v : Value), x ∈ l → Below w.heap.size w W → Rd AnyB W (D.ints x.nons) [v] → Calls Try.prog g (#[.agg #[.int .i64 x.kind, v]] ++ lb) W fun e w' => e = .returned (.bool (p x)) ∧ Below W.heap.size W w'

set_option maxHeartbeats 1000000 in
theorem indexFuncComp (g : Nat) (lb : Array Value) (p : Comp → Bool) (a : Option Addr) (cap : Nat) (l : List Comp) (w : World) (eg : ∀ args w, (callFunc g args).run Try.prog w = .ok (.enter g args) w)
    (hf : PredComp g lb l p w) (hl : Rd AnyB w (.sl (l.map Comp.d)) [.slice a l.length cap]) :
    Calls Try.prog 234 #[.slice a l.length cap, .func (.func g) #[] lb] w fun e w' => e = .returned (.int .i64 (idxG p l)) ∧ Below w.heap.size w w' := by
  have HL := Lib.hid hl
  have HF := Lib.hid hf
  have hc := hl.bounds.2
  unfold maxLen at hc
  obtain ⟨hc1, hc2⟩ := hc
  clear hl hf
  go_enter Try.func234, Try.ntmps234
  go_wp2
  go_loopg [8] l.length (fun gg v8 wr => ∃ i : Nat, i ≤ l.length ∧ l.length - i ≤ gg ∧ v8 = .int .i64 i ∧ Hid (Below w.heap.size w wr) ∧ Hid (∀ j (h : j < l.length), j < i → p l[j] = false))
  case atStart => exact ⟨0, by omega, by omega, rfl, Below.refl _ _, fun j _ hj => by omega⟩
  case round =>
    obtain ⟨i, hi, hg, rfl, HB, HN⟩ := hrel
    by_cases hlt : i < l.length
    · have hlt' : (i : Int) < (l.length : Int) := by omega
      obtain ⟨b, off, vr, hae, -, -, c0, c1, hkr⟩ := (HL.out.below HB.out).comp_at hlt
      obtain ⟨ar, cr, rfl, -, -⟩ := hkr.form
      rw [List.length_map] at c1 hkr
      obtain ⟨x, HX⟩ := nameIt (l[i]'hlt)
      rw [HX.out] at c0 c1 hkr
      have hcall := HF.out wr x _ (by rw [← HX.out]; exact List.getElem_mem hlt) HB.out hkr
      obtain ⟨q0, HQ0⟩ := nameIt x.kind
      obtain ⟨q1, HQ1⟩ := nameIt x.nons.length
      rw [HQ0.out] at c0 hcall
      rw [HQ1.out] at c1 hcall
      have HC := Lib.hid hcall
      clear hcall hkr
      subst hae
      go_wp2_with fail
      refine HC.out.mono ?_
      rintro e w6 ⟨rfl, hb6⟩
      have HB6 := Lib.hid (HB.out.trans (hb6.mono HB.out.size))
      clear hb6 c0 c1
      cases hp : p x with
      | true =>
        have HE : Hid (idxG p l = i) := idxG_hit hlt (by rw [HX.out]; exact hp) HN.out
        clear hp
        go_wp2
        go_ret
        exact ⟨by rw [HE.out]; rfl, HB6.out⟩
      | false =>
        have HN2 : Hid (∀ j (h : j < l.length), j < i + 1 → p l[j] = false) := by
          intro j h hj
          by_cases e : j = i
          · subst e; rw [HX.out]; exact hp
          · exact HN.out j h (by omega)
        clear hp
        go_wp2
        go_roundg (l.length - (i + 1))
        case measure => omega
        case rel => exact ⟨i + 1, by omega, by omega, by go_num, HB6, HN2⟩
    · have hlt' : ¬ (i : Int) < (l.length : Int) := by omega
      have HE : Hid (idxG p l = -1) := idxG_none fun j hj => HN.out j hj (by omega)
      go_wp2
      go_ret
      exact ⟨by rw [HE.out]; rfl, HB.out⟩

set_option maxHeartbeats 1000000 in
theorem containsFuncComp (g : Nat) (lb : Array Value) (p : Comp → Bool) (a : Option Addr) (cap : Nat) (l : List Comp) (w : World) (eg : ∀ args w, (callFunc g args).run Try.prog w = .ok (.enter g args) w)
    (hf : PredComp g lb l p w) (hl : Rd AnyB w (.sl (l.map Comp.d)) [.slice a l.length cap]) :
    Calls Try.prog 189 #[.slice a l.length cap, .func (.func g) #[] lb] w fun e w' => e = .returned (.bool (l.any p)) ∧ Below w.heap.size w w' := by
  have HL := Lib.hid hl
  have HF := Lib.hid hf
  have HG := Lib.hid eg
  clear hl hf eg
  go_enter Try.func189, Try.ntmps189
  go_wp2_with fail
  refine (indexFuncComp g lb p a cap l w HG.out HF.out HL.out).mono ?_
  rintro e w1 ⟨rfl, hb⟩
  have HB := Lib.hid hb
  clear hb
  go_wp2
  go_ret
  exact ⟨by rw [idxG_ge]; rfl, HB.out⟩

end Go.Proofs.Ytjehmleckcmilaa
