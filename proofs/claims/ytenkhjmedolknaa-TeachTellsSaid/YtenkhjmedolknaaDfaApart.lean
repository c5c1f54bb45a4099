/- The closures of the reference's Apart: there the dead state is the number of states. -/
import Derived.Test.YtenkhjmedolknaaDfaEnds
namespace Go.Proofs.Ytenkhjmedolknaa
open Go.RowKit
namespace Df

def encS (x : Dfa) (s : Int) : Int := if s < 0 then x.next.length else s

set_option maxHeartbeats 1000000 in
theorem goodE (x : Dfa) (hx : Right x) (s : Int) (hs : inS x s) (aa an : Option Addr) (ca cn : Nat) (w : World) (hA : Sl w (.slice aa x.acc.length ca) (ints x.acc)) :
    Calls Try.prog 21 #[.agg #[.int .i64 x.start, .slice aa x.acc.length ca, .slice an x.next.length cn], .int .i64 (encS x s)] w fun e w' => e = .returned (.bool (goodS x s)) ∧ Below w.heap.size w w' := by
  obtain ⟨w0, HW0⟩ := nameIt (w.alloc (.cells #[.int .i64 x.start, .slice aa x.acc.length ca, .slice an x.next.length cn] 25))
  have hb0 : Below w.heap.size w w0 := by rw [← HW0.out]; exact (Below.refl _ _).alloc (Nat.le_refl _) _
  have HB0 := Lib.hid hb0
  have X0 : w0.heap[w.heap.size]? = some (.cells #[.int .i64 x.start, .slice aa x.acc.length ca, .slice an x.next.length cn] 25 (0, 0)) := by rw [← HW0.out]; exact bx_new _ _ _ rfl
  obtain ⟨x0, x1, x2⟩ := bx_cells3 X0
  by_cases h0 : s < 0
  · have he : encS x s = (x.next.length : Int) := by unfold encS; rw [if_pos h0]
    have hg : Hid (goodS x s = false) := by show _ = _; rw [goodS_at]; unfold atS; rw [if_pos h0]; rfl
    rw [he]
    obtain ⟨R, HR⟩ := nameIt (goodS x s)
    rw [HR.out] at hg ⊢
    obtain ⟨n, HN⟩ := nameIt x.next.length
    rw [HN.out] at HW0 x2 ⊢
    have hd : decide ((n : Int) < (n : Int)) = false := by simp
    clear X0 he hb0 hA
    go_enter Try.func21, Try.ntmps21
    go_upto_region 1 with fail
    rw [HW0.out]
    go_wp2_with fail
    go_ret
    exact ⟨by rw [hg.out]; rfl, HB0.out⟩
  · have he : encS x s = s := by unfold encS; rw [if_neg h0]
    have hac := hx.accs
    have hsn := hs.2
    have hlt : s.toNat < x.acc.length := by omega
    obtain ⟨b, off, hae, hca⟩ := (hA.keep hb0).at hlt
    have c0 := hca s.toNat (by rw [ints_len]; exact hlt)
    rw [ints_get] at c0
    have hg : goodS x s = decide (0 ≤ x.acc[s.toNat]) := by
      rw [goodS_at]; unfold atS; rw [if_neg h0, List.getElem?_eq_getElem hlt, Option.getD_some]
    obtain ⟨a, HAV⟩ := nameIt (x.acc[s.toNat]'hlt)
    rw [HAV.out] at c0 hg
    have HG := Lib.hid hg
    rw [he]
    obtain ⟨R, HR⟩ := nameIt (goodS x s)
    rw [HR.out] at HG ⊢
    have hs0 : 0 ≤ s := by omega
    have hs1 : s < (x.acc.length : Int) := by omega
    have hd : decide (s < (x.next.length : Int)) = true := by simpa using hsn
    obtain ⟨m, HM⟩ := nameIt x.acc.length
    obtain ⟨n, HN⟩ := nameIt x.next.length
    rw [HM.out, HN.out] at HW0
    rw [HM.out] at x1 hs1
    rw [HN.out] at x2 hd hsn
    rw [HM.out, HN.out]
    subst hae
    clear X0 he hb0 hA hca hg hac
    go_enter Try.func21, Try.ntmps21
    go_upto_region 1 with fail
    rw [HW0.out]
    go_wp2_with fail
    go_ret
    exact ⟨by rw [HG.out]; rfl, HB0.out⟩

set_option maxHeartbeats 1000000 in
theorem goE (x : Dfa) (hx : Right x) (s : Int) (hs : inS x s) (c : Nat) (hc : c < x.width) (va : Value) (an : Option Addr) (cn : Nat) (w : World) (hN : Rd AnyB w (.sl (x.next.map D.ints)) [.slice an x.next.length cn]) :
    Calls Try.prog 22 #[.agg #[.int .i64 x.start, va, .slice an x.next.length cn], .int .i64 (encS x s), .int .i64 (c : Int)] w fun e w' => e = .returned (.int .i64 (encS x (toS x s c))) ∧ Below w.heap.size w w' := by
  obtain ⟨w0, HW0⟩ := nameIt (w.alloc (.cells #[.int .i64 x.start, va, .slice an x.next.length cn] 25))
  have hb0 : Below w.heap.size w w0 := by rw [← HW0.out]; exact (Below.refl _ _).alloc (Nat.le_refl _) _
  have HB0 := Lib.hid hb0
  have X0 : w0.heap[w.heap.size]? = some (.cells #[.int .i64 x.start, va, .slice an x.next.length cn] 25 (0, 0)) := by rw [← HW0.out]; exact bx_new _ _ _ rfl
  obtain ⟨x0, x1, x2⟩ := bx_cells3 X0
  by_cases h0 : s < 0
  · have he : encS x s = (x.next.length : Int) := by unfold encS; rw [if_pos h0]
    have hg : Hid (encS x (toS x s c) = (x.next.length : Int)) := by show _ = _; rw [toS_dead x h0]; unfold encS; rw [if_pos (by decide)]
    rw [he]
    obtain ⟨R, HR⟩ := nameIt (encS x (toS x s c))
    rw [HR.out] at hg ⊢
    obtain ⟨n, HN⟩ := nameIt x.next.length
    rw [HN.out] at HW0 x2 hg ⊢
    have hd : decide ((n : Int) < (n : Int)) = false := by simp
    clear X0 he hb0 hN
    go_enter Try.func22, Try.ntmps22
    go_upto_region 1 with fail
    rw [HW0.out]
    go_wp2_with fail
    go_ret
    exact ⟨by rw [hg.out]; rfl, HB0.out⟩
  · have he : encS x s = s := by unfold encS; rw [if_neg h0]
    obtain ⟨r, v, hr, hv, het, hrl⟩ := toS_at hx (show 0 ≤ s by omega) hs.2 hc
    have hlt : s.toNat < x.next.length := by have := hs.2; omega
    obtain ⟨b, off, vr, hae, c0, hsl⟩ := Rd.rowI_at (hN.below hb0) hlt
    obtain ⟨ar, cr, rfl⟩ := hsl.form
    have hrr : x.next[s.toNat] = r := by
      rw [List.getElem?_eq_getElem hlt] at hr
      exact Option.some.inj hr
    rw [hrr, ints_len] at hsl c0
    have hcl : c < r.length := by omega
    obtain ⟨br, or, har, hca⟩ := hsl.at hcl
    have c1 := hca c (by rw [ints_len]; exact hcl)
    rw [ints_get] at c1
    have hvv : r[c] = v := by
      have h1 : r[c]? = some v := hv
      rw [List.getElem?_eq_getElem hcl] at h1
      exact Option.some.inj h1
    rw [hvv] at c1
    rw [het, he]
    have HE : Hid (encS x v = if v < 0 then (x.next.length : Int) else v) := rfl
    obtain ⟨R, HR⟩ := nameIt (encS x v)
    rw [HR.out] at HE ⊢
    have hs0 : 0 ≤ s := by omega
    have hs1 : s < (x.next.length : Int) := hs.2
    have hc0 : (0 : Int) ≤ (c : Int) := by omega
    obtain ⟨nr, HNR⟩ := nameIt r.length
    rw [HNR.out] at c0
    have hcn : (c : Int) < (nr : Int) := by have := HNR.out; omega
    obtain ⟨n, HN⟩ := nameIt x.next.length
    rw [HN.out] at HW0 x2 hs1 HE ⊢
    have hd : decide (s < (n : Int)) = true := by simpa using hs1
    subst hae har
    clear X0 he hb0 hN hca hvv hsl hv hr het hrl
    by_cases hv0 : v < 0
    · have hd2 : decide (0 ≤ v) = false := by simpa using hv0
      have HE2 : Hid (R = (n : Int)) := by show _ = _; rw [HE.out, if_pos hv0]
      clear HE
      go_enter Try.func22, Try.ntmps22
      go_upto_region 1 with fail
      rw [HW0.out]
      go_wp2_with fail
      go_ret
      exact ⟨by rw [HE2.out]; rfl, HB0.out⟩
    · have hv1 : 0 ≤ v := by omega
      have hd2 : decide (0 ≤ v) = true := by simpa using hv1
      have HE2 : Hid (R = v) := by show _ = _; rw [HE.out, if_neg hv0]
      clear HE
      go_enter Try.func22, Try.ntmps22
      go_upto_region 1 with fail
      rw [HW0.out]
      go_wp2_with fail
      go_ret
      exact ⟨by rw [HE2.out]; rfl, HB0.out⟩
end Df
end Go.Proofs.Ytenkhjmedolknaa
