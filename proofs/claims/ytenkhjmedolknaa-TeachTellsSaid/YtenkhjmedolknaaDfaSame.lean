/- The closures of mini.Same (written by gendfasame.py). -/
import Derived.Test.YtenkhjmedolknaaDfaEnds
namespace Go.Proofs.Ytenkhjmedolknaa
open Go.RowKit
namespace Df

set_option maxHeartbeats 1000000 in
theorem afterE (x : Dfa) (hx : Right x) (s : Int) (hs : inS x s) (c : Nat) (hc : c < x.width) (va : Value) (an : Option Addr) (cn : Nat) (w : World) (hN : Rd AnyB w (.sl (x.next.map D.ints)) [.slice an x.next.length cn]) :
    Calls Try.prog 32 #[.agg #[.int .i64 x.start, va, .slice an x.next.length cn], .int .i64 s, .int .i64 (c : Int)] w fun e w' => e = .returned (.int .i64 (toS x s c)) ∧ Below w.heap.size w w' := by
  by_cases h0 : s < 0
  · have he : Hid (toS x s c = -1) := by show _ = _; unfold toS; rw [if_pos h0]
    obtain ⟨r, HR⟩ := nameIt (toS x s c)
    rw [HR.out] at he ⊢
    go_enter Try.func32, Try.ntmps32
    go_wp2_with fail
    go_ret
    exact ⟨by rw [he.out]; rfl, (Below.refl _ _).alloc (Nat.le_refl _) _⟩
  · obtain ⟨r, v, hr, hv, he, hrl⟩ := toS_at hx (show 0 ≤ s by omega) hs.2 hc
    have hlt : s.toNat < x.next.length := by have := hs.2; omega
    obtain ⟨w0, HW0⟩ := nameIt (w.alloc (.cells #[.int .i64 x.start, va, .slice an x.next.length cn] 25))
    have hb0 : Below w.heap.size w w0 := by rw [← HW0.out]; exact (Below.refl _ _).alloc (Nat.le_refl _) _
    have HB0 := Lib.hid hb0
    have X0 : w0.heap[w.heap.size]? = some (.cells #[.int .i64 x.start, va, .slice an x.next.length cn] 25 (0, 0)) := by rw [← HW0.out]; exact bx_new _ _ _ rfl
    obtain ⟨x0, x1, x2⟩ := bx_cells3 X0
    obtain ⟨b, off, vr, hae, c0, hsl⟩ := Rd.rowI_at (hN.below hb0) hlt
    obtain ⟨ar, cr, rfl⟩ := hsl.form
    rw [ints_len] at hsl c0
    have hrr : x.next[s.toNat] = r := by
      rw [List.getElem?_eq_getElem hlt] at hr
      exact Option.some.inj hr
    have hcl : c < (x.next[s.toNat]).length := by rw [hrr, hrl]; exact hc
    obtain ⟨br, or, har, hca⟩ := hsl.at hcl
    have c1 := hca c (by rw [ints_len]; exact hcl)
    rw [ints_get] at c1
    have hvv : (x.next[s.toNat])[c] = v := by
      have h1 : r[c]? = some v := hv
      rw [← hrr, List.getElem?_eq_getElem hcl] at h1
      exact Option.some.inj h1
    rw [hvv] at c1
    have HE := Lib.hid he
    obtain ⟨nr, HNR⟩ := nameIt (x.next[s.toNat]).length
    rw [HNR.out] at c0 hcl
    obtain ⟨n, HN⟩ := nameIt x.next.length
    obtain ⟨st, HST⟩ := nameIt x.start
    rw [HN.out] at hlt x2
    rw [HN.out, HST.out] at HW0 ⊢
    rw [HST.out] at x0
    obtain ⟨res, HRES⟩ := nameIt (toS x s c)
    rw [HRES.out] at HE ⊢
    subst hae har
    have hs1 : s < (n : Int) := by omega
    have hs0 : 0 ≤ s := by omega
    have hc1 : (c : Int) < (nr : Int) := by omega
    have hc0 : (0 : Int) ≤ (c : Int) := by omega
    clear hr hv he hrl hrr hca hvv X0 hsl hb0 hN hcl
    go_enter Try.func32, Try.ntmps32
    go_upto_region 1 with fail
    rw [HW0.out]
    go_wp2_with fail
    go_ret
    exact ⟨by rw [HE.out]; rfl, HB0.out⟩

set_option maxHeartbeats 1000000 in
theorem resultE (x : Dfa) (hx : Right x) (s : Int) (hs : inS x s) (vn : Value) (aa : Option Addr) (ca : Nat) (w : World) (hA : Sl w (.slice aa x.acc.length ca) (ints x.acc)) :
    Calls Try.prog 31 #[.agg #[.int .i64 x.start, .slice aa x.acc.length ca, vn], .int .i64 s] w fun e w' => e = .returned (.int .i64 (atS x s)) ∧ Below w.heap.size w w' := by
  by_cases h0 : s < 0
  · have he : Hid (atS x s = -1) := by show _ = _; unfold atS; rw [if_pos h0]
    obtain ⟨r, HR⟩ := nameIt (atS x s)
    rw [HR.out] at he ⊢
    go_enter Try.func31, Try.ntmps31
    go_wp2_with fail
    go_ret
    exact ⟨by rw [he.out]; rfl, (Below.refl _ _).alloc (Nat.le_refl _) _⟩
  · have hlt : s.toNat < x.acc.length := by have := hs.2; have := hx.accs; omega
    have he : atS x s = x.acc[s.toNat] := by unfold atS; rw [if_neg h0, List.getElem?_eq_getElem hlt]; rfl
    obtain ⟨w0, HW0⟩ := nameIt (w.alloc (.cells #[.int .i64 x.start, .slice aa x.acc.length ca, vn] 25))
    have hb0 : Below w.heap.size w w0 := by rw [← HW0.out]; exact (Below.refl _ _).alloc (Nat.le_refl _) _
    have HB0 := Lib.hid hb0
    have X0 : w0.heap[w.heap.size]? = some (.cells #[.int .i64 x.start, .slice aa x.acc.length ca, vn] 25 (0, 0)) := by rw [← HW0.out]; exact bx_new _ _ _ rfl
    obtain ⟨x0, x1, x2⟩ := bx_cells3 X0
    obtain ⟨b, off, hae, hca⟩ := (hA.keep hb0).at hlt
    have c0 := hca s.toNat (by rw [ints_len]; exact hlt)
    rw [ints_get, ← he] at c0
    obtain ⟨n, HN⟩ := nameIt x.acc.length
    obtain ⟨st, HST⟩ := nameIt x.start
    rw [HN.out] at hlt x1
    rw [HN.out, HST.out] at HW0 ⊢
    rw [HST.out] at x0
    obtain ⟨res, HRES⟩ := nameIt (atS x s)
    rw [HRES.out] at c0 ⊢
    subst hae
    have hs1 : s < (n : Int) := by omega
    have hs0 : 0 ≤ s := by omega
    clear he hca X0 hb0 hA
    go_enter Try.func31, Try.ntmps31
    go_upto_region 1 with fail
    rw [HW0.out]
    go_wp2_with fail
    go_ret
    exact ⟨rfl, HB0.out⟩
end Df
end Go.Proofs.Ytenkhjmedolknaa
