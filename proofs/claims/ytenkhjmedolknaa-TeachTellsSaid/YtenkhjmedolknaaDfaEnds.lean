/- The contracts of dfa.at and the reference's Ends. -/
import Derived.Test.YtenkhjmedolknaaDfaTo
namespace Go.Proofs.Ytenkhjmedolknaa
open Go.RowKit
namespace Df

def atS (x : Dfa) (s : Int) : Int := if s < 0 then -1 else (x.acc[s.toNat]?).getD (-1)
theorem goodS_at (x : Dfa) (s : Int) : goodS x s = decide (0 ≤ atS x s) := by
  unfold goodS atS
  by_cases h : s < 0
  · rw [if_pos h]; simp; omega
  · rw [if_neg h]; simp; intro h1; omega
def runS (x : Dfa) (s : Int) (ws : List Int) : Int := ws.foldl (fun s c => toS x s c.toNat) s
theorem toS_dead (x : Dfa) {s : Int} (h : s < 0) (c : Nat) : toS x s c = -1 := by unfold toS; rw [if_pos h]
theorem runS_dead (x : Dfa) : ∀ (ws : List Int) {s : Int}, s < 0 → runS x s ws < 0
  | [], _, h => h
  | c :: ws, _, h => by
    show runS x (toS x _ c.toNat) ws < 0
    exact runS_dead x ws (by rw [toS_dead x h]; decide)
theorem runS_take (x : Dfa) (s : Int) {ws : List Int} {i : Nat} (h : i < ws.length) : runS x s (ws.take (i + 1)) = toS x (runS x s (ws.take i)) ws[i].toNat := by
  unfold runS
  rw [List.take_succ_eq_append_getElem h, List.foldl_append]
  rfl
theorem runS_in {x : Dfa} (h : Right x) : ∀ (ws : List Int) {s : Int}, inS x s → inS x (runS x s ws)
  | [], _, hs => hs
  | c :: ws, s, _ => runS_in h ws (toS_in h s c.toNat)
theorem runS_all (x : Dfa) (s : Int) (ws : List Int) (i : Nat) (hi : runS x s (ws.take i) < 0) : runS x s ws < 0 := by
  have : runS x s ws = runS x (runS x s (ws.take i)) (ws.drop i) := by
    conv => lhs; rw [← List.take_append_drop i ws]
    unfold runS
    rw [List.foldl_append]
  rw [this]
  exact runS_dead x _ hi

set_option maxHeartbeats 1000000 in
theorem atE (x : Dfa) (hx : Right x) (s : Int) (hs : inS x s) (vn : Value) (aa : Option Addr) (ca : Nat) (w : World) (hA : Sl w (.slice aa x.acc.length ca) (ints x.acc)) :
    Calls Try.prog 29 #[.agg #[.int .i64 x.start, .slice aa x.acc.length ca, vn], .int .i64 s] w fun e w' => e = .returned (.int .i64 (atS x s)) ∧ Below w.heap.size w w' := by
  by_cases h0 : s < 0
  · have he : Hid (atS x s = -1) := by show _ = _; unfold atS; rw [if_pos h0]
    obtain ⟨r, HR⟩ := nameIt (atS x s)
    rw [HR.out] at he ⊢
    go_enter Try.func29, Try.ntmps29
    go_wp2_with fail
    go_ret
    exact ⟨by rw [he.out]; rfl, (Below.refl _ _).alloc (Nat.le_refl _) _⟩
  · have hlt : s.toNat < x.acc.length := by have := hs.2; have := hx.accs; omega
    have he : atS x s = x.acc[s.toNat] := by unfold atS; rw [if_neg h0, List.getElem?_eq_getElem hlt]; rfl
    obtain ⟨w0, HW0⟩ := nameIt (w.alloc (.cells #[.int .i64 x.start, .slice aa x.acc.length ca, vn] 25))
    have hb0 : Below w.heap.size w w0 := by rw [← HW0.out]; exact (Below.refl _ _).alloc (Nat.le_refl _) _
    have HB0 := Lib.hid hb0
    have X0 : w0.heap[w.heap.size]? = some (.cells #[.int .i64 x.start, .slice aa x.acc.length ca, vn] 25 (0, 0)) := by rw [← HW0.out]; exact bx_new _ _ _ rfl
    obtain ⟨x0, x1, x2⟩ := bx_cells3 X0
    obtain ⟨b, off, hae, hca⟩ := (hA.keep hb0).at hlt
    have c0 := hca s.toNat (by rw [ints_len]; exact hlt)
    rw [ints_get, ← he] at c0
    obtain ⟨n, HN⟩ := nameIt x.acc.length
    obtain ⟨st, HST⟩ := nameIt x.start
    rw [HN.out] at hlt x1
    rw [HN.out, HST.out] at HW0 ⊢
    rw [HST.out] at x0
    obtain ⟨res, HRES⟩ := nameIt (atS x s)
    rw [HRES.out] at c0 ⊢
    subst hae
    have hs1 : s < (n : Int) := by omega
    have hs0 : 0 ≤ s := by omega
    clear he hca X0 hb0 hA
    go_enter Try.func29, Try.ntmps29
    go_upto_region 1 with fail
    rw [HW0.out]
    go_wp2_with fail
    go_ret
    exact ⟨rfl, HB0.out⟩

set_option maxHeartbeats 2000000 in
theorem endsE (x : Dfa) (hx : Right x) (ws : List Int) (hws : ∀ c ∈ ws, 0 ≤ c ∧ c < x.width) (aa an aw : Option Addr) (ca cn cw : Nat) (w : World) (hA : Sl w (.slice aa x.acc.length ca) (ints x.acc)) (hN : Rd AnyB w (.sl (x.next.map D.ints)) [.slice an x.next.length cn]) (hW : Sl w (.slice aw ws.length cw) (ints ws)) :
    Calls Try.prog 11 #[.agg #[.int .i64 x.start, .slice aa x.acc.length ca, .slice an x.next.length cn], .slice aw ws.length cw] w fun e w' => e = .returned (.bool (goodS x (runS x x.start ws))) ∧ Below w.heap.size w w' := by
  have hcw := hW.len.2
  unfold maxLen at hcw
  obtain ⟨w0, HW0⟩ := nameIt (w.alloc (.cells #[.int .i64 x.start, .slice aa x.acc.length ca, .slice an x.next.length cn] 25))
  have hb0 : Below w.heap.size w w0 := by rw [← HW0.out]; exact (Below.refl _ _).alloc (Nat.le_refl _) _
  have HB0 := Lib.hid hb0
  have X0 : w0.heap[w.heap.size]? = some (.cells #[.int .i64 x.start, .slice aa x.acc.length ca, .slice an x.next.length cn] 25 (0, 0)) := by rw [← HW0.out]; exact bx_new _ _ _ rfl
  obtain ⟨x0, x1, x2⟩ := bx_cells3 X0
  have HA := Lib.hid (hA.keep hb0)
  have HNX := Lib.hid (hN.below hb0)
  have HWW := Lib.hid (hW.keep hb0)
  have HAT := Lib.hid (fun (i : Nat) (h : i < ws.length) => @runS_take x x.start ws i h)
  have HIN := Lib.hid (fun (i : Nat) => runS_in hx (ws.take i) (s := x.start) ⟨by have := hx.start; omega, hx.start.2⟩)
  have HDE := Lib.hid (fun (i : Nat) => runS_all x x.start ws i)
  have HGD := Lib.hid (goodS_at x (runS x x.start ws))
  have HTO := Lib.hid (fun (s : Int) (h0 : 0 ≤ s) (h1 : s < x.next.length) (c : Nat) (hc : c < x.width) => toS_at hx h0 h1 hc)
  have HWS := Lib.hid hws
  have HAC := Lib.hid hx.accs
  have HST0 : Hid (runS x x.start (ws.take 0) = x.start) := rfl
  obtain ⟨st, HST⟩ := nameIt x.start
  rw [HST.out] at HW0 x0 HST0
  obtain ⟨R, HRN⟩ := nameIt (goodS x (runS x x.start ws))
  rw [HST.out] at HRN
  rw [HST.out, HRN.out] at HGD
  simp only [HST.out] at HAT HIN HDE
  rw [HST.out, HRN.out]
  clear hA hN hW hws hb0 X0
  go_enter Try.func11, Try.ntmps11
  go_upto_region 1 with fail
  rw [HW0.out]
  go_wp2_with fail
  go_loopg [5, 12] ws.length (fun gg v5 v12 wr => ∃ i : Nat, i ≤ ws.length ∧ ws.length - i ≤ gg ∧ v5 = .int .i64 (runS x st (ws.take i)) ∧ v12 = .int .i64 i ∧ wr = w0)
  case atStart => exact ⟨0, by omega, by omega, by rw [HST0.out], rfl, rfl⟩
  case round =>
    obtain ⟨i, hi, hg, rfl, rfl, rfl⟩ := hrel
    have HRF : Hid (runS x st (ws.take i) < 0 → R = false) := by
      intro hneg
      have h1 := HDE.out i hneg
      have h2 := HGD.out
      unfold atS at h2
      rw [if_pos h1] at h2
      rw [h2]; rfl
    have hins := HIN.out i
    by_cases hlt : i < ws.length
    · have hlt' : (i : Int) < (ws.length : Int) := by omega
      have hi0 : (0 : Int) ≤ (i : Int) := by omega
      obtain ⟨bw, ow, hae, hca⟩ := HWW.out.at hlt
      have cw0 := hca i (by rw [ints_len]; exact hlt)
      rw [ints_get] at cw0
      have hnx := HAT.out i hlt
      obtain ⟨hc0, hc1⟩ := HWS.out _ (List.getElem_mem hlt)
      obtain ⟨s, HS⟩ := nameIt (runS x st (ws.take i))
      obtain ⟨c, HC⟩ := nameIt (ws[i]'hlt)
      rw [HC.out] at cw0 hc0 hc1 hnx
      rw [HS.out] at hins hnx HRF ⊢
      subst hae
      by_cases hs : s < 0
      · have HR := Lib.hid (HRF.out hs)
        clear hnx hca
        go_wp2_with fail
        go_ret
        exact ⟨by rw [HR.out]; rfl, HB0.out⟩
      · have hs0 : 0 ≤ s := by omega
        have hs1 : s < (x.next.length : Int) := hins.2
        obtain ⟨r, v, hr, hv, he, hrl⟩ := HTO.out s hs0 hs1 c.toNat (by omega)
        have hlt2 : s.toNat < x.next.length := by omega
        obtain ⟨b, off, vr, hae2, c0, hsl⟩ := Rd.rowI_at HNX.out hlt2
        obtain ⟨ar, cr, rfl⟩ := hsl.form
        have hrr : x.next[s.toNat] = r := by
          rw [List.getElem?_eq_getElem hlt2] at hr
          exact Option.some.inj hr
        rw [hrr, ints_len] at hsl c0
        have hcl : c.toNat < r.length := by rw [hrl]; omega
        obtain ⟨br, or, har, hcr⟩ := hsl.at hcl
        have c1 := hcr c.toNat (by rw [ints_len]; exact hcl)
        rw [ints_get] at c1
        have hvv : r[c.toNat] = v := by
          have h1 : r[c.toNat]? = some v := hv
          rw [List.getElem?_eq_getElem hcl] at h1
          exact Option.some.inj h1
        rw [hvv] at c1
        have HNE : Hid (v = runS x st (ws.take (i + 1))) := by show _ = _; rw [hnx, he]
        obtain ⟨nr, HNR⟩ := nameIt r.length
        rw [HNR.out] at c0 hrl
        have hcn : c < (nr : Int) := by rw [hrl]; exact hc1
        subst hae2 har
        have hgs : ¬ s < 0 := hs
        clear hr hv he hrr hcr hca hvv hsl hcl hrl hnx
        go_wp2_with fail
        go_roundg (ws.length - (i + 1))
        case measure => omega
        case rel => exact ⟨i + 1, by omega, by omega, by rw [HNE.out], by go_num, rfl⟩
    · obtain rfl : i = ws.length := by omega
      have hlt' : ¬ (ws.length : Int) < (ws.length : Int) := by omega
      have hg2 := HGD.out
      have htk : ws.take ws.length = ws := List.take_length
      rw [htk] at hins HRF ⊢
      obtain ⟨s, HS⟩ := nameIt (runS x st ws)
      rw [HS.out] at hins HRF hg2 ⊢
      by_cases hs : s < 0
      · have HR := Lib.hid (HRF.out hs)
        have hd : decide (0 ≤ s) = false := by simpa using hs
        clear hg2
        go_wp2_with fail
        go_ret
        exact ⟨by rw [HR.out]; rfl, HB0.out⟩
      · have hs0 : 0 ≤ s := by omega
        have hd : decide (0 ≤ s) = true := by simpa using hs0
        have hsa : s.toNat < x.acc.length := by have := hins.2; have := HAC.out; omega
        obtain ⟨b, off, hae, hca⟩ := HA.out.at hsa
        have c0 := hca s.toNat (by rw [ints_len]; exact hsa)
        rw [ints_get] at c0
        unfold atS at hg2
        rw [if_neg hs, List.getElem?_eq_getElem hsa, Option.getD_some] at hg2
        obtain ⟨a, HAV⟩ := nameIt (x.acc[s.toNat]'hsa)
        rw [HAV.out] at c0 hg2
        have HG := Lib.hid hg2
        have hs1 : s < (x.acc.length : Int) := by omega
        subst hae
        clear hca hg2
        go_wp2_with fail
        go_ret
        exact ⟨by rw [HG.out]; rfl, HB0.out⟩
end Df
end Go.Proofs.Ytenkhjmedolknaa
