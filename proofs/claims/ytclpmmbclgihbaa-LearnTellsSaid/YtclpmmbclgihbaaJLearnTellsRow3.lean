/- The contracts of dfa.at and the reference's Ends. learner.wrong. Plain: dfa.Live: the states from which a word is accepted. Plain: the rounds of dfa.Parts. Plain: the automaton of a closed learner. Plain: dfa.Canon: one state of each part, in the order in which they come up. Plain: the rows of dfa.Canon. The closures of mini.Same (written by gendfasame.py). Aligned words, in plain Lean: the distance by a table, and by all ways; the operations. mini.Same: the list of pairs of states, the set of those seen. Plain: the parts of dfa.Parts are the states of one language. Plain: a shortest word on which two automata differ is no longer than they have states. -/
import Derived.Test.YtclpmmbclgihbaaJLearnTellsRow1
import Derived.Test.YtclpmmbclgihbaaJLearnTellsRow2
import Derived.WalkKit
import Derived.WideKeyPair
namespace Go.Proofs.Ytclpmmbclgihbaa
open Go.RowKit
namespace Df

def atS (x : Dfa) (s : Int) : Int := if s < 0 then -1 else (x.acc[s.toNat]?).getD (-1)
theorem goodS_at (x : Dfa) (s : Int) : goodS x s = decide (0 ≤ atS x s) := by
  unfold goodS atS
  by_cases h : s < 0
  · rw [if_pos h]; simp; omega
  · rw [if_neg h]; simp; intro h1; omega
def runS (x : Dfa) (s : Int) (ws : List Int) : Int := ws.foldl (fun s c => toS x s c.toNat) s
theorem toS_dead (x : Dfa) {s : Int} (h : s < 0) (c : Nat) : toS x s c = -1 := by unfold toS; rw [if_pos h]
theorem runS_dead (x : Dfa) : ∀ (ws : List Int) {s : Int}, s < 0 → runS x s ws < 0
  | [], _, h => h
  | c :: ws, _, h => by
    show runS x (toS x _ c.toNat) ws < 0
    exact runS_dead x ws (by rw [toS_dead x h]; decide)
theorem runS_take (x : Dfa) (s : Int) {ws : List Int} {i : Nat} (h : i < ws.length) : runS x s (ws.take (i + 1)) = toS x (runS x s (ws.take i)) ws[i].toNat := by
  unfold runS
  rw [List.take_succ_eq_append_getElem h, List.foldl_append]
  rfl
theorem runS_in {x : Dfa} (h : Right x) : ∀ (ws : List Int) {s : Int}, inS x s → inS x (runS x s ws)
  | [], _, hs => hs
  | c :: ws, s, _ => runS_in h ws (toS_in h s c.toNat)
theorem runS_all (x : Dfa) (s : Int) (ws : List Int) (i : Nat) (hi : runS x s (ws.take i) < 0) : runS x s ws < 0 := by
  have : runS x s ws = runS x (runS x s (ws.take i)) (ws.drop i) := by
    conv => lhs; rw [← List.take_append_drop i ws]
    unfold runS
    rw [List.foldl_append]
  rw [this]
  exact runS_dead x _ hi

set_option maxHeartbeats 2000000 in
theorem endsE (x : Dfa) (hx : Right x) (ws : List Int) (hws : ∀ c ∈ ws, 0 ≤ c ∧ c < x.width) (aa an aw : Option Addr) (ca cn cw : Nat) (w : World) (hA : Sl w (.slice aa x.acc.length ca) (ints x.acc)) (hN : Rd AnyB w (.sl (x.next.map D.ints)) [.slice an x.next.length cn]) (hW : Sl w (.slice aw ws.length cw) (ints ws)) :
    Calls Try.prog 14 #[.agg #[.int .i64 x.start, .slice aa x.acc.length ca, .slice an x.next.length cn], .slice aw ws.length cw] w fun e w' => e = .returned (.bool (goodS x (runS x x.start ws))) ∧ Below w.heap.size w w' := by
  have hcw := hW.len.2
  unfold maxLen at hcw
  obtain ⟨w0, HW0⟩ := nameIt (w.alloc (.cells #[.int .i64 x.start, .slice aa x.acc.length ca, .slice an x.next.length cn] 25))
  have hb0 : Below w.heap.size w w0 := by rw [← HW0.out]; exact (Below.refl _ _).alloc (Nat.le_refl _) _
  have HB0 := Lib.hid hb0
  have X0 : w0.heap[w.heap.size]? = some (.cells #[.int .i64 x.start, .slice aa x.acc.length ca, .slice an x.next.length cn] 25 (0, 0)) := by rw [← HW0.out]; exact bx_new _ _ _ rfl
  obtain ⟨x0, x1, x2⟩ := bx_cells3 X0
  have HA := Lib.hid (hA.keep hb0)
  have HNX := Lib.hid (hN.below hb0)
  have HWW := Lib.hid (hW.keep hb0)
  have HAT := Lib.hid (fun (i : Nat) (h : i < ws.length) => @runS_take x x.start ws i h)
  have HIN := Lib.hid (fun (i : Nat) => runS_in hx (ws.take i) (s := x.start) ⟨by have := hx.start; omega, hx.start.2⟩)
  have HDE := Lib.hid (fun (i : Nat) => runS_all x x.start ws i)
  have HGD := Lib.hid (goodS_at x (runS x x.start ws))
  have HTO := Lib.hid (fun (s : Int) (h0 : 0 ≤ s) (h1 : s < x.next.length) (c : Nat) (hc : c < x.width) => toS_at hx h0 h1 hc)
  have HWS := Lib.hid hws
  have HAC := Lib.hid hx.accs
  have HST0 : Hid (runS x x.start (ws.take 0) = x.start) := rfl
  obtain ⟨st, HST⟩ := nameIt x.start
  rw [HST.out] at HW0 x0 HST0
  obtain ⟨R, HRN⟩ := nameIt (goodS x (runS x x.start ws))
  rw [HST.out] at HRN
  rw [HST.out, HRN.out] at HGD
  simp only [HST.out] at HAT HIN HDE
  rw [HST.out, HRN.out]
  clear hA hN hW hws hb0 X0
  go_enter Try.func14, Try.ntmps14
  go_upto_region 1 with fail
  rw [HW0.out]
  go_wp2_with fail
  go_loopg [5, 12] ws.length (fun gg v5 v12 wr => ∃ i : Nat, i ≤ ws.length ∧ ws.length - i ≤ gg ∧ v5 = .int .i64 (runS x st (ws.take i)) ∧ v12 = .int .i64 i ∧ wr = w0)
  case atStart => exact ⟨0, by omega, by omega, by rw [HST0.out], rfl, rfl⟩
  case round =>
    obtain ⟨i, hi, hg, rfl, rfl, rfl⟩ := hrel
    have HRF : Hid (runS x st (ws.take i) < 0 → R = false) := by
      intro hneg
      have h1 := HDE.out i hneg
      have h2 := HGD.out
      unfold atS at h2
      rw [if_pos h1] at h2
      rw [h2]; rfl
    have hins := HIN.out i
    by_cases hlt : i < ws.length
    · have hlt' : (i : Int) < (ws.length : Int) := by omega
      have hi0 : (0 : Int) ≤ (i : Int) := by omega
      obtain ⟨bw, ow, hae, hca⟩ := HWW.out.at hlt
      have cw0 := hca i (by rw [ints_len]; exact hlt)
      rw [ints_get] at cw0
      have hnx := HAT.out i hlt
      obtain ⟨hc0, hc1⟩ := HWS.out _ (List.getElem_mem hlt)
      obtain ⟨s, HS⟩ := nameIt (runS x st (ws.take i))
      obtain ⟨c, HC⟩ := nameIt (ws[i]'hlt)
      rw [HC.out] at cw0 hc0 hc1 hnx
      rw [HS.out] at hins hnx HRF ⊢
      subst hae
      by_cases hs : s < 0
      · have HR := Lib.hid (HRF.out hs)
        clear hnx hca
        go_wp2_with fail
        go_ret
        exact ⟨by rw [HR.out]; rfl, HB0.out⟩
      · have hs0 : 0 ≤ s := by omega
        have hs1 : s < (x.next.length : Int) := hins.2
        obtain ⟨r, v, hr, hv, he, hrl⟩ := HTO.out s hs0 hs1 c.toNat (by omega)
        have hlt2 : s.toNat < x.next.length := by omega
        obtain ⟨b, off, vr, hae2, c0, hsl⟩ := Rd.rowI_at HNX.out hlt2
        obtain ⟨ar, cr, rfl⟩ := hsl.form
        have hrr : x.next[s.toNat] = r := by
          rw [List.getElem?_eq_getElem hlt2] at hr
          exact Option.some.inj hr
        rw [hrr, ints_len] at hsl c0
        have hcl : c.toNat < r.length := by rw [hrl]; omega
        obtain ⟨br, or, har, hcr⟩ := hsl.at hcl
        have c1 := hcr c.toNat (by rw [ints_len]; exact hcl)
        rw [ints_get] at c1
        have hvv : r[c.toNat] = v := by
          have h1 : r[c.toNat]? = some v := hv
          rw [List.getElem?_eq_getElem hcl] at h1
          exact Option.some.inj h1
        rw [hvv] at c1
        have HNE : Hid (v = runS x st (ws.take (i + 1))) := by show _ = _; rw [hnx, he]
        obtain ⟨nr, HNR⟩ := nameIt r.length
        rw [HNR.out] at c0 hrl
        have hcn : c < (nr : Int) := by rw [hrl]; exact hc1
        subst hae2 har
        have hgs : ¬ s < 0 := hs
        clear hr hv he hrr hcr hca hvv hsl hcl hrl hnx
        go_wp2_with fail
        go_roundg (ws.length - (i + 1))
        case measure => omega
        case rel => exact ⟨i + 1, by omega, by omega, by rw [HNE.out], by go_num, rfl⟩
    · obtain rfl : i = ws.length := by omega
      have hlt' : ¬ (ws.length : Int) < (ws.length : Int) := by omega
      have hg2 := HGD.out
      have htk : ws.take ws.length = ws := List.take_length
      rw [htk] at hins HRF ⊢
      obtain ⟨s, HS⟩ := nameIt (runS x st ws)
      rw [HS.out] at hins HRF hg2 ⊢
      by_cases hs : s < 0
      · have HR := Lib.hid (HRF.out hs)
        have hd : decide (0 ≤ s) = false := by simpa using hs
        clear hg2
        go_wp2_with fail
        go_ret
        exact ⟨by rw [HR.out]; rfl, HB0.out⟩
      · have hs0 : 0 ≤ s := by omega
        have hd : decide (0 ≤ s) = true := by simpa using hs0
        have hsa : s.toNat < x.acc.length := by have := hins.2; have := HAC.out; omega
        obtain ⟨b, off, hae, hca⟩ := HA.out.at hsa
        have c0 := hca s.toNat (by rw [ints_len]; exact hsa)
        rw [ints_get] at c0
        unfold atS at hg2
        rw [if_neg hs, List.getElem?_eq_getElem hsa, Option.getD_some] at hg2
        obtain ⟨a, HAV⟩ := nameIt (x.acc[s.toNat]'hsa)
        rw [HAV.out] at c0 hg2
        have HG := Lib.hid hg2
        have hs1 : s < (x.acc.length : Int) := by omega
        subst hae
        clear hca hg2
        go_wp2_with fail
        go_ret
        exact ⟨by rw [HG.out]; rfl, HB0.out⟩
end Df
end Go.Proofs.Ytclpmmbclgihbaa
namespace Go.Proofs.Ytclpmmbclgihbaa
open Go.RowKit
namespace Lr
open Df Km

def wrongV (f : List Int → Bool) (k : Int) (x : Dfa) (u : List Int) : Int := if 2000 < u.length then 2 else if u.any (outK k) = true then 1 else if (decide (0 ≤ atS x (runS x x.start u)) == f u) = true then 7 else 0
/-- every symbol leads on -/
def Full (x : Dfa) : Prop := ∀ r ∈ x.next, ∀ v ∈ r, 0 ≤ v
theorem toS_full {x : Dfa} (hx : Right x) (hf : Full x) {s : Int} (h0 : 0 ≤ s) (h1 : s < x.next.length) {c : Nat} (hc : c < x.width) : 0 ≤ toS x s c ∧ toS x s c < x.next.length := by
  obtain ⟨r, v, e1, e2, e3, _⟩ := toS_at hx h0 h1 hc
  rw [e3]
  have hr := List.mem_of_getElem? e1
  have hv := List.mem_of_getElem? e2
  exact ⟨hf r hr v hv, (hx.next r hr v hv).2⟩
theorem runS_full {x : Dfa} (hx : Right x) (hf : Full x) : ∀ (u : List Int) {s : Int}, 0 ≤ s → s < x.next.length → (∀ c ∈ u, 0 ≤ c ∧ c < x.width) → 0 ≤ runS x s u ∧ runS x s u < x.next.length
  | [], _, h0, h1, _ => ⟨h0, h1⟩
  | c :: u, s, h0, h1, hu => by
    have hc := hu c List.mem_cons_self
    obtain ⟨k0, k1⟩ := toS_full hx hf h0 h1 (c := c.toNat) (by omega)
    exact runS_full hx hf u k0 k1 (fun d hd => hu d (List.mem_cons_of_mem _ hd))
set_option maxHeartbeats 4000000 in
set_option maxRecDepth 100000 in
theorem wrongE (fn : Nat) (lb : Array Value) (f : List Int → Bool) (b mb c : Nat) (hc : c + 5000 ≤ 1000000000) (k : Nat) (av tv rv : Value) (x : Dfa) (hx : Right x) (hfl : Full x) (hwk : x.width = k) (u : List Int) (n : Nat) (hn : u.length = n) (a : Option Addr) (cc : Nat) (aa an : Option Addr) (ca cn : Nat) (nn : Nat) (hnn : x.next.length = nn) (w : World) (eg : ∀ args w, (callFunc fn args).run Try.prog w = .ok (.enter fn args) w)
    (hf : ∀ W, Below w.heap.size w W → AskFn fn lb f (k : Int) W) (hb : w.heap[b]? = some (.cells #[.int .i64 (k : Int), .func (.func fn) #[] lb, .map (some mb), av, tv, rv] 43 (0, 0))) (hK : KN f mb c w) (hS : Sl w (.slice a n cc) (ints u))
    (hA : Sl w (.slice aa nn ca) (ints x.acc)) (hN : Rd AnyB w (.sl (x.next.map D.ints)) [.slice an nn cn]) :
    Calls Try.prog 20 #[.pointer (some ⟨b, 0, none⟩), .agg #[.int .i64 x.start, .slice aa nn ca, .slice an nn cn], .slice a n cc] w fun e w' => e = .returned (.int .i64 (wrongV f k x u)) ∧ ∃ c', KN f mb c' w' ∧ c' ≤ c + 1 ∧ w.grownBy w' (some mb) := by
  obtain ⟨st, HST⟩ := nameIt x.start
  obtain ⟨w0, HW0⟩ := nameIt ((w.alloc (.cells #[.pointer (some ⟨b, 0, none⟩)] 39)).alloc (.cells #[.int .i64 st, .slice aa nn ca, .slice an nn cn] 25))
  have hb0 : Below w.heap.size w w0 := by rw [← HW0.out]; exact ((Below.refl _ _).alloc (Nat.le_refl _) _).alloc (by simp) _
  have HX0 : Hid (w0.heap[w.heap.size]? = some (.cells #[.pointer (some ⟨b, 0, none⟩)] 39 (0, 0))) := by rw [← HW0.out]; exact bx_keep (bx_new _ _ _ rfl) ((Below.refl _ _).alloc (Nat.le_refl _) _)
  have HX1 : Hid (w0.heap[w.heap.size + 1]? = some (.cells #[.int .i64 st, .slice aa nn ca, .slice an nn cn] 25 (0, 0))) := by rw [← HW0.out]; exact bx_new _ _ _ (by simp)
  have HXL := Lib.hid (bx_keep hb hb0)
  have HB0 := Lib.hid hb0
  have HK0 := Lib.hid (hK.keep hb0)
  have HS0 := Lib.hid (hS.keep hb0)
  have HA0 := Lib.hid (hA.keep hb0)
  have HN0 := Lib.hid (hN.below hb0)
  have HF := Lib.hid hf
  have HFL := Lib.hid hfl
  have HXX := Lib.hid hx
  have HN := Lib.hid hn
  have HNN := Lib.hid hnn
  have HWK := Lib.hid hwk
  have HV : Hid (wrongV f k x u = if 2000 < n then 2 else if u.any (outK k) = true then 1 else if (decide (0 ≤ atS x (runS x st u)) == f u) = true then 7 else 0) := by show _ = _; rw [← hn, ← HST.out]; rfl
  obtain ⟨R, HR⟩ := nameIt (wrongV f k x u)
  rw [HR.out] at HV
  rw [HR.out, HST.out]
  have HC0 : Hid (∀ W, Below w0.heap.size w0 W → Calls Try.prog 31 #[.slice a n cc, .func (.func 32) #[] #[.pointer (some ⟨w.heap.size, 0, none⟩)]] W fun e w' => e = .returned (.bool (u.any (outK k))) ∧ Below W.heap.size W w') := fun W hbW => by
    have h := containsFunc 32 #[.pointer (some ⟨w.heap.size, 0, none⟩)] (outK k) a cc u W (fun _ _ => rfl) (fun W' y _ hb' => by
      have hbb : Below w0.heap.size w0 W' := hbW.trans (hb'.mono hbW.size)
      obtain ⟨l0, _⟩ := bx_cells6 (bx_keep HXL.out hbb)
      exact outL k y w.heap.size b W' (bx_cells1 (bx_keep HX0.out hbb)) l0) (by rw [HN.out]; exact HS0.out.keep hbW)
    rw [HN.out] at h
    exact h
  clear hb0 hb hK hS hA hN hf hfl hx hn hnn hwk
  have hnm := HS0.out.len
  by_cases h1 : 2000 < n
  · have h1' : (2000 : Int) < (n : Int) := by omega
    have HE : Hid (R = 2) := by show _ = _; rw [HV.out, if_pos h1]
    clear h1 HV hnm
    go_enter Try.func20, Try.ntmps20
    go_upto_region 1 with fail
    rw [HW0.out]
    go_wp2_with fail
    go_ret
    exact ⟨by rw [HE.out]; rfl, c, HK0.out, by omega, grown_below HB0.out _⟩
  · have h1' : ¬ (2000 : Int) < (n : Int) := by omega
    rw [if_neg h1] at HV
    obtain ⟨oB, HOB⟩ := nameIt (u.any (outK k))
    rw [HOB.out] at HV
    simp only [HOB.out] at HC0
    clear hnm
    go_enter Try.func20, Try.ntmps20
    go_upto_region 1 with fail
    rw [HW0.out]
    go_wp2_with fail
    with_reducible refine (HC0.out w0 (Below.refl _ _)).mono ?_
    rintro e w1 ⟨rfl, hb1⟩
    have HB1 := Lib.hid hb1
    cases oB with
    | true =>
      have HE : Hid (R = 1) := by show _ = _; rw [HV.out]; rfl
      clear HV hb1
      go_wp2_with fail
      go_ret
      exact ⟨by rw [HE.out]; rfl, c, HK0.out.keep HB1.out, by omega, grown_below (HB0.out.trans (HB1.out.mono HB0.out.size)) _⟩
    | false =>
      have HU : Hid (∀ y ∈ u, 0 ≤ y ∧ y < x.width) := by
        intro y hy
        have h := HOB.out
        rw [List.any_eq_false] at h
        have h2 := h y hy
        simp [outK] at h2
        rw [HWK.out]; omega
      have hin0 := HXX.out.start
      rw [HST.out] at hin0
      have HRF := Lib.hid (fun i => runS_full HXX.out HFL.out (u.take i) (s := st) hin0.1 hin0.2 (fun y hy => HU.out y (List.mem_of_mem_take hy)))
      have HST0 : Hid (runS x st (u.take 0) = st) := rfl
      have HAT := Lib.hid (fun (i : Nat) (h : i < u.length) => @runS_take x st u i h)
      obtain ⟨y0, y1, y2⟩ := bx_cells3 (bx_keep HX1.out hb1)
      clear hb1 hin0
      go_wp2_with fail
      go_loopg [7, 9, 20] n (fun gg v7 v9 v20 wr => ∃ i : Nat, i ≤ n ∧ n - i ≤ gg ∧ v7 = .int .i64 (runS x st (u.take i)) ∧ v20 = .int .i64 i ∧ w1 = wr)
      case atStart => exact ⟨0, by omega, by omega, by rw [HST0.out], rfl, rfl⟩
      case round =>
        obtain ⟨i, hi, hg, rfl, rfl, rfl⟩ := hrel
        by_cases hlt : i < n
        · have hlt' : (i : Int) < (n : Int) := by omega
          have hi0 : (0 : Int) ≤ (i : Int) := by omega
          have hlx : i < u.length := by rw [HN.out]; exact hlt
          obtain ⟨bw, ow, hae, hca⟩ := (HS0.out.keep HB1.out).at hlt
          have cw0 := hca i (by rw [ints_len]; exact hlx)
          rw [ints_get] at cw0
          have hnx := HAT.out i hlx
          obtain ⟨hu0, hu1⟩ := HU.out _ (List.getElem_mem hlx)
          obtain ⟨hr0, hr1⟩ := HRF.out i
          obtain ⟨sn, hsn⟩ : ∃ sn : Nat, runS x st (u.take i) = (sn : Int) := ⟨(runS x st (u.take i)).toNat, by omega⟩
          obtain ⟨yn, hyn⟩ : ∃ yn : Nat, u[i] = (yn : Int) := ⟨u[i].toNat, by omega⟩
          rw [hyn] at cw0 hnx hu0 hu1
          rw [hsn] at hnx hr0 hr1 ⊢
          rw [Int.toNat_natCast] at hnx
          obtain ⟨r, v, e1, e2, e3, e4⟩ := toS_at HXX.out hr0 hr1 (c := yn) (by omega)
          rw [e3] at hnx
          rw [Int.toNat_natCast] at e1
          have hsx : sn < x.next.length := by omega
          obtain ⟨bn, on, vr, hae2, c0, hsl⟩ := Rd.rowI_at HN0.out hsx
          obtain ⟨hr', e1'⟩ := List.getElem?_eq_some_iff.1 e1
          rw [e1'] at hsl
          obtain ⟨ar, kr, rfl⟩ := hsl.form
          rw [ints_len] at c0 hsl
          obtain ⟨hyl, e2'⟩ := List.getElem?_eq_some_iff.1 e2
          obtain ⟨br, or', hae3, hcr⟩ := (hsl.keep HB1.out).at hyl
          have c3 := hcr yn (by rw [ints_len]; exact hyl)
          rw [ints_get, e2'] at c3
          have c2 := (HB1.out.cell (lt_of_cell c0)).trans c0
          have hsnn : (sn : Int) < (nn : Int) := by have := HNN.out; omega
          have hsn0 : (0 : Int) ≤ (sn : Int) := by omega
          obtain ⟨rl, HRL⟩ := nameIt r.length
          rw [HRL.out] at c2 hyl
          have hyl' : (yn : Int) < (rl : Int) := by omega
          have HNX := Lib.hid hnx
          subst hae hae2 hae3
          clear hca hnx hyn hsn hr0 hr1 e1 e2 e3 e4 e1' e2' hcr hsl c0 hu1 hr'
          go_wp2_with fail
          go_roundg (n - (i + 1))
          case measure => omega
          case rel => exact ⟨i + 1, by omega, by omega, by rw [HNX.out], by go_num, rfl⟩
        · obtain rfl : i = n := by omega
          have hlt' : ¬ (i : Int) < (i : Int) := by omega
          have htk : u.take i = u := List.take_of_length_le (by rw [HN.out]; exact Nat.le_refl _)
          obtain ⟨hr0, hr1⟩ := HRF.out i
          rw [htk] at hr0 hr1 ⊢
          obtain ⟨sn, hsn⟩ : ∃ sn : Nat, runS x st u = (sn : Int) := ⟨(runS x st u).toNat, by omega⟩
          rw [hsn] at HV hr1 ⊢
          have hsa : sn < x.acc.length := by have := HXX.out.accs; omega
          have hsnn : sn < nn := by have := HNN.out; omega
          obtain ⟨ba, oa, hae, hca⟩ := (HA0.out.keep HB1.out).at hsnn
          have ca0 := hca sn (by rw [ints_len]; exact hsa)
          rw [ints_get] at ca0
          have hat : atS x (sn : Int) = x.acc[sn] := by unfold atS; rw [if_neg (by omega), Int.toNat_natCast, List.getElem?_eq_getElem hsa]; rfl
          rw [hat, if_neg (by simp)] at HV
          obtain ⟨av', HAV⟩ := nameIt (x.acc[sn]'hsa)
          rw [HAV.out] at ca0 HV
          have hsn0 : (0 : Int) ≤ (sn : Int) := by omega
          have hsnI : (sn : Int) < (nn : Int) := by omega
          have X1 := bx_keep HX1.out HB1.out
          have X0 := bx_keep HX0.out HB1.out
          have HK1 := Lib.hid (HK0.out.keep HB1.out)
          have HB01 := Lib.hid (HB0.out.trans (HB1.out.mono HB0.out.size))
          have HMB : Hid (Calls Try.prog 28 #[.pointer (some ⟨b, 0, none⟩), .slice a i cc] w1.drew fun e w' => ∃ c', e = .returned (.bool (f u)) ∧ KN f mb c' w' ∧ c' ≤ c + 1 ∧ w1.grownBy w' (some mb)) := by
            have hbd : Below w1.heap.size w1 w1.drew := (Below.refl _ _).drew
            have hub : ovK (k : Int) u := fun y hy => by
              have h1 := HU.out y hy
              have h2 := HWK.out
              rw [h2] at h1
              exact h1
            refine (memberE fn lb f b mb c (by omega) k av tv rv u i HN.out (k : Int) (by have h1 := HXX.out.syms; have h2 := HWK.out; omega) hub (by omega) a cc w1.drew eg (HF.out _ (HB01.out.trans (hbd.mono HB01.out.size))) (bx_keep (bx_keep HXL.out HB1.out) hbd) (HK1.out.keep hbd) ((HS0.out.keep HB1.out).keep hbd)).mono ?_
            rintro e w' ⟨c', h1, h2, h3, h4⟩
            exact ⟨c', h1, h2, h3, grown_trans (grown_below hbd _) h4⟩
          obtain ⟨fr, HFR⟩ := nameIt (f u)
          rw [HFR.out] at HMB HV
          obtain ⟨gB, HGB⟩ := nameIt (decide (0 ≤ av'))
          rw [HGB.out] at HV
          have hgb : decide (0 ≤ av') = gB := HGB.out
          subst hae
          clear hca hr0 hr1 htk hat hsn y0 y1 y2
          obtain ⟨y0, y1, y2⟩ := bx_cells3 X1
          have z0 := bx_cells1 X0
          clear X0 X1
          have HS : Hid ((fun w' => w'.cell? ⟨w.heap.size + 1, 0 + 1, none⟩ = some (.slice (some ⟨ba, oa, none⟩) nn ca) ∧ w'.cell? ⟨ba, oa + sn, none⟩ = some (.int .i64 av') ∧ w'.cell? ⟨w.heap.size, 0, none⟩ = some (.pointer (some ⟨b, 0, none⟩))) w1.drew) := ⟨y1, ca0, z0⟩
          have HSM : Hid (∀ W, w1.grownBy W (some mb) → (fun w' => w'.cell? ⟨w.heap.size + 1, 0 + 1, none⟩ = some (.slice (some ⟨ba, oa, none⟩) nn ca) ∧ w'.cell? ⟨ba, oa + sn, none⟩ = some (.int .i64 av') ∧ w'.cell? ⟨w.heap.size, 0, none⟩ = some (.pointer (some ⟨b, 0, none⟩))) W) := fun W hg => ⟨cell_map y1 HK1.out hg, cell_map ca0 HK1.out hg, cell_map z0 HK1.out hg⟩
          go_upto_region 11 with fail
          refine wp_region_U (S := (fun w' => w'.cell? ⟨w.heap.size + 1, 0 + 1, none⟩ = some (.slice (some ⟨ba, oa, none⟩) nn ca) ∧ w'.cell? ⟨ba, oa + sn, none⟩ = some (.int .i64 av') ∧ w'.cell? ⟨w.heap.size, 0, none⟩ = some (.pointer (some ⟨b, 0, none⟩)))) 9 (by kernel_rfl) (fun inv => ?_)
          refine wpU_take (i := 0) (v := .pointer (some ⟨w.heap.size + 1, 0 + 1, none⟩)) rfl inv (by kernel_rfl) (by kernel_rfl) (by decide) (by decide) (by kernel_rfl) (by kernel_rfl) (by kernel_rfl) (fun _ _ _ h => h) (Or.inl ⟨by rfl, fun w' hw' => ?_⟩) HS.out (fun inv => ?_)
          · obtain ⟨h0, h1, h2⟩ := hw'
            go_simp
          try simp only [Act.put, List.setIfInBounds_toArray, List.set_cons_zero, List.set_cons_succ]
          refine wpU_take (i := 1) (v := .slice (some ⟨ba, oa, none⟩) nn ca) rfl inv (by kernel_rfl) (by kernel_rfl) (by decide) (by decide) (by kernel_rfl) (by kernel_rfl) (by kernel_rfl) (fun _ _ _ h => h) (Or.inl ⟨by rfl, fun w' hw' => ?_⟩) HS.out (fun inv => ?_)
          · obtain ⟨h0, h1, h2⟩ := hw'
            go_simp
          try simp only [Act.put, List.setIfInBounds_toArray, List.set_cons_zero, List.set_cons_succ]
          refine wpU_take (i := 2) (v := .int .i64 (sn : Int)) rfl inv (by kernel_rfl) (by kernel_rfl) (by decide) (by decide) (by kernel_rfl) (by kernel_rfl) (by kernel_rfl) (fun _ _ _ h => h) (Or.inl ⟨by rfl, fun w' hw' => ?_⟩) HS.out (fun inv => ?_)
          · obtain ⟨h0, h1, h2⟩ := hw'
            go_simp
          try simp only [Act.put, List.setIfInBounds_toArray, List.set_cons_zero, List.set_cons_succ]
          refine wpU_take (i := 3) (v := .pointer (some ⟨ba, oa + sn, none⟩)) rfl inv (by kernel_rfl) (by kernel_rfl) (by decide) (by decide) (by kernel_rfl) (by kernel_rfl) (by kernel_rfl) (fun _ _ _ h => h) (Or.inl ⟨by rfl, fun w' hw' => ?_⟩) HS.out (fun inv => ?_)
          · obtain ⟨h0, h1, h2⟩ := hw'
            go_simp
          try simp only [Act.put, List.setIfInBounds_toArray, List.set_cons_zero, List.set_cons_succ]
          refine wpU_take (i := 4) (v := .int .i64 av') rfl inv (by kernel_rfl) (by kernel_rfl) (by decide) (by decide) (by kernel_rfl) (by kernel_rfl) (by kernel_rfl) (fun _ _ _ h => h) (Or.inl ⟨by rfl, fun w' hw' => ?_⟩) HS.out (fun inv => ?_)
          · obtain ⟨h0, h1, h2⟩ := hw'
            go_simp
          try simp only [Act.put, List.setIfInBounds_toArray, List.set_cons_zero, List.set_cons_succ]
          refine wpU_take (i := 5) (v := .bool gB) rfl inv (by kernel_rfl) (by kernel_rfl) (by decide) (by decide) (by kernel_rfl) (by kernel_rfl) (by kernel_rfl) (fun _ _ _ h => h) (Or.inl ⟨by rfl, fun w' hw' => ?_⟩) HS.out (fun inv => ?_)
          · obtain ⟨h0, h1, h2⟩ := hw'
            go_simp
          try simp only [Act.put, List.setIfInBounds_toArray, List.set_cons_zero, List.set_cons_succ]
          refine wpU_take (i := 6) (v := .pointer (some ⟨b, 0, none⟩)) rfl inv (by kernel_rfl) (by kernel_rfl) (by decide) (by decide) (by kernel_rfl) (by kernel_rfl) (by kernel_rfl) (fun _ _ _ h => h) (Or.inl ⟨by rfl, fun w' hw' => ?_⟩) HS.out (fun inv => ?_)
          · obtain ⟨h0, h1, h2⟩ := hw'
            go_simp
          try simp only [Act.put, List.setIfInBounds_toArray, List.set_cons_zero, List.set_cons_succ]
          refine wpU_take (i := 7) (v := .slice a i cc) rfl inv (by kernel_rfl) (by kernel_rfl) (by decide) (by decide) (by kernel_rfl) (by kernel_rfl) (by kernel_rfl) (fun _ _ _ h => h) (Or.inl ⟨by rfl, fun w' hw' => ?_⟩) HS.out (fun inv => ?_)
          · obtain ⟨h0, h1, h2⟩ := hw'
            go_simp
          try simp only [Act.put, List.setIfInBounds_toArray, List.set_cons_zero, List.set_cons_succ]
          refine wpU_one (i := 8) (by kernel_rfl) rfl (fun K hK => ?_)
          go_simp
          refine HMB.out.mono ?_
          rintro e w3 ⟨c', rfl, hk3, hc3, hg3⟩
          have HK3 := Lib.hid hk3
          have HG3 := Lib.hid (grown_trans (grown_below HB01.out _) hg3)
          refine hK.out _ _ (fun _ => HSM.out _ hg3) ?_
          clear hK K hk3 hg3
          try simp only [Act.put, List.setIfInBounds_toArray, List.set_cons_zero, List.set_cons_succ]
          refine wpU_one (i := 9) (by kernel_rfl) rfl (fun K hK => ?_)
          go_simp
          refine hK.out _ _ (fun h => absurd (show true = false from h) (by decide)) ?_
          clear hK K
          try simp only [Act.put, List.setIfInBounds_toArray, List.set_cons_zero, List.set_cons_succ]
          refine wpU_done (by kernel_rfl) ?_ _
          cases gB <;> cases fr
          all_goals
            go_wp2_with fail
            go_ret
            exact ⟨by rw [HV.out]; rfl, c', HK3.out, hc3, HG3.out⟩
end Lr
end Go.Proofs.Ytclpmmbclgihbaa
namespace Go.Proofs.Ytclpmmbclgihbaa
open Go.RowKit
namespace Df

/-- where a symbol leads -/
def edge (x : Dfa) (s c : Nat) : Option Int := (x.next[s]?).bind fun r => r[c]?
theorem edge_lt {x : Dfa} {s c : Nat} {v : Int} (h : edge x s c = some v) : s < x.next.length := by
  unfold edge at h
  cases hr : x.next[s]? with
  | none => rw [hr] at h; cases h
  | some r => exact (List.getElem?_eq_some_iff.1 hr).1
theorem edge_at {x : Dfa} {s : Nat} (hs : s < x.next.length) {c : Nat} (hc : c < x.next[s].length) : edge x s c = some (x.next[s][c]) := by
  unfold edge
  rw [List.getElem?_eq_getElem hs, Option.bind_some, List.getElem?_eq_getElem hc]
theorem edge_none {x : Dfa} {s : Nat} (hs : s < x.next.length) {c : Nat} (hc : x.next[s].length ≤ c) : edge x s c = none := by
  unfold edge
  rw [List.getElem?_eq_getElem hs, Option.bind_some, List.getElem?_eq_none hc]
/-- a state from which something is accepted -/
inductive Liv (x : Dfa) : Nat → Prop
  | acc {s : Nat} {a : Int} : x.acc[s]? = some a → 0 ≤ a → Liv x s
  | step {s c t : Nat} : edge x s c = some (t : Int) → Liv x t → Liv x s
/-- what the first s rows and c cells of the next one tell of the ways into t -/
def PreI (x : Dfa) (s c t : Nat) (p : Int) : Prop := ∃ s' c' : Nat, p = (s' : Int) ∧ edge x s' c' = some (t : Int) ∧ (s' < s ∨ (s' = s ∧ c' < c))
theorem preI_start {x : Dfa} {t : Nat} {p : Int} : ¬ PreI x 0 0 t p := by rintro ⟨s', c', _, _, h⟩; omega
theorem preI_row {x : Dfa} {s : Nat} (hs : s < x.next.length) {c : Nat} (hc : x.next[s].length ≤ c) {t : Nat} {p : Int} : PreI x s c t p ↔ PreI x (s + 1) 0 t p := by
  constructor
  · rintro ⟨s', c', h1, h2, h3⟩; exact ⟨s', c', h1, h2, by omega⟩
  · rintro ⟨s', c', h1, h2, h3⟩
    refine ⟨s', c', h1, h2, ?_⟩
    by_cases e : s' = s
    · subst e
      by_cases e2 : c' < c
      · exact .inr ⟨rfl, e2⟩
      · rw [edge_none hs (by omega)] at h2; cases h2
    · omega
theorem preI_neg {x : Dfa} {s c : Nat} {v : Int} (hv : edge x s c = some v) {t : Nat} (h : v ≠ (t : Int)) {p : Int} : PreI x s (c + 1) t p ↔ PreI x s c t p := by
  constructor
  · rintro ⟨s', c', h1, h2, h3⟩
    refine ⟨s', c', h1, h2, ?_⟩
    by_cases e : s' = s ∧ c' = c
    · obtain ⟨rfl, rfl⟩ := e
      rw [hv] at h2
      exact absurd (Option.some.inj h2) h
    · omega
  · rintro ⟨s', c', h1, h2, h3⟩; exact ⟨s', c', h1, h2, by omega⟩
theorem preI_add {x : Dfa} {s c t : Nat} (hv : edge x s c = some (t : Int)) {p : Int} : PreI x s (c + 1) t p ↔ PreI x s c t p ∨ p = (s : Int) := by
  constructor
  · rintro ⟨s', c', h1, h2, h3⟩
    by_cases e : s' = s ∧ c' = c
    · exact .inr (by rw [h1, e.1])
    · exact .inl ⟨s', c', h1, h2, by omega⟩
  · rintro (⟨s', c', h1, h2, h3⟩ | h)
    · exact ⟨s', c', h1, h2, by omega⟩
    · exact ⟨s, c, h, hv, by omega⟩
/-- the ways in, as lists -/
def InL (x : Dfa) (s c : Nat) (L : Nat → List Int) : Prop := ∀ t, t < x.next.length → (∀ p, p ∈ L t ↔ PreI x s c t p) ∧ (L t).length ≤ s * 16 + c
theorem inL_start (x : Dfa) : InL x 0 0 (fun _ => []) := fun t _ => ⟨fun p => ⟨fun h => (by cases h), fun h => absurd h preI_start⟩, Nat.zero_le _⟩
theorem inL_row {x : Dfa} (hx : Right x) {s c : Nat} {L : Nat → List Int} (hs : s < x.next.length) (hc : c = x.next[s].length) (h : InL x s c L) : InL x (s + 1) 0 L := fun t ht => by
  obtain ⟨h1, h2⟩ := h t ht
  refine ⟨fun p => by rw [h1 p, preI_row hs (by omega)], ?_⟩
  have := hx.rows _ (List.getElem_mem hs)
  have := hx.syms
  omega
theorem inL_neg {x : Dfa} {s c : Nat} {L : Nat → List Int} {v : Int} (hv : edge x s c = some v) (h0 : v < 0) (h : InL x s c L) : InL x s (c + 1) L := fun t ht => by
  obtain ⟨h1, h2⟩ := h t ht
  exact ⟨fun p => by rw [h1 p, preI_neg hv (by omega)], by omega⟩
def updL (L : Nat → List Int) (t : Nat) (s : Int) : Nat → List Int := fun k => if k = t then L t ++ [s] else L k
theorem inL_add {x : Dfa} {s c : Nat} {L : Nat → List Int} {t : Nat} (hv : edge x s c = some (t : Int)) (h : InL x s c L) : InL x s (c + 1) (updL L t s) := fun k hk => by
  obtain ⟨h1, h2⟩ := h k hk
  unfold updL
  by_cases e : k = t
  · subst e
    rw [if_pos rfl]
    refine ⟨fun p => ?_, by rw [List.length_append]; simp; omega⟩
    rw [List.mem_append, h1 p, preI_add hv]; simp
  · rw [if_neg e]
    exact ⟨fun p => by rw [h1 p, preI_neg hv (by omega)], by omega⟩
theorem inL_end {x : Dfa} {L : Nat → List Int} (h : InL x x.next.length 0 L) {t : Nat} (ht : t < x.next.length) {p : Int} : p ∈ L t ↔ ∃ s c : Nat, p = (s : Int) ∧ edge x s c = some (t : Int) := by
  rw [(h t ht).1 p]
  constructor
  · rintro ⟨s', c', h1, h2, _⟩; exact ⟨s', c', h1, h2⟩
  · rintro ⟨s', c', h1, h2⟩; exact ⟨s', c', h1, h2, .inl (edge_lt h2)⟩
/-- how many are not there yet -/
def notM (M : Nat → Bool) : Nat → Nat
  | 0 => 0
  | n + 1 => notM M n + if M n then 0 else 1
def setM (M : Nat → Bool) (s : Nat) : Nat → Bool := fun k => if k = s then true else M k
theorem setM_self (M : Nat → Bool) (s : Nat) : setM M s s = true := by unfold setM; rw [if_pos rfl]
theorem setM_ge {M : Nat → Bool} {s k : Nat} (h : M k = true) : setM M s k = true := by unfold setM; split <;> simp [h]
theorem setM_cases {M : Nat → Bool} {s k : Nat} (h : setM M s k = true) : k = s ∨ M k = true := by
  unfold setM at h
  split at h
  · rename_i e; exact .inl e
  · exact .inr h
theorem notM_le (M : Nat → Bool) : ∀ n, notM M n ≤ n
  | 0 => Nat.le_refl _
  | n + 1 => by have := notM_le M n; unfold notM; split <;> omega
theorem notM_same {M : Nat → Bool} {s : Nat} : ∀ {n : Nat}, n ≤ s → notM (setM M s) n = notM M n
  | 0, _ => rfl
  | n + 1, h => by
    unfold notM
    rw [notM_same (by omega), show setM M s n = M n from by unfold setM; rw [if_neg (by omega)]]
theorem notM_set {M : Nat → Bool} {s : Nat} (hm : M s = false) : ∀ {n : Nat}, s < n → notM (setM M s) n + 1 = notM M n
  | 0, h => by omega
  | n + 1, h => by
    unfold notM
    by_cases e : s = n
    · subst e
      rw [notM_same (Nat.le_refl _), setM_self, hm]; simp
    · have := notM_set hm (n := n) (by omega)
      rw [show setM M s n = M n from by unfold setM; rw [if_neg (fun h => e h.symm)]]
      omega
/-- while the accepting states are taken -/
structure LvA (x : Dfa) (i : Nat) (M : Nat → Bool) (wk : List Int) : Prop where
  mem : ∀ s, M s = true ↔ s < i ∧ ∃ a, x.acc[s]? = some a ∧ 0 ≤ a
  work : ∀ p ∈ wk, ∃ s : Nat, p = (s : Int) ∧ s < x.next.length ∧ M s = true
  all : ∀ s : Nat, M s = true → (s : Int) ∈ wk
  meas : 2 * notM M x.next.length + wk.length ≤ 2 * x.next.length
theorem lvA_start (x : Dfa) : LvA x 0 (fun _ => false) [] := ⟨fun s => ⟨fun h => (by cases h), fun h => (by omega)⟩, fun p hp => (by cases hp), fun s h => (by cases h), by have := notM_le (fun _ => false) x.next.length; rw [List.length_nil]; omega⟩
theorem lvA_no {x : Dfa} {i : Nat} {M : Nat → Bool} {wk : List Int} {a : Int} (ha : x.acc[i]? = some a) (h0 : a < 0) (h : LvA x i M wk) : LvA x (i + 1) M wk := by
  obtain ⟨h1, h2, h3, h4⟩ := h
  refine ⟨fun s => ?_, h2, h3, h4⟩
  rw [h1]
  constructor
  · rintro ⟨k1, k2⟩; exact ⟨by omega, k2⟩
  · rintro ⟨k1, b, k2, k3⟩
    refine ⟨?_, b, k2, k3⟩
    by_cases e : s = i
    · subst e; rw [ha] at k2; cases k2; omega
    · omega
theorem lvA_yes {x : Dfa} {i : Nat} {M : Nat → Bool} {wk : List Int} {a : Int} (hi : i < x.next.length) (ha : x.acc[i]? = some a) (h0 : 0 ≤ a) (h : LvA x i M wk) : LvA x (i + 1) (setM M i) (wk ++ [(i : Int)]) := by
  obtain ⟨h1, h2, h3, h4⟩ := h
  have hm : M i = false := by
    cases e : M i with
    | false => rfl
    | true => have := ((h1 i).1 e).1; omega
  refine ⟨fun s => ?_, fun p hp => ?_, fun s hs => ?_, ?_⟩
  · constructor
    · intro k
      rcases setM_cases k with rfl | k
      · exact ⟨by omega, a, ha, h0⟩
      · obtain ⟨k1, k2⟩ := (h1 s).1 k
        exact ⟨by omega, k2⟩
    · rintro ⟨k1, k2⟩
      by_cases e : s = i
      · subst e; exact setM_self _ _
      · exact setM_ge ((h1 s).2 ⟨by omega, k2⟩)
  · rcases List.mem_append.1 hp with hp | hp
    · obtain ⟨s, k1, k2, k3⟩ := h2 p hp
      exact ⟨s, k1, k2, setM_ge k3⟩
    · simp at hp
      exact ⟨i, hp, hi, setM_self _ _⟩
  · rcases setM_cases hs with rfl | k
    · simp
    · exact List.mem_append.2 (.inl (h3 s k))
  · have := notM_set hm hi
    rw [List.length_append]; simp; omega
/-- while the others are taken: cur: the state whose ways in are walked, its first j taken -/
structure LvI (x : Dfa) (M : Nat → Bool) (wk : List Int) (cur : Option Nat) : Prop where
  sound : ∀ s, M s = true → Liv x s ∧ s < x.next.length
  accs : ∀ (s : Nat) (a : Int), x.acc[s]? = some a → 0 ≤ a → M s = true
  work : ∀ p ∈ wk, ∃ s : Nat, p = (s : Int) ∧ s < x.next.length ∧ M s = true
  clo : ∀ t, M t = true → (t : Int) ∈ wk ∨ cur = some t ∨ ∀ s c, edge x s c = some (t : Int) → M s = true
  meas : 2 * notM M x.next.length + wk.length ≤ 2 * x.next.length
theorem lvI_start {x : Dfa} (hx : Right x) {M : Nat → Bool} {wk : List Int} {i : Nat} (hi : i = x.acc.length) (h : LvA x i M wk) : LvI x M wk none := by
  subst hi
  obtain ⟨h1, h2, h3, h4⟩ := h
  refine ⟨fun s hs => ?_, fun s a k1 k2 => (h1 s).2 ⟨(List.getElem?_eq_some_iff.1 k1).1, a, k1, k2⟩, h2, fun t ht => .inl (h3 t ht), h4⟩
  obtain ⟨k1, a, k2, k3⟩ := (h1 s).1 hs
  exact ⟨.acc k2 k3, by rw [← hx.accs]; exact k1⟩
theorem lvI_pop {x : Dfa} {M : Nat → Bool} {wk : List Int} {t : Nat} (h : LvI x M (wk ++ [(t : Int)]) none) : LvI x M wk (some t) := by
  obtain ⟨h1, h2, h3, h4, h5⟩ := h
  refine ⟨h1, h2, fun p hp => h3 p (List.mem_append.2 (.inl hp)), fun k hk => ?_, by rw [List.length_append] at h5; simp at h5; omega⟩
  rcases h4 k hk with k1 | k1 | k1
  · rcases List.mem_append.1 k1 with k1 | k1
    · exact .inl k1
    · simp at k1
      have : k = t := by omega
      subst this; exact .inr (.inl rfl)
  · cases k1
  · exact .inr (.inr k1)
theorem lvI_push {x : Dfa} {M : Nat → Bool} {wk : List Int} {t s c : Nat} (h : LvI x M wk (some t)) (he : edge x s c = some (t : Int)) (ht : M t = true) (hm : M s = false) : LvI x (setM M s) (wk ++ [(s : Int)]) (some t) := by
  obtain ⟨h1, h2, h3, h4, h5⟩ := h
  have hs := edge_lt he
  refine ⟨fun k hk => ?_, fun k a k1 k2 => setM_ge (h2 k a k1 k2), fun p hp => ?_, fun k hk => ?_, ?_⟩
  · rcases setM_cases hk with rfl | k1
    · exact ⟨.step he (h1 t ht).1, hs⟩
    · exact h1 k k1
  · rcases List.mem_append.1 hp with hp | hp
    · obtain ⟨k, k1, k2, k3⟩ := h3 p hp
      exact ⟨k, k1, k2, setM_ge k3⟩
    · simp at hp
      exact ⟨s, hp, hs, setM_self _ _⟩
  · rcases setM_cases hk with rfl | k1
    · exact .inl (List.mem_append.2 (.inr (by simp)))
    · rcases h4 k k1 with k2 | k2 | k2
      · exact .inl (List.mem_append.2 (.inl k2))
      · exact .inr (.inl k2)
      · exact .inr (.inr fun s' c' k3 => setM_ge (k2 s' c' k3))
  · have := notM_set hm hs
    rw [List.length_append]; simp; omega
theorem lvI_done {x : Dfa} {M : Nat → Bool} {wk : List Int} {t : Nat} {L : List Int} (hL : ∀ p, p ∈ L ↔ ∃ s c : Nat, p = (s : Int) ∧ edge x s c = some (t : Int)) (hA : ∀ p ∈ L, M p.toNat = true) (h : LvI x M wk (some t)) : LvI x M wk none := by
  obtain ⟨h1, h2, h3, h4, h5⟩ := h
  refine ⟨h1, h2, h3, fun k hk => ?_, h5⟩
  rcases h4 k hk with k1 | k1 | k1
  · exact .inl k1
  · cases k1
    refine .inr (.inr fun s c he => ?_)
    have := hA (s : Int) ((hL _).2 ⟨s, c, rfl, he⟩)
    simpa using this
  · exact .inr (.inr k1)
theorem lvI_end {x : Dfa} {M : Nat → Bool} (h : LvI x M [] none) (s : Nat) : M s = true ↔ Liv x s := by
  obtain ⟨h1, h2, h3, h4, h5⟩ := h
  refine ⟨fun k => (h1 s k).1, fun k => ?_⟩
  induction k with
  | acc ha h0 => exact h2 _ _ ha h0
  | step he _ ih =>
    rcases h4 _ ih with k1 | k1 | k1
    · cases k1
    · cases k1
    · exact k1 _ _ he
end Df
end Go.Proofs.Ytclpmmbclgihbaa
namespace Go.Proofs.Ytclpmmbclgihbaa
open Go.RowKit
namespace Df

def kkA (x : Dfa) (s : Nat) : List Int := b4 (x.acc.getD s 0)
def kkB (x : Dfa) (P : Nat → Int) (s : Nat) : List Int := keyTo P s (x.next.getD s []) (x.next.getD s []).length
/-- the keys of round j, and the numbers behind it -/
def ptK (x : Dfa) (M : Nat → Bool) (n : Nat) : Nat → Nat → List UInt8
  | 0 => fun s => u8b (kkA x s)
  | j + 1 => fun s => u8b (kkB x (numP M (ptK x M n j) n) s)
def ptI (x : Dfa) (M : Nat → Bool) (n j : Nat) : Nat → Int := numP M (ptK x M n j) n
def ptC (x : Dfa) (M : Nat → Bool) (n j : Nat) : Nat := (seenTo M (ptK x M n j) n).length
theorem ptC_le (x : Dfa) (M : Nat → Bool) (n j : Nat) : ptC x M n j ≤ n := seenTo_len n
theorem nodup_sub {α : Type} [BEq α] [LawfulBEq α] : ∀ (l m : List α), l.Nodup → (∀ a ∈ l, a ∈ m) → l.length ≤ m.length
  | [], _, _, _ => Nat.zero_le _
  | a :: l, m, h, hs => by
    obtain ⟨h1, h2⟩ := List.nodup_cons.1 h
    have ha := hs a List.mem_cons_self
    have := nodup_sub l (m.erase a) h2 (fun b hb => (List.mem_erase_of_ne (fun e => h1 (by rw [← e]; exact hb))).2 (hs b (List.mem_cons_of_mem _ hb)))
    rw [List.length_erase_of_mem ha] at this
    have := List.length_pos_of_mem ha
    simp only [List.length_cons]
    omega
theorem u8b_head {x : Int} (h0 : 0 ≤ x) (h1 : x < 256) (r : List Int) : (u8b (b4 x ++ r)).head? = some (UInt8.ofNat x.toNat) := by
  simp [u8b, b4, show x % 256 = x by omega]
theorem head_inj {x y : Int} (hx : 0 ≤ x) (hx1 : x < 256) (hy : 0 ≤ y) (hy1 : y < 256) {r t : List Int} (h : u8b (b4 x ++ r) = u8b (b4 y ++ t)) : x = y := by
  have e := congrArg List.head? h
  rw [u8b_head hx hx1, u8b_head hy hy1] at e
  have e2 := congrArg UInt8.toNat (Option.some.inj e)
  simp at e2
  omega
/-- a round tells no less apart -/
theorem ptK_fine {x : Dfa} {M : Nat → Bool} {n j : Nat} (hn : n ≤ 200) {s t : Nat} (hs : s < n) (ht : t < n) (hms : M s = true) (hmt : M t = true) (h : ptK x M n (j + 1) s = ptK x M n (j + 1) t) : ptK x M n j s = ptK x M n j t := by
  have r1 := numP_range (M := M) (k := ptK x M n j) hs
  have r2 := numP_range (M := M) (k := ptK x M n j) ht
  have n1 : ¬ numP M (ptK x M n j) n s < 0 := fun e => by rw [numP_neg] at e; rw [hms] at e; cases e
  have n2 : ¬ numP M (ptK x M n j) n t < 0 := fun e => by rw [numP_neg] at e; rw [hmt] at e; cases e
  have h1 : numP M (ptK x M n j) n s = numP M (ptK x M n j) n t := by
    simp only [ptK, kkB, keyTo] at h
    exact head_inj (by omega) (by omega) (by omega) (by omega) h
  exact (numP_eq hs ht hms hmt).1 h1
theorem ptC_mono {x : Dfa} {M : Nat → Bool} {n : Nat} (hn : n ≤ 200) (j : Nat) : ptC x M n j ≤ ptC x M n (j + 1) := by
  have hst : ∀ b, ∃ i, b ∈ seenTo M (ptK x M n j) n → i < n ∧ M i = true ∧ ptK x M n j i = b := fun b => by
    by_cases h : b ∈ seenTo M (ptK x M n j) n
    · obtain ⟨i, hi⟩ := seenTo_from h
      exact ⟨i, fun _ => hi⟩
    · exact ⟨0, fun h2 => absurd h2 h⟩
  obtain ⟨f, hf⟩ := Classical.axiomOfChoice hst
  have h := nodup_sub ((seenTo M (ptK x M n j) n).map fun b => ptK x M n (j + 1) (f b)) (seenTo M (ptK x M n (j + 1)) n) (by
    refine List.pairwise_map.2 (List.Pairwise.imp_of_mem (fun {a b} ha hb hne e => hne ?_) (seenTo_nodup (M := M) (k := ptK x M n j) (s := n)))
    obtain ⟨h1, h2, h3⟩ := hf a ha
    obtain ⟨h4, h5, h6⟩ := hf b hb
    rw [← h3, ← h6]
    exact ptK_fine hn h1 h4 h2 h5 e) (fun a ha => by
    rw [List.mem_map] at ha
    obtain ⟨b, hb, rfl⟩ := ha
    obtain ⟨h1, h2, h3⟩ := hf b hb
    exact seenTo_mem h1 h2)
  rw [List.length_map] at h
  exact h
end Df
end Go.Proofs.Ytclpmmbclgihbaa
namespace Go.Proofs.Ytclpmmbclgihbaa
open Go.RowKit
namespace Cl
open Df Lr

def closedD (f : List Int → Bool) (T : List (List Int)) (k : Nat) (A0 : List (List Int)) (N : Nat) : Dfa := ⟨0, accsA f T k A0 N, rowsA f T k A0 N⟩
section
variable {f : List Int → Bool} {T : List (List Int)} {k : Nat} {A0 : List (List Int)} {N : Nat}
theorem disc_reach (h200 : (discA f T k A0 N).length ≤ N) {q : Nat} (hq : q < (discA f T k A0 N).length) : q < (discA f T k A0 q).length := by
  by_cases h : q < (discA f T k A0 q).length
  · exact h
  · have e := discA_end (f := f) (T := T) (k := k) (A0 := A0) (i := q) (by omega) (j := N) (by omega)
    rw [e] at hq
    omega
theorem disc_closed (h200 : (discA f T k A0 N).length ≤ N) {u : List Int} (hu : u ∈ discA f T k A0 N) {c : Nat} (hc : c < k) : rwT f T (u ++ [(c : Int)]) ∈ ks f T (discA f T k A0 N) := by
  obtain ⟨q, hq, e⟩ := List.getElem_of_mem hu
  exact discA_known N q (by omega) u (by rw [List.getElem?_eq_getElem hq, e]) (disc_reach h200 hq) c hc
theorem rows_200 (h200 : (discA f T k A0 N).length ≤ N) : rowsA f T k A0 N = (discA f T k A0 N).map (rowA f T k (discA f T k A0 N)) ∧ accsA f T k A0 N = (discA f T k A0 N).map fun u => if f u then 0 else -1 := by
  unfold rowsA accsA
  rw [List.take_of_length_le h200]
  exact ⟨rfl, rfl⟩
theorem ks_len (A : List (List Int)) : (ks f T A).length = A.length := by unfold ks; rw [List.length_map]
theorem closed_right (hA : OkA f T k A0) (h0 : 0 < A0.length) (hBD : ∀ A, OkA f T k A → A.length ≤ N) (hN : N ≤ 200) (hk : 1 ≤ k ∧ k ≤ 16) :
    Right (closedD f T k A0 N) ∧ Full (closedD f T k A0 N) ∧ (closedD f T k A0 N).width = k ∧ (closedD f T k A0 N).next.length = (discA f T k A0 N).length ∧ (closedD f T k A0 N).acc.length = (discA f T k A0 N).length := by
  have h200 := hBD _ (discA_ok hA N)
  obtain ⟨e1, e2⟩ := rows_200 h200
  have hp := (discA_to (f := f) (T := T) (k := k) (A0 := A0) (i := 0) (j := N) (by omega)).length_le
  have hpos : 0 < (discA f T k A0 N).length := Nat.lt_of_lt_of_le h0 hp
  have hn : (closedD f T k A0 N).next = (discA f T k A0 N).map (rowA f T k (discA f T k A0 N)) := e1
  have ha : (closedD f T k A0 N).acc = (discA f T k A0 N).map fun u => if f u then 0 else -1 := e2
  have hw : (closedD f T k A0 N).width = k := by
    unfold Dfa.width
    rw [hn]
    cases hd : discA f T k A0 N with
    | nil => rw [hd] at hpos; simp at hpos
    | cons u l => simp [rowA]
  have hv : ∀ r ∈ (closedD f T k A0 N).next, ∀ v ∈ r, 0 ≤ v ∧ v < (discA f T k A0 N).length := by
    intro r hr v hv
    rw [hn, List.mem_map] at hr
    obtain ⟨u, hu, rfl⟩ := hr
    unfold rowA at hv
    rw [List.mem_map] at hv
    obtain ⟨c, hc, rfl⟩ := hv
    rw [List.mem_range] at hc
    have h1 := List.idxOf_lt_length_of_mem (disc_closed h200 hu hc)
    rw [ks_len] at h1
    unfold valA
    omega
  refine ⟨⟨?_, ?_, ?_, ?_, ?_, ?_, ?_⟩, fun r hr v hv' => (hv r hr v hv').1, hw, by rw [hn, List.length_map], by rw [ha, List.length_map]⟩
  · rw [hn, List.length_map]; omega
  · rw [hn, ha, List.length_map, List.length_map]
  · rw [hw]; omega
  · intro r hr
    rw [hw]
    rw [hn, List.mem_map] at hr
    obtain ⟨u, hu, rfl⟩ := hr
    simp [rowA]
  · rw [hn, List.length_map]
    show (0 : Int) ≤ 0 ∧ (0 : Int) < _
    omega
  · intro v hv
    rw [ha, List.mem_map] at hv
    obtain ⟨u, hu, rfl⟩ := hv
    split <;> omega
  · intro r hr v hv'
    have := hv r hr v hv'
    rw [hn, List.length_map]
    omega
theorem idx_at {A : List (List Int)} {v : List Int} (h : rwT f T v ∈ ks f T A) : ∃ a, A[(ks f T A).idxOf (rwT f T v)]? = some a ∧ rwT f T a = rwT f T v := by
  have hl := List.idxOf_lt_length_of_mem h
  have h1 : (ks f T A)[(ks f T A).idxOf (rwT f T v)]? = some (rwT f T v) := by rw [List.getElem?_eq_getElem hl, List.getElem_idxOf hl]
  generalize (ks f T A).idxOf (rwT f T v) = i at h1 ⊢
  unfold ks at h1
  rw [List.getElem?_map] at h1
  cases ha : A[i]? with
  | none => rw [ha] at h1; simp at h1
  | some a => rw [ha] at h1; simp at h1; exact ⟨a, rfl, h1⟩
end
theorem ok1 (f : List Int → Bool) (k : Nat) : OkA f [[]] k [[]] := ⟨by simp [ks], fun u hu => by simp at hu; subst hu; simp, fun u hu y hy => by simp at hu; subst hu; cases hy⟩
end Cl
end Go.Proofs.Ytclpmmbclgihbaa
namespace Go.Proofs.Ytclpmmbclgihbaa
open Go.RowKit
namespace Df

/-- is there nothing behind t -/
def deadP (P : Nat → Int) (t : Int) : Prop := t < 0 ∨ P t.toNat < 0
instance (P : Nat → Int) (t : Int) : Decidable (deadP P t) := by unfold deadP; infer_instance
def stepS (P : Nat → Int) (S : List Nat) (t : Int) : List Nat := if deadP P t ∨ P t.toNat ∈ S.map P then S else S ++ [t.toNat]
def valS (P : Nat → Int) (S : List Nat) (t : Int) : Int := if deadP P t then -1 else ((S.map P).idxOf (P t.toNat) : Int)
/-- the states that have come up when i of them have been walked -/
def disc (x : Dfa) (P : Nat → Int) : Nat → List Nat
  | 0 => [x.start.toNat]
  | i + 1 => match (disc x P i)[i]? with
    | none => disc x P i
    | some s => (x.next.getD s []).foldl (stepS P) (disc x P i)
structure DiscOk (x : Dfa) (P : Nat → Int) (n : Nat) (S : List Nat) : Prop where
  lt : ∀ s ∈ S, s < n ∧ 0 ≤ P s ∧ P s < n
  nd : (S.map P).Nodup
theorem DiscOk.len {x : Dfa} {P : Nat → Int} {n : Nat} {S : List Nat} (h : DiscOk x P n S) : S.length ≤ n := by
  have h2 := nodup_sub (S.map P) ((List.range n).map Int.ofNat) h.nd (fun a ha => by
    rw [List.mem_map] at ha
    obtain ⟨s, hs, rfl⟩ := ha
    have := h.lt s hs
    rw [List.mem_map]
    exact ⟨(P s).toNat, by rw [List.mem_range]; omega, by show ((P s).toNat : Int) = _; omega⟩)
  simp at h2
  exact h2
theorem stepS_prefix (P : Nat → Int) (S : List Nat) (t : Int) : S <+: stepS P S t := by
  unfold stepS
  split
  · exact List.prefix_refl _
  · exact List.prefix_append _ _
theorem foldS_prefix (P : Nat → Int) : ∀ (r : List Int) (S : List Nat), S <+: r.foldl (stepS P) S
  | [], S => List.prefix_refl _
  | t :: r, S => (stepS_prefix P S t).trans (foldS_prefix P r (stepS P S t))
theorem stepS_ok {x : Dfa} {P : Nat → Int} {n : Nat} {S : List Nat} {t : Int} (hP : ∀ k, k < n → P k < n) (ht : t < n) (h : DiscOk x P n S) : DiscOk x P n (stepS P S t) := by
  unfold stepS
  split
  · exact h
  · rename_i hc
    have h1 : ¬ deadP P t := fun e => hc (.inl e)
    have h2 : P t.toNat ∉ S.map P := fun e => hc (.inr e)
    unfold deadP at h1
    refine ⟨fun s hs => ?_, ?_⟩
    · rcases List.mem_append.1 hs with hs | hs
      · exact h.lt s hs
      · simp at hs
        subst hs
        have := hP t.toNat (by omega)
        omega
    · rw [List.map_append]
      exact List.nodup_append.2 ⟨h.nd, by simp, fun a ha b hb e => by simp at hb; subst hb; subst e; exact h2 ha⟩
theorem stepS_mem {P : Nat → Int} {S : List Nat} {t : Int} (h : ¬ deadP P t) : P t.toNat ∈ (stepS P S t).map P := by
  unfold stepS
  split
  · rename_i hc
    rcases hc with hc | hc
    · exact absurd hc h
    · exact hc
  · simp
/-- a value stays when more states come up -/
theorem valS_prefix {P : Nat → Int} {S S' : List Nat} {t : Int} (hp : S <+: S') (h : deadP P t ∨ P t.toNat ∈ S.map P) : valS P S' t = valS P S t := by
  unfold valS
  by_cases hd : deadP P t
  · rw [if_pos hd, if_pos hd]
  · rw [if_neg hd, if_neg hd]
    rcases h with h | h
    · exact absurd h hd
    · obtain ⟨u, rfl⟩ := hp
      rw [List.map_append, List.idxOf_append, if_pos h]
theorem foldS_ok {x : Dfa} {P : Nat → Int} {n : Nat} (hP : ∀ k, k < n → P k < n) : ∀ (r : List Int) (S : List Nat), (∀ t ∈ r, t < n) → DiscOk x P n S → DiscOk x P n (r.foldl (stepS P) S)
  | [], _, _, h => h
  | t :: r, S, hr, h => foldS_ok hP r _ (fun u hu => hr u (List.mem_cons_of_mem _ hu)) (stepS_ok hP (hr t List.mem_cons_self) h)
theorem disc_prefix (x : Dfa) (P : Nat → Int) (i : Nat) : disc x P i <+: disc x P (i + 1) := by
  show _ <+: (match (disc x P i)[i]? with | none => _ | some s => _)
  cases (disc x P i)[i]? with
  | none => exact List.prefix_refl _
  | some s => exact foldS_prefix _ _ _
theorem disc_to (x : Dfa) (P : Nat → Int) {i : Nat} : ∀ {j : Nat}, i ≤ j → disc x P i <+: disc x P j
  | 0, h => by rw [show i = 0 by omega]; exact List.prefix_refl _
  | j + 1, h => by
    by_cases e : i = j + 1
    · subst e; exact List.prefix_refl _
    · exact (disc_to x P (j := j) (by omega)).trans (disc_prefix x P j)
theorem disc_end (x : Dfa) (P : Nat → Int) {i : Nat} (h : (disc x P i).length ≤ i) : ∀ {j : Nat}, i ≤ j → disc x P j = disc x P i
  | 0, h2 => by rw [show i = 0 by omega]
  | j + 1, h2 => by
    by_cases e : i = j + 1
    · rw [e]
    · have ih := disc_end x P h (j := j) (by omega)
      show (match (disc x P j)[j]? with | none => _ | some s => _) = _
      rw [ih, List.getElem?_eq_none (by omega)]
end Df
end Go.Proofs.Ytclpmmbclgihbaa
namespace Go.Proofs.Ytclpmmbclgihbaa
open Go.RowKit
namespace Df

/-- t is known: dead, or its part has come up -/
def known (P : Nat → Int) (S : List Nat) (t : Int) : Prop := deadP P t ∨ P t.toNat ∈ S.map P
theorem known_prefix {P : Nat → Int} {S S' : List Nat} {t : Int} (hp : S <+: S') (h : known P S t) : known P S' t := by
  rcases h with h | h
  · exact .inl h
  · obtain ⟨u, rfl⟩ := hp
    exact .inr (by rw [List.map_append]; exact List.mem_append.2 (.inl h))
theorem known_step (P : Nat → Int) (S : List Nat) (t : Int) : known P (stepS P S t) t := by
  by_cases h : deadP P t
  · exact .inl h
  · exact .inr (stepS_mem h)
theorem known_fold (P : Nat → Int) : ∀ (r : List Int) (S : List Nat) (t : Int), t ∈ r → known P (r.foldl (stepS P) S) t
  | t' :: r, S, t, h => by
    rcases List.mem_cons.1 h with rfl | h
    · exact known_prefix (foldS_prefix P r _) (known_step P S t)
    · exact known_fold P r _ t h
/-- the row of a state, by what has come up -/
def rowC (x : Dfa) (P : Nat → Int) (S : List Nat) (s : Nat) : List Int := (x.next.getD s []).map (valS P S)
theorem rowC_prefix {x : Dfa} {P : Nat → Int} {S S' : List Nat} {s : Nat} (hp : S <+: S') (h : ∀ t ∈ x.next.getD s [], known P S t) : rowC x P S' s = rowC x P S s := by
  unfold rowC
  exact List.map_congr_left fun t ht => valS_prefix hp (h t ht)
theorem take_prefix {α : Type} {S S' : List α} (hp : S <+: S') {i : Nat} (hi : i ≤ S.length) : S'.take i = S.take i := by
  obtain ⟨u, rfl⟩ := hp
  rw [List.take_append_of_le_length hi]
theorem get_prefix {α : Type} {S S' : List α} (hp : S <+: S') {i : Nat} {s : α} (h : S[i]? = some s) : S'[i]? = some s := by
  obtain ⟨u, rfl⟩ := hp
  have := (List.getElem?_eq_some_iff.1 h).1
  rw [List.getElem?_append_left this]; exact h
/-- behind i rows: what the walked states' symbols lead to is known -/
theorem disc_known (x : Dfa) (P : Nat → Int) : ∀ (i q : Nat), q < i → ∀ s, (disc x P i)[q]? = some s → q < (disc x P q).length → ∀ t ∈ x.next.getD s [], known P (disc x P i) t
  | 0, q, h, _, _, _ => by omega
  | i + 1, q, h, s, hs, hl => by
    intro t ht
    have hs' : (disc x P q)[q]? = some ((disc x P q)[q]'hl) := List.getElem?_eq_getElem hl
    have e1 := get_prefix (disc_to x P (i := q) (j := i + 1) (by omega)) hs'
    rw [e1] at hs
    cases hs
    by_cases e : q = i
    · subst e
      show known P (match (disc x P q)[q]? with | none => _ | some s => _) t
      rw [hs']
      exact known_fold P _ _ t ht
    · exact known_prefix (disc_prefix x P i) (disc_known x P i q (by omega) _ (get_prefix (disc_to x P (i := q) (j := i) (by omega)) hs') hl t ht)
/-- the rows so far -/
def rowsC (x : Dfa) (P : Nat → Int) (i : Nat) : List (List Int) := ((disc x P i).take i).map (rowC x P (disc x P i))
def accsC (x : Dfa) (P : Nat → Int) (i : Nat) : List Int := ((disc x P i).take i).map fun s => x.acc.getD s 0
theorem rowsC_next {x : Dfa} {P : Nat → Int} {i s : Nat} (hal : ∀ q, q < i → q < (disc x P q).length) (h : (disc x P i)[i]? = some s) : rowsC x P (i + 1) = rowsC x P i ++ [rowC x P (disc x P (i + 1)) s] := by
  have hp := disc_prefix x P i
  have h1 := get_prefix hp h
  obtain ⟨hl, e1⟩ := List.getElem?_eq_some_iff.1 h
  obtain ⟨hl1, e2⟩ := List.getElem?_eq_some_iff.1 h1
  unfold rowsC
  rw [List.take_succ_eq_append_getElem hl1, List.map_append, take_prefix hp (Nat.le_of_lt hl), e2]
  refine congrArg (· ++ _) (List.map_congr_left fun s' hs' => ?_)
  obtain ⟨q, hq, e3⟩ := List.getElem_of_mem hs'
  rw [List.length_take] at hq
  rw [List.getElem_take] at e3
  exact rowC_prefix hp (disc_known x P i q (by omega) s' (by rw [List.getElem?_eq_getElem (by omega), e3]) (hal q (by omega)))
theorem accsC_next {x : Dfa} {P : Nat → Int} {i s : Nat} (h : (disc x P i)[i]? = some s) : accsC x P (i + 1) = accsC x P i ++ [x.acc.getD s 0] := by
  have hp := disc_prefix x P i
  have h1 := get_prefix hp h
  obtain ⟨hl, e1⟩ := List.getElem?_eq_some_iff.1 h
  obtain ⟨hl1, e2⟩ := List.getElem?_eq_some_iff.1 h1
  unfold accsC
  rw [List.take_succ_eq_append_getElem hl1, List.map_append, take_prefix hp (Nat.le_of_lt hl), e2]
  rfl
/-- the canonical automaton, by the parts -/
def canonD (x : Dfa) (P : Nat → Int) (n : Nat) : Dfa := if P x.start.toNat < 0 then ⟨0, [-1], [List.replicate x.width (-1)]⟩ else ⟨0, accsC x P n, rowsC x P n⟩
theorem rowsC_end {x : Dfa} {P : Nat → Int} {i n : Nat} (h : (disc x P i).length ≤ i) (hi : i ≤ n) : rowsC x P n = rowsC x P i ∧ accsC x P n = accsC x P i := by
  have e := disc_end x P h hi
  unfold rowsC accsC
  rw [e, List.take_of_length_le (by omega), List.take_of_length_le h]
  exact ⟨rfl, rfl⟩
end Df
end Go.Proofs.Ytclpmmbclgihbaa
namespace Go.Proofs.Ytclpmmbclgihbaa
open Go.RowKit
namespace Df

end Df
end Go.Proofs.Ytclpmmbclgihbaa
namespace Go.Proofs.Ytclpmmbclgihbaa
namespace Al

/-- the least cost, all ways tried -/
def wl (c0 c1 c2 : Int) : List Int → List Int → Int
  | [], [] => 0
  | _ :: w, [] => min (((w.length : Int) + 1) * c1) (wl c0 c1 c2 w [] + c1)
  | [], _ :: v => min (((v.length : Int) + 1) * c0) (wl c0 c1 c2 [] v + c0)
  | x :: w, y :: v => min (min (min (((w.length : Int) + 1) * c1 + ((v.length : Int) + 1) * c0) (wl c0 c1 c2 w (y :: v) + c1)) (wl c0 c1 c2 (x :: w) v + c0)) (wl c0 c1 c2 w v + if x = y then 0 else c2)
termination_by w v => w.length + v.length
/-- the least cost, as the table has it -/
def al (c0 c1 c2 : Int) : List Int → List Int → Int
  | [], v => (v.length : Int) * c0
  | _ :: w, [] => ((w.length : Int) + 1) * c1
  | x :: w, y :: v => if x = y then al c0 c1 c2 w v else min (min (al c0 c1 c2 w v + c2) (al c0 c1 c2 w (y :: v) + c1)) (al c0 c1 c2 (x :: w) v + c0)
termination_by w v => w.length + v.length

section
variable {c0 c1 c2 : Int}
end

/-- an operation: kind, at, term -/
structure Op where
  kind : Int
  at' : Int
  term : Int
  deriving DecidableEq
def ops (c0 c1 c2 : Int) : Nat → List Int → List Int → List Op
  | _, [], [] => []
  | i, x :: w, [] => ⟨2, i, x⟩ :: ops c0 c1 c2 (i + 1) w []
  | i, [], y :: v => ⟨1, i, y⟩ :: ops c0 c1 c2 i [] v
  | i, x :: w, y :: v => if x = y then ⟨0, i, x⟩ :: ops c0 c1 c2 (i + 1) w v
    else if al c0 c1 c2 w v + c2 = al c0 c1 c2 (x :: w) (y :: v) then ⟨3, i, y⟩ :: ops c0 c1 c2 (i + 1) w v
    else if al c0 c1 c2 w (y :: v) + c1 = al c0 c1 c2 (x :: w) (y :: v) then ⟨2, i, x⟩ :: ops c0 c1 c2 (i + 1) w (y :: v)
    else ⟨1, i, y⟩ :: ops c0 c1 c2 i (x :: w) v
termination_by _ w v => w.length + v.length
/-- operations performed on what is left of a word -/
def run : List Int → Nat → List Op → Option (List Int)
  | rest, _, [] => if rest = [] then some [] else none
  | rest, i, o :: l => if o.at' ≠ i ∨ o.kind < 0 ∨ 3 < o.kind ∨ (o.kind ≠ 1 ∧ rest = []) then none
    else if o.kind = 1 then (run rest i l).map fun t => o.term :: t
    else match rest with
      | [] => none
      | x :: r => (run r (i + 1) l).map fun t => (if o.kind = 0 then [x] else if o.kind = 3 then [o.term] else []) ++ t

theorem nodup_le {α : Type} [BEq α] [LawfulBEq α] : ∀ (l m : List α), l.Nodup → (∀ x ∈ l, x ∈ m) → l.length ≤ m.length
  | [], m, _, _ => by simp
  | a :: l, m, hn, hs => by
    have ha := hs a List.mem_cons_self
    rw [List.nodup_cons] at hn
    have := nodup_le l (m.erase a) hn.2 fun x hx => by
      have hne : x ≠ a := fun e => hn.1 (e ▸ hx)
      exact (List.mem_erase_of_ne hne).2 (hs x (List.mem_cons_of_mem _ hx))
    rw [List.length_erase_of_mem ha] at this
    have : 0 < m.length := List.length_pos_of_mem ha
    simp; omega
end Al
end Go.Proofs.Ytclpmmbclgihbaa
namespace Go.Proofs.Ytclpmmbclgihbaa
open Go.RowKit
namespace Df

def klD (x y : Int) : Lit := .string (keyBytes [.int .i64 x, .int .i64 y])
def sm (x : Int) : Prop := -1 ≤ x ∧ x ≤ 200
abbrev It := (Int × Int) × List Nat
open Classical in
noncomputable def inP (L : List It) (l : Lit) : Bool := L.any fun p => decide (klD p.1.1 p.1.2 = l)
open Classical in
theorem inP_same (L : List It) (q : It) : inP (L ++ [q]) (klD q.1.1 q.1.2) = true := by
  unfold inP
  rw [List.any_append]
  simp
open Classical in
theorem inP_other (L : List It) (q : It) {l : Lit} (h : l ≠ klD q.1.1 q.1.2) : inP (L ++ [q]) l = inP L l := by
  unfold inP
  rw [List.any_append]
  have : (decide (klD q.1.1 q.1.2 = l)) = false := by simp; exact fun e => h e.symm
  simp [this]

structure Nd where
  x : Int
  y : Int
  fr : Int
  sym : Int
/-- the nodes are the search's items; each tells where it came from -/
structure Lk (M : List Nd) (L : List It) : Prop where
  len : M.length = L.length
  at' : ∀ (j : Nat) (m : Nd) (p : It), M[j]? = some m → L[j]? = some p → m.x = p.1.1 ∧ m.y = p.1.2 ∧ ((m.fr = -1 ∧ p.2 = []) ∨ ∃ (f s : Nat) (q : It), m.fr = (f : Int) ∧ f < j ∧ L[f]? = some q ∧ m.sym = (s : Int) ∧ p.2 = q.2 ++ [s])
theorem Lk.start (a b : Int) : Lk [⟨a, b, -1, -1⟩] [((a, b), [])] := ⟨rfl, fun j m p h1 h2 => by
  cases j with
  | zero => simp at h1 h2; subst h1 h2; exact ⟨rfl, rfl, .inl ⟨rfl, rfl⟩⟩
  | succ j => simp at h1⟩
theorem Lk.add {M : List Nd} {L : List It} (h : Lk M L) {i : Nat} {p : It} (hi : L[i]? = some p) (k : Int × Int) (c : Nat) : Lk (M ++ [⟨k.1, k.2, (i : Int), (c : Int)⟩]) (L ++ [(k, p.2 ++ [c])]) := by
  have hil := (List.getElem?_eq_some_iff.1 hi).1
  have hlen := h.len
  refine ⟨by simp [h.len], fun j m q h1 h2 => ?_⟩
  by_cases hj : j < L.length
  · rw [List.getElem?_append_left (by omega)] at h1
    rw [List.getElem?_append_left hj] at h2
    obtain ⟨k1, k2, k3⟩ := h.at' j m q h1 h2
    refine ⟨k1, k2, k3.imp id ?_⟩
    rintro ⟨f, s, r, a1, a2, a3, a4, a5⟩
    exact ⟨f, s, r, a1, a2, by rw [List.getElem?_append_left (by omega)]; exact a3, a4, a5⟩
  · have hj2 : j = L.length := by
      have := (List.getElem?_eq_some_iff.1 h2).1
      simp at this; omega
    subst hj2
    rw [← hlen, List.getElem?_concat_length] at h1
    rw [List.getElem?_concat_length] at h2
    cases h1; cases h2
    exact ⟨rfl, rfl, .inr ⟨i, c, p, rfl, hil, by rw [List.getElem?_append_left hil]; exact hi, rfl, rfl⟩⟩

theorem start_in {x : Dfa} (hx : Right x) : inS x x.start := ⟨by have := hx.start; omega, hx.start.2⟩
/-- an automaton whose results are 0 and -1 -/
def Flat (x : Dfa) : Prop := ∀ v ∈ x.acc, v ≤ 0
end Df
end Go.Proofs.Ytclpmmbclgihbaa
namespace Go.Proofs.Ytclpmmbclgihbaa
open Go.RowKit
namespace Df

def rn (x : Dfa) (s : Int) (u : List Nat) : Int := u.foldl (toS x) s
def lg (x : Dfa) (s : Int) (u : List Nat) : Bool := goodS x (rn x s u)
/-- two states of one language -/
def SameL (x y : Dfa) (s t : Int) : Prop := ∀ u, Bf.over x.width u → lg x s u = lg y t u
theorem rn_cons (x : Dfa) (s : Int) (c : Nat) (u : List Nat) : rn x s (c :: u) = rn x (toS x s c) u := rfl
theorem lg_cons (x : Dfa) (s : Int) (c : Nat) (u : List Nat) : lg x s (c :: u) = lg x (toS x s c) u := rfl
theorem rn_dead (x : Dfa) : ∀ (u : List Nat) {s : Int}, s < 0 → rn x s u < 0
  | [], _, h => h
  | c :: u, s, h => by rw [rn_cons, toS_dead x h]; exact rn_dead x u (by decide)
theorem lg_dead (x : Dfa) {s : Int} (h : s < 0) (u : List Nat) : lg x s u = false := by
  unfold lg goodS
  have := rn_dead x u h
  simp; intro h2; omega
theorem toS_edge {x : Dfa} {s : Nat} {c : Nat} {v : Int} (h : edge x s c = some v) : toS x (s : Int) c = v := by
  unfold edge at h
  unfold toS
  rw [if_neg (by omega), Int.toNat_natCast]
  cases hr : x.next[s]? with
  | none => rw [hr] at h; cases h
  | some r => rw [hr] at h; simp at h; simp [h]
theorem edge_toS {x : Dfa} (hx : Right x) {s c : Nat} (hs : s < x.next.length) (hc : c < x.width) : edge x s c = some (toS x (s : Int) c) := by
  have hl := hx.rows _ (List.getElem_mem hs)
  have h := edge_at hs (c := c) (by omega)
  rw [h, toS_edge h]
/-- live: a word is accepted -/
theorem liv_lg {x : Dfa} (hx : Right x) {s : Nat} (h : Liv x s) : ∃ u, Bf.over x.width u ∧ lg x (s : Int) u = true := by
  induction h with
  | @acc s a h1 h2 =>
    refine ⟨[], fun c hc => (by cases hc), ?_⟩
    show goodS x (s : Int) = true
    unfold goodS
    rw [Int.toNat_natCast, h1]
    simp; omega
  | @step s c t h1 _ ih =>
    obtain ⟨u, hu, hl⟩ := ih
    have hs := edge_lt h1
    have hc : c < x.width := by
      by_cases hc : c < x.width
      · exact hc
      · have hl := hx.rows _ (List.getElem_mem hs)
        rw [edge_none hs (by omega)] at h1; cases h1
    refine ⟨c :: u, fun d hd => ?_, ?_⟩
    · rcases List.mem_cons.1 hd with rfl | hd
      · exact hc
      · exact hu d hd
    · rw [lg_cons, toS_edge h1]; exact hl
theorem lg_liv {x : Dfa} (hx : Right x) : ∀ (u : List Nat) (s : Nat), s < x.next.length → Bf.over x.width u → lg x (s : Int) u = true → Liv x s
  | [], s, hs, _, h => by
    unfold lg goodS at h
    rw [show rn x (s : Int) [] = (s : Int) from rfl, Int.toNat_natCast] at h
    have ha : s < x.acc.length := by rw [hx.accs]; exact hs
    rw [List.getElem?_eq_getElem ha] at h
    simp at h
    exact .acc (List.getElem?_eq_getElem ha) h
  | c :: u, s, hs, hu, h => by
    have hc := hu c List.mem_cons_self
    rw [lg_cons] at h
    have h1 := edge_toS hx hs hc
    have h2 := toS_in hx (s : Int) c
    unfold inS at h2
    by_cases hd : toS x (s : Int) c < 0
    · rw [lg_dead x hd] at h; cases h
    · obtain ⟨t, ht⟩ : ∃ t : Nat, toS x (s : Int) c = (t : Int) := ⟨(toS x (s : Int) c).toNat, by omega⟩
      rw [ht] at h h1 h2
      exact .step h1 (lg_liv hx u t (by omega) (fun d hd => hu d (List.mem_cons_of_mem _ hd)) h)
/-- what a partition that is stable gives -/
structure Stb (x : Dfa) (M : Nat → Bool) (P : Nat → Int) : Prop where
  dead : ∀ s, s < x.next.length → (P s < 0 ↔ ¬ Liv x s)
  neg : ∀ s, s < x.next.length → P s < 0 → P s = -1
  acc : ∀ s t, s < x.next.length → t < x.next.length → 0 ≤ P s → P s = P t → x.acc.getD s 0 = x.acc.getD t 0
  nxt : ∀ s t c, s < x.next.length → t < x.next.length → 0 ≤ P s → P s = P t → c < x.width → nb P (toS x (s : Int) c) = nb P (toS x (t : Int) c)
section
variable {x : Dfa} {M : Nat → Bool} {n j : Nat}
theorem seen_stable (hn : n ≤ 200) (hst : ptC x M n (j + 1) = ptC x M n j) {s t : Nat} (hs : s < n) (ht : t < n) (hms : M s = true) (hmt : M t = true) (h : ptK x M n j s = ptK x M n j t) : ptK x M n (j + 1) s = ptK x M n (j + 1) t := by
  by_cases hne : ptK x M n (j + 1) s = ptK x M n (j + 1) t
  · exact hne
  exfalso
  have hsel : ∀ b, ∃ i, b ∈ seenTo M (ptK x M n j) n → i < n ∧ M i = true ∧ ptK x M n j i = b := fun b => by
    by_cases h : b ∈ seenTo M (ptK x M n j) n
    · obtain ⟨i, hi⟩ := seenTo_from h
      exact ⟨i, fun _ => hi⟩
    · exact ⟨0, fun h2 => absurd h2 h⟩
  obtain ⟨f, hf⟩ := Classical.axiomOfChoice hsel
  have key : ∀ e : Nat, e < n → M e = true → ptK x M n j e = ptK x M n j s → ptK x M n (j + 1) e ≠ ptK x M n (j + 1) (f (ptK x M n j s)) → False := by
    intro e he hme hje hne2
    have h1 := nodup_sub (ptK x M n (j + 1) e :: (seenTo M (ptK x M n j) n).map fun b => ptK x M n (j + 1) (f b)) (seenTo M (ptK x M n (j + 1)) n) (by
      refine List.nodup_cons.2 ⟨fun hm => ?_, ?_⟩
      · rw [List.mem_map] at hm
        obtain ⟨b, hb, e1⟩ := hm
        obtain ⟨g1, g2, g3⟩ := hf b hb
        have h5 := ptK_fine hn g1 he g2 hme e1
        rw [g3, hje] at h5
        subst h5
        exact hne2 e1.symm
      · refine List.pairwise_map.2 (List.Pairwise.imp_of_mem (fun {a b} ha hb hne e => hne ?_) (seenTo_nodup (M := M) (k := ptK x M n j) (s := n)))
        obtain ⟨h1, h2, h3⟩ := hf a ha
        obtain ⟨h4, h5, h6⟩ := hf b hb
        rw [← h3, ← h6]
        exact ptK_fine hn h1 h4 h2 h5 e) (fun a ha => by
      rcases List.mem_cons.1 ha with rfl | ha
      · exact seenTo_mem he hme
      · rw [List.mem_map] at ha
        obtain ⟨b, hb, rfl⟩ := ha
        obtain ⟨h1, h2, h3⟩ := hf b hb
        exact seenTo_mem h1 h2)
    rw [List.length_cons, List.length_map] at h1
    unfold ptC at hst
    omega
  by_cases h1 : ptK x M n (j + 1) s = ptK x M n (j + 1) (f (ptK x M n j s))
  · exact key t ht hmt h.symm (fun e => hne (h1.trans e.symm))
  · exact key s hs hms rfl h1
theorem numP_m1 {k : Nat → List UInt8} {i : Nat} (h : M i = false) : numP M k n i = -1 := by unfold numP; rw [h]; simp
theorem ptK_zero (hn : n ≤ 200) {s t : Nat} (hs : s < n) (ht : t < n) (hms : M s = true) (hmt : M t = true) : ∀ j, ptK x M n j s = ptK x M n j t → ptK x M n 0 s = ptK x M n 0 t
  | 0, h => h
  | j + 1, h => ptK_zero hn hs ht hms hmt j (ptK_fine hn hs ht hms hmt h)
theorem b4_inj {a b : Int} (ha : -1 ≤ a ∧ a ≤ 200) (hb : -1 ≤ b ∧ b ≤ 200) {r t : List Int} (h : u8b (b4 a ++ r) = u8b (b4 b ++ t)) : a = b ∧ u8b r = u8b t := by
  unfold u8b at h ⊢
  simp only [List.map_append, b4, List.map_cons, List.map_nil, List.cons_append, List.nil_append, List.cons.injEq] at h
  obtain ⟨h1, h2, h3, h4, h5⟩ := h
  refine ⟨?_, h5⟩
  have e1 := congrArg UInt8.toNat h1
  have e2 := congrArg UInt8.toNat h2
  simp at e1 e2
  omega
theorem flat_inj {P : Nat → Int} (hP : ∀ t : Int, -1 ≤ nb P t ∧ nb P t ≤ 200) : ∀ (r q : List Int), r.length = q.length → u8b (r.flatMap fun t => b4 (nb P t)) = u8b (q.flatMap fun t => b4 (nb P t)) → r.map (nb P) = q.map (nb P)
  | [], [], _, _ => rfl
  | [], _ :: _, h, _ => by simp at h
  | _ :: _, [], h, _ => by simp at h
  | a :: r, b :: q, hl, h => by
    simp only [List.flatMap_cons] at h
    obtain ⟨h1, h2⟩ := b4_inj (hP a) (hP b) h
    rw [List.map_cons, List.map_cons, h1, flat_inj hP r q (by simpa using hl) h2]
/-- the numbers of the last round are stable -/
theorem stb_of (hx : Right x) (hf : Flat x) (hnn : x.next.length = n) (hM : ∀ s, M s = true ↔ Liv x s) (hst : ptC x M n (j + 1) = ptC x M n j) : Stb x M (ptI x M n (j + 1)) := by
  have hn : n ≤ 200 := by rw [← hnn]; exact hx.states.2
  have hlive : ∀ s (i : Nat), 0 ≤ ptI x M n i s → M s = true := fun s i h => by
    cases hm : M s with
    | true => rfl
    | false =>
      have := numP_m1 (n := n) (k := ptK x M n i) hm
      unfold ptI at h; omega
  have hrg : ∀ i s, s < n → -1 ≤ ptI x M n i s ∧ ptI x M n i s < n := fun i s hs => numP_range hs
  refine ⟨fun s hs => ?_, fun s hs h => ?_, fun s t hs ht h0 he => ?_, fun s t c hs ht h0 he hc => ?_⟩
  · unfold ptI
    rw [numP_neg, ← hM s]
    simp
  · unfold ptI at h ⊢
    exact numP_m1 (numP_neg.1 h)
  · rw [hnn] at hs ht
    have hms := hlive s _ h0
    have hmt := hlive t _ (he ▸ h0)
    have hk := (numP_eq hs ht hms hmt).1 he
    have h3 := ptK_zero hn hs ht hms hmt _ hk
    simp only [ptK, kkA] at h3
    have ha : ∀ q, q < n → -1 ≤ x.acc.getD q 0 ∧ x.acc.getD q 0 ≤ 200 := fun q hq => by
      have hq2 : q < x.acc.length := by rw [hx.accs, hnn]; exact hq
      rw [List.getD_eq_getElem?_getD, List.getElem?_eq_getElem hq2]
      have h1 := hx.acc _ (List.getElem_mem hq2)
      have h2 := hf _ (List.getElem_mem hq2)
      show -1 ≤ x.acc[q] ∧ x.acc[q] ≤ 200
      omega
    exact (b4_inj (r := []) (t := []) (ha s hs) (ha t ht) (by simpa using h3)).1
  · rw [hnn] at hs ht
    have hms := hlive s _ h0
    have hmt := hlive t _ (he ▸ h0)
    have hk := (numP_eq hs ht hms hmt).1 he
    -- what the last keys say
    have hP : ∀ v : Int, v < n → -1 ≤ nb (ptI x M n j) v ∧ nb (ptI x M n j) v ≤ 200 := fun v hv => by
      unfold nb
      split
      · omega
      · have := hrg j v.toNat (by omega); omega
    have hrow : ∀ q, q < n → (x.next.getD q []).length = x.width ∧ ∀ v ∈ x.next.getD q [], v < n := fun q hq => by
      have hq2 : q < x.next.length := by rw [hnn]; exact hq
      have e1 : x.next.getD q [] = x.next[q] := by rw [List.getD_eq_getElem?_getD, List.getElem?_eq_getElem hq2]; rfl
      rw [e1]
      refine ⟨hx.rows _ (List.getElem_mem hq2), fun v hv => ?_⟩
      have := (hx.next _ (List.getElem_mem hq2) v hv).2
      rw [hnn] at this; exact this
    obtain ⟨l1, b1⟩ := hrow s hs
    obtain ⟨l2, b2⟩ := hrow t ht
    have hmap : (x.next.getD s []).map (nb (ptI x M n j)) = (x.next.getD t []).map (nb (ptI x M n j)) := by
      have h3 : u8b (kkB x (ptI x M n j) s) = u8b (kkB x (ptI x M n j) t) := hk
      simp only [kkB, keyTo, List.take_length] at h3
      have r1 := hrg j s hs
      have r2 := hrg j t ht
      have h4 := (b4_inj (by omega) (by omega) h3).2
      -- values out of range do not come up: cut the function
      let P' : Nat → Int := fun q => if q < n then ptI x M n j q else -1
      have e1 : ∀ l : List Int, (∀ v ∈ l, v < n) → l.flatMap (fun v => b4 (nb (ptI x M n j) v)) = l.flatMap (fun v => b4 (nb P' v)) := by
        intro l hl
        induction l with
        | nil => rfl
        | cons a l ih =>
          rw [List.flatMap_cons, List.flatMap_cons, ih (fun v hv => hl v (List.mem_cons_of_mem _ hv))]
          have ha := hl a List.mem_cons_self
          have : nb (ptI x M n j) a = nb P' a := by
            unfold nb
            split
            · rfl
            · show _ = if a.toNat < n then _ else _
              rw [if_pos (by omega)]
          rw [this]
      have e2 : ∀ l : List Int, (∀ v ∈ l, v < n) → l.map (nb (ptI x M n j)) = l.map (nb P') := by
        intro l hl
        refine List.map_congr_left fun a ha => ?_
        have ha := hl a ha
        unfold nb
        split
        · rfl
        · show _ = if a.toNat < n then _ else _
          rw [if_pos (by omega)]
      rw [e1 _ b1, e1 _ b2] at h4
      rw [e2 _ b1, e2 _ b2]
      refine flat_inj (fun v => ?_) _ _ (by omega) h4
      unfold nb
      split
      · omega
      · show -1 ≤ (if v.toNat < n then _ else _) ∧ (if v.toNat < n then _ else _) ≤ (200 : Int)
        split
        · rename_i hv
          have := hrg j v.toNat hv
          omega
        · omega
    have hval : ∀ q, q < n → ∃ v, v ∈ x.next.getD q [] ∧ (x.next.getD q [])[c]? = some v ∧ toS x (q : Int) c = v := fun q hq => by
      have hq2 : q < x.next.length := by rw [hnn]; exact hq
      have e1 : x.next.getD q [] = x.next[q] := by rw [List.getD_eq_getElem?_getD, List.getElem?_eq_getElem hq2]; rfl
      have hc2 : c < x.next[q].length := by rw [hx.rows _ (List.getElem_mem hq2)]; exact hc
      refine ⟨x.next[q][c], by rw [e1]; exact List.getElem_mem hc2, by rw [e1]; exact List.getElem?_eq_getElem hc2, ?_⟩
      have := edge_at hq2 hc2
      exact toS_edge this
    obtain ⟨v, hv1, hv2, hv3⟩ := hval s hs
    obtain ⟨u, hu1, hu2, hu3⟩ := hval t ht
    have hvu : nb (ptI x M n j) v = nb (ptI x M n j) u := by
      have h5 := congrArg (fun l => l[c]?) hmap
      simp only [List.getElem?_map, hv2, hu2, Option.map_some] at h5
      exact Option.some.inj h5
    rw [hv3, hu3]
    have hvn := b1 v hv1
    have hun := b2 u hu1
    -- from round j to round j + 1
    have dn : ∀ i q, M q = false → ptI x M n i q = -1 := fun i q hq => numP_m1 hq
    have lv : ∀ i q, M q = true → 0 ≤ ptI x M n i q := fun i q hq => by
      have : ¬ ptI x M n i q < 0 := fun e => by unfold ptI at e; rw [numP_neg] at e; rw [hq] at e; cases e
      omega
    unfold nb at hvu ⊢
    by_cases hv0 : v < 0
    · rw [if_pos hv0] at hvu ⊢
      by_cases hu0 : u < 0
      · rw [if_pos hu0]
      · rw [if_neg hu0] at hvu ⊢
        cases hmu : M u.toNat with
        | false => exact (dn _ _ hmu).symm
        | true => have := lv j _ hmu; omega
    · rw [if_neg hv0] at hvu ⊢
      by_cases hu0 : u < 0
      · rw [if_pos hu0] at hvu ⊢
        cases hmv : M v.toNat with
        | false => exact dn _ _ hmv
        | true => have := lv j _ hmv; omega
      · rw [if_neg hu0] at hvu ⊢
        cases hmv : M v.toNat with
        | false =>
          cases hmu : M u.toNat with
          | false => rw [dn _ _ hmv, dn _ _ hmu]
          | true => have := lv j _ hmu; rw [dn _ _ hmv] at hvu; omega
        | true =>
          cases hmu : M u.toNat with
          | false => have := lv j _ hmv; rw [dn _ _ hmu] at hvu; omega
          | true =>
            have h6 := (numP_eq (by omega) (by omega) hmv hmu).1 hvu
            exact (numP_eq (by omega) (by omega) hmv hmu).2 (seen_stable hn hst (by omega) (by omega) hmv hmu h6)
end
end Df
end Go.Proofs.Ytclpmmbclgihbaa
namespace Go.Proofs.Ytclpmmbclgihbaa
open Go.RowKit
namespace Df

theorem seen_strict {k k' : Nat → List UInt8} {N : Nat} (hfine : ∀ s t, s < N → t < N → k' s = k' t → k s = k t) {s t : Nat} (hs : s < N) (ht : t < N) (he : k s = k t) (hne : k' s ≠ k' t) :
    (seenTo (fun _ => true) k N).length + 1 ≤ (seenTo (fun _ => true) k' N).length := by
  have hsel : ∀ b, ∃ i, b ∈ seenTo (fun _ => true) k N → i < N ∧ k i = b := fun b => by
    by_cases h : b ∈ seenTo (fun _ => true) k N
    · obtain ⟨i, h1, _, h2⟩ := seenTo_from h
      exact ⟨i, fun _ => ⟨h1, h2⟩⟩
    · exact ⟨0, fun h2 => absurd h2 h⟩
  obtain ⟨f, hf⟩ := Classical.axiomOfChoice hsel
  have key : ∀ e : Nat, e < N → k e = k s → k' e ≠ k' (f (k s)) → (seenTo (fun _ => true) k N).length + 1 ≤ (seenTo (fun _ => true) k' N).length := by
    intro e he hje hne2
    have h1 := nodup_sub (k' e :: (seenTo (fun _ => true) k N).map fun b => k' (f b)) (seenTo (fun _ => true) k' N) (by
      refine List.nodup_cons.2 ⟨fun hm => ?_, ?_⟩
      · rw [List.mem_map] at hm
        obtain ⟨b, hb, e1⟩ := hm
        obtain ⟨g1, g3⟩ := hf b hb
        have h5 := hfine _ _ g1 he e1
        rw [g3, hje] at h5
        subst h5
        exact hne2 e1.symm
      · refine List.pairwise_map.2 (List.Pairwise.imp_of_mem (fun {a b} ha hb hne e => hne ?_) (seenTo_nodup (M := fun _ => true) (k := k) (s := N)))
        obtain ⟨h1, h3⟩ := hf a ha
        obtain ⟨h4, h6⟩ := hf b hb
        rw [← h3, ← h6]
        exact hfine _ _ h1 h4 e) (fun a ha => by
      rcases List.mem_cons.1 ha with rfl | ha
      · exact seenTo_mem he rfl
      · rw [List.mem_map] at ha
        obtain ⟨b, hb, rfl⟩ := ha
        obtain ⟨h1, h3⟩ := hf b hb
        exact seenTo_mem h1 rfl)
    rw [List.length_cons, List.length_map] at h1
    exact h1
  by_cases h1 : k' s = k' (f (k s))
  · exact key t ht he.symm (fun e => hne (h1.trans e.symm))
  · exact key s hs rfl h1
/-- the words of at most d letters -/
def wl (k : Nat) : Nat → List (List Nat)
  | 0 => [[]]
  | d + 1 => [] :: (List.range k).flatMap fun c => (wl k d).map (c :: ·)
theorem wl_mem {k : Nat} : ∀ {d : Nat} {u : List Nat}, u ∈ wl k d ↔ Bf.over k u ∧ u.length ≤ d
  | 0, u => by
    simp only [wl, List.mem_singleton]
    constructor
    · rintro rfl; exact ⟨fun c hc => (by cases hc), by simp⟩
    · rintro ⟨_, h⟩; exact List.eq_nil_of_length_eq_zero (by omega)
  | d + 1, u => by
    simp only [wl, List.mem_cons, List.mem_flatMap, List.mem_map, List.mem_range]
    constructor
    · rintro (rfl | ⟨c, hc, v, hv, rfl⟩)
      · exact ⟨fun c hc => (by cases hc), by simp⟩
      · obtain ⟨h1, h2⟩ := (wl_mem (d := d)).1 hv
        exact ⟨fun e he => by rcases List.mem_cons.1 he with rfl | he; exact hc; exact h1 e he, by simp; omega⟩
    · rintro ⟨h1, h2⟩
      cases u with
      | nil => exact .inl rfl
      | cons c v =>
        refine .inr ⟨c, h1 c List.mem_cons_self, v, (wl_mem (d := d)).2 ⟨fun e he => h1 e (List.mem_cons_of_mem _ he), by simpa using h2⟩, rfl⟩
section
variable {x y : Dfa}
/-- the states of both, dead ones too, under one number -/
def lgI (x y : Dfa) (i : Nat) (u : List Nat) : Bool := if i ≤ x.next.length then lg x (if i = x.next.length then -1 else (i : Int)) u else lg y (if i - (x.next.length + 1) = y.next.length then -1 else ((i - (x.next.length + 1) : Nat) : Int)) u
def inX (x : Dfa) (a : Int) : Nat := if a < 0 then x.next.length else a.toNat
theorem lgI_x {a : Int} (h : inS x a) (u : List Nat) : inX x a < x.next.length + y.next.length + 2 ∧ lgI x y (inX x a) u = lg x a u := by
  unfold inS at h
  unfold inX lgI
  by_cases h0 : a < 0
  · rw [if_pos h0, if_pos (Nat.le_refl _), if_pos rfl]
    exact ⟨by omega, by rw [lg_dead x h0, lg_dead x (by decide)]⟩
  · rw [if_neg h0, if_pos (by omega), if_neg (by omega)]
    exact ⟨by omega, by rw [show ((a.toNat : Nat) : Int) = a by omega]⟩
theorem lgI_y {b : Int} (h : inS y b) (u : List Nat) : x.next.length + 1 + inX y b < x.next.length + y.next.length + 2 ∧ lgI x y (x.next.length + 1 + inX y b) u = lg y b u := by
  unfold inS at h
  unfold inX lgI
  by_cases h0 : b < 0
  · rw [if_pos h0, if_neg (by omega), if_pos (by omega)]
    exact ⟨by omega, by rw [lg_dead y h0, lg_dead y (by decide)]⟩
  · rw [if_neg h0, if_neg (by omega), if_neg (by omega)]
    exact ⟨by omega, by rw [show ((x.next.length + 1 + b.toNat - (x.next.length + 1) : Nat) : Int) = b by omega]⟩
def kI (x y : Dfa) (d i : Nat) : List UInt8 := (wl x.width d).map fun u => if lgI x y i u then 1 else 0
theorem kI_eq {d i j : Nat} : kI x y d i = kI x y d j ↔ ∀ u, Bf.over x.width u → u.length ≤ d → lgI x y i u = lgI x y j u := by
  unfold kI
  constructor
  · intro h u hu hl
    have h2 := List.map_inj_left.1 h u (wl_mem.2 ⟨hu, hl⟩)
    cases h3 : lgI x y i u <;> cases h4 : lgI x y j u <;> simp [h3, h4] at h2 ⊢
  · intro h
    refine List.map_congr_left fun u hu => ?_
    obtain ⟨h1, h2⟩ := wl_mem.1 hu
    rw [h u h1 h2]
theorem rn_in (hx : Right x) : ∀ (u : List Nat) {a : Int}, inS x a → inS x (rn x a u)
  | [], _, h => h
  | c :: u, a, _ => by rw [rn_cons]; exact rn_in hx u (toS_in hx a c)
theorem rn_app (x : Dfa) (a : Int) (p v : List Nat) : rn x a (p ++ v) = rn x (rn x a p) v := by unfold rn; rw [List.foldl_append]
theorem lg_app (x : Dfa) (a : Int) (p v : List Nat) : lg x a (p ++ v) = lg x (rn x a p) v := by unfold lg; rw [rn_app]
theorem short_bad (hx : Right x) (hy : Right y) {a b : Int} (ha : inS x a) (hb : inS y b) {u : List Nat} (hu : Bf.over x.width u) (hbad : lg x a u ≠ lg y b u) (hmin : ∀ v, Bf.over x.width v → lg x a v ≠ lg y b v → u.length ≤ v.length) :
    u.length ≤ x.next.length + y.next.length + 2 := by
  have hstep : ∀ d, d < u.length → (seenTo (fun _ => true) (kI x y d) (x.next.length + y.next.length + 2)).length + 1 ≤ (seenTo (fun _ => true) (kI x y (d + 1)) (x.next.length + y.next.length + 2)).length := by
    intro d hd
    obtain ⟨p, v, hpv, hvl⟩ : ∃ p v : List Nat, u = p ++ v ∧ v.length = d + 1 := ⟨u.take (u.length - (d + 1)), u.drop (u.length - (d + 1)), (List.take_append_drop _ _).symm, by rw [List.length_drop]; omega⟩
    have hp : Bf.over x.width p := fun c hc => hu c (by rw [hpv]; exact List.mem_append.2 (.inl hc))
    have hv : Bf.over x.width v := fun c hc => hu c (by rw [hpv]; exact List.mem_append.2 (.inr hc))
    have h1 := rn_in hx p ha
    have h2 := rn_in hy p hb
    refine seen_strict (s := inX x (rn x a p)) (t := x.next.length + 1 + inX y (rn y b p)) (fun s t hs ht h => ?_) (lgI_x (y := y) h1 []).1 (lgI_y (x := x) h2 []).1 ?_ ?_
    · rw [kI_eq] at h ⊢
      exact fun q hq hl => h q hq (by omega)
    · rw [kI_eq]
      intro q hq hl
      rw [(lgI_x h1 q).2, (lgI_y h2 q).2]
      by_cases e : lg x (rn x a p) q = lg y (rn y b p) q
      · exact e
      · have h3 := hmin (p ++ q) (fun c hc => by rcases List.mem_append.1 hc with h | h; exact hp c h; exact hq c h) (by rw [lg_app, lg_app]; exact e)
        rw [hpv, List.length_append, List.length_append] at h3
        omega
    · rw [Ne, kI_eq]
      intro h
      have h3 := h v hv (by omega)
      rw [(lgI_x h1 v).2, (lgI_y h2 v).2] at h3
      rw [hpv, lg_app, lg_app] at hbad
      exact hbad h3
  have hcnt : ∀ d, d ≤ u.length → d ≤ (seenTo (fun _ => true) (kI x y d) (x.next.length + y.next.length + 2)).length := by
    intro d
    induction d with
    | zero => intro _; omega
    | succ d ih =>
      intro h
      have := ih (by omega)
      have := hstep d (by omega)
      omega
  have h1 := hcnt u.length (Nat.le_refl _)
  have h2 := seenTo_len (M := fun _ => true) (k := kI x y u.length) (x.next.length + y.next.length + 2)
  omega
theorem run_rn : ∀ (u : List Nat) (a b : Int), Bf.run (stepP x y) (a, b) u = (rn x a u, rn y b u)
  | [], _, _ => rfl
  | c :: u, a, b => by
    show Bf.run (stepP x y) (stepP x y (a, b) c) u = _
    exact run_rn u (toS x a c) (toS y b c)
theorem bad_lg (a b : Int) (u : List Nat) : badP x y (Bf.run (stepP x y) (a, b) u) = true ↔ lg x a u ≠ lg y b u := by
  rw [run_rn]
  unfold badP lg
  simp
theorem leastW_len (hx : Right x) (hy : Right y) {u : List Nat} (h : LeastW x y u) : u.length ≤ x.next.length + y.next.length + 2 := by
  obtain ⟨h1, h2, h3⟩ := h
  refine short_bad hx hy ⟨by have := hx.start; omega, hx.start.2⟩ ⟨by have := hy.start; omega, hy.start.2⟩ h1 ((bad_lg _ _ _).1 h2) fun v hv hb => ?_
  rcases h3 v hv ((bad_lg _ _ _).2 hb) with e | e | e
  · rw [e]; exact Nat.le_refl _
  · omega
  · omega
/-- no word up to any length that matters: one language -/
theorem alike_of_far (hx : Right x) (hy : Right y) {N : Nat} (hN : x.next.length + y.next.length + 2 < N) (h : ∀ u, Bf.over x.width u → badP x y (Bf.run (stepP x y) (x.start, y.start) u) = true → N ≤ u.length) : SameL x y x.start y.start := by
  intro u hu
  by_cases e : lg x x.start u = lg y y.start u
  · exact e
  exfalso
  have hex : ∃ l, ∃ v, Bf.over x.width v ∧ lg x x.start v ≠ lg y y.start v ∧ v.length = l := ⟨u.length, u, hu, e, rfl⟩
  obtain ⟨l, ⟨v, hv, hb, hl⟩, hm⟩ : ∃ l, (∃ v, Bf.over x.width v ∧ lg x x.start v ≠ lg y y.start v ∧ v.length = l) ∧ ∀ l', (∃ v, Bf.over x.width v ∧ lg x x.start v ≠ lg y y.start v ∧ v.length = l') → l ≤ l' := by
    obtain ⟨l0, h0⟩ := hex
    induction l0 using Nat.strongRecOn with
    | ind l0 ih =>
      by_cases h1 : ∃ l', l' < l0 ∧ ∃ v, Bf.over x.width v ∧ lg x x.start v ≠ lg y y.start v ∧ v.length = l'
      · obtain ⟨l', h2, h3⟩ := h1
        exact ih l' h2 h3
      · exact ⟨l0, h0, fun l' h3 => by
          rcases Nat.lt_or_ge l' l0 with h4 | h4
          · exact absurd ⟨l', h4, h3⟩ h1
          · exact h4⟩
  have h1 := short_bad hx hy ⟨by have := hx.start; omega, hx.start.2⟩ ⟨by have := hy.start; omega, hy.start.2⟩ hv hb (fun q hq hqb => by
    have := hm q.length ⟨q, hq, hqb, rfl⟩
    omega)
  have h2 := h v hv ((bad_lg _ _ _).2 hb)
  omega
end
end Df
end Go.Proofs.Ytclpmmbclgihbaa
