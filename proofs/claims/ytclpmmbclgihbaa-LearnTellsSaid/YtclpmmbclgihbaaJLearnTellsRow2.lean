/- The contracts of the two functions that make keys in dfa.Parts. learn.key. Maps of one-cell values in memory, by what they have at a key: strings or numbers as keys. Rows of nested data of the call's own: append of one datum, of a slice of data. A region that draws its order: loads are taken first where their cells stay as they are until the tail begins. learner.member. learner.row. Plain: numbers by keys in order of their first coming (dfa.Parts). Plain: learner.close: the words that lead to different rows, in the order in which they come up. slices.Index, Contains, IndexFunc and ContainsFunc of whole numbers. The predicate of learner.wrong. -/
import Derived.Test.YtclpmmbclgihbaaJLearnTellsRow1
import Derived.Laws.BytesArg
import Derived.StillTailTactics
import Derived.Deep.RegionHeld3
import Derived.Deep.LoopGhost
import Derived.Deep.Cut
import Derived.Shelf.Abstract
namespace Go.Proofs.Ytclpmmbclgihbaa
open Go.RowKit
namespace Df

def u8b (l : List Int) : List UInt8 := l.map fun x => UInt8.ofNat x.toNat
theorem bts_nums (u : List Int) : Bts (strOfNums u) (u8b u) := by unfold Bts strOfNums u8b; simp
theorem conv_u8 {w : World} {B g n cap : Nat} {u : List Int} (h : w.ownsRow B 5 1 (.slice (some ⟨g, 0, none⟩) n cap) n (u8s u)) (hn : u.length = n) :
    (convert 63 9 (.slice (some ⟨g, 0, none⟩) n cap)).run Try.prog w = .ok (.string (strOfNums u)) w := by
  refine run_convert_bytes_arg (P := Try.prog) w 63 5 Try.underlying63 Try.underlying5 g 0 n cap u hn (fun j hj => ?_) 9 Try.underlying9
  obtain ⟨b, o, hae, hca⟩ := (sl_of_own h).at hj
  cases hae
  have := hca j (by rw [u8s_len]; omega)
  rw [this]
  simp [u8s, List.getD_eq_getElem?_getD, List.getElem?_eq_getElem (show j < u.length by omega)]
/-- what a key function returns: a text -/
def KeyPost (k : List Int) (w : World) (e : Ending) (w' : World) : Prop := ∃ s : ByteArray, e = .returned (.string s) ∧ Bts s (u8b k) ∧ Below w.heap.size w w'
set_option maxHeartbeats 2000000 in
theorem keyAE (x : Dfa) (s : Nat) (hs : s < x.acc.length) (hlo : ∀ v ∈ x.acc, -9223372036854775808 ≤ v ∧ v ≤ 9223372036854775807) (kb db : Nat) (st nv : Value) (aa : Option Addr) (n ca : Nat) (hn : x.acc.length = n) (w : World)
    (hk : w.heap[kb]? = some (.cells #[.func (.func 40) #[] #[]] 70 (0, 0))) (hd : w.heap[db]? = some (.cells #[st, .slice aa n ca, nv] 25 (0, 0)))
    (hA : Sl w (.slice aa n ca) (ints x.acc)) :
    Calls Try.prog 41 #[.int .i64 (s : Int), .pointer (some ⟨kb, 0, none⟩), .pointer (some ⟨db, 0, none⟩)] w (KeyPost (b4 (x.acc.getD s 0)) w) := by
  have hsn : s < n := by omega
  have hgd : x.acc.getD s 0 = x.acc[s] := by simp [List.getD_eq_getElem?_getD, List.getElem?_eq_getElem hs]
  obtain ⟨ba, oa, hae, hca⟩ := hA.at hsn
  have c1 := hca s (by rw [ints_len]; exact hs)
  rw [ints_get] at c1
  have hr := hlo _ (List.getElem_mem hs)
  rw [hgd]
  obtain ⟨v, HV⟩ := nameIt x.acc[s]
  rw [HV.out] at c1 hr ⊢
  subst hae
  have x0 := bx_cells1 hk
  obtain ⟨y0, y1, y2⟩ := bx_cells3 hd
  have HW := Lib.hid (fun W => wordE 0 (.slice none 0 0) [] v hr W (World.ownsRow_nil _ _ _ _) (Nat.zero_le _) (by simp))
  obtain ⟨PST, HP⟩ := nameIt (KeyPost (b4 v) w)
  have HFIN : Hid (∀ s w', Bts s (u8b (b4 v)) → Below w.heap.size w w' → PST (.returned (.string s)) w') := by
    intro s w' h1 h2; rw [← HP.out]; exact ⟨s, rfl, h1, h2⟩
  rw [HP.out]
  have hs0 : (0 : Int) ≤ (s : Int) := by omega
  have hsn' : (s : Int) < (n : Int) := by omega
  clear hca hgd hA hk hd hr HP hn hlo
  go_enter Try.func41, Try.ntmps41
  go_upto_region 1 with fail
  refine wp_region_still_tail 6 (by kernel_rfl) (by kernel_rfl) ?_
  simp only [List.take_succ_cons, List.take_zero, List.drop_succ_cons, List.drop_zero]
  change wpStill _ _ (World.drew _) _ _ _
  repeat still_step
  refine wpStill_nil ?_
  change wpList _ _ _ _ _ (World.drew _)
  go_wp2_with fail
  with_reducible refine (HW.out _).mono ?_
  rintro e w1 ⟨v1, rfl, ho, hg⟩
  have hbw : Below w.heap.size w w1 := ((Below.refl _ _).drew).grown hg (Nat.le_refl _) (fun k e => by cases e)
  obtain ⟨g, c, rfl, -, -⟩ := ho.form (by simp)
  simp only [List.nil_append, List.length_nil, Nat.zero_add] at ho ⊢
  have hcv := conv_u8 ho (b4_len v)
  have HE := Lib.hid (HFIN.out _ w1 (bts_nums (b4 v)) hbw)
  obtain ⟨ss, HSS⟩ := nameIt (strOfNums (b4 v))
  rw [HSS.out] at hcv HE
  clear ho hg hbw
  go_wp2_with fail
  exact HE.out
def nb (P : Nat → Int) (t : Int) : Int := if t < 0 then -1 else P t.toNat
/-- the key of a state -/
def keyTo (P : Nat → Int) (s : Nat) (r : List Int) (j : Nat) : List Int := b4 (P s) ++ (r.take j).flatMap fun t => b4 (nb P t)
theorem keyTo_next (P : Nat → Int) (s : Nat) {r : List Int} {j : Nat} (h : j < r.length) : keyTo P s r (j + 1) = keyTo P s r j ++ b4 (nb P r[j]) := by
  unfold keyTo
  rw [List.take_succ_eq_append_getElem h, List.flatMap_append, List.append_assoc]
  simp
theorem keyTo_len (P : Nat → Int) (s : Nat) {r : List Int} : ∀ {j : Nat}, j ≤ r.length → (keyTo P s r j).length = 4 + 4 * j
  | 0, _ => by simp [keyTo, b4]
  | j + 1, h => by rw [keyTo_next P s (by omega), List.length_append, keyTo_len P s (by omega), b4_len]; omega
set_option maxHeartbeats 2000000 in
theorem keyBE (x : Dfa) (hx : Right x) (P : Nat → Int) (hP : ∀ k, k < x.next.length → -1 ≤ P k ∧ P k ≤ 1000) (s : Nat) (hs : s < x.next.length) (kb ob db po : Nat) (st av : Value) (an : Option Addr) (n cn : Nat) (hn : x.next.length = n) (w : World)
    (hk : w.heap[kb]? = some (.cells #[.func (.func 40) #[] #[]] 70 (0, 0))) (ho : w.heap[ob]? = some (.cells #[.slice (some ⟨po, 0, none⟩) n n] 22 (0, 0)))
    (hd : w.heap[db]? = some (.cells #[st, av, .slice an n cn] 25 (0, 0)))
    (hN : Rd AnyB w (.sl (x.next.map D.ints)) [.slice an n cn]) (hV : Vrow 3 po n (fun k => .int .i64 (P k)) w) :
    Calls Try.prog 42 #[.int .i64 (s : Int), .pointer (some ⟨kb, 0, none⟩), .pointer (some ⟨ob, 0, none⟩), .pointer (some ⟨db, 0, none⟩)] w (KeyPost (keyTo P s (x.next.getD s []) (x.next.getD s []).length) w) := by
  have hsn : s < n := by omega
  have hgd : x.next.getD s [] = x.next[s] := by simp [List.getD_eq_getElem?_getD, List.getElem?_eq_getElem hs]
  rw [hgd]
  obtain ⟨b, off, vr, hae, c0, hsl⟩ := Rd.rowI_at hN hs
  obtain ⟨ar, kr, rfl⟩ := hsl.form
  rw [ints_len] at c0 hsl
  have hml := hx.rows _ (List.getElem_mem hs)
  have hmw := hx.syms
  have htg := fun c (h : c < x.next[s].length) => hx.next _ (List.getElem_mem hs) _ (List.getElem_mem h)
  obtain ⟨R, HR⟩ := nameIt x.next[s]
  simp only [HR.out] at hml hsl c0 htg
  rw [HR.out]
  rw [hn] at htg
  obtain ⟨m, HM⟩ := nameIt R.length
  rw [HM.out] at hml hsl c0
  rw [HM.out]
  have hm16 : m ≤ 16 := by omega
  have HX0 := Lib.hid hk
  have HX1 := Lib.hid ho
  have HX2 := Lib.hid hd
  have HVV := Lib.hid hV
  have HSL := Lib.hid hsl
  have HTG := Lib.hid htg
  have hp0 := hP s hs
  have HPB : Hid (∀ k, k < n → -1 ≤ P k ∧ P k ≤ 1000) := fun k h => hP k (by omega)
  subst hae
  have x0 := bx_cells1 hk
  have y0 := bx_cells1 ho
  obtain ⟨z0, z1, z2⟩ := bx_cells3 hd
  have v0 := hV.cell hsn
  obtain ⟨q, HQ⟩ := nameIt (P s)
  rw [HQ.out] at v0 hp0
  have HW := Lib.hid (fun W => wordE w.heap.size (.slice none 0 0) [] q ⟨by omega, by omega⟩ W (World.ownsRow_nil _ _ _ _))
  obtain ⟨PST, HP⟩ := nameIt (KeyPost (keyTo P s R m) w)
  have HFIN : Hid (∀ s' w', Bts s' (u8b (keyTo P s R m)) → Below w.heap.size w w' → PST (.returned (.string s')) w') := by
    intro s w' h1 h2; rw [← HP.out]; exact ⟨s, rfl, h1, h2⟩
  rw [HP.out]
  have HK0 : Hid (keyTo P s R 0 = b4 q) := by show _ = _; unfold keyTo; rw [HQ.out]; simp
  have hs0 : (0 : Int) ≤ (s : Int) := by omega
  have hsn' : (s : Int) < (n : Int) := by omega
  clear hgd hk hd ho hP HP hn hsl htg hml hmw hV hN
  go_enter Try.func42, Try.ntmps42
  go_upto_region 1 with fail
  refine wp_region_still_tail 5 (by kernel_rfl) (by kernel_rfl) ?_
  simp only [List.take_succ_cons, List.take_zero, List.drop_succ_cons, List.drop_zero]
  change wpStill _ _ (World.drew _) _ _ _
  repeat still_step
  refine wpStill_nil ?_
  change wpList _ _ _ _ _ (World.drew _)
  go_wp2_with fail
  have HW1 := HW.out w.drew (Nat.le_refl _) (by simp)
  with_reducible refine HW1.mono ?_
  rintro e w1 ⟨v1, rfl, ho, hg⟩
  have hbw : Below w.heap.size w w1 := ((Below.refl _ _).drew).grown hg (Nat.le_refl _) (fun k e => by cases e)
  simp only [List.nil_append, List.length_nil, Nat.zero_add] at ho
  have HOW : Hid (w1.ownsRow w.heap.size 5 1 v1 (keyTo P s R 0).length (u8s (keyTo P s R 0))) := by rw [HK0.out]; exact ho
  have HB1 := Lib.hid hbw
  obtain ⟨a1, k1, rfl, -, -⟩ := own_len ho
  have d0 := (hbw.cell (lt_of_cell c0)).trans c0
  obtain ⟨z0', z1', z2'⟩ := bx_cells3 (bx_keep HX2.out hbw)
  clear ho hg hbw z0 z1 z2 x0 y0 v0 c0
  go_wp2_with fail
  go_loopg [6, 8, 21] m (fun gg v6 v8 v21 wr => ∃ j : Nat, j ≤ m ∧ m - j ≤ gg ∧ v21 = .int .i64 j ∧ Hid (wr.ownsRow w.heap.size 5 1 v6 (keyTo P s R j).length (u8s (keyTo P s R j))) ∧ Hid (Below w.heap.size w wr))
  case atStart => exact ⟨0, by omega, by omega, rfl, HOW, HB1⟩
  case round =>
    clear HOW HB1 d0 z0' z1' z2'
    obtain ⟨j, hj, hgj, rfl, HO, HB⟩ := hrel
    obtain ⟨w2, rfl⟩ : ∃ ww : World, ww = wr := ⟨_, rfl⟩
    have hkl0 := keyTo_len P s (r := R) (j := j) (by rw [HM.out]; exact hj)
    have hkl : (keyTo P s R j).length ≤ 100 := by omega
    have hkp : 0 < (keyTo P s R j).length := by omega
    clear hkl0
    have hb2 := HB.out
    by_cases hjm : j < m
    · have hjm' : (j : Int) < (m : Int) := by omega
      have hj0 : (0 : Int) ≤ (j : Int) := by omega
      have hjR : j < R.length := by rw [HM.out]; exact hjm
      have hkn := keyTo_next P s hjR
      obtain ⟨ba, oa, hae, hca⟩ := (HSL.out.keep hb2).at hjm
      have c1 := hca j (by rw [ints_len]; exact hjR)
      rw [ints_get] at c1
      have htg := HTG.out j hjR
      obtain ⟨t, HT⟩ := nameIt R[j]
      rw [HT.out] at c1 htg hkn
      have x0 := bx_cells1 (bx_keep HX0.out hb2)
      have y0 := bx_cells1 (bx_keep HX1.out hb2)
      obtain ⟨K, HKN⟩ := nameIt (keyTo P s R j)
      rw [HKN.out] at HO hkl hkp hkn
      subst hae
      clear hca
      by_cases ht : t < 0
      · have hnb : nb P t = -1 := by unfold nb; rw [if_pos ht]
        rw [hnb] at hkn
        have HKE := Lib.hid hkn
        have HWD := Lib.hid (fun W (h : W.ownsRow w.heap.size 5 1 u6 K.length (u8s K)) (h2 : w.heap.size ≤ W.heap.size) => wordE w.heap.size u6 K (-1) ⟨by omega, by omega⟩ W h h2 (by omega))
        obtain ⟨a6, k6, rfl, -, -⟩ := own_len HO.out
        have HSZ := Lib.hid hb2.size
        clear hkn hnb hb2
        go_wp2_with fail
        with_reducible refine (HWD.out _ HO.out HSZ.out).mono ?_
        rintro e w5 ⟨v5, rfl, ho5, hg5⟩
        have HB5 : Hid (Below w.heap.size w w5) := HB.out.grown hg5 HSZ.out (fun k e => (HO.out.lt k e).1)
        have HO5 : Hid (w5.ownsRow w.heap.size 5 1 v5 (keyTo P s R (j + 1)).length (u8s (keyTo P s R (j + 1)))) := by rw [HKE.out, List.length_append, b4_len]; exact ho5
        obtain ⟨a5, k5, rfl, -, -⟩ := own_len ho5
        clear ho5 hg5
        go_wp2_with fail
        go_roundg (m - (j + 1))
        case measure => omega
        case rel => exact ⟨j + 1, by omega, by omega, by go_num, HO5, HB5⟩
      · obtain ⟨tn, htn⟩ : ∃ tn : Nat, t = (tn : Int) := ⟨t.toNat, by omega⟩
        subst htn
        have htl : tn < n := by omega
        have hnb : nb P (tn : Int) = P tn := by unfold nb; rw [if_neg ht, Int.toNat_natCast]
        rw [hnb] at hkn
        have HKE := Lib.hid hkn
        have hpt := HPB.out tn htl
        have v0 := (HVV.out.keep hb2).cell htl
        obtain ⟨q2, HQ2⟩ := nameIt (P tn)
        rw [HQ2.out] at v0 hpt HKE
        have HWD := Lib.hid (fun W (h : W.ownsRow w.heap.size 5 1 u6 K.length (u8s K)) (h2 : w.heap.size ≤ W.heap.size) => wordE w.heap.size u6 K q2 ⟨by omega, by omega⟩ W h h2 (by omega))
        obtain ⟨a6, k6, rfl, -, -⟩ := own_len HO.out
        have HSZ := Lib.hid hb2.size
        have ht0 : (0 : Int) ≤ (tn : Int) := by omega
        have htn' : (tn : Int) < (n : Int) := by omega
        clear hkn hnb hb2 ht hpt htg
        go_upto_region 7 with fail
        refine wp_region_still_tail 6 (by kernel_rfl) (by kernel_rfl) ?_
        simp only [List.take_succ_cons, List.take_zero, List.drop_succ_cons, List.drop_zero]
        change wpStill _ _ (World.drew _) _ _ _
        repeat still_step
        refine wpStill_nil ?_
        change wpList _ _ _ _ _ (World.drew _)
        go_wp2_with fail
        have HW1 := HWD.out w2.drew HO.out.drew HSZ.out
        with_reducible refine HW1.mono ?_
        rintro e w5 ⟨v5, rfl, ho5, hg5⟩
        have HB5 : Hid (Below w.heap.size w w5) := HB.out.drew.grown hg5 HSZ.out (fun k e => (HO.out.lt k e).1)
        have HO5 : Hid (w5.ownsRow w.heap.size 5 1 v5 (keyTo P s R (j + 1)).length (u8s (keyTo P s R (j + 1)))) := by rw [HKE.out, List.length_append, b4_len]; exact ho5
        obtain ⟨a5, k5, rfl, -, -⟩ := own_len ho5
        clear ho5 hg5
        go_wp2_with fail
        go_roundg (m - (j + 1))
        case measure => omega
        case rel => exact ⟨j + 1, by omega, by omega, by go_num, HO5, HB5⟩
    · obtain rfl : j = m := by omega
      have hjm' : ¬ (j : Int) < (j : Int) := by omega
      obtain ⟨g6, k6, hv6, -, -⟩ := HO.out.form hkp
      have ho := HO.out
      rw [hv6] at ho
      have hcv := conv_u8 ho rfl
      have HE := Lib.hid (HFIN.out _ w2 (bts_nums (keyTo P s R j)) HB.out)
      obtain ⟨ss, HSS⟩ := nameIt (strOfNums (keyTo P s R j))
      rw [HSS.out] at hcv HE
      obtain ⟨ll, HLL⟩ := nameIt (keyTo P s R j).length
      rw [HLL.out] at hcv hv6
      subst hv6
      clear ho hb2 hkl hkp
      go_wp2_with fail
      exact HE.out
end Df
end Go.Proofs.Ytclpmmbclgihbaa
namespace Go.Proofs.Ytclpmmbclgihbaa
open Go.RowKit
namespace Lr
open Df

def byteW (u : List Int) : Prop := ∀ y ∈ u, 0 ≤ y ∧ y < 256
theorem u8b_inj : ∀ {u v : List Int}, byteW u → byteW v → u8b u = u8b v → u = v
  | [], [], _, _, _ => rfl
  | [], y :: v, _, _, h => by simp [u8b] at h
  | x :: u, [], _, _, h => by simp [u8b] at h
  | x :: u, y :: v, hu, hv, h => by
    simp only [u8b, List.map_cons, List.cons.injEq] at h
    have e2 := u8b_inj (fun z hz => hu z (List.mem_cons_of_mem _ hz)) (fun z hz => hv z (List.mem_cons_of_mem _ hz)) h.2
    have h1 := hu x List.mem_cons_self
    have h2 := hv y List.mem_cons_self
    have h3 := congrArg UInt8.toNat h.1
    simp at h3
    have e1 : x = y := by omega
    rw [e1, e2]
set_option maxHeartbeats 2000000 in
set_option maxRecDepth 100000 in
theorem keyL (u : List Int) (n : Nat) (hn : u.length = n) (hu : byteW u) (hn2 : n ≤ 1000000) (a : Option Addr) (c : Nat) (w : World) (hw : Sl w (.slice a n c) (ints u)) :
    Calls Try.prog 37 #[.slice a n c] w fun e w' => ∃ s : ByteArray, e = .returned (.string s) ∧ Bts s (u8b u) ∧ Below w.heap.size w w' := by
  obtain ⟨PST, HP⟩ := nameIt (fun (e : Ending) (w' : World) => ∃ s : ByteArray, e = .returned (.string s) ∧ Bts s (u8b u) ∧ Below w.heap.size w w')
  rw [HP.out]
  have HFIN : Hid (∀ s w', Bts s (u8b u) → Below w.heap.size w w' → PST (.returned (.string s)) w') := by
    intro s w' h1 h2; rw [← HP.out]; exact ⟨s, rfl, h1, h2⟩
  clear HP
  have hmk : ∀ W : World, (Instr.makeSlice 63 (.int .i64 (n : Int)) (.int .i64 (n : Int))).run Try.prog W = .ok (.slice (some ⟨W.heap.size, 0, none⟩) n n) (W.alloc (.cells (madeCells #[.int .u8 0] n) 5)) := fun W => by
    have := run_make_row' (P := Try.prog) 63 5 (.int .u8 0) 1 Try.underlying63 (by kernel_rfl) rfl .i64 .i64 n (by omega) (by omega) W
    simpa using this
  have HSL := Lib.hid hw
  have HNL := Lib.hid hn
  have HUOK := Lib.hid hu
  have hwb := hw.len.2
  unfold maxLen at hwb
  obtain ⟨hwc1, hwc2⟩ := hwb
  obtain ⟨w1, HW1⟩ := nameIt (w.alloc (.cells (madeCells #[.int .u8 0] n) 5))
  have hb1 : Below w.heap.size w w1 := by rw [← HW1.out]; exact (Below.refl _ _).alloc (Nat.le_refl _) _
  have HV1 : Hid (Vrow 5 w.heap.size n (fun k => if k < 0 then .int .u8 (u.getD k 0) else .int .u8 0) w1) := by
    rw [← HW1.out]
    exact (vrow_new w _ _ n rfl).eq fun k _ => by simp
  have HB1 := Lib.hid hb1
  obtain ⟨p, HPN⟩ := nameIt w.heap.size
  rw [HPN.out] at HV1
  have HPL : Hid (w.heap.size ≤ p) := by rw [← HPN.out]; exact Nat.le_refl _
  clear hb1 hn hu hw
  go_enter Try.func37, Try.ntmps37
  go_upto_region 2 with fail
  rw [HW1.out, HPN.out]
  go_wp2_with fail
  go_loopg [4, 5, 11] n (fun gg v4 v5 v11 wr => ∃ i : Nat, i ≤ n ∧ n - i ≤ gg ∧ v11 = .int .i64 i ∧ Hid (Vrow 5 p n (fun k => if k < i then .int .u8 (u.getD k 0) else .int .u8 0) wr) ∧ Hid (Below w.heap.size w wr))
  case atStart => exact ⟨0, by omega, by omega, rfl, HV1, HB1⟩
  case round =>
    clear HV1 HB1
    obtain ⟨i, hi, hg, rfl, HV, HB⟩ := hrel
    obtain ⟨w2, rfl⟩ : ∃ ww : World, ww = wr := ⟨_, rfl⟩
    by_cases hlt : i < n
    · have hlt' : (i : Int) < (n : Int) := by omega
      have hi0 : (0 : Int) ≤ (i : Int) := by omega
      obtain ⟨ba, oa, hae, hca⟩ := (HSL.out.keep HB.out).at hlt
      have hiu : i < u.length := by rw [HNL.out]; exact hlt
      have c0 := hca i (by rw [ints_len]; exact hiu)
      rw [ints_get] at c0
      have q0 := HV.out.cell hlt
      have qf := HV.out.free i
      have hgd : u.getD i 0 = u[i] := by simp [List.getD_eq_getElem?_getD, List.getElem?_eq_getElem hiu]
      have hsm := HUOK.out _ (List.getElem_mem hiu)
      have HVN : Hid (Vrow 5 p n (fun k => if k < i + 1 then .int .u8 (u.getD k 0) else .int .u8 0) (w2.setCell ⟨p, i, none⟩ (.int .u8 u[i]))) := HV.out.set hlt fun k _ => by
        by_cases e : k = i
        · subst e; rw [if_pos (by omega), if_pos rfl, hgd]
        · rw [if_neg e]
          by_cases e2 : k < i
          · rw [if_pos e2, if_pos (by omega)]
          · rw [if_neg e2, if_neg (by omega)]
      have HBN : Hid (Below w.heap.size w (w2.setCell ⟨p, i, none⟩ (.int .u8 u[i]))) := HB.out.setCell (p := ⟨p, i, none⟩) HPL.out _
      simp only [Nat.lt_irrefl, if_false] at q0
      obtain ⟨x, HX⟩ := nameIt u[i]
      rw [HX.out] at c0 hsm HVN HBN
      have hw8 : IntKind.u8.wrap x = x := by
        obtain ⟨h1, h2⟩ := hsm
        rw [IntKind.wrap_u8']; omega
      subst hae
      clear hca hgd hsm
      go_wp2_with fail
      go_roundg (n - (i + 1))
      case measure => omega
      case rel => exact ⟨i + 1, by omega, by omega, by go_num, HVN, HBN⟩
    · have hlt' : ¬ (i : Int) < (n : Int) := by omega
      have hcv := run_convert_bytes_arg (P := Try.prog) w2 63 5 Try.underlying63 Try.underlying5 p 0 n n u HNL.out (fun j hj => by
        have h := HV.out.cell hj
        simp only [show j < i by omega, if_true] at h
        rw [Nat.zero_add]; exact h) 9 Try.underlying9
      have HE := Lib.hid (HFIN.out (strOfNums u) w2 (by unfold Bts strOfNums u8b; simp) HB.out)
      obtain ⟨ss, HSS⟩ := nameIt (strOfNums u)
      rw [HSS.out] at hcv HE
      go_wp2_with fail
      exact HE.out
end Lr
end Go.Proofs.Ytclpmmbclgihbaa
namespace Go.Proofs.Ytclpmmbclgihbaa
open Go.RowKit
namespace Km

theorem zInt (w : World) : (zeroValue 3).run Try.prog w = .ok (.int .i64 0) w := by
  obtain ⟨i, hi, hz, _⟩ := info_parts (show (Try.prog.info? 3).map (fun i => (i.zero, i.size, i.bytes)) = some (some (.int .i64 0), 1, 8) by kernel_rfl)
  simp [zeroValue, typeInfo, hi, hz]
/-- block b is a map: at the key l it has F l; it has c keys -/
def KMap (k e : TypeId) (b : Nat) (F : Lit → Option Lit) (c : Nat) (w : World) : Prop :=
  ∃ D : DataW Unit, w.ownsMap Try.prog k (plainElem Try.prog e) b c D ∧ Maps.size D = c ∧ (∀ l, Maps.has D l = (F l).isSome) ∧ ∀ l x, F l = some x → ∀ zd, D.atKey l zd = .lit x
open Classical in
noncomputable def put (F : Lit → Option Lit) (l x : Lit) : Lit → Option Lit := fun l' => if l' = l then some x else F l'
theorem put_same (F : Lit → Option Lit) (l x : Lit) : put F l x l = some x := by unfold put; rw [if_pos rfl]
theorem put_other (F : Lit → Option Lit) {l l' : Lit} (x : Lit) (h : l' ≠ l) : put F l x l' = F l' := by unfold put; rw [if_neg h]
section
variable {k e t : TypeId} {b c : Nat} {F F' : Lit → Option Lit} {w w' : World}
theorem KMap.kept {row : Option Nat} (h : KMap k e b F c w) (hg : w.grownBy w' row) (hne : some b ≠ row) : KMap k e b F c w' := by
  obtain ⟨D, h1, h2⟩ := h
  exact ⟨D, h1.kept hg hne, h2⟩
theorem KMap.keep (h : KMap k e b F c w) (hb : Below w.heap.size w w') : KMap k e b F c w' := h.kept (grown_below hb none) (by simp)
theorem KMap.setCell (h : KMap k e b F c w) {a : Addr} (ha : b ≠ a.block) (u : Value) : KMap k e b F c (w.setCell a u) := by
  obtain ⟨D, h1, h2⟩ := h
  exact ⟨D, h1.setCell ha u, h2⟩
theorem KMap.lt (h : KMap k e b F c w) : b < w.heap.size := by obtain ⟨D, h1, _⟩ := h; exact h1.lt
theorem KMap.eq (h : KMap k e b F c w) (e1 : ∀ l, F l = F' l) : KMap k e b F' c w := by rw [show F' = F from funext fun l => (e1 l).symm]; exact h
theorem KMap.start (w : World) {b : Nat} (hb : b = w.heap.size) : KMap k e b (fun _ => none) 0 (w.alloc (.map #[] 0)) := by
  subst hb
  exact ⟨.map [], World.ownsMap_made w _ _ _, rfl, fun l => by simp [Maps.has], fun l x h => by cases h⟩
theorem KMap.len (h : KMap k e b F c w) (ht : Try.prog.underlying t = some (.map k e)) (ty : TypeId) : (Builtin.len_ #[t] ty #[.map (some b)]).run Try.prog w = .ok (.int .i64 c) w := by
  obtain ⟨D, h1, h2, _⟩ := h
  have := h1.len ht ty
  rw [h2] at this
  exact this
/-- v, ok := m[k]: whole numbers -/
theorem KMap.look (h : KMap k 3 b F c w) (hK : Maps.Keyed Try.prog k) (ht : Try.prog.underlying t = some (.map k 3)) {key : Value} {l : Lit} (hkey : keyOf Try.prog k key = some l) :
    (∀ x : Int, F l = some (.int .i64 x) → (Instr.lookup t (.map (some b)) key true).run Try.prog w = .ok (.tuple #[.int .i64 x, .bool true]) w ∧ (Instr.lookup t (.map (some b)) key false).run Try.prog w = .ok (.int .i64 x) w) ∧
    (F l = none → (Instr.lookup t (.map (some b)) key true).run Try.prog w = .ok (.tuple #[.int .i64 0, .bool false]) w) := by
  obtain ⟨D, h1, h2, h3, h4⟩ := h
  obtain ⟨v, ps, hrun, hv⟩ := h1.look_ok hK ht (zInt w) (plainElem_int Try.underlying3 (by decide)) hkey
  obtain ⟨v', ps', hrun', hv'⟩ := h1.lookup hK ht (zInt w) (plainElem_int Try.underlying3 (by decide)) hkey
  obtain ⟨n, rfl, hn, _⟩ := plainElem_int_inv Try.underlying3 hv
  obtain ⟨n', rfl, hn', _⟩ := plainElem_int_inv Try.underlying3 hv'
  rw [h3 l] at hrun
  constructor
  · intro x hx
    rw [hx] at hrun
    rw [h4 l _ hx] at hn hn'
    simp at hn hn'
    rw [← hn.1] at hrun
    rw [← hn'.1] at hrun'
    exact ⟨hrun, hrun'⟩
  · intro hx
    rw [hx] at hrun
    have hh : Maps.has D l = false := by rw [h3, hx]; rfl
    rw [Maps.atKey_of_not_has hh] at hn
    simp at hn
    rw [← hn.1] at hrun
    exact hrun
/-- v, ok := m[k]: Bools -/
theorem KMap.lookB (h : KMap k 4 b F c w) (hK : Maps.Keyed Try.prog k) (ht : Try.prog.underlying t = some (.map k 4)) {key : Value} {l : Lit} (hkey : keyOf Try.prog k key = some l) :
    (∀ x : Bool, F l = some (.bool x) → (Instr.lookup t (.map (some b)) key true).run Try.prog w = .ok (.tuple #[.bool x, .bool true]) w) ∧
    (F l = none → (Instr.lookup t (.map (some b)) key true).run Try.prog w = .ok (.tuple #[.bool false, .bool false]) w) := by
  obtain ⟨D, h1, h2, h3, h4⟩ := h
  have hz : (zeroValue 4).run Try.prog w = .ok (.bool false) w := by
    obtain ⟨i, hi, hz, _⟩ := info_parts (show (Try.prog.info? 4).map (fun i => (i.zero, i.size, i.bytes)) = some (some (.bool false), 1, 1) by kernel_rfl)
    simp [zeroValue, typeInfo, hi, hz]
  obtain ⟨v, ps, hrun, hv⟩ := h1.look_ok hK ht hz (plainElem_bool Try.underlying4 false) hkey
  obtain ⟨n, rfl, hn⟩ := plainElem_bool_inv Try.underlying4 hv
  rw [h3 l] at hrun
  constructor
  · intro x hx
    rw [hx] at hrun
    rw [h4 l _ hx] at hn
    simp at hn
    rw [← hn.1] at hrun
    exact hrun
  · intro hx
    rw [hx] at hrun
    have hh : Maps.has D l = false := by rw [h3, hx]; rfl
    rw [Maps.atKey_of_not_has hh] at hn
    simp at hn
    rw [hn.1] at hrun
    exact hrun
/-- m[k] = v -/
theorem KMap.store (h : KMap k e b F c w) (hK : Maps.Keyed Try.prog k) (ht : Try.prog.underlying t = some (.map k e)) (hc : c < maxLen) {key v : Value} {l x : Lit} (hkey : keyOf Try.prog k key = some l) (hv : plainElem (H := Unit) Try.prog e v = some (.lit x, [])) :
    ∃ w', (Instr.mapUpdate t (.map (some b)) key v).run Try.prog w = .ok () w' ∧ KMap k e b (put F l x) (if (F l).isSome then c else c + 1) w' ∧ w.grownBy w' (some b) := by
  obtain ⟨D, h1, h2, h3, h4⟩ := h
  obtain ⟨w', hrun, ho, htn⟩ := h1.store hK ht hc hkey hv
  have hm := h1.isMap
  have hkk := hK.key hkey
  have hty := h1.tidy hK
  have hsz := Maps.size_put (k := l) hty (.lit x)
  rw [h3 l, h2] at hsz
  refine ⟨w', hrun, ⟨_, ?_, hsz, fun l' => ?_, fun l' y hy zd => ?_⟩, htn.grown⟩
  · obtain ⟨es, ck, a1, a2, a3, a4⟩ := ho
    refine ⟨es, ck, a1, a2, ?_, a4⟩
    rw [← hsz, a4]
    show es.size ≤ _
    rw [Maps.size_eq, length_read]; exact Nat.le_refl _
  · by_cases el : l' = l
    · subst el
      rw [Maps.has_put_same hm hkk, put_same]; rfl
    · rw [Maps.has_put_other el, h3, put_other _ _ el]
  · by_cases el : l' = l
    · subst el
      rw [put_same] at hy
      cases hy
      exact Maps.atKey_put_same hm hkk _ _
    · rw [put_other _ _ el] at hy
      rw [Maps.atKey_put_other el]
      exact h4 l' y hy zd
end
theorem velInt {n : Int} (h : (Lit.int .i64 n).wf = true) : plainElem (H := Unit) Try.prog 3 (.int .i64 n) = some (.lit (.int .i64 n), []) := plainElem_int Try.underlying3 h
theorem velBool (x : Bool) : plainElem (H := Unit) Try.prog 4 (.bool x) = some (.lit (.bool x), []) := plainElem_bool Try.underlying4 x
end Km
end Go.Proofs.Ytclpmmbclgihbaa
namespace Go.Proofs.Ytclpmmbclgihbaa
open Go.RowKit

mutual
theorem Rd.ones {S : Nat → Prop} {w : World} : ∀ (d : D) (cs : List Value), Rd S w d cs → ∀ u ∈ cs, u.oneCell' = true
  | .int n, cs, h => by simp [Rd] at h; subst h; simp [Value.oneCell']
  | .bool n, cs, h => by simp [Rd] at h; subst h; simp [Value.oneCell']
  | .str n, cs, h => by simp [Rd] at h; subst h; simp [Value.oneCell']
  | .sl ds, cs, h => by obtain ⟨a, cap, L, rfl, _⟩ := h; simp [Value.oneCell']
  | .agg ds, cs, h => RdAll.ones ds cs h
theorem RdAll.ones {S : Nat → Prop} {w : World} : ∀ (ds : List D) (cs : List Value), RdAll S w ds cs → ∀ u ∈ cs, u.oneCell' = true
  | [], cs, h => by simp [RdAll] at h; subst h; simp
  | d :: ds, cs, h => by
    obtain ⟨c1, c2, rfl, h1, h2⟩ := h
    intro u hu
    rcases List.mem_append.1 hu with hu | hu
    · exact Rd.ones d c1 h1 u hu
    · exact RdAll.ones ds c2 h2 u hu
end

/-- append of what lies in one block, at a step of a region that draws its order -/
theorem step_appB {P : Program} {ops : Array Oper} {o : Oper} {a : Act} {K : Act → World → Prop} {Q : Exit → Act → World → Prop} {E' : Prop} {w0 : World} {t e : TypeId} {size bytes : Nat} (E : ElemT P t e size bytes)
    (hgd : o.guard = none) (s x : Operand) (ho : o.op = .call { callee := .builtin .append, args := #[s, x], argTypes := #[t, t] })
    {B : Nat} {v : Value} {n : Nat} {xs : List Value} {news : Array Value} (hown : w0.ownsRow B e size v n xs) (hs : a.eval s = v) {g0 : Nat} (hx : a.eval x = .slice (some ⟨g0, 0, none⟩) 1 1) (hg0 : w0.heap[g0]? = some (.cells news e (0, 0)))
    (hn : news.size = size) (h1 : news.toList.all Value.oneCell' = true) (hb : (n + 1) * bytes ≤ 140737488355328) (hm : n + 1 ≤ maxLen) (hB : B ≤ w0.heap.size)
    (h : ∀ g cap w', w'.ownsRow B e size (.slice (some ⟨g, 0, none⟩) (n + 1) cap) (n + 1) (xs ++ news.toList) → w0.grownBy w' v.ownBlock → (v.ownBlock = some g ∨ g = w0.heap.size) → g < w'.heap.size → K (a.put o.dst (.slice (some ⟨g, 0, none⟩) (n + 1) cap)) w') :
    if Region.wanted o (yielded ops a.tmps) = true then Oper.wp P o a w0 K Q else E' := by
  obtain ⟨hu, ⟨i, z, hi, hz, hsz, hby, hzs⟩, hp⟩ := E
  exact step_append_lies w0 hgd s x t ho B e i z size bytes hu hi hz hsz hby hzs hp v n xs hs hown ⟨g0, 0, none⟩ 1 1 news.toList hx (by simp [hn]) (World.news_of_block hg0) (List.all_eq_true.1 h1) (by omega) hm hb hB w0.heap.size rfl h

theorem at_lies {v : Value} {g H n cap : Nat} (h : v.ownBlock = some g ∨ g = H) : (Value.slice (some ⟨g, 0, none⟩) n cap).ownBlock = v.ownBlock ∨ ∃ k, (Value.slice (some ⟨g, 0, none⟩) n cap).ownBlock = some k ∧ H ≤ k := by
  rcases h with h | h
  · exact .inl h.symm
  · exact .inr ⟨g, rfl, by omega⟩

/-- a row of data of the call's own, in blocks of S, and beside the row's own block -/
structure RowD (S : Nat → Prop) (B : Nat) (e : TypeId) (size : Nat) (ds : List D) (v : Value) (wr : World) : Prop where
  own : ∃ xs, wr.ownsRow B e size v ds.length xs ∧ RdAll (fun k => S k ∧ v.ownBlock ≠ some k) wr ds xs
  le : B ≤ wr.heap.size
theorem RowD.keep {S : Nat → Prop} {B : Nat} {e : TypeId} {size : Nat} {ds : List D} {v : Value} {wr w' : World} (h : RowD S B e size ds v wr) (hb : Below wr.heap.size wr w') : RowD S B e size ds v w' := by
  obtain ⟨⟨xs, h1, h2⟩, h3⟩ := h
  exact ⟨⟨xs, own_keep h1 hb, h2.below hb⟩, Nat.le_trans h3 hb.size⟩
theorem RowD.form {S : Nat → Prop} {B : Nat} {e : TypeId} {size : Nat} {ds : List D} {v : Value} {wr : World} (h : RowD S B e size ds v wr) : ∃ a cap, v = .slice a ds.length cap ∧ ds.length ≤ cap ∧ cap ≤ maxLen ∧ ∀ k, v.ownBlock = some k → B ≤ k ∧ k < wr.heap.size := by
  obtain ⟨⟨xs, h1, h2⟩, h3⟩ := h
  obtain ⟨a, cap, rfl, e1, e2⟩ := own_len h1
  exact ⟨a, cap, rfl, e1, e2, h1.lt⟩
theorem RowD.rd {S : Nat → Prop} {B : Nat} {e : TypeId} {size : Nat} {ds : List D} {v : Value} {wr : World} (h : RowD S B e size ds v wr) : Rd (fun k => S k ∨ B ≤ k) wr (.sl ds) [v] := by
  obtain ⟨⟨xs, h1, h2⟩, h3⟩ := h
  exact rd_of_own h1 (h2.mono fun k hk _ => .inl hk.1) rfl (fun k e => .inr (h1.lt k e).1)
theorem RowD.nil (S : Nat → Prop) (B : Nat) (e : TypeId) (size : Nat) (w : World) (h : B ≤ w.heap.size) : RowD S B e size [] (.slice none 0 0) w := ⟨⟨[], World.ownsRow_nil _ _ _ _, by simp [RdAll]⟩, h⟩
/-- behind an append: W0: before it -/
theorem RowD.step {S T : Nat → Prop} {B : Nat} {e : TypeId} {size : Nat} {ds es : List D} {v v' : Value} {W0 W1 : World} {xs news : List Value} {n : Nat} (h1 : W0.ownsRow B e size v n xs) (h2 : RdAll (fun k => S k ∧ v.ownBlock ≠ some k) W0 ds xs) (hn : n = ds.length)
    (hp : RdAll T W0 es news) (hT : ∀ k, T k → k < W0.heap.size → S k ∧ v.ownBlock ≠ some k) (hB : B ≤ W0.heap.size)
    (ho : W1.ownsRow B e size v' (n + es.length) (xs ++ news)) (hg : W0.grownBy W1 v.ownBlock) (hat : v'.ownBlock = v.ownBlock ∨ ∃ k, v'.ownBlock = some k ∧ W0.heap.size ≤ k) : RowD S B e size (ds ++ es) v' W1 := by
  subst hn
  exact ⟨⟨xs ++ news, by rw [List.length_append]; exact ho, own_step h2 (hp.mono hT) hg hat⟩, Nat.le_trans hB hg.size⟩
end Go.Proofs.Ytclpmmbclgihbaa
namespace Go.Proofs.Ytclpmmbclgihbaa
open Go.RowKit

section
variable {P : Program} {ops : Array Oper} {Q : Exit → Act → World → Prop} {md : Region.Mode} {S : World → Prop} {n : Nat}
/-- whatever order is picked; S holds behind every operation until number n has come up -/
def wpU (P : Program) (md : Region.Mode) (ops : Array Oper) (Q : Exit → Act → World → Prop) (S : World → Prop) (n : Nat) : Nat → Array Bool → Act → World → Prop
  | 0, listed, a, w => Region.ready md ops listed = [] ∧ Q .normal a w
  | f + 1, listed, a, w =>
    (Region.ready md ops listed = [] → Q .normal a w) ∧
    ∀ i ∈ Region.ready md ops listed, wpOp P ops Q i (fun a' w' => ((listed.setIfInBounds i true).getD n true = false → S w') ∧ wpU P md ops Q S n f (listed.setIfInBounds i true) a' w') a w
theorem wpAny_of_U : ∀ (f : Nat) (listed : Array Bool) (a : Act) (w : World), wpU P md ops Q S n f listed a w → wpAny P md ops Q f listed a w
  | 0, _, _, _, h => h
  | f + 1, _, _, _, h => ⟨h.1, fun i hi => wpOp_mono (fun a' w' h' => wpAny_of_U f _ a' w' h'.2) (h.2 i hi)⟩
theorem wpU_first {i : Nat} {oi : Oper} {v : Value} (hi : ops[i]? = some oi) (hsel : ∀ (j : Nat) (o : Oper) cs b, ops[j]? = some o → o.op ≠ .select cs b)
    (hQ : ∀ c a w, Q (.panic c) (a.put oi.dst v) w → Q (.panic c) a w) (hs : Region.sinkB md ops n = true) (hc : Region.chainB md ops n = true) (hn : n < ops.size) (hin : i < n) :
    ∀ (f : Nat) (listed : Array Bool) (a : Act) (w : World), HeadInv md ops n listed →
      (∀ j oj, ops[j]? = some oj → j ≠ i → listed.getD j true = false → (∀ e ∈ oj.after, Region.binds md e = true → e.on ≠ i) → oi.apart ops oj = true) →
      i ∈ Region.ready md ops listed → YieldsIf P ops S oi v a → S w →
      wpU P md ops Q S n f (listed.setIfInBounds i true) (a.put oi.dst v) w → wpU P md ops Q S n (f + 1) listed a w := by
  intro f
  induction f with
  | zero =>
    intro listed a w inv _ hr hy hS H
    refine ⟨fun h => (by rw [h] at hr; cases hr), fun j hj => ?_⟩
    by_cases hji : j = i
    · subst hji; exact hy.wpOp hi hS ⟨fun _ => hS, H⟩
    · have h1 := ready_mono hj hji
      rw [H.1] at h1
      cases h1
  | succ f ih =>
    intro listed a w inv hfree hr hy hS H
    have hun := (mem_ready.1 hr).1
    refine ⟨fun h => (by rw [h] at hr; cases hr), fun j hj => ?_⟩
    have hjn : j < n := by
      rcases Nat.lt_or_ge j n with h | h
      · exact h
      · exact absurd hj (tail_waits hs hc hn inv _ i rfl hin hun j h)
    by_cases hji : j = i
    · subst hji; exact hy.wpOp hi hS ⟨fun _ => hS, H⟩
    · have h1 := H.2 j (ready_mono hj hji)
      obtain ⟨hjun, oj, hoj, hall⟩ := mem_ready.1 hj
      have hnot : ∀ e ∈ oj.after, Region.binds md e = true → e.on ≠ i := fun e he hb heq => by
        have h1 := hall e he hb
        rw [heq, getD_both hun] at h1
        cases h1
      have h2 := wpOp_putIf hoj (hfree j oj hoj hji hjun hnot) (fun cs b => hsel i oi cs b hi) (fun cs b => hsel j oj cs b hoj) hQ hy h1
      have hfree' : ∀ k ok, ops[k]? = some ok → k ≠ i → (listed.setIfInBounds j true).getD k true = false →
          (∀ e ∈ ok.after, Region.binds md e = true → e.on ≠ i) → oi.apart ops ok = true := fun k ok hk hki hun hno => by
        refine hfree k ok hk hki ?_ hno
        by_cases hjk : j = k
        · subst hjk; exact hjun
        · rw [getD_set_ne true hjk] at hun; exact hun
      have hnn : ((listed.setIfInBounds i true).setIfInBounds j true).getD n true = false := by
        rw [getD_set_ne true (by omega), getD_set_ne true (by omega)]
        exact inv.tail n (Nat.le_refl _) hn
      refine wpOp_mono (fun a' w' h3 => ⟨fun _ => h3.2.1 hnn, ih (listed.setIfInBounds j true) a' w' (inv.set hj hjn) hfree' (ready_mono hr (Ne.symm hji)) h3.1 (h3.2.1 hnn) ?_⟩) h2
      rw [Array.setIfInBounds_comm _ _ hji]
      exact h3.2.2
theorem wpU_take {i : Nat} {oi : Oper} {v : Value} {f : Nat} {listed : Array Bool} {a : Act} {w : World} (hi : ops[i]? = some oi) (inv : HeadInv md ops n listed) (hs : Region.sinkB md ops n = true) (hc : Region.chainB md ops n = true) (hn : n < ops.size) (hin : i < n)
    (hsel : Region.noSelect ops = true) (hf : Region.free md ops listed i = true) (hr : (Region.ready md ops listed).contains i = true)
    (hQ : ∀ c a w, Q (.panic c) (a.put oi.dst v) w → Q (.panic c) a w) (hy : YieldsIf P ops S oi v a) (hS : S w)
    (h : HeadInv md ops n (listed.setIfInBounds i true) → wpU P md ops Q S n f (listed.setIfInBounds i true) (a.put oi.dst v) w) : wpU P md ops Q S n (f + 1) listed a w :=
  wpU_first hi (Region.noSelect_spec hsel) hQ hs hc hn hin f listed a w inv (Region.free_spec hi hf) (by simpa using hr) hy hS (h (inv.set (by simpa using hr) hin))
theorem wp_region_U {id : Nat} {a : Act} {w : World} (n : Nat) (hm : P.follows .mixedOrders = true)
    (h : HeadInv .any ops n (Array.replicate ops.size false) → wpU P .any ops Q S n ops.size (Array.replicate ops.size false) a w.drew) : (Code.region id ops true).wp P Q a w :=
  wp_region_any hm (wpAny_of_U _ _ _ _ (h ⟨by simp, fun j oj _ hl => (by rw [getD_replicate_false] at hl; cases hl), fun t _ ht => getD_in (by simpa using ht) (getD_replicate_false _ _)⟩))
/-- the way on, shut -/
def OnU (P : Program) (md : Region.Mode) (ops : Array Oper) (Q : Exit → Act → World → Prop) (S : World → Prop) (n f : Nat) (listed : Array Bool) (K : Act → World → Prop) : Prop :=
  ∀ a w, (listed.getD n true = false → S w) → wpU P md ops Q S n f listed a w → K a w
theorem OnU.out {f : Nat} {listed : Array Bool} {K : Act → World → Prop} (h : OnU P md ops Q S n f listed K) (a : Act) (w : World) (hS : listed.getD n true = false → S w) (hw : wpU P md ops Q S n f listed a w) : K a w := h a w hS hw
theorem wpU_one {i : Nat} {o : Oper} {f : Nat} {listed : Array Bool} {a : Act} {w : World} (hr : Region.ready md ops listed = [i]) (ho : ops[i]? = some o)
    (h : ∀ K : Act → World → Prop, OnU P md ops Q S n f (listed.setIfInBounds i true) K → if Region.wanted o (yielded ops a.tmps) = true then Oper.wp P o a w K Q else K (a.put o.dst undef) w) : wpU P md ops Q S n (f + 1) listed a w := by
  refine ⟨fun h0 => (by rw [hr] at h0; cases h0), fun j hj => ?_⟩
  rw [hr] at hj
  obtain rfl : j = i := by simpa using hj
  exact wpOp_step ho (fun K hK => h K (fun a w hS hW => hK a w ⟨hS, hW⟩))
theorem wpU_two {i j : Nat} {o o' : Oper} {f : Nat} {listed : Array Bool} {a : Act} {w : World} (hr : Region.ready md ops listed = [i, j]) (ho : ops[i]? = some o) (ho' : ops[j]? = some o')
    (h : ∀ K : Act → World → Prop, OnU P md ops Q S n f (listed.setIfInBounds i true) K → if Region.wanted o (yielded ops a.tmps) = true then Oper.wp P o a w K Q else K (a.put o.dst undef) w)
    (h' : ∀ K : Act → World → Prop, OnU P md ops Q S n f (listed.setIfInBounds j true) K → if Region.wanted o' (yielded ops a.tmps) = true then Oper.wp P o' a w K Q else K (a.put o'.dst undef) w) : wpU P md ops Q S n (f + 1) listed a w := by
  refine ⟨fun h0 => (by rw [hr] at h0; cases h0), fun k hk => ?_⟩
  rw [hr] at hk
  rcases List.mem_cons.1 hk with rfl | hk
  · exact wpOp_step ho (fun K hK => h K (fun a w hS hW => hK a w ⟨hS, hW⟩))
  · obtain rfl : k = j := by simpa using hk
    exact wpOp_step ho' (fun K hK => h' K (fun a w hS hW => hK a w ⟨hS, hW⟩))
theorem wpU_done {listed : Array Bool} {a : Act} {w : World} (hr : Region.ready md ops listed = []) (h : Q .normal a w) : ∀ f, wpU P md ops Q S n f listed a w
  | 0 => ⟨hr, h⟩
  | _ + 1 => ⟨fun _ => h, by rw [hr]; simp⟩
end
end Go.Proofs.Ytclpmmbclgihbaa
namespace Go.Proofs.Ytclpmmbclgihbaa
open Go.RowKit
theorem bx_cells6 {w : World} {b : Nat} {x0 x1 x2 x3 x4 x5 : Value} {T : TypeId} (h : w.heap[b]? = some (.cells #[x0, x1, x2, x3, x4, x5] T (0, 0))) :
    w.cell? ⟨b, 0, none⟩ = some x0 ∧ w.cell? ⟨b, 0 + 1, none⟩ = some x1 ∧ w.cell? ⟨b, 0 + 2, none⟩ = some x2 ∧ w.cell? ⟨b, 0 + 3, none⟩ = some x3 ∧ w.cell? ⟨b, 0 + 4, none⟩ = some x4 ∧ w.cell? ⟨b, 0 + 5, none⟩ = some x5 := by
  refine ⟨?_, ?_, ?_, ?_, ?_, ?_⟩ <;> simp [World.cell?, h]
theorem bx_free6 {w : World} {b : Nat} {x0 x1 x2 x3 x4 x5 : Value} {T : TypeId} (h : w.heap[b]? = some (.cells #[x0, x1, x2, x3, x4, x5] T (0, 0))) :
    w.frozen? ⟨b, 0, none⟩ = false ∧ w.frozen? ⟨b, 0 + 1, none⟩ = false ∧ w.frozen? ⟨b, 0 + 2, none⟩ = false ∧ w.frozen? ⟨b, 0 + 3, none⟩ = false ∧ w.frozen? ⟨b, 0 + 4, none⟩ = false ∧ w.frozen? ⟨b, 0 + 5, none⟩ = false := by
  refine ⟨?_, ?_, ?_, ?_, ?_, ?_⟩ <;> simp [World.frozen?, h]
theorem inv_setL {md : Region.Mode} {ops : Array Oper} {n i : Nat} {listed : Array Bool} (inv : HeadInv md ops n listed) (hr : (Region.ready md ops listed).contains i = true) (hin : i < n) : HeadInv md ops n (listed.setIfInBounds i true) := inv.set (by simpa using hr) hin
namespace Lr
open Df Km

/-- the answers known so far: each is the function's -/
def KN (f : List Int → Bool) (mb c : Nat) (w : World) : Prop := ∃ F, KMap 9 4 mb F c w ∧ ∀ l x, F l = some x → ∃ v, byteW v ∧ l = .string (u8b v) ∧ x = .bool (f v)
theorem KN.kept {f : List Int → Bool} {mb c : Nat} {w w' : World} {row : Option Nat} (h : KN f mb c w) (hg : w.grownBy w' row) (hne : some mb ≠ row) : KN f mb c w' := by
  obtain ⟨F, h1, h2⟩ := h
  exact ⟨F, h1.kept hg hne, h2⟩
theorem KN.keep {f : List Int → Bool} {mb c : Nat} {w w' : World} (h : KN f mb c w) (hb : Below w.heap.size w w') : KN f mb c w' := h.kept (grown_below hb none) (by simp)
theorem KN.lt {f : List Int → Bool} {mb c : Nat} {w : World} (h : KN f mb c w) : mb < w.heap.size := by obtain ⟨F, h1, _⟩ := h; exact h1.lt
/-- a function that answers -/
def ovK (K : Int) (u : List Int) : Prop := ∀ y ∈ u, 0 ≤ y ∧ y < K
theorem ovK_app {K : Int} {a b : List Int} (h : ovK K a) (k : ovK K b) : ovK K (a ++ b) := by
  intro x hx
  rcases List.mem_append.1 hx with hx | hx
  · exact h x hx
  · exact k x hx
def AskFn (fn : Nat) (lb : Array Value) (f : List Int → Bool) (K : Int) (w : World) : Prop := ∀ W (u : List Int) (n : Nat) (a : Option Addr) (c : Nat), u.length = n → ovK K u → n ≤ 100000 → Below w.heap.size w W → Sl W (.slice a n c) (ints u) → Calls Try.prog fn (#[.slice a n c] ++ lb) W fun e w' => e = .returned (.bool (f u)) ∧ Below W.heap.size W w'
theorem strKl : Go.Maps.Keyed Try.prog 9 := Go.Maps.string_keyed Try.underlying9
set_option maxHeartbeats 4000000 in
set_option maxRecDepth 100000 in
theorem memberE (fn : Nat) (lb : Array Value) (f : List Int → Bool) (b mb c : Nat) (hc : c ≤ 1000000000) (k : Int) (av tv rv : Value) (u : List Int) (n : Nat) (hn : u.length = n) (K : Int) (hK6 : K ≤ 256) (hov : ovK K u) (hn2 : n ≤ 100000) (a : Option Addr) (cc : Nat) (w : World) (eg : ∀ args w, (callFunc fn args).run Try.prog w = .ok (.enter fn args) w)
    (hf : AskFn fn lb f K w) (hb : w.heap[b]? = some (.cells #[.int .i64 k, .func (.func fn) #[] lb, .map (some mb), av, tv, rv] 43 (0, 0))) (hK : KN f mb c w) (hS : Sl w (.slice a n cc) (ints u)) :
    Calls Try.prog 28 #[.pointer (some ⟨b, 0, none⟩), .slice a n cc] w fun e w' => ∃ c', e = .returned (.bool (f u)) ∧ KN f mb c' w' ∧ c' ≤ c + 1 ∧ w.grownBy w' (some mb) := by
  have hu : byteW u := fun y hy => by have := hov y hy; omega
  obtain ⟨F, hk, hF⟩ := hK
  have HKEY := Lib.hid (keyL u n hn hu (by omega) a cc w hS)
  have HUL : Hid ((u8b u).length = n) := by show _ = _; rw [u8b, List.length_map]; exact hn
  unfold AskFn at hf
  have HASK := Lib.hid hf
  have HKM := Lib.hid hk
  have HFF := Lib.hid hF
  have HBX := Lib.hid hb
  have HSL := Lib.hid hS
  have HN := Lib.hid hn
  have HU := Lib.hid hu
  have HOV := Lib.hid hov
  obtain ⟨PST, HP⟩ := nameIt (fun (e : Ending) (w' : World) => ∃ c', e = .returned (.bool (f u)) ∧ KN f mb c' w' ∧ c' ≤ c + 1 ∧ w.grownBy w' (some mb))
  have HFIN : Hid (∀ c' w', KN f mb c' w' → c' ≤ c + 1 → w.grownBy w' (some mb) → PST (.returned (.bool (f u))) w') := by
    intro c' w' h1 h2 h3; rw [← HP.out]; exact ⟨c', rfl, h1, h2, h3⟩
  rw [HP.out]
  obtain ⟨r, HR⟩ := nameIt (f u)
  rw [HR.out] at HFIN
  clear hk hF hf hb hS hn hu HP
  go_enter Try.func28, Try.ntmps28
  go_wp2_with fail
  with_reducible refine HKEY.out.mono ?_
  rintro e w1 ⟨s, rfl, hbs, hb1⟩
  have hss : s.size ≤ maxLen := by rw [hbs.size, HUL.out]; unfold maxLen; omega
  have hkey := key_string s _ hbs hss
  have HB1 := Lib.hid hb1
  have HK1 := Lib.hid (HKM.out.keep hb1)
  have HX1 := Lib.hid (bx_keep HBX.out hb1)
  obtain ⟨x0, x1, x2, x3, x4, x5⟩ := bx_cells6 HX1.out
  obtain ⟨hl1, hl2⟩ := HK1.out.lookB strKl Try.underlying40 hkey
  have HKY := Lib.hid hkey
  clear hb1 hss hkey hbs
  cases hFu : F (.string (u8b u)) with
  | some y =>
    obtain ⟨v, hv1, hv2, hv3⟩ := HFF.out _ _ hFu
    have hvu : v = u := u8b_inj hv1 HU.out (by simpa using hv2.symm)
    subst hvu
    rw [HR.out] at hv3
    subst hv3
    have hl := hl1 r hFu
    have HE := Lib.hid (HFIN.out c w1 ⟨F, HK1.out, HFF.out⟩ (by omega) (grown_below HB1.out _))
    clear hl1 hl2 hFu hv1 hv2
    go_wp2_with fail
    exact HE.out
  | none =>
    have hl := hl2 hFu
    have HFU := Lib.hid hFu
    clear hl1 hl2 hFu
    have HCL : Hid (∀ W, Below w1.heap.size w1 W → Calls Try.prog 19 #[.slice a n cc] W (NewInts u W)) := fun W hb => clone_int _ u W ((HSL.out.keep HB1.out).keep hb) (by have := HN.out; omega)
    have HS : Hid (∀ W, Below w1.heap.size w1 W → (fun w' => w'.cell? ⟨b, 0 + 1, none⟩ = some (.func (.func fn) #[] lb)) W) := fun W hb => (hb.cell (p := ⟨b, 0 + 1, none⟩) (lt_of_cell x1)).trans x1
    go_upto_region 4 with fail
    refine wp_region_U (S := (fun w' => w'.cell? ⟨b, 0 + 1, none⟩ = some (.func (.func fn) #[] lb))) 6 (by kernel_rfl) (fun inv => ?_)
    refine wpU_take (i := 0) (v := .pointer (some ⟨b, 0, none⟩)) rfl inv (by kernel_rfl) (by kernel_rfl) (by decide) (by decide) (by kernel_rfl) (by kernel_rfl) (by kernel_rfl) (fun _ _ _ h => h) (Or.inl ⟨by rfl, fun w' hw' => ?_⟩) (HS.out _ (Below.refl _ _).drew) (fun inv => ?_)
    · obtain h0 := hw'
      go_simp
    try simp only [Act.put, List.setIfInBounds_toArray, List.set_cons_zero, List.set_cons_succ]
    refine wpU_take (i := 1) (v := .pointer (some ⟨b, 0, none⟩)) rfl inv (by kernel_rfl) (by kernel_rfl) (by decide) (by decide) (by kernel_rfl) (by kernel_rfl) (by kernel_rfl) (fun _ _ _ h => h) (Or.inl ⟨by rfl, fun w' hw' => ?_⟩) (HS.out _ (Below.refl _ _).drew) (fun inv => ?_)
    · obtain h0 := hw'
      go_simp
    try simp only [Act.put, List.setIfInBounds_toArray, List.set_cons_zero, List.set_cons_succ]
    refine wpU_take (i := 2) (v := .pointer (some ⟨b, 0 + 1, none⟩)) rfl inv (by kernel_rfl) (by kernel_rfl) (by decide) (by decide) (by kernel_rfl) (by kernel_rfl) (by kernel_rfl) (fun _ _ _ h => h) (Or.inl ⟨by rfl, fun w' hw' => ?_⟩) (HS.out _ (Below.refl _ _).drew) (fun inv => ?_)
    · obtain h0 := hw'
      go_simp
    try simp only [Act.put, List.setIfInBounds_toArray, List.set_cons_zero, List.set_cons_succ]
    refine wpU_take (i := 3) (v := .func (.func fn) #[] lb) rfl inv (by kernel_rfl) (by kernel_rfl) (by decide) (by decide) (by kernel_rfl) (by kernel_rfl) (by kernel_rfl) (fun _ _ _ h => h) (Or.inl ⟨by rfl, fun w' hw' => ?_⟩) (HS.out _ (Below.refl _ _).drew) (fun inv => ?_)
    · obtain h0 := hw'
      go_simp
    try simp only [Act.put, List.setIfInBounds_toArray, List.set_cons_zero, List.set_cons_succ]
    refine wpU_take (i := 4) (v := .slice a n cc) rfl inv (by kernel_rfl) (by kernel_rfl) (by decide) (by decide) (by kernel_rfl) (by kernel_rfl) (by kernel_rfl) (fun _ _ _ h => h) (Or.inl ⟨by rfl, fun w' hw' => ?_⟩) (HS.out _ (Below.refl _ _).drew) (fun inv => ?_)
    · obtain h0 := hw'
      go_simp
    try simp only [Act.put, List.setIfInBounds_toArray, List.set_cons_zero, List.set_cons_succ]
    refine wpU_one (i := 5) (by kernel_rfl) rfl (fun K hK => ?_)
    go_simp
    refine (HCL.out _ (Below.refl _ _).drew).mono ?_
    rintro e w2 ⟨a2, c2, rfl, ho2, hb2⟩
    have hb12 : Below w1.heap.size w1 w2 := (Below.refl _ _).drew.trans hb2
    have HB2 := Lib.hid hb12
    have HSL2 := Lib.hid (sl_of_own ho2)
    rw [HN.out] at HSL2 ⊢
    clear ho2 hb2
    refine hK.out _ _ (fun _ => HS.out _ HB2.out) ?_
    clear hK K
    try simp only [Act.put, List.setIfInBounds_toArray, List.set_cons_zero, List.set_cons_succ]
    refine wpU_one (i := 6) (by kernel_rfl) rfl (fun K hK => ?_)
    go_simp
    refine (HASK.out w2 u n a2 c2 HN.out HOV.out hn2 (HB1.out.trans (HB2.out.mono HB1.out.size)) HSL2.out).mono ?_
    rintro e w3 ⟨rfl, hb3⟩
    have HB3 := Lib.hid (HB2.out.trans (hb3.mono HB2.out.size))
    rw [HR.out]
    clear hb3 hb12
    refine hK.out _ _ (fun h => absurd (show true = false from h) (by decide)) ?_
    clear hK K
    try simp only [Act.put, List.setIfInBounds_toArray, List.set_cons_zero, List.set_cons_succ]
    refine wpU_one (i := 7) (by kernel_rfl) rfl (fun K hK => ?_)
    go_simp
    refine hK.out _ _ (fun h => absurd (show true = false from h) (by decide)) ?_
    clear hK K
    try simp only [Act.put, List.setIfInBounds_toArray, List.set_cons_zero, List.set_cons_succ]
    refine wpU_done (by kernel_rfl) ?_ _
    obtain ⟨w4, hup, hk4, hg4⟩ := (HK1.out.keep HB3.out).store strKl Try.underlying40 (by unfold maxLen; omega) HKY.out (velBool r)
    rw [HFU.out] at hk4
    obtain ⟨y0, y1, y2, y3, y4, y5⟩ := bx_cells6 (bx_keep HX1.out HB3.out)
    have HE := Lib.hid (HFIN.out _ w4 ⟨_, hk4, fun l x hx => by
      by_cases e : l = .string (u8b u)
      · subst e
        rw [put_same] at hx
        cases hx
        exact ⟨u, HU.out, rfl, by rw [HR.out]⟩
      · rw [put_other _ _ e] at hx
        exact HFF.out _ _ hx⟩ (Nat.le_refl _) (grown_trans (grown_below (HB1.out.trans (HB3.out.mono HB1.out.size)) _) hg4))
    clear hk4 hg4 x0 x1 x2 x3 x4 x5 hl
    go_wp2_with fail
    exact HE.out
end Lr
end Go.Proofs.Ytclpmmbclgihbaa
namespace Go.Proofs.Ytclpmmbclgihbaa
open Go.RowKit
namespace Lr
open Df Km

/-- a slice stays when a map changes -/
theorem sl_map {f : List Int → Bool} {mb c : Nat} {w w' : World} {v : Value} {L : List Value} (h : Sl w v L) (hk : KN f mb c w) (hg : w.grownBy w' (some mb)) : Sl w' v L := by
  obtain ⟨a, cap, e1, e2, e3, e4, hc⟩ := h
  refine ⟨a, cap, e1, e2, e3, e4, fun i hi => ?_⟩
  obtain ⟨x, hx, h2⟩ := hc i hi
  refine ⟨x, hx, ?_⟩
  have hlt := lt_of_cell h2
  have hne : (x.add i).block ≠ mb := by
    intro e
    obtain ⟨F, ⟨D, ⟨es, ck, h3, _⟩, _⟩, _⟩ := hk
    rw [← e] at h3
    simp [World.cell?, h3] at h2
  have := hg.block _ hlt (fun e => hne (Option.some.inj e))
  rw [← h2]
  simp only [World.cell?, this]
theorem cell_map {f : List Int → Bool} {mb c : Nat} {w w' : World} {x : Addr} {v : Value} (h2 : w.cell? x = some v) (hk : KN f mb c w) (hg : w.grownBy w' (some mb)) : w'.cell? x = some v := by
  have hlt := lt_of_cell h2
  have hne : x.block ≠ mb := by
    intro e
    obtain ⟨F, ⟨D, ⟨es, ck, h3, _⟩, _⟩, _⟩ := hk
    rw [← e] at h3
    simp [World.cell?, h3] at h2
  have := hg.block _ hlt (fun e => hne (Option.some.inj e))
  rw [← h2]
  simp only [World.cell?, this]
def bitsT (f : List Int → Bool) (u : List Int) (T : List (List Int)) : List Int := T.map fun t => if f (u ++ t) then 1 else 0
set_option maxHeartbeats 4000000 in
set_option maxRecDepth 100000 in
theorem rowE (fn : Nat) (lb : Array Value) (f : List Int → Bool) (b mb c : Nat) (hc : c + 5000 ≤ 1000000000) (k : Int) (av rv : Value) (T : List (List Int)) (m : Nat) (hm : T.length = m) (hm2 : m ≤ 5000) (K : Int) (hK6 : K ≤ 256) (hT : ∀ t ∈ T, ovK K t ∧ t.length ≤ 5000) (ta : Option Addr) (tc : Nat) (u : List Int) (n : Nat) (hn : u.length = n) (hu : ovK K u) (hn2 : n ≤ 5000) (a : Option Addr) (cc : Nat) (w : World) (eg : ∀ args w, (callFunc fn args).run Try.prog w = .ok (.enter fn args) w)
    (hf : ∀ W, w.grownBy W (some mb) → AskFn fn lb f K W) (hb : w.heap[b]? = some (.cells #[.int .i64 k, .func (.func fn) #[] lb, .map (some mb), av, .slice ta m tc, rv] 43 (0, 0))) (hK : KN f mb c w) (hS : Sl w (.slice a n cc) (ints u)) (hR : Rd (fun k => k ≠ mb) w (.sl (T.map D.ints)) [.slice ta m tc]) (hbm : b ≠ mb) :
    Calls Try.prog 27 #[.pointer (some ⟨b, 0, none⟩), .slice a n cc] w fun e w' => ∃ (c' : Nat) (s : ByteArray), e = .returned (.string s) ∧ Bts s (u8b (bitsT f u T)) ∧ KN f mb c' w' ∧ c' ≤ c + m ∧ w.grownBy w' (some mb) := by
  have hmk : ∀ W : World, (Instr.makeSlice 63 (.int .i64 (m : Int)) (.int .i64 (m : Int))).run Try.prog W = .ok (.slice (some ⟨W.heap.size, 0, none⟩) m m) (W.alloc (.cells (madeCells #[.int .u8 0] m) 5)) := fun W => by
    have := run_make_row' (P := Try.prog) 63 5 (.int .u8 0) 1 Try.underlying63 (by kernel_rfl) rfl .i64 .i64 m (by omega) (by omega) W
    simpa using this
  obtain ⟨w1, HW1⟩ := nameIt (w.alloc (.cells (madeCells #[.int .u8 0] m) 5))
  have hb1 : Below w.heap.size w w1 := by rw [← HW1.out]; exact (Below.refl _ _).alloc (Nat.le_refl _) _
  have hml := hK.lt
  obtain ⟨p, HPN⟩ := nameIt w.heap.size
  have HV1 : Hid (Vrow 5 p m (fun i => .int .u8 (if i < 0 then (bitsT f u T).getD i 0 else 0)) w1) := by
    rw [← HW1.out]
    exact (vrow_new w _ _ m HPN.out.symm).eq fun i _ => by simp
  have HK1 := Lib.hid (hK.keep hb1)
  have HG1 : Hid (w.grownBy w1 (some mb)) := grown_below hb1 _
  have hx1 := bx_keep hb hb1
  obtain ⟨x0, x1, x2, x3, x4, x5⟩ := bx_cells6 hb
  obtain ⟨y0, y1, y2, y3, y4, y5⟩ := bx_cells6 hx1
  have HB := Lib.hid hb
  have HF := Lib.hid hf
  have HKK := Lib.hid hK
  have HSS := Lib.hid hS
  have HRR := Lib.hid hR
  have HTT := Lib.hid hT
  have HM := Lib.hid hm
  have HN := Lib.hid hn
  have HU := Lib.hid hu
  have HPM : Hid (mb < p) := by show _ < _; rw [← HPN.out]; exact hml
  have HBM := Lib.hid hbm
  have hbl := lt_of_cell x0
  obtain ⟨PST, HP⟩ := nameIt (fun (e : Ending) (w' : World) => ∃ (c' : Nat) (s : ByteArray), e = .returned (.string s) ∧ Bts s (u8b (bitsT f u T)) ∧ KN f mb c' w' ∧ c' ≤ c + m ∧ w.grownBy w' (some mb))
  have HFIN : Hid (∀ (c' : Nat) (s : ByteArray) (w' : World), Bts s (u8b (bitsT f u T)) → KN f mb c' w' → c' ≤ c + m → w.grownBy w' (some mb) → PST (.returned (.string s)) w') := by
    intro c' s w' h1 h2 h3 h4; rw [← HP.out]; exact ⟨c', s, rfl, h1, h2, h3, h4⟩
  rw [HP.out]
  clear hb1 hb hf hK hS hR hT hm hn hu hx1 HP hml hbm
  go_enter Try.func27, Try.ntmps27
  go_upto_region 2 with fail
  rw [HW1.out, HPN.out]
  go_wp2_with fail
  go_loopg [6, 7, 19] m (fun gg v6 v7 v19 wr => ∃ i c' : Nat, i ≤ m ∧ m - i ≤ gg ∧ v19 = .int .i64 i ∧ Hid (KN f mb c' wr) ∧ c' ≤ c + i ∧ Hid (Vrow 5 p m (fun j => .int .u8 (if j < i then (bitsT f u T).getD j 0 else 0)) wr) ∧ Hid (w.grownBy wr (some mb)))
  case atStart => exact ⟨0, c, by omega, by omega, rfl, HK1, by omega, HV1, HG1⟩
  case round =>
    clear HK1 HV1 HG1 y0 y1 y2 y3 y4 y5 x0 x1 x2 x3 x4 x5
    obtain ⟨i, c', hi, hg, rfl, HK, hcl, HV, HG⟩ := hrel
    obtain ⟨w2, rfl⟩ : ∃ ww : World, ww = wr := ⟨_, rfl⟩
    by_cases hlt : i < m
    · have hlt' : (i : Int) < (m : Int) := by omega
      have hi0 : (0 : Int) ≤ (i : Int) := by omega
      have htx : i < T.length := by rw [HM.out]; exact hlt
      obtain ⟨bt, off, vt, hae, ct, hsl⟩ := Rd.rowI_at HRR.out htx
      obtain ⟨at', kt, rfl⟩ := hsl.form
      rw [ints_len] at ct hsl
      obtain ⟨htb, htl⟩ := HTT.out _ (List.getElem_mem htx)
      have hbi : (bitsT f u T).getD i 0 = if f (u ++ T[i]) then 1 else 0 := by
        unfold bitsT
        simp [List.getD_eq_getElem?_getD, List.getElem?_eq_getElem htx]
      obtain ⟨t, HT⟩ := nameIt T[i]
      rw [HT.out] at ct hsl htb htl hbi
      have HTB := Lib.hid htb
      have ct2 := cell_map ct HKK.out HG.out
      have hst := sl_map hsl HKK.out HG.out
      have hsu := sl_map HSS.out HKK.out HG.out
      have hx2 : w2.heap[b]? = _ := (HG.out.block b hbl (fun e => HBM.out (Option.some.inj e))).trans HB.out
      obtain ⟨x0, x1, x2, x3, x4, x5⟩ := bx_cells6 hx2
      have q0 := HV.out.cell hlt
      have qf := HV.out.free i
      have hc2 := concat2 w2 w2.heap.size 22 (.slice a n cc) (.slice at' t.length kt) u t rfl hsu hst (by rw [lens_flatten]; simp; have := HN.out; omega)
      have HC2 := Lib.hid hc2
      obtain ⟨tl, HTL⟩ := nameIt t.length
      rw [HTL.out] at ct2 HC2 htl
      have HX2 := Lib.hid hx2
      obtain ⟨r, HR⟩ := nameIt (f (u ++ t))
      rw [HR.out] at hbi
      have HBI := Lib.hid hbi
      have HMB : Hid (∀ (W : World) (v : Nat) (a3 : Option Addr) (c3 : Nat), v = n + tl → Below w2.heap.size w2 W → Sl W (.slice a3 v c3) (ints (u ++ t)) → Calls Try.prog 28 #[.pointer (some ⟨b, 0, none⟩), .slice a3 v c3] W fun e w' => ∃ c', e = .returned (.bool (f (u ++ t))) ∧ KN f mb c' w' ∧ c' ≤ c + i + 1 ∧ W.grownBy w' (some mb)) := fun W v a3 c3 hv hbW hsW => by
        refine (memberE fn lb f b mb c' (by omega) k av (.slice ta m tc) rv (u ++ t) v (by rw [List.length_append, HN.out, HTL.out]; exact hv.symm) K hK6 (ovK_app HU.out HTB.out) (by omega) a3 c3 W eg (HF.out W (grown_trans HG.out (grown_below hbW _))) (bx_keep HX2.out hbW) (HK.out.keep hbW) hsW).mono ?_
        rintro e w' ⟨c4, h1, h2, h3, h4⟩
        exact ⟨c4, h1, h2, by omega, h4⟩
      rw [HR.out] at HMB
      have HVN : Hid (∀ W', Vrow 5 p m (fun j => .int .u8 (if j < i then (bitsT f u T).getD j 0 else 0)) W' → (r = true → Vrow 5 p m (fun j => .int .u8 (if j < i + 1 then (bitsT f u T).getD j 0 else 0)) (W'.setCell ⟨p, i, none⟩ (.int .u8 1))) ∧ (r = false → Vrow 5 p m (fun j => .int .u8 (if j < i + 1 then (bitsT f u T).getD j 0 else 0)) W')) := by
        intro W' h
        refine ⟨fun hr => h.set hlt fun j _ => ?_, fun hr => h.eq fun j _ => ?_⟩
        · by_cases e : j = i
          · subst e; rw [if_pos (by omega), if_pos rfl, HBI.out, hr]; rfl
          · rw [if_neg e]
            by_cases e2 : j < i
            · rw [if_pos e2, if_pos (by omega)]
            · rw [if_neg e2, if_neg (by omega)]
        · by_cases e : j = i
          · subst e; rw [if_neg (by omega), if_pos (by omega), HBI.out, hr]; rfl
          · by_cases e2 : j < i
            · rw [if_pos e2, if_pos (by omega)]
            · rw [if_neg e2, if_neg (by omega)]
      subst hae
      clear ct hsl htb hst hsu hx2 hc2 hbi
      go_wp2_with fail
      with_reducible refine HC2.out.mono ?_
      rintro e w3 ⟨a3, c3, rfl, ho3, hb3⟩
      have hfl : [u, t].flatten = u ++ t := by simp
      have hfn : [u, t].flatten.length = n + tl := by rw [hfl, List.length_append, HN.out, HTL.out]
      have hs3 := sl_of_own ho3
      rw [hfl, show (u ++ t).length = n + tl by rw [List.length_append, HN.out, HTL.out]] at hs3
      rw [hfn]
      obtain ⟨vn, HVNN⟩ := nameIt (n + tl)
      rw [HVNN.out] at hs3 ⊢
      have HM3 := Lib.hid (HMB.out w3 vn a3 c3 HVNN.out.symm hb3 hs3)
      have HB3 := Lib.hid hb3
      clear ho3 hb3 hs3 hfl hfn x0 x1 x2 x3 x4 x5 ct2 q0 qf
      go_wp2_with fail
      with_reducible refine HM3.out.mono ?_
      rintro e w4 ⟨c4, rfl, hk4, hc4, hg4⟩
      have hg24 : w2.grownBy w4 (some mb) := grown_trans (grown_below HB3.out _) hg4
      have HG4 := Lib.hid (grown_trans HG.out hg24)
      have HK4 := Lib.hid hk4
      have hv4 := HV.out.grown hg24 (fun e => by have := HPM.out; simp at e; omega)
      obtain ⟨hva, hvb⟩ := HVN.out w4 hv4
      have q0 := hv4.cell hlt
      have qf := hv4.free i
      clear hk4 hg4 hg24 hv4
      cases r with
      | true =>
        have HV5 := Lib.hid (hva rfl)
        have HK5 : Hid (KN f mb c4 (w4.setCell ⟨p, i, none⟩ (.int .u8 1))) := by
          obtain ⟨F, h1, h2⟩ := HK4.out
          exact ⟨F, h1.setCell (by show mb ≠ p; have := HPM.out; omega) _, h2⟩
        have HG5 : Hid (w.grownBy (w4.setCell ⟨p, i, none⟩ (.int .u8 1)) (some mb)) := by
          have h := HG4.out
          refine ⟨h.os, h.tape, h.output, by rw [World.size_setCell]; exact h.size, fun j hj hne => ?_⟩
          rw [Below.heap_setCell _ _ _ _ (by show j ≠ p; have := HPN.out; omega)]
          exact h.block j hj hne
        clear hva hvb
        go_wp2_with fail
        go_roundg (m - (i + 1))
        case measure => omega
        case rel => exact ⟨i + 1, c4, by omega, by omega, by go_num, HK5, by omega, HV5, HG5⟩
      | false =>
        have HV5 := Lib.hid (hvb rfl)
        clear hva hvb
        go_wp2_with fail
        go_roundg (m - (i + 1))
        case measure => omega
        case rel => exact ⟨i + 1, c4, by omega, by omega, by go_num, HK4, by omega, HV5, HG4⟩
    · obtain rfl : i = m := by omega
      have hlt' : ¬ (i : Int) < (i : Int) := by omega
      have hbl2 : (bitsT f u T).length = i := by rw [bitsT, List.length_map]; exact HM.out
      have hcv := run_convert_bytes_arg (P := Try.prog) w2 63 5 Try.underlying63 Try.underlying5 p 0 i i (bitsT f u T) hbl2 (fun j hj => by
        have h := HV.out.cell hj
        simp only [hj, if_true] at h
        rw [Nat.zero_add]; exact h) 9 Try.underlying9
      have HE := Lib.hid (HFIN.out c' (strOfNums (bitsT f u T)) w2 (bts_nums _) HK.out hcl HG.out)
      obtain ⟨ss, HSN⟩ := nameIt (strOfNums (bitsT f u T))
      rw [HSN.out] at hcv HE
      clear hbl2
      go_wp2_with fail
      exact HE.out
end Lr
end Go.Proofs.Ytclpmmbclgihbaa
namespace Go.Proofs.Ytclpmmbclgihbaa
open Go.RowKit
namespace Df

/-- the different keys of the live ones among the first s, in order -/
def seenTo (M : Nat → Bool) (k : Nat → List UInt8) : Nat → List (List UInt8)
  | 0 => []
  | s + 1 => if M s = true ∧ k s ∉ seenTo M k s then seenTo M k s ++ [k s] else seenTo M k s
def numP (M : Nat → Bool) (k : Nat → List UInt8) (n i : Nat) : Int := if M i = true then ((seenTo M k n).idxOf (k i) : Int) else -1
section
variable {M : Nat → Bool} {k : Nat → List UInt8}
theorem seenTo_mem : ∀ {s i : Nat}, i < s → M i = true → k i ∈ seenTo M k s
  | 0, i, h, _ => by omega
  | s + 1, i, h, hm => by
    unfold seenTo
    by_cases e : i = s
    · subst e
      by_cases h2 : k i ∈ seenTo M k i
      · rw [if_neg (fun h => h.2 h2)]; exact h2
      · rw [if_pos ⟨hm, h2⟩]; simp
    · have := seenTo_mem (s := s) (i := i) (by omega) hm
      split
      · exact List.mem_append.2 (.inl this)
      · exact this
theorem seenTo_prefix {s : Nat} : ∀ {n : Nat}, s ≤ n → seenTo M k s <+: seenTo M k n
  | 0, h => by rw [show s = 0 by omega]; exact List.prefix_refl _
  | n + 1, h => by
    by_cases e : s = n + 1
    · subst e; exact List.prefix_refl _
    · refine (seenTo_prefix (n := n) (by omega)).trans ?_
      show _ <+: (if _ then _ else _)
      split
      · exact List.prefix_append _ _
      · exact List.prefix_refl _
theorem idxOf_prefix {L L' : List (List UInt8)} {b : List UInt8} (h : L <+: L') (hb : b ∈ L) : L'.idxOf b = L.idxOf b := by
  obtain ⟨t, rfl⟩ := h
  rw [List.idxOf_append, if_pos hb]
theorem numP_at {s n : Nat} (hs : s < n) (hm : M s = true) : numP M k n s = ((seenTo M k (s + 1)).idxOf (k s) : Int) := by
  unfold numP
  rw [if_pos hm, idxOf_prefix (seenTo_prefix hs) (seenTo_mem (Nat.lt_succ_self s) hm)]
theorem seenTo_nodup : ∀ {s : Nat}, (seenTo M k s).Nodup
  | 0 => List.nodup_nil
  | s + 1 => by
    unfold seenTo
    split
    · rename_i h
      exact List.nodup_append.2 ⟨seenTo_nodup, by simp, fun a ha b hb e => by simp at hb; subst hb; subst e; exact h.2 ha⟩
    · exact seenTo_nodup
theorem seenTo_len : ∀ (s : Nat), (seenTo M k s).length ≤ s
  | 0 => Nat.le_refl _
  | s + 1 => by
    have := seenTo_len s
    unfold seenTo
    split
    · rw [List.length_append]; simp; omega
    · omega
theorem seenTo_from : ∀ {s : Nat} {b : List UInt8}, b ∈ seenTo M k s → ∃ i, i < s ∧ M i = true ∧ k i = b
  | 0, b, h => by cases h
  | s + 1, b, h => by
    unfold seenTo at h
    split at h
    · rename_i h2
      rcases List.mem_append.1 h with h | h
      · obtain ⟨i, h3, h4⟩ := seenTo_from h
        exact ⟨i, by omega, h4⟩
      · simp at h
        exact ⟨s, by omega, h2.1, h.symm⟩
    · obtain ⟨i, h3, h4⟩ := seenTo_from h
      exact ⟨i, by omega, h4⟩
theorem numP_range {n i : Nat} (hi : i < n) : -1 ≤ numP M k n i ∧ numP M k n i < n := by
  unfold numP
  by_cases h : M i = true
  · rw [if_pos h]
    have h1 := List.idxOf_lt_length_of_mem (seenTo_mem (M := M) (k := k) hi h)
    have h2 := seenTo_len (M := M) (k := k) n
    omega
  · rw [if_neg h]; omega
theorem numP_neg {n i : Nat} : numP M k n i < 0 ↔ M i = false := by
  unfold numP
  by_cases h : M i = true
  · rw [if_pos h, h]; simp
  · rw [if_neg h]; simp at h; simp [h]
theorem numP_eq {n i j : Nat} (hi : i < n) (hj : j < n) (hmi : M i = true) (hmj : M j = true) : numP M k n i = numP M k n j ↔ k i = k j := by
  unfold numP
  rw [if_pos hmi, if_pos hmj]
  constructor
  · intro h
    have h1 := seenTo_mem (M := M) (k := k) hi hmi
    have h2 : (seenTo M k n).idxOf (k i) = (seenTo M k n).idxOf (k j) := by omega
    have h3 := List.getElem_idxOf (List.idxOf_lt_length_of_mem h1)
    have h4 := List.getElem_idxOf (List.idxOf_lt_length_of_mem (seenTo_mem (M := M) (k := k) hj hmj))
    rw [← h3, ← h4]
    simp only [h2]
  · intro h; rw [h]
end
/-- what the map has -/
def FS (S : List (List UInt8)) : Lit → Option Lit
  | .string b => if b ∈ S then some (.int .i64 (S.idxOf b : Int)) else none
  | _ => none
theorem fS_nil : FS [] = fun _ => none := by
  funext l
  cases l <;> simp [FS]
theorem fS_put {S : List (List UInt8)} {b : List UInt8} (h : b ∉ S) (l : Lit) : Km.put (FS S) (.string b) (.int .i64 (S.length : Int)) l = FS (S ++ [b]) l := by
  by_cases e : l = .string b
  · subst e
    rw [Km.put_same]
    simp only [FS]
    rw [if_pos (by simp), List.idxOf_append, if_neg h]
    simp
  · rw [Km.put_other _ _ e]
    cases l with
    | string b' =>
      have hne : b' ≠ b := fun h => e (by rw [h])
      simp only [FS]
      by_cases h2 : b' ∈ S
      · rw [if_pos h2, if_pos (List.mem_append.2 (.inl h2)), List.idxOf_append, if_pos h2]
      · rw [if_neg h2, if_neg (by simp [h2, hne])]
    | _ => rfl
end Df
end Go.Proofs.Ytclpmmbclgihbaa
namespace Go.Proofs.Ytclpmmbclgihbaa
open Go.RowKit
namespace Cl
open Df Lr

/-- the row of a word, as the map's key -/
def rwT (f : List Int → Bool) (T : List (List Int)) (u : List Int) : List UInt8 := u8b (bitsT f u T)
def ks (f : List Int → Bool) (T : List (List Int)) (A : List (List Int)) : List (List UInt8) := A.map (rwT f T)
def stepA (f : List Int → Bool) (T : List (List Int)) (A : List (List Int)) (x : List Int) : List (List Int) := if rwT f T x ∈ ks f T A then A else A ++ [x]
/-- behind c symbols of the word u -/
def extA (f : List Int → Bool) (T : List (List Int)) (u : List Int) (A : List (List Int)) (c : Nat) : List (List Int) := (List.range c).foldl (fun A (c : Nat) => stepA f T A (u ++ [(c : Int)])) A
section
variable {f : List Int → Bool} {T : List (List Int)}
theorem extA_next (u : List Int) (A : List (List Int)) (c : Nat) : extA f T u A (c + 1) = stepA f T (extA f T u A c) (u ++ [(c : Int)]) := by
  unfold extA
  rw [List.range_succ, List.foldl_append]
  rfl
theorem stepA_prefix (A : List (List Int)) (x : List Int) : A <+: stepA f T A x := by
  unfold stepA
  split
  · exact List.prefix_refl _
  · exact List.prefix_append _ _
theorem extA_prefix (u : List Int) (A : List (List Int)) : ∀ c, A <+: extA f T u A c
  | 0 => List.prefix_refl _
  | c + 1 => by rw [extA_next]; exact (extA_prefix u A c).trans (stepA_prefix _ _)
theorem ks_prefix {A B : List (List Int)} (h : A <+: B) : ks f T A <+: ks f T B := by
  obtain ⟨t, rfl⟩ := h
  unfold ks
  rw [List.map_append]
  exact List.prefix_append _ _
theorem idx_prefix {L M : List (List UInt8)} {b : List UInt8} (h : L <+: M) (hb : b ∈ L) : M.idxOf b = L.idxOf b := by
  obtain ⟨t, rfl⟩ := h
  rw [List.idxOf_append, if_pos hb]
theorem stepA_mem (A : List (List Int)) (x : List Int) : rwT f T x ∈ ks f T (stepA f T A x) := by
  unfold stepA
  split
  · rename_i h; exact h
  · unfold ks; simp
theorem extA_mem (u : List Int) (A : List (List Int)) {c : Nat} : ∀ {m : Nat}, c < m → rwT f T (u ++ [(c : Int)]) ∈ ks f T (extA f T u A m)
  | 0, h => by omega
  | m + 1, h => by
    rw [extA_next]
    by_cases e : c = m
    · subst e; exact stepA_mem _ _
    · exact (ks_prefix (stepA_prefix _ _)).subset (extA_mem u A (c := c) (m := m) (by omega))
end
/-- when i words have been walked -/
def discA (f : List Int → Bool) (T : List (List Int)) (k : Nat) (A0 : List (List Int)) : Nat → List (List Int)
  | 0 => A0
  | i + 1 => match (discA f T k A0 i)[i]? with
    | none => discA f T k A0 i
    | some u => extA f T u (discA f T k A0 i) k
structure OkA (f : List Int → Bool) (T : List (List Int)) (k : Nat) (A : List (List Int)) : Prop where
  nd : (ks f T A).Nodup
  len : ∀ u ∈ A, u.length ≤ A.length
  sym : ∀ u ∈ A, ∀ y ∈ u, 0 ≤ y ∧ y < k
section
variable {f : List Int → Bool} {T : List (List Int)} {k : Nat} {A0 : List (List Int)}
theorem stepA_ok {A : List (List Int)} {x : List Int} (h : OkA f T k A) (h1 : x.length ≤ A.length + 1) (h2 : ∀ y ∈ x, 0 ≤ y ∧ y < k) : OkA f T k (stepA f T A x) := by
  unfold stepA
  split
  · exact h
  · rename_i hn
    refine ⟨?_, fun u hu => ?_, fun u hu => ?_⟩
    · unfold ks
      rw [List.map_append]
      refine List.nodup_append.2 ⟨h.nd, by simp, fun a ha b hb e => ?_⟩
      simp at hb
      subst hb
      subst e
      exact hn ha
    · rw [List.length_append]
      rcases List.mem_append.1 hu with hu | hu
      · have := h.len u hu; simp; omega
      · simp at hu; subst hu; simpa using h1
    · rcases List.mem_append.1 hu with hu | hu
      · exact h.sym u hu
      · simp at hu; subst hu; exact h2
theorem extA_ok {A : List (List Int)} {u : List Int} (h : OkA f T k A) (h1 : u.length ≤ A.length) (h2 : ∀ y ∈ u, 0 ≤ y ∧ y < k) : ∀ c, c ≤ k → OkA f T k (extA f T u A c)
  | 0, _ => h
  | c + 1, hc => by
    rw [extA_next]
    refine stepA_ok (extA_ok h h1 h2 c (by omega)) ?_ ?_
    · have := (extA_prefix (f := f) (T := T) u A c).length_le
      rw [List.length_append]; simp; omega
    · intro y hy
      rcases List.mem_append.1 hy with hy | hy
      · exact h2 y hy
      · simp at hy; subst hy; omega
theorem discA_ok (h : OkA f T k A0) : ∀ i, OkA f T k (discA f T k A0 i)
  | 0 => h
  | i + 1 => by
    show OkA f T k (match (discA f T k A0 i)[i]? with | none => _ | some u => _)
    cases he : (discA f T k A0 i)[i]? with
    | none => exact discA_ok h i
    | some u =>
      have hm := List.mem_of_getElem? he
      exact extA_ok (discA_ok h i) ((discA_ok h i).len u hm) ((discA_ok h i).sym u hm) k (Nat.le_refl _)
theorem discA_prefix (i : Nat) : discA f T k A0 i <+: discA f T k A0 (i + 1) := by
  show _ <+: (match (discA f T k A0 i)[i]? with | none => _ | some u => _)
  cases (discA f T k A0 i)[i]? with
  | none => exact List.prefix_refl _
  | some u => exact extA_prefix _ _ _
theorem discA_to {i : Nat} : ∀ {j : Nat}, i ≤ j → discA f T k A0 i <+: discA f T k A0 j
  | 0, h => by rw [show i = 0 by omega]; exact List.prefix_refl _
  | j + 1, h => by
    by_cases e : i = j + 1
    · subst e; exact List.prefix_refl _
    · exact (discA_to (j := j) (by omega)).trans (discA_prefix j)
theorem discA_end {i : Nat} (h : (discA f T k A0 i).length ≤ i) : ∀ {j : Nat}, i ≤ j → discA f T k A0 j = discA f T k A0 i
  | 0, h2 => by rw [show i = 0 by omega]
  | j + 1, h2 => by
    by_cases e : i = j + 1
    · rw [e]
    · have ih := discA_end h (j := j) (by omega)
      show (match (discA f T k A0 j)[j]? with | none => _ | some s => _) = _
      rw [ih, List.getElem?_eq_none (by omega)]
theorem getP {α : Type} {S S' : List α} (hp : S <+: S') {i : Nat} {s : α} (h : S[i]? = some s) : S'[i]? = some s := by
  obtain ⟨u, rfl⟩ := hp
  have := (List.getElem?_eq_some_iff.1 h).1
  rw [List.getElem?_append_left this]; exact h
theorem takeP {α : Type} {S S' : List α} (hp : S <+: S') {i : Nat} (hi : i ≤ S.length) : S'.take i = S.take i := by
  obtain ⟨u, rfl⟩ := hp
  rw [List.take_append_of_le_length hi]
/-- what the symbols behind a walked word lead to has come up -/
theorem discA_known : ∀ (i q : Nat), q < i → ∀ u, (discA f T k A0 i)[q]? = some u → q < (discA f T k A0 q).length → ∀ c, c < k → rwT f T (u ++ [(c : Int)]) ∈ ks f T (discA f T k A0 i)
  | 0, q, h, _, _, _ => by omega
  | i + 1, q, h, u, hu, hl => by
    intro c hc
    have hs' : (discA f T k A0 q)[q]? = some ((discA f T k A0 q)[q]'hl) := List.getElem?_eq_getElem hl
    have e1 := getP (discA_to (f := f) (T := T) (k := k) (A0 := A0) (i := q) (j := i + 1) (by omega)) hs'
    rw [e1] at hu
    cases hu
    by_cases e : q = i
    · subst e
      show _ ∈ ks f T (match (discA f T k A0 q)[q]? with | none => _ | some u => _)
      rw [hs']
      exact extA_mem _ _ hc
    · exact (ks_prefix (discA_prefix i)).subset (discA_known i q (by omega) _ (getP (discA_to (i := q) (j := i) (by omega)) hs') hl c hc)
end
def valA (f : List Int → Bool) (T : List (List Int)) (A : List (List Int)) (x : List Int) : Int := ((ks f T A).idxOf (rwT f T x) : Int)
def rowA (f : List Int → Bool) (T : List (List Int)) (k : Nat) (A : List (List Int)) (u : List Int) : List Int := (List.range k).map fun (c : Nat) => valA f T A (u ++ [(c : Int)])
def rowsA (f : List Int → Bool) (T : List (List Int)) (k : Nat) (A0 : List (List Int)) (i : Nat) : List (List Int) := ((discA f T k A0 i).take i).map (rowA f T k (discA f T k A0 i))
def accsA (f : List Int → Bool) (T : List (List Int)) (k : Nat) (A0 : List (List Int)) (i : Nat) : List Int := ((discA f T k A0 i).take i).map fun u => if f u then 0 else -1
section
variable {f : List Int → Bool} {T : List (List Int)} {k : Nat} {A0 : List (List Int)}
theorem valA_prefix {A B : List (List Int)} {x : List Int} (hp : A <+: B) (h : rwT f T x ∈ ks f T A) : valA f T B x = valA f T A x := by
  unfold valA
  rw [idx_prefix (ks_prefix hp) h]
theorem rowsA_next {i : Nat} {u : List Int} (hal : ∀ q, q < i → q < (discA f T k A0 q).length) (h : (discA f T k A0 i)[i]? = some u) : rowsA f T k A0 (i + 1) = rowsA f T k A0 i ++ [rowA f T k (discA f T k A0 (i + 1)) u] := by
  have hp := discA_prefix (f := f) (T := T) (k := k) (A0 := A0) i
  have h1 := getP hp h
  obtain ⟨hl, e1⟩ := List.getElem?_eq_some_iff.1 h
  obtain ⟨hl1, e2⟩ := List.getElem?_eq_some_iff.1 h1
  unfold rowsA
  rw [List.take_succ_eq_append_getElem hl1, List.map_append, takeP hp (Nat.le_of_lt hl), e2]
  refine congrArg (· ++ _) (List.map_congr_left fun u' hu' => ?_)
  obtain ⟨q, hq, e3⟩ := List.getElem_of_mem hu'
  rw [List.length_take] at hq
  rw [List.getElem_take] at e3
  unfold rowA
  refine List.map_congr_left fun c hc => valA_prefix hp (discA_known i q (by omega) u' (by rw [List.getElem?_eq_getElem (by omega), e3]) (hal q (by omega)) c (List.mem_range.1 hc))
theorem accsA_next {i : Nat} {u : List Int} (h : (discA f T k A0 i)[i]? = some u) : accsA f T k A0 (i + 1) = accsA f T k A0 i ++ [if f u then 0 else -1] := by
  have hp := discA_prefix (f := f) (T := T) (k := k) (A0 := A0) i
  have h1 := getP hp h
  obtain ⟨hl, e1⟩ := List.getElem?_eq_some_iff.1 h
  obtain ⟨hl1, e2⟩ := List.getElem?_eq_some_iff.1 h1
  unfold accsA
  rw [List.take_succ_eq_append_getElem hl1, List.map_append, takeP hp (Nat.le_of_lt hl), e2]
  rfl
theorem rowsA_end {i n : Nat} (h : (discA f T k A0 i).length ≤ i) (hi : i ≤ n) : rowsA f T k A0 n = rowsA f T k A0 i ∧ accsA f T k A0 n = accsA f T k A0 i := by
  have e := discA_end h hi
  unfold rowsA accsA
  rw [e, List.take_of_length_le (by omega), List.take_of_length_le h]
  exact ⟨rfl, rfl⟩
end
end Cl
end Go.Proofs.Ytclpmmbclgihbaa
namespace Go.Proofs.Ytclpmmbclgihbaa
open Go.RowKit

/-- a condition of numbers, as a function value -/
def PredAt (g : Nat) (lb : Array Value) (l : List Int) (p : Int → Bool) (w : World) : Prop :=
  ∀ (W : World) (x : Int), x ∈ l → Below w.heap.size w W → Calls Try.prog g (#[.int .i64 x] ++ lb) W fun e w' => e = .returned (.bool (p x)) ∧ Below W.heap.size W w'
def idxBy (p : Int → Bool) (l : List Int) : Int := if l.any p then (l.findIdx p : Int) else -1
theorem idxBy_hit {p : Int → Bool} {l : List Int} {i : Nat} (hi : i < l.length) (h : p l[i] = true) (hn : ∀ j (h : j < l.length), j < i → p l[j] = false) : idxBy p l = i := by
  have h1 : l.any p = true := List.any_eq_true.2 ⟨l[i], List.getElem_mem hi, h⟩
  rw [idxBy, if_pos h1]
  have : l.findIdx p = i := by
    rw [List.findIdx_eq hi]
    exact ⟨h, fun j hj => by simp [hn j (by omega) hj]⟩
  rw [this]
theorem idxBy_none {p : Int → Bool} {l : List Int} (hn : ∀ j (h : j < l.length), p l[j] = false) : idxBy p l = -1 := by
  have h1 : l.any p = false := by
    rw [List.any_eq_false]
    intro x hx
    obtain ⟨j, hj, rfl⟩ := List.getElem_of_mem hx
    simp [hn j hj]
  rw [idxBy, if_neg (by simp [h1])]
theorem idxBy_ge (p : Int → Bool) (l : List Int) : decide (0 ≤ idxBy p l) = l.any p := by
  unfold idxBy
  cases h : l.any p <;> simp [h]

set_option maxHeartbeats 1000000 in
theorem indexFunc (g : Nat) (lb : Array Value) (p : Int → Bool) (a : Option Addr) (cap : Nat) (l : List Int) (w : World) (eg : ∀ args w, (callFunc g args).run Try.prog w = .ok (.enter g args) w)
    (hf : PredAt g lb l p w) (hl : Sl w (.slice a l.length cap) (ints l)) :
    Calls Try.prog 44 #[.slice a l.length cap, .func (.func g) #[] lb] w fun e w' => e = .returned (.int .i64 (idxBy p l)) ∧ Below w.heap.size w w' := by
  have HL := Lib.hid hl
  have HF := Lib.hid hf
  have hc := hl.len.2
  unfold maxLen at hc
  obtain ⟨hc1, hc2⟩ := hc
  clear hl hf
  go_enter Try.func44, Try.ntmps44
  go_wp2
  go_loopg [8] l.length (fun gg v8 wr => ∃ i : Nat, i ≤ l.length ∧ l.length - i ≤ gg ∧ v8 = .int .i64 i ∧ Hid (Below w.heap.size w wr) ∧ Hid (∀ j (h : j < l.length), j < i → p l[j] = false))
  case atStart => exact ⟨0, by omega, by omega, rfl, Below.refl _ _, fun j _ hj => by omega⟩
  case round =>
    obtain ⟨i, hi, hg, rfl, HB, HN⟩ := hrel
    by_cases hlt : i < l.length
    · have hlt' : (i : Int) < (l.length : Int) := by omega
      obtain ⟨ba, oa, hae, hca⟩ := (HL.out.keep HB.out).at hlt
      have c1 := hca i (by rw [ints_len]; exact hlt)
      rw [ints_get] at c1
      obtain ⟨x, HX⟩ := nameIt (l[i]'hlt)
      rw [HX.out] at c1
      subst hae
      clear hca
      go_wp2_with fail
      refine (HF.out _ x (by rw [← HX.out]; exact List.getElem_mem hlt) HB.out).mono ?_
      rintro e w6 ⟨rfl, hb6⟩
      have HB6 := Lib.hid (HB.out.trans (hb6.mono HB.out.size))
      clear hb6 c1
      cases hp : p x with
      | true =>
        have HE : Hid (idxBy p l = i) := idxBy_hit hlt (by rw [HX.out]; exact hp) HN.out
        clear hp
        go_wp2
        go_ret
        exact ⟨by rw [HE.out]; rfl, HB6.out⟩
      | false =>
        have HN2 : Hid (∀ j (h : j < l.length), j < i + 1 → p l[j] = false) := by
          intro j h hj
          by_cases e : j = i
          · subst e; rw [HX.out]; exact hp
          · exact HN.out j h (by omega)
        clear hp
        go_wp2
        go_roundg (l.length - (i + 1))
        case measure => omega
        case rel => exact ⟨i + 1, by omega, by omega, by go_num, HB6, HN2⟩
    · have hlt' : ¬ (i : Int) < (l.length : Int) := by omega
      have HE : Hid (idxBy p l = -1) := idxBy_none fun j hj => HN.out j hj (by omega)
      go_wp2
      go_ret
      exact ⟨by rw [HE.out]; rfl, HB.out⟩

set_option maxHeartbeats 1000000 in
theorem containsFunc (g : Nat) (lb : Array Value) (p : Int → Bool) (a : Option Addr) (cap : Nat) (l : List Int) (w : World) (eg : ∀ args w, (callFunc g args).run Try.prog w = .ok (.enter g args) w)
    (hf : PredAt g lb l p w) (hl : Sl w (.slice a l.length cap) (ints l)) :
    Calls Try.prog 31 #[.slice a l.length cap, .func (.func g) #[] lb] w fun e w' => e = .returned (.bool (l.any p)) ∧ Below w.heap.size w w' := by
  have HL := Lib.hid hl
  have HF := Lib.hid hf
  have HG := Lib.hid eg
  clear hl hf eg
  go_enter Try.func31, Try.ntmps31
  go_wp2_with fail
  refine (indexFunc g lb p a cap l w HG.out HF.out HL.out).mono ?_
  rintro e w1 ⟨rfl, hb⟩
  have HB := Lib.hid hb
  clear hb
  go_wp2
  go_ret
  exact ⟨by rw [idxBy_ge]; rfl, HB.out⟩

end Go.Proofs.Ytclpmmbclgihbaa
namespace Go.Proofs.Ytclpmmbclgihbaa
open Go.RowKit
namespace Lr

def outK (k c : Int) : Bool := decide (c < 0 ∨ k ≤ c)
set_option maxHeartbeats 1000000 in
theorem outL (k c : Int) (pb b : Nat) (w : World) (h1 : w.cell? ⟨pb, 0, none⟩ = some (.pointer (some ⟨b, 0, none⟩))) (h2 : w.cell? ⟨b, 0, none⟩ = some (.int .i64 k)) :
    Calls Try.prog 32 #[.int .i64 c, .pointer (some ⟨pb, 0, none⟩)] w fun e w' => e = .returned (.bool (outK k c)) ∧ Below w.heap.size w w' := by
  have HO : Hid (outK k c = decide (c < 0 ∨ k ≤ c)) := rfl
  obtain ⟨R, HR⟩ := nameIt (outK k c)
  rw [HR.out] at HO ⊢
  by_cases hc : c < 0
  · have hd : decide (c < 0) = true := by simpa using hc
    have HE : Hid (R = true) := by show _ = _; rw [HO.out]; simp [hc]
    clear HO
    go_enter Try.func32, Try.ntmps32
    go_wp2_with fail
    go_ret
    exact ⟨by rw [HE.out]; rfl, Below.refl _ _⟩
  · have hd : decide (c < 0) = false := by simpa using hc
    by_cases hk : k ≤ c
    · have hd2 : decide (k ≤ c) = true := by simpa using hk
      have HE : Hid (R = true) := by show _ = _; rw [HO.out]; simp [hk]
      clear HO
      go_enter Try.func32, Try.ntmps32
      go_wp2_with fail
      go_ret
      exact ⟨by rw [HE.out]; rfl, Below.refl _ _⟩
    · have hd2 : decide (k ≤ c) = false := by simpa using hk
      have HE : Hid (R = false) := by show _ = _; rw [HO.out]; first | (simp [hc, hk]; done) | (simp [hc, hk]; omega)
      clear HO
      go_enter Try.func32, Try.ntmps32
      go_wp2_with fail
      go_ret
      exact ⟨by rw [HE.out]; rfl, Below.refl _ _⟩
end Lr
end Go.Proofs.Ytclpmmbclgihbaa
