/- compare.Least. Maps that are sets: only 'true' is stored. Keys of rules, as RuleFault makes them: plain law. The contract of RuleFault: it is gram.Check's. Maps that are sets of words, the words as strings of bytes. Plain: the short words of all nonterminals, as sets that grow (parlref5.WordsOf). Maps of words: entry and store, ranges, a table of them. -/
import Derived.Test.YtccjdgjehecdiaaDoorJCompareTellsRow1
import Derived.Test.YtccjdgjehecdiaaDoorJCompareTellsRow3
import Derived.Deep.LoopGhost
import Derived.Deep.DeepCutAuto
import Derived.Maps.OwnSet
import Derived.Maps.Views
import Derived.Test.YtccjdgjehecdiaaDoorJCompareTellsRow2
import Derived.Maps.RangeWalk
import Derived.WideKeyEntry
import Derived.Laws.BytesArg
namespace Go.Proofs.YtccjdgjehecdiaaDoor
open Go.RowKit
namespace Lg

/-- the first word that one grammar alone has -/
noncomputable def lstF (g h : Gram) : List (List Int) → Option (List Int × Bool)
  | [] => none
  | w :: l => if langB g w = langB h w then lstF g h l else some (w, langB g w)
def cmpErr (g h : Gram) (n : Int) : Int :=
  if checkG g ≠ 0 then checkG g else if checkG h ≠ 0 then checkG h else if g.terms ≠ h.terms ∨ n < 0 ∨ 12 < n then 1 else if 500 < geo g.terms.toNat (n.toNat + 1) then 2 else 0
theorem geo_mono {T : Nat} : ∀ {a b : Nat}, a ≤ b → geo T a ≤ geo T b
  | a, 0, h => by obtain rfl : a = 0 := by omega
                  exact Nat.le_refl _
  | a, b + 1, h => by
    by_cases e : a = b + 1
    · subst e; exact Nat.le_refl _
    · exact Nat.le_trans (geo_mono (show a ≤ b by omega)) (by show geo T b ≤ geo T b + T ^ b; omega)
theorem pow8_le {T k : Nat} (hT : T ≤ 8) (hk : k ≤ 13) : T ^ k ≤ 549755813888 := Nat.le_trans (Nat.pow_le_pow_left hT k) (Nat.le_trans (Nat.pow_le_pow_right (by decide) hk) (by decide))
def LeastOk (g h : Gram) (T n : Nat) (v : Value) (s er : Int) (w' : World) : Prop :=
  match lstF g h (every T n) with
  | some (u, b) => er = 0 ∧ s = (if b = true then 1 else 2) ∧ Sl w' v (ints u)
  | none => er = 5 ∧ s = 0 ∧ v = .slice none 0 0
def LeastPost (g h : Gram) (n : Int) (w : World) (e : Ending) (w' : World) : Prop :=
  ∃ a l c s er, e = .returned (.tuple #[.slice a l c, .int .i64 s, .int .i64 er]) ∧ (cmpErr g h n ≠ 0 → (Value.slice a l c) = .slice none 0 0 ∧ s = 0 ∧ er = cmpErr g h n) ∧ (cmpErr g h n = 0 → LeastOk g h g.terms.toNat n.toNat (.slice a l c) s er w') ∧ Below w.heap.size w w'
set_option maxHeartbeats 8000000 in
set_option maxRecDepth 100000 in
theorem leastE (g h : Gram) (n : Int) (ra : Option Addr) (rcap : Nat) (qa : Option Addr) (qcap : Nat) (w : World) (hr : Rd AnyB w (.sl (g.rules.map Rule.d)) [.slice ra g.rules.length rcap]) (hq : Rd AnyB w (.sl (h.rules.map Rule.d)) [.slice qa h.rules.length qcap]) (hT : TabG w) :
    Calls Tryd.prog 4 #[.agg #[.int .i64 g.terms, .int .i64 g.nons, .int .i64 g.start, .slice ra g.rules.length rcap], .agg #[.int .i64 h.terms, .int .i64 h.nons, .int .i64 h.start, .slice qa h.rules.length qcap], .int .i64 n] w (LeastPost g h n w) := by
  obtain ⟨w0, HW0⟩ := nameIt (w.alloc (.cells #[.int .i64 g.terms, .int .i64 g.nons, .int .i64 g.start, .slice ra g.rules.length rcap] 24))
  have hb0 : Below w.heap.size w w0 := by rw [← HW0.out]; exact (Below.refl _ _).alloc (Nat.le_refl _) _
  have X0 : w0.heap[w.heap.size]? = some (.cells #[.int .i64 g.terms, .int .i64 g.nons, .int .i64 g.start, .slice ra g.rules.length rcap] 24 (0, 0)) := by rw [← HW0.out]; exact bx_new _ _ _ rfl
  obtain ⟨w1, HW1⟩ := nameIt (w0.alloc (.cells #[.int .i64 h.terms, .int .i64 h.nons, .int .i64 h.start, .slice qa h.rules.length qcap] 24))
  have hb1 : Below w0.heap.size w0 w1 := by rw [← HW1.out]; exact (Below.refl _ _).alloc (Nat.le_refl _) _
  have HX0 : Hid (w1.heap[w.heap.size]? = some (.cells #[.int .i64 g.terms, .int .i64 g.nons, .int .i64 g.start, .slice ra g.rules.length rcap] 24 (0, 0))) := bx_keep X0 hb1
  have HX1 : Hid (w1.heap[w0.heap.size]? = some (.cells #[.int .i64 h.terms, .int .i64 h.nons, .int .i64 h.start, .slice qa h.rules.length qcap] 24 (0, 0))) := by rw [← HW1.out]; exact bx_new _ _ _ rfl
  have HB01 : Hid (Below w.heap.size w w1) := hb0.trans (hb1.mono hb0.size)
  have HCG : Hid (∀ W, Below w1.heap.size w1 W → Calls Tryd.prog 11 #[.agg #[.int .i64 g.terms, .int .i64 g.nons, .int .i64 g.start, .slice ra g.rules.length rcap]] W fun e w' => e = .returned (.int .i64 (checkG g)) ∧ Below W.heap.size W w') := fun W hb => checkE g ra rcap W ((hr.below HB01.out).below hb)
  have HCH : Hid (∀ W, Below w1.heap.size w1 W → Calls Tryd.prog 11 #[.agg #[.int .i64 h.terms, .int .i64 h.nons, .int .i64 h.start, .slice qa h.rules.length qcap]] W fun e w' => e = .returned (.int .i64 (checkG h)) ∧ Below W.heap.size W w') := fun W hb => checkE h qa qcap W ((hq.below HB01.out).below hb)
  have HAG : Hid (checkG g = 0 → ∀ (u : List Int) (k : Nat) wa wc W, u.length = k → k ≤ 12 → (∀ t ∈ u, 0 ≤ t ∧ t < g.terms) → Below w1.heap.size w1 W → Sl W (.slice wa k wc) (ints u) → Calls Tryd.prog 12 #[.agg #[.int .i64 g.terms, .int .i64 g.nons, .int .i64 g.start, .slice ra g.rules.length rcap], .slice wa k wc] W fun e w' => e = .returned (.tuple #[.bool (langB g u), .int .i64 0]) ∧ Below W.heap.size W w') := fun hck u k wa wc W h1 h2 h3 hb h4 => acceptsE g hck ra rcap u k h1 h2 h3 wa wc W ((hr.below HB01.out).below hb) h4 ((hT.keep HB01.out).keep hb)
  have HAH : Hid (checkG h = 0 → ∀ (u : List Int) (k : Nat) wa wc W, u.length = k → k ≤ 12 → (∀ t ∈ u, 0 ≤ t ∧ t < h.terms) → Below w1.heap.size w1 W → Sl W (.slice wa k wc) (ints u) → Calls Tryd.prog 12 #[.agg #[.int .i64 h.terms, .int .i64 h.nons, .int .i64 h.start, .slice qa h.rules.length qcap], .slice wa k wc] W fun e w' => e = .returned (.tuple #[.bool (langB h u), .int .i64 0]) ∧ Below W.heap.size W w') := fun hck u k wa wc W h1 h2 h3 hb h4 => acceptsE h hck qa qcap u k h1 h2 h3 wa wc W ((hq.below HB01.out).below hb) h4 ((hT.keep HB01.out).keep hb)
  obtain ⟨PST, HP⟩ := nameIt (LeastPost g h n w)
  have HF0 : Hid (∀ er w', cmpErr g h n = er → er ≠ 0 → Below w1.heap.size w1 w' → PST (.returned (.tuple #[.slice none 0 0, .int .i64 0, .int .i64 er])) w') := by
    intro er w' h1 h2 h3
    rw [← HP.out]
    exact ⟨none, 0, 0, 0, er, rfl, fun _ => ⟨rfl, rfl, h1.symm⟩, fun h => absurd (h1.symm.trans h) h2, HB01.out.trans (h3.mono HB01.out.size)⟩
  have HF1 : Hid (∀ a l c s er w', cmpErr g h n = 0 → LeastOk g h g.terms.toNat n.toNat (.slice a l c) s er w' → Below w1.heap.size w1 w' → PST (.returned (.tuple #[.slice a l c, .int .i64 s, .int .i64 er])) w') := by
    intro a l c s er w' h1 h2 h3
    rw [← HP.out]
    exact ⟨a, l, c, s, er, rfl, fun h => absurd h1 h, fun _ => h2, HB01.out.trans (h3.mono HB01.out.size)⟩
  rw [HP.out]
  clear HP
  have HE1 : Hid (checkG g ≠ 0 → cmpErr g h n = checkG g) := fun h1 => by unfold cmpErr; rw [if_pos h1]
  have HE2 : Hid (checkG g = 0 → checkG h ≠ 0 → cmpErr g h n = checkG h) := fun h1 h2 => by unfold cmpErr; rw [if_neg (by simp [h1]), if_pos h2]
  have HE3 : Hid (checkG g = 0 → checkG h = 0 → (g.terms ≠ h.terms ∨ n < 0 ∨ 12 < n) → cmpErr g h n = 1) := fun h1 h2 h3 => by unfold cmpErr; rw [if_neg (by simp [h1]), if_neg (by simp [h2]), if_pos h3]
  have HE4 : Hid (checkG g = 0 → checkG h = 0 → g.terms = h.terms → 0 ≤ n → n ≤ 12 → 500 < geo g.terms.toNat (n.toNat + 1) → cmpErr g h n = 2) := fun h1 h2 h3 h4 h5 h6 => by
    unfold cmpErr
    rw [if_neg (by simp [h1]), if_neg (by simp [h2]), if_neg (by rintro (h | h | h); exact h h3; omega; omega), if_pos h6]
  have HE5 : Hid (checkG g = 0 → checkG h = 0 → g.terms = h.terms → 0 ≤ n → n ≤ 12 → ¬ 500 < geo g.terms.toNat (n.toNat + 1) → cmpErr g h n = 0) := fun h1 h2 h3 h4 h5 h6 => by
    unfold cmpErr
    rw [if_neg (by simp [h1]), if_neg (by simp [h2]), if_neg (by rintro (h | h | h); exact h h3; omega; omega), if_neg h6]
  have HTM : Hid (checkG g = 0 → 1 ≤ g.terms ∧ g.terms ≤ 8) := fun h1 => ⟨(checkG_zero h1).1.1, (checkG_zero h1).1.2.1⟩
  have hgb : w.heap.size < w1.heap.size := lt_of_cell (bx_cells4 HX0.out).1
  have hhb : w0.heap.size < w1.heap.size := lt_of_cell (bx_cells4 HX1.out).1
  obtain ⟨CG, HCGN⟩ := nameIt (checkG g)
  obtain ⟨CH, HCHN⟩ := nameIt (checkG h)
  rw [HCGN.out] at HE1 HE2 HE3 HE4 HE5 HTM HAG
  simp only [HCGN.out] at HCG
  rw [HCHN.out] at HE2 HE3 HE4 HE5 HAH
  simp only [HCHN.out] at HCH
  obtain ⟨gt, HGT⟩ := nameIt g.terms
  obtain ⟨gn, HGN⟩ := nameIt g.nons
  obtain ⟨gs, HGS⟩ := nameIt g.start
  obtain ⟨rl, HRL⟩ := nameIt g.rules.length
  obtain ⟨ht, HHT⟩ := nameIt h.terms
  obtain ⟨hn, HHN⟩ := nameIt h.nons
  obtain ⟨hs, HHS⟩ := nameIt h.start
  obtain ⟨ql, HQL⟩ := nameIt h.rules.length
  rw [HGT.out, HGN.out, HGS.out, HRL.out] at HW0 HX0
  rw [HHT.out, HHN.out, HHS.out, HQL.out] at HW1 HX1
  simp only [HGT.out, HGN.out, HGS.out, HRL.out] at HCG HAG
  simp only [HHT.out, HHN.out, HHS.out, HQL.out] at HCH HAH
  rw [HGT.out] at HTM HE3 HE4 HE5 HF1
  rw [HHT.out] at HE3 HE4 HE5
  rw [HGT.out, HGN.out, HGS.out, HRL.out, HHT.out, HHN.out, HHS.out, HQL.out]
  have hs0 : w0.heap.size = w.heap.size + 1 := by rw [← HW0.out]; simp
  obtain ⟨gb, HGBN⟩ := nameIt w.heap.size
  obtain ⟨hb, HHBN⟩ := nameIt w0.heap.size
  have hhg : hb = gb + 1 := by rw [← HGBN.out, ← HHBN.out]; exact hs0
  have HHG := Lib.hid hhg
  have HSZ : Hid (w.heap.size + 1 = hb) := hs0.symm.trans HHBN.out
  rw [HGBN.out] at HX0 hgb
  rw [HHBN.out] at HX1 hhb
  have HBX : Hid (∀ W, Below w1.heap.size w1 W → (W.cell? ⟨gb, 0, none⟩ = some (.int .i64 gt) ∧ W.cell? ⟨gb, 0 + 1, none⟩ = some (.int .i64 gn) ∧ W.cell? ⟨gb, 0 + 2, none⟩ = some (.int .i64 gs) ∧ W.cell? ⟨gb, 0 + 3, none⟩ = some (.slice ra rl rcap)) ∧ (W.cell? ⟨hb, 0, none⟩ = some (.int .i64 ht) ∧ W.cell? ⟨hb, 0 + 1, none⟩ = some (.int .i64 hn) ∧ W.cell? ⟨hb, 0 + 2, none⟩ = some (.int .i64 hs) ∧ W.cell? ⟨hb, 0 + 3, none⟩ = some (.slice qa ql qcap))) := fun W h => ⟨bx_cells4 (bx_keep HX0.out h), bx_cells4 (bx_keep HX1.out h)⟩
  clear hr hq hT hb0 X0 hb1 hs0 hhg
  go_enter Tryd.func4, Tryd.ntmps4
  go_upto_region 1 with fail
  rw [HW0.out, HW1.out, HSZ.out, HGBN.out]
  clear HW0 HW1
  obtain ⟨⟨x0, x1, x2, x3⟩, y0, y1, y2, y3⟩ := HBX.out w1 (Below.refl _ _)
  go_wp2_with fail
  with_reducible refine (HCG.out w1 (Below.refl _ _)).mono ?_
  rintro e w2 ⟨rfl, hb2⟩
  have HB2 := Lib.hid hb2
  clear hb2 x0 x1 x2 x3 y0 y1 y2 y3
  obtain ⟨⟨x0, x1, x2, x3⟩, y0, y1, y2, y3⟩ := HBX.out w2 HB2.out
  by_cases hcg : CG = 0
  · have HTM1 := HTM.out hcg
    have HAG1 := Lib.hid (HAG.out hcg)
    have HE2' := Lib.hid (HE2.out hcg)
    have HE3' := Lib.hid (HE3.out hcg)
    have HE4' := Lib.hid (HE4.out hcg)
    have HE5' := Lib.hid (HE5.out hcg)
    clear HE1 HE2 HE3 HE4 HE5 HTM HAG
    subst hcg
    go_wp2_with fail
    with_reducible refine (HCH.out w2 HB2.out).mono ?_
    rintro e w3 ⟨rfl, hb3⟩
    have HB3 := Lib.hid (HB2.out.trans (hb3.mono HB2.out.size))
    clear hb3 x0 x1 x2 x3 y0 y1 y2 y3
    obtain ⟨⟨x0, x1, x2, x3⟩, y0, y1, y2, y3⟩ := HBX.out w3 HB3.out
    by_cases hch : CH = 0
    · have HAH1 := Lib.hid (HAH.out hch)
      have HE3 := Lib.hid (HE3'.out hch)
      have HE4 := Lib.hid (HE4'.out hch)
      have HE5 := Lib.hid (HE5'.out hch)
      clear HE2' HE3' HE4' HE5' HAH
      subst hch
      by_cases htt : gt = ht
      · subst htt
        have htb : (gt != gt) = false := by simp
        by_cases hn0 : n < 0
        · have hn0' : decide (n < 0) = true := by simpa using hn0
          have HE := Lib.hid (HF0.out 1 w3 (HE3.out (.inr (.inl hn0))) (by decide) HB3.out)
          go_wp2_with fail
          exact bodyPost_ret (results_tmp3 Tryd.results4 _ _ _) rfl HE.out
        · have hn0' : decide (n < 0) = false := by simpa using hn0
          by_cases hn12 : 12 < n
          · have hn12' : decide (12 < n) = true := by simpa using hn12
            have HE := Lib.hid (HF0.out 1 w3 (HE3.out (.inr (.inr hn12))) (by decide) HB3.out)
            go_wp2_with fail
            exact bodyPost_ret (results_tmp3 Tryd.results4 _ _ _) rfl HE.out
          · have hn12' : decide (12 < n) = false := by simpa using hn12
            obtain ⟨m, rfl⟩ : ∃ m : Nat, n = (m : Int) := ⟨n.toNat, by omega⟩
            obtain ⟨T, rfl⟩ : ∃ T : Nat, gt = (T : Int) := ⟨gt.toNat, by omega⟩
            have hm12 : m ≤ 12 := by omega
            have hT8 : T ≤ 8 := by omega
            have hT1 : 1 ≤ T := by omega
            have HG0 : Hid (geo T 0 ≤ 500) := Nat.zero_le _
            have HE4T := Lib.hid (HE4.out rfl (by omega) (by omega))
            have HE5T := Lib.hid (HE5.out rfl (by omega) (by omega))
            clear HE4 HE5
            clear HE3
            go_wp2_with fail
            go_loopg [11, 12, 45] (m + 1) (fun gg v11 v12 v45 wr => ∃ k : Nat, k ≤ m + 1 ∧ m + 1 - k ≤ gg ∧ v11 = .int .i64 (geo T k : Nat) ∧ v12 = .int .i64 (T ^ k : Nat) ∧ v45 = .int .i64 (k : Int) ∧ geo T k ≤ 500 ∧ w3 = wr)
            case atStart => exact ⟨0, by omega, by omega, rfl, by simp, rfl, HG0.out, rfl⟩
            case round =>
              clear HG0
              obtain ⟨k, hk, hgg, rfl, rfl, rfl, hge, rfl⟩ := hrel
              by_cases hkm : k < m + 1
              · have hkm' : (k : Int) < (m : Int) + 1 := by omega
                have hp8 := pow8_le (T := T) (k := k) hT8 (by omega)
                have hp9 := pow8_le (T := T) (k := k + 1) hT8 (by omega)
                have HGN : Hid (geo T (k + 1) = geo T k + T ^ k) := rfl
                have HPN : Hid (T ^ (k + 1) = T ^ k * T) := Nat.pow_succ _ _
                have HBIG : Hid (500 < geo T (k + 1) → 500 < geo T (m + 1)) := fun h => Nat.lt_of_lt_of_le h (geo_mono (by omega))
                rw [HPN.out] at hp9
                obtain ⟨c, HC⟩ := nameIt (geo T k)
                obtain ⟨p, HP⟩ := nameIt (T ^ k)
                rw [HC.out] at hge HGN
                rw [HP.out] at hp8 hp9 HGN HPN
                rw [HC.out, HP.out]
                have hpp : (p : Int) * (T : Int) = ((p * T : Nat) : Int) := by simp
                by_cases hb : 500 < c + p
                · have hb' : (500 : Int) < (c : Int) + (p : Int) := by omega
                  have HE := Lib.hid (HF0.out 2 w3 (HE4T.out (HBIG.out (by rw [HGN.out]; exact hb))) (by decide) HB3.out)
                  clear hpp
                  go_wp2_with fail
                  exact bodyPost_ret (results_tmp3 Tryd.results4 _ _ _) rfl HE.out
                · have hb' : ¬ (500 : Int) < (c : Int) + (p : Int) := by omega
                  obtain ⟨pt, HPT⟩ := nameIt (p * T)
                  rw [HPT.out] at hp9 HPN hpp
                  have hmul : IntKind.i64.wrap ((p : Int) * (T : Int)) = (pt : Int) := by rw [hpp, IntWalk.i64_in _ (by omega)]
                  clear hpp
                  go_wp2_with fail
                  go_roundg (m + 1 - (k + 1))
                  case measure => omega
                  case rel => exact ⟨k + 1, by omega, by omega, by rw [HGN.out]; go_num, by rw [HPN.out], by go_num, by rw [HGN.out]; omega, rfl⟩
              · have hkm' : ¬ (k : Int) < (m : Int) + 1 := by omega
                obtain rfl : k = m + 1 := by omega
                have HC0 : Hid (cmpErr g h m = 0) := HE5T.out (by simpa using hge)
                have HEL : Hid ((every T m).length ≤ 500) := by show _ ≤ _; rw [every_len]; exact hge
                clear HE4T HE5T hk hgg hge hkm
                have HFN : Hid (lstF g h (every T m) = none → ∀ w', Below w1.heap.size w1 w' → PST (.returned (.tuple #[.slice none 0 0, .int .i64 0, .int .i64 5])) w') := fun h1 w' h2 => HF1.out none 0 0 0 5 w' HC0.out (by unfold LeastOk; simp only [Int.toNat_natCast]; rw [h1]; refine ⟨?_, ?_, ?_⟩ <;> first | trivial | rfl) h2
                have HFS : Hid (∀ a l c u b (s : Int) w', lstF g h (every T m) = some (u, b) → s = (if b = true then 1 else 2) → Sl w' (.slice a l c) (ints u) → Below w1.heap.size w1 w' → PST (.returned (.tuple #[.slice a l c, .int .i64 s, .int .i64 0])) w') := fun a l c u b s w' h1 h3 h4 h2 => HF1.out a l c s 0 w' HC0.out (by unfold LeastOk; simp only [Int.toNat_natCast]; rw [h1]; refine ⟨?_, h3, h4⟩; first | trivial | rfl) h2
                clear HF1 HF0 HC0 HCG HCH
                obtain ⟨EL, HELN⟩ := nameIt (every T m).length
                rw [HELN.out] at HEL
                have hEL : EL ≤ 500 := HEL.out
                have HOL : Hid (∀ i, (outI T m i).length ≤ EL) := fun i => by rw [← HELN.out]; exact outI_le
                obtain ⟨w4, HW4⟩ := nameIt (w3.alloc (.cells #[] 3))
                have hb4 : Below w3.heap.size w3 w4 := by rw [← HW4.out]; exact (Below.refl _ _).alloc (Nat.le_refl _) _
                obtain ⟨w5, HW5⟩ := nameIt (w4.alloc (.cells #[.slice (some ⟨w3.heap.size, 0, none⟩) 0 0] 25))
                have hb5 : Below w4.heap.size w4 w5 := by rw [← HW5.out]; exact (Below.refl _ _).alloc (Nat.le_refl _) _
                have X5 : w5.heap[w4.heap.size]? = some (.cells #[.slice (some ⟨w3.heap.size, 0, none⟩) 0 0] 25 (0, 0)) := by rw [← HW5.out]; exact bx_new _ _ _ rfl
                have hs4 : w4.heap.size = w3.heap.size + 1 := by rw [← HW4.out]; simp
                have HQ0 : Hid (WQ w3.heap.size ((outI T m 0).drop 0) (.slice (some ⟨w3.heap.size + 1, 0, none⟩) 1 1) w5) := by
                  rw [← hs4, outI_zero]
                  exact WQ.start X5 hb4.size (Nat.zero_le _) (fun h => by cases h)
                have hl0 : Hid (((outI T m 0).drop 0).length = 1) := by show _ = _; rw [outI_zero]; rfl
                have HB5 : Hid (Below w1.heap.size w1 w5) := HB3.out.trans ((hb4.trans (hb5.mono hb4.size)).mono HB3.out.size)
                obtain ⟨gq, HGQ⟩ := nameIt (w3.heap.size + 1)
                obtain ⟨qb, HQB⟩ := nameIt w3.heap.size
                rw [HGQ.out] at HQ0
                rw [HQB.out] at HQ0 HW5
                have HQB1 : Hid (w1.heap.size ≤ qb) := by show _ ≤ _; rw [← HQB.out]; exact HB3.out.size
                have HGQ1 : Hid (qb + 1 = gq) := by show _ = _; rw [← HGQ.out, HQB.out]
                have HCL : Hid (∀ (a : Option Addr) (c k : Nat) (l : List Int) W, l.length = k → k ≤ 100 → Sl W (.slice a k c) (ints l) → Calls Tryd.prog 13 #[.slice a k c] W (NewInts l W)) := fun a c k l W h1 h2 h3 => clone_int _ l W h3 (by omega)
                clear hb4 hb5 X5 hs4 HEL x0 x1 x2 x3 y0 y1 y2 y3
                go_wp2_with fail
                simp only [HW4.out, HW5.out, HQB.out, HGQ.out, HGQ1.out]
                go_loopg [13, 14, 15, 16, 17, 18, 19] EL (fun gg v13 v14 v15 v16 v17 v18 v19 wr => ∃ (k b off n1 cap : Nat), k ≤ EL ∧ EL - k ≤ gg ∧ v13 = .slice (some ⟨b, off, none⟩) n1 cap ∧ Hid (((outI T m k).drop k).length = n1) ∧ Hid (WQ qb ((outI T m k).drop k) (.slice (some ⟨b, off, none⟩) n1 cap) wr) ∧ Hid (Below w1.heap.size w1 wr) ∧ Hid (lstF g h (every T m) = lstF g h ((every T m).drop k)))
                case atStart => exact ⟨0, gq, 0, 1, 1, by omega, by omega, rfl, hl0, HQ0, HB5, rfl⟩
                case round =>
                  clear HQ0 HB5 hl0
                  obtain ⟨k, b, off, n1, cap, hk, hgg, rfl, HN1, HQ, HB, HLS⟩ := hrel
                  obtain ⟨w6, rfl⟩ : ∃ ww : World, ww = wr := ⟨_, rfl⟩
                  by_cases hz : n1 = 0
                  · have hz' : ¬ (0 : Int) < (n1 : Int) := by omega
                    have HE := Lib.hid (HFN.out (by
                      have h1 := outI_end (T := T) (n := m) (i := k) (by have h2 := HN1.out; rw [List.length_drop] at h2; omega) (by rw [HELN.out]; exact hk)
                      rw [HLS.out, List.drop_of_length_le (by rw [← h1.1]; exact Nat.le_refl _)]; rfl) w6 HB.out)
                    clear hz
                    go_wp2_with fail
                    exact bodyPost_ret (results_tmp3 Tryd.results4 _ _ _) rfl HE.out
                  · obtain ⟨n2, rfl⟩ : ∃ n2, n1 = n2 + 1 := ⟨n1 - 1, by omega⟩
                    have hz' : (0 : Int) < ((n2 + 1 : Nat) : Int) := by omega
                    have hkl : k < (outI T m k).length := by have h2 := HN1.out; rw [List.length_drop] at h2; omega
                    have hkE : k < EL := by have := HOL.out k; omega
                    have hkE' : k < (every T m).length := by rw [HELN.out]; exact hkE
                    have hd := List.drop_eq_getElem_cons hkl
                    rw [outI_get hkl] at hd
                    have hd2 := List.drop_eq_getElem_cons hkE'
                    have HNEXT : Hid (outI T m (k + 1) = outI T m k ++ ch T m (every T m)[k]) := outI_next hkE'
                    have hmem := every_mem (List.getElem_mem hkE')
                    obtain ⟨xs, HXS⟩ := nameIt (every T m)[k]
                    rw [HXS.out] at hd hd2 HNEXT hmem
                    obtain ⟨wl, HWL⟩ := nameIt xs.length
                    rw [HWL.out] at hmem
                    obtain ⟨hwlm, hsym⟩ := hmem
                    have HSYM := Lib.hid hsym
                    have HD2 := Lib.hid hd2
                    have HNX : Hid ((outI T m (k + 1)).drop (k + 1) = (outI T m k).drop (k + 1) ++ ch T m xs) := by
                      show _ = _; rw [HNEXT.out, List.drop_append_of_le_length (by omega)]
                    have HN2 : Hid (((outI T m k).drop (k + 1)).length = n2) := by
                      have h2 := HN1.out; rw [hd] at h2; show _ = _; simp only [List.length_cons] at h2; omega
                    rw [hd] at HQ
                    obtain ⟨rs, HRS⟩ := nameIt ((outI T m k).drop (k + 1))
                    rw [HRS.out] at HN2 HNX HQ
                    obtain ⟨b', off', cap', u0, hv, c0, hcap1, hrd0⟩ := HQ.out.first
                    rw [HN2.out] at hv
                    cases hv
                    have hmx : n2 + 1 ≤ cap ∧ cap ≤ 9223372036854775807 := by
                      obtain ⟨a', c', e, e1, e2⟩ := HQ.out.form
                      cases e
                      unfold maxLen at e2
                      have h2 := HN2.out
                      simp only [List.length_cons] at e1
                      omega
                    have htl := HQ.out
                    rw [← HN2.out] at htl
                    have HTL := Lib.hid htl.tail
                    rw [HN2.out] at HTL
                    obtain ⟨a0, l0, k0, rfl⟩ : ∃ a l k, u0 = .slice a l k := by obtain ⟨a, k, e⟩ := (sl_rd hrd0).form; exact ⟨_, _, _, e⟩
                    have hl0 : l0 = wl := by obtain ⟨a, k, e⟩ := (sl_rd hrd0).form; cases e; rw [ints_len]; exact HWL.out
                    subst hl0
                    obtain ⟨ad, HAD⟩ := nameIt (if cap = 1 then (some ⟨b, off, none⟩ : Option Addr) else some ⟨b, off + 1, none⟩)
                    obtain ⟨soff, hso⟩ : ∃ soff, ad = some ⟨b, soff, none⟩ := by
                      have h2 := HAD.out
                      by_cases e : cap = 1
                      · rw [if_pos e] at h2; exact ⟨off, h2.symm⟩
                      · rw [if_neg e] at h2; exact ⟨off + 1, h2.symm⟩
                    subst hso
                    rw [HAD.out] at HTL
                    obtain ⟨c2, HC2⟩ := nameIt (cap - 1)
                    rw [HC2.out] at HTL
                    have hslt : ∀ W, (Instr.slice 35 (.slice (some ⟨b, off, none⟩) (n2 + 1) cap) (some (.int .i64 1)) none none).run Tryd.prog W = .ok (.slice (some ⟨b, soff, none⟩) n2 c2) W := fun W => by
                      have hs := run_slice_l (P := Tryd.prog) W 35 (some ⟨b, off, none⟩) (n2 + 1) cap (by kernel_rfl) .i64 1 (by omega) (by omega)
                      rw [hs, ← HC2.out]
                      have h2 := HAD.out
                      by_cases hct : cap = 1
                      · rw [if_pos hct] at h2; cases h2; subst hct; simp [go_sem]
                      · rw [if_neg hct] at h2; cases h2; simp [go_sem, hct]
                    have HR6 : Hid (Rd (fun k => qb ≤ k ∧ (Value.slice (some ⟨b, soff, none⟩) n2 c2).ownBlock ≠ some k) w6 (D.ints xs) [.slice a0 l0 k0]) := hrd0
                    have HS6 := Lib.hid (sl_rd hrd0)
                    have HAC1 := Lib.hid (HAG1.out xs l0 a0 k0 w6 HWL.out (by omega) hsym HB.out HS6.out)
                    clear HAG1
                    have HLS1 : Hid (lstF g h (every T m) = if langB g xs = langB h xs then lstF g h ((every T m).drop (k + 1)) else some (xs, langB g xs)) := by show _ = _; rw [HLS.out, HD2.out]; rfl
                    have HAC2 := Lib.hid (fun W hb hs => HAH1.out xs l0 a0 k0 W HWL.out (by omega) hsym hb hs)
                    clear HAH1 hsym hd hd2 hkl HXS hkE' hrd0 HNEXT HD2 htl hcap1
                    obtain ⟨la, HLA⟩ := nameIt (langB g xs)
                    obtain ⟨lb, HLB⟩ := nameIt (langB h xs)
                    rw [HLA.out] at HLS1 HAC1
                    rw [HLB.out] at HLS1
                    simp only [HLB.out] at HAC2
                    obtain ⟨⟨x0, x1, x2, x3⟩, -⟩ := HBX.out w6 HB.out
                    have hoff1 : off + 0 = off := rfl
                    go_wp2_with fail
                    with_reducible refine HAC1.out.mono ?_
                    rintro e w7 ⟨rfl, hb7⟩
                    have HB7 : Hid (Below w1.heap.size w1 w7) := HB.out.trans (hb7.mono HB.out.size)
                    have HTL7 := Lib.hid (HTL.out.keep hb7)
                    have HR7 := Lib.hid (HR6.out.below hb7)
                    have HS7 := Lib.hid (HS6.out.keep hb7)
                    have HAC3 := Lib.hid (HAC2.out w7 HB7.out HS7.out)
                    clear hb7 HTL HR6 HS6 HAC1 HAC2 HB HQ x0 x1 x2 x3 c0
                    obtain ⟨-, x0, x1, x2, x3⟩ := HBX.out w7 HB7.out
                    go_wp2_with fail
                    with_reducible refine HAC3.out.mono ?_
                    rintro e w8 ⟨rfl, hb8⟩
                    have HB8 : Hid (Below w1.heap.size w1 w8) := HB7.out.trans (hb8.mono HB7.out.size)
                    have HTL8 := Lib.hid (HTL7.out.keep hb8)
                    have HR8 := Lib.hid (HR7.out.below hb8)
                    have HS8 := Lib.hid (HS7.out.keep hb8)
                    clear hb8 HTL7 HR7 HS7 HB7 HAC3 x0 x1 x2 x3
                    rcases (show (la = true ∧ lb = false) ∨ (la = false ∧ lb = true) ∨ la = lb by cases la <;> cases lb <;> simp) with ⟨rfl, rfl⟩ | ⟨rfl, rfl⟩ | rfl
                    · have HE := Lib.hid (HFS.out a0 l0 k0 xs true 1 w8 (by rw [HLS1.out]; rfl) rfl HS8.out HB8.out)
                      go_wp2_with fail
                      exact bodyPost_ret (results_tmp3 Tryd.results4 _ _ _) rfl HE.out
                    · have HE := Lib.hid (HFS.out a0 l0 k0 xs false 2 w8 (by rw [HLS1.out]; rfl) rfl HS8.out HB8.out)
                      go_wp2_with fail
                      exact bodyPost_ret (results_tmp3 Tryd.results4 _ _ _) rfl HE.out
                    · have HLN : Hid (lstF g h (every T m) = lstF g h ((every T m).drop (k + 1))) := by show _ = _; rw [HLS1.out, if_pos rfl]
                      have HCN : Hid ((ch T m xs).length = if l0 < m then T else 0) := by
                        show _ = _
                        unfold ch
                        rw [HWL.out]
                        by_cases e : l0 < m
                        · rw [if_pos e, if_pos e, kids_len]
                        · rw [if_neg e, if_neg e]; rfl
                      have HTK : Hid (∀ t, t < (ch T m xs).length → (ch T m xs).take (t + 1) = (ch T m xs).take t ++ [xs ++ [(t : Int)]]) := by
                        intro t ht
                        unfold ch at ht ⊢
                        by_cases e : xs.length < m
                        · rw [if_pos e] at ht ⊢; exact kids_take (by rwa [kids_len] at ht)
                        · rw [if_neg e] at ht; exact absurd ht (by simp)
                      have HBD : Hid (n2 + (ch T m xs).length ≤ EL) := by
                        have h2 := congrArg List.length HNX.out
                        rw [List.length_drop, List.length_append, HN2.out] at h2
                        have := HOL.out (k + 1)
                        show _ ≤ _; omega
                      have HX0 : Hid (rs ++ (ch T m xs).take 0 = rs) := by show _ = _; rw [List.take_zero, List.append_nil]
                      have HXN : Hid ((outI T m (k + 1)).drop (k + 1) = rs ++ (ch T m xs).take (ch T m xs).length) := by show _ = _; rw [List.take_length]; exact HNX.out
                      clear HNX HLS1
                      obtain ⟨K, HKN⟩ := nameIt (ch T m xs)
                      simp only [HKN.out] at HCN HTK HBD HX0 HXN
                      obtain ⟨nk, HNK⟩ := nameIt K.length
                      rw [HNK.out] at HCN HBD HXN
                      simp only [HNK.out] at HTK
                      have hbd := HBD.out
                      have HQ0 : Hid (WQ qb (rs ++ K.take 0) (.slice (some ⟨b, soff, none⟩) (n2 + 0) c2) w8) := by show WQ _ _ _ _; rw [HX0.out]; exact HTL8.out
                      have hb0 : Hid (n2 + 0 = n2) := rfl
                      clear HTL8 HX0
                      cases la
                      all_goals
                        go_wp2_with fail
                        go_loopg [13, 19] nk (fun gg v13 v19 wr => ∃ (t b off cap : Nat), t ≤ nk ∧ nk - t ≤ gg ∧ v13 = .slice (some ⟨b, off, none⟩) (n2 + t) cap ∧ v19 = .int .i64 (t : Int) ∧ Hid (WQ qb (rs ++ K.take t) (.slice (some ⟨b, off, none⟩) (n2 + t) cap) wr) ∧ Hid (Rd (fun k => qb ≤ k ∧ (Value.slice (some ⟨b, off, none⟩) (n2 + t) cap).ownBlock ≠ some k) wr (D.ints xs) [.slice a0 l0 k0]) ∧ Hid (Below w1.heap.size w1 wr))
                        case atStart => exact ⟨0, b, soff, c2, by omega, by omega, rfl, rfl, HQ0, HR8, HB8⟩
                        case round =>
                          clear HQ0 HR8 HB8 HS8
                          obtain ⟨t, b2, off2, cap2, ht, hgt, rfl, rfl, HQ, HR, HB⟩ := hrel
                          obtain ⟨w9, rfl⟩ : ∃ ww : World, ww = wr := ⟨_, rfl⟩
                          obtain ⟨⟨x0, x1, x2, x3⟩, -⟩ := HBX.out w9 HB.out
                          clear x1 x2 x3
                          by_cases htn : t < nk
                          · have hcn := HCN.out
                            have hl0m : l0 < m := by
                              by_cases e : l0 < m
                              · exact e
                              · rw [if_neg e] at hcn; omega
                            rw [if_pos hl0m] at hcn
                            have htT : (t : Int) < (T : Int) := by omega
                            have hlm : (l0 : Int) < (m : Int) := by omega
                            have hml : (rs ++ K.take t).length = n2 + t := by rw [List.length_append, HN2.out, List.length_take, HNK.out]; omega
                            obtain ⟨mt, HMT⟩ := nameIt (n2 + t)
                            rw [HMT.out] at HQ HR
                            rw [HMT.out]
                            have hmt : mt + 1 ≤ 1001 := by have := HMT.out; omega
                            have HML : Hid ((rs ++ K.take t).length = mt) := hml.trans HMT.out
                            have HMT1 : Hid (mt + 1 = n2 + (t + 1)) := by show _ = _; have := HMT.out; omega
                            have HKT := Lib.hid (HTK.out t htn)
                            have HC9 := Lib.hid (HCL.out a0 k0 l0 xs w9 HWL.out (by omega) (sl_rd HR.out))
                            clear hml hcn
                            go_wp2_with fail
                            with_reducible refine HC9.out.mono ?_
                            rintro e w10 ⟨a5, c5, rfl, ho5, hb5⟩
                            rw [HWL.out] at ho5
                            rw [HWL.out]
                            have HO5 := Lib.hid ho5
                            have HQ5 := Lib.hid (HQ.out.keep hb5)
                            have hB5 := hb5.size
                            have HB5 := Lib.hid hb5
                            clear ho5 hb5 HC9 x0
                            go_wp2_with (at_builtin; refine wp_app1 elInt rfl _ _ rfl HO5.out rfl rfl rfl rfl (by omega) (by unfold maxLen; omega) hB5 ?_)
                            intro v6 w11 ho6 hg6
                            obtain ⟨a6, c6, rfl, -, -⟩ := own_len ho6
                            have hb6 : Below w9.heap.size w9 w11 := HB5.out.grown hg6 hB5 (fun k e => (HO5.out.lt k e).1)
                            have ho6' : w11.ownsRow w9.heap.size 3 1 (.slice a6 (l0 + 1) c6) (xs ++ [(t : Int)]).length (ints (xs ++ [(t : Int)])) := by
                              have e1 : (xs ++ [(t : Int)]).length = l0 + 1 := by rw [List.length_append, HWL.out]; rfl
                              rw [e1, ← ints_app]; exact ho6
                            have HQ6 := HQ.out.keep hb6
                            have hwd : Rd (fun k => qb ≤ k ∧ (Value.slice (some ⟨b2, off2, none⟩) mt cap2).ownBlock ≠ some k) w11 (D.ints (xs ++ [(t : Int)])) [.slice a6 (l0 + 1) c6] :=
                              word_new ho6' fun k hk => ⟨by have := HQ.out.le; omega, fun e => by have := (HQ.out.lt k e).2; omega⟩
                            have hb7 : Below w11.heap.size w11 (w11.alloc (.cells #[.slice a6 (l0 + 1) c6] 25)) := (Below.refl _ _).alloc (Nat.le_refl _) _
                            have HQ7 := Lib.hid (HQ6.keep hb7)
                            have HX7 : Hid ((w11.alloc (.cells #[.slice a6 (l0 + 1) c6] 25)).heap[w11.heap.size]? = some (.cells #[.slice a6 (l0 + 1) c6] 25 (0, 0))) := bx_new _ _ _ rfl
                            have HU7 := Lib.hid (hwd.below hb7)
                            have HR7' := Lib.hid ((HR.out.below hb6).below hb7)
                            have HB7 : Hid (Below w1.heap.size w1 (w11.alloc (.cells #[.slice a6 (l0 + 1) c6] 25))) := HB.out.trans ((hb6.trans (hb7.mono hb6.size)).mono HB.out.size)
                            clear ho6 ho6' hg6 hb6 HQ6 hwd hb7 HQ HR HB HB5 HO5 HQ5
                            go_wp2_with (at_builtin; refine wp_appW rfl _ _ rfl HQ7.out HML.out rfl rfl HX7.out HU7.out (by omega) ?_)
                            intro g3 off3 cap3 w12 hq8 hg8 hat8
                            have HQ8 : Hid (WQ qb (rs ++ K.take (t + 1)) (.slice (some ⟨g3, off3, none⟩) (n2 + (t + 1)) cap3) w12) := by
                              rw [HKT.out, ← HMT1.out]
                              exact hq8
                            have HR8 : Hid (Rd (fun k => qb ≤ k ∧ (Value.slice (some ⟨g3, off3, none⟩) (n2 + (t + 1)) cap3).ownBlock ≠ some k) w12 (D.ints xs) [.slice a0 l0 k0]) := word_step HR7'.out hg8 (by simpa using hat8)
                            have HB8 : Hid (Below w1.heap.size w1 w12) := HB7.out.grown hg8 HB7.out.size (fun k e => by have := (HQ7.out.lt k e).1; have := HQB1.out; omega)
                            clear hq8 hg8 hat8
                            go_wp2_with fail
                            go_roundg (nk - (t + 1))
                            case measure => omega
                            case rel => exact ⟨t + 1, g3, off3, cap3, by omega, by omega, by rw [HMT1.out], by go_num, HQ8, HR8, HB8⟩
                          · obtain rfl : nk = t := by omega
                            have HN1' : Hid (((outI T m (k + 1)).drop (k + 1)).length = n2 + nk) := by
                              show _ = _; rw [HXN.out, List.length_append, HN2.out, List.length_take, HNK.out]; omega
                            have HQN : Hid (WQ qb ((outI T m (k + 1)).drop (k + 1)) (.slice (some ⟨b2, off2, none⟩) (n2 + nk) cap2) w9) := by rw [HXN.out]; exact HQ.out
                            have hcn := HCN.out
                            clear htn ht hgt
                            by_cases hl0m : l0 < m
                            · rw [if_pos hl0m] at hcn
                              have htT : ¬ (nk : Int) < (T : Int) := by omega
                              have htT' : decide ((nk : Int) < (T : Int)) = false := by simpa using htT
                              clear hcn
                              go_wp2_with fail
                              go_roundg (EL - (k + 1))
                              case measure => omega
                              case rel => exact ⟨k + 1, b2, off2, n2 + nk, cap2, by omega, by omega, rfl, HN1', HQN, HB, HLN⟩
                            · rw [if_neg hl0m] at hcn
                              have htT : (nk : Int) < (T : Int) := by omega
                              have hlm : ¬ (l0 : Int) < (m : Int) := by omega
                              have hlm' : decide ((l0 : Int) < (m : Int)) = false := by simpa using hlm
                              clear hcn
                              go_wp2_with fail
                              go_roundg (EL - (k + 1))
                              case measure => omega
                              case rel => exact ⟨k + 1, b2, off2, n2 + nk, cap2, by omega, by omega, rfl, HN1', HQN, HB, HLN⟩
      · have htb : (gt != ht) = true := by simpa using htt
        have HE := Lib.hid (HF0.out 1 w3 (HE3.out (.inl htt)) (by decide) HB3.out)
        clear htt
        go_wp2_with fail
        exact bodyPost_ret (results_tmp3 Tryd.results4 _ _ _) rfl HE.out
    · have hz : (CH != 0) = true := by simpa using hch
      have HE := Lib.hid (HF0.out CH w3 (HE2'.out hch) hch HB3.out)
      clear hch
      go_wp2_with fail
      exact bodyPost_ret (results_tmp3 Tryd.results4 _ _ _) rfl HE.out
  · have hz : (CG != 0) = true := by simpa using hcg
    have HE := Lib.hid (HF0.out CG w2 (HE1.out hcg) hcg HB2.out)
    clear hcg
    go_wp2_with fail
    exact bodyPost_ret (results_tmp3 Tryd.results4 _ _ _) rfl HE.out
end Lg
end Go.Proofs.YtccjdgjehecdiaaDoor
namespace Go.Proofs.YtccjdgjehecdiaaDoor
open Go.RowKit

/-- block b is a map that has the keys of which S holds, all of them true -/
def SetM (P : Program) (k e : TypeId) (b c : Nat) (S : Lit → Bool) (w : World) : Prop :=
  ∃ D : DataW Unit, w.ownsMap P k (plainElem P e) b c D ∧ ∀ (key : Value) (l : Lit), keyOf P k key = some l → D.atKey l (.lit (.bool false)) = .lit (.bool (S l))
section
variable {P : Program} {k e t : TypeId} {b c : Nat} {S : Lit → Bool} {w w' : World}
theorem SetM.kept {row : Option Nat} (h : SetM P k e b c S w) (hg : w.grownBy w' row) (hne : some b ≠ row) : SetM P k e b c S w' := by
  obtain ⟨D, h1, h2⟩ := h
  exact ⟨D, h1.kept hg hne, h2⟩
theorem SetM.keep (h : SetM P k e b c S w) (hb : Below w.heap.size w w') : SetM P k e b c S w' := h.kept (grown_below hb none) (by simp)
theorem SetM.lt (h : SetM P k e b c S w) : b < w.heap.size := by obtain ⟨D, h1, h2⟩ := h; exact h1.lt
theorem SetM.start (P : Program) (k e : TypeId) (w : World) {b : Nat} (hb : b = w.heap.size) {S : Lit → Bool} (hS : ∀ l, S l = false) : SetM P k e b 0 S (w.alloc (.map #[] 0)) := by
  subst hb
  exact ⟨.map [], World.ownsMap_made w _ _ _, fun _ l _ => by simp [DataW.atKey, hS l]⟩
theorem plainElem_bool_inv (he : P.underlying e = some .bool) {v : Value} {z : DataW Unit × List MemPlace} (h : plainElem P e v = some z) : ∃ x, v = .bool x ∧ z = (.lit (.bool x), []) := by
  unfold plainElem at h
  rw [he] at h
  split at h
  · rename_i x _
    cases h
    exact ⟨_, rfl, rfl⟩
  · rename_i h1; cases h1
  · rename_i h1; cases h1
  · cases h
/-- m[k] -/
theorem SetM.look (h : SetM P k e b c S w) (hK : Maps.Keyed P k) (ht : P.underlying t = some (.map k e)) (he : P.underlying e = some .bool) (hz : (zeroValue e).run P w = .ok (.bool false) w) {key : Value} {l : Lit} (hkey : keyOf P k key = some l) :
    (Instr.lookup t (.map (some b)) key false).run P w = .ok (.bool (S l)) w := by
  obtain ⟨D, h1, h2⟩ := h
  obtain ⟨v, ps, hrun, hv⟩ := h1.lookup hK ht hz (plainElem_bool he false) hkey
  rw [h2 key l hkey] at hv
  obtain ⟨x, rfl, hx⟩ := plainElem_bool_inv he hv
  simp at hx
  rw [hrun, ← hx.1]
/-- m[k] = true -/
theorem SetM.add (h : SetM P k e b c S w) (hK : Maps.Keyed P k) (ht : P.underlying t = some (.map k e)) (he : P.underlying e = some .bool) (hc : c < maxLen) {key : Value} {l : Lit} (hkey : keyOf P k key = some l) {S' : Lit → Bool} (hS : S' l = true) (hO : ∀ l', l' ≠ l → S' l' = S l') :
    ∃ w', (Instr.mapUpdate t (.map (some b)) key (.bool true)).run P w = .ok () w' ∧ SetM P k e b (c + 1) S' w' ∧ w.grownBy w' (some b) := by
  obtain ⟨D, h1, h2⟩ := h
  obtain ⟨w', hrun, ho, ht'⟩ := h1.store hK ht hc hkey (plainElem_bool he true)
  refine ⟨w', hrun, ⟨_, ho, fun key' l' hk' => ?_⟩, ht'.grown⟩
  by_cases el : l' = l
  · subst el
    rw [Go.Maps.atKey_put_same h1.isMap (hK.key hkey), hS]
  · rw [Go.Maps.atKey_put_other el, h2 key' l' hk', hO l' el]
end
end Go.Proofs.YtccjdgjehecdiaaDoor
namespace Go.Proofs.YtccjdgjehecdiaaDoor
open Go.RowKit

def symB (s : Sym) : List UInt8 := [if s.term then 116 else 110, UInt8.ofNat s.n.toNat]
def keyB (l : Int) (ss : List Sym) : List UInt8 := UInt8.ofNat l.toNat :: ss.flatMap symB
def small (n : Int) : Prop := 0 ≤ n ∧ n < 10
theorem byte_inj {a b : Int} (ha : small a) (hb : small b) (h : UInt8.ofNat a.toNat = UInt8.ofNat b.toNat) : a = b := by
  have h2 := congrArg UInt8.toNat h
  simp at h2
  obtain ⟨a0, a1⟩ := ha
  obtain ⟨b0, b1⟩ := hb
  rw [Nat.mod_eq_of_lt (by omega), Nat.mod_eq_of_lt (by omega)] at h2
  omega
theorem syms_inj : ∀ {l m : List Sym}, (∀ s ∈ l, small s.n) → (∀ s ∈ m, small s.n) → l.flatMap symB = m.flatMap symB → l = m
  | [], [], _, _, _ => rfl
  | [], y :: m, _, _, h => by simp [symB] at h
  | x :: l, [], _, _, h => by simp [symB] at h
  | x :: l, y :: m, hl, hm, h => by
    simp only [List.flatMap_cons, symB, List.cons_append, List.nil_append, List.cons.injEq] at h
    obtain ⟨h1, h2, h3⟩ := h
    have e1 := syms_inj (fun s hs => hl s (List.mem_cons_of_mem _ hs)) (fun s hs => hm s (List.mem_cons_of_mem _ hs)) h3
    have e2 := byte_inj (hl x List.mem_cons_self) (hm y List.mem_cons_self) h2
    have e3 : x.term = y.term := by
      cases hx : x.term <;> cases hy : y.term <;> simp_all
    obtain ⟨xt, xn⟩ := x
    obtain ⟨yt, yn⟩ := y
    simp at e2 e3
    subst e1 e2 e3
    rfl
def okR (r : Rule) : Prop := small r.left ∧ ∀ s ∈ r.right, small s.n
theorem keyB_inj {r q : Rule} (hr : okR r) (hq : okR q) (h : keyB r.left r.right = keyB q.left q.right) : r = q := by
  simp only [keyB, List.cons.injEq] at h
  have e1 := byte_inj hr.1 hq.1 h.1
  have e2 := syms_inj hr.2 hq.2 h.2
  obtain ⟨_, _⟩ := r
  obtain ⟨_, _⟩ := q
  simp_all
/-- the keys of rules -/
def keysOf (l : List Rule) : Lit → Bool
  | .string b => l.any fun r => keyB r.left r.right == b
  | _ => false
theorem keysOf_same {l : List Rule} {r : Rule} (hl : ∀ x ∈ l, okR x) (hr : okR r) : keysOf l (.string (keyB r.left r.right)) = l.any fun x => cmpR x r == 0 := by
  simp only [keysOf]
  induction l with
  | nil => rfl
  | cons x l ih =>
    simp only [List.any_cons]
    rw [ih fun y hy => hl y (List.mem_cons_of_mem _ hy)]
    have e1 : (keyB x.left x.right == keyB r.left r.right) = (cmpR x r == 0) := by
     by_cases e : x = r
     · subst e
       have : cmpR x x = 0 := cmpR_zero.2 rfl
       simp [this]
     · have h1 : ¬ keyB x.left x.right = keyB r.left r.right := fun h => e (keyB_inj (hl x List.mem_cons_self) hr h)
       have h2 : ¬ cmpR x r = 0 := fun h => e (cmpR_zero.1 h)
       rw [beq_eq_false_iff_ne.2 h1, beq_eq_false_iff_ne.2 h2]
    rw [e1]
theorem keysOf_add {l : List Rule} {r : Rule} : keysOf (l ++ [r]) (.string (keyB r.left r.right)) = true := by simp [keysOf]
theorem keysOf_other {l : List Rule} {r : Rule} {x : Lit} (h : x ≠ .string (keyB r.left r.right)) : keysOf (l ++ [r]) x = keysOf l x := by
  cases x <;> simp [keysOf] at h ⊢
  intro h2
  exact absurd h2.symm h
theorem enc_small {n : Int} (h : small n) : Utf8.encode n = ⟨#[UInt8.ofNat n.toNat]⟩ := by
  obtain ⟨h0, h1⟩ := h
  have hv : Utf8.valid n = true := by simp [Utf8.valid]; omega
  simp only [Utf8.encode, hv, if_true]
  rw [if_pos (by omega)]
/-- a string's bytes -/
def Bts (s : ByteArray) (l : List UInt8) : Prop := s.data.toList = l
theorem Bts.app {s t : ByteArray} {l m : List UInt8} (h : Bts s l) (k : Bts t m) : Bts (s ++ t) (l ++ m) := by
  unfold Bts at *
  rw [ByteArray.data_append, Array.toList_append, h, k]
theorem bts_enc {n : Int} (h : small n) : Bts (Utf8.encode n) [UInt8.ofNat n.toNat] := by rw [enc_small h]; rfl
theorem Bts.size {s : ByteArray} {l : List UInt8} (h : Bts s l) : s.size = l.length := by
  unfold Bts at h
  rw [← h]; rfl
theorem keyB_take {l : Int} {ss : List Sym} {q : Nat} (h : q < ss.length) : keyB l (ss.take (q + 1)) = keyB l (ss.take q) ++ [if ss[q].term then 116 else 110] ++ [UInt8.ofNat ss[q].n.toNat] := by
  unfold keyB
  rw [List.take_succ_eq_append_getElem h, List.flatMap_append]
  simp only [List.flatMap_cons, List.flatMap_nil, symB, List.append_nil, List.cons_append, List.append_assoc, List.nil_append]
theorem keyB_len {l : Int} {ss : List Sym} : (keyB l ss).length = 1 + 2 * ss.length := by
  simp only [keyB, List.length_cons]
  induction ss with
  | nil => rfl
  | cons x ss ih => simp only [List.flatMap_cons, List.length_append, symB, List.length_cons, List.length_nil] at ih ⊢; omega
theorem key_string (s : ByteArray) (l : List UInt8) (h : Bts s l) (hs : s.size ≤ maxLen) : keyOf Tryd.prog 9 (.string s) = some (.string l) := by
  unfold Bts at h
  subst h
  simp [keyOf, Tryd.underlying9, mapKey, hs]
end Go.Proofs.YtccjdgjehecdiaaDoor
namespace Go.Proofs.YtccjdgjehecdiaaDoor
open Go.RowKit

theorem zeroB (w : World) : (zeroValue 4).run Tryd.prog w = .ok (.bool false) w := by
  obtain ⟨i, hi, hz, _⟩ := info_parts (show (Tryd.prog.info? 4).map (fun i => (i.zero, i.size, i.bytes)) = some (some (.bool false), 1, 1) by kernel_rfl)
  simp [zeroValue, typeInfo, hi, hz]
theorem strK : Go.Maps.Keyed Tryd.prog 9 := Go.Maps.string_keyed Tryd.underlying9
abbrev StrSet (b c : Nat) (S : Lit → Bool) (w : World) : Prop := SetM Tryd.prog 9 4 b c S w
theorem conv_rune (n : Int) (hn : small n) (w : World) : (convert 3 21 (.int .i64 n)).run Tryd.prog w = .ok (.int .i32 n) w := by
  have h : IntKind.i32.wrap n = n := by obtain ⟨h1, h2⟩ := hn; simp [IntKind.wrap, IntKind.signed, IntKind.bits, IntKind.min, IntKind.max]; omega
  simp [convert, run_underlying Tryd.underlying3, run_underlying Tryd.underlying21, Conv.intToInt, h]
theorem conv_str (n : Int) (w : World) : (convert 21 9 (.int .i32 n)).run Tryd.prog w = .ok (.string (Utf8.encode n)) w := by
  simp [convert, run_underlying Tryd.underlying21, run_underlying Tryd.underlying9, Conv.intToString]

/-- what the rounds keep -/
structure FltI (w0 : World) (mb : Nat) (g : Gram) (K : List Rule) (i : Nat) (wr : World) : Prop where
  set : StrSet mb i (keysOf (K.take i)) wr
  bel : Below w0.heap.size w0 wr
  lo : w0.heap.size ≤ mb
  ok : ∀ r ∈ K.take i, okR r
  flt : faultsFrom g i (K.drop i) = faultsFrom g 0 K

set_option maxHeartbeats 4000000 in
set_option maxRecDepth 100000 in
theorem ruleFault (g : Gram) (ar : Option Addr) (cr : Nat) (w : World) (hr : Rd AnyB w (.sl (g.rules.map Rule.d)) [.slice ar g.rules.length cr]) :
    Calls Tryd.prog 7 #[.agg #[.int .i64 g.terms, .int .i64 g.nons, .int .i64 g.start, .slice ar g.rules.length cr]] w fun e w' => e = .returned (.int .i64 (checkG g)) ∧ Below w.heap.size w w' := by
  have hbs := hr.bounds.2
  unfold maxLen at hbs
  obtain ⟨hc1, hc2⟩ := hbs
  obtain ⟨gt, HGT⟩ := nameIt g.terms
  obtain ⟨gn, HGN⟩ := nameIt g.nons
  obtain ⟨gs, HGS⟩ := nameIt g.start
  obtain ⟨K, HK⟩ := nameIt g.rules
  have HBC := Lib.hid (@badHead_cases g)
  have HGH := Lib.hid (@goodHead g)
  rw [HGT.out, HGN.out, HGS.out] at HBC HGH
  obtain ⟨w0, HW0⟩ := nameIt (w.alloc (.cells #[.int .i64 gt, .int .i64 gn, .int .i64 gs, .slice ar K.length cr] 24))
  have HB0 : Hid (Below w.heap.size w w0) := by rw [← HW0.out]; exact (Below.refl _ _).alloc (Nat.le_refl _) _
  have X1 : Hid (w0.heap[w.heap.size]? = some (.cells #[.int .i64 gt, .int .i64 gn, .int .i64 gs, .slice ar K.length cr] 24 (0, 0))) := by rw [← HW0.out]; exact bx_new _ _ _ rfl
  have HR := Lib.hid (hr.below HB0.out)
  rw [HK.out] at HR hc1
  rw [HGT.out, HGN.out, HGS.out, HK.out]
  obtain ⟨x0, x1, x2, x3⟩ := bx_cells4 X1.out
  clear hr
  by_cases hbad : badHead g = true
  · have HE : Hid (checkG g = 1) := by show _ = _; simp [checkG, hbad]
    rcases HBC.out hbad with h1 | ⟨h1, h2⟩ | ⟨h1, h2, h3⟩ | ⟨h1, h2, h3, h4⟩ | ⟨h1, h2, h3, h4, h5⟩ | ⟨h1, h2, h3, h4, h5, h6⟩
    all_goals
      clear hbad
      go_enter Tryd.func7, Tryd.ntmps7
      go_upto_region 1 with fail
      rw [HW0.out]
      go_wp2_with fail
      go_ret
      exact ⟨by rw [HE.out]; rfl, HB0.out⟩
  · obtain ⟨h1, h2, h3, h4, h5, h6⟩ := HGH.out hbad
    have HBD := Lib.hid hbad
    clear hbad
    by_cases hlen : 32 < K.length
    · have HE : Hid (checkG g = 2) := by show _ = _; rw [checkG, if_neg HBD.out, HK.out, if_pos hlen]
      have hlen' : (32 : Int) < (K.length : Int) := by omega
      go_enter Tryd.func7, Tryd.ntmps7
      go_upto_region 1 with fail
      rw [HW0.out]
      go_wp2_with fail
      go_ret
      exact ⟨by rw [HE.out]; rfl, HB0.out⟩
    · have HE : Hid (checkG g = faultsFrom g 0 K) := by show _ = _; rw [checkG, if_neg HBD.out, HK.out, if_neg hlen]
      have hlen' : ¬ (32 : Int) < (K.length : Int) := by omega
      have HI0 : Hid (FltI w0 w0.heap.size g K 0 (w0.alloc (.map #[] 0))) := ⟨SetM.start _ _ _ _ rfl (fun l => by cases l <;> simp [keysOf]), (Below.refl _ _).alloc (Nat.le_refl _) _, Nat.le_refl _, by simp, rfl⟩
      have hmk : ∀ W : World, (Instr.makeMap 32 none).run Tryd.prog W = .ok (.map (some W.heap.size)) (W.alloc (.map #[] 0)) := fun W => by
        simp [Instr.makeMap, run_underlying Tryd.underlying32]; try rfl
      have hl0 : w.heap.size < w0.heap.size := (Array.getElem?_eq_some_iff.1 X1.out).1
      have hgn : gn ≤ 10 := by simp at h4; omega
      have hgt : gt ≤ 8 := by simp at h2; omega
      go_enter Tryd.func7, Tryd.ntmps7
      go_upto_region 1 with fail
      rw [HW0.out]
      go_wp2_with fail
      clear h1 h2 h3 h4 h5 h6 x0 x1 x2 x3
      obtain ⟨mb, HMB⟩ := nameIt w0.heap.size
      rw [HMB.out] at HI0
      rw [HMB.out]
      go_loopg [48] K.length (fun gg v48 wr => ∃ i : Nat, i ≤ K.length ∧ K.length - i ≤ gg ∧ v48 = .int .i64 i ∧ Hid (FltI w0 mb g K i wr))
      case atStart => exact ⟨0, by omega, by omega, rfl, HI0⟩
      case round =>
        clear HI0
        obtain ⟨wo, rfl⟩ : ∃ wo : World, wo = wr := ⟨_, rfl⟩
        obtain ⟨i, hi, hg, rfl, HI⟩ := hrel
        by_cases hlt : i < K.length
        · have hlt' : (i : Int) < (K.length : Int) := by omega
          have hmb := HI.out.set.lt
          have hlo := HI.out.lo
          obtain ⟨b, off, vr, hae, -, hbl, c0, c1, hkr⟩ := (HR.out.below HI.out.bel).rule_at hlt
          obtain ⟨av, cv, rfl, -, hcv⟩ := hkr.form
          rw [List.length_map] at c1 hkr
          have h1 := HI.out.flt
          have hrl : i < g.rules.length := by rw [HK.out]; exact hlt
          rw [← HK.out, faultsFrom_at hrl] at h1
          simp only [HK.out] at h1
          obtain ⟨r, HRn⟩ := nameIt (K[i]'hlt)
          rw [HRn.out] at c0 c1 hkr h1
          obtain ⟨w4, HW4⟩ := nameIt (wo.alloc (.cells #[.int .i64 r.left, .slice av r.right.length cv] 46))
          have hb4 : Below wo.heap.size wo w4 := by rw [← HW4.out]; exact (Below.refl _ _).alloc (Nat.le_refl _) _
          have X4 : Hid (w4.heap[wo.heap.size]? = some (.cells #[.int .i64 r.left, .slice av r.right.length cv] 46 (0, 0))) := by rw [← HW4.out]; exact bx_new _ _ _ rfl
          have HB4 : Hid (Below w0.heap.size w0 w4) := HI.out.bel.trans (hb4.mono HI.out.bel.size)
          have HS4 := Lib.hid (HI.out.set.keep hb4)
          have HKR := Lib.hid (hkr.below hb4)
          have X1' := Lib.hid (bx_keep X1.out HB4.out)
          have HH1 := Lib.hid h1
          have hwl : wo.heap.size < w4.heap.size := (Array.getElem?_eq_some_iff.1 X4.out).1
          obtain ⟨lf, HLF⟩ := nameIt r.left
          obtain ⟨R, HRR⟩ := nameIt r.right
          have hfr : faultR g i r = if lf < 0 ∨ gn ≤ lf then 3 else if 4 < R.length then 2 else if R.any (fun s => !hasS g s) then 3 else if (K.take i).any (fun x => cmpR x r == 0) then 6 else 0 := by
            unfold faultR; rw [HLF.out, HGN.out, HRR.out, HK.out]
          have HFR := Lib.hid hfr
          have HW4' := HW4
          have X4' := X4
          rw [HLF.out, HRR.out] at X4'
          rw [HLF.out] at c0 HW4'
          rw [HRR.out] at c1 HW4' HKR
          obtain ⟨y0, y1⟩ := bx_cells2 X4'.out
          obtain ⟨x0, x1, x2, x3⟩ := bx_cells4 X1'.out
          subst hae
          clear h1 hkr hb4 hfr
          have FIN : Hid (∀ z W, z ≠ 0 → faultR g i r = z → Below w0.heap.size w0 W → (Ending.returned (.int .i64 z) = .returned (.int .i64 (checkG g)) ∧ Below w.heap.size w W)) := by
            intro z W hz hf hb
            refine ⟨?_, HB0.out.trans (hb.mono HB0.out.size)⟩
            rw [HE.out, ← HH1.out, hf, if_neg hz]
          by_cases hlf : lf < 0 ∨ gn ≤ lf
          · have hz := HFR.out
            rw [if_pos hlf] at hz
            have HZ := Lib.hid hz
            clear hz
            by_cases hl0 : lf < 0
            · have hl0' : decide (lf < 0) = true := by simpa using hl0
              clear hlf hl0
              go_upto_region 9 with fail
              rw [HW4'.out]
              go_wp2_with fail
              go_ret
              exact FIN.out 3 _ (by decide) HZ.out HB4.out
            · have hl0' : decide (lf < 0) = false := by simpa using hl0
              have hl1' : decide (gn ≤ lf) = true := by simp; omega
              clear hlf hl0
              go_upto_region 9 with fail
              rw [HW4'.out]
              go_wp2_with fail
              go_ret
              exact FIN.out 3 _ (by decide) HZ.out HB4.out
          · have hl0' : decide (lf < 0) = false := by simp; omega
            have hl1' : decide (gn ≤ lf) = false := by simp; omega
            have hsm : small lf := ⟨by omega, by omega⟩
            have HSM := Lib.hid hsm
            have hf1 := HFR.out
            rw [if_neg hlf] at hf1
            have HF1 := Lib.hid hf1
            clear hf1 hlf
            by_cases hbig : 4 < R.length
            · have hbig' : (4 : Int) < (R.length : Int) := by omega
              have hz := HF1.out
              rw [if_pos hbig] at hz
              have HZ := Lib.hid hz
              clear hz
              go_upto_region 9 with fail
              rw [HW4'.out]
              go_wp2_with fail
              go_ret
              exact FIN.out 2 _ (by decide) HZ.out HB4.out
            · have hbig' : ¬ (4 : Int) < (R.length : Int) := by omega
              have hf2 := HF1.out
              rw [if_neg hbig] at hf2
              have HF2 := Lib.hid hf2
              have cr1 := conv_rune lf HSM.out
              have cr2 := conv_str lf
              clear hf2 hsm
              go_upto_region 9 with fail
              rw [HW4'.out]
              go_wp2_with fail
              have HK0 : Hid (Bts (Utf8.encode lf) (keyB lf (R.take 0))) := bts_enc HSM.out
              obtain ⟨k0, HK0n⟩ := nameIt (Utf8.encode lf)
              rw [HK0n.out] at HK0
              rw [HK0n.out]
              clear cr1 cr2 x0 x1 x2 x3 y0 y1 c0 c1 hl0' hl1' hbig'
              go_loopg [6, 73] R.length (fun gg v6 v73 wr => ∃ (q : Nat) (ks : ByteArray), q ≤ R.length ∧ R.length - q ≤ gg ∧ v6 = .string ks ∧ v73 = .int .i64 q ∧ Hid (Bts ks (keyB lf (R.take q))) ∧ Hid (∀ s ∈ R.take q, hasS g s = true) ∧ Hid (Below w4.heap.size w4 wr))
              case atStart => exact ⟨0, k0, by omega, by omega, rfl, rfl, HK0, Lib.hid (by simp), Below.refl _ _⟩
              case round =>
                obtain ⟨q, ks, hq, hgq, rfl, rfl, HKS, HHS, HBW⟩ := hrel
                have hks := HKS.out.size
                rw [keyB_len, List.length_take] at hks
                by_cases hql : q < R.length
                · have hql' : (q : Int) < (R.length : Int) := by omega
                  obtain ⟨b', off', hae', -, hbl', e0, e1⟩ := (HKR.out.below HBW.out).sym_at hql
                  have HKT := Lib.hid (keyB_take (l := lf) hql)
                  have HTK : Hid (R.take (q + 1) = R.take q ++ [R[q]'hql]) := List.take_succ_eq_append_getElem hql
                  have HMM : Hid (R[q]'hql ∈ R) := List.getElem_mem hql
                  obtain ⟨s, HSn⟩ := nameIt (R[q]'hql)
                  rw [HSn.out] at e0 e1 HKT HTK HMM
                  obtain ⟨st, HST⟩ := nameIt s.term
                  obtain ⟨sn, HSN⟩ := nameIt s.n
                  rw [HST.out] at e0 HKT
                  rw [HSN.out] at e1 HKT
                  obtain ⟨w5, HW5⟩ := nameIt (wr.alloc (.cells #[.bool st, .int .i64 sn] 43))
                  have hb5 : Below wr.heap.size wr w5 := by rw [← HW5.out]; exact (Below.refl _ _).alloc (Nat.le_refl _) _
                  have X5 : Hid (w5.heap[wr.heap.size]? = some (.cells #[.bool st, .int .i64 sn] 43 (0, 0))) := by rw [← HW5.out]; exact bx_new _ _ _ rfl
                  have HB5 : Hid (Below w4.heap.size w4 w5) := HBW.out.trans (hb5.mono HBW.out.size)
                  obtain ⟨x0, x1, x2, x3⟩ := bx_cells4 (bx_keep X1'.out HB5.out)
                  obtain ⟨z0, z1⟩ := bx_cells2 X5.out
                  have hhs : hasS g s = (decide (0 ≤ sn) && (st && decide (sn < gt) || !st && decide (sn < gn))) := by unfold hasS; rw [HST.out, HSN.out, HGT.out, HGN.out]
                  have HHH := Lib.hid hhs
                  have BAD : Hid (hasS g s = false → faultR g i r = 3) := by
                    intro h
                    rw [HF2.out, if_pos]
                    exact List.any_eq_true.2 ⟨s, HMM.out, by rw [h]; rfl⟩
                  have HB5w : Hid (Below w0.heap.size w0 w5) := HB4.out.trans (HB5.out.mono HB4.out.size)
                  subst hae'
                  clear hb5 hhs
                  cases st with
                  | true =>
                    by_cases hs0 : sn < 0
                    · have hs0' : decide (sn < 0) = true := by simpa using hs0
                      have HBX : Hid (faultR g i r = 3) := BAD.out (by rw [HHH.out]; simp; omega)
                      clear hs0
                      go_upto_region 17 with fail
                      rw [HW5.out]
                      go_wp2_with fail
                      go_ret
                      exact FIN.out 3 _ (by decide) HBX.out HB5w.out
                    · have hs0' : decide (sn < 0) = false := by simpa using hs0
                      by_cases hs1 : gt ≤ sn
                      · have hs1' : decide (gt ≤ sn) = true := by simpa using hs1
                        have HBX : Hid (faultR g i r = 3) := BAD.out (by rw [HHH.out]; simp; omega)
                        clear hs0 hs1
                        go_upto_region 17 with fail
                        rw [HW5.out]
                        go_wp2_with fail
                        go_ret
                        exact FIN.out 3 _ (by decide) HBX.out HB5w.out
                      · have hs1' : decide (gt ≤ sn) = false := by simpa using hs1
                        have HSS : Hid (small sn) := ⟨by omega, by omega⟩
                        have HOK : Hid (hasS g s = true) := by show _ = _; rw [HHH.out]; simp; omega
                        have cr1 := conv_rune sn HSS.out
                        have cr2 := conv_str sn
                        have hen := (bts_enc HSS.out).size
                        simp only [List.length_cons, List.length_nil] at hen
                        have HKN : Hid (Bts (ks ++ ⟨#[116]⟩ ++ Utf8.encode sn) (keyB lf (R.take (q + 1)))) := by
                          show Bts _ _
                          rw [HKT.out]
                          exact (HKS.out.app (t := ⟨#[116]⟩) (m := [116]) rfl).app (bts_enc HSS.out)
                        have HHN : Hid (∀ x ∈ R.take (q + 1), hasS g x = true) := by
                          intro x hx
                          rw [HTK.out] at hx
                          rcases List.mem_append.1 hx with h | h
                          · exact HHS.out x h
                          · simp at h; subst h; exact HOK.out
                        clear hs0 hs1
                        go_upto_region 17 with fail
                        rw [HW5.out]
                        go_wp2_with fail
                        go_roundg (R.length - (q + 1))
                        case measure => omega
                        case rel => exact ⟨q + 1, _, by omega, by omega, rfl, by go_num, HKN, HHN, HB5⟩
                  | false =>
                    by_cases hs0 : sn < 0
                    · have hs0' : decide (sn < 0) = true := by simpa using hs0
                      have HBX : Hid (faultR g i r = 3) := BAD.out (by rw [HHH.out]; simp; omega)
                      clear hs0
                      go_upto_region 17 with fail
                      rw [HW5.out]
                      go_wp2_with fail
                      go_ret
                      exact FIN.out 3 _ (by decide) HBX.out HB5w.out
                    · have hs0' : decide (sn < 0) = false := by simpa using hs0
                      by_cases hs1 : gn ≤ sn
                      · have hs1' : decide (gn ≤ sn) = true := by simpa using hs1
                        have HBX : Hid (faultR g i r = 3) := BAD.out (by rw [HHH.out]; simp; omega)
                        clear hs0 hs1
                        go_upto_region 17 with fail
                        rw [HW5.out]
                        go_wp2_with fail
                        go_ret
                        exact FIN.out 3 _ (by decide) HBX.out HB5w.out
                      · have hs1' : decide (gn ≤ sn) = false := by simpa using hs1
                        have HSS : Hid (small sn) := ⟨by omega, by omega⟩
                        have HOK : Hid (hasS g s = true) := by show _ = _; rw [HHH.out]; simp; omega
                        have cr1 := conv_rune sn HSS.out
                        have cr2 := conv_str sn
                        have hen := (bts_enc HSS.out).size
                        simp only [List.length_cons, List.length_nil] at hen
                        have HKN : Hid (Bts (ks ++ ⟨#[110]⟩ ++ Utf8.encode sn) (keyB lf (R.take (q + 1)))) := by
                          show Bts _ _
                          rw [HKT.out]
                          exact (HKS.out.app (t := ⟨#[110]⟩) (m := [110]) rfl).app (bts_enc HSS.out)
                        have HHN : Hid (∀ x ∈ R.take (q + 1), hasS g x = true) := by
                          intro x hx
                          rw [HTK.out] at hx
                          rcases List.mem_append.1 hx with h | h
                          · exact HHS.out x h
                          · simp at h; subst h; exact HOK.out
                        clear hs0 hs1
                        go_upto_region 17 with fail
                        rw [HW5.out]
                        go_wp2_with fail
                        go_roundg (R.length - (q + 1))
                        case measure => omega
                        case rel => exact ⟨q + 1, _, by omega, by omega, rfl, by go_num, HKN, HHN, HB5⟩
                · have hql' : ¬ (q : Int) < (R.length : Int) := by omega
                  have hqe : R.take q = R := List.take_of_length_le (by omega)
                  have HSB : Hid (okR r) := by
                    refine ⟨by rw [HLF.out]; exact HSM.out, fun s hs => ?_⟩
                    rw [HRR.out, ← hqe] at hs
                    have h := HHS.out s hs
                    unfold hasS at h
                    rw [HGT.out, HGN.out] at h
                    simp at h
                    exact ⟨h.1, by omega⟩
                  have hnb : R.any (fun s => !hasS g s) = false := by
                    rw [List.any_eq_false]
                    intro s hs
                    rw [← hqe] at hs
                    rw [HHS.out s hs]; decide
                  have HKE : Hid (Bts ks (keyB r.left r.right)) := by
                    have h := HKS.out
                    rw [hqe] at h
                    rw [HLF.out, HRR.out]
                    exact h
                  have hf3 := HF2.out
                  rw [hnb] at hf3
                  simp only [Bool.false_eq_true, if_false] at hf3
                  have HSW := Lib.hid (HS4.out.keep HBW.out)
                  have hkey := key_string ks _ HKE.out (by rw [hks]; unfold maxLen; omega)
                  have hlk := HSW.out.look strK Tryd.underlying32 Tryd.underlying4 (zeroB wr) hkey
                  rw [keysOf_same HI.out.ok HSB.out] at hlk
                  obtain ⟨A2, HA2⟩ := nameIt ((K.take i).any fun x => cmpR x r == 0)
                  rw [HA2.out] at hlk hf3
                  have HTK : Hid (K.take (i + 1) = K.take i ++ [r]) := by show _ = _; rw [List.take_succ_eq_append_getElem hlt, HRn.out]
                  obtain ⟨w6, hup, hset, hgrow⟩ := HSW.out.add strK Tryd.underlying32 Tryd.underlying4 (by unfold maxLen; omega) hkey (S' := keysOf (K.take (i + 1))) (by rw [HTK.out]; exact keysOf_add) (fun l' h => by rw [HTK.out]; exact keysOf_other h)
                  have HF3 := Lib.hid hf3
                  have HB6 : Hid (Below w0.heap.size w0 wr) := HB4.out.trans (HBW.out.mono HB4.out.size)
                  have HBW6 : Hid (Below w0.heap.size w0 w6) := HB6.out.grown hgrow HB6.out.size (fun k e => by cases e; exact hlo)
                  have HSET := Lib.hid hset
                  clear hf3 hnb hqe hset hgrow hkey hks
                  cases A2 with
                  | true =>
                    have HZ : Hid (faultR g i r = 6) := HF3.out
                    go_wp2_with fail
                    go_ret
                    exact FIN.out 6 _ (by decide) HZ.out HB6.out
                  | false =>
                    have HIN : Hid (FltI w0 mb g K (i + 1) w6) := by
                      refine ⟨HSET.out, HBW6.out, hlo, fun x hx => ?_, ?_⟩
                      · rw [HTK.out] at hx
                        rcases List.mem_append.1 hx with h | h
                        · exact HI.out.ok x h
                        · simp at h; subst h; exact HSB.out
                      · have h := HH1.out
                        have hz : faultR g i r = 0 := HF3.out
                        rw [hz, if_pos rfl] at h
                        exact h
                    go_wp2_with fail
                    go_roundg (K.length - (i + 1))
                    case measure => omega
                    case rel => exact ⟨i + 1, by omega, by omega, by go_num, HIN⟩
        · have hlt' : ¬ (i : Int) < (K.length : Int) := by omega
          have HZ : Hid (faultsFrom g 0 K = 0) := by show _ = _; rw [← HI.out.flt, List.drop_of_length_le (by omega), faultsFrom]
          go_wp2_with fail
          go_ret
          exact ⟨by rw [HE.out, HZ.out]; rfl, HB0.out.trans (HI.out.bel.mono HB0.out.size)⟩
end Go.Proofs.YtccjdgjehecdiaaDoor
namespace Go.Proofs.YtccjdgjehecdiaaDoor
open Go.RowKit
namespace Tx

def kw (u : List Int) : List UInt8 := u.map fun x => UInt8.ofNat x.toNat
def okW (u : List Int) : Prop := ∀ x ∈ u, small x
theorem kw_app (a b : List Int) : kw (a ++ b) = kw a ++ kw b := by simp [kw]
theorem kw_len (u : List Int) : (kw u).length = u.length := by simp [kw]
theorem kw_inj : ∀ {u v : List Int}, okW u → okW v → kw u = kw v → u = v
  | [], [], _, _, _ => rfl
  | [], y :: v, _, _, h => by simp [kw] at h
  | x :: u, [], _, _, h => by simp [kw] at h
  | x :: u, y :: v, hu, hv, h => by
    simp only [kw, List.map_cons, List.cons.injEq] at h
    have e1 := byte_inj (hu x List.mem_cons_self) (hv y List.mem_cons_self) h.1
    have e2 := kw_inj (fun z hz => hu z (List.mem_cons_of_mem _ hz)) (fun z hz => hv z (List.mem_cons_of_mem _ hz)) h.2
    rw [e1, e2]
theorem okW_app {a b : List Int} (h : okW a) (k : okW b) : okW (a ++ b) := by
  intro x hx
  rcases List.mem_append.1 hx with hx | hx
  · exact h x hx
  · exact k x hx
/-- what a datum of a map says: the words of Q are its keys, all of them true -/
structure TxD (D : DataW Unit) (Q : List Int → Prop) (c : Nat) : Prop where
  size : Maps.size D = c
  has : ∀ l, Maps.has D l = true ↔ ∃ u, okW u ∧ Q u ∧ l = .string (kw u)
  yes : ∀ l zd, Maps.has D l = true → D.atKey l zd = .lit (.bool true)
  no : ∀ l zd, Maps.has D l = false → D.atKey l zd = zd
/-- block b is a map of the words of Q, c of them -/
def TxM (b : Nat) (Q : List Int → Prop) (c : Nat) (w : World) : Prop := ∃ D : DataW Unit, w.ownsMap Tryd.prog 9 (plainElem Tryd.prog 4) b c D ∧ TxD D Q c
section
variable {b c : Nat} {Q Q' : List Int → Prop} {w w' : World} {D : DataW Unit} {u : List Int}
theorem TxM.kept {row : Option Nat} (h : TxM b Q c w) (hg : w.grownBy w' row) (hne : some b ≠ row) : TxM b Q c w' := by
  obtain ⟨D, h1, h2⟩ := h
  exact ⟨D, h1.kept hg hne, h2⟩
theorem TxM.keep (h : TxM b Q c w) (hb : Below w.heap.size w w') : TxM b Q c w' := h.kept (grown_below hb none) (by simp)
theorem TxM.lt (h : TxM b Q c w) : b < w.heap.size := by obtain ⟨D, h1, _⟩ := h; exact h1.lt
theorem TxD.eq (h : TxD D Q c) (e : ∀ u, okW u → (Q u ↔ Q' u)) : TxD D Q' c := ⟨h.size, fun l => by
  rw [h.has l]
  constructor
  · rintro ⟨u, h1, h2, h3⟩; exact ⟨u, h1, (e u h1).1 h2, h3⟩
  · rintro ⟨u, h1, h2, h3⟩; exact ⟨u, h1, (e u h1).2 h2, h3⟩, h.yes, h.no⟩
theorem TxM.eq (h : TxM b Q c w) (e : ∀ u, okW u → (Q u ↔ Q' u)) : TxM b Q' c w := by
  obtain ⟨D, h1, h2⟩ := h
  exact ⟨D, h1, h2.eq e⟩
theorem TxM.start (w : World) {b : Nat} (hb : b = w.heap.size) (hQ : ∀ u, okW u → ¬ Q u) : TxM b Q 0 (w.alloc (.map #[] 0)) := by
  subst hb
  exact ⟨.map [], World.ownsMap_made w _ _ _, rfl, fun l => ⟨fun h => by simp [Maps.has] at h, fun ⟨u, h1, h2, _⟩ => absurd h2 (hQ u h1)⟩, fun l zd h => by simp [Maps.has] at h, fun l zd _ => by simp [DataW.atKey]⟩
theorem TxD.hasW (h : TxD D Q c) (hu : okW u) : Maps.has D (.string (kw u)) = true ↔ Q u := by
  rw [h.has]
  constructor
  · rintro ⟨v, h1, h2, h3⟩
    simp at h3
    rw [kw_inj hu h1 h3]; exact h2
  · intro hq; exact ⟨u, hu, hq, rfl⟩
/-- m[k] -/
theorem TxM.look (h : TxM b Q c w) {t : TypeId} (ht : Tryd.prog.underlying t = some (.map 9 4)) (hu : okW u) {s : ByteArray} (hs : Bts s (kw u)) (hl : s.size ≤ maxLen) :
    (Q u → (Instr.lookup t (.map (some b)) (.string s) false).run Tryd.prog w = .ok (.bool true) w) ∧ (¬ Q u → (Instr.lookup t (.map (some b)) (.string s) false).run Tryd.prog w = .ok (.bool false) w) := by
  obtain ⟨D, h1, h2⟩ := h
  obtain ⟨v, ps, hrun, hv⟩ := h1.lookup strK ht (zeroB w) (plainElem_bool Tryd.underlying4 false) (key_string s _ hs hl)
  constructor
  · intro hq
    rw [h2.yes _ _ ((h2.hasW hu).2 hq)] at hv
    obtain ⟨x, rfl, hx⟩ := plainElem_bool_inv Tryd.underlying4 hv
    simp at hx
    rw [hrun, ← hx.1]
  · intro hq
    rw [h2.no _ _ (by cases hh : Maps.has D (.string (kw u)) with | false => rfl | true => exact absurd ((h2.hasW hu).1 hh) hq)] at hv
    obtain ⟨x, rfl, hx⟩ := plainElem_bool_inv Tryd.underlying4 hv
    simp at hx
    rw [hrun, ← hx.1]
/-- m[k] = true -/
theorem TxM.add (h : TxM b Q c w) {t : TypeId} (ht : Tryd.prog.underlying t = some (.map 9 4)) (hu : okW u) {s : ByteArray} (hs : Bts s (kw u)) (hl : s.size ≤ maxLen) (hc : c < maxLen) (hQ : ∀ v, okW v → (Q' v ↔ Q v ∨ v = u)) :
    ∃ w' c', (Instr.mapUpdate t (.map (some b)) (.string s) (.bool true)).run Tryd.prog w = .ok () w' ∧ TxM b Q' c' w' ∧ w.grownBy w' (some b) ∧ (Q u → c' = c) ∧ (¬ Q u → c' = c + 1) := by
  obtain ⟨D, h1, h2⟩ := h
  have hk := key_string s _ hs hl
  obtain ⟨w', hrun, ho, htn⟩ := h1.store strK ht hc hk (plainElem_bool Tryd.underlying4 true)
  have hm := h1.isMap
  have hkk := strK.key hk
  have hty := h1.tidy strK
  have hsz := Maps.size_put (k := .string (kw u)) hty (.lit (.bool true))
  have hle := ho.size_le
  have hT : TxD (D.put (.string (kw u)) (.lit (.bool true))) Q' (Maps.size (D.put (.string (kw u)) (.lit (.bool true)))) := by
    refine ⟨rfl, fun l => ?_, fun l zd hh => ?_, fun l zd hh => ?_⟩
    · by_cases e : l = .string (kw u)
      · subst e
        rw [Maps.has_put_same hm hkk]
        exact ⟨fun _ => ⟨u, hu, (hQ u hu).2 (.inr rfl), rfl⟩, fun _ => rfl⟩
      · rw [Maps.has_put_other e, h2.has]
        constructor
        · rintro ⟨v, a1, a2, a3⟩; exact ⟨v, a1, (hQ v a1).2 (.inl a2), a3⟩
        · rintro ⟨v, a1, a2, a3⟩
          rcases (hQ v a1).1 a2 with a4 | rfl
          · exact ⟨v, a1, a4, a3⟩
          · exact absurd a3 e
    · by_cases e : l = .string (kw u)
      · subst e; exact Maps.atKey_put_same hm hkk _ _
      · rw [Maps.has_put_other e] at hh
        rw [Maps.atKey_put_other e]; exact h2.yes _ _ hh
    · by_cases e : l = .string (kw u)
      · subst e; rw [Maps.has_put_same hm hkk] at hh; cases hh
      · rw [Maps.has_put_other e] at hh
        rw [Maps.atKey_put_other e]; exact h2.no _ _ hh
  refine ⟨w', _, hrun, ⟨_, ?_, hT⟩, htn.grown, fun hq => ?_, fun hq => ?_⟩
  · obtain ⟨es, ck, a1, a2, a3, a4⟩ := ho
    refine ⟨es, ck, a1, a2, ?_, a4⟩
    rw [a4]
    show es.size ≤ _
    rw [Maps.size_eq, length_read]; exact Nat.le_refl _
  · rw [hsz, if_pos ((h2.hasW hu).2 hq), h2.size]
  · rw [hsz, if_neg (fun e => hq ((h2.hasW hu).1 e)), h2.size]
theorem TxM.len (h : TxM b Q c w) {t : TypeId} (ht : Tryd.prog.underlying t = some (.map 9 4)) (ty : TypeId) : (Builtin.len_ #[t] ty #[.map (some b)]).run Tryd.prog w = .ok (.int .i64 c) w := by
  obtain ⟨D, h1, h2⟩ := h
  have := h1.len ht ty
  rw [h2.size] at this
  exact this
theorem inv_str (key : Value) (kl : Lit) (h : keyOf Tryd.prog 9 key = some kl) : ∃ x : ByteArray, key = .string x := by
  cases key <;> simp [keyOf, Tryd.underlying9, mapKey] at h
  exact ⟨_, rfl⟩
theorem inv_bool (v : Value) (y : DataW Unit × List MemPlace) (h : plainElem Tryd.prog 4 v = some y) : ∃ c : Bool, v = .bool c := by
  obtain ⟨x, e, _⟩ := plainElem_bool_inv Tryd.underlying4 h
  exact ⟨x, e⟩
theorem key_bts {s : ByteArray} {l : Lit} (h : keyOf Tryd.prog 9 (.string s) = some l) : l = .string s.data.toList ∧ s.size ≤ maxLen := by
  simp [keyOf, Tryd.underlying9, mapKey] at h
  exact ⟨h.2.symm, h.1⟩
end
end Tx
end Go.Proofs.YtccjdgjehecdiaaDoor
namespace Go.Proofs.YtccjdgjehecdiaaDoor
open Go.RowKit
namespace Lg

def atQ (Q : Nat → List Int → Prop) (n : Nat) (l : List Sym) (u : List Int) : Prop := u.length ≤ n ∧ LL Q l u
def SoundQ (rules : List Rule) (n : Nat) (Q : Nat → List Int → Prop) : Prop := ∀ A u, Q A u → u.length ≤ n ∧ Lang rules A u
def ClosedQ (rules : List Rule) (n : Nat) (Q : Nat → List Int → Prop) : Prop := ∀ r ∈ rules, ∀ u, atQ Q n r.right u → Q r.left.toNat u
section
variable {rules : List Rule} {Q Q' : Nat → List Int → Prop} {n : Nat}
theorem LL_snoc {L : Nat → List Int → Prop} {s : Sym} : ∀ {l : List Sym} {u : List Int}, LL L (l ++ [s]) u ↔ ∃ a b, u = a ++ b ∧ LL L l a ∧ LS L s b
  | [], u => by
    constructor
    · rintro ⟨a, b, rfl, h1, h2⟩
      obtain rfl : b = [] := h2
      exact ⟨[], a, by simp, rfl, h1⟩
    · rintro ⟨a, b, rfl, h1, h2⟩
      obtain rfl : a = [] := h1
      exact ⟨b, [], by simp, h2, rfl⟩
  | x :: l, u => by
    constructor
    · rintro ⟨a, b, rfl, h1, h2⟩
      obtain ⟨c, d, rfl, h3, h4⟩ := LL_snoc.1 h2
      exact ⟨a ++ c, d, by simp, ⟨a, c, rfl, h1, h3⟩, h4⟩
    · rintro ⟨c, d, rfl, ⟨a, e, rfl, h1, h3⟩, h4⟩
      exact ⟨a, e ++ d, by simp, h1, LL_snoc.2 ⟨e, d, rfl, h3, h4⟩⟩
theorem atQ_nil {u : List Int} : atQ Q n [] u ↔ u = [] := ⟨fun h => h.2, fun h => by subst h; exact ⟨Nat.zero_le _, rfl⟩⟩
theorem atQ_snoc {l : List Sym} {s : Sym} {u : List Int} : atQ Q n (l ++ [s]) u ↔ ∃ a b, u = a ++ b ∧ atQ Q n l a ∧ LS Q s b ∧ u.length ≤ n := by
  unfold atQ
  rw [LL_snoc]
  constructor
  · rintro ⟨h, a, b, rfl, h1, h2⟩
    rw [List.length_append] at h
    exact ⟨a, b, rfl, ⟨by omega, h1⟩, h2, by rw [List.length_append]; exact h⟩
  · rintro ⟨a, b, rfl, ⟨_, h1⟩, h2, h3⟩
    exact ⟨h3, a, b, rfl, h1, h2⟩
theorem atQ_sound (hs : SoundQ rules n Q) {r : Rule} (hr : r ∈ rules) (h0 : 0 ≤ r.left) {u : List Int} (h : atQ Q n r.right u) : u.length ≤ n ∧ Lang rules r.left.toNat u :=
  ⟨h.1, lang_rule hr (by omega) (LL_mono (fun A u hq => (hs A u hq).2) h.2)⟩
theorem closed_allQ (hc : ClosedQ rules n Q) {A : Nat} {u : List Int} (h : Lang rules A u) : u.length ≤ n → Q A u := by
  have key : ∀ (l : List Sym) (u : List Int), u.length ≤ n → LL (fun A u => u.length ≤ n → Q A u) l u → LL Q l u := by
    intro l
    induction l with
    | nil => intro u _ h; exact h
    | cons s l ih =>
      rintro u hu ⟨a, b, rfl, h1, h2⟩
      rw [List.length_append] at hu
      refine ⟨a, b, rfl, ?_, ih b (by omega) h2⟩
      unfold LS at h1 ⊢
      by_cases e : s.term = true
      · rw [if_pos e] at h1 ⊢; exact h1
      · rw [if_neg e] at h1 ⊢; exact h1 (by omega)
  refine lang_ind (P := fun A u => u.length ≤ n → Q A u) (fun r hr A u hA h hu => ?_) h
  have := hc r hr u ⟨hu, key _ _ hu h⟩
  rwa [show r.left.toNat = A by rw [hA]; simp] at this
theorem lang_okW (ht : ∀ r ∈ rules, ∀ s ∈ r.right, s.term = true → small s.n) {A : Nat} {u : List Int} (h : Lang rules A u) : Tx.okW u := by
  refine lang_ind (P := fun _ u => Tx.okW u) (fun r hr A u _ h => ?_) h
  have key : ∀ (l : List Sym) (u : List Int), (∀ s ∈ l, s.term = true → small s.n) → LL (fun _ u => Tx.okW u) l u → Tx.okW u := by
    intro l
    induction l with
    | nil => intro u _ h; obtain rfl : u = [] := h; intro x hx; cases hx
    | cons s l ih =>
      rintro u hl ⟨a, b, rfl, h1, h2⟩
      refine Tx.okW_app ?_ (ih b (fun s hs => hl s (List.mem_cons_of_mem _ hs)) h2)
      unfold LS at h1
      by_cases e : s.term = true
      · rw [if_pos e] at h1
        subst h1
        intro x hx
        simp at hx; subst hx
        exact hl s List.mem_cons_self e
      · rw [if_neg e] at h1; exact h1
  exact key r.right u (ht r hr) h
theorem LS_okW (ht : ∀ r ∈ rules, ∀ s ∈ r.right, s.term = true → small s.n) (hs : SoundQ rules n Q) {s : Sym} (hsm : s.term = true → small s.n) {u : List Int} (h : LS Q s u) : Tx.okW u := by
  unfold LS at h
  by_cases e : s.term = true
  · rw [if_pos e] at h
    subst h
    intro x hx
    simp at hx; subst hx
    exact hsm e
  · rw [if_neg e] at h
    exact lang_okW ht (hs _ _ h).2
theorem LL_okW (ht : ∀ r ∈ rules, ∀ s ∈ r.right, s.term = true → small s.n) (hs : SoundQ rules n Q) : ∀ {l : List Sym} {u : List Int}, (∀ s ∈ l, s.term = true → small s.n) → LL Q l u → Tx.okW u
  | [], u, _, h => by obtain rfl : u = [] := h; intro x hx; cases hx
  | s :: l, u, hl, ⟨a, b, e, h1, h2⟩ => by
    subst e
    exact Tx.okW_app (LS_okW ht hs (hl s List.mem_cons_self) h1) (LL_okW ht hs (fun s hs => hl s (List.mem_cons_of_mem _ hs)) h2)
/-- a word is added to the words of a nonterminal -/
def addQ (Q : Nat → List Int → Prop) (A : Nat) (u : List Int) : Nat → List Int → Prop := fun B v => Q B v ∨ (B = A ∧ v = u)
theorem addQ_sound (hs : SoundQ rules n Q) {A : Nat} {u : List Int} (hu : u.length ≤ n ∧ Lang rules A u) : SoundQ rules n (addQ Q A u) := by
  rintro B v (h | ⟨rfl, rfl⟩)
  · exact hs B v h
  · exact hu
end
end Lg
end Go.Proofs.YtccjdgjehecdiaaDoor
namespace Go.Proofs.YtccjdgjehecdiaaDoor
open Go.RowKit
namespace Tx

section
variable {b r c cnt : Nat} {Q Q' L : List Int → Prop} {w w' : World} {u : List Int}
theorem setBlock_twice {w : World} {b : Nat} (x y : Obj) : Go.ChangeMaps.setBlock (Go.ChangeMaps.setBlock w b x) b y = Go.ChangeMaps.setBlock w b y := by
  unfold Go.ChangeMaps.setBlock
  simp
/-- m[k], .. = true, ..: the entry first, the store behind it -/
theorem TxM.entry (h : TxM b Q c w) {t : TypeId} (ht : Tryd.prog.underlying t = some (.map 9 4)) (hu : okW u) {s : ByteArray} (hs : Bts s (kw u)) (hl : s.size ≤ maxLen) (hc : c < maxLen) (hQ : ∀ v, okW v → (Q' v ↔ Q v ∨ v = u)) :
    ∃ v0 st w1 w' c', (Instr.mapEntry t (.map (some b)) (.string s)).run Tryd.prog w = .ok (.tuple #[v0, .int .i64 st]) w1 ∧ (Instr.entryStore t (.map (some b)) (.int .i64 st) (.bool true)).run Tryd.prog w1 = .ok () w' ∧ TxM b Q' c' w' ∧ w.grownBy w' (some b) ∧ w.grownBy w1 (some b) ∧ (Q u → c' = c) ∧ (¬ Q u → c' = c + 1) := by
  obtain ⟨w', c', hrun, h1, h2, h3, h4⟩ := h.add ht hu hs hl hc hQ
  obtain ⟨D, ⟨es, clock, hb, F, _, _⟩, _⟩ := h
  obtain ⟨v0, st, es1, clock1, he, _, hst⟩ := Go.WideElems.entry_then_store (Go.WideMaps.string_law Tryd.underlying9) ht (z := .bool false) (fun u => zeroB u) hb F (key_string s _ hs hl)
  have hb1 : (Go.ChangeMaps.setBlock w b (.map es1 clock1)).heap[b]? = some (.map es1 clock1) := Go.ChangeMaps.heap_setBlock_same hb _
  obtain ⟨es', clock', k1, k2⟩ := hst _ (.bool true) hb1
  rw [setBlock_twice] at k1
  rw [hrun] at k2
  obtain rfl : w' = Go.ChangeMaps.setBlock w b (.map es' clock') := by simpa using k2
  exact ⟨v0, st, _, _, c', he, k1, h1, h2, ⟨rfl, rfl, rfl, by simp [Go.ChangeMaps.setBlock], fun i _ hi => Go.ChangeMaps.heap_setBlock_other hb _ (fun e => hi (by rw [e]))⟩, h3, h4⟩
/-- block r ranges over the map in b; L: the words still to come, cnt of them -/
def RgM (b r : Nat) (Q L : List Int → Prop) (cnt : Nat) (w : World) : Prop :=
  ∃ (D : DataW Unit) (n c : Nat) (left : Lit → Bool), w.ranges Tryd.prog 9 (plainElem Tryd.prog 4) b r n D left cnt ∧ TxD D Q c ∧ (∀ kl, left kl = true → Maps.has D kl = true) ∧ ∀ u, okW u → (left (.string (kw u)) = true ↔ L u)
theorem RgM.kept {row : Option Nat} (h : RgM b r Q L cnt w) (hg : w.grownBy w' row) (hb : some b ≠ row) (hr : some r ≠ row) : RgM b r Q L cnt w' := by
  obtain ⟨D, n, c, left, h1, h2, h3, h4⟩ := h
  exact ⟨D, n, c, left, h1.kept hg hb hr, h2, h3, h4⟩
theorem RgM.keep (h : RgM b r Q L cnt w) (hb : Below w.heap.size w w') : RgM b r Q L cnt w' := h.kept (grown_below hb none) (by simp) (by simp)
theorem RgM.lt (h : RgM b r Q L cnt w) : r < w.heap.size := by obtain ⟨D, n, c, left, h1, _⟩ := h; exact h1.lt
/-- but for one -/
def rmv (L : List Int → Prop) (u : List Int) : List Int → Prop := fun z => L z ∧ z ≠ u
/-- range m -/
theorem wpList_range_tx {ops : Array Oper} {rest : List Oper} {o : Oper} {a : Act} {K : Exit → Act → World → Prop} (w : World) (hg : o.guard = none) (m : Operand) (t : TypeId) (hop : o.op = Op.range t m) (ht : Tryd.prog.underlying t = some (.map 9 4))
    (hm : a.eval m = .map (some b)) (h : TxM b Q c w)
    (hK : ∀ w', RgM b w.heap.size Q Q c w' → Below w.heap.size w w' → w'.heap.size = w.heap.size + 1 → wpList Tryd.prog ops K rest (a.put o.dst (.pointer (some ⟨w.heap.size, 0, none⟩))) w') :
    wpList Tryd.prog ops K (o :: rest) a w := by
  obtain ⟨D, hown, hD⟩ := h
  refine wpList_range_own w hg m t hop 9 4 strK ht _ b c D hm hown fun w' hrg hgr hs => ?_
  refine hK w' ⟨D, c, c, _, by rw [← hD.size]; rw [hD.size]; have := hrg; rw [hD.size] at this; exact this, hD, fun kl h => h, fun u hu => hD.hasW hu⟩ ?_ hs
  exact (Below.refl w.heap.size w).grown hgr (Nat.le_refl _) (fun j hj => by cases hj)
/-- the step -/
theorem wpList_next_tx {ops : Array Oper} {rest : List Oper} {o : Oper} {a : Act} {K : Exit → Act → World → Prop} (w : World) (hg : o.guard = none) (it : Operand) (hop : o.op = Op.next it false)
    (hit : a.eval it = .pointer (some ⟨r, 0, none⟩)) (h : RgM b r Q L cnt w)
    (hDone : (∀ u, okW u → ¬ L u) → wpList Tryd.prog ops K rest (a.put o.dst (.tuple #[.bool false])) w)
    (hMore : ∀ (x : ByteArray) (u : List Int) (w' : World) (cnt' : Nat), okW u → Q u → L u → Bts x (kw u) → x.size = u.length → RgM b r Q (rmv L u) cnt' w' → cnt' < cnt → w.grownBy w' (some r) → w'.heap.size = w.heap.size →
      (Instr.entry (.pointer (some ⟨r, 0, none⟩))).run Tryd.prog w' = .ok (.tuple #[.string x, .bool true]) w' → wpList Tryd.prog ops K rest (a.put o.dst (.tuple #[.bool true, .string x, .bool true])) w') :
    wpList Tryd.prog ops K (o :: rest) a w := by
  obtain ⟨D, n, c, left, h1, h2, h3, h4⟩ := h
  refine wpList_next_ranges w hg it hop 9 strK _ Value.string Value.bool inv_str inv_bool b r n D left cnt hit h1 (fun _ hl => hDone fun u hu hL => ?_) (fun x v kl y w' cnt' hkey hleft hRv hat hrg hlt hgr hsz hen => ?_)
  · have := (h4 u hu).2 hL
    rw [hl] at this; cases this
  · obtain ⟨rfl, hmx⟩ := key_bts hkey
    obtain ⟨u, hu, hQ, hkl⟩ := (h2.has _).1 (h3 _ hleft)
    have hkl' : x.data.toList = kw u := by simpa using hkl
    have hL : L u := (h4 u hu).1 (by rw [← hkl']; exact hleft)
    have hB : Bts x (kw u) := hkl'
    have hsx : x.size = u.length := by rw [hB.size, kw_len]
    obtain rfl : v = true := by
      have h5 := h2.yes (.string x.data.toList) (.lit (.bool false)) (h3 _ hleft)
      rw [hat] at h5
      obtain ⟨z, hz, hy⟩ := plainElem_bool_inv Tryd.underlying4 hRv
      cases hz
      rw [hy] at h5
      simpa using h5
    refine hMore x u w' cnt' hu hQ hL hB hsx ⟨D, n, c, _, hrg, h2, fun kl hk => h3 kl (by simp at hk; exact hk.1), fun z hz => ?_⟩ hlt hgr hsz hen
    rw [hkl']
    have e1 : Lit.sameKey (.string (kw z)) (.string (kw u)) = decide (z = u) := by
      by_cases e : z = u
      · subst e; simp [Lit.sameKey]
      · have : ¬ kw z = kw u := fun h => e (kw_inj hz hu h)
        simp [Lit.sameKey, this, e]
    rw [e1]
    simp only [Bool.and_eq_true, Bool.not_eq_true', decide_eq_false_iff_not, rmv]
    rw [h4 z hz]
end
theorem bx_grown {w w' : World} {g : Nat} {o : Obj} {row : Option Nat} (h : w.heap[g]? = some o) (hg : w.grownBy w' row) (hne : some g ≠ row) : w'.heap[g]? = some o := by
  rw [hg.block g (Array.getElem?_eq_some_iff.1 h).1 hne]; exact h
/-- string([]byte{x}) of a small number -/
theorem conv_byte {n : Int} (h : small n) {g : Nat} {W : World} (hx : W.cell? ⟨g, 0, none⟩ = some (.int .u8 n)) : ∃ s : ByteArray, Bts s [UInt8.ofNat n.toNat] ∧ s.size = 1 ∧ (convert 65 9 (.slice (some ⟨g, 0, none⟩) 1 1)).run Tryd.prog W = .ok (.string s) W := by
  have := run_convert_bytes_arg (P := Tryd.prog) W 65 5 Tryd.underlying65 Tryd.underlying5 g 0 1 1 [n] rfl (fun i hi => by
    obtain rfl : i = 0 := by omega
    exact hx) 9 Tryd.underlying9
  refine ⟨_, ?_, ?_, this⟩
  · unfold Bts strOfNums; rfl
  · rfl
end Tx
end Go.Proofs.YtccjdgjehecdiaaDoor
