/- parlref5.lister.rows. The walk of lengthsOf. The lengths of a census are those of the second implementation; parlref5.Listed. -/
import Derived.Test.YtbnpemgmdnghgaaJDrawTreesRow13
import Derived.Test.YtbnpemgmdnghgaaJDrawTreesRow10
import Derived.Test.YtbnpemgmdnghgaaJDrawTreesRow6
import Derived.IntWalk
import Derived.Deep.DeepCutAuto
import Derived.Deep.CutBlock
namespace Go.Proofs.Ytbnpemgmdnghgaa
open Go.RowKit
namespace Cs

theorem elRows : ElemT Try.prog 122 40 1 24 := ElemT.mk' (z := .slice none 0 0) (by kernel_rfl) (by kernel_rfl) rfl (by decide)
/-- what the rounds over the lengths keep -/
structure LRI (H : Nat → Nat → Bool) (most : Nat) (o : Sym → Nat → Option (List Tree)) (s : Sym) (l : List Sym) (k : Nat) (w0 : World) (j : Nat) (out : List (List Tree)) (v : Value) (W : World) : Prop where
  acc : lsF H most o s l k j = some out
  row : RowD (fun b => w0.heap.size ≤ b) w0.heap.size 40 1 (rowsD out) v W
  bel : Below w0.heap.size w0 W
theorem canK_one {H : Nat → Nat → Bool} {s : Sym} {j : Nat} : canK H [s] j = hasK H s j := by
  rw [Bool.eq_iff_iff, canK_cons]
  constructor
  · rintro ⟨i, hi, h1, h2⟩
    have : j - i = 0 := by simpa [canK] using h2
    obtain rfl : i = j := by omega
    exact h1
  · intro h
    exact ⟨j, Nat.le_refl _, h, by simp [canK]⟩
theorem prodL_take {a : List Tree} {b : List (List Tree)} {p : Nat} (hp : p < a.length) : prodL (a.take (p + 1)) b = prodL (a.take p) b ++ b.map (a[p] :: ·) := by
  unfold prodL
  rw [List.take_succ_eq_append_getElem hp, List.flatMap_append]
  simp
theorem rowsD_app (a b : List (List Tree)) : rowsD (a ++ b) = rowsD a ++ rowsD b := by unfold rowsD; rw [List.map_append]
theorem rows_next {R : List (List Tree)} {b : List (List Tree)} {x : Tree} {q : Nat} (hq : q < b.length) : rowsD (R ++ (b.take (q + 1)).map (x :: ·)) = rowsD (R ++ (b.take q).map (x :: ·)) ++ [.sl ((x :: b[q]).map Tree.d)] := by
  rw [List.take_succ_eq_append_getElem hq, List.map_append, ← List.append_assoc, rowsD_app]
  rfl
section
variable {e : TypeId} {size B : Nat} {w3 : World} {vo : Value} {ds : List D} {v : Value} {wr : World}
theorem InG.block (h : InG e size B w3 vo ds v wr) {b : Nat} {o : Obj} (hb : w3.heap[b]? = some o) (hne : vo.ownBlock ≠ some b) : wr.heap[b]? = some o := by
  rw [h.gr.block b (Array.getElem?_eq_some_iff.1 hb).1 (fun e => hne e.symm)]; exact hb
end
theorem rd_past {B : Nat} {w w3 : World} {v v' : Value} {d : D} {cs : List Value} (h : Rd (fun k => B ≤ k ∧ v.ownBlock ≠ some k) w d cs) (hg : w.grownBy w3 v.ownBlock) (hat : v'.ownBlock = v.ownBlock ∨ ∃ k, v'.ownBlock = some k ∧ w.heap.size ≤ k) : Rd (fun k => B ≤ k ∧ v'.ownBlock ≠ some k) w3 d cs := by
  refine Rd.keep (fun k hk hlt => ⟨⟨hk.1, fun e => ?_⟩, hg.block k hlt (fun e => hk.2 e.symm)⟩) _ _ h
  rcases hat with h2 | ⟨j, h2, hj⟩
  · rw [h2] at e; exact hk.2 e
  · rw [h2] at e; cases e; omega
/-- a literal of one tree, and a list behind it -/
theorem rd_cons {B : Nat} {w w14 : World} {vq v14 : Value} {x : Tree} {y : List Tree} {xv : Value} {L : List Value} {g1 n : Nat} (hg1 : g1 = w.heap.size) (hB : B ≤ w.heap.size) (hvq : ∀ b, vq.ownBlock = some b → b < w.heap.size)
    (hx : Rd (fun k => B ≤ k ∧ vq.ownBlock ≠ some k) w (.sl (x.kids.map Tree.d)) [xv]) {o : Obj}
    (hy : RdAll (fun k => (B ≤ k ∧ vq.ownBlock ≠ some k) ∧ (Value.slice (some ⟨g1, 0, none⟩) 1 1).ownBlock ≠ some k) (w.alloc o) (y.map Tree.d) L)
    (ho : w14.ownsRow 0 42 3 v14 n ([.int .i64 x.rule, .int .i64 x.term, xv] ++ L)) (hn : (List.map Tree.d (x :: y)).length = n) (hg : (w.alloc o).grownBy w14 (Value.slice (some ⟨g1, 0, none⟩) 1 1).ownBlock) (hat : v14.ownBlock = (Value.slice (some ⟨g1, 0, none⟩) 1 1).ownBlock ∨ ∃ k, v14.ownBlock = some k ∧ (w.alloc o).heap.size ≤ k) :
    Rd (fun k => B ≤ k ∧ vq.ownBlock ≠ some k) w14 (.sl ((x :: y).map Tree.d)) [v14] := by
  have hx1 : Rd (fun k => (B ≤ k ∧ vq.ownBlock ≠ some k) ∧ (Value.slice (some ⟨g1, 0, none⟩) 1 1).ownBlock ≠ some k) w (.sl (x.kids.map Tree.d)) [xv] := hx.mono fun k hk hlt => ⟨hk, fun e => by simp [Value.ownBlock] at e; omega⟩
  have h1 := own_step (ds := [x.d]) (es := y.map Tree.d) (RdAll.one (rd_tree (hx1.below ((Below.refl _ _).alloc (Nat.le_refl _) o)))) hy hg hat
  refine rd_of_own ho (RdAll.mono h1 fun k hk _ => hk.1) hn (fun b e => ?_)
  rcases hat with h2 | ⟨j, h2, hj⟩
  · rw [h2] at e
    simp [Value.ownBlock] at e
    subst e
    exact ⟨by omega, fun e => by have := hvq _ e; omega⟩
  · rw [h2] at e
    cases e
    simp at hj
    exact ⟨by omega, fun e => by have := hvq _ e; omega⟩
theorem below_lit {w : World} {o : Obj} {w11 : World} {g1 : Nat} (hg1 : g1 = w.heap.size) {v : Value} (hv : v.ownBlock = some g1) (hg : (w.alloc o).grownBy w11 v.ownBlock) : Below w.heap.size w w11 := by
  refine ((Below.refl _ _).alloc (Nat.le_refl _) o).grown hg (by simp) (fun b e => ?_)
  rw [hv] at e; cases e; omega

set_option maxHeartbeats 16000000 in
set_option maxRecDepth 100000 in
theorem rowsL {g : Gram} {ra : Option Addr} {rcap N n : Nat} {lb most bt : Nat} {rb : Nat → Nat} {H : Nat → Nat → Bool} {w1 : World} (h : LE g ra rcap N n lb most bt rb H w1) (hn : n ≤ 400) (hm1 : 1 ≤ most) (hm2 : most ≤ 1000) (d : Nat) (hT : TsP g N n lb most H w1 d) : RwP g N n lb most H w1 d := by
  intro l
  induction l with
  | nil =>
    intro hl hlen k hk a cap hrd W hW
    obtain ⟨PST, HP⟩ := nameIt (LrPost (lsL H most (lsT H most g.rules d) [] k) W)
    rw [HP.out]
    obtain ⟨w2, HW2⟩ := nameIt (W.alloc (.cells #[.slice none 0 0] 40))
    obtain ⟨kb, HKB⟩ : ∃ kb : Bool, Hid (((k : Int) == 0) = kb) := ⟨_, rfl⟩
    have hkb := HKB.out
    have HE : Hid (PST (.returned (.tuple #[.slice (some ⟨W.heap.size, 0, none⟩) 1 1, .bool kb])) w2) := by
      show PST _ _
      rw [← HP.out]
      refine ⟨some ⟨W.heap.size, 0, none⟩, 1, 1, ?_, by rw [← HW2.out]; exact (Below.refl _ _).alloc (Nat.le_refl _) _, ?_⟩
      · unfold lsL
        by_cases hk0 : k = 0
        · subst hk0; rw [if_pos rfl]; simp at hkb; subst hkb; rfl
        · rw [if_neg hk0]
          have : kb = false := by rw [← hkb]; simp; omega
          subst this; rfl
      · intro L hL'
        unfold lsL at hL'
        by_cases hk0 : k = 0
        · rw [if_pos hk0] at hL'
          cases hL'
          have hx : w2.heap[W.heap.size]? = some (.cells #[.slice none 0 0] 40 (0, 0)) := by rw [← HW2.out]; exact bx_new _ _ _ rfl
          have hown : w2.ownsRow 0 40 1 (.slice (some ⟨W.heap.size, 0, none⟩) 1 1) 1 [.slice none 0 0] := own_of_block hx rfl (by simp [maxLen])
          exact rd_of_own hown (RdAll.one (rd_nilD _ _)) rfl (fun b e => by simp [Value.ownBlock] at e; subst e; exact Nat.le_refl _)
        · rw [if_neg hk0] at hL'; cases hL'
    clear hl hlen hrd hW HP h hT
    obtain ⟨z, hz⟩ : ∃ z : Nat, z = ([] : List Sym).length := ⟨_, rfl⟩
    rw [← hz]
    have hz0 : z = 0 := hz
    clear hz
    subst hz0
    go_enter Try.func72, Try.ntmps72
    go_upto_region 2 with fail
    go_wp2_with fail
    rw [HW2.out]
    first | exact HE.out | (refine bodyPost_ret (results_tmp2 Try.results72 _ _ _) rfl ?_; exact HE.out)
  | cons s l ih =>
    intro hl hlen k hk a cap hrd w0 hW
    obtain ⟨PST, HP⟩ := nameIt (LrPost (lsL H most (lsT H most g.rules d) (s :: l) k) w0)
    rw [HP.out]
    obtain ⟨o, HO⟩ := nameIt (lsT H most g.rules d)
    rw [HO.out] at HP
    have HNO : Hid (∀ w', lsL H most o (s :: l) k = none → Below w0.heap.size w0 w' → PST (.returned (.tuple #[.slice none 0 0, .bool false])) w') := by
      intro w' h1 h2
      rw [← HP.out, h1]
      exact ⟨none, 0, 0, rfl, h2, fun L h => by cases h⟩
    have HI0 : Hid (LRI H most o s l k w0 0 [] (.slice none 0 0) w0) := ⟨lsF_zero, RowD.nil _ _ _ _ _ (Nat.le_refl _), Below.refl _ _⟩
    have HYES : Hid (∀ out v W', LRI H most o s l k w0 (k + 1) out v W' → PST (.returned (.tuple #[v, .bool true])) W') := by
      intro out v W' hi
      have h2 := hi.row.rd
      obtain ⟨a, c, hv, -⟩ := hi.row.form
      rw [← HP.out, lsL_F, hi.acc, hv]
      refine ⟨a, _, c, rfl, hi.bel, fun L hL' => ?_⟩
      cases hL'
      rw [← hv]
      exact h2.mono fun b hb _ => hb.elim id id
    obtain ⟨sb, so, rfl, -, hsb, u0, u1⟩ := hrd.sym_at (i := 0) (by simp)
    simp only [List.getElem_cons_zero, Nat.zero_mul, Nat.add_zero] at u0 u1
    have hbn := hrd.bounds
    have hmx : maxLen = 9223372036854775807 := rfl
    have hrest : Rd AnyB w1 (.sl (l.map Sym.d)) [.slice (some ⟨sb, if cap = 1 then so else so + 2, none⟩) l.length (cap - 1)] := by
      have := rd_rest (k := 2) 1 hrd (syms_cells _) (by simp)
      rw [← List.map_drop, Nat.one_mul] at this
      simpa using this
    have hfirst : Rd AnyB w1 (.sl ([s].map Sym.d)) [.slice (some ⟨sb, so, none⟩) 1 cap] := by
      have := Rd.start (i := 1) hrd (by simp)
      rw [← List.map_take] at this
      simpa using this
    have HF1 : Hid (∀ j, j ≤ k → ∀ W', Below w0.heap.size w0 W' → Calls Try.prog 71 #[.pointer (some ⟨lb, 0, none⟩), .slice (some ⟨sb, so, none⟩) 1 cap, .int .i64 (j : Int)] W' fun e w' => e = .returned (.bool (hasK H s j)) ∧ Below W'.heap.size W' w') := by
      intro j hj W' hb
      have := fitsE h hn [s] (fun x hx => hl x (by simp at hx; simp [hx])) j (by omega) (some ⟨sb, so, none⟩) cap hfirst W' (hW.trans (hb.mono hW.size))
      rw [canK_one] at this
      exact this
    have HF2 : Hid (∀ j, j ≤ k → ∀ W', Below w0.heap.size w0 W' → Calls Try.prog 71 #[.pointer (some ⟨lb, 0, none⟩), .slice (some ⟨sb, if cap = 1 then so else so + 2, none⟩) l.length (cap - 1), .int .i64 ((k - j : Nat) : Int)] W' fun e w' => e = .returned (.bool (canK H l (k - j))) ∧ Below W'.heap.size W' w') :=
      fun j hj W' hb => fitsE h hn l (fun x hx => hl x (List.mem_cons_of_mem _ hx)) (k - j) (by omega) _ _ hrest W' (hW.trans (hb.mono hW.size))
    have HTS : Hid (∀ j, j ≤ k → ∀ W', Below w0.heap.size w0 W' → Calls Try.prog 46 #[.pointer (some ⟨lb, 0, none⟩), .agg #[.bool s.term, .int .i64 s.n], .int .i64 (j : Int), .int .i64 (d : Int)] W' (LsPost (o s j) W')) := by
      intro j hj W' hb
      rw [← HO.out]
      exact hT s (hl s List.mem_cons_self) j (by omega) W' (hW.trans (hb.mono hW.size))
    have HRS : Hid (∀ j, j ≤ k → ∀ W', Below w0.heap.size w0 W' → Calls Try.prog 72 #[.pointer (some ⟨lb, 0, none⟩), .slice (some ⟨sb, if cap = 1 then so else so + 2, none⟩) l.length (cap - 1), .int .i64 ((k - j : Nat) : Int), .int .i64 (d : Int)] W' (LrPost (lsL H most o l (k - j)) W')) := by
      intro j hj W' hb
      rw [← HO.out]
      exact ih (fun x hx => hl x (List.mem_cons_of_mem _ hx)) (by simp at hlen; omega) (k - j) (by omega) _ _ hrest W' (hW.trans (hb.mono hW.size))
    have HLA : Hid (∀ j L, o s j = some L → L.length ≤ 1000) := by
      intro j L hL'
      rw [← HO.out] at hL'
      have := lsT_len hm1 _ _ _ _ hL'
      omega
    have HLB2 : Hid (∀ j L, lsL H most o l (k - j) = some L → L.length ≤ 1000) := by
      intro j L hL'
      have := lsL_len hm1 _ _ _ hL'
      omega
    have HLBK : Hid (∀ j L y, lsL H most o l (k - j) = some L → y ∈ L → y.length ≤ 1000) := by
      intro j L y hL' hy
      have : ∀ (l : List Sym) (k : Nat) R, lsL H most o l k = some R → ∀ y ∈ R, y.length = l.length := by
        intro l
        induction l with
        | nil =>
          intro k R hR y hy
          unfold lsL at hR
          by_cases hk : k = 0
          · rw [if_pos hk] at hR; cases hR; simp at hy; subst hy; rfl
          · rw [if_neg hk] at hR; cases hR
        | cons s l ihl =>
          intro k R hR y hy
          rw [lsL_F] at hR
          have key : ∀ m R, lsF H most o s l k m = some R → ∀ y ∈ R, y.length = l.length + 1 := by
            intro m
            induction m with
            | zero => intro R hR y hy; rw [lsF_zero] at hR; cases hR; cases hy
            | succ m ihm =>
              intro R hR y hy
              rw [lsF_next] at hR
              cases h0 : lsF H most o s l k m with
              | none => rw [h0] at hR; cases hR
              | some out =>
                rw [h0] at hR
                simp only [Option.bind_some] at hR
                by_cases c : (hasK H s m && canK H l (k - m)) = true
                · rw [if_pos c] at hR
                  obtain ⟨x, z, hx, hz, rfl, _⟩ := lsStep_some hR
                  rcases List.mem_append.1 hy with hy | hy
                  · exact ihm out h0 y hy
                  · unfold prodL at hy
                    obtain ⟨t, ht, hy⟩ := List.mem_flatMap.1 hy
                    obtain ⟨u, hu, rfl⟩ := List.mem_map.1 hy
                    rw [List.length_cons, ihl _ _ hz u hu]
                · rw [if_neg c] at hR
                  cases hR
                  exact ihm _ h0 y hy
          exact key _ _ hR y hy
      have h5 := this l (k - j) L hL' y hy
      simp at hlen
      omega
    have HNX : Hid (∀ j, lsF H most o s l k (j + 1) = (lsF H most o s l k j).bind fun out => if (hasK H s j && canK H l (k - j)) = true then lsStep most out (o s j) (lsL H most o l (k - j)) else some out) := fun j => lsF_next
    have HFN : Hid (∀ j, j ≤ k → lsF H most o s l k (j + 1) = none → lsL H most o (s :: l) k = none) := by
      intro j hj hf
      rw [lsL_F]
      exact lsF_none hf (by omega)
    have hlb := (Array.getElem?_eq_some_iff.1 h.box).1
    have HLB : Hid (∀ W', Below w0.heap.size w0 W' → W'.cell? ⟨lb, 0 + 5, none⟩ = some (.int .i64 (most : Int))) := fun W' hb =>
      (bx_cells6c (((hW.trans (hb.mono hW.size)).block lb hlb).trans h.box)).2.2.2.2.2
    have HSC : Hid (∀ W', Below w0.heap.size w0 W' → W'.cell? ⟨sb, so, none⟩ = some (.bool s.term) ∧ W'.cell? ⟨sb, so + 1, none⟩ = some (.int .i64 s.n)) := fun W' hb => by
      have hb1 := hW.trans (hb.mono hW.size)
      exact ⟨(hb1.cell (lt_of_cell u0)).trans u0, (hb1.cell (lt_of_cell u1)).trans u1⟩
    obtain ⟨m, HM⟩ := nameIt (s :: l).length
    have hml : m = l.length + 1 := by rw [← HM.out]; rfl
    have hmcap : m ≤ cap ∧ cap ≤ 9223372036854775807 := by rw [← HM.out]; omega
    have hmm : (0 : Int) < (m : Int) := by omega
    have hm1' : (1 : Int) ≤ (m : Int) := by omega
    have hcap1 : (1 : Int) ≤ (cap : Int) := by omega
    have hmc1 : (m : Int) ≤ (cap : Int) := by omega
    have hmne : ¬ m = 0 := by omega
    have hm0b : ((m : Int) == 0) = false := by simp; omega
    have HML : Hid (l.length = m - 1) := by show _ = _; omega
    rw [HML.out] at HF2 HRS
    obtain ⟨st, HST⟩ := nameIt s.term
    obtain ⟨sn, HSN⟩ := nameIt s.n
    rw [HST.out, HSN.out] at HTS HSC
    obtain ⟨soff, HSO⟩ := nameIt (if cap = 1 then so else so + 2)
    obtain ⟨n2, HN2⟩ := nameIt (m - 1)
    obtain ⟨c2, HC2⟩ := nameIt (cap - 1)
    rw [HSO.out, HN2.out, HC2.out] at HF2 HRS
    rw [HM.out]
    have hslt : ∀ W, (Instr.slice 46 (.slice (some ⟨sb, so, none⟩) m cap) (some (.int .i64 1)) none none).run Try.prog W = .ok (.slice (some ⟨sb, soff, none⟩) n2 c2) W := fun W => by
      have hs := run_slice_l (P := Try.prog) W 46 (some ⟨sb, so, none⟩) m cap (by kernel_rfl) .i64 1 (by omega) (by omega)
      rw [hs, ← HSO.out, ← HN2.out, ← HC2.out]
      by_cases hct : cap = 1
      · subst hct; simp [go_sem]
      · simp [go_sem, hct]
    clear hl hrd hW HP h hT ih hrest hfirst hbn u0 u1 hml hlb hlen
    go_enter Try.func72, Try.ntmps72
    go_wp2_with fail
    go_loopg [10, 11, 12, 13, 14, 18] (k + 1) (fun gg v10 v11 v12 v13 v14 v18 wr => ∃ (j : Nat) (out : List (List Tree)) (vo : Value), j ≤ k + 1 ∧ k + 1 - j ≤ gg ∧ vo = v10 ∧ v11 = .int .i64 (j : Int) ∧ Hid (LRI H most o s l k w0 j out vo wr))
    case atStart => exact ⟨0, [], _, by omega, by omega, rfl, rfl, HI0⟩
    case round =>
      clear HI0
      obtain ⟨j, out, vo, hj, hgg, rfl, rfl, HI⟩ := hrel
      obtain ⟨w5, rfl⟩ : ∃ ww : World, ww = wr := ⟨_, rfl⟩
      obtain ⟨ao, co, hvo, hco1, hco2, hown⟩ := HI.out.row.form
      rw [rowsD_len] at hvo hco1
      unfold maxLen at hco2
      subst hvo
      have HOWN := Lib.hid hown
      have holen := lsF_len _ _ HI.out.acc
      obtain ⟨no, HNO2⟩ := nameIt out.length
      rw [HNO2.out] at HI HOWN hco1 holen
      rw [HNO2.out]
      clear hown
      by_cases hjk : j ≤ k
      · have hjk' : (j : Int) ≤ (k : Int) := by omega
        obtain ⟨kj, HKJ⟩ := nameIt (k - j)
        have hkjw : IntKind.i64.wrap ((k : Int) - (j : Int)) = (kj : Int) := by rw [IntWalk.i64_in _ (by omega)]; have := HKJ.out; omega
        have hf1 := HF1.out j hjk
        have hf2 := HF2.out j hjk
        have hts := HTS.out j hjk
        have hrs := HRS.out j hjk
        have hnx := HNX.out j
        have hla := HLA.out j
        have hlb2 := HLB2.out j
        have hlbk := HLBK.out j
        rw [HI.out.acc, Option.bind_some] at hnx
        rw [HKJ.out] at hf2 hrs hnx
        rw [HKJ.out] at hlb2 hlbk
        obtain ⟨c1, HC1⟩ := nameIt (hasK H s j)
        obtain ⟨c3, HC3⟩ := nameIt (canK H l kj)
        obtain ⟨oa, HOA⟩ := nameIt (o s j)
        obtain ⟨ob, HOB⟩ := nameIt (lsL H most o l kj)
        rw [HC1.out] at hf1 hnx
        rw [HC3.out] at hf2 hnx
        rw [HOA.out] at hts hnx hla
        rw [HOB.out] at hrs hnx hlb2 hlbk
        have HF1J := Lib.hid hf1
        have HF2J := Lib.hid hf2
        have HTSJ := Lib.hid hts
        have HRSJ := Lib.hid hrs
        have HNXJ := Lib.hid hnx
        have HLAJ := Lib.hid hla
        have HLBJ := Lib.hid hlb2
        have HLKJ := Lib.hid hlbk
        clear hf1 hf2 hts hrs hnx hla hlb2 hlbk
        have HB5 := Lib.hid HI.out.bel
        have HRW5 := Lib.hid HI.out.row
        go_upto_region 7 with fail
        go_wp2_with fail
        refine (HF1J.out w5 HB5.out).mono ?_
        rintro e w6 ⟨rfl, hb6⟩
        have HB6 := Lib.hid (HB5.out.trans (hb6.mono HB5.out.size))
        have HRW6 := Lib.hid (HRW5.out.keep hb6)
        have HS56 := Lib.hid hb6.size
        clear hb6
        cases c1 with
        | false =>
          have HI2 : Hid (LRI H most o s l k w0 (j + 1) out (.slice ao no co) w6) := ⟨by have := HNXJ.out; simpa using this, HRW6.out, HB6.out⟩
          go_wp2_with fail
          go_roundg (k + 1 - (j + 1))
          case measure => omega
          case rel => exact ⟨j + 1, out, _, by omega, by omega, rfl, by go_num, HI2⟩
        | true =>
          go_wp2_with fail
          refine (HF2J.out w6 HB6.out).mono ?_
          rintro e w7 ⟨rfl, hb7⟩
          have HB7 := Lib.hid (HB6.out.trans (hb7.mono HB6.out.size))
          have HRW7 := Lib.hid (HRW6.out.keep hb7)
          have HS67 := Lib.hid hb7.size
          clear hb7
          cases c3 with
          | false =>
            have HI2 : Hid (LRI H most o s l k w0 (j + 1) out (.slice ao no co) w7) := ⟨by have := HNXJ.out; simpa using this, HRW7.out, HB7.out⟩
            go_wp2_with fail
            go_roundg (k + 1 - (j + 1))
            case measure => omega
            case rel => exact ⟨j + 1, out, _, by omega, by omega, rfl, by go_num, HI2⟩
          | true =>
            have HNY : Hid (lsF H most o s l k (j + 1) = lsStep most out oa ob) := by show _ = _; have := HNXJ.out; simpa using this
            obtain ⟨u0, u1⟩ := HSC.out w7 HB7.out
            clear HNXJ
            go_wp2_with fail
            refine (HTSJ.out w7 HB7.out).mono ?_
            rintro e w8 ⟨aa, na, ca, rfl, hb8, hrd8⟩
            have HB8 := Lib.hid (HB7.out.trans (hb8.mono HB7.out.size))
            have HRW8 := Lib.hid (HRW7.out.keep hb8)
            have HS78 := Lib.hid hb8.size
            clear u0 u1
            cases oa with
            | none =>
              have HE := Lib.hid (HNO.out w8 (HFN.out j hjk HNY.out) HB8.out)
              clear hb8 hrd8
              go_wp2_with fail
              first | exact HE.out | (refine bodyPost_ret (results_tmp2 Try.results72 _ _ _) rfl ?_; exact HE.out)
            | some la =>
              have hra8 := hrd8 la rfl
              have hlal := HLAJ.out la rfl
              have hbba := hra8.bounds
              rw [List.length_map] at hbba
              obtain ⟨rfl, hca1, hca2⟩ := hbba
              unfold maxLen at hca2
              go_wp2_with fail
              refine (HRSJ.out w8 HB8.out).mono ?_
              rintro e w9 ⟨ab, nb, cbb, rfl, hb9, hrd9⟩
              have HB9 := Lib.hid (HB8.out.trans (hb9.mono HB8.out.size))
              have HRW9 := Lib.hid (HRW8.out.keep hb9)
              cases ob with
              | none =>
                have HE := Lib.hid (HNO.out w9 (HFN.out j hjk HNY.out) HB9.out)
                clear hb8 hrd8 hb9 hrd9 hra8
                go_wp2_with fail
                first | exact HE.out | (refine bodyPost_ret (results_tmp2 Try.results72 _ _ _) rfl ?_; exact HE.out)
              | some b =>
                have hrb9 := hrd9 b rfl
                have hlbl := HLBJ.out b rfl
                have hkbl := HLKJ.out b
                have hbbb := hrb9.bounds
                rw [rowsD_len] at hbbb
                obtain ⟨rfl, hcb1, hcb2⟩ := hbbb
                unfold maxLen at hcb2
                have HVO : Hid (∀ b', (Value.slice ao no co).ownBlock = some b' → w0.heap.size ≤ b' ∧ b' < w7.heap.size) := fun b' e => ⟨(HOWN.out b' e).1, by have h1 := (HOWN.out b' e).2; have h2 := HS56.out; have h3 := HS67.out; omega⟩
                have h78 := hb8.size
                have HRA : Hid (Rd (fun q => w0.heap.size ≤ q ∧ (Value.slice ao no co).ownBlock ≠ some q) w9 (.sl (la.map Tree.d)) [.slice aa la.length ca]) := (hra8.below hb9).mono fun q hq _ => ⟨by have h9 : w7.heap.size ≤ q := hq; have := HB7.out.size; omega, fun e => by have := (HVO.out q e).2; have h9 : w7.heap.size ≤ q := hq; omega⟩
                have HRB : Hid (Rd (fun q => w0.heap.size ≤ q ∧ (Value.slice ao no co).ownBlock ≠ some q) w9 (.sl (rowsD b)) [.slice ab b.length cbb]) := hrb9.mono fun q hq _ => ⟨by have h9 : w8.heap.size ≤ q := hq; have := HB8.out.size; omega, fun e => by have := (HVO.out q e).2; have h9 : w8.heap.size ≤ q := hq; omega⟩
                have HKBL : Hid (∀ y ∈ b, y.length ≤ 1000) := fun y hy => hkbl y rfl hy
                have HLN : Hid (∀ p, p ≤ la.length → (out ++ prodL (la.take p) b).length = no + p * b.length) := by
                  intro p hp
                  rw [List.length_append, prodL_len, List.length_take, HNO2.out, Nat.min_eq_left hp]
                have HG0 : Hid (InG 40 1 w0.heap.size w9 (.slice ao no co) (rowsD (out ++ prodL (la.take 0) b)) (.slice ao no co) w9) := by
                  rw [List.take_zero, show prodL [] b = [] from rfl, List.append_nil]; exact InG.start HRW9.out
                obtain ⟨al, HAL⟩ := nameIt la.length
                obtain ⟨bl, HBL⟩ := nameIt b.length
                rw [HAL.out] at HRA hca1 hlal
                rw [HBL.out] at HRB hcb1 hlbl
                simp only [HAL.out, HBL.out] at HLN
                rw [HAL.out, HBL.out]
                clear hra8 hrb9 hrd8 hrd9 hb8 hb9 hkbl
                go_wp2_with fail
                go_loopg [10, 18, 73] al (fun gg v10 v18 v73 wr => ∃ (p : Nat) (vq : Value), p ≤ al ∧ al - p ≤ gg ∧ vq = v10 ∧ v73 = .int .i64 (p : Int) ∧ Hid (InG 40 1 w0.heap.size w9 (.slice ao no co) (rowsD (out ++ prodL (la.take p) b)) vq wr))
                case atStart => exact ⟨0, _, by omega, by omega, rfl, rfl, HG0⟩
                case round =>
                  clear HG0
                  obtain ⟨p, vq, hp, hgp, rfl, rfl, HG⟩ := hrel
                  obtain ⟨w10, rfl⟩ : ∃ ww : World, ww = wr := ⟨_, rfl⟩
                  obtain ⟨aq, cq, hvq, hcq1, hcq2, hownq⟩ := HG.out.row.form
                  rw [rowsD_len, HLN.out p hp] at hvq hcq1
                  unfold maxLen at hcq2
                  subst hvq
                  have HB10 : Hid (Below w0.heap.size w0 w10) := HG.out.below HB9.out HB9.out.size (fun b' e => (HVO.out b' e).1)
                  obtain ⟨nq, HNQ⟩ := nameIt (no + p * bl)
                  rw [HNQ.out] at HG hcq1 hownq
                  rw [HNQ.out]
                  have hnqb : nq ≤ 2000000 := by
                    have h1 := HNQ.out
                    have h2 : p * bl ≤ 1000 * 1000 := Nat.mul_le_mul (by omega) (by omega)
                    omega
                  by_cases hpa : p < al
                  · have hpa' : (p : Int) < (al : Int) := by omega
                    have hp0 : (0 : Int) ≤ (p : Int) := by omega
                    have hpx : p < la.length := by rw [HAL.out]; exact hpa
                    have hra := HG.out.rd HRA.out
                    obtain ⟨xb0, xo, xv, rfl, -, -, x0, x1, x2, hxk⟩ := hra.kid hpx
                    obtain ⟨xa, xc, rfl, -, -⟩ := hxk.form
                    rw [List.length_map] at x2 hxk
                    have HPN := Lib.hid (prodL_take (b := b) hpx)
                    have HXK := Lib.hid hxk
                    obtain ⟨x, HXN⟩ := nameIt (la[p]'hpx)
                    rw [HXN.out] at x0 x1 x2 HXK HPN
                    obtain ⟨xr, HXR⟩ := nameIt x.rule
                    obtain ⟨xt, HXT⟩ := nameIt x.term
                    obtain ⟨xl, HXL⟩ := nameIt x.kids.length
                    rw [HXR.out] at x0
                    rw [HXT.out] at x1
                    rw [HXL.out] at x2 HXK
                    obtain ⟨w11, HW11⟩ := nameIt (w10.alloc (.cells #[.int .i64 xr, .int .i64 xt, .slice xa xl xc] 42))
                    have HB1011 : Hid (Below w10.heap.size w10 w11) := by rw [← HW11.out]; exact (Below.refl _ _).alloc (Nat.le_refl _) _
                    have X11 : Hid (w11.heap[w10.heap.size]? = some (.cells #[.int .i64 xr, .int .i64 xt, .slice xa xl xc] 42 (0, 0))) := by rw [← HW11.out]; exact bx_new _ _ _ rfl
                    have HXO : Hid (∀ b', (Value.slice aq nq cq).ownBlock = some b' → b' ≠ w10.heap.size) := fun b' e => by have := (hownq b' e).2; omega
                    obtain ⟨xb, HXB⟩ := nameIt w10.heap.size
                    rw [HXB.out] at X11 HXO
                    have HG1 : Hid (InG 40 1 w0.heap.size w9 (.slice ao no co) (rowsD ((out ++ prodL (la.take p) b) ++ (b.take 0).map (x :: ·))) (.slice aq nq cq) w11) := by
                      rw [List.take_zero, List.map_nil, List.append_nil]; exact HG.out.keep HB1011.out
                    have HXK1 := Lib.hid (HXK.out.below HB1011.out)
                    have HXW : Hid (xb < w11.heap.size) := (Array.getElem?_eq_some_iff.1 X11.out).1
                    have hblB : bl ≤ 1000 := hlbl
                    clear hra hxk hownq
                    go_upto_region 17 with fail
                    rw [HW11.out, HXB.out]
                    clear x0 x1 x2
                    go_wp2_with fail
                    go_loopg [10, 18, 79] bl (fun gg v10 v18 v79 wr => ∃ (q : Nat) (vq : Value), q ≤ bl ∧ bl - q ≤ gg ∧ vq = v10 ∧ v79 = .int .i64 (q : Int) ∧ Hid (InG 40 1 w0.heap.size w9 (.slice ao no co) (rowsD ((out ++ prodL (la.take p) b) ++ (b.take q).map (x :: ·))) vq wr) ∧ Hid (wr.heap[xb]? = some (.cells #[.int .i64 xr, .int .i64 xt, .slice xa xl xc] 42 (0, 0))) ∧ Hid (∀ b', vq.ownBlock = some b' → b' ≠ xb) ∧ Hid (Rd (fun q => w0.heap.size ≤ q ∧ vq.ownBlock ≠ some q) wr (.sl (x.kids.map Tree.d)) [.slice xa xl xc]))
                    case atStart => exact ⟨0, _, by omega, by omega, rfl, rfl, HG1, X11, HXO, HXK1.out.mono (fun q hq _ => ⟨hq.1, hq.2.2⟩)⟩
                    case round =>
                      clear HG1 X11 HXO HXK1 HXK HG
                      obtain ⟨q, vq, hq, hgq, rfl, rfl, HG, X12, HXO, HXK⟩ := hrel
                      obtain ⟨w12, rfl⟩ : ∃ ww : World, ww = wr := ⟨_, rfl⟩
                      obtain ⟨aq, cq, hvq, hcq1, hcq2, hownq⟩ := HG.out.row.form
                      have hlq : (rowsD ((out ++ prodL (la.take p) b) ++ (b.take q).map (x :: ·))).length = nq + q := by
                        rw [rowsD_len, List.length_append, HLN.out p hp, List.length_map, List.length_take, HBL.out, HNQ.out, Nat.min_eq_left hq]
                      rw [hlq] at hvq hcq1
                      have HLQ := Lib.hid hlq
                      unfold maxLen at hcq2
                      subst hvq
                      obtain ⟨mq, HMQ⟩ := nameIt (nq + q)
                      rw [HMQ.out] at HG hcq1 HXO HXK hownq HLQ
                      rw [HMQ.out]
                      have hmqb : mq ≤ 2001000 := by have h1 := HMQ.out; omega
                      have HOWNQ := Lib.hid hownq
                      clear hlq hownq
                      by_cases hqb : q < bl
                      · have hqb' : (q : Int) < (bl : Int) := by omega
                        have hq0 : (0 : Int) ≤ (q : Int) := by omega
                        have hqx : q < b.length := by rw [HBL.out]; exact hqb
                        have hrb := HG.out.rd HRB.out
                        obtain ⟨bb, off, vk, rfl, -, -, c0, hrk⟩ := Rd.row_at hrb hqx
                        obtain ⟨yk, ck2, rfl, hck1, hck2⟩ := hrk.form
                        rw [List.length_map] at c0 hrk
                        have hyl := HKBL.out b[q] (List.getElem_mem hqx)
                        have HRN := Lib.hid (rows_next (R := out ++ prodL (la.take p) b) (x := x) hqx)
                        have HYK := Lib.hid hrk
                        obtain ⟨y, HYN⟩ := nameIt (b[q]'hqx)
                        rw [HYN.out] at c0 HYK HRN hyl
                        obtain ⟨yl, HYL⟩ := nameIt y.length
                        rw [HYL.out] at c0 HYK hyl
                        obtain ⟨z0, z1, z2⟩ := bx_cells3 X12.out
                        clear hrb hrk
                        go_upto_region 20 with fail
                        have hylb : (List.map Tree.d y).length ≤ 1000 := by rw [List.length_map, HYL.out]; exact hyl
                        have HYC : Hid (∀ d ∈ List.map Tree.d y, d.cells = 3) := trees_cells y
                        obtain ⟨g1, HG1⟩ := nameIt w12.heap.size
                        have HOL : Hid ((w12.alloc (.cells #[.int .i64 xr, .int .i64 xt, .slice xa xl xc] 42)).ownsRow 0 42 3 (.slice (some ⟨w12.heap.size, 0, none⟩) 1 1) 1 [.int .i64 xr, .int .i64 xt, .slice xa xl xc]) :=
                          own_of_block (bx_new _ _ _ rfl) rfl (by simp [maxLen])
                        have HYK13 : Hid (Rd (fun k => (w0.heap.size ≤ k ∧ (Value.slice aq mq cq).ownBlock ≠ some k) ∧ (Value.slice (some ⟨w12.heap.size, 0, none⟩) 1 1).ownBlock ≠ some k) (w12.alloc (.cells #[.int .i64 xr, .int .i64 xt, .slice xa xl xc] 42)) (.sl (y.map Tree.d)) [.slice yk yl ck2]) :=
                          (HYK.out.mono fun k hk hlt => ⟨⟨hk.1, hk.2.2⟩, fun e => by simp [Value.ownBlock] at e; omega⟩).below ((Below.refl _ _).alloc (Nat.le_refl _) _)
                        have hB12 : w0.heap.size ≤ w12.heap.size := HG.out.row.le
                        rw [HG1.out] at HOL HYK13
                        go_wp2_with (at_builtin; rw [HG1.out]; refine wp_appD elTree rfl _ _ rfl HOL.out rfl HYK13.out rfl HYC.out (by omega) (by unfold maxLen; omega) (by omega) ?_)
                        intro v14 w14 L14 hL14 ho14 hg14 hat14
                        have HB14 : Hid (Below w12.heap.size w12 w14) := below_lit HG1.out.symm rfl hg14
                        have HEL : Hid (Rd (fun k => w0.heap.size ≤ k ∧ (Value.slice aq mq cq).ownBlock ≠ some k) w14 (.sl ((x :: y).map Tree.d)) [v14]) := by
                          refine rd_cons HG1.out.symm hB12 (fun b e => (HOWNQ.out b e).2) HXK.out hL14 (by rw [HXR.out, HXT.out]; exact ho14) (by simp; omega) hg14 (by simpa using hat14)
                        have HG14 := Lib.hid (HG.out.keep HB14.out)
                        obtain ⟨a14, c14, rfl, -, -⟩ := own_len ho14
                        obtain ⟨n14, HN14⟩ := nameIt (1 + y.length)
                        rw [HN14.out] at HEL
                        rw [HN14.out]
                        obtain ⟨xs15, ho15, hd15⟩ := HG14.out.row.own
                        rw [HLQ.out] at ho15
                        have HO15 := Lib.hid ho15
                        have HD15 := Lib.hid hd15
                        have hle14 := HG14.out.row.le
                        clear hL14 ho14 hg14 hat14 ho15 hd15
                        go_wp2_with (at_builtin; refine wp_app1at elRows rfl _ _ rfl HO15.out rfl rfl (by simp) rfl rfl (by omega) (by unfold maxLen; omega) (by omega) ?_)
                        intro v15 w15 ho15 hg15 hat15
                        have HG15 : Hid (InG 40 1 w0.heap.size w9 (.slice ao no co) (rowsD ((out ++ prodL (la.take p) b) ++ (b.take (q + 1)).map (x :: ·))) v15 w15) := by
                          show InG _ _ _ _ _ _ _ _
                          rw [HRN.out]
                          exact HG14.out.step HO15.out HD15.out HLQ.out.symm HEL.out (fun q' hq' _ => hq') ho15 hg15 hat15
                        have h1214 := HB14.out.size
                        have HX15 : Hid (w15.heap[xb]? = some (.cells #[.int .i64 xr, .int .i64 xt, .slice xa xl xc] 42 (0, 0))) := by
                          have h1 := bx_keep X12.out HB14.out
                          exact (hg15.block xb (Array.getElem?_eq_some_iff.1 h1).1 (fun e => HXO.out xb e.symm rfl)).trans h1
                        have HXO15 : Hid (∀ b', v15.ownBlock = some b' → b' ≠ xb) := by
                          intro b' e
                          rcases hat15 with h2 | ⟨j2, h2, hj2⟩
                          · rw [h2] at e; exact HXO.out b' e
                          · rw [h2] at e; cases e
                            have := (Array.getElem?_eq_some_iff.1 X12.out).1
                            omega
                        have HXK15 := Lib.hid (rd_past (HXK.out.below HB14.out) hg15 hat15)
                        obtain ⟨a15, c15, rfl, -, -⟩ := own_len ho15
                        clear ho15 hg15 hat15 c0 z0 z1 z2
                        go_wp2_with fail
                        go_roundg (bl - (q + 1))
                        case measure => omega
                        case rel => exact ⟨q + 1, _, by omega, by omega, rfl, by go_num, HG15, HX15, HXO15, HXK15⟩
                      · obtain rfl : q = bl := by omega
                        have htk : b.take q = b := List.take_of_length_le (by rw [HBL.out]; exact Nat.le_refl _)
                        have HG2 : Hid (InG 40 1 w0.heap.size w9 (.slice ao no co) (rowsD (out ++ prodL (la.take (p + 1)) b)) (.slice aq mq cq) w12) := by
                          have hg := HG.out
                          rw [htk, List.append_assoc, ← HPN.out] at hg
                          exact hg
                        go_wp2_with fail
                        go_roundg (al - (p + 1))
                        case measure => omega
                        case rel => exact ⟨p + 1, _, by omega, by omega, rfl, by go_num, HG2⟩
                  · obtain rfl : p = al := by omega
                    have htk : la.take p = la := List.take_of_length_le (by rw [HAL.out]; exact Nat.le_refl _)
                    have hg := HG.out
                    rw [htk] at hg
                    have HGG := Lib.hid hg
                    have hln := HLN.out p (Nat.le_refl _)
                    rw [htk, HNQ.out] at hln
                    have HLN2 := Lib.hid hln
                    have x5 := HLB.out w10 HB10.out
                    have HNZ : Hid (lsF H most o s l k (j + 1) = if most < (out ++ prodL la b).length then none else some (out ++ prodL la b)) := HNY.out
                    rw [hln] at HNZ
                    clear hg hln hownq htk HG
                    by_cases hmn : most < nq
                    · have hmn' : decide ((most : Int) < (nq : Int)) = true := by simp; omega
                      have HE := Lib.hid (HNO.out w10 (HFN.out j hjk (by have := HNZ.out; rw [if_pos hmn] at this; exact this)) HB10.out)
                      go_wp2_with fail
                      first | exact HE.out | (refine bodyPost_ret (results_tmp2 Try.results72 _ _ _) rfl ?_; exact HE.out)
                    · have hmn' : decide ((most : Int) < (nq : Int)) = false := by simp; omega
                      have HI2 : Hid (LRI H most o s l k w0 (j + 1) (out ++ prodL la b) (.slice aq nq cq) w10) :=
                        ⟨by have := HNZ.out; rw [if_neg hmn] at this; exact this, HGG.out.row, HB10.out⟩
                      go_wp2_with fail
                      go_roundg (k + 1 - (j + 1))
                      case measure => omega
                      case rel => exact ⟨j + 1, _, _, by omega, by omega, rfl, by go_num, HI2⟩
      · obtain rfl : j = k + 1 := by omega
        have HE := Lib.hid (HYES.out out _ w5 HI.out)
        have hjk' : ¬ (((k + 1 : Nat) : Int)) ≤ (k : Int) := by omega
        have hjk2 : ¬ ((k : Int) + 1) ≤ (k : Int) := by omega
        go_wp2_with fail
        first | exact HE.out | (refine bodyPost_ret (results_tmp2 Try.results72 _ _ _) rfl ?_; exact HE.out)
end Cs
end Go.Proofs.Ytbnpemgmdnghgaa
namespace Go.Proofs.Ytbnpemgmdnghgaa
open Go.RowKit
namespace Ln

def LenPost (g : Gram) (n : Nat) (w : World) (e : Ending) (w' : World) : Prop :=
  ∃ (bt : Nat) (rb : Nat → Nat) (C : Nat → Nat → Bool), e = .returned (.slice (some ⟨bt, 0, none⟩) g.nons.toNat g.nons.toNat) ∧ Grd 51 4 w.heap.size bt g.nons.toNat (n + 1) g.nons.toNat rb (fun i j => .bool (C i j)) w' ∧ (∀ a k, a < g.nons.toNat → k ≤ n → (C a k = true ↔ Has g.rules (a : Int) k)) ∧ Below w.heap.size w w'

set_option maxHeartbeats 8000000 in
set_option maxRecDepth 100000 in
theorem lengthsE (g : Gram) (hg : checkG g = 0) (n : Nat) (hn : n ≤ 400) (ar : Option Addr) (cr : Nat) (w : World) (hr : Rd AnyB w (.sl (g.rules.map Rule.d)) [.slice ar g.rules.length cr]) :
    Calls Try.prog 45 #[.agg #[.int .i64 g.terms, .int .i64 g.nons, .int .i64 g.start, .slice ar g.rules.length cr], .int .i64 n] w (LenPost g n w) := by
  obtain ⟨⟨hg1, hg2, hg3, hg4, hg5, hg6⟩, hg7, hg8⟩ := checkG_zero hg
  have HRU := Lib.hid hg8
  have hbs := hr.bounds.2
  unfold maxLen at hbs
  obtain ⟨hc1, hc2⟩ := hbs
  obtain ⟨w0, HW0⟩ := nameIt ((w.alloc (.cells #[.int .i64 g.terms, .int .i64 g.nons, .int .i64 g.start, .slice ar g.rules.length cr] 24)).alloc (.cells #[.int .i64 n] 3))
  have HB0 : Hid (Below w.heap.size w w0) := by rw [← HW0.out]; exact ((Below.refl _ _).alloc (Nat.le_refl _) _).alloc (by simp) _
  have X1 : Hid (w0.heap[w.heap.size]? = some (.cells #[.int .i64 g.terms, .int .i64 g.nons, .int .i64 g.start, .slice ar g.rules.length cr] 24 (0, 0))) := by rw [← HW0.out]; exact bx_keep (bx_new _ _ _ rfl) ((Below.refl _ _).alloc (Nat.le_refl _) _)
  have N1 : Hid (w0.heap[w.heap.size + 1]? = some (.cells #[.int .i64 n] 3 (0, 0))) := by rw [← HW0.out]; exact bx_new _ _ _ (by simp)
  have HZ0 : Hid (w0.heap.size = w.heap.size + 2) := by rw [← HW0.out]; exact Lib.hid (by simp)
  have HR := Lib.hid hr
  obtain ⟨N, HN⟩ : ∃ N : Nat, g.nons = (N : Int) := ⟨g.nons.toNat, by omega⟩
  have HNN := Lib.hid HN
  have HFIN : Hid (∀ (bt : Nat) (rb : Nat → Nat) (C : Nat → Nat → Bool) W, Grd 51 4 w.heap.size bt N (n + 1) N rb (fun i j => .bool (C i j)) W → (∀ a k, a < N → k ≤ n → (C a k = true ↔ Has g.rules (a : Int) k)) → Below w.heap.size w W → LenPost g n w (.returned (.slice (some ⟨bt, 0, none⟩) N N)) W) := by
    intro bt rb C W h1 h2 h3
    have e : g.nons.toNat = N := by rw [HN]; simp
    refine ⟨bt, rb, C, by rw [e], by rw [e]; exact h1, by rw [e]; exact h2, h3⟩
  have hN1 : 1 ≤ N := by omega
  have hN10 : N ≤ 10 := by omega
  have hgr := gridB N (n + 1) w0 ⟨by omega, by omega⟩ ⟨by omega, by omega⟩
  rw [show ((n + 1 : Nat) : Int) = (n : Int) + 1 by omega] at hgr
  have HGR := Lib.hid hgr
  have hmk : ∀ W : World, (Instr.makeMap 117 none).run Try.prog W = .ok (.map (some W.heap.size)) (W.alloc (.map #[] 0)) := fun W => by
    simp [Instr.makeMap, run_underlying Try.underlying117]; try rfl
  obtain ⟨gt, HGT⟩ := nameIt g.terms
  obtain ⟨gs, HGS⟩ := nameIt g.start
  obtain ⟨K, HK⟩ := nameIt g.rules
  rw [HGT.out, HN, HGS.out, HK.out] at X1 HW0
  rw [HK.out] at HR hc1 hg7 HRU HFIN
  rw [HGT.out, HN, HGS.out, HK.out]
  obtain ⟨x0, x1, x2, x3⟩ := bx_cells4 X1.out
  have n0 := bx_cells1 N1.out
  clear hr HN hg1 hg2 hg3 hg4 hg5 hg6 hg8 hgr
  go_enter Try.func45, Try.ntmps45
  go_upto_region 1 with fail
  rw [HW0.out]
  go_wp2_with fail
  refine HGR.out.mono ?_
  rintro e w2 ⟨bt, rb, rfl, hgrd, hb2⟩
  clear x0 x1 x2 x3 n0
  have HGD := Lib.hid hgrd
  have HB2 := Lib.hid hb2
  clear hgrd hb2
  obtain ⟨s, HS⟩ := nameIt w2.heap.size
  obtain ⟨w3, HW3⟩ := nameIt ((((w2.alloc (.map #[] 0)).alloc (.cells #[.map (some s)] 117)).alloc (.cells #[.slice none 0 0] 118)).alloc (.cells #[.slice none 0 0] 118))
  obtain ⟨G, HG⟩ : ∃ G : Array Value, Hid (G = #[.int .i64 gt, .int .i64 N, .int .i64 gs, .slice ar K.length cr]) := ⟨_, rfl⟩
  have HB3 : Hid (Below w2.heap.size w2 w3) := by rw [← HW3.out]; exact ((((Below.refl _ _).alloc (Nat.le_refl _) _).alloc (by simp) _).alloc (by simp; omega) _).alloc (by simp; omega) _
  have HM0 : Hid (MI w s n N G bt rb (fun _ => False) [] 0 [] 0 0 (fun _ _ => false) w3) := by
    have hz := HZ0.out
    have h1 := HGD.out
    rw [hz] at h1
    refine ⟨AI.start HS.out.symm (bx_keep N1.out HB2.out) HW3.out, h1.keep HB3.out, ⟨by rw [← HS.out]; exact h1.lt, fun i hi => by rw [← HS.out]; exact h1.rlt hi hi⟩, ?_, ?_⟩
    · rw [HG.out]; exact bx_keep (bx_keep X1.out HB2.out) HB3.out
    · have h2 : Below w.heap.size w w2 := HB0.out.trans (HB2.out.mono HB0.out.size)
      exact h2.trans (HB3.out.mono h2.size)
  have HGR0 : Hid (Grow K n [] []) := ⟨List.prefix_refl _, List.nodup_nil, by simp⟩
  have HRT4 : Hid (∀ i, (rt K i).length ≤ 4) := by
    intro i
    by_cases h : i < K.length
    · rw [rt_eq h]; exact (HRU.out _ (List.getElem_mem h)).2.2.1
    · simp [rt, List.getElem?_eq_none (Nat.le_of_not_lt h)]
  have hbx := HM0.out.gbox
  rw [HG.out] at hbx
  obtain ⟨x0, x1, x2, x3⟩ := bx_cells4 hbx
  clear hbx
  go_upto_region 5 with fail
  rw [HS.out, HW3.out]
  go_wp2_with fail
  clear x0 x1 x2 x3 hmk
  go_loopg [29] K.length (fun gg v29 wr => ∃ (j : Nat) (L : List (Nat × Nat × Nat)), j ≤ K.length ∧ K.length - j ≤ gg ∧ v29 = .int .i64 j ∧ Hid (MI w s n N G bt rb (fun _ => False) L 0 [] 0 0 (fun _ _ => false) wr) ∧ Hid (Grow K n [] L) ∧ Hid (∀ i, i < j → (i, 0, 0) ∈ L))
  case atStart => exact ⟨0, [], by omega, by omega, rfl, HM0, HGR0, fun i h => by omega⟩
  case round =>
    clear HM0 HGR0
    obtain ⟨j, L, hj, hgj, rfl, HM, HGW, HIN⟩ := hrel
    by_cases hjK : j < K.length
    · have hjK' : (j : Int) < (K.length : Int) := by omega
      have hcall : Calls Try.prog 70 #[.agg #[.int .i64 (j : Int), .int .i64 0, .int .i64 0], .pointer (some ⟨w.heap.size + 1, 0, none⟩), .pointer (some ⟨s + 1, 0, none⟩), .pointer (some ⟨s + 2, 0, none⟩), .pointer (some ⟨s + 3, 0, none⟩)] wr _ :=
        addE wr (w.heap.size + 1) s n (fun _ => False) L 0 [] 0 0 j 0 0 wr HM.out.ai ⟨by show j ≤ 1000; omega, by show 0 ≤ 1000; omega, by show 0 ≤ 1000; omega⟩ hn (by have := HGW.out.len hg7 HRT4.out hn; omega)
      have HC := Lib.hid hcall
      clear hcall
      go_wp2_with fail
      (with_reducible refine HC.out.mono ?_)
      rintro e w4 ⟨rfl, hai⟩
      have HM1 := Lib.hid (HM.out.call hai)
      have HG1 := Lib.hid (HGW.out.add (x := (j, 0, 0)) (.start hjK))
      have HI1 : Hid (∀ i, i < j + 1 → (i, 0, 0) ∈ addL n L (j, 0, 0)) := by
        intro i hi
        by_cases e : i = j
        · subst e; exact mem_addL (Nat.zero_le _)
        · exact mem_addL_old (HIN.out i (by omega))
      clear hai
      go_wp2_with fail
      go_roundg (K.length - (j + 1))
      case measure => omega
      case rel => exact ⟨j + 1, _, by omega, by omega, by go_num, HM1, HG1, HI1⟩
    · have hjK' : ¬ (j : Int) < (K.length : Int) := by omega
      have HIT0 : Hid (Items K n L 0 (fun _ _ => false)) := Items.start' HGW.out (fun i hi => HIN.out i (by omega))
      clear HIN HGW
      obtain ⟨wl, rfl⟩ : ∃ wl : World, wl = wr := ⟨_, rfl⟩
      go_wp2_with fail
      go_loopg [] 64161 (fun gg wr => ∃ (p : Nat) (L : List (Nat × Nat × Nat)) (C : Nat → Nat → Bool), p ≤ L.length ∧ 64160 - p ≤ gg ∧ Hid (MI w s n N G bt rb (fun _ => False) L p [] 0 0 C wr) ∧ Hid (Items K n L p C))
      case atStart => exact ⟨0, L, _, by omega, by omega, HM, HIT0⟩
      case round =>
        clear HM HIT0 L
        obtain ⟨wo, rfl⟩ : ∃ wo : World, wo = wr := ⟨_, rfl⟩
        obtain ⟨p, L, C, hp, hgp, HM, HIT⟩ := hrel
        have hLlen : L.length ≤ 64160 := (Grow.refl HIT.out.nodup HIT.out.sound).len hg7 HRT4.out hn
        by_cases hpl : p < L.length
        · obtain ⟨⟨i, d, l⟩, HXX⟩ := nameIt (L[p]'hpl)
          have hit := HIT.out.sound _ (List.getElem_mem hpl)
          rw [HXX.out] at hit
          obtain ⟨hit1, hit2⟩ := hit
          simp only at hit1 hit2
          have HITX := Lib.hid hit1
          have hiK : i < K.length := hit1.lt
          have hdR : d ≤ (rt K i).length := hit1.dot
          clear hit1
          obtain ⟨ib, HIB⟩ := nameIt wo.heap.size
          obtain ⟨g, off, cap, hq3, hq4, hq5, hgs, hgw, e0, e1, e2, hpop⟩ := HM.out.ai.first (X' := fun k => k = ib) hpl HXX.out
          simp only at e0 e1 e2
          obtain ⟨nq, HNQ⟩ := nameIt (L.length - p)
          have hnq : 1 ≤ nq := by have := HNQ.out; omega
          have hnq' : (0 : Int) < (nq : Int) := by omega
          rw [HNQ.out] at hq3 hq4 hpop
          unfold maxLen at hq5
          obtain ⟨w4, HW4⟩ := nameIt (wo.alloc (.cells #[.int .i64 i, .int .i64 d, .int .i64 l] 120))
          have hb4 : Below wo.heap.size wo w4 := by rw [← HW4.out]; exact (Below.refl _ _).alloc (Nat.le_refl _) _
          have I4 : Hid (w4.heap[ib]? = some (.cells #[.int .i64 i, .int .i64 d, .int .i64 l] 120 (0, 0))) := by rw [← HW4.out]; exact bx_new _ _ _ HIB.out.symm
          have hs4 : w4.heap.size = wo.heap.size + 1 := by rw [← HW4.out]; simp
          have hpop4 := hpop w4 hb4 (fun k hk => .inr (by have := HIB.out; omega))
          obtain ⟨v5, HV5⟩ := nameIt (Value.slice (if cap = 1 then some (⟨g, off, none⟩ : Addr) else some ⟨g, off + 3, none⟩) (nq - 1) (cap - 1))
          rw [HV5.out] at hpop4
          have HMP0 := Lib.hid (HM.out.pop hb4 hpop4)
          have hz4 : s + 4 ≤ wo.heap.size := HM.out.ai.le
          have HIBS : Hid (s + 4 ≤ ib) := by have := HIB.out; exact Lib.hid (by omega)
          have c3 := bx_cells1 hq3
          have c4 := bx_cells1 (bx_keep hq3 hb4)
          have f4 := bx_free1 (bx_keep hq3 hb4)
          clear hpop hpop4 hs4
          go_upto_region 12 with fail
          rw [HW4.out]
          go_cut [] (fun wx => wx = w4.setCell ⟨s + 3, 0, none⟩ v5)
          case first =>
            by_cases hc1 : cap = 1
            · have HV6 := HV5.out
              rw [if_pos hc1] at HV6
              subst hc1
              rw [show nq - 1 = 0 by omega] at HV6
              have HV7 := Lib.hid HV6
              clear HV6
              go_wp2_with fail
              go_meet
              rw [← HV7.out]
            · have HV6 := HV5.out
              rw [if_neg hc1] at HV6
              have HV7 := Lib.hid HV6
              clear HV6
              go_wp2_with fail
              go_meet
              rw [← HV7.out]
          case rest =>
            have I5 : Hid (wc.heap[ib]? = some (.cells #[.int .i64 i, .int .i64 d, .int .i64 l] 120 (0, 0))) := by
              show _ = _
              rw [hcut]
              exact bx_other I4.out (by have := HIBS.out; omega) _ _
            have HMP : Hid (MI w s n N G bt rb (fun k => k = ib) L (p + 1) [] 0 0 C wc) := by rw [hcut]; exact HMP0.out
            obtain ⟨w5, rfl⟩ : ∃ ww : World, ww = wc := ⟨_, rfl⟩
            clear hcut HMP0 I4 HV5 hb4 HW4 e0 e1 e2 c3 c4 f4 hq3 hq4
            obtain ⟨b, ro, vr, hae, -, hbl0, d0, d1, hkr⟩ := HR.out.rule_at hiK
            have c0 := (HMP.out.bel.cell (p := ⟨b, ro + i * 2, none⟩) (lt_of_cell d0)).trans d0
            have c1 := (HMP.out.bel.cell (p := ⟨b, ro + i * 2 + 1, none⟩) (lt_of_cell d1)).trans d1
            obtain ⟨av, cv, rfl, -, hcv⟩ := hkr.form
            rw [List.length_map] at c1 hkr
            obtain ⟨hl0, hl1, hl2, hl3⟩ := HRU.out K[i] (List.getElem_mem hiK)
            have HRTX := Lib.hid (rt_eq hiK)
            have HLTX := Lib.hid (lft_eq hiK)
            obtain ⟨r, HRn⟩ := nameIt (K[i]'hiK)
            rw [HRn.out] at c0 c1 hkr hl0 hl1 hl2 hl3 HRTX HLTX
            obtain ⟨lf0, HLF⟩ := nameIt r.left
            obtain ⟨R, HRR⟩ := nameIt r.right
            rw [HLF.out] at c0 hl0 hl1 HLTX
            rw [HRR.out] at c1 hkr hl2 hl3 HRTX
            rw [HNN.out] at hl1
            rw [HRTX.out] at hdR
            have HL3 := Lib.hid hl3
            obtain ⟨lf, hlf⟩ : ∃ n : Nat, lf0 = (n : Int) := ⟨lf0.toNat, by omega⟩
            subst hlf
            have hlfN : lf < N := by omega
            have HKR := Lib.hid (hkr.below HMP.out.bel)
            obtain ⟨rx, HRX⟩ := nameIt w5.heap.size
            have HRXS : Hid (s + 4 ≤ rx ∧ ib < rx) := by
              have h1 := HMP.out.ai.le
              have h2 := (Array.getElem?_eq_some_iff.1 I5.out).1
              rw [HRX.out] at h1 h2
              exact ⟨h1, h2⟩
            obtain ⟨w6, HW6⟩ := nameIt (w5.alloc (.cells #[.int .i64 lf, .slice av R.length cv] 48))
            have hb6 : Below w5.heap.size w5 w6 := by rw [← HW6.out]; exact (Below.refl _ _).alloc (Nat.le_refl _) _
            have hs6 : w6.heap.size = w5.heap.size + 1 := by rw [← HW6.out]; simp
            have R6 : Hid (w6.heap[rx]? = some (.cells #[.int .i64 lf, .slice av R.length cv] 48 (0, 0))) := by rw [← HW6.out]; exact bx_new _ _ _ HRX.out.symm
            have I6 := Lib.hid (bx_keep I5.out hb6)
            have HM6 : Hid (MI w s n N G bt rb (fun k => k = ib ∨ k = rx) L (p + 1) [] 0 0 C w6) := HMP.out.keep hb6 (fun k hk => hk.imp id (fun e => by have := HRX.out; omega))
            have hbx := HMP.out.gbox
            rw [HG.out] at hbx
            obtain ⟨x0, x1, x2, x3⟩ := bx_cells4 hbx
            obtain ⟨y0, y1, y2⟩ := bx_cells3 I5.out
            have hiK' : (i : Int) < (K.length : Int) := by omega
            have hi0 : (0 : Int) ≤ (i : Int) := by omega
            rw [HIB.out]
            subst hae
            clear hbx hb6 hs6 d0 d1 hkr hl3
            go_upto_region 14 with fail
            rw [HW6.out, HRX.out]
            clear c0 c1 x0 x1 x2 x3 y0 y1 y2
            obtain ⟨y0, y1, y2⟩ := bx_cells3 I6.out
            obtain ⟨z0, z1⟩ := bx_cells2 R6.out
            by_cases hdl : d = R.length
            · have hdl' : ((d : Int) == (R.length : Int)) = true := by simp; omega
              have h0 := HM6.out.can.hdr hlfN hlfN
              have h1 := HM6.out.can.cell hlfN hlfN (j := l) (by omega)
              obtain ⟨rl, HRL⟩ := nameIt (rb lf)
              rw [HRL.out] at h0 h1
              obtain ⟨cb, HCB⟩ := nameIt (C lf l)
              rw [HCB.out] at h1
              have hlf0 : (0 : Int) ≤ (lf : Int) := by omega
              have hlf1 : (lf : Int) < (N : Int) := by omega
              have hll0 : (0 : Int) ≤ (l : Int) := by omega
              have hll1 : (l : Int) < (n : Int) + 1 := by omega
              go_wp2_with fail
              go_quiet (fail)
              cases cb with
              | true =>
                have HITN : Hid (Items K n L (p + 1) C) := HIT.out.full_old hpl HXX.out (by rw [HRTX.out]; exact hdl) (by rw [HLTX.out]; simpa using HCB.out)
                have HMN : Hid (MI w s n N G bt rb (fun _ => False) L (p + 1) [] 0 0 C (w6.drewN nq)) := HM6.out.keep (below_drewN _ _) (fun k hk => hk.elim)
                go_wp2_with fail
                go_roundg (64160 - (p + 1))
                case measure => omega
                case rel => exact ⟨p + 1, L, C, hpl, by omega, HMN, HITN⟩
              | false =>
                go_upto_region 16 with fail
                obtain ⟨w7, HW7⟩ := nameIt (w6.drewN nq)
                have hb7 : Below w6.heap.size w6 w7 := by rw [← HW7.out]; exact below_drewN _ _
                rw [HW7.out]
                have HM7 := Lib.hid (HM6.out.keep (X' := fun k => k = ib ∨ k = rx) hb7 (fun k hk => .inl hk))
                have I7 := Lib.hid (bx_keep I6.out hb7)
                have R7 := Lib.hid (bx_keep R6.out hb7)
                clear h0 h1 y0 y1 y2 z0 z1
                obtain ⟨y0, y1, y2⟩ := bx_cells3 I7.out
                obtain ⟨z0, z1⟩ := bx_cells2 R7.out
                have h0 := HM7.out.can.hdr hlfN hlfN
                have h1 := HM7.out.can.cell hlfN hlfN (j := l) (by omega)
                have f1 := HM7.out.can.free hlfN hlfN l
                rw [HRL.out] at h0 h1 f1
                obtain ⟨C', HC'⟩ : ∃ C' : Nat → Nat → Bool, Hid (∀ a b, C' a b = if a = lf ∧ b = l then true else C a b) := ⟨fun a b => if a = lf ∧ b = l then true else C a b, fun _ _ => rfl⟩
                have hdr7 : ∀ W : World, Below W.heap.size W W.drew := fun W => (Below.refl _ _).drew
                have HM8 : Hid (MI w s n N G bt rb (fun k => k = ib ∨ k = rx) L (p + 1) [] 0 0 C' (w7.setCell ⟨rl, l, none⟩ (.bool true)).drew) := by
                  have h := (HM7.out.set hlfN (j := l) (by omega) (fun a b _ _ => HC'.out a b)).keep (X' := fun k => k = ib ∨ k = rx) (hdr7 _) (fun k hk => .inl hk)
                  rw [HRL.out] at h
                  exact h
                have hrls : rl < s := by rw [← HRL.out]; exact HM7.out.lim.2 lf hlfN
                have I8 : Hid ((w7.setCell ⟨rl, l, none⟩ (.bool true)).drew.heap[ib]? = some (.cells #[.int .i64 i, .int .i64 d, .int .i64 l] 120 (0, 0))) := bx_keep (bx_other I7.out (by have := HIBS.out; omega) _ _) (hdr7 _)
                have R8 : Hid ((w7.setCell ⟨rl, l, none⟩ (.bool true)).drew.heap[rx]? = some (.cells #[.int .i64 lf, .slice av R.length cv] 48 (0, 0))) := bx_keep (bx_other R7.out (by have := HRXS.out; omega) _ _) (hdr7 _)
                obtain ⟨w8, HW8⟩ := nameIt (w7.setCell ⟨rl, l, none⟩ (.bool true)).drew
                rw [HW8.out] at HM8 I8 R8
                obtain ⟨ga, oa, ca, hall, hca1, hca2, hsn⟩ := HM8.out.snap (by omega)
                unfold maxLen at hca2
                have HM9 := Lib.hid hsn
                have k2 := bx_cells1 hall
                have HLF : Hid (lft K i = (lf : Int)) := HLTX
                have HPOS : Hid (∀ i, i < K.length → ∀ s ∈ rt K i, s.term = false → 0 ≤ s.n) := by
                  intro i hi s hs ht
                  rw [rt_eq hi] at hs
                  have h := (HRU.out K[i] (List.getElem_mem hi)).2.2.2 s hs
                  unfold hasS at h
                  simp at h; exact h.1
                have HG0 : Hid (Grow K n L L) := Grow.refl HIT.out.nodup HIT.out.sound
                have HIN0 : Hid (∀ y ∈ L.take 0, ∀ s, (rt K y.1)[y.2.1]? = some s → s.term = false → s.n = (lf : Int) → y.2.2 + l ≤ n → (y.1, y.2.1 + 1, y.2.2 + l) ∈ L) := fun y hy => by simp at hy
                clear hall hsn hb7
                refine wp_region_still_tail 8 (by kernel_rfl) (by kernel_rfl) ?_
                simp only [List.take_succ_cons, List.take_zero, List.drop_succ_cons, List.drop_zero]
                change wpStill _ _ (World.drew _) _ _ _
                repeat still_step
                refine wpStill_nil ?_
                change wpList _ _ _ _ _ (World.drew _)
                go_upto_region 17 with fail
                rw [HW8.out]
                clear h0 h1 f1 y0 y1 y2 z0 z1 hdr7
                go_wp2_with fail
                go_loopg [77] L.length (fun gg v77 wr => ∃ (q : Nat) (L' : List (Nat × Nat × Nat)), q ≤ L.length ∧ L.length - q ≤ gg ∧ v77 = .int .i64 q ∧ Hid (MI w s n N G bt rb (fun k => k = ib ∨ k = rx) L' (p + 1) L ga oa C' wr) ∧ Hid (Grow K n L L') ∧ Hid (∀ y ∈ L.take q, ∀ s, (rt K y.1)[y.2.1]? = some s → s.term = false → s.n = (lf : Int) → y.2.2 + l ≤ n → (y.1, y.2.1 + 1, y.2.2 + l) ∈ L') ∧ Hid (wr.heap[ib]? = some (.cells #[.int .i64 i, .int .i64 d, .int .i64 l] 120 (0, 0))) ∧ Hid (wr.heap[rx]? = some (.cells #[.int .i64 lf, .slice av R.length cv] 48 (0, 0))))
                case atStart => exact ⟨0, L, by omega, by omega, rfl, HM9, HG0, HIN0, I8, R8⟩
                case round =>
                  clear HM9 HG0 HIN0 I8 R8 HM8
                  obtain ⟨wi, rfl⟩ : ∃ wi : World, wi = wr := ⟨_, rfl⟩
                  obtain ⟨q, L', hq, hgq, rfl, HMI, HGI, HIN, II, RI⟩ := hrel
                  by_cases hqL : q < L.length
                  · have hqL' : (q : Int) < (L.length : Int) := by omega
                    have hq0 : (0 : Int) ≤ (q : Int) := by omega
                    obtain ⟨⟨yi, yd, yl⟩, HYY⟩ := nameIt (L[q]'hqL)
                    obtain ⟨e0, e1, e2⟩ := HMI.out.read hqL HYY.out
                    have hyt := HIT.out.sound _ (List.getElem_mem hqL)
                    rw [HYY.out] at hyt
                    obtain ⟨hyt1, hyt2⟩ := hyt
                    simp only at hyt1 hyt2 e0 e1 e2
                    have HYT := Lib.hid hyt1
                    have hyK : yi < K.length := hyt1.lt
                    have hydR : yd ≤ (rt K yi).length := hyt1.dot
                    have HTKQ : Hid (∀ y ∈ L.take (q + 1), y ∈ L.take q ∨ y = (yi, yd, yl)) := by
                      intro y hy
                      rw [List.take_succ_eq_append_getElem hqL, HYY.out] at hy
                      simpa using hy
                    clear hyt1
                    obtain ⟨bq, rq, vrq, haq, -, hblq, g0, g1, hkq⟩ := HR.out.rule_at hyK
                    cases haq
                    have g2 := (HMI.out.bel.cell (p := ⟨b, ro + yi * 2 + 1, none⟩) (lt_of_cell g1)).trans g1
                    obtain ⟨aq, cq, rfl, -, hcq⟩ := hkq.form
                    rw [List.length_map] at g2 hkq
                    have hsq := (HRU.out K[yi] (List.getElem_mem hyK)).2.2.2
                    have hq4 := (HRU.out K[yi] (List.getElem_mem hyK)).2.2.1
                    have HRTY := Lib.hid (rt_eq hyK)
                    obtain ⟨Rq, HRQ⟩ := nameIt (K[yi]'hyK).right
                    rw [HRQ.out] at g2 hkq hsq hq4 HRTY
                    rw [HRTY.out] at hydR
                    have HSQ := Lib.hid hsq
                    obtain ⟨yb, HYB⟩ := nameIt wi.heap.size
                    obtain ⟨w9, HW9⟩ := nameIt (wi.alloc (.cells #[.int .i64 yi, .int .i64 yd, .int .i64 yl] 120))
                    have hb9 : Below wi.heap.size wi w9 := by rw [← HW9.out]; exact (Below.refl _ _).alloc (Nat.le_refl _) _
                    have Y9 : Hid (w9.heap[yb]? = some (.cells #[.int .i64 yi, .int .i64 yd, .int .i64 yl] 120 (0, 0))) := by rw [← HW9.out]; exact bx_new _ _ _ HYB.out.symm
                    have HM9 := Lib.hid (HMI.out.keep (X' := fun k => k = ib ∨ k = rx) hb9 (fun k hk => .inl hk))
                    have I9 := Lib.hid (bx_keep II.out hb9)
                    have R9 := Lib.hid (bx_keep RI.out hb9)
                    have HKQ := Lib.hid (hkq.below HM9.out.bel)
                    have g3 := (hb9.cell (p := ⟨b, ro + yi * 2 + 1, none⟩) (lt_of_cell g2)).trans g2
                    have hbx := HM9.out.gbox
                    rw [HG.out] at hbx
                    obtain ⟨x0, x1, x2, x3⟩ := bx_cells4 hbx
                    obtain ⟨y0, y1, y2⟩ := bx_cells3 Y9.out
                    obtain ⟨z0, z1⟩ := bx_cells2 R9.out
                    obtain ⟨i0, i1, i2⟩ := bx_cells3 I9.out
                    have hyK' : (yi : Int) < (K.length : Int) := by omega
                    have hy0 : (0 : Int) ≤ (yi : Int) := by omega
                    have HNXT : Hid (∀ (L2 : List (Nat × Nat × Nat)), (∀ x ∈ L', x ∈ L2) → ((∀ s, Rq[yd]? = some s → s.term = false → s.n = (lf : Int) → yl + l ≤ n → (yi, yd + 1, yl + l) ∈ L2)) → ∀ y ∈ L.take (q + 1), ∀ s, (rt K y.1)[y.2.1]? = some s → s.term = false → s.n = (lf : Int) → y.2.2 + l ≤ n → (y.1, y.2.1 + 1, y.2.2 + l) ∈ L2) := by
                      intro L2 h1 h2 y hy s hs ht hn hl
                      rcases HTKQ.out y hy with hy | rfl
                      · exact h1 _ (HIN.out y hy s hs ht hn hl)
                      · rw [show rt K (yi, yd, yl).1 = Rq from HRTY.out] at hs
                        exact h2 s hs ht hn hl
                    clear hb9 g0 g1 g2 hkq hsq hbx
                    go_upto_region 20 with fail
                    rw [HW9.out, HYB.out]
                    clear e0 e1 e2
                    go_upto_region 21 with fail
                    clear x0 x1 x2 x3 g3
                    by_cases hyl : yd < Rq.length
                    · have hyl' : decide (yd < Rq.length) = true := by simpa using hyl
                      have hyl2 : (yd : Int) < (Rq.length : Int) := by omega
                      have hyd0 : (0 : Int) ≤ (yd : Int) := by omega
                      obtain ⟨b', off', hae', -, hbl', d0, d1⟩ := HKQ.out.sym_at hyl
                      have HSD : Hid (Rq[yd]? = some (Rq[yd]'hyl)) := List.getElem?_eq_getElem hyl
                      have hsb := HSQ.out Rq[yd] (List.getElem_mem hyl)
                      obtain ⟨sy, HSY⟩ := nameIt (Rq[yd]'hyl)
                      rw [HSY.out] at d0 d1 HSD hsb
                      obtain ⟨st, HST⟩ := nameIt sy.term
                      obtain ⟨sn, HSN⟩ := nameIt sy.n
                      rw [HST.out] at d0
                      rw [HSN.out] at d1
                      subst hae'
                      by_cases hok : st = false ∧ sn = (lf : Int)
                      · obtain ⟨rfl, rfl⟩ := hok
                        have hlb : ((lf : Int) == (lf : Int)) = true := by simp
                        have hbd1 : (yd : Int) ≤ 4 := by omega
                        have hbd2 : (yl : Int) ≤ 400 := by omega
                        have hbd3 : (l : Int) ≤ 400 := by omega
                        have hbd4 : (0 : Int) ≤ (yl : Int) := by omega
                        have hbd5 : (0 : Int) ≤ (l : Int) := by omega
                        have hsw1 : IntKind.i64.wrap ((yd : Int) + 1) = (yd : Int) + 1 := IntWalk.i64_in _ (by omega)
                        have hsw2 : IntKind.i64.wrap ((yl : Int) + (l : Int)) = (yl : Int) + (l : Int) := IntWalk.i64_in _ (by omega)
                        have HSW1 := Lib.hid hsw1
                        have HSW2 := Lib.hid hsw2
                        clear hsw1 hsw2
                        go_quiet (fail)
                        obtain ⟨wz, HWZ⟩ := nameIt (w9.drewN nq)
                        rw [HWZ.out]
                        have hbz : Below w9.heap.size w9 wz := by rw [← HWZ.out]; exact below_drewN _ _
                        have HMZ := Lib.hid (HM9.out.keep (X' := fun k => k = ib ∨ k = rx) hbz (fun k hk => .inl hk))
                        have IZ := Lib.hid (bx_keep I9.out hbz)
                        have RZ := Lib.hid (bx_keep R9.out hbz)
                        have YZ := Lib.hid (bx_keep Y9.out hbz)
                        have hcall := addMI HMZ.out (i := yi) (d := yd + 1) (l := yl + l) (d' := (yd : Int) + 1) (l' := (yl : Int) + (l : Int)) (by omega) (by omega) (by omega) (by omega) (by omega) hn (by have := HGI.out.len hg7 HRT4.out hn; omega)
                        have HC := Lib.hid hcall
                        clear hcall hbz y0 y1 y2 z0 z1 i0 i1 i2 d0 d1
                        obtain ⟨y0, y1, y2⟩ := bx_cells3 YZ.out
                        obtain ⟨i0, i1, i2⟩ := bx_cells3 IZ.out
                        go_wp2_with fail
                        (with_reducible refine HC.out.mono ?_)
                        rintro e wa ⟨rfl, hai⟩
                        have HMA := Lib.hid (HMZ.out.call hai)
                        have IA : Hid (wa.heap[ib]? = some (.cells #[.int .i64 i, .int .i64 d, .int .i64 l] 120 (0, 0))) := (hai.px ib (.inl rfl)).2.trans IZ.out
                        have RA : Hid (wa.heap[rx]? = some (.cells #[.int .i64 lf, .slice av R.length cv] 48 (0, 0))) := (hai.px rx (.inr rfl)).2.trans RZ.out
                        have HGA := Lib.hid (HGI.out.add (x := (yi, yd + 1, yl + l)) (.non HYT.out (by rw [HRTY.out]; exact HSD.out) HST.out (by have h := HITX.out; rw [hdl, ← HRTX.out] at h; exact h) (by rw [HLF.out, HSN.out])))
                        have HIA := Lib.hid (HNXT.out (addL n L' (yi, yd + 1, yl + l)) (fun x hx => mem_addL_old hx) (fun s _ _ _ hl => mem_addL hl))
                        clear hai
                        go_wp2_with fail
                        go_roundg (L.length - (q + 1))
                        case measure => omega
                        case rel => exact ⟨q + 1, _, by omega, by omega, by go_num, HMA, HGA, HIA, IA, RA⟩
                      · have HIA : Hid (∀ y ∈ L.take (q + 1), ∀ s, (rt K y.1)[y.2.1]? = some s → s.term = false → s.n = (lf : Int) → y.2.2 + l ≤ n → (y.1, y.2.1 + 1, y.2.2 + l) ∈ L') := HNXT.out L' (fun x hx => hx) (fun s hs ht hn' _ => absurd ⟨by rw [← HST.out, ← ht]; rw [HSD.out] at hs; cases hs; rfl, by rw [← HSN.out, ← hn']; rw [HSD.out] at hs; cases hs; rfl⟩ hok)
                        cases st with
                        | true =>
                          clear hok
                          go_quiet (fail)
                          have HMA := Lib.hid (HM9.out.keep (X' := fun k => k = ib ∨ k = rx) (below_drewN w9 nq) (fun k hk => .inl hk))
                          have IA := Lib.hid (bx_keep I9.out (below_drewN w9 nq))
                          have RA := Lib.hid (bx_keep R9.out (below_drewN w9 nq))
                          go_wp2_with fail
                          go_roundg (L.length - (q + 1))
                          case measure => omega
                          case rel => exact ⟨q + 1, L', by omega, by omega, by go_num, HMA, HGI, HIA, IA, RA⟩
                        | false =>
                          have hlb : (sn == (lf : Int)) = false := by simpa using hok
                          clear hok
                          go_quiet (fail)
                          have HMA := Lib.hid (HM9.out.keep (X' := fun k => k = ib ∨ k = rx) (below_drewN w9 nq) (fun k hk => .inl hk))
                          have IA := Lib.hid (bx_keep I9.out (below_drewN w9 nq))
                          have RA := Lib.hid (bx_keep R9.out (below_drewN w9 nq))
                          go_wp2_with fail
                          go_roundg (L.length - (q + 1))
                          case measure => omega
                          case rel => exact ⟨q + 1, L', by omega, by omega, by go_num, HMA, HGI, HIA, IA, RA⟩
                    · have hyl' : decide (yd < Rq.length) = false := by simpa using hyl
                      have HIA : Hid (∀ y ∈ L.take (q + 1), ∀ s, (rt K y.1)[y.2.1]? = some s → s.term = false → s.n = (lf : Int) → y.2.2 + l ≤ n → (y.1, y.2.1 + 1, y.2.2 + l) ∈ L') := HNXT.out L' (fun x hx => hx) (fun s hs _ _ _ => absurd (List.getElem?_eq_some_iff.1 hs).1 hyl)
                      go_quiet (fail)
                      have HMA := Lib.hid (HM9.out.keep (X' := fun k => k = ib ∨ k = rx) (below_drewN w9 nq) (fun k hk => .inl hk))
                      have IA := Lib.hid (bx_keep I9.out (below_drewN w9 nq))
                      have RA := Lib.hid (bx_keep R9.out (below_drewN w9 nq))
                      go_wp2_with fail
                      go_roundg (L.length - (q + 1))
                      case measure => omega
                      case rel => exact ⟨q + 1, L', by omega, by omega, by go_num, HMA, HGI, HIA, IA, RA⟩
                  · have hqL' : ¬ (q : Int) < (L.length : Int) := by omega
                    have HITN : Hid (Items K n L' (p + 1) C') := HIT.out.full_new hpl HXX.out (by rw [HRTX.out]; exact hdl) (by rw [HLF.out]; omega) HPOS.out HGI.out (fun y hy s h1 h2 h3 h4 => HIN.out y (by rw [List.take_of_length_le (by omega)]; exact hy) s h1 h2 (by rw [h3, HLF.out]) h4) (fun a b => by rw [HC'.out, HLF.out]; simp)
                    have HMN := Lib.hid (HMI.out.unsnap.drop (X' := fun _ => False) (fun k hk => hk.elim))
                    have hll : p + 1 ≤ L'.length := by have := HGI.out.pre.length_le; omega
                    go_wp2_with fail
                    go_roundg (64160 - (p + 1))
                    case measure => omega
                    case rel => exact ⟨p + 1, L', C', hll, by omega, HMN, HITN⟩
            · have hdl' : ((d : Int) == (R.length : Int)) = false := by simp; omega
              have hdR2 : d < R.length := by omega
              have hdR3 : (d : Int) < (R.length : Int) := by omega
              have hd0 : (0 : Int) ≤ (d : Int) := by omega
              obtain ⟨b', off', hae', -, hbl', d0, d1⟩ := (HKR.out.below (show Below w5.heap.size w5 w6 by rw [← HW6.out]; exact (Below.refl _ _).alloc (Nat.le_refl _) _)).sym_at hdR2
              have HSD : Hid ((rt K i)[d]? = some (R[d]'hdR2)) := by
                show _ = _
                rw [HRTX.out]; exact List.getElem?_eq_getElem hdR2
              have hsb := HL3.out R[d] (List.getElem_mem hdR2)
              obtain ⟨sy, HSY⟩ := nameIt (R[d]'hdR2)
              rw [HSY.out] at d0 d1 HSD hsb
              unfold hasS at hsb
              rw [HNN.out, HGT.out] at hsb
              obtain ⟨st, HST⟩ := nameIt sy.term
              obtain ⟨sn, HSN⟩ := nameIt sy.n
              rw [HST.out] at d0 hsb
              rw [HSN.out] at d1 hsb
              obtain ⟨w7, HW7⟩ := nameIt (w6.alloc (.cells #[.bool st, .int .i64 sn] 65))
              obtain ⟨sx, HSX⟩ := nameIt w6.heap.size
              have hb7 : Below w6.heap.size w6 w7 := by rw [← HW7.out]; exact (Below.refl _ _).alloc (Nat.le_refl _) _
              have hs7 : w7.heap.size = w6.heap.size + 1 := by rw [← HW7.out]; simp
              have S7 : Hid (w7.heap[sx]? = some (.cells #[.bool st, .int .i64 sn] 65 (0, 0))) := by rw [← HW7.out]; exact bx_new _ _ _ HSX.out.symm
              have HM7 : Hid (MI w s n N G bt rb (fun k => k = ib ∨ k = rx ∨ k = sx) L (p + 1) [] 0 0 C w7) := HM6.out.keep hb7 (fun k hk => by
                rcases hk with e | e | e
                · exact .inl (.inl e)
                · exact .inl (.inr e)
                · exact .inr (by have := HSX.out; omega))
              have I7 := Lib.hid (bx_keep I6.out hb7)
              have R7 := Lib.hid (bx_keep R6.out hb7)
              subst hae'
              clear hb7 hs7
              go_upto_region 25 with fail
              rw [HW7.out, HSX.out]
              clear y0 y1 y2 z0 z1 d0 d1
              obtain ⟨y0, y1, y2⟩ := bx_cells3 I7.out
              obtain ⟨s0, s1⟩ := bx_cells2 S7.out
              have HG0 : Hid (Grow K n L L) := Grow.refl HIT.out.nodup HIT.out.sound
              cases st with
              | true =>
                have hbd1 : (d : Int) ≤ 4 := by omega
                have hbd2 : (l : Int) ≤ 400 := by omega
                have hbd3 : (0 : Int) ≤ (l : Int) := by omega
                have hcall := addMI HM7.out (i := i) (d := d + 1) (l := l + 1) (d' := (d : Int) + 1) (l' := (l : Int) + 1) (by omega) (by omega) (by omega) (by omega) (by omega) hn (by omega)
                have HC := Lib.hid hcall
                have HITN : Hid (Items K n (addL n L (i, d + 1, l + 1)) (p + 1) C) := HIT.out.termN hpl HXX.out HSD.out HST.out
                have hll : p + 1 ≤ (addL n L (i, d + 1, l + 1)).length := by
                  have := (HG0.out.add (x := (i, d + 1, l + 1)) (.term HITX.out HSD.out HST.out)).pre.length_le; omega
                clear hcall
                go_wp2_with fail
                (with_reducible refine HC.out.mono ?_)
                rintro e wa ⟨rfl, hai⟩
                have HMN := Lib.hid ((HM7.out.call hai).drop (X' := fun _ => False) (fun k hk => hk.elim))
                obtain ⟨L2, HL2⟩ := nameIt (addL n L (i, d + 1, l + 1))
                rw [HL2.out] at HMN HITN hll
                clear hai
                go_wp2_with fail
                go_roundg (64160 - (p + 1))
                case measure => omega
                case rel => exact ⟨p + 1, L2, C, hll, by omega, HMN, HITN⟩
              | false =>
                simp at hsb
                obtain ⟨hsb0, hsb1⟩ := hsb
                obtain ⟨an, han⟩ : ∃ a : Nat, sn = (a : Int) := ⟨sn.toNat, by omega⟩
                subst han
                have hanN : an < N := by omega
                have han0 : (0 : Int) ≤ (an : Int) := by omega
                have han1 : (an : Int) < (N : Int) := by omega
                have h0 := HM7.out.can.hdr hanN hanN
                obtain ⟨ra, HRA⟩ := nameIt (rb an)
                rw [HRA.out] at h0
                have HIN0 : Hid (∀ k, k < 0 → C an k = true → l + k ≤ n → (i, d + 1, l + k) ∈ L) := fun k hk => by omega
                go_wp2_with fail
                clear y0 y1 y2 s0 s1 h0
                go_loopg [152] (n + 1) (fun gg v152 wr => ∃ (q : Nat) (L' : List (Nat × Nat × Nat)), q ≤ n + 1 ∧ n + 1 - q ≤ gg ∧ v152 = .int .i64 q ∧ Hid (MI w s n N G bt rb (fun k => k = ib ∨ k = rx ∨ k = sx) L' (p + 1) [] 0 0 C wr) ∧ Hid (Grow K n L L') ∧ Hid (∀ k, k < q → C an k = true → l + k ≤ n → (i, d + 1, l + k) ∈ L') ∧ Hid (wr.heap[ib]? = some (.cells #[.int .i64 i, .int .i64 d, .int .i64 l] 120 (0, 0))))
                case atStart => exact ⟨0, L, by omega, by omega, rfl, HM7, HG0, HIN0, I7⟩
                case round =>
                  clear HM7 HG0 HIN0 I7 R7 S7
                  obtain ⟨wi, rfl⟩ : ∃ wi : World, wi = wr := ⟨_, rfl⟩
                  obtain ⟨q, L', hq, hgq, rfl, HMI, HGI, HIN, II⟩ := hrel
                  by_cases hqn : q < n + 1
                  · have hqn' : (q : Int) < (n : Int) + 1 := by omega
                    have hq0 : (0 : Int) ≤ (q : Int) := by omega
                    have h1 := HMI.out.can.cell hanN hanN (j := q) hqn
                    rw [HRA.out] at h1
                    obtain ⟨cb, HCB⟩ := nameIt (C an q)
                    rw [HCB.out] at h1
                    obtain ⟨y0, y1, y2⟩ := bx_cells3 II.out
                    cases cb with
                    | true =>
                      have hbd1 : (d : Int) ≤ 4 := by omega
                      have hbd2 : (l : Int) ≤ 400 := by omega
                      have hbd3 : (0 : Int) ≤ (l : Int) := by omega
                      have hbd4 : (q : Int) ≤ 400 := by omega
                      have hcall := addMI HMI.out (i := i) (d := d + 1) (l := l + q) (d' := (d : Int) + 1) (l' := (l : Int) + (q : Int)) (by omega) (by omega) (by omega) (by omega) (by omega) hn (by have := HGI.out.len hg7 HRT4.out hn; omega)
                      have HC := Lib.hid hcall
                      have HGA := Lib.hid (HGI.out.add (x := (i, d + 1, l + q)) (HIT.out.nonIt HITX.out HSD.out HST.out (by rw [HSN.out]; exact han0) (by rw [HSN.out]; simpa using HCB.out)))
                      have HIA : Hid (∀ k, k < q + 1 → C an k = true → l + k ≤ n → (i, d + 1, l + k) ∈ addL n L' (i, d + 1, l + q)) := by
                        intro k hk hc hl
                        by_cases e : k = q
                        · subst e; exact mem_addL hl
                        · exact mem_addL_old (HIN.out k (by omega) hc hl)
                      obtain ⟨L2, HL2⟩ := nameIt (addL n L' (i, d + 1, l + q))
                      clear hcall
                      go_wp2_with fail
                      (with_reducible refine HC.out.mono ?_)
                      rintro e wa ⟨rfl, hai⟩
                      have HMA := Lib.hid (HMI.out.call hai)
                      have IA : Hid (wa.heap[ib]? = some (.cells #[.int .i64 i, .int .i64 d, .int .i64 l] 120 (0, 0))) := (hai.px ib (.inl rfl)).2.trans II.out
                      rw [HL2.out] at HMA HGA HIA
                      clear hai
                      go_wp2_with fail
                      go_roundg (n + 1 - (q + 1))
                      case measure => omega
                      case rel => exact ⟨q + 1, L2, by omega, by omega, by go_num, HMA, HGA, HIA, IA⟩
                    | false =>
                      have HIA : Hid (∀ k, k < q + 1 → C an k = true → l + k ≤ n → (i, d + 1, l + k) ∈ L') := by
                        intro k hk hc hl
                        by_cases e : k = q
                        · subst e; rw [HCB.out] at hc; cases hc
                        · exact HIN.out k (by omega) hc hl
                      go_wp2_with fail
                      go_roundg (n + 1 - (q + 1))
                      case measure => omega
                      case rel => exact ⟨q + 1, L', by omega, by omega, by go_num, HMI, HGI, HIA, II⟩
                  · have hqn' : ¬ (q : Int) < (n : Int) + 1 := by omega
                    have HITN : Hid (Items K n L' (p + 1) C) := HIT.out.nonN hpl HXX.out HSD.out HST.out HGI.out (fun k hk hc hl => HIN.out k (by omega) (by rw [HSN.out] at hc; simpa using hc) hl)
                    have HMN := Lib.hid (HMI.out.drop (X' := fun _ => False) (fun k hk => hk.elim))
                    have hll : p + 1 ≤ L'.length := by have := HGI.out.pre.length_le; omega
                    go_wp2_with fail
                    go_roundg (64160 - (p + 1))
                    case measure => omega
                    case rel => exact ⟨p + 1, L', C, hll, by omega, HMN, HITN⟩
        · obtain ⟨va, vq, r1, r2, r3⟩ := HM.out.ai.rows
          have hq0 : (L.drop p).length = 0 := by rw [List.length_drop]; omega
          obtain ⟨aq, cq, hvq, hq1, hq2⟩ := r3.row.form
          rw [hq0] at hvq
          subst hvq
          have c3 := bx_cells1 r2
          have HE : Hid (∀ a k, a < N → k ≤ n → (C a k = true ↔ Has K (a : Int) k)) := fun a k _ hk => items_right HIT.out (by omega) hk
          clear r1 r2 r3 hq0 hq1 hq2
          go_wp2_with fail
          go_ret
          exact HFIN.out bt rb C wo (Grd.base HM.out.can (by omega)) HE.out HM.out.bel
end Ln
end Go.Proofs.Ytbnpemgmdnghgaa
namespace Go.Proofs.Ytbnpemgmdnghgaa
open Go.RowKit
namespace Cs

theorem fold_still {α β : Type} {f : β × Bool → α → β × Bool} (hf : ∀ st a, (f st a).2 = false → f st a = st) : ∀ (l : List α) (st : β × Bool), (l.foldl f st).2 = false → l.foldl f st = st ∧ ∀ a ∈ l, f st a = st
  | [], st, _ => ⟨rfl, fun a h => by cases h⟩
  | a :: l, st, h => by
    rw [List.foldl_cons] at h
    obtain ⟨h1, h2⟩ := fold_still hf l _ h
    rw [h1] at h
    have h3 := hf st a h
    rw [h3] at h1 h2
    refine ⟨by rw [List.foldl_cons, h3]; exact h1, fun b hb => ?_⟩
    rcases List.mem_cons.1 hb with rfl | hb
    · exact h3
    · exact h2 b hb
theorem p1_still {r : Rule} (st : (Nat → Nat → Bool) × Bool) (k : Nat) (h : (p1 r st k).2 = false) : p1 r st k = st := by
  unfold p1 at h ⊢
  split
  · rename_i hc; rw [if_pos hc] at h; cases h
  · rfl
theorem p3_closed {n : Nat} {l : List Rule} {S : Nat → Nat → Bool} (h : (p3 n l S).2 = false) {r : Rule} (hr : r ∈ l) {k : Nat} (hk : k ≤ n) (hc : canK S r.right k = true) : S r.left.toNat k = true := by
  have h2 := (fold_still (f := p2 n) (fun st r hf => (fold_still (f := p1 r) p1_still _ st hf).1) l (S, false) h).2 r hr
  have h3 := (fold_still (f := p1 r) p1_still (List.range (n + 1)) (S, false) (by show (p2 n (S, false) r).2 = false; rw [h2])).2 k (List.mem_range.2 (by omega))
  cases hS : S r.left.toNat k with
  | true => rfl
  | false =>
    unfold p1 at h3
    simp only at h3
    rw [if_pos (by rw [hS, hc]; rfl)] at h3
    have := congrArg Prod.snd h3
    cases this
theorem itP_sound {g : Gram} {N n : Nat} (hok : OkC g N) : ∀ q, Ln.Sound g.rules (itP n g.rules q (fun _ _ => false)) := by
  have hp : ∀ i, i < g.rules.length → ∀ s ∈ Ln.rt g.rules i, s.term = false → 0 ≤ s.n := by
    intro i hi s hs ht
    rw [Ln.rt_eq hi] at hs
    exact (hok.r _ (List.getElem_mem hi) s hs ht).1
  intro q
  induction q with
  | zero => intro a k h; cases h
  | succ q ih =>
    rw [itP_snoc]
    have key : Ln.Sound g.rules (p3 n g.rules (itP n g.rules q (fun _ _ => false))).1 := by
      unfold p3
      refine fold_inv (P := fun st : (Nat → Nat → Bool) × Bool => Ln.Sound g.rules st.1) g.rules _ (fun r hr st h => ?_) ih
      unfold p2
      refine fold_inv (P := fun st : (Nat → Nat → Bool) × Bool => Ln.Sound g.rules st.1) _ _ (fun k hk st h => ?_) h
      have hkn : k ≤ n := by have := List.mem_range.1 hk; omega
      unfold p1
      split
      · rename_i hc
        rw [Bool.and_eq_true] at hc
        intro a j hj
        have hj' : updB st.1 r.left.toNat k a j = true := hj
        unfold updB at hj'
        by_cases e : a = r.left.toNat ∧ j = k
        · obtain ⟨rfl, rfl⟩ := e
          obtain ⟨i, hi, rfl⟩ := List.getElem_of_mem hr
          have h1 : Ln.atR st.1 n ((Ln.rt g.rules i).take (Ln.rt g.rules i).length) j = true := by
            rw [atR_canK st.1 n _ _ (Nat.le_refl _) j hkn, List.take_length, Ln.rt_eq hi]; exact hc.2
          have h2 := Ln.at_sound h hp hi _ j (Nat.le_refl _) h1
          exact ⟨i, h2, by rw [Ln.lft_eq hi]; have := (hok.l _ hr).1; omega⟩
        · rw [if_neg e] at hj'
          exact h a j hj'
      · exact h
    exact key
theorem done_has {g : Gram} {N n : Nat} {S : Nat → Nat → Bool} (hok : OkC g N) (h : DoneC g n S) {a k : Nat} (hk : k ≤ n) : S a k = true ↔ Ln.Has g.rules (a : Int) k := by
  obtain ⟨⟨q, hq⟩, hp⟩ := h
  have hs : Ln.Sound g.rules S := by rw [hq]; exact itP_sound hok q
  refine Ln.set_right hs (fun i hi m hm ha => ?_) (fun i hi => by rw [Ln.lft_eq hi]; exact (hok.l _ (List.getElem_mem hi)).1) hk
  have h1 : canK S (Ln.rt g.rules i) m = true := by
    have := atR_canK S n (Ln.rt g.rules i) (Ln.rt g.rules i).length (Nat.le_refl _) m hm
    rw [List.take_length] at this
    rw [← this]; exact ha
  rw [Ln.rt_eq hi] at h1
  rw [Ln.lft_eq hi]
  exact p3_closed hp (List.getElem_mem hi) hm h1
theorem okC_len4 {g : Gram} (h : checkG g = 0) : ∀ r ∈ g.rules, r.right.length ≤ 1000 := by
  unfold checkG at h
  by_cases hb : badHead g = true
  · rw [if_pos hb] at h; cases h
  · rw [if_neg hb] at h
    by_cases hl : 32 < g.rules.length
    · rw [if_pos hl] at h; cases h
    · rw [if_neg hl] at h
      intro r hr
      have := (faultsFrom_zero h r hr).2.2.1
      omega
theorem treesAll {g : Gram} {ra : Option Addr} {rcap N n : Nat} {lb most bt : Nat} {rb : Nat → Nat} {H : Nat → Nat → Bool} {w1 : World} (h : LE g ra rcap N n lb most bt rb H w1) (hn : n ≤ 400) (hm1 : 1 ≤ most) (hm2 : most ≤ 1000) (hok : ∀ r ∈ g.rules, ∀ s ∈ r.right, okS N s) (h4 : ∀ r ∈ g.rules, r.right.length ≤ 1000) :
    ∀ d, d ≤ 1000 → TsP g N n lb most H w1 d
  | 0, hd => treesL h hn hm1 hm2 hok h4 trivial 0 hd fun d0 e => by omega
  | d + 1, hd => treesL h hn hm1 hm2 hok h4 trivial (d + 1) hd fun d0 e => by
    obtain rfl : d = d0 := by omega
    exact rowsL h hn hm1 hm2 d (treesAll h hn hm1 hm2 hok h4 d (by omega))
end Cs
end Go.Proofs.Ytbnpemgmdnghgaa
