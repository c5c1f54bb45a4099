/- parlref4.solve. Tables of least values for any leaf and empty function: soundness, measure, the plan of parlref4.solve, one table. Tables that hole.fill makes row by row: its plan. The plans of Shortest, of Complete and of hole.fill; the one value. -/
import Derived.Test.YtjpmebppdcclbaaJRepairPrefixRow4
namespace Go.Proofs.Ytjpmebppdcclbaa
open Go.RowKit
namespace Rp
def EmpFn (en : Nat) (eb : Array Value) (emF : Nat → Nat → Option Val) (n : Nat) (P : Nat → Prop) (w : World) : Prop :=
  ∀ W (i j : Nat), i ≤ j → j ≤ n → Below w.heap.size w W → Calls Try.prog en (#[.int .i64 (i : Nat), .int .i64 (j : Nat)] ++ eb) W fun e w' => ∃ x, e = .returned x ∧ VR (fun k => P k ∨ W.heap.size ≤ k) w' x (emF i j) ∧ Below W.heap.size W w'
structure SM (P : Nat → Prop) (W : World) (gt gn gs : Int) (gr fv ev : Value) (n : Nat) (T : Tb) (wr : World) : Prop where
  bel : Below W.heap.size W wr
  sz : W.heap.size + 3 ≤ wr.heap.size
  gbox : wr.heap[W.heap.size]? = some (.cells #[.int .i64 gt, .int .i64 gn, .int .i64 gs, gr] 24 (0, 0))
  grid : wr.heap[W.heap.size + 2]? = some (.cells #[.int .i64 gt, .int .i64 gn, .int .i64 gs, gr, .int .i64 (n : Int), fv, ev, .map (some (W.heap.size + 1))] 122 (0, 0))
  map : RMap (fun k => P k ∨ W.heap.size + 3 ≤ k) (W.heap.size + 1) T wr
theorem bx_cells8r {w : World} {b : Nat} {x0 x1 x2 x3 x4 x5 x6 x7 : Value} {T : TypeId} (h : w.heap[b]? = some (.cells #[x0, x1, x2, x3, x4, x5, x6, x7] T (0, 0))) :
    w.cell? ⟨b, 0, none⟩ = some x0 ∧ w.cell? ⟨b, 0 + 1, none⟩ = some x1 ∧ w.cell? ⟨b, 0 + 2, none⟩ = some x2 ∧ w.cell? ⟨b, 0 + 3, none⟩ = some x3 ∧ w.cell? ⟨b, 0 + 4, none⟩ = some x4 ∧ w.cell? ⟨b, 0 + 5, none⟩ = some x5 ∧ w.cell? ⟨b, 0 + 6, none⟩ = some x6 ∧ w.cell? ⟨b, 0 + 7, none⟩ = some x7 := by
  refine ⟨?_, ?_, ?_, ?_, ?_, ?_, ?_, ?_⟩ <;> simp [World.cell?, h]
theorem SM.keep {P : Nat → Prop} {W : World} {gt gn gs : Int} {gr fv ev : Value} {n : Nat} {T : Tb} {wr w' : World} (h : SM P W gt gn gs gr fv ev n T wr) (hb : Below wr.heap.size wr w') : SM P W gt gn gs gr fv ev n T w' :=
  ⟨h.bel.trans (hb.mono h.bel.size), Nat.le_trans h.sz hb.size, bx_keep h.gbox hb, bx_keep h.grid hb, h.map.keep hb⟩
theorem LeafFn.mono {fn : Nat} {lb : Array Value} {leafF : Sym → Nat → Nat → Option Val} {ok : Sym → Prop} {N : Nat} {P P' : Nat → Prop} {w : World} (h : LeafFn fn lb leafF ok N P w) (hp : ∀ k, P k → P' k) : LeafFn fn lb leafF ok N P' w := by
  intro W y i j h1 h2 h3 h4
  refine (h W y i j h1 h2 h3 h4).mono ?_
  rintro e w' ⟨x, h5, h6, h7⟩
  exact ⟨x, h5, h6.mono fun k hk _ => hk.imp (hp k) id, h7⟩
theorem lessB_some {o p : Option Val} (h : lessB o p = true) : ∃ v, o = some v := by
  cases o with
  | none => cases p <;> simp [lessB, lessX] at h
  | some v => exact ⟨v, rfl⟩
theorem SM.ofFn {P : Nat → Prop} {W : World} {gt gn gs : Int} {gr ev : Value} {n : Nat} {T : Tb} {wr : World} {fn : Nat} {lb : Array Value} {leafF : Sym → Nat → Nat → Option Val} {ok : Sym → Prop} (h : SM P W gt gn gs gr (.func (.func fn) #[] lb) ev n T wr) (eg : ∀ args w, (callFunc fn args).run Try.prog w = .ok (.enter fn args) w) (hf : LeafFn fn lb leafF ok n P W) (hP : ∀ k, P k → k < W.heap.size) (hn : n ≤ 100) (hok : ∀ s, ok s → okN s.n) :
    OfFn (W.heap.size + 2) (ofT leafF T) ok n (fun k => (P k ∨ W.heap.size + 3 ≤ k) ∧ k < wr.heap.size) wr := by
  intro W' y i j hy hij hjn hb
  have hPw : ∀ k, P k → k < wr.heap.size := fun k hk => Nat.lt_of_lt_of_le (hP k hk) h.bel.size
  exact ofE fn lb leafF ok n _ W eg (hf.mono fun k hk => ⟨.inl hk, hPw k hk⟩) _ _ _ _ _ _ _ _ T y i j hy ⟨hok y hy, by omega, by omega⟩ hij hjn W' (h.bel.trans (hb.mono h.bel.size)) (fun k hk => Nat.lt_of_lt_of_le hk.2 hb.size) (bx_keep h.grid hb) ((h.map.mono fun k hk hl => ⟨hk, hl⟩).keep hb)
set_option maxHeartbeats 8000000 in
set_option maxRecDepth 100000 in
theorem solveE (fn : Nat) (lb : Array Value) (leafF : Sym → Nat → Nat → Option Val) (en : Nat) (eb : Array Value) (emF : Nat → Nat → Option Val) (ok : Sym → Prop) (n M : Nat) (P : Nat → Prop) (W : World)
    (eg : ∀ args w, (callFunc fn args).run Try.prog w = .ok (.enter fn args) w) (eg2 : ∀ args w, (callFunc en args).run Try.prog w = .ok (.enter en args) w) (hf : LeafFn fn lb leafF ok n P W) (he : EmpFn en eb emF n P W) (hP : ∀ k, P k → k < W.heap.size) (hn : n ≤ 100) (hM : M ≤ 288230376151711744)
    (K : List Rule) (gt gn gs : Int) (gr : Value) (hgr : Rd AnyB W (.sl (K.map Rule.d)) [gr]) (hK : ∀ r ∈ K, okN r.left ∧ r.right.length ≤ 4 ∧ ∀ s ∈ r.right, ok s) (hok : ∀ s, ok s → okN s.n) (Inv : Nat → Nat → Nat → Tb → Prop) (mu : Tb → Nat) (PL : Plan K leafF emF n ok M Inv mu) :
    Calls Try.prog 41 #[.agg #[.int .i64 gt, .int .i64 gn, .int .i64 gs, gr], .int .i64 (n : Nat), .func (.func fn) #[] lb, .func (.func en) #[] eb] W fun e w' =>
      ∃ T, e = .returned (.pointer (some ⟨W.heap.size + 2, 0, none⟩)) ∧ Inv 0 0 0 T ∧ ClosedT K leafF emF n T ∧ SM P W gt gn gs gr (.func (.func fn) #[] lb) (.func (.func en) #[] eb) n T w' := by
  obtain ⟨ga, gcap, hgf, hgc1, hgc2⟩ := hgr.form
  rw [List.length_map] at hgf hgc1
  subst hgf
  obtain ⟨kn, HKN⟩ := nameIt K.length
  rw [HKN.out] at hgr hgc1 ⊢
  unfold maxLen at hgc2
  have hmk : ∀ W : World, (Instr.makeMap 120 none).run Try.prog W = .ok (.map (some W.heap.size)) (W.alloc (.map #[] 0)) := fun W => by
    simp [Instr.makeMap, run_underlying Try.underlying120]; try rfl
  obtain ⟨PST, HP⟩ := nameIt (fun (e : Ending) (w' : World) => ∃ T, e = .returned (.pointer (some ⟨W.heap.size + 2, 0, none⟩)) ∧ Inv 0 0 0 T ∧ ClosedT K leafF emF n T ∧ SM P W gt gn gs (.slice ga kn gcap) (.func (.func fn) #[] lb) (.func (.func en) #[] eb) n T w')
  have HFIN : Hid (∀ T w', Inv 0 0 0 T → ClosedT K leafF emF n T → SM P W gt gn gs (.slice ga kn gcap) (.func (.func fn) #[] lb) (.func (.func en) #[] eb) n T w' → PST (.returned (.pointer (some ⟨W.heap.size + 2, 0, none⟩))) w') := by
    intro T w' h1 h2 h3; rw [← HP.out]; exact ⟨T, rfl, h1, h2, h3⟩
  rw [HP.out]
  clear HP
  have hn' : (n : Int) ≤ 100 := by omega
  obtain ⟨w1, HW1⟩ := nameIt (((W.alloc (.cells #[.int .i64 gt, .int .i64 gn, .int .i64 gs, .slice ga kn gcap] 24)).alloc (.map #[] 0)).alloc (.cells #[.int .i64 gt, .int .i64 gn, .int .i64 gs, .slice ga kn gcap, .int .i64 (n : Int), .func (.func fn) #[] lb, .func (.func en) #[] eb, .map (some (W.heap.size + 1))] 122))
  have HSM0 : Hid (SM P W gt gn gs (.slice ga kn gcap) (.func (.func fn) #[] lb) (.func (.func en) #[] eb) n (fun _ _ _ => none) w1) := by
    rw [← HW1.out]
    refine ⟨(((Below.refl _ _).alloc (Nat.le_refl _) _).alloc (by simp) _).alloc (by simp; omega) _, by simp, ?_, ?_, ?_⟩
    · exact bx_keep (bx_keep (bx_new _ _ _ rfl) ((Below.refl _ _).alloc (Nat.le_refl _) _)) ((Below.refl _ _).alloc (Nat.le_refl _) _)
    · exact bx_new _ _ _ (by simp)
    · exact (RMap.start _ _ (by simp)).keep ((Below.refl _ _).alloc (Nat.le_refl _) _)
  have HGR := Lib.hid (hgr.mono (S' := fun k => k < W.heap.size) (fun k _ hl => hl))
  have HKK := Lib.hid hK
  have HPL := Lib.hid PL
  have HF := Lib.hid hf
  have HE := Lib.hid he
  have HOK := Lib.hid hok
  have HPP := Lib.hid hP
  have HEG := Lib.hid eg
  have HMM := Lib.hid hM
  obtain ⟨fuel, HFU⟩ := nameIt (mu (fun _ _ _ => none))
  clear hgr hK PL hf he hok hP hM eg
  go_enter Try.func41, Try.ntmps41
  go_wp2_with fail
  rw [HW1.out]
  clear hmk HW1
  go_loopg [10, 12, 13, 14, 15, 16] (fuel + 1) (fun gg v10 v12 v13 v14 v15 v16 wr => ∃ (b : Bool) (T : Tb), v10 = .bool b ∧ Hid (SM P W gt gn gs (.slice ga kn gcap) (.func (.func fn) #[] lb) (.func (.func en) #[] eb) n T wr) ∧ Hid (Inv 0 0 0 T) ∧ Hid (b = true → mu T + 1 ≤ gg) ∧ Hid (b = false → ClosedT K leafF emF n T))
  case atStart => exact ⟨true, _, rfl, HSM0, HPL.out.start, fun _ => by rw [HFU.out]; exact Nat.le_refl _, fun e => by cases e⟩
  case round =>
    clear HSM0 HFU fuel
    obtain ⟨b, T0, rfl, HSM, HIN, HLE, HCL⟩ := hrel
    obtain ⟨wo, rfl⟩ : ∃ wo : World, wo = wr := ⟨_, rfl⟩
    cases b with
    | false =>
      have HFI := Lib.hid (HFIN.out T0 wo HIN.out (HCL.out rfl) HSM.out)
      go_wp2_with fail
      exact HFI.out
    | true =>
      obtain ⟨m0, HM0⟩ := nameIt (mu T0)
      have hgg : m0 + 1 ≤ gk := by have := HLE.out rfl; rw [HM0.out] at this; exact this
      have HST0 : Hid (St K leafF emF n Inv mu m0 0 0 0 false T0) := by rw [← HM0.out]; exact St.begin HIN.out
      obtain ⟨g0, g1, g2, g3⟩ := bx_cells4 HSM.out.gbox
      clear HLE HCL HIN HM0
      go_wp2_with fail
      go_loopg [10, 12, 13, 14, 15, 16, 28] kn (fun gg v10 v12 v13 v14 v15 v16 v28 wr => ∃ (a : Nat) (b : Bool) (T : Tb), a ≤ kn ∧ kn - a ≤ gg ∧ v10 = .bool b ∧ v28 = .int .i64 (a : Nat) ∧ Hid (St K leafF emF n Inv mu m0 a 0 0 b T) ∧ Hid (SM P W gt gn gs (.slice ga kn gcap) (.func (.func fn) #[] lb) (.func (.func en) #[] eb) n T wr))
      case atStart => exact ⟨0, false, T0, by omega, by omega, rfl, rfl, HST0, HSM⟩
      case round =>
        clear HSM HST0 g0 g1 g2 g3 T0 wo
        obtain ⟨a, b, T0, hakn, hgg2, rfl, rfl, HST, HSM⟩ := hrel
        obtain ⟨w0, rfl⟩ : ∃ wo : World, wo = wr := ⟨_, rfl⟩
        by_cases hlt : a < kn
        · have haK : a < K.length := by rw [HKN.out]; exact hlt
          have hlt' : (a : Int) < (kn : Int) := by omega
          obtain ⟨r, HR⟩ := nameIt (K[a]'haK)
          have HRA : Hid (K[a]? = some r) := by show _ = _; rw [List.getElem?_eq_getElem haK, HR.out]
          have hrm : r ∈ K := by rw [← HR.out]; exact List.getElem_mem haK
          obtain ⟨hrl, hr4, hrs⟩ := HKK.out r hrm
          obtain ⟨gb0, go0, rsv, hga, -, -, c0, c1, hrr⟩ := (HGR.out.below HSM.out.bel).rule_at haK
          rw [HR.out] at c0 hrr
          obtain ⟨ra, rk, hrf, hrc1, hrc2⟩ := hrr.form
          rw [List.length_map] at hrf hrc1
          subst hrf hga
          obtain ⟨rn, HRN⟩ := nameIt r.right.length
          obtain ⟨rl, HRL⟩ := nameIt r.left
          rw [HRN.out] at hrr hrc1 c1 hr4
          rw [HRL.out] at c0 hrl
          have HRL2 := Lib.hid hrl
          have HRS := Lib.hid hrs
          unfold maxLen at hrc2
          obtain ⟨w3, HW3⟩ := nameIt (w0.alloc (.cells #[.int .i64 rl, .slice ra rn rk] 69))
          have hw3 : Below w0.heap.size w0 w3 := by rw [← HW3.out]; exact (Below.refl _ _).alloc (Nat.le_refl _) _
          have HRB0 : Hid (w3.heap[w0.heap.size]? = some (.cells #[.int .i64 rl, .slice ra rn rk] 69 (0, 0))) := by rw [← HW3.out]; exact bx_new _ _ _ rfl
          have HRR0 := Lib.hid (hrr.below hw3)
          have HSM3 := Lib.hid (HSM.out.keep hw3)
          have HSZ0 := Lib.hid HSM.out.sz
          have HB03 := Lib.hid hw3
          clear hrl hrs hw3 hrm hrr
          go_wp2_with fail
          rw [HW3.out]
          clear HW3 c0 c1
          obtain ⟨b12, HB12⟩ := nameIt w0.heap.size
          rw [HB12.out] at HRB0 HSZ0 ⊢
          go_loopg [10, 13, 14, 15, 16] (n + 1) (fun gg v10 v13 v14 v15 v16 wr => ∃ (i : Nat) (b : Bool) (T : Tb), i ≤ n + 1 ∧ n + 1 - i ≤ gg ∧ v10 = .bool b ∧ v13 = .int .i64 (i : Nat) ∧ Hid (St K leafF emF n Inv mu m0 a i i b T) ∧ Hid (SM P W gt gn gs (.slice (some ⟨gb0, go0, none⟩) kn gcap) (.func (.func fn) #[] lb) (.func (.func en) #[] eb) n T wr) ∧ Hid (wr.heap[b12]? = some (.cells #[.int .i64 rl, .slice ra rn rk] 69 (0, 0))) ∧ Hid (Rd (fun k => k < W.heap.size) wr (.sl (r.right.map Sym.d)) [.slice ra rn rk]))
          case atStart => exact ⟨0, b, T0, by omega, by omega, rfl, rfl, HST, HSM3, HRB0, HRR0⟩
          case round =>
            clear HST HSM HSM3 HRB0 HRR0 HB03 HB12 w3 w0 T0 b
            obtain ⟨i, b, T0, hin1, hgg3, rfl, rfl, HST, HSM, HRB, HRR⟩ := hrel
            obtain ⟨w0, rfl⟩ : ∃ wo : World, wo = wr := ⟨_, rfl⟩
            by_cases hin : i ≤ n
            · have hin' : (i : Int) ≤ (n : Int) := by omega
              go_wp2_with fail
              go_loopg [10, 14, 15, 16] (n + 1 - i) (fun gg v10 v14 v15 v16 wr => ∃ (j : Nat) (b : Bool) (T : Tb), i ≤ j ∧ j ≤ n + 1 ∧ n + 1 - j ≤ gg ∧ v10 = .bool b ∧ v14 = .int .i64 (j : Nat) ∧ Hid (St K leafF emF n Inv mu m0 a i j b T) ∧ Hid (SM P W gt gn gs (.slice (some ⟨gb0, go0, none⟩) kn gcap) (.func (.func fn) #[] lb) (.func (.func en) #[] eb) n T wr) ∧ Hid (wr.heap[b12]? = some (.cells #[.int .i64 rl, .slice ra rn rk] 69 (0, 0))) ∧ Hid (Rd (fun k => k < W.heap.size) wr (.sl (r.right.map Sym.d)) [.slice ra rn rk]))
              case atStart => exact ⟨i, b, T0, by omega, by omega, by omega, rfl, rfl, HST, HSM, HRB, HRR⟩
              case round =>
                clear HST HSM HRB HRR w0 T0 b
                obtain ⟨j, b, T, hij, hjn1, hgg4, rfl, rfl, HST, HSM, HRB, HRR⟩ := hrel
                obtain ⟨wi, rfl⟩ : ∃ wo : World, wo = wr := ⟨_, rfl⟩
                by_cases hjn : j ≤ n
                · have hjn' : (j : Int) ≤ (n : Int) := by omega
                  have HHO := Lib.hid (HSM.out.ofFn HEG.out HF.out HPP.out hn HOK.out)
                  have HBJ := Lib.hid HSM.out.bel
                  have HSZJ := Lib.hid HSM.out.sz
                  have HMJ := Lib.hid (HSM.out.map.mono (P' := fun k => (P k ∨ W.heap.size + 3 ≤ k) ∧ k < wi.heap.size) (fun k hk hl => ⟨hk, hl⟩))
                  have HBTR : Hid (∀ q, q = rvT leafF emF T r i j → better leafF emF T r i j = lessB q (T rl i j)) := by
                    intro q e
                    rw [e, ← HRL.out]; rfl
                  obtain ⟨rv, HRV⟩ := nameIt (rvT leafF emF T r i j)
                  have hb12 : W.heap.size + 3 ≤ b12 := HSZ0.out
                  have hb12l : b12 < wi.heap.size := (Array.getElem?_eq_some_iff.1 HRB.out).1
                  obtain ⟨x0, x1, x2, x3, x4, x5, x6, x7⟩ := bx_cells8r HSM.out.grid
                  go_wp2_with fail
                  refine (HE.out wi i j hij hjn HBJ.out).mono ?_
                  rintro e w4 ⟨x, rfl, hv, hb4⟩
                  obtain ⟨a1, m1, k1, rfl, hrd⟩ := vr_form hv
                  obtain ⟨o, HO⟩ := nameIt (emF i j)
                  rw [HO.out] at hrd ⊢
                  obtain ⟨w5, HW5⟩ := nameIt (w4.alloc (.cells #[.bool o.isSome, .int .i64 (oC o), .int .i64 (oN o), .slice a1 m1 k1] 36))
                  have hw5 : Below w4.heap.size w4 w5 := by rw [← HW5.out]; exact (Below.refl _ _).alloc (Nat.le_refl _) _
                  have hz4 := hb4.size
                  have HN5 : Hid (NV wi (fun k => P k ∨ W.heap.size + 3 ≤ k) w4.heap.size o w5) := by
                    refine ⟨hb4.trans (hw5.mono hz4), hz4, _, ?_, (hrd.mono (fun k hk hl => ⟨hk.imp id (fun h => by have := HSZJ.out; omega), by omega⟩)).below hw5⟩
                    rw [← HW5.out]; exact bx_new _ _ _ rfl
                  obtain ⟨b15, HB15⟩ := nameIt w4.heap.size
                  rw [HB15.out] at HN5 hz4
                  have HRB5 := Lib.hid (bx_keep HRB.out HN5.out.1)
                  obtain ⟨y0, y1⟩ := bx_cells2 HRB5.out
                  clear hv hb4 hrd hw5 x0 x1 x2 x3 x4 x5 x6 x7
                  go_upto_region 15 with fail
                  rw [HW5.out, HB15.out]
                  clear HW5 HB15
                  have hrn : rn ≤ 4 := hr4
                  go_upto_if 53 with fail
                  go_cut [] (fun wx => Hid (NV wi (fun k => P k ∨ W.heap.size + 3 ≤ k) b15 rv wx))
                  case first =>
                    by_cases h0 : rn = 0
                    · have hre : r.right = [] := List.eq_nil_of_length_eq_zero (by rw [HRN.out]; exact h0)
                      have HNV : Hid (NV wi (fun k => P k ∨ W.heap.size + 3 ≤ k) b15 rv w5) := by
                        have e : rv = o := by rw [← HRV.out, ← HO.out]; unfold rvT; rw [if_pos hre]
                        rw [e]; exact HN5.out
                      have hd : decide ((0 : Int) < (rn : Int)) = false := by simp; omega
                      clear hre
                      go_wp2_with fail
                      go_meet
                      exact HNV
                    · have hre : r.right ≠ [] := fun e => h0 (by rw [← HRN.out, e]; rfl)
                      have hd : decide ((0 : Int) < (rn : Int)) = true := by simp; omega
                      have hd' : (0 : Int) < (rn : Int) := by omega
                      have hli := listE (W.heap.size + 2) (ofT leafF T) ok n M _ wi HHO.out (fun k hk => hk.2) hn HMM.out (HPL.out.bd a i j T HST.out.inv) r.right hre (by rw [HRN.out]; omega) HRS.out i j hij hjn w5 HN5.out.1 (.slice ra rn rk) (HRR.out.below HN5.out.1).any
                      have HLI := Lib.hid hli
                      have erv : lstV (ofT leafF T) r.right i j = rv := by rw [← HRV.out]; unfold rvT; rw [if_neg hre]
                      rw [erv] at HLI
                      clear hli erv hre
                      obtain ⟨u5, hx5, -⟩ := HN5.out.vr
                      have HX5 := Lib.hid hx5
                      clear hx5
                      go_wp2_with fail
                      refine HLI.out.mono ?_
                      rintro e w6 ⟨x6, rfl, hv6, hb6⟩
                      obtain ⟨a6, m6, k6, rfl, hrd6⟩ := vr_form hv6
                      have HX6 := Lib.hid (bx_keep HX5.out hb6)
                      obtain ⟨f0, f1, f2, f3⟩ := bx_free4 HX6.out
                      obtain ⟨e0, e1, e2, e3⟩ := bx_cells4 HX6.out
                      have hz5 := HN5.out.1.size
                      have hl5 := HN5.out.lt
                      have HNV : Hid (NV wi (fun k => P k ∨ W.heap.size + 3 ≤ k) b15 rv ((((w6.setCell ⟨b15, 0, none⟩ (.bool rv.isSome)).setCell ⟨b15, 0 + 1, none⟩ (.int .i64 (oC rv))).setCell ⟨b15, 0 + 2, none⟩ (.int .i64 (oN rv))).setCell ⟨b15, 0 + 3, none⟩ (.slice a6 m6 k6))) := by
                        refine nv_mk (HN5.out.1.trans (hb6.mono hz5)) hz4 HX6.out (hrd6.mono (fun k hk hl => ?_))
                        rcases hk with hk | hk
                        · exact ⟨hk.1, by have := hk.2; omega⟩
                        · have hk2 : w5.heap.size ≤ k := hk
                          have := HSZJ.out
                          exact ⟨.inr (by omega), by omega⟩
                      clear hv6 hrd6 hb6
                      go_wp2_with fail
                      go_meet
                      exact HNV
                  case rest =>
                    obtain ⟨w6, HW6⟩ := nameIt wc
                    rw [HW6.out] at hcut ⊢
                    clear HW6
                    have HN6 := hcut
                    clear hcut
                    obtain ⟨w7, HW7⟩ := nameIt (w6.alloc (.cells #[.bool false, .int .i64 rl, .int .i64 (i : Nat), .int .i64 (j : Nat)] 125))
                    have hw7 : Below w6.heap.size w6 w7 := by rw [← HW7.out]; exact (Below.refl _ _).alloc (Nat.le_refl _) _
                    have hx16 : w7.heap[w6.heap.size]? = some (.cells #[.bool false, .int .i64 rl, .int .i64 (i : Nat), .int .i64 (j : Nat)] 125 (0, 0)) := by rw [← HW7.out]; exact bx_new _ _ _ rfl
                    have HN7 := Lib.hid (HN6.out.keep hw7)
                    obtain ⟨b16, HB16⟩ := nameIt w6.heap.size
                    rw [HB16.out] at hx16
                    have HB16L : Hid (W.heap.size + 3 ≤ b16) := by
                      show _ ≤ _
                      rw [← HB16.out]
                      have h1 := HN6.out.1.size
                      have := HSZJ.out
                      omega
                    have HX16 := Lib.hid hx16
                    obtain ⟨y0, y1⟩ := bx_cells2 (bx_keep HRB.out HN6.out.1)
                    go_upto_region 18 with fail
                    rw [HW7.out, HB16.out]
                    clear HW7 HB16 hw7 hx16 y0 y1 HN5 HRB5
                    have HSM7 := Lib.hid (HSM.out.keep HN7.out.1)
                    have HM7 := Lib.hid (HMJ.out.keep HN7.out.1)
                    have hkP : okP rl i j := ⟨HRL2.out, by omega, by omega⟩
                    obtain ⟨xq, hlk, hvq⟩ := HM7.out.looks (b := false) hkP
                    simp only [Bool.false_eq_true, if_false] at hvq
                    obtain ⟨q, HQ⟩ := nameIt (T rl i j)
                    rw [HQ.out] at hvq HBTR
                    obtain ⟨aq, mq, kq, rfl, hrq⟩ := vr_form hvq
                    obtain ⟨a15, m15, k15, hx15, hv15⟩ := nv_form HN7.out
                    have HX15 := Lib.hid hx15
                    have HV15 := Lib.hid hv15
                    have HVQ := Lib.hid hvq
                    have HLK := Lib.hid hlk
                    have HBQ := Lib.hid (HBTR.out rv HRV.out.symm)
                    obtain ⟨bb, HBB⟩ := nameIt (lessB rv q)
                    rw [HBB.out] at HBQ
                    have HCS : Hid (∀ w', Below w7.heap.size w7 w' → w'.cell? ⟨W.heap.size + 2, 0 + 7, none⟩ = some (.map (some (W.heap.size + 1))) ∧ w'.cell? ⟨b15, 0, none⟩ = some (.bool rv.isSome) ∧ w'.cell? ⟨b15, 0 + 1, none⟩ = some (.int .i64 (oC rv)) ∧ w'.cell? ⟨b15, 0 + 2, none⟩ = some (.int .i64 (oN rv)) ∧ w'.cell? ⟨b15, 0 + 3, none⟩ = some (.slice a15 m15 k15) ∧
                        w'.cell? ⟨b16, 0, none⟩ = some (.bool false) ∧ w'.cell? ⟨b16, 0 + 1, none⟩ = some (.int .i64 rl) ∧ w'.cell? ⟨b16, 0 + 2, none⟩ = some (.int .i64 (i : Nat)) ∧ w'.cell? ⟨b16, 0 + 3, none⟩ = some (.int .i64 (j : Nat)) ∧
                        (Instr.lookup 120 (.map (some (W.heap.size + 1))) (.agg #[.bool false, .int .i64 rl, .int .i64 (i : Nat), .int .i64 (j : Nat)]) false).run Try.prog w' = .ok (.agg #[.bool q.isSome, .int .i64 (oC q), .int .i64 (oN q), .slice aq mq kq]) w') := by
                      intro w' hb'
                      obtain ⟨h1, h2, h3, h4⟩ := bx_cells4 (bx_keep HX15.out hb')
                      obtain ⟨h5, h6, h7, h8⟩ := bx_cells4 (bx_keep HX16.out hb')
                      exact ⟨(bx_cells8r (bx_keep HSM7.out.grid hb')).2.2.2.2.2.2.2, h1, h2, h3, h4, h5, h6, h7, h8, HLK.out w' hb'⟩
                    clear hx15 hv15 hvq hlk hrq
                    refine wp_region_U (S := (fun w' => w'.cell? ⟨W.heap.size + 2, 0 + 7, none⟩ = some (.map (some (W.heap.size + 1))) ∧ w'.cell? ⟨b15, 0, none⟩ = some (.bool rv.isSome) ∧ w'.cell? ⟨b15, 0 + 1, none⟩ = some (.int .i64 (oC rv)) ∧ w'.cell? ⟨b15, 0 + 2, none⟩ = some (.int .i64 (oN rv)) ∧ w'.cell? ⟨b15, 0 + 3, none⟩ = some (.slice a15 m15 k15) ∧ w'.cell? ⟨b16, 0, none⟩ = some (.bool false) ∧ w'.cell? ⟨b16, 0 + 1, none⟩ = some (.int .i64 rl) ∧ w'.cell? ⟨b16, 0 + 2, none⟩ = some (.int .i64 (i : Nat)) ∧ w'.cell? ⟨b16, 0 + 3, none⟩ = some (.int .i64 (j : Nat)) ∧ (Instr.lookup 120 (.map (some (W.heap.size + 1))) (.agg #[.bool false, .int .i64 rl, .int .i64 (i : Nat), .int .i64 (j : Nat)]) false).run Try.prog w' = .ok (.agg #[.bool q.isSome, .int .i64 (oC q), .int .i64 (oN q), .slice aq mq kq]) w')) 7 (by kernel_rfl) (fun inv => ?_)
                    refine wpU_take (i := 0) (v := .agg #[.bool rv.isSome, .int .i64 (oC rv), .int .i64 (oN rv), .slice a15 m15 k15]) rfl inv (by kernel_rfl) (by kernel_rfl) (by decide) (by decide) (by kernel_rfl) (by kernel_rfl) (by kernel_rfl) (fun _ _ _ h => h) (Or.inl ⟨by rfl, fun w' hw' => ?_⟩) (HCS.out _ (Below.refl _ _).drew) (fun inv => ?_)
                    · obtain ⟨h0, h1, h2, h3, h4, h5, h6, h7, h8, h9⟩ := hw'
                      go_simp
                    try simp only [Act.put, List.setIfInBounds_toArray, List.set_cons_zero, List.set_cons_succ]
                    refine wpU_take (i := 1) (v := .pointer (some ⟨W.heap.size + 2, 0, none⟩)) rfl inv (by kernel_rfl) (by kernel_rfl) (by decide) (by decide) (by kernel_rfl) (by kernel_rfl) (by kernel_rfl) (fun _ _ _ h => h) (Or.inl ⟨by rfl, fun w' hw' => ?_⟩) (HCS.out _ (Below.refl _ _).drew) (fun inv => ?_)
                    · obtain ⟨h0, h1, h2, h3, h4, h5, h6, h7, h8, h9⟩ := hw'
                      go_simp
                    try simp only [Act.put, List.setIfInBounds_toArray, List.set_cons_zero, List.set_cons_succ]
                    refine wpU_take (i := 2) (v := .pointer (some ⟨W.heap.size + 2, 0, none⟩)) rfl inv (by kernel_rfl) (by kernel_rfl) (by decide) (by decide) (by kernel_rfl) (by kernel_rfl) (by kernel_rfl) (fun _ _ _ h => h) (Or.inl ⟨by rfl, fun w' hw' => ?_⟩) (HCS.out _ (Below.refl _ _).drew) (fun inv => ?_)
                    · obtain ⟨h0, h1, h2, h3, h4, h5, h6, h7, h8, h9⟩ := hw'
                      go_simp
                    try simp only [Act.put, List.setIfInBounds_toArray, List.set_cons_zero, List.set_cons_succ]
                    refine wpU_take (i := 3) (v := .pointer (some ⟨W.heap.size + 2, 0 + 7, none⟩)) rfl inv (by kernel_rfl) (by kernel_rfl) (by decide) (by decide) (by kernel_rfl) (by kernel_rfl) (by kernel_rfl) (fun _ _ _ h => h) (Or.inl ⟨by rfl, fun w' hw' => ?_⟩) (HCS.out _ (Below.refl _ _).drew) (fun inv => ?_)
                    · obtain ⟨h0, h1, h2, h3, h4, h5, h6, h7, h8, h9⟩ := hw'
                      go_simp
                    try simp only [Act.put, List.setIfInBounds_toArray, List.set_cons_zero, List.set_cons_succ]
                    refine wpU_take (i := 4) (v := .map (some (W.heap.size + 1))) rfl inv (by kernel_rfl) (by kernel_rfl) (by decide) (by decide) (by kernel_rfl) (by kernel_rfl) (by kernel_rfl) (fun _ _ _ h => h) (Or.inl ⟨by rfl, fun w' hw' => ?_⟩) (HCS.out _ (Below.refl _ _).drew) (fun inv => ?_)
                    · obtain ⟨h0, h1, h2, h3, h4, h5, h6, h7, h8, h9⟩ := hw'
                      go_simp
                    try simp only [Act.put, List.setIfInBounds_toArray, List.set_cons_zero, List.set_cons_succ]
                    refine wpU_take (i := 5) (v := .agg #[.bool false, .int .i64 rl, .int .i64 (i : Nat), .int .i64 (j : Nat)]) rfl inv (by kernel_rfl) (by kernel_rfl) (by decide) (by decide) (by kernel_rfl) (by kernel_rfl) (by kernel_rfl) (fun _ _ _ h => h) (Or.inl ⟨by rfl, fun w' hw' => ?_⟩) (HCS.out _ (Below.refl _ _).drew) (fun inv => ?_)
                    · obtain ⟨h0, h1, h2, h3, h4, h5, h6, h7, h8, h9⟩ := hw'
                      go_simp
                    try simp only [Act.put, List.setIfInBounds_toArray, List.set_cons_zero, List.set_cons_succ]
                    refine wpU_take (i := 6) (v := .agg #[.bool q.isSome, .int .i64 (oC q), .int .i64 (oN q), .slice aq mq kq]) rfl inv (by kernel_rfl) (by kernel_rfl) (by decide) (by decide) (by kernel_rfl) (by kernel_rfl) (by kernel_rfl) (fun _ _ _ h => h) (Or.inl ⟨by rfl, fun w' hw' => ?_⟩) (HCS.out _ (Below.refl _ _).drew) (fun inv => ?_)
                    · obtain ⟨h0, h1, h2, h3, h4, h5, h6, h7, h8, h9⟩ := hw'
                      go_simp
                    try simp only [Act.put, List.setIfInBounds_toArray, List.set_cons_zero, List.set_cons_succ]
                    refine wpU_one (i := 7) (by kernel_rfl) rfl (fun K hK => ?_)
                    go_simp
                    refine (lessE _ _ rv q _ _ _ (HV15.out.below (Below.refl w7.heap.size w7).drew) (HVQ.out.below (Below.refl w7.heap.size w7).drew)).mono ?_
                    rintro e w8 ⟨rfl, hb8⟩
                    have HB8 : Hid (Below w7.heap.size w7 w8) := (Below.refl w7.heap.size w7).drew.trans hb8
                    clear hb8
                    rw [HBB.out]
                    refine hK.out _ _ (fun h => absurd (show true = false from h) (by decide)) ?_
                    clear hK K
                    try simp only [Act.put, List.setIfInBounds_toArray, List.set_cons_zero, List.set_cons_succ]
                    refine wpU_done (by kernel_rfl) ?_ _
                    have hb08 : Below wi.heap.size wi w8 := HN7.out.1.trans (HB8.out.mono HN7.out.1.size)
                    have HB08 := Lib.hid hb08
                    have HSM8 := Lib.hid (HSM.out.keep hb08)
                    have HRB8 := Lib.hid (bx_keep HRB.out hb08)
                    have HRR8 := Lib.hid (HRR.out.below hb08)
                    clear hb08 HCS
                    cases bb with
                    | false =>
                      have HST8 := Lib.hid (HST.out.no HPL.out HRA.out hij hjn HBQ.out)
                      clear HST
                      go_wp2_with fail
                      go_roundg (n + 1 - (j + 1))
                      case measure => omega
                      case rel => exact ⟨j + 1, b, T, by omega, by omega, by omega, rfl, by go_num, HST8, HSM8, HRB8, HRR8⟩
                    | true =>
                      obtain ⟨v, hv⟩ := lessB_some HBB.out
                      have HST8 := HST.out.yes HPL.out HRA.out hij hjn HBQ.out
                      rw [HRV.out, HRL.out, hv] at HST8
                      have HST8 := Lib.hid HST8
                      have hx8 := bx_keep HX15.out HB8.out
                      have hx88 := bx_keep HX16.out HB8.out
                      have hnm : ¬ (P (W.heap.size + 1) ∨ W.heap.size + 3 ≤ W.heap.size + 1) := by
                        rintro (h | h)
                        · have := HPP.out _ h; omega
                        · omega
                      obtain ⟨v0, st, w9, hme, hg9, hst⟩ := (HSM8.out.map.keep (Below.refl w8.heap.size w8).drew).entry hkP hnm
                      have hvr : VR (fun k => P k ∨ W.heap.size + 3 ≤ k) w8.drew (.agg #[.bool rv.isSome, .int .i64 (oC rv), .int .i64 (oN rv), .slice a15 m15 k15]) (some v) := by
                        have := (HV15.out.below HB8.out).mono (P' := fun k => P k ∨ W.heap.size + 3 ≤ k) (fun k hk _ => hk.1)
                        rw [hv] at this ⊢
                        exact this.below (Below.refl w8.heap.size w8).drew
                      obtain ⟨w10, hes, hm10, hg10⟩ := hst _ v hvr
                      have hd8 : Below w8.heap.size w8 w8.drew := (Below.refl w8.heap.size w8).drew
                      have HME := Lib.hid hme
                      have HES := Lib.hid hes
                      have HSM10 : Hid (SM P W gt gn gs (.slice (some ⟨gb0, go0, none⟩) kn gcap) (.func (.func fn) #[] lb) (.func (.func en) #[] eb) n (upd T rl i j (some v)) w10) := by
                        have h8 := HSM8.out.keep hd8
                        refine ⟨h8.bel.grown hg10 h8.bel.size (fun k e => by cases e; omega), Nat.le_trans h8.sz hg10.size, ?_, ?_, hm10⟩
                        · exact (hg10.block _ (by have := h8.sz; omega) (by simp)).trans h8.gbox
                        · exact (hg10.block _ (by have := h8.sz; omega) (by simp)).trans h8.grid
                      have hz8 := HB08.out.size
                      have HRB10 : Hid (w10.heap[b12]? = some (.cells #[.int .i64 rl, .slice ra rn rk] 69 (0, 0))) := (hg10.block b12 (by show b12 < w8.heap.size; omega) (by simp; omega)).trans HRB8.out
                      have HRR10 : Hid (Rd (fun k => k < W.heap.size) w10 (.sl (r.right.map Sym.d)) [.slice ra rn rk]) := rd_grown (HRR8.out.below (Below.refl w8.heap.size w8).drew) hg10 (fun k e h => by cases e; have h2 : W.heap.size + 1 < W.heap.size := h; omega)
                      have HCS9 : Hid (∀ w', (Below w8.heap.size w8 w' ∨ w' = w9) → w'.cell? ⟨W.heap.size + 2, 0 + 7, none⟩ = some (.map (some (W.heap.size + 1))) ∧ w'.cell? ⟨b15, 0, none⟩ = some (.bool rv.isSome) ∧ w'.cell? ⟨b15, 0 + 1, none⟩ = some (.int .i64 (oC rv)) ∧ w'.cell? ⟨b15, 0 + 2, none⟩ = some (.int .i64 (oN rv)) ∧ w'.cell? ⟨b15, 0 + 3, none⟩ = some (.slice a15 m15 k15) ∧
                          w'.cell? ⟨b16, 0, none⟩ = some (.bool false) ∧ w'.cell? ⟨b16, 0 + 1, none⟩ = some (.int .i64 rl) ∧ w'.cell? ⟨b16, 0 + 2, none⟩ = some (.int .i64 (i : Nat)) ∧ w'.cell? ⟨b16, 0 + 3, none⟩ = some (.int .i64 (j : Nat))) := by
                        have hb15 : W.heap.size + 3 ≤ b15 := by have := HN7.out.2.1; have := HSZJ.out; omega
                        have hb16 : W.heap.size + 3 ≤ b16 := HB16L.out
                        have hblk : ∀ w', (Below w8.heap.size w8 w' ∨ w' = w9) → ∀ b o, b ≠ W.heap.size + 1 → w8.heap[b]? = some o → w'.heap[b]? = some o := by
                          rintro w' (hb | rfl) b o hne ho
                          · exact bx_keep ho hb
                          · exact (hg9.block b (Array.getElem?_eq_some_iff.1 ho).1 (by simpa using hne)).trans ho
                        intro w' hw'
                        obtain ⟨h1, h2, h3, h4⟩ := bx_cells4 (hblk w' hw' _ _ (by omega) hx8)
                        obtain ⟨h5, h6, h7, h8⟩ := bx_cells4 (hblk w' hw' _ _ (by omega) hx88)
                        exact ⟨(bx_cells8r (hblk w' hw' _ _ (by omega) HSM8.out.grid)).2.2.2.2.2.2.2, h1, h2, h3, h4, h5, h6, h7, h8⟩
                      clear HST hv hme hg9 hst hvr hes hm10 hg10 hx8 hx88 hnm hd8
                      go_upto_region 19 with fail
                      refine wp_region_U (S := (fun w' => w'.cell? ⟨W.heap.size + 2, 0 + 7, none⟩ = some (.map (some (W.heap.size + 1))) ∧ w'.cell? ⟨b15, 0, none⟩ = some (.bool rv.isSome) ∧ w'.cell? ⟨b15, 0 + 1, none⟩ = some (.int .i64 (oC rv)) ∧ w'.cell? ⟨b15, 0 + 2, none⟩ = some (.int .i64 (oN rv)) ∧ w'.cell? ⟨b15, 0 + 3, none⟩ = some (.slice a15 m15 k15) ∧ w'.cell? ⟨b16, 0, none⟩ = some (.bool false) ∧ w'.cell? ⟨b16, 0 + 1, none⟩ = some (.int .i64 rl) ∧ w'.cell? ⟨b16, 0 + 2, none⟩ = some (.int .i64 (i : Nat)) ∧ w'.cell? ⟨b16, 0 + 3, none⟩ = some (.int .i64 (j : Nat)))) 8 (by kernel_rfl) (fun inv => ?_)
                      refine wpU_take (i := 0) (v := .pointer (some ⟨W.heap.size + 2, 0, none⟩)) rfl inv (by kernel_rfl) (by kernel_rfl) (by decide) (by decide) (by kernel_rfl) (by kernel_rfl) (by kernel_rfl) (fun _ _ _ h => h) (Or.inl ⟨by rfl, fun w' hw' => ?_⟩) (HCS9.out _ (.inl (Below.refl _ _).drew)) (fun inv => ?_)
                      · obtain ⟨h0, h1, h2, h3, h4, h5, h6, h7, h8⟩ := hw'
                        go_simp
                      try simp only [Act.put, List.setIfInBounds_toArray, List.set_cons_zero, List.set_cons_succ]
                      refine wpU_take (i := 1) (v := .pointer (some ⟨W.heap.size + 2, 0, none⟩)) rfl inv (by kernel_rfl) (by kernel_rfl) (by decide) (by decide) (by kernel_rfl) (by kernel_rfl) (by kernel_rfl) (fun _ _ _ h => h) (Or.inl ⟨by rfl, fun w' hw' => ?_⟩) (HCS9.out _ (.inl (Below.refl _ _).drew)) (fun inv => ?_)
                      · obtain ⟨h0, h1, h2, h3, h4, h5, h6, h7, h8⟩ := hw'
                        go_simp
                      try simp only [Act.put, List.setIfInBounds_toArray, List.set_cons_zero, List.set_cons_succ]
                      refine wpU_take (i := 2) (v := .pointer (some ⟨W.heap.size + 2, 0 + 7, none⟩)) rfl inv (by kernel_rfl) (by kernel_rfl) (by decide) (by decide) (by kernel_rfl) (by kernel_rfl) (by kernel_rfl) (fun _ _ _ h => h) (Or.inl ⟨by rfl, fun w' hw' => ?_⟩) (HCS9.out _ (.inl (Below.refl _ _).drew)) (fun inv => ?_)
                      · obtain ⟨h0, h1, h2, h3, h4, h5, h6, h7, h8⟩ := hw'
                        go_simp
                      try simp only [Act.put, List.setIfInBounds_toArray, List.set_cons_zero, List.set_cons_succ]
                      refine wpU_take (i := 3) (v := .map (some (W.heap.size + 1))) rfl inv (by kernel_rfl) (by kernel_rfl) (by decide) (by decide) (by kernel_rfl) (by kernel_rfl) (by kernel_rfl) (fun _ _ _ h => h) (Or.inl ⟨by rfl, fun w' hw' => ?_⟩) (HCS9.out _ (.inl (Below.refl _ _).drew)) (fun inv => ?_)
                      · obtain ⟨h0, h1, h2, h3, h4, h5, h6, h7, h8⟩ := hw'
                        go_simp
                      try simp only [Act.put, List.setIfInBounds_toArray, List.set_cons_zero, List.set_cons_succ]
                      refine wpU_take (i := 4) (v := .agg #[.bool false, .int .i64 rl, .int .i64 (i : Nat), .int .i64 (j : Nat)]) rfl inv (by kernel_rfl) (by kernel_rfl) (by decide) (by decide) (by kernel_rfl) (by kernel_rfl) (by kernel_rfl) (fun _ _ _ h => h) (Or.inl ⟨by rfl, fun w' hw' => ?_⟩) (HCS9.out _ (.inl (Below.refl _ _).drew)) (fun inv => ?_)
                      · obtain ⟨h0, h1, h2, h3, h4, h5, h6, h7, h8⟩ := hw'
                        go_simp
                      try simp only [Act.put, List.setIfInBounds_toArray, List.set_cons_zero, List.set_cons_succ]
                      refine wpU_take (i := 5) (v := .agg #[.bool rv.isSome, .int .i64 (oC rv), .int .i64 (oN rv), .slice a15 m15 k15]) rfl inv (by kernel_rfl) (by kernel_rfl) (by decide) (by decide) (by kernel_rfl) (by kernel_rfl) (by kernel_rfl) (fun _ _ _ h => h) (Or.inl ⟨by rfl, fun w' hw' => ?_⟩) (HCS9.out _ (.inl (Below.refl _ _).drew)) (fun inv => ?_)
                      · obtain ⟨h0, h1, h2, h3, h4, h5, h6, h7, h8⟩ := hw'
                        go_simp
                      try simp only [Act.put, List.setIfInBounds_toArray, List.set_cons_zero, List.set_cons_succ]
                      refine wpU_one (i := 6) (by kernel_rfl) rfl (fun K hK => ?_)
                      replace inv := inv_setc (i := 6) inv (by kernel_rfl) (by decide)
                      have hme := HME.out
                      unfold ptV at hme
                      go_simp
                      refine hK.out _ _ (fun _ => HCS9.out _ (.inr rfl)) ?_
                      clear hK K
                      try simp only [Act.put, List.setIfInBounds_toArray, List.set_cons_zero, List.set_cons_succ]
                      refine wpU_one (i := 7) (by kernel_rfl) rfl (fun K hK => ?_)
                      replace inv := inv_setc (i := 7) inv (by kernel_rfl) (by decide)
                      go_simp
                      refine hK.out _ _ (fun _ => HCS9.out _ (.inr rfl)) ?_
                      clear hK K
                      try simp only [Act.put, List.setIfInBounds_toArray, List.set_cons_zero, List.set_cons_succ]
                      refine wpU_one (i := 8) (by kernel_rfl) rfl (fun K hK => ?_)
                      have hes := HES.out
                      go_simp
                      refine hK.out _ _ (fun h => absurd (show true = false from h) (by decide)) ?_
                      clear hK K
                      try simp only [Act.put, List.setIfInBounds_toArray, List.set_cons_zero, List.set_cons_succ]
                      refine wpU_one (i := 9) (by kernel_rfl) rfl (fun K hK => ?_)
                      go_simp
                      refine hK.out _ _ (fun h => absurd (show true = false from h) (by decide)) ?_
                      clear hK K
                      try simp only [Act.put, List.setIfInBounds_toArray, List.set_cons_zero, List.set_cons_succ]
                      refine wpU_done (by kernel_rfl) ?_ _
                      go_wp2_with fail
                      go_roundg (n + 1 - (j + 1))
                      case measure => omega
                      case rel => exact ⟨j + 1, true, _, by omega, by omega, by omega, rfl, by go_num, HST8, HSM10, HRB10, HRR10⟩
                · have hjn' : ¬ (j : Int) ≤ (n : Int) := by omega
                  obtain rfl : j = n + 1 := by omega
                  have HST2 := Lib.hid (HST.out.row HPL.out hin)
                  clear HST
                  go_wp2_with fail
                  go_roundg (n + 1 - (i + 1))
                  case measure => omega
                  case rel => exact ⟨i + 1, b, T, by omega, by omega, rfl, by go_num, HST2, HSM, HRB, HRR⟩
            · have hin' : ¬ (i : Int) ≤ (n : Int) := by omega
              obtain rfl : i = n + 1 := by omega
              have HST2 := Lib.hid (HST.out.rule HPL.out)
              clear HST
              go_wp2_with fail
              go_roundg (kn - (a + 1))
              case measure => omega
              case rel => exact ⟨a + 1, b, T0, by omega, by omega, rfl, by go_num, HST2, HSM⟩
        · have hlt' : ¬ (a : Int) < (kn : Int) := by omega
          have hae : a = K.length := by have := HKN.out; omega
          have HST2 : Hid (St K leafF emF n Inv mu m0 K.length 0 0 b T0) := by rw [← hae]; exact HST.out
          clear HST hae
          cases b with
          | true =>
            have hml := HST2.out.lt rfl
            go_wp2_with fail
            go_roundg (mu T0 + 1)
            case measure => omega
            case rel => exact ⟨true, T0, rfl, HSM, HST2.out.again HPL.out, fun _ => Nat.le_refl _, fun e => by cases e⟩
          | false =>
            go_wp2_with fail
            go_roundg 0
            case measure => omega
            case rel => exact ⟨false, T0, rfl, HSM, HST2.out.again HPL.out, (fun e => by cases e), fun _ => HST2.out.closed⟩
end Rp
end Go.Proofs.Ytjpmebppdcclbaa
namespace Go.Proofs.Ytjpmebppdcclbaa
namespace Hl
open Rp
section
variable (leaf : Sym → Nat → Nat → Option Val) (em : Nat → Nat → Option Val) (n N : Nat) (K : List Rule) (ok : Sym → Prop) (G : Val → Nat → Nat → Prop)
def clL (y : Sym) (i j : Nat) : Option Val := if i ≤ j ∧ j ≤ n then leaf y i j else none
def clE (i j : Nat) : Option Val := if i ≤ j ∧ j ≤ n then em i j else none
def DrG (y : Sym) (i j : Nat) (v : Val) : Prop := ∃ h, Dr K (clL leaf n) (clE em n) h y i j v
structure GOk : Prop where
  wf : ∀ v i j, G v i j → Wf v
  lwf : ∀ y i j, WfO (leaf y i j)
  ewf : ∀ i j, WfO (em i j)
  leaf : ∀ y i j v, ok y → i ≤ j → j ≤ n → leaf y i j = some v → G v i j
  em : ∀ i j v, i ≤ j → j ≤ n → em i j = some v → G v i j
  zero : ∀ i, i ≤ n → G zero i i
  thn : ∀ a b i m j, G a i m → G b m j → i ≤ m → m ≤ j → j ≤ n → G (thn a b) i j
def CG (T : Tb) : Prop := ∀ A x y v, T A x y = some v → x ≤ y ∧ y ≤ n ∧ 0 ≤ A ∧ A < (N : Int) ∧ G v x y ∧ DrG leaf em n K ⟨false, A⟩ x y v
def VO (V : Sym → Nat → Nat → Option Val) : Prop := (∀ s i j, WfO (V s i j)) ∧ ∀ s i j v, i ≤ j → j ≤ n → V s i j = some v → DrG leaf em n K s i j v ∧ (ok s → G v i j)
def KG : Prop := ∀ r ∈ K, 0 ≤ r.left ∧ r.left < (N : Int) ∧ ∀ s ∈ r.right, ok s
def rvV (V : Sym → Nat → Nat → Option Val) (r : Rule) (i j : Nat) : Option Val := if r.right = [] then em i j else lstV V r.right i j
def clV (V : Sym → Nat → Nat → Option Val) (y : Sym) (i j : Nat) : Option Val := if i ≤ j ∧ j ≤ n then V y i j else none
end
section
variable {leaf : Sym → Nat → Nat → Option Val} {em : Nat → Nat → Option Val} {n N : Nat} {K : List Rule} {ok : Sym → Prop} {G : Val → Nat → Nat → Prop}
theorem row_ex {leaf : Sym → Nat → Nat → Option Val} {em : Nat → Nat → Option Val} : ∀ {l : List Sym} {i j : Nat} {v : Val}, Row (fun s i j v => ∃ h, Dr K leaf em h s i j v) l i j v → ∃ h, Row (Dr K leaf em h) l i j v
  | [], _, _, _, h => h.elim
  | [s], _, _, _, ⟨h, hd⟩ => ⟨h, hd⟩
  | s :: t :: l, i, j, v, ⟨m, a, b, h1, h2, ⟨ha, hda⟩, hb, e⟩ => by
    obtain ⟨k, hk⟩ := row_ex hb
    exact ⟨max ha k, m, a, b, h1, h2, dr_le (Nat.le_max_left _ _) hda, hk.mono (fun _ _ _ _ => dr_le (Nat.le_max_right _ _)), e⟩
theorem row_mem {P Q : Sym → Nat → Nat → Val → Prop} : ∀ {l : List Sym} {i j : Nat} {v : Val}, (∀ s ∈ l, ∀ i j v, P s i j v → Q s i j v) → Row P l i j v → Row Q l i j v
  | [], _, _, _, _, h => h.elim
  | [s], _, _, _, hPQ, h => hPQ s (by simp) _ _ _ h
  | s :: t :: l, _, _, _, hPQ, ⟨m, a, b, h1, h2, h3, h4, e⟩ => ⟨m, a, b, h1, h2, hPQ s (by simp) _ _ _ h3, row_mem (fun s hs => hPQ s (by simp [List.mem_cons] at hs ⊢; exact .inr hs)) h4, e⟩
theorem good_row0 (g : GOk leaf em n ok G) {V : Sym → Nat → Nat → Option Val} : ∀ {l : List Sym} {i j : Nat} {v : Val}, j ≤ n → (∀ s ∈ l, ∀ i j v, i ≤ j → j ≤ n → V s i j = some v → G v i j) → Row0 (VP V n) l i j v → i ≤ j ∧ G v i j
  | [], i, j, v, hj, _, h => by obtain ⟨rfl, rfl⟩ := h; exact ⟨Nat.le_refl _, g.zero i hj⟩
  | s :: l, i, j, v, hj, hV, ⟨m, a, b, h1, h2, h3, h4, e⟩ => by
    subst e
    exact ⟨by omega, g.thn a b i m j (hV s (by simp) i m a h3.1 h3.2.1 h3.2.2) (good_row0 g hj (fun s hs => hV s (by simp [hs])) h4).2 h1 h2 hj⟩
theorem good_rv (g : GOk leaf em n ok G) (hK : KG N K ok) {V : Sym → Nat → Nat → Option Val} (hV : VO leaf em n K ok G V) {r : Rule} (hr : r ∈ K) {i j : Nat} (hij : i ≤ j) (hj : j ≤ n) {v : Val} (e : rvV em V r i j = some v) : G v i j ∧ DrG leaf em n K ⟨false, r.left⟩ i j v := by
  obtain ⟨_, _, hrs⟩ := hK r hr
  unfold rvV at e
  by_cases hre : r.right = []
  · rw [if_pos hre] at e
    refine ⟨g.em i j v hij hj e, 1, .inr ⟨rfl, r, hr, rfl, .inl ⟨hre, ?_⟩⟩⟩
    unfold clE
    rw [if_pos ⟨hij, hj⟩]; exact e
  · rw [if_neg hre] at e
    have hb := (best_lstV (V := V) (n := n) hre (fun s _ i j _ _ => hV.1 s i j) hij hj).2
    rw [e] at hb
    have hrow := hb.1
    refine ⟨(good_row0 g hj (fun s hs i j v h1 h2 h3 => (hV.2 s i j v h1 h2 h3).2 (hrs s hs)) hrow).2, ?_⟩
    have h2 := (row_row0 (vp_ok (fun s i j _ _ => hV.1 s i j)) hre).2 hrow
    have h3 : Row (fun s i j v => ∃ k, Dr K (clL leaf n) (clE em n) k s i j v) r.right i j v := row_mem (fun s hs i j v hp => (hV.2 s i j v hp.1 hp.2.1 hp.2.2).1) h2
    obtain ⟨k, hk⟩ := row_ex h3
    exact ⟨k + 1, .inr ⟨rfl, r, hr, rfl, .inr hk⟩⟩
theorem cg_upd (hK : KG N K ok) {T : Tb} (h : CG leaf em n N K G T) {r : Rule} (hr : r ∈ K) {i j : Nat} (hij : i ≤ j) (hj : j ≤ n) {v : Val} (hg : G v i j ∧ DrG leaf em n K ⟨false, r.left⟩ i j v) : CG leaf em n N K G (upd T r.left i j (some v)) := by
  intro A x y u e
  unfold upd at e
  split at e
  · rename_i e2
    obtain ⟨rfl, rfl, rfl⟩ := e2
    cases e
    obtain ⟨h1, h2, _⟩ := hK r hr
    exact ⟨hij, hj, h1, h2, hg⟩
  · exact h A x y u e
theorem cg_none : CG leaf em n N K G (fun _ _ _ => none) := fun A x y v e => by cases e
theorem cg_wf (g : GOk leaf em n ok G) {T : Tb} (h : CG leaf em n N K G T) (A : Int) (x y : Nat) : WfO (T A x y) := fun v e => g.wf v x y (h A x y v e).2.2.2.2.1
theorem of_none {T : Tb} {s : Sym} {i j : Nat} (h : leaf s i j = none) : ofT leaf T s i j = if s.term then none else T s.n i j := by
  unfold ofT
  rw [h]
  cases s.term with
  | true => simp
  | false =>
    cases e : T s.n i j with
    | none => simp
    | some v => simp [lessB, lessX]
theorem of_cases {T : Tb} {s : Sym} {i j : Nat} : ofT leaf T s i j = leaf s i j ∨ (s.term = false ∧ ofT leaf T s i j = T s.n i j) := by
  unfold ofT
  by_cases h : (!s.term && lessB (T s.n i j) (leaf s i j)) = true
  · rw [if_pos h]
    simp at h
    exact .inr ⟨h.1, rfl⟩
  · rw [if_neg h]; exact .inl rfl
theorem of_wf (g : GOk leaf em n ok G) {T : Tb} (h : ∀ A x y, WfO (T A x y)) (s : Sym) (i j : Nat) : WfO (ofT leaf T s i j) := by
  rcases of_cases (leaf := leaf) (T := T) (s := s) (i := i) (j := j) with e | ⟨_, e⟩
  · rw [e]; exact g.lwf s i j
  · rw [e]; exact h _ _ _
theorem of_vo (g : GOk leaf em n ok G) {T : Tb} (h : CG leaf em n N K G T) : VO leaf em n K ok G (ofT leaf T) := by
  refine ⟨of_wf g (cg_wf g h), fun s i j v hij hj e => ?_⟩
  rcases of_cases (leaf := leaf) (T := T) (s := s) (i := i) (j := j) with e2 | ⟨ht, e2⟩
  · rw [e2] at e
    refine ⟨⟨0, ?_⟩, fun hs => g.leaf s i j v hs hij hj e⟩
    show clL leaf n s i j = some v
    unfold clL
    rw [if_pos ⟨hij, hj⟩]; exact e
  · rw [e2] at e
    obtain ⟨_, _, _, _, h5, h6⟩ := h _ _ _ _ e
    have : s = ⟨false, s.n⟩ := by obtain ⟨a, b⟩ := s; simp at ht; rw [ht]
    rw [this]
    exact ⟨h6, fun _ => h5⟩
theorem planG (g : GOk leaf em n ok G) (hK : KG N K ok) (M : Nat) (U : List Val) (J : Tb → Prop) (hJ0 : J (fun _ _ _ => none))
    (hJ : ∀ T r i j v, r ∈ K → i ≤ j → j ≤ n → CG leaf em n N K G T → J T → rvT leaf em T r i j = some v → lessB (some v) (T r.left i j) = true → J (upd T r.left i j (some v)))
    (hU : ∀ T A x y v, CG leaf em n N K G T → J T → T A x y = some v → v ∈ U)
    (hM : ∀ T, CG leaf em n N K G T → J T → ∀ s, ok s → ∀ i j, i ≤ j → j ≤ n → oC (ofT leaf T s i j) ≤ M ∧ oN (ofT leaf T s i j) ≤ M) :
    Plan K leaf em n ok M (fun _ _ _ T => CG leaf em n N K G T ∧ J T) (muU U N n) := by
  refine ⟨⟨cg_none, hJ0⟩, fun _ _ _ _ _ _ _ _ h _ => h, ?_, fun _ _ _ _ h => h, fun _ _ h => h, fun _ h => h, ?_⟩
  · rintro a i j T r hr hij hj ⟨h1, h2⟩ hb
    have hrm : r ∈ K := List.mem_of_getElem? hr
    unfold better at hb
    obtain ⟨v, hv⟩ := lessB_some hb
    rw [hv] at hb ⊢
    have hg := good_rv g hK (of_vo g h1) hrm hij hj (show rvV em (ofT leaf T) r i j = some v from hv)
    have hc := cg_upd hK h1 hrm hij hj hg
    have hj' := hJ T r i j v hrm hij hj h1 h2 hv hb
    obtain ⟨q1, q2, _⟩ := hK r hrm
    refine ⟨⟨hc, hj'⟩, ?_⟩
    have hvU : v ∈ U := hU _ r.left i j v hc hj' (by unfold upd; rw [if_pos ⟨rfl, rfl, rfl⟩])
    have hl : ((r.left.toNat : Nat) : Int) = r.left := by omega
    have := mu_upd (U := U) (N := N) (n := n) (a := r.left.toNat) (i := i) (j := j) (T := T) (v := v) (by omega) (by omega) hj hvU (g.wf v i j hg.1) (cg_wf g h1 _ _ _) (by rw [hl]; exact hb)
    rw [hl] at this
    exact this
  · rintro a i j T ⟨h1, h2⟩ s hs i' j' h3 h4
    exact ⟨of_wf g (cg_wf g h1) s i' j', (hM T h1 h2 s hs i' j' h3 h4).1, (hM T h1 h2 s hs i' j' h3 h4).2⟩
theorem row_bnd {V : Sym → Nat → Nat → Option Val} : ∀ {l : List Sym} {i j : Nat} {v : Val}, Row (VP V n) l i j v → i ≤ j ∧ j ≤ n
  | [], _, _, _, h => h.elim
  | [s], i, j, v, h => ⟨h.1, h.2.1⟩
  | s :: t :: l, i, j, v, ⟨m, a, b, h1, h2, h3, h4, _⟩ => ⟨by omega, (row_bnd h4).2⟩
theorem cl_vp {V : Sym → Nat → Nat → Option Val} {s : Sym} {i j : Nat} {v : Val} : clV n V s i j = some v ↔ VP V n s i j v := by
  unfold clV VP
  by_cases h : i ≤ j ∧ j ≤ n
  · rw [if_pos h]; exact ⟨fun e => ⟨h.1, h.2, e⟩, fun e => e.2.2⟩
  · rw [if_neg h]; exact ⟨fun e => (by cases e), fun e => absurd ⟨e.1, e.2.1⟩ h⟩
theorem cl_sound {V : Sym → Nat → Nat → Option Val} (hV : VO leaf em n K ok G V) : Sound K (clL leaf n) (clE em n) (clV n V) := by
  intro y i j v e
  obtain ⟨h1, h2, h3⟩ := cl_vp.1 e
  exact ⟨hV.1 _ _ _ _ h3, (hV.2 y i j v h1 h2 h3).1⟩
theorem cl_closed (g : GOk leaf em n ok G) {V : Sym → Nat → Nat → Option Val} (hw : ∀ s i j, WfO (V s i j)) (hl : ∀ y i j v, i ≤ j → j ≤ n → leaf y i j = some v → ∃ u, V y i j = some u ∧ le u v) (hr : ∀ r ∈ K, ∀ i j v, i ≤ j → j ≤ n → rvV em V r i j = some v → ∃ u, V ⟨false, r.left⟩ i j = some u ∧ le u v) :
    Closed K (clL leaf n) (clE em n) (clV n V) := by
  have cl : ∀ {y i j v u}, i ≤ j → j ≤ n → V y i j = some u → le u v → ∃ u, clV n V y i j = some u ∧ le u v := fun {y i j v u} h1 h2 h3 h4 => ⟨u, cl_vp.2 ⟨h1, h2, h3⟩, h4⟩
  refine ⟨fun y i j v e => ?_, fun r hrm hre i j v e => ?_, fun r hrm i j v hrow => ?_⟩
  · unfold clL at e
    split at e
    · rename_i h
      obtain ⟨u, h1, h2⟩ := hl y i j v h.1 h.2 e
      exact cl h.1 h.2 h1 h2
    · cases e
  · unfold clE at e
    split at e
    · rename_i h
      obtain ⟨u, h1, h2⟩ := hr r hrm i j v h.1 h.2 (by unfold rvV; rw [if_pos hre]; exact e)
      exact cl h.1 h.2 h1 h2
    · cases e
  · have hre : r.right ≠ [] := fun e => by rw [e] at hrow; exact hrow.elim
    have hrow2 : Row (VP V n) r.right i j v := hrow.mono (fun s i j v e => cl_vp.1 e)
    obtain ⟨hij, hj⟩ := row_bnd hrow2
    have hbest := best_lstV (V := V) (n := n) hre (fun s _ i j _ _ => hw s i j) hij hj
    have hr0 := (row_row0 (vp_ok (fun s i j _ _ => hw s i j)) hre).1 hrow2
    cases e : lstV V r.right i j with
    | none =>
      rw [e] at hbest
      exact absurd hr0 (hbest.2 v)
    | some b =>
      rw [e] at hbest
      obtain ⟨u, h1, h2⟩ := hr r hrm i j b hij hj (by unfold rvV; rw [if_neg hre]; exact e)
      exact cl hij hj h1 (le_trans h2 (hbest.2.2 v hr0))
theorem not_better {o : Option Val} (hw : WfO o) {b : Val} (hwb : Wf b) (hb : lessB (some b) o = false) : ∃ u, o = some u ∧ le u b := by
  cases o with
  | none => cases hb
  | some u =>
    refine ⟨u, rfl, le_of_not (fun hlt => ?_)⟩
    have := (less_some hwb (hw _ rfl)).2 hlt
    rw [this] at hb
    cases hb
theorem of_le (g : GOk leaf em n ok G) {T : Tb} (hw : ∀ A x y, WfO (T A x y)) {A : Int} {i j : Nat} {u : Val} (e : T A i j = some u) : ∃ x, ofT leaf T ⟨false, A⟩ i j = some x ∧ le x u := by
  unfold ofT
  by_cases h : (!(⟨false, A⟩ : Sym).term && lessB (T A i j) (leaf ⟨false, A⟩ i j)) = true
  · rw [if_pos h]; exact ⟨u, e, le_refl _⟩
  · rw [if_neg h]
    simp only [Bool.not_false, Bool.true_and, Bool.not_eq_true] at h
    rw [e] at h
    exact not_better (g.lwf _ _ _) (hw _ _ _ _ e) h
theorem of_leaf_le (g : GOk leaf em n ok G) {T : Tb} (hw : ∀ A x y, WfO (T A x y)) {y : Sym} {i j : Nat} {v : Val} (e : leaf y i j = some v) : ∃ x, ofT leaf T y i j = some x ∧ le x v := by
  unfold ofT
  by_cases h : (!y.term && lessB (T y.n i j) (leaf y i j)) = true
  · rw [if_pos h]
    simp at h
    obtain ⟨u, hu⟩ := lessB_some h.2
    rw [hu, e] at h
    exact ⟨u, hu, .inr ((less_some (hw _ _ _ _ hu) (g.lwf _ _ _ _ e)).1 h.2)⟩
  · rw [if_neg h]; exact ⟨v, e, le_refl _⟩
theorem rv_wf (g : GOk leaf em n ok G) {V : Sym → Nat → Nat → Option Val} (hw : ∀ s i j, WfO (V s i j)) (r : Rule) {i j : Nat} (hij : i ≤ j) (hj : j ≤ n) : WfO (rvV em V r i j) := by
  unfold rvV
  by_cases hre : r.right = []
  · rw [if_pos hre]; exact g.ewf i j
  · rw [if_neg hre]
    exact (best_lstV (V := V) (n := n) hre (fun s _ i j _ _ => hw s i j) hij hj).1
theorem closed_of (g : GOk leaf em n ok G) {T : Tb} (hw : ∀ A x y, WfO (T A x y)) (hcl : ClosedT K leaf em n T) : Closed K (clL leaf n) (clE em n) (clV n (ofT leaf T)) := by
  refine cl_closed g (of_wf g hw) (fun y i j v _ _ e => of_leaf_le g hw e) (fun r hr i j v hij hj e => ?_)
  have hb := hcl r hr i j hij hj
  unfold better at hb
  rw [show rvT leaf em T r i j = some v from e] at hb
  obtain ⟨u, h1, h2⟩ := not_better (hw _ _ _) (rv_wf g (of_wf g hw) r hij hj v e) hb
  obtain ⟨x, h3, h4⟩ := of_le g hw h1
  exact ⟨x, h3, le_trans h4 h2⟩
theorem one_table (g : GOk leaf em n ok G) {V V' : Sym → Nat → Nat → Option Val} (hV : VO leaf em n K ok G V) (hc : Closed K (clL leaf n) (clE em n) (clV n V)) (hV' : VO leaf em n K ok G V') (hc' : Closed K (clL leaf n) (clE em n) (clV n V')) (y : Sym) {i j : Nat} (hij : i ≤ j) (hj : j ≤ n) : V y i j = V' y i j := by
  have := table_one (K := K) (leaf := clL leaf n) (em := clE em n) (V := clV n V) (V' := clV n V') (fun y i j v e => ?_) (fun i j v e => ?_) (cl_sound hV) hc (cl_sound hV') hc' y i j
  · unfold clV at this
    rw [if_pos ⟨hij, hj⟩, if_pos ⟨hij, hj⟩] at this
    exact this
  · unfold clL at e
    split at e
    · exact g.lwf _ _ _ v e
    · cases e
  · unfold clE at e
    split at e
    · exact g.ewf _ _ v e
    · cases e
end
end Hl
end Go.Proofs.Ytjpmebppdcclbaa
namespace Go.Proofs.Ytjpmebppdcclbaa
namespace Hl
open Rp
abbrev RVT := Tb → Rule → Nat → Nat → Option Val
def betG (RV : RVT) (T : Tb) (r : Rule) (i j : Nat) : Bool := lessB (RV T r i j) (T r.left i j)
def rowG (RV : RVT) (T : Tb) (r : Rule) (i j : Nat) : Tb := fun A x y => if A = r.left ∧ x = i ∧ y < j ∧ betG RV T r i y = true then RV T r i y else T A x y
theorem rowG_zero (RV : RVT) (T : Tb) (r : Rule) (i : Nat) : rowG RV T r i 0 = T := by
  funext A x y
  unfold rowG
  rw [if_neg (fun h => by omega)]
theorem rowG_no {RV : RVT} {T : Tb} {r : Rule} {i j : Nat} (h : betG RV T r i j = false) : rowG RV T r i (j + 1) = rowG RV T r i j := by
  funext A x y
  unfold rowG
  by_cases e : A = r.left ∧ x = i ∧ y < j ∧ betG RV T r i y = true
  · rw [if_pos e, if_pos ⟨e.1, e.2.1, by omega, e.2.2.2⟩]
  · rw [if_neg e, if_neg (fun h' => e ⟨h'.1, h'.2.1, by
      rcases Nat.lt_or_ge y j with h1 | h1
      · exact h1
      · have : y = j := by omega
        rw [this, h] at h'
        simp at h', h'.2.2.2⟩)]
structure PlanR (K : List Rule) (RV : RVT) (n : Nat) (Inv : Tb → Prop) (mu : Tb → Nat) : Prop where
  step : ∀ T r i, r ∈ K → i ≤ n → Inv T → Inv (rowG RV T r i (n + 1))
  dec : ∀ T r i j, r ∈ K → i ≤ n → j ≤ n → Inv T → betG RV T r i j = true → mu (rowG RV T r i (j + 1)) < mu (rowG RV T r i j)
section
variable {K : List Rule} {RV : RVT} {n : Nat} {Inv : Tb → Prop} {mu : Tb → Nat}
def DnG (K : List Rule) (RV : RVT) (n a i : Nat) (T : Tb) : Prop := ∀ a' r i' j', K[a']? = some r → i' ≤ n → j' ≤ n → (a' < a ∨ (a' = a ∧ i' < i)) → betG RV T r i' j' = false
structure StG (K : List Rule) (RV : RVT) (n : Nat) (Inv : Tb → Prop) (mu : Tb → Nat) (m0 a i : Nat) (b : Bool) (T : Tb) : Prop where
  inv : Inv T
  le : mu T ≤ m0
  lt : b = true → mu T < m0
  dn : b = false → DnG K RV n a i T
structure SrG (K : List Rule) (RV : RVT) (n : Nat) (Inv : Tb → Prop) (mu : Tb → Nat) (m0 a i : Nat) (T : Tb) (r : Rule) (j : Nat) (b : Bool) : Prop where
  inv : Inv T
  le : mu (rowG RV T r i j) ≤ m0
  lt : b = true → mu (rowG RV T r i j) < m0
  dn : b = false → DnG K RV n a i T ∧ ∀ y, y < j → betG RV T r i y = false
variable {m0 a i j : Nat} {b : Bool} {T : Tb} {r : Rule}
theorem SrG.begin (h : StG K RV n Inv mu m0 a i b T) (r : Rule) : SrG K RV n Inv mu m0 a i T r 0 b :=
  ⟨h.inv, by rw [rowG_zero]; exact h.le, fun e => by rw [rowG_zero]; exact h.lt e, fun e => ⟨h.dn e, fun y hy => by omega⟩⟩
theorem SrG.no (h : SrG K RV n Inv mu m0 a i T r j b) (hb : betG RV T r i j = false) : SrG K RV n Inv mu m0 a i T r (j + 1) b := by
  refine ⟨h.inv, by rw [rowG_no hb]; exact h.le, fun e => by rw [rowG_no hb]; exact h.lt e, fun e => ⟨(h.dn e).1, fun y hy => ?_⟩⟩
  rcases Nat.lt_or_ge y j with h1 | h1
  · exact (h.dn e).2 y h1
  · rw [show y = j by omega]; exact hb
theorem SrG.yes (P : PlanR K RV n Inv mu) (hr : K[a]? = some r) (hi : i ≤ n) (hj : j ≤ n) (h : SrG K RV n Inv mu m0 a i T r j b) (hb : betG RV T r i j = true) : SrG K RV n Inv mu m0 a i T r (j + 1) true := by
  have h1 := P.dec T r i j (List.mem_of_getElem? hr) hi hj h.inv hb
  have h2 := h.le
  exact ⟨h.inv, by omega, fun _ => by omega, fun e => (by cases e)⟩
theorem SrG.done (P : PlanR K RV n Inv mu) (hr : K[a]? = some r) (hi : i ≤ n) (h : SrG K RV n Inv mu m0 a i T r (n + 1) b) : StG K RV n Inv mu m0 a (i + 1) b (rowG RV T r i (n + 1)) := by
  refine ⟨P.step T r i (List.mem_of_getElem? hr) hi h.inv, h.le, h.lt, fun e => ?_⟩
  obtain ⟨h1, h2⟩ := h.dn e
  have e1 : rowG RV T r i (n + 1) = T := by
    funext A x y
    unfold rowG
    rw [if_neg (fun h' => by rw [h2 y h'.2.2.1] at h'; simp at h')]
  rw [e1]
  intro a' r' i' j' h3 h4 h5 h6
  by_cases e2 : a' = a ∧ i' = i
  · obtain ⟨rfl, rfl⟩ := e2
    rw [hr] at h3
    cases h3
    exact h2 j' (by omega)
  · exact h1 a' r' i' j' h3 h4 h5 (by omega)
theorem StG.rule (h : StG K RV n Inv mu m0 a (n + 1) b T) : StG K RV n Inv mu m0 (a + 1) 0 b T :=
  ⟨h.inv, h.le, h.lt, fun e a' r' i' j' h1 h2 h3 h4 => h.dn e a' r' i' j' h1 h2 h3 (by omega)⟩
theorem StG.begin (h : Inv T) : StG K RV n Inv mu (mu T) 0 0 false T :=
  ⟨h, Nat.le_refl _, fun e => (by cases e), fun _ a' r' i' j' h1 h2 h3 h4 => by omega⟩
theorem StG.again (h : StG K RV n Inv mu m0 K.length 0 b T) : Inv T := h.inv
def ClosedG (K : List Rule) (RV : RVT) (n : Nat) (T : Tb) : Prop := ∀ r ∈ K, ∀ i j, i ≤ n → j ≤ n → betG RV T r i j = false
theorem StG.closed (h : StG K RV n Inv mu m0 K.length 0 false T) : ClosedG K RV n T := by
  intro r hr i j h1 h2
  obtain ⟨a, ha, e⟩ := List.mem_iff_getElem.1 hr
  exact h.dn rfl a r i j (by rw [List.getElem?_eq_getElem ha, e]) h1 h2 (.inl ha)
end
def emH (i j : Nat) : Option Val := if i = j then some zero else none
theorem wf_emH (i j : Nat) : WfO (emH i j) := by
  intro v e
  unfold emH at e
  split at e
  · cases e; exact wf_zero
  · cases e
section
variable {leaf : Sym → Nat → Nat → Option Val} {n N : Nat} {K : List Rule} {ok : Sym → Prop} {G : Val → Nat → Nat → Prop}
end
end Hl
end Go.Proofs.Ytjpmebppdcclbaa
namespace Go.Proofs.Ytjpmebppdcclbaa
namespace Hl
open Rp
section
variable (leaf : Sym → Nat → Nat → Option Val) (em : Nat → Nat → Option Val) (n : Nat) (K : List Rule) (ok : Sym → Prop) (G : Val → Nat → Nat → Prop)
noncomputable def oneV (y : Sym) (i j : Nat) : Option Val :=
  @dite _ (∃ V, VO leaf em n K ok G V ∧ Closed K (clL leaf n) (clE em n) (clV n V)) (Classical.propDecidable _) (fun h => h.choose y i j) (fun _ => none)
end
section
variable {leaf : Sym → Nat → Nat → Option Val} {em : Nat → Nat → Option Val} {n : Nat} {K : List Rule} {ok : Sym → Prop} {G : Val → Nat → Nat → Prop}
theorem oneV_eq (g : GOk leaf em n ok G) {V : Sym → Nat → Nat → Option Val} (hV : VO leaf em n K ok G V) (hc : Closed K (clL leaf n) (clE em n) (clV n V)) (y : Sym) {i j : Nat} (hij : i ≤ j) (hj : j ≤ n) : V y i j = oneV leaf em n K ok G y i j := by
  have hex : ∃ V, VO leaf em n K ok G V ∧ Closed K (clL leaf n) (clE em n) (clV n V) := ⟨V, hV, hc⟩
  unfold oneV
  rw [dif_pos hex]
  exact one_table g hV hc hex.choose_spec.1 hex.choose_spec.2 y hij hj
end
def okS (N tm : Nat) (s : Sym) : Prop := 0 ≤ s.n ∧ (s.term = true → s.n < (tm : Int)) ∧ (s.term = false → s.n < (N : Int))
def ltrs (tm : Nat) (v : Val) : Prop := ∀ t ∈ v.w, 0 ≤ t ∧ t < (tm : Int)
theorem ltrs_thn {tm : Nat} {a b : Val} (ha : ltrs tm a) (hb : ltrs tm b) : ltrs tm (thn a b) := by
  unfold ltrs
  rw [thn_w]
  split
  · intro t ht
    rcases List.mem_append.1 ht with ht | ht
    · exact ha t ht
    · exact hb t ht
  · intro t ht; cases ht
/-! Shortest -/
def leafS (y : Sym) (_ _ : Nat) : Option Val := if y.term then some ⟨0, 1, [y.n]⟩ else none
def emS (_ _ : Nat) : Option Val := some zero
def GS (tm : Nat) (v : Val) (_ _ : Nat) : Prop := Wf v ∧ v.c = 0 ∧ ltrs tm v
theorem wf_leafS {y : Sym} {i j : Nat} : WfO (leafS y i j) := by
  intro v e
  unfold leafS at e
  split at e
  · cases e; exact .inl ⟨by simp [maxL], rfl⟩
  · cases e
theorem gokS (N tm : Nat) : GOk leafS emS 0 (okS N tm) (GS tm) := by
  refine ⟨fun v _ _ h => h.1, fun _ _ _ => wf_leafS, fun _ _ v e => by cases e; exact wf_zero, fun y i j v hy _ _ e => ?_, fun i j v _ _ e => ?_, fun i _ => ⟨wf_zero, rfl, fun t ht => (by cases ht)⟩, fun a b i m j ha hb _ _ _ => ⟨wf_thn ha.1 hb.1, ?_, ltrs_thn ha.2.2 hb.2.2⟩⟩
  · have hw := wf_leafS v e
    unfold leafS at e
    split at e
    · rename_i ht
      cases e
      refine ⟨hw, rfl, fun t h => ?_⟩
      simp at h
      subst h
      exact ⟨hy.1, hy.2.1 ht⟩
    · cases e
  · cases e; exact ⟨wf_zero, rfl, fun t ht => by cases ht⟩
  · show a.c + b.c = 0
    rw [ha.2.1, hb.2.1]
noncomputable def svOf (K : List Rule) (N tm : Nat) (y : Sym) : Option Val := oneV leafS emS 0 K (okS N tm) (GS tm) y 0 0
def JS (N : Nat) (T : Tb) : Prop := ∃ F : List Nat, F.Nodup ∧ (∀ a ∈ F, a < N) ∧ ∀ a, a < N → (a ∈ F → ∃ v, T (a : Int) 0 0 = some v ∧ v.n ≤ 4 ^ F.length) ∧ (a ∉ F → T (a : Int) 0 0 = none)
theorem fl_le {N : Nat} {F : List Nat} (h1 : F.Nodup) (h2 : ∀ a ∈ F, a < N) : F.length ≤ N := by
  have := Al.nodup_le F (List.range N) h1 (fun x hx => by simpa using h2 x hx)
  simpa using this
section
variable {N tm : Nat} {K : List Rule}
theorem of_S {T : Tb} {s : Sym} {i j : Nat} : ofT leafS T s i j = if s.term then some ⟨0, 1, [s.n]⟩ else T s.n i j := by
  cases ht : s.term with
  | true =>
    unfold ofT leafS
    rw [ht]; simp
  | false =>
    rw [of_none (by unfold leafS; rw [ht]; simp), ht]; simp
theorem js_bd {T : Tb} (h : CG leafS emS 0 N K (GS tm) T) {F : List Nat} (hF : ∀ a, a < N → (a ∈ F → ∃ v, T (a : Int) 0 0 = some v ∧ v.n ≤ 4 ^ F.length) ∧ (a ∉ F → T (a : Int) 0 0 = none)) (s : Sym) : Bd (4 ^ F.length) (ofT leafS T s 0 0) := by
  have h1 : 1 ≤ 4 ^ F.length := Nat.one_le_pow _ _ (by decide)
  refine ⟨of_wf (gokS N tm) (cg_wf (gokS N tm) h) s 0 0, ?_, ?_⟩
  all_goals
    rw [of_S]
    by_cases ht : s.term = true
    · rw [if_pos ht]
      first
        | exact Nat.zero_le _
        | exact h1
    · rw [if_neg ht]
      cases e : T s.n 0 0 with
      | none => exact Nat.zero_le _
      | some v =>
        obtain ⟨_, _, q1, q2, q3, _⟩ := h _ _ _ _ e
        obtain ⟨q4, q5⟩ := hF s.n.toNat (by omega)
        rw [show ((s.n.toNat : Nat) : Int) = s.n by omega] at q4 q5
        by_cases hm : s.n.toNat ∈ F
        · obtain ⟨u, h3, h4⟩ := q4 hm
          rw [e] at h3
          cases h3
          first
            | (show v.c ≤ _; have := q3.2.1; omega)
            | exact h4
        · rw [q5 hm] at e; cases e
theorem pow10 {m : Nat} (h : m ≤ 10) : 4 ^ m ≤ 1048576 := Nat.le_trans (Nat.pow_le_pow_right (by decide) h) (by decide)
theorem js_le {T : Tb} (hN : N ≤ 10) (h : CG leafS emS 0 N K (GS tm) T) (hJ : JS N T) (s : Sym) : oC (ofT leafS T s 0 0) ≤ 1048576 ∧ oN (ofT leafS T s 0 0) ≤ 1048576 := by
  obtain ⟨F, h1, h2, h3⟩ := hJ
  have := js_bd h h3 s
  have h4 := pow10 (m := F.length) (Nat.le_trans (fl_le h1 h2) hN)
  exact ⟨Nat.le_trans this.2.1 h4, Nat.le_trans this.2.2 h4⟩
theorem js_upd {T : Tb} {r : Rule} {v : Val} (hK : KG N K (okS N tm)) (hr4 : ∀ r ∈ K, r.right.length ≤ 4) (hr : r ∈ K) (h : CG leafS emS 0 N K (GS tm) T) (hJ : JS N T) (e : rvT leafS emS T r 0 0 = some v) (hb : lessB (some v) (T r.left 0 0) = true) : JS N (upd T r.left 0 0 (some v)) := by
  obtain ⟨F, h1, h2, h3⟩ := hJ
  obtain ⟨q1, q2, q3⟩ := hK r hr
  have hl : ((r.left.toNat : Nat) : Int) = r.left := by omega
  have hg := (good_rv (gokS N tm) hK (of_vo (gokS N tm) h) hr (Nat.le_refl 0) (Nat.le_refl 0) (show rvV emS (ofT leafS T) r 0 0 = some v from e)).1
  have hother : ∀ a : Nat, a ≠ r.left.toNat → upd T r.left 0 0 (some v) (a : Int) 0 0 = T (a : Int) 0 0 := fun a ha => by
    unfold upd
    rw [if_neg (fun h => ha (by omega))]
  have hself : upd T r.left 0 0 (some v) (r.left.toNat : Int) 0 0 = some v := by
    unfold upd
    rw [if_pos ⟨hl, rfl, rfl⟩]
  by_cases hm : r.left.toNat ∈ F
  · refine ⟨F, h1, h2, fun a ha => ?_⟩
    by_cases ea : a = r.left.toNat
    · subst ea
      obtain ⟨u, h4, h5⟩ := (h3 _ ha).1 hm
      refine ⟨fun _ => ⟨v, hself, ?_⟩, fun h => absurd hm h⟩
      rw [hl] at h4
      rw [h4] at hb
      have hu := (h _ _ _ _ h4).2.2.2.2.1
      have hlt := (less_some hg.1 hu.1).1 hb
      rw [lt_iff, hg.2.1, hu.2.1] at hlt
      omega
    · rw [hother a ea]; exact h3 a ha
  · have hlen : v.n ≤ 4 * 4 ^ F.length := by
      unfold rvT at e
      by_cases hre : r.right = []
      · rw [if_pos hre] at e; cases e; exact Nat.zero_le _
      · rw [if_neg hre] at e
        have := bd_lst (V := ofT leafS T) (M := 4 ^ F.length) (N := 0) (l := r.right) (i := 0) (j := 0) (fun s _ i j a1 a2 => by
          obtain rfl : j = 0 := by omega
          obtain rfl : i = 0 := by omega
          exact js_bd h h3 s) (Nat.le_refl _) (Nat.le_refl _)
        rw [e] at this
        exact Nat.le_trans this.2.2 (Nat.mul_le_mul_right _ (hr4 r hr))
    refine ⟨r.left.toNat :: F, List.nodup_cons.2 ⟨hm, h1⟩, fun a ha => ?_, fun a ha => ?_⟩
    · rcases List.mem_cons.1 ha with rfl | ha
      · omega
      · exact h2 a ha
    · have hp : 4 ^ (r.left.toNat :: F).length = 4 * 4 ^ F.length := by rw [List.length_cons, Nat.pow_succ]; omega
      rw [hp]
      by_cases ea : a = r.left.toNat
      · subst ea
        exact ⟨fun _ => ⟨v, hself, hlen⟩, fun h => absurd (by simp) h⟩
      · rw [hother a ea]
        refine ⟨fun hh => ?_, fun hh => (h3 a ha).2 (fun h => hh (by simp [h]))⟩
        have : a ∈ F := by
          rcases List.mem_cons.1 hh with h | h
          · exact absurd h ea
          · exact h
        obtain ⟨u, h4, h5⟩ := (h3 a ha).1 this
        exact ⟨u, h4, by omega⟩
theorem planSh (hN : N ≤ 10) (hK : KG N K (okS N tm)) (hr4 : ∀ r ∈ K, r.right.length ≤ 4) : Plan K leafS emS 0 (okS N tm) 1048576 (fun _ _ _ T => CG leafS emS 0 N K (GS tm) T ∧ JS N T) (muU (valsU tm 0 1048576) N 0) := by
  refine planG (gokS N tm) hK 1048576 (valsU tm 0 1048576) (JS N) ⟨[], List.nodup_nil, fun a h => (by cases h), fun a _ => ⟨fun h => (by cases h), fun _ => rfl⟩⟩ (fun T r i j v hr hij hj h hJ e hb => ?_) (fun T A x y v h hJ e => ?_) (fun T h hJ s _ i j hij hj => ?_)
  · obtain rfl : j = 0 := by omega
    obtain rfl : i = 0 := by omega
    exact js_upd hK hr4 hr h hJ e hb
  · obtain ⟨q1, q2, q3, q4, q5, _⟩ := h A x y v e
    obtain rfl : y = 0 := by omega
    obtain rfl : x = 0 := by omega
    have := (js_le hN h hJ ⟨false, A⟩).2
    rw [of_S] at this
    simp only [Bool.false_eq_true, if_false, e] at this
    exact mem_valsU (by rw [q5.2.1]; exact Nat.le_refl _) this q5.1 q5.2.2
  · obtain rfl : j = 0 := by omega
    obtain rfl : i = 0 := by omega
    exact js_le hN h hJ s
theorem sv_eqT {T : Tb} (h : CG leafS emS 0 N K (GS tm) T) (hcl : ClosedT K leafS emS 0 T) (y : Sym) : ofT leafS T y 0 0 = svOf K N tm y :=
  oneV_eq (gokS N tm) (of_vo (gokS N tm) h) (closed_of (gokS N tm) (cg_wf (gokS N tm) h) hcl) y (Nat.le_refl 0) (Nat.le_refl 0)
end
structure SvOk (N tm B0 : Nat) (sv : Sym → Option Val) : Prop where
  wf : ∀ y, WfO (sv y)
  c0 : ∀ y v, sv y = some v → v.c = 0
  tn : ∀ y, y.term = true → sv y = some ⟨0, 1, [y.n]⟩
  ltr : ∀ y v, okS N tm y → sv y = some v → ltrs tm v
  bd : ∀ y, oN (sv y) ≤ B0
theorem svOk {N tm : Nat} {K : List Rule} (hN : N ≤ 10) {T : Tb} (h : CG leafS emS 0 N K (GS tm) T) (hJ : JS N T) (hcl : ClosedT K leafS emS 0 T) : SvOk N tm 1048576 (svOf K N tm) := by
  have he := fun y => sv_eqT h hcl y
  have hvo := of_vo (gokS N tm) h
  refine ⟨fun y => ?_, fun y v e => ?_, fun y ht => ?_, fun y v hy e => ?_, fun y => ?_⟩
  · rw [← he]; exact hvo.1 y 0 0
  · rw [← he, of_S] at e
    split at e
    · cases e; rfl
    · exact (h _ _ _ _ e).2.2.2.2.1.2.1
  · rw [← he, of_S, if_pos ht]
  · rw [← he] at e
    exact ((hvo.2 y 0 0 v (Nat.le_refl _) (Nat.le_refl _) e).2 hy).2.2
  · rw [← he]; exact (js_le hN h hJ y).2
/-! the cells -/
def fitB (y c : Sym) : Bool := decide (y = c) || (y.term && c.term && decide (c.n = -1))
section
variable (sv : Sym → Option Val) (l : List Sym) (N tm : Nat)
def csz (c : Sym) : Nat := if c.term then 1 else oN (sv c)
def S0 : Nat → Nat
  | 0 => 0
  | k + 1 => S0 k + if k < l.length then csz sv (l.getD k ⟨true, 0⟩) else 0
def cellOk (c : Sym) : Prop := (c.term = true → c.n < (tm : Int)) ∧ (c.term = false → 0 ≤ c.n ∧ c.n < (N : Int))
end
section
variable {sv : Sym → Option Val} {l : List Sym} {N tm B0 : Nat} {K : List Rule}
end
end Hl
end Go.Proofs.Ytjpmebppdcclbaa
