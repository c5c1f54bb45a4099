/- writer.write in one line. -/
import Derived.Test.YtgpikophndbmeaaDocDocs
import Derived.Test.YtgpikophndbmeaaDocSound
import Derived.Test.YtgpikophndbmeaaDocFlat
import Derived.Test.YtgpikophndbmeaaRegA
import Derived.Test.YtgpikophndbmeaaRegT
import Derived.Lib.AppendStr
import Derived.RegionTactic
import Derived.BigRegion
import Derived.Deep.RegionLaw
namespace Go.Proofs.Ytgpikophndbmeaa
open Go.RowKit
namespace Dc

theorem elByte : ElemT Try.prog 41 5 1 1 := ElemT.mk' (z := .int .u8 0) Try.underlying41 (by kernel_rfl) rfl (by decide)
def bytesV (l : List UInt8) : List Value := l.map fun b => Value.int .u8 b.toNat
theorem step_appStr {ops : Array Oper} {o : Oper} {a : Act} {K : Act → World → Prop} {Q : Exit → Act → World → Prop} {E' : Prop} {w : World} (hgd : o.guard = none) (sl x : Operand)
    (ho : o.op = .call { callee := .builtin .append, args := #[sl, x], argTypes := #[41, 9] }) {B : Nat} {v : Value} {n : Nat} {xs : List Value} (hs : a.eval sl = v) (hown : w.ownsRow B 5 1 v n xs) {s : ByteArray} (hx : a.eval x = .string s)
    (hm : n + s.size ≤ 140737488355328) (hB : B ≤ w.heap.size)
    (h : ∀ v' w', w'.ownsRow B 5 1 v' (n + s.size) (xs ++ Lib.strCells s) → w.grownBy w' v.ownBlock → K (a.put o.dst v') w') :
    if Region.wanted o (yielded ops a.tmps) = true then Oper.wp Try.prog o a w K Q else E' := by
  have hw : Region.wanted o (yielded ops a.tmps) = true := by simp [Region.wanted, hgd]
  rw [if_pos hw]
  obtain ⟨hu, ⟨i, z, hi, hz, hsz, hby, hzs⟩, hp⟩ := elByte
  have hz' : z = .int .u8 0 := by
    have h1 : (Try.prog.info? 5).map (fun i => i.zero) = some (some (.int .u8 0)) := by kernel_rfl
    rw [hi] at h1
    simp [hz] at h1
    exact h1
  subst hz'
  obtain ⟨v', w', hr, h2, h3, h4⟩ := Lib.run_append_own_string (P := Try.prog) w B 41 9 o.type 5 i hu Try.underlying9 hi hz hsz hby v n xs hown s (by unfold maxLen; omega) hm hB
  unfold Oper.wp execOp
  simp only [ho, resolve, invoke, builtin, Sem.run_bind, Sem.run_pure, Result.andThen_ok, List.map_toArray, List.map_cons, List.map_nil, hs, hx, hr]
  exact h v' w' h2 h3

/-- the writer, in the block wb: l: what it has written, in a row of blocks from B on -/
structure WrI (w0 : World) (wb B : Nat) (l : List UInt8) (vo : Value) (W : World) : Prop where
  box : W.heap[wb]? = some (.cells #[.slice none 0 0, .int .i64 0, vo, .bool false] 50 (0, 0))
  own : W.ownsRow B 5 1 vo l.length (bytesV l)
  bel : Below w0.heap.size w0 W
  lt : w0.heap.size ≤ wb ∧ wb < B ∧ B ≤ W.heap.size
section
variable {w0 : World} {wb B : Nat} {l m : List UInt8} {vo v' : Value} {W W' : World}
theorem WrI.keep (h : WrI w0 wb B l vo W) (hb : Below W.heap.size W W') : WrI w0 wb B l vo W' :=
  ⟨bx_keep h.box hb, own_keep h.own hb, h.bel.trans (hb.mono h.bel.size), h.lt.1, h.lt.2.1, Nat.le_trans h.lt.2.2 hb.size⟩
/-- behind an append, and the store -/
theorem WrI.step (h : WrI w0 wb B l vo W) (ho : W'.ownsRow B 5 1 v' (l.length + m.length) (bytesV l ++ bytesV m)) (hg : W.grownBy W' vo.ownBlock) :
    W'.heap[wb]? = some (.cells #[.slice none 0 0, .int .i64 0, vo, .bool false] 50 (0, 0)) ∧ WrI w0 wb B (l ++ m) v' (W'.setCell ⟨wb, 2, none⟩ v') := by
  have hlt := (Array.getElem?_eq_some_iff.1 h.box).1
  have hown := h.own.lt
  obtain ⟨h1, h2, h3⟩ := h.lt
  have hb : W'.heap[wb]? = some (.cells #[.slice none 0 0, .int .i64 0, vo, .bool false] 50 (0, 0)) := by
    rw [hg.block wb hlt (fun e => by have := (hown wb e.symm).1; omega)]; exact h.box
  have hown' := ho.lt
  refine ⟨hb, ?_, ?_, ?_, h1, h2, ?_⟩
  · rw [bx_set hb]; rfl
  · rw [List.length_append, show bytesV (l ++ m) = bytesV l ++ bytesV m by simp [bytesV]]
    exact ho.kept (grown_cell W' ⟨wb, 2, none⟩ _) (.inr fun e => by have := (hown' wb e).1; omega)
  · have hW : Below w0.heap.size w0 W' := h.bel.grown hg (by omega) (fun k e => by have := (hown k e).1; omega)
    exact hW.setCell (by simpa using h1) _
  · simp [World.setCell]; exact Nat.le_trans h3 hg.size
end
theorem flatBL_one (t : Doc) : flatBL [t] = flatB t := by simp [flatBL]
theorem ok_kid {t : Doc} (h : (nodes t).all okD = true) : ∀ k ∈ t.kids, (nodes k).all okD = true := by
  intro k hk
  rw [nodes_eq] at h
  simp only [List.all_cons, Bool.and_eq_true] at h
  have h2 := h.2
  clear h
  revert hk h2
  generalize t.kids = ks
  induction ks with
  | nil => intro hk; simp at hk
  | cons x ks ih =>
    intro hk h2
    rw [nodesL, List.all_append, Bool.and_eq_true] at h2
    rcases List.mem_cons.1 hk with rfl | hk
    · exact h2.1
    · exact ih hk h2.2
theorem ok_top {t : Doc} (h : (nodes t).all okD = true) : okD t = true := by
  rw [nodes_eq] at h
  simp only [List.all_cons, Bool.and_eq_true] at h
  exact h.1
/-- what a valid node is -/
theorem ok_parts {t : Doc} (h : okD t = true) : 0 ≤ t.kind ∧ t.kind ≤ 6 ∧ (t.kind ≠ 4 → t.kind ≠ 5 → t.kind ≠ 6 → t.kids = []) ∧ (t.kind = 5 ∨ t.kind = 6 → ∃ x, t.kids = [x]) ∧ (t.kind = 0 → t.txt.size ≤ 60 ∧ prB t.txt = true) ∧ (t.kind ≠ 0 → t.txt = ⟨#[]⟩) ∧ (t.kind = 5 → 0 ≤ t.n ∧ t.n ≤ 20) ∧ (t.kind ≠ 5 → t.n = 0) := by
  unfold okD argsB textB indB at h
  simp only [Bool.and_eq_true, decide_eq_true_eq] at h
  obtain ⟨⟨⟨⟨h1, h2⟩, h3⟩, h4⟩, h5⟩ := h
  refine ⟨h1, h2, fun a b c => ?_, fun a => ?_, fun a => ?_, fun a => ?_, fun a => ?_, fun a => ?_⟩
  · rw [if_neg a, if_neg (by omega)] at h3
    exact List.eq_nil_of_length_eq_zero (by simpa using h3)
  · rw [if_neg (by omega), if_pos a] at h3
    match hk : t.kids, h3 with
    | [x], _ => exact ⟨x, rfl⟩
    | [], h3 => simp at h3
    | _ :: _ :: _, h3 => simp at h3
  · rw [if_pos a] at h4; simpa using h4
  · rw [if_neg a] at h4; simpa using h4
  · rw [if_pos a] at h5; simpa using h5
  · rw [if_neg a] at h5; simpa using h5

def WrPost (w0 : World) (wb B : Nat) (l : List UInt8) (e : Ending) (W' : World) : Prop := ∃ vo', e = .returned (.tuple #[]) ∧ WrI w0 wb B l vo' W'
set_option maxHeartbeats 4000000 in
set_option maxRecDepth 100000 in
theorem writeE (w0 : World) (wb B : Nat) : ∀ (m : Nat) (t : Doc) (v : Value) (l : List UInt8) (vo : Value) (W : World) (ind : Int), (nodes t).length ≤ m → (nodes t).all okD = true → Rd AnyB w0 (.sl (t.kids.map Doc.d)) [v] → WrI w0 wb B l vo W → l.length + (flatB t).length ≤ 100000000 →
    Calls Try.prog 28 #[.pointer (some ⟨wb, 0, none⟩), .agg #[.int .i64 t.kind, .string t.txt, .int .i64 t.n, v], .int .i64 ind, .bool true] W (WrPost w0 wb B (l ++ flatB t)) := by
  intro m
  induction m with
  | zero => intro t v l vo W ind hm; have := nodes_pos t; omega
  | succ m ih =>
  intro t v l vo W ind hm hok hv hW hlen
  obtain ⟨a, cap, rfl, hc1, hc2⟩ := hv.form
  unfold maxLen at hc2
  obtain ⟨w1, HW1⟩ := nameIt (W.alloc (.cells #[.int .i64 t.kind, .string t.txt, .int .i64 t.n, .slice a (t.kids.map Doc.d).length cap] 24))
  have hb1 : Below W.heap.size W w1 := by rw [← HW1.out]; exact (Below.refl _ _).alloc (Nat.le_refl _) _
  have hx1 : w1.heap[W.heap.size]? = some (.cells #[.int .i64 t.kind, .string t.txt, .int .i64 t.n, .slice a (t.kids.map Doc.d).length cap] 24 (0, 0)) := by rw [← HW1.out]; exact bx_new _ _ _ rfl
  have HI1 := Lib.hid (hW.keep hb1)
  obtain ⟨p1, p2, p3, p4, p5, p6, p7, p8⟩ := ok_parts (ok_top hok)
  have HOK := Lib.hid (ok_kid hok)
  have HFB := Lib.hid (flatB_eq t)
  have HM := Lib.hid hm
  have IH := Lib.hid ih
  have HV := Lib.hid hv
  have HLEN := Lib.hid hlen
  have HX1 := Lib.hid hx1
  obtain ⟨x0, x1, x2, x3⟩ := bx_cells4d hx1
  have HKS : Hid (∀ k ∈ t.kids, (nodes k).length ≤ m) := fun k hk => by
    have h1 := nodes_kid k hk
    have h2 := HM.out
    rw [nodes_eq] at h2
    simp at h2
    omega
  obtain ⟨PST, HP⟩ := nameIt (WrPost w0 wb B (l ++ flatB t))
  have HFIN : Hid (∀ vo' W', WrI w0 wb B (l ++ flatB t) vo' W' → PST (.returned (.tuple #[])) W') := fun vo' W' h => by rw [← HP.out]; exact ⟨vo', rfl, h⟩
  rw [HP.out]
  obtain ⟨nk, HNK⟩ := nameIt (t.kids.map Doc.d).length
  have HKL : Hid (t.kids.length = nk) := by show _ = _; rw [← HNK.out, List.length_map]
  obtain ⟨tk, HTK⟩ := nameIt t.kind
  obtain ⟨tx, HTX⟩ := nameIt t.txt
  obtain ⟨tn, HTN⟩ := nameIt t.n
  rw [HNK.out] at hc1 HV
  rw [HTK.out, HTX.out, HTN.out, HNK.out] at HW1 HX1
  rw [HTK.out] at x0 HFB p1 p2 p3 p4 p5 p6 p7 p8
  rw [HTX.out] at x1 HFB p5 p6
  rw [HTN.out] at x2 p7 p8
  rw [HNK.out] at x3
  rw [HTK.out, HTX.out, HTN.out, HNK.out]
  have hwlt := (Array.getElem?_eq_some_iff.1 HI1.out.box).1
  have hwt : ¬ wb = W.heap.size := by have := hW.lt; omega
  have hW1s : W.heap.size < w1.heap.size := (Array.getElem?_eq_some_iff.1 hx1).1
  obtain ⟨_, _, y2, _⟩ := bx_cells4d HI1.out.box
  obtain ⟨av, cv, rfl, hv1, hv2⟩ := own_len HI1.out.own
  unfold maxLen at hv2
  obtain ⟨ll, HLL⟩ := nameIt l.length
  have HOW := Lib.hid HI1.out.own
  rw [HLL.out] at y2 HI1 HOW hv1 HLEN
  have HLT := Lib.hid HI1.out.lt
  clear hb1 hx1 hm hok hv hW hlen ih
  by_cases k0 : tk = 0
  · have hfb : flatB t = tx.data.toList := by rw [HFB.out, if_pos k0]
    rw [hfb] at HFIN HLEN
    have hsz : tx.data.toList.length = tx.size := by simp
    have hll := HLEN.out
    rw [hsz] at hll
    subst k0
    clear p1 p2 p3 p4 p5 p6 p7 p8 HFB
    go_enter Try.func28, Try.ntmps28
    go_upto_region 1 with fail
    rw [HW1.out]
    go_upto_region 3 with fail
    go_region_law
      (first
        | (refine step_appStr (by rfl) _ _ (by rfl) (by rfl) (own_keep HOW.out ((Below.refl _ _).drew)) (by rfl) (by omega) (by have := HLT.out; simp; omega) ?_; intro v' w' ho hg; have hst := (HI1.out.keep (Below.refl _ _).drew).step (m := tx.data.toList) (by rw [hsz]; rw [HLL.out]; exact ho) hg; obtain ⟨a9, c9, rfl, -, -⟩ := own_len ho; obtain ⟨_, _, j2, _⟩ := bx_cells4d hst.1; obtain ⟨_, _, g2, _⟩ := bx_free4 hst.1; have HE := Lib.hid (HFIN.out _ _ hst.2); clear hst ho hg)
        | fail)
    all_goals
      go_wp2_with fail
      exact bodyPost_end (results_none Try.results28 _ _ _) rfl HE.out
  · by_cases k1 : tk = 1
    · have hfb : flatB t = [32] := by rw [HFB.out, if_neg k0, if_pos k1]
      rw [hfb] at HFIN HLEN
      have hll := HLEN.out
      simp at hll
      subst k1
      clear p1 p2 p3 p4 p5 p6 p7 p8 HFB k0
      go_enter Try.func28, Try.ntmps28
      go_upto_region 1 with fail
      rw [HW1.out]
      go_wp2_with (at_builtin; refine wp_app1 elByte rfl _ _ rfl HOW.out rfl rfl rfl rfl (by omega) (by unfold maxLen; omega) (by have := HLT.out; omega) ?_)
      intro v' w' ho hg
      have hst := HI1.out.step (m := [32]) (by rw [HLL.out]; exact ho) hg
      obtain ⟨a9, c9, rfl, -, -⟩ := own_len ho
      obtain ⟨_, _, j2, _⟩ := bx_cells4d hst.1
      obtain ⟨_, _, g2, _⟩ := bx_free4 hst.1
      have HE := Lib.hid (HFIN.out _ _ hst.2)
      clear hst ho hg
      go_wp2_with fail
      exact bodyPost_end (results_none Try.results28 _ _ _) rfl HE.out
    · have hfb : flatB t = flatBL t.kids := by rw [HFB.out, if_neg k0, if_neg k1]
      have HFL := Lib.hid hfb
      clear HFB
      have k0' : (tk == 0) = false := by simpa using k0
      have k1' : (tk == 1) = false := by simpa using k1
      by_cases k23 : tk = 2 ∨ tk = 3
      · have hks := p3 (by omega) (by omega) (by omega)
        have hfe : flatB t = [] := by rw [hfb, hks]; rfl
        rw [hfe, List.append_nil] at HFIN
        have HE := Lib.hid (HFIN.out _ _ HI1.out)
        clear p1 p2 p3 p4 p5 p6 p7 p8 hfb hks hfe y2
        rcases k23 with k2 | k3
        · subst k2
          go_enter Try.func28, Try.ntmps28
          go_upto_region 1 with fail
          rw [HW1.out]
          go_wp2_with fail
          exact bodyPost_end (results_none Try.results28 _ _ _) rfl HE.out
        · subst k3
          go_enter Try.func28, Try.ntmps28
          go_upto_region 1 with fail
          rw [HW1.out]
          go_wp2_with fail
          exact bodyPost_end (results_none Try.results28 _ _ _) rfl HE.out
      · by_cases k4 : tk = 4
        · subst k4
          rw [hfb] at HFIN HLEN
          have HI0 : Hid (WrI w0 wb B (l ++ flatBL (t.kids.take 0)) (.slice av ll cv) w1) := by
            show WrI w0 wb B (l ++ flatBL []) _ _
            rw [show flatBL [] = [] from rfl, List.append_nil]; exact HI1.out
          clear p1 p2 p3 p4 p5 p6 p7 p8 k0 k1 k23 hfb HFL HI1 HOW
          go_enter Try.func28, Try.ntmps28
          go_upto_region 1 with fail
          rw [HW1.out]
          go_wp2_with fail
          clear x0 x1 x2 x3 y2
          go_loopg [61] nk (fun gg v61 wr => ∃ (i : Nat) (vo : Value), i ≤ nk ∧ nk - i ≤ gg ∧ v61 = .int .i64 i ∧ Hid (WrI w0 wb B (l ++ flatBL (t.kids.take i)) vo wr))
          case atStart => exact ⟨0, _, by omega, by omega, rfl, HI0⟩
          case round =>
            clear HI0
            obtain ⟨i, vo, hi, hg, rfl, HI⟩ := hrel
            obtain ⟨wo, rfl⟩ : ∃ ww : World, ww = wr := ⟨_, rfl⟩
            by_cases hlt : i < nk
            · have hlt' : (i : Int) < (nk : Int) := by omega
              have hix : i < t.kids.length := by rw [HKL.out]; exact hlt
              obtain ⟨b, off, v, hae, -, hbl0, c0, c1, c2, c3, hkid⟩ := Rd.kid HV.out hix
              have hbl : b < wo.heap.size := Nat.lt_of_lt_of_le hbl0 HI.out.bel.size
              have e0 := (HI.out.bel.cell (p := ⟨b, off + i * 4, none⟩) hbl0).trans c0
              have e1 := (HI.out.bel.cell (p := ⟨b, off + i * 4 + 1, none⟩) hbl0).trans c1
              have e2 := (HI.out.bel.cell (p := ⟨b, off + i * 4 + 2, none⟩) hbl0).trans c2
              have e3 := (HI.out.bel.cell (p := ⟨b, off + i * 4 + 3, none⟩) hbl0).trans c3
              obtain ⟨av, cv, rfl, -, -⟩ := hkid.form
              have hkm := HKS.out t.kids[i] (List.getElem_mem hix)
              have hko := HOK.out t.kids[i] (List.getElem_mem hix)
              have hfl := flatBL_le hix
              have hln := HLEN.out
              have hll := HLL.out
              have HT : Hid (l ++ flatBL (t.kids.take i) ++ flatB t.kids[i] = l ++ flatBL (t.kids.take (i + 1))) := by
                show _ = _
                rw [flatBL_take hix, List.append_assoc]
              obtain ⟨nv, HNV⟩ := nameIt (t.kids[i].kids.map Doc.d).length
              have hih := IH.out t.kids[i] _ (l ++ flatBL (t.kids.take i)) vo (wo.alloc (.cells #[.int .i64 t.kids[i].kind, .string t.kids[i].txt, .int .i64 t.kids[i].n, .slice av nv cv] 24)) ind hkm hko hkid (HI.out.keep ((Below.refl _ _).alloc (Nat.le_refl _) _)) (by simp; omega)
              rw [HT.out] at hih
              rw [HNV.out] at e3 hih
              obtain ⟨q0, HQ0⟩ := nameIt t.kids[i].kind
              obtain ⟨q1, HQ1⟩ := nameIt t.kids[i].txt
              obtain ⟨q2, HQ2⟩ := nameIt t.kids[i].n
              rw [HQ0.out] at e0 hih
              rw [HQ1.out] at e1 hih
              rw [HQ2.out] at e2 hih
              have HIH := Lib.hid hih
              subst hae
              clear hih hkid c0 c1 c2 c3 hfl hln hll hkm hko
              go_wp2_with fail
              refine HIH.out.mono ?_
              rintro e w3 ⟨v3, rfl, hi3⟩
              have HI3 := Lib.hid hi3
              clear hi3 e0 e1 e2 e3
              go_wp2_with fail
              go_roundg (nk - (i + 1))
              case measure => omega
              case rel => exact ⟨i + 1, v3, by omega, by omega, by go_num, HI3⟩
            · have hlt' : ¬ (i : Int) < (nk : Int) := by omega
              have hi3 := HI.out
              rw [List.take_of_length_le (by rw [HKL.out]; omega)] at hi3
              have HE := Lib.hid (HFIN.out _ _ hi3)
              clear hi3
              go_wp2_with fail
              exact bodyPost_end (results_none Try.results28 _ _ _) rfl HE.out
        · obtain ⟨x, hkx⟩ := p4 (by omega)
          have hk0 : 0 < t.kids.length := by rw [hkx]; simp
          have hkx0 : t.kids[0] = x := by simp [hkx]
          have hnk1 : nk = 1 := by rw [← HKL.out, hkx]; rfl
          have hfx : flatB t = flatB x := by rw [hfb, hkx, flatBL_one]
          rw [hfx] at HFIN HLEN
          obtain ⟨b, off, v, hae, -, hbl0, c0, c1, c2, c3, hkid⟩ := Rd.kid HV.out hk0
          have hbw := HI1.out.bel
          have hbl : b < w1.heap.size := Nat.lt_of_lt_of_le hbl0 hbw.size
          have e0 := (hbw.cell (p := ⟨b, off + 0 * 4, none⟩) hbl0).trans c0
          have e1 := (hbw.cell (p := ⟨b, off + 0 * 4 + 1, none⟩) hbl0).trans c1
          have e2 := (hbw.cell (p := ⟨b, off + 0 * 4 + 2, none⟩) hbl0).trans c2
          have e3 := (hbw.cell (p := ⟨b, off + 0 * 4 + 3, none⟩) hbl0).trans c3
          obtain ⟨ax, cx, rfl, -, -⟩ := hkid.form
          have hkm := HKS.out t.kids[0] (List.getElem_mem hk0)
          have hko := HOK.out t.kids[0] (List.getElem_mem hk0)
          rw [hkx0] at e0 e1 e2 e3 hkid hkm hko
          simp only [Nat.zero_mul, Nat.add_zero] at e0 e1 e2 e3
          obtain ⟨nv, HNV⟩ := nameIt (x.kids.map Doc.d).length
          have HIH := Lib.hid (fun W' ind' h => IH.out x _ l _ W' ind' hkm hko hkid (h : WrI w0 wb B l (.slice av ll cv) W') (by rw [HLL.out]; exact HLEN.out))
          rw [HNV.out] at e3 HIH
          obtain ⟨q0, HQ0⟩ := nameIt x.kind
          obtain ⟨q1, HQ1⟩ := nameIt x.txt
          obtain ⟨q2, HQ2⟩ := nameIt x.n
          rw [HQ0.out] at e0 HIH
          rw [HQ1.out] at e1 HIH
          rw [HQ2.out] at e2 HIH
          have HPE : Hid (∀ e W', WrPost w0 wb B (l ++ flatB x) e W' → PST e W') := fun e W' h => by
            obtain ⟨vo', rfl, h⟩ := h
            exact HFIN.out _ _ h
          subst hae hnk1
          clear c0 c1 c2 c3 hbw hkm hko hkid hfx hk0 hkx0 hkx hfb
          by_cases k5 : tk = 5
          · subst k5
            clear p1 p2 p3 p4 p5 p6 p7 p8 k0 k1 k23 k4 HFL
            go_enter Try.func28, Try.ntmps28
            go_upto_region 1 with fail
            rw [HW1.out]
            have i0 := aft_cell x0
            have i2 := aft_cell x2
            have i3 := aft_cell x3
            have i4 := aft_cell e0
            have i5 := aft_cell e1
            have i6 := aft_cell e2
            have i7 := aft_cell e3
            go_upto_region 18 with fail
            clear x0 x1 x2 x3 e0 e1 e2 e3 y2
            refine wp_region_after_tail 10 (by kernel_rfl) (by kernel_rfl) ?_
            simp only [List.take_succ_cons, List.take_zero, List.drop_succ_cons, List.drop_zero]
            repeat (go_big_quiet_step (fail))
            refine wpQuiet_nil ?_
            rintro w9 ⟨⟨_, hb9⟩, rfl⟩
            have HI9 := Lib.hid (HI1.out.keep hb9)
            clear i0 i2 i3 i4 i5 i6 i7 hb9
            go_wp2_with fail
            refine (HIH.out _ _ HI9.out).mono ?_
            rintro e w3 ⟨v3, rfl, hi3⟩
            have HE := Lib.hid (HFIN.out _ _ hi3)
            clear hi3
            go_wp2_with fail
            exact bodyPost_end (results_none Try.results28 _ _ _) rfl HE.out
          · have k6 : tk = 6 := by omega
            subst k6
            clear p1 p2 p3 p4 p5 p6 p7 p8 k0 k1 k23 k4 k5 HFL
            go_enter Try.func28, Try.ntmps28
            go_upto_region 1 with fail
            rw [HW1.out]
            go_wp2_with fail
            refine (HIH.out w1 ind HI1.out).mono ?_
            rintro e w3 ⟨v3, rfl, hi3⟩
            have HE := Lib.hid (HFIN.out _ _ hi3)
            clear hi3
            go_wp2_with fail
            exact bodyPost_end (results_none Try.results28 _ _ _) rfl HE.out
end Dc
end Go.Proofs.Ytgpikophndbmeaa
