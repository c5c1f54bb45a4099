/- parlref5.heights.row: the body of its inmost loop. -/
import Derived.Test.YtbnpemgmdnghgaaJCensusTellsRow9
namespace Go.Proofs.Ytbnpemgmdnghgaa
open Go.RowKit
namespace Cs

def findBlock (k : Nat) : Code → Option Code
  | .block j c => if j = k then some (.block j c) else findBlock k c
  | .seq a b => match findBlock k a with
    | some c => some c
    | none => findBlock k b
  | .loop c => findBlock k c
  | .scope c => findBlock k c
  | .cond _ a b => match findBlock k a with
    | some c => some c
    | none => findBlock k b
  | _ => none
noncomputable def blk5 : Code := ((Try.f58.body.bind (findBlock 5)).getD .skip)
set_option maxHeartbeats 16000000 in
set_option maxRecDepth 1000000 in
theorem row_blk {N n m hb : Nat} {d : Hs} {c c' : Nat → Nat → Nat} {w1 W wl : World} {sx q1 q2 q3 g1 g2 g3 : Nat} {l : List Sym} {s : Sym} {stb : Bool} {sn : Int} {x y : Nat}
    (HCC : Hid (∀ A i, c' A i ≤ c A i)) (HM : Hid (n + 1 = m)) (hm2 : m ≤ 25) (hN : N ≤ 10)
    (HBX : Hid (∀ W', Below w1.heap.size w1 W' → W'.cell? ⟨hb, 0 + 4, none⟩ = some (.int .i64 (n : Int)) ∧ W'.cell? ⟨hb, 0 + 5, none⟩ = some (.slice (some ⟨d.tm, 0, none⟩) N N) ∧ W'.cell? ⟨hb, 0 + 6, none⟩ = some (.slice (some ⟨d.ta, 0, none⟩) N N) ∧ W'.cell? ⟨hb, 0 + 7, none⟩ = some (.slice (some ⟨d.tj, 0, none⟩) N N)))
    (HTB : Hid (∀ W' a k, Below w1.heap.size w1 W' → a < N → k < m →
      (W'.cell? ⟨d.tm, a, none⟩ = some (.slice (some ⟨d.rm a, 0, none⟩) m m) ∧ W'.cell? ⟨d.rm a, k, none⟩ = some (.int .i64 (cap9 (c a k)))) ∧
      (W'.cell? ⟨d.ta, a, none⟩ = some (.slice (some ⟨d.ra a, 0, none⟩) m m) ∧ W'.cell? ⟨d.ra a, k, none⟩ = some (.bool (decide (0 < c a k)))) ∧
      (W'.cell? ⟨d.tj, a, none⟩ = some (.slice (some ⟨d.rj a, 0, none⟩) m m) ∧ W'.cell? ⟨d.rj a, k, none⟩ = some (.bool (decide (c' a k < c a k))))))
    (HBL : Hid (Below w1.heap.size w1 wl)) (HST : Hid (s.term = stb)) (HSN : Hid (s.n = sn)) (hsb : stb = false → 0 ≤ sn ∧ sn.toNat < N) (hxm : x < m) (hle : x + y < m)
    (HRI : Hid (RX W sx #[.bool stb, .int .i64 sn] q1 q2 q3 g1 g2 g3 m (v1 c l) (v2 c l) (v3 c c' l) (u1 c l s x y) (u2 c l s x y) (u3 c c' l s x y) wl))
    (a1 a2 a3 a4 a5 a6 a10 a17 a18 a19 a20 a21 a22 a23 a24 a25 a26 a27 a28 a29 a30 a31 a32 a33 a34 a35 a36 a37 a38 a39 a40 a41 a42 a43 a44 a45 a46 a47 a48 a49 a50 a51 a52 a53 a54 a55 a56 a57 a58 a59 a60 a61 a62 a63 a64 a65 a66 a67 a68 a69 a70 a71 a72 a73 a74 a75 a76 a77 a78 a79 a80 a81 a82 a83 a84 a85 a86 a87 a88 a89 a90 a91 a92 a93 a94 a95 a96 a97 a98 a99 a100 a101 a102 a103 a104 a105 a106 a107 a108 a109 a110 a111 a112 a113 a114 a115 a116 a117 a118 a119 a120 a121 a122 a123 a124 a125 a126 a127 a128 a129 a130 a131 a132 a133 a134 a135 a136 a137 a138 a139 a140 a141 a142 a143 a144 a145 a146 a147 a148 a149 a150 a151 a152 a153 a154 a155 a156 a157 a158 a159 a160 a161 a162 a163 a164 a165 a166 a167 a168 a169 a170 a171 a172 a173 a174 a175 a176 a177 a178 a179 a180 a181 a182 a183 a184 a185 a186 a187 a188 a189 a190 a191 a192 a193 a194 a195 a196 a197 : Value) {Q : Exit → Act → World → Prop}
    (hQ : ∀ (b17 b18 b19 b84 b85 b86 b87 b88 b89 b90 b91 b92 b93 b94 b95 b96 b97 b98 b99 b100 b101 b102 b103 b104 b105 b106 b107 b108 b109 b110 b111 b112 b113 b114 b115 b116 b117 b118 b119 b120 b121 b122 b123 b124 b125 b126 b127 b128 b129 b130 b131 b132 b133 b134 b135 b136 b137 b138 b139 b140 b141 b142 b143 b144 b145 b146 b147 b148 b149 b150 b151 b152 b153 b154 b155 b156 b157 b158 b159 b160 b161 b162 b163 b164 b165 b166 b167 b168 b169 b170 b171 b172 b173 b174 b175 b176 b177 b178 b179 b180 b181 b182 b183 b184 b185 b186 b187 b188 b189 : Value) (wz : World), Hid (RX W sx #[.bool stb, .int .i64 sn] q1 q2 q3 g1 g2 g3 m (v1 c l) (v2 c l) (v3 c c' l) (u1 c l s x (y + 1)) (u2 c l s x (y + 1)) (u3 c c' l s x (y + 1)) wz) → Q .normal ⟨#[.pointer (some ⟨hb, 0, none⟩), a1, a2, a3, a4, a5, a6, .slice (some ⟨q1, 0, none⟩) m m, .slice (some ⟨q2, 0, none⟩) m m, .slice (some ⟨q3, 0, none⟩) m m, a10, .pointer (some ⟨sx, 0, none⟩), .slice (some ⟨g1, 0, none⟩) m m, .slice (some ⟨g2, 0, none⟩) m m, .slice (some ⟨g3, 0, none⟩) m m, .int .i64 (x : Int), .int .i64 (y : Int), b17, b18, b19, a20, a21, a22, a23, a24, a25, a26, a27, a28, a29, a30, a31, a32, a33, a34, a35, a36, a37, a38, a39, a40, a41, a42, a43, a44, a45, a46, a47, a48, a49, a50, a51, a52, a53, a54, a55, a56, a57, a58, a59, a60, a61, a62, a63, a64, a65, a66, a67, a68, a69, a70, a71, a72, a73, a74, a75, a76, a77, a78, a79, a80, a81, a82, a83, b84, b85, b86, b87, b88, b89, b90, b91, b92, b93, b94, b95, b96, b97, b98, b99, b100, b101, b102, b103, b104, b105, b106, b107, b108, b109, b110, b111, b112, b113, b114, b115, b116, b117, b118, b119, b120, b121, b122, b123, b124, b125, b126, b127, b128, b129, b130, b131, b132, b133, b134, b135, b136, b137, b138, b139, b140, b141, b142, b143, b144, b145, b146, b147, b148, b149, b150, b151, b152, b153, b154, b155, b156, b157, b158, b159, b160, b161, b162, b163, b164, b165, b166, b167, b168, b169, b170, b171, b172, b173, b174, b175, b176, b177, b178, b179, b180, b181, b182, b183, b184, b185, b186, b187, b188, b189, a190, a191, a192, a193, a194, a195, a196, a197], []⟩ wz) :
    Code.wp Try.prog blk5 Q ⟨#[.pointer (some ⟨hb, 0, none⟩), a1, a2, a3, a4, a5, a6, .slice (some ⟨q1, 0, none⟩) m m, .slice (some ⟨q2, 0, none⟩) m m, .slice (some ⟨q3, 0, none⟩) m m, a10, .pointer (some ⟨sx, 0, none⟩), .slice (some ⟨g1, 0, none⟩) m m, .slice (some ⟨g2, 0, none⟩) m m, .slice (some ⟨g3, 0, none⟩) m m, .int .i64 (x : Int), .int .i64 (y : Int), a17, a18, a19, a20, a21, a22, a23, a24, a25, a26, a27, a28, a29, a30, a31, a32, a33, a34, a35, a36, a37, a38, a39, a40, a41, a42, a43, a44, a45, a46, a47, a48, a49, a50, a51, a52, a53, a54, a55, a56, a57, a58, a59, a60, a61, a62, a63, a64, a65, a66, a67, a68, a69, a70, a71, a72, a73, a74, a75, a76, a77, a78, a79, a80, a81, a82, a83, a84, a85, a86, a87, a88, a89, a90, a91, a92, a93, a94, a95, a96, a97, a98, a99, a100, a101, a102, a103, a104, a105, a106, a107, a108, a109, a110, a111, a112, a113, a114, a115, a116, a117, a118, a119, a120, a121, a122, a123, a124, a125, a126, a127, a128, a129, a130, a131, a132, a133, a134, a135, a136, a137, a138, a139, a140, a141, a142, a143, a144, a145, a146, a147, a148, a149, a150, a151, a152, a153, a154, a155, a156, a157, a158, a159, a160, a161, a162, a163, a164, a165, a166, a167, a168, a169, a170, a171, a172, a173, a174, a175, a176, a177, a178, a179, a180, a181, a182, a183, a184, a185, a186, a187, a188, a189, a190, a191, a192, a193, a194, a195, a196, a197], []⟩ wl := by
  have HQ := Lib.hid hQ
  clear hQ
  have hxm' : (x : Int) < (m : Int) := by omega
  have hx0 : (0 : Int) ≤ (x : Int) := by omega
  have hil : IntKind.i64.wrap ((x : Int) + (y : Int)) = (x : Int) + (y : Int) := IntWalk.i64_in _ (by omega)
  have t4 := (HBX.out wl HBL.out).1
  have hle' : (x : Int) + (y : Int) ≤ (n : Int) := by have := HM.out; omega
  have hle2 : decide ((x : Int) + (y : Int) ≤ (n : Int)) = true := by simpa using hle'
  have hil0 : (0 : Int) ≤ (x : Int) + (y : Int) := by omega
  have hil1 : (x : Int) + (y : Int) < (m : Int) := by omega
  have hy0 : (0 : Int) ≤ (y : Int) := by omega
  have hym : (y : Int) < (m : Int) := by omega
  obtain ⟨z0, z1⟩ := bx_cells2 HRI.out.sbox
  have HO : Hid (oN c s y = (if stb then (if y = 1 then 1 else 0) else c sn.toNat y) ∧ oN c' s y = (if stb then (if y = 1 then 1 else 0) else c' sn.toNat y)) := by
    show _ ∧ _; unfold oN; rw [HST.out, HSN.out]; exact ⟨rfl, rfl⟩
  obtain ⟨oy, HOY⟩ := nameIt (oN c s y)
  obtain ⟨oy', HOY'⟩ := nameIt (oN c' s y)
  rw [HOY.out, HOY'.out] at HO
  obtain ⟨cv0, HCV⟩ := nameIt (cap9 oy)
  obtain ⟨hv0, HHV⟩ := nameIt (decide (0 < oy))
  obtain ⟨tv0, HTV⟩ := nameIt (decide (oy' < oy))
  conv => arg 2; whnf
  go_upto_if 85 with fail
  go_cut [17, 18, 19] from 84 to 189 (fun t17 t18 t19 wx => t17 = .int .i64 cv0 ∧ t18 = .bool hv0 ∧ t19 = .bool tv0 ∧ Hid (Below wl.heap.size wl wx))
  case first =>
    have HFI : Hid (∀ wx, Below wl.heap.size wl wx → True) := fun _ _ => trivial
    cases stb with
    | true =>
      have hoy := HO.out
      simp only [if_true] at hoy
      by_cases hy1 : y = 1
      · have hyb : ((y : Int) == 1) = true := by rw [hy1]; rfl
        have e1 : cv0 = 1 := by rw [← HCV.out, hoy.1, if_pos hy1]; rfl
        have e2 : hv0 = true := by rw [← HHV.out, hoy.1, if_pos hy1]; rfl
        have e3 : tv0 = false := by rw [← HTV.out, hoy.1, hoy.2]; simp
        have HB9 : Hid (Below wl.heap.size wl wl) := Below.refl _ _
        subst e1 e2 e3
        clear hoy hy1
        go_wp2_with fail
        go_meet
        exact ⟨rfl, rfl, rfl, HB9⟩
      · have hyb : ((y : Int) == 1) = false := by simp; omega
        have e1 : cv0 = 0 := by rw [← HCV.out, hoy.1, if_neg hy1]; rfl
        have e2 : hv0 = false := by rw [← HHV.out, hoy.1, if_neg hy1]; rfl
        have e3 : tv0 = false := by rw [← HTV.out, hoy.1, hoy.2]; simp
        have HB9 : Hid (Below wl.heap.size wl wl) := Below.refl _ _
        subst e1 e2 e3
        clear hoy hy1
        go_wp2_with fail
        go_meet
        exact ⟨rfl, rfl, rfl, HB9⟩
    | false =>
      have hoy := HO.out
      simp only [Bool.false_eq_true, if_false] at hoy
      obtain ⟨sm, hsm⟩ : ∃ k : Nat, sn = (k : Int) := ⟨sn.toNat, by have := (hsb rfl).1; omega⟩
      have hsN : sm < N := by have := (hsb rfl).2; omega
      have hsN' : (sm : Int) < (N : Int) := by omega
      have hs0 : (0 : Int) ≤ (sm : Int) := by omega
      have hst : sn.toNat = sm := by omega
      rw [hst] at hoy
      rw [hsm] at z1
      obtain ⟨⟨k1, k2⟩, ⟨k3, k4⟩, ⟨k5, k6⟩⟩ := HTB.out wl sm y HBL.out hsN (by omega)
      rw [← hoy.1, HCV.out] at k2
      rw [← hoy.1, HHV.out] at k4
      rw [← hoy.1, ← hoy.2, HTV.out] at k6
      obtain ⟨k7, k8, k9⟩ := (HBX.out wl HBL.out).2
      obtain ⟨r1, HR1⟩ := nameIt (d.rm sm)
      obtain ⟨r2, HR2⟩ := nameIt (d.ra sm)
      obtain ⟨r3, HR3'⟩ := nameIt (d.rj sm)
      rw [HR1.out] at k1 k2
      rw [HR2.out] at k3 k4
      rw [HR3'.out] at k5 k6
      have HB9 : Hid (Below wl.heap.size wl wl.drew) := (Below.refl _ _).drew
      clear hoy hsb hst hsm
      replace k1 := aft_cell k1
      replace k2 := aft_cell k2
      replace k3 := aft_cell k3
      replace k4 := aft_cell k4
      replace k5 := aft_cell k5
      replace k6 := aft_cell k6
      replace k7 := aft_cell k7
      replace k8 := aft_cell k8
      replace k9 := aft_cell k9
      replace z0 := aft_cell z0
      replace z1 := aft_cell z1
      go_upto_region 17 with fail
      refine wp_region_after (by kernel_rfl) (by kernel_rfl) ?_
      repeat (go_big_quiet_step (fail))
      refine wpQuiet_nil ?_
      rintro _ ⟨⟨w7', hb7'⟩, rfl⟩
      have HB7' := Lib.hid hb7'
      clear hb7' k1 k2 k3 k4 k5 k6 k7 k8 k9 z0 z1
      go_wp2_with fail
      go_meet
      exact ⟨rfl, rfl, rfl, HB7'⟩
  case rest =>
    obtain ⟨rfl, rfl, rfl, HBC⟩ := hcut
    obtain ⟨wm, rfl⟩ : ∃ ww : World, ww = wc := ⟨_, rfl⟩
    have HRM := Lib.hid (HRI.out.keep HBC.out)
    clear z0 z1 t4
    have hstp := cap9_step (ps (oN c) l s x y (x + y)) (cN (oN c) l x) oy
    have HU2 : Hid ((u2 c l s x y (x + y) || (v2 c l x && hv0)) = u2 c l s x (y + 1) (x + y)) := by
      show _ = _; unfold u2 v2; rw [ps_here, HOY.out, ← HHV.out]; exact all_iff
    have HU3 : Hid ((u3 c c' l s x y (x + y) || (v3 c c' l x && hv0) || (v2 c l x && tv0)) = u3 c c' l s x (y + 1) (x + y)) := by
      show _ = _; unfold u3 v3 v2; rw [ps_here, ps_here, HOY.out, HOY'.out, ← HHV.out, ← HTV.out, ← HOY.out, ← HOY'.out]
      exact just_iff (oN_mono HCC.out) _ _ (ps_mono (oN_mono HCC.out) l s x y _)
    have HU1 : Hid (cap9 (ps (oN c) l s x y (x + y) + cN (oN c) l x * oy) = u1 c l s x (y + 1) (x + y)) := by
      show _ = _; unfold u1; rw [ps_here, HOY.out]
    obtain ⟨a1, a2, a3⟩ := HRM.out.pr
    have k0 := HRM.out.gr.r1.cell (show x + y < m by omega)
    have k1 := HRM.out.pr.r1.cell hxm
    have hu1e : u1 c l s x y (x + y) = cap9 (ps (oN c) l s x y (x + y)) := rfl
    have hv1e : v1 c l x = cap9 (cN (oN c) l x) := rfl
    rw [hu1e] at k0
    rw [hv1e] at k1
    obtain ⟨mv, HMV⟩ := nameIt (cap9 (ps (oN c) l s x y (x + y)))
    obtain ⟨nv, HNV⟩ := nameIt (cap9 (cN (oN c) l x))
    obtain ⟨iv, HIV⟩ := nameIt (cap9 (cN (oN c) l x * oy))
    obtain ⟨jv, HJV⟩ := nameIt (cap9 (ps (oN c) l s x y (x + y) + cN (oN c) l x * oy))
    rw [HMV.out] at k0
    rw [HNV.out] at k1
    rw [HMV.out, HNV.out, HCV.out, HIV.out, HJV.out] at hstp
    rw [HJV.out] at HU1
    obtain ⟨uv, HUV⟩ := nameIt (nv * cv0)
    rw [HUV.out] at hstp
    obtain ⟨s1, s2, s3, s4⟩ := hstp
    have hmvb : 0 ≤ mv ∧ mv ≤ 1000000000 := by rw [← HMV.out]; unfold cap9; omega
    have hivb : 0 ≤ iv ∧ iv ≤ 1000000000 := by rw [← HIV.out]; unfold cap9; omega
    have hwu : IntKind.i64.wrap (nv * cv0) = uv := by rw [IntWalk.i64_in _ (by rw [HUV.out]; omega), HUV.out]
    obtain ⟨tv, HTT⟩ := nameIt (mv + iv)
    have hwt : IntKind.i64.wrap (mv + iv) = tv := by rw [IntWalk.i64_in _ (by omega), HTT.out]
    rw [HTT.out] at s2
    have HC1 : Hid (∀ W', Below wm.heap.size wm W' → Calls Try.prog 34 #[.int .i64 uv] W' fun e w' => e = .returned (.int .i64 iv) ∧ Below W'.heap.size W' w') := fun W' _ => (cappedE uv W').mono fun e w' h => ⟨by rw [h.1, s1], by rw [← h.2]; exact Below.refl _ _⟩
    have HC2 : Hid (∀ W', Below wm.heap.size wm W' → Calls Try.prog 34 #[.int .i64 tv] W' fun e w' => e = .returned (.int .i64 jv) ∧ Below W'.heap.size W' w') := fun W' _ => (cappedE tv W').mono fun e w' h => ⟨by rw [h.1, s2], by rw [← h.2]; exact Below.refl _ _⟩
    have hto : ((x : Int) + (y : Int)).toNat = x + y := by omega
    have k2 := aft_cell k0
    have k3 := aft_cell k1
    clear k0 k1 s1 s2 s3 s4 hmvb hivb hu1e hv1e a1 a2 a3 HUV HTT
    go_upto_region 18 with fail
    refine wp_region_after_tail 20 (by kernel_rfl) (by kernel_rfl) ?_
    simp only [List.take_succ_cons, List.take_zero, List.drop_succ_cons, List.drop_zero]
    repeat (go_big_quiet_step (first | with_reducible exact Calls.after (HC1.out _ (Aft.bel _)) | with_reducible exact Calls.after (HC2.out _ (Aft.bel _))))
    refine wpQuiet_nil ?_
    rintro w9 ⟨⟨_, hb9⟩, rfl⟩
    have HR9 := Lib.hid (HRM.out.keep hb9)
    have g0 := HR9.out.gr.r1.cell (show x + y < m by omega)
    have g9 := HR9.out.gr.r1.free (x + y)
    have HRA : Hid (RX W sx #[.bool stb, .int .i64 sn] q1 q2 q3 g1 g2 g3 m (v1 c l) (v2 c l) (v3 c c' l) (u1 c l s x (y + 1)) (u2 c l s x y) (u3 c c' l s x y) (w9.setCell ⟨g1, x + y, none⟩ (.int .i64 jv))) :=
      HR9.out.set1 (by omega) (fun k _ => by
        by_cases e : k = x + y
        · rw [if_pos e, e, HU1.out]
        · rw [if_neg e]; unfold u1; rw [ps_other e])
    clear hb9 k2 k3 HC1 HC2
    go_upto_region 19 with fail
    obtain ⟨wa, HWA⟩ := nameIt (w9.setCell ⟨g1, x + y, none⟩ (.int .i64 jv))
    rw [HWA.out] at HRA
    rw [HWA.out]
    clear g0 g9 HR9 HRM HWA hwu hwt
    have k0 := HRA.out.gr.r2.cell (show x + y < m by omega)
    have k1 := HRA.out.gr.r2.free (x + y)
    have k2 := HRA.out.pr.r2.cell hxm
    obtain ⟨ab, HAB⟩ := nameIt (u2 c l s x y (x + y))
    obtain ⟨lb, HLB⟩ := nameIt (v2 c l x)
    rw [HAB.out, HLB.out] at HU2
    rw [HAB.out] at k0
    rw [HLB.out] at k2
    rw [HLB.out] at HU3
    obtain ⟨nb, HNB⟩ := nameIt (ab || (lb && hv0))
    rw [HNB.out] at HU2
    have HRB : Hid (RX W sx #[.bool stb, .int .i64 sn] q1 q2 q3 g1 g2 g3 m (v1 c l) (v2 c l) (v3 c c' l) (u1 c l s x (y + 1)) (u2 c l s x (y + 1)) (u3 c c' l s x y) (wa.setCell ⟨g2, x + y, none⟩ (.bool nb))) :=
      HRA.out.set2 (by omega) (fun k _ => by
        by_cases e : k = x + y
        · rw [if_pos e, e, HU2.out]
        · rw [if_neg e]; unfold u2; rw [ps_other e])
    go_cut [] from 84 to 189 (fun wx => Hid (RX W sx #[.bool stb, .int .i64 sn] q1 q2 q3 g1 g2 g3 m (v1 c l) (v2 c l) (v3 c c' l) (u1 c l s x (y + 1)) (u2 c l s x (y + 1)) (u3 c c' l s x y) wx))
    case first =>
      have HNB' := HNB.out
      clear HU1 HU2 HU3 HNB HLB HAB HHV HTV HCV HRA HRI HCC
      cases ab with
      | true =>
        have hnb : nb = true := by rw [← HNB']; rfl
        clear HNB'
        subst hnb
        go_wp2_with fail
        go_meet
        exact HRB
      | false =>
        cases lb with
        | false =>
          have hnb : nb = false := by rw [← HNB']; rfl
          clear HNB'
          subst hnb
          go_wp2_with fail
          go_meet
          exact HRB
        | true =>
          have hnb : nb = hv0 := by rw [← HNB']; simp
          clear HNB'
          subst hnb
          go_wp2_with fail
          go_meet
          exact HRB
    case rest =>
      replace HRB := hcut
      clear hcut
      obtain ⟨wb, rfl⟩ : ∃ ww : World, ww = wc := ⟨_, rfl⟩
      clear k0 k1 k2 HNB HRA
      have k0 := HRB.out.gr.r3.cell (show x + y < m by omega)
      have k1 := HRB.out.gr.r3.free (x + y)
      have k2 := HRB.out.pr.r3.cell hxm
      have k3 := HRB.out.pr.r2.cell hxm
      rw [HLB.out] at k3
      obtain ⟨jb, HJB⟩ := nameIt (u3 c c' l s x y (x + y))
      obtain ⟨tb, HTB'⟩ := nameIt (v3 c c' l x)
      rw [HJB.out, HTB'.out] at HU3
      rw [HJB.out] at k0
      rw [HTB'.out] at k2
      obtain ⟨nj, HNJ⟩ := nameIt (jb || (tb && hv0) || (lb && tv0))
      rw [HNJ.out] at HU3
      have HRD : Hid (RX W sx #[.bool stb, .int .i64 sn] q1 q2 q3 g1 g2 g3 m (v1 c l) (v2 c l) (v3 c c' l) (u1 c l s x (y + 1)) (u2 c l s x (y + 1)) (u3 c c' l s x (y + 1)) (wb.setCell ⟨g3, x + y, none⟩ (.bool nj))) :=
        HRB.out.set3 (by omega) (fun k _ => by
          by_cases e : k = x + y
          · rw [if_pos e, e, HU3.out]
          · rw [if_neg e]; unfold u3; rw [ps_other e, ps_other e])
      have HNJ' := HNJ.out
      clear HU1 HU2 HU3 HNJ HJB HTB' HLB HAB HRB HHV HTV HCV
      cases jb with
      | true => (
          simp only [Bool.true_or, Bool.or_true, Bool.and_true, Bool.and_false, Bool.false_or, Bool.or_false, Bool.true_and, Bool.false_and] at HNJ'
          subst HNJ'
          go_wp2_with fail
          exact (HQ.out _ _ _ _ _ _ _ _ _ _ _ _ _ _ _ _ _ _ _ _ _ _ _ _ _ _ _ _ _ _ _ _ _ _ _ _ _ _ _ _ _ _ _ _ _ _ _ _ _ _ _ _ _ _ _ _ _ _ _ _ _ _ _ _ _ _ _ _ _ _ _ _ _ _ _ _ _ _ _ _ _ _ _ _ _ _ _ _ _ _ _ _ _ _ _ _ _ _ _ _ _ _ _ _ _ _ _ _ _ _ HRD))
      | false =>
        cases tb with
        | false =>
          cases lb with
          | false => (
              simp only [Bool.true_or, Bool.or_true, Bool.and_true, Bool.and_false, Bool.false_or, Bool.or_false, Bool.true_and, Bool.false_and] at HNJ'
              subst HNJ'
              go_wp2_with fail
              exact (HQ.out _ _ _ _ _ _ _ _ _ _ _ _ _ _ _ _ _ _ _ _ _ _ _ _ _ _ _ _ _ _ _ _ _ _ _ _ _ _ _ _ _ _ _ _ _ _ _ _ _ _ _ _ _ _ _ _ _ _ _ _ _ _ _ _ _ _ _ _ _ _ _ _ _ _ _ _ _ _ _ _ _ _ _ _ _ _ _ _ _ _ _ _ _ _ _ _ _ _ _ _ _ _ _ _ _ _ _ _ _ _ HRD))
          | true => (
              simp only [Bool.true_or, Bool.or_true, Bool.and_true, Bool.and_false, Bool.false_or, Bool.or_false, Bool.true_and, Bool.false_and] at HNJ'
              subst HNJ'
              go_wp2_with fail
              exact (HQ.out _ _ _ _ _ _ _ _ _ _ _ _ _ _ _ _ _ _ _ _ _ _ _ _ _ _ _ _ _ _ _ _ _ _ _ _ _ _ _ _ _ _ _ _ _ _ _ _ _ _ _ _ _ _ _ _ _ _ _ _ _ _ _ _ _ _ _ _ _ _ _ _ _ _ _ _ _ _ _ _ _ _ _ _ _ _ _ _ _ _ _ _ _ _ _ _ _ _ _ _ _ _ _ _ _ _ _ _ _ _ HRD))
        | true =>
          cases hv0 with
          | true => (
              simp only [Bool.true_or, Bool.or_true, Bool.and_true, Bool.and_false, Bool.false_or, Bool.or_false, Bool.true_and, Bool.false_and] at HNJ'
              subst HNJ'
              go_wp2_with fail
              exact (HQ.out _ _ _ _ _ _ _ _ _ _ _ _ _ _ _ _ _ _ _ _ _ _ _ _ _ _ _ _ _ _ _ _ _ _ _ _ _ _ _ _ _ _ _ _ _ _ _ _ _ _ _ _ _ _ _ _ _ _ _ _ _ _ _ _ _ _ _ _ _ _ _ _ _ _ _ _ _ _ _ _ _ _ _ _ _ _ _ _ _ _ _ _ _ _ _ _ _ _ _ _ _ _ _ _ _ _ _ _ _ _ HRD))
          | false =>
            cases lb with
            | false => (
                simp only [Bool.true_or, Bool.or_true, Bool.and_true, Bool.and_false, Bool.false_or, Bool.or_false, Bool.true_and, Bool.false_and] at HNJ'
                subst HNJ'
                go_wp2_with fail
                exact (HQ.out _ _ _ _ _ _ _ _ _ _ _ _ _ _ _ _ _ _ _ _ _ _ _ _ _ _ _ _ _ _ _ _ _ _ _ _ _ _ _ _ _ _ _ _ _ _ _ _ _ _ _ _ _ _ _ _ _ _ _ _ _ _ _ _ _ _ _ _ _ _ _ _ _ _ _ _ _ _ _ _ _ _ _ _ _ _ _ _ _ _ _ _ _ _ _ _ _ _ _ _ _ _ _ _ _ _ _ _ _ _ HRD))
            | true => (
                simp only [Bool.true_or, Bool.or_true, Bool.and_true, Bool.and_false, Bool.false_or, Bool.or_false, Bool.true_and, Bool.false_and] at HNJ'
                subst HNJ'
                go_wp2_with fail
                exact (HQ.out _ _ _ _ _ _ _ _ _ _ _ _ _ _ _ _ _ _ _ _ _ _ _ _ _ _ _ _ _ _ _ _ _ _ _ _ _ _ _ _ _ _ _ _ _ _ _ _ _ _ _ _ _ _ _ _ _ _ _ _ _ _ _ _ _ _ _ _ _ _ _ _ _ _ _ _ _ _ _ _ _ _ _ _ _ _ _ _ _ _ _ _ _ _ _ _ _ _ _ _ _ _ _ _ _ _ _ _ _ _ HRD))
end Cs
end Go.Proofs.Ytbnpemgmdnghgaa
