/- parlref5.heights.row: the regions that make three rows. -/
import Derived.Test.YtbnpemgmdnghgaaJRankTellsRow14
namespace Go.Proofs.Ytbnpemgmdnghgaa
open Go.RowKit
namespace Cs

def findRegion (k : Nat) : Code → Option Code
  | .region j o b => if j = k then some (.region j o b) else none
  | .block _ c => findRegion k c
  | .seq a b => match findRegion k a with
    | some c => some c
    | none => findRegion k b
  | .loop c => findRegion k c
  | .scope c => findRegion k c
  | .cond _ a b => match findRegion k a with
    | some c => some c
    | none => findRegion k b
  | _ => none
noncomputable def row_r1c : Code := ((Try.f58.body.bind (findRegion 1)).getD .skip)
set_option maxHeartbeats 16000000 in
set_option maxRecDepth 1000000 in
theorem row_r1 {n m hb : Nat} {W : World} (hm1 : 1 ≤ m) (hm2 : m ≤ 25) (hw1 : IntKind.i64.wrap ((n : Int) + 1) = (m : Int))
    (hmkI : ∀ W : World, (Instr.makeSlice 33 (.int .i64 (m : Int)) (.int .i64 (m : Int))).run Try.prog W = .ok (.slice (some ⟨W.heap.size, 0, none⟩) m m) (W.alloc (.cells (madeCells #[.int .i64 0] m) 3)))
    (hmkB : ∀ W : World, (Instr.makeSlice 51 (.int .i64 (m : Int)) (.int .i64 (m : Int))).run Try.prog W = .ok (.slice (some ⟨W.heap.size, 0, none⟩) m m) (W.alloc (.cells (madeCells #[.bool false] m) 4)))
    (HSN3 : Hid (∀ W', Below W.heap.size W W' → W'.cell? ⟨hb, 0 + 4, none⟩ = some (.int .i64 (n : Int))))
    (a1 a2 a3 a4 a5 a6 a7 a8 a9 a10 a11 a12 a13 a14 a15 a16 a17 a18 a19 a20 a21 a22 a23 a24 a25 a26 a27 a28 a29 a30 a31 a32 a33 a34 a35 a36 a37 a38 a39 a40 a41 a42 a43 a44 a45 a46 a47 a48 a49 a50 a51 a52 a53 a54 a55 a56 a57 a58 a59 a60 a61 a62 a63 a64 a65 a66 a67 a68 a69 a70 a71 a72 a73 a74 a75 a76 a77 a78 a79 a80 a81 a82 a83 a84 a85 a86 a87 a88 a89 a90 a91 a92 a93 a94 a95 a96 a97 a98 a99 a100 a101 a102 a103 a104 a105 a106 a107 a108 a109 a110 a111 a112 a113 a114 a115 a116 a117 a118 a119 a120 a121 a122 a123 a124 a125 a126 a127 a128 a129 a130 a131 a132 a133 a134 a135 a136 a137 a138 a139 a140 a141 a142 a143 a144 a145 a146 a147 a148 a149 a150 a151 a152 a153 a154 a155 a156 a157 a158 a159 a160 a161 a162 a163 a164 a165 a166 a167 a168 a169 a170 a171 a172 a173 a174 a175 a176 a177 a178 a179 a180 a181 a182 a183 a184 a185 a186 a187 a188 a189 a190 a191 a192 a193 a194 a195 a196 a197 : Value) {Q : Exit → Act → World → Prop} (hP : ∀ c a t v w, Q (.panic c) (Act.put a t v) w → Q (.panic c) a w)
    (hQ : ∀ (p1 p2 p3 : Nat) (b20 b21 b22 b23 b24 b25 b26 b27 b28 b29 b30 b31 b32 b33 b34 b35 b36 b37 : Value) (wx : World), Hid (R3 W.heap.size p1 p2 p3 m (fun _ => 0) (fun _ => false) (fun _ => false) wx) → Hid (Below W.heap.size W wx) → Q .normal ⟨#[.pointer (some ⟨hb, 0, none⟩), a1, a2, a3, a4, a5, a6, .slice (some ⟨p1, 0, none⟩) m m, .slice (some ⟨p2, 0, none⟩) m m, .slice (some ⟨p3, 0, none⟩) m m, a10, a11, a12, a13, a14, a15, a16, a17, a18, a19, b20, b21, b22, b23, b24, b25, b26, b27, b28, b29, b30, b31, b32, b33, b34, b35, b36, b37, a38, a39, a40, a41, a42, a43, a44, a45, a46, a47, a48, a49, a50, a51, a52, a53, a54, a55, a56, a57, a58, a59, a60, a61, a62, a63, a64, a65, a66, a67, a68, a69, a70, a71, a72, a73, a74, a75, a76, a77, a78, a79, a80, a81, a82, a83, a84, a85, a86, a87, a88, a89, a90, a91, a92, a93, a94, a95, a96, a97, a98, a99, a100, a101, a102, a103, a104, a105, a106, a107, a108, a109, a110, a111, a112, a113, a114, a115, a116, a117, a118, a119, a120, a121, a122, a123, a124, a125, a126, a127, a128, a129, a130, a131, a132, a133, a134, a135, a136, a137, a138, a139, a140, a141, a142, a143, a144, a145, a146, a147, a148, a149, a150, a151, a152, a153, a154, a155, a156, a157, a158, a159, a160, a161, a162, a163, a164, a165, a166, a167, a168, a169, a170, a171, a172, a173, a174, a175, a176, a177, a178, a179, a180, a181, a182, a183, a184, a185, a186, a187, a188, a189, a190, a191, a192, a193, a194, a195, a196, a197], []⟩ wx) :
    Code.wp Try.prog row_r1c Q ⟨#[.pointer (some ⟨hb, 0, none⟩), a1, a2, a3, a4, a5, a6, a7, a8, a9, a10, a11, a12, a13, a14, a15, a16, a17, a18, a19, a20, a21, a22, a23, a24, a25, a26, a27, a28, a29, a30, a31, a32, a33, a34, a35, a36, a37, a38, a39, a40, a41, a42, a43, a44, a45, a46, a47, a48, a49, a50, a51, a52, a53, a54, a55, a56, a57, a58, a59, a60, a61, a62, a63, a64, a65, a66, a67, a68, a69, a70, a71, a72, a73, a74, a75, a76, a77, a78, a79, a80, a81, a82, a83, a84, a85, a86, a87, a88, a89, a90, a91, a92, a93, a94, a95, a96, a97, a98, a99, a100, a101, a102, a103, a104, a105, a106, a107, a108, a109, a110, a111, a112, a113, a114, a115, a116, a117, a118, a119, a120, a121, a122, a123, a124, a125, a126, a127, a128, a129, a130, a131, a132, a133, a134, a135, a136, a137, a138, a139, a140, a141, a142, a143, a144, a145, a146, a147, a148, a149, a150, a151, a152, a153, a154, a155, a156, a157, a158, a159, a160, a161, a162, a163, a164, a165, a166, a167, a168, a169, a170, a171, a172, a173, a174, a175, a176, a177, a178, a179, a180, a181, a182, a183, a184, a185, a186, a187, a188, a189, a190, a191, a192, a193, a194, a195, a196, a197], []⟩ W := by
  have HQ := Lib.hid hQ
  have HPN := Lib.hid hP
  clear hQ hP
  conv => arg 2; whnf
  have HS3 : Hid (∀ W', Below W.heap.size W W' → (fun w' => w'.cell? ⟨hb, 0 + 4, none⟩ = some (.int .i64 (n : Int))) W') := HSN3
  have HBD3 : Hid (Below W.heap.size W W.drew) := (Below.refl _ _).drew
  have hsd3 : Hid (W.drew.heap.size = W.heap.size) := rfl
  obtain ⟨wd, HWD⟩ := nameIt W.drew
  rw [HWD.out] at HBD3 hsd3
  refine wp_region_U (S := (fun w' => w'.cell? ⟨hb, 0 + 4, none⟩ = some (.int .i64 (n : Int)))) 20 (by kernel_rfl) (fun inv => ?_)
  rw [HWD.out]
  refine wpU_take (i := 0) (v := .pointer (some ⟨hb, 0, none⟩)) rfl inv (by kernel_rfl) (by kernel_rfl) (by decide) (by decide) (by kernel_rfl) (by kernel_rfl) (by kernel_rfl) (fun _ _ _ h => HPN.out _ _ _ _ _ h) (Or.inl ⟨by rfl, fun w' hw' => ?_⟩) (HS3.out _ HBD3.out) (fun inv => ?_)
  · obtain h0 := hw'
    go_simp
  try simp only [Act.put, List.setIfInBounds_toArray, List.set_cons_zero, List.set_cons_succ]
  refine wpU_take (i := 1) (v := .pointer (some ⟨hb, 0, none⟩)) rfl inv (by kernel_rfl) (by kernel_rfl) (by decide) (by decide) (by kernel_rfl) (by kernel_rfl) (by kernel_rfl) (fun _ _ _ h => HPN.out _ _ _ _ _ h) (Or.inl ⟨by rfl, fun w' hw' => ?_⟩) (HS3.out _ HBD3.out) (fun inv => ?_)
  · obtain h0 := hw'
    go_simp
  try simp only [Act.put, List.setIfInBounds_toArray, List.set_cons_zero, List.set_cons_succ]
  refine wpU_take (i := 2) (v := .pointer (some ⟨hb, 0 + 4, none⟩)) rfl inv (by kernel_rfl) (by kernel_rfl) (by decide) (by decide) (by kernel_rfl) (by kernel_rfl) (by kernel_rfl) (fun _ _ _ h => HPN.out _ _ _ _ _ h) (Or.inl ⟨by rfl, fun w' hw' => ?_⟩) (HS3.out _ HBD3.out) (fun inv => ?_)
  · obtain h0 := hw'
    go_simp
  try simp only [Act.put, List.setIfInBounds_toArray, List.set_cons_zero, List.set_cons_succ]
  refine wpU_take (i := 3) (v := .int .i64 (n : Int)) rfl inv (by kernel_rfl) (by kernel_rfl) (by decide) (by decide) (by kernel_rfl) (by kernel_rfl) (by kernel_rfl) (fun _ _ _ h => HPN.out _ _ _ _ _ h) (Or.inl ⟨by rfl, fun w' hw' => ?_⟩) (HS3.out _ HBD3.out) (fun inv => ?_)
  · obtain h0 := hw'
    go_simp
  try simp only [Act.put, List.setIfInBounds_toArray, List.set_cons_zero, List.set_cons_succ]
  refine wpU_take (i := 4) (v := .int .i64 (m : Int)) rfl inv (by kernel_rfl) (by kernel_rfl) (by decide) (by decide) (by kernel_rfl) (by kernel_rfl) (by kernel_rfl) (fun _ _ _ h => HPN.out _ _ _ _ _ h) (Or.inl ⟨by rfl, fun w' hw' => ?_⟩) (HS3.out _ HBD3.out) (fun inv => ?_)
  · obtain h0 := hw'
    go_simp
  try simp only [Act.put, List.setIfInBounds_toArray, List.set_cons_zero, List.set_cons_succ]
  refine wpU_take (i := 6) (v := .pointer (some ⟨hb, 0, none⟩)) rfl inv (by kernel_rfl) (by kernel_rfl) (by decide) (by decide) (by kernel_rfl) (by kernel_rfl) (by kernel_rfl) (fun _ _ _ h => HPN.out _ _ _ _ _ h) (Or.inl ⟨by rfl, fun w' hw' => ?_⟩) (HS3.out _ HBD3.out) (fun inv => ?_)
  · obtain h0 := hw'
    go_simp
  try simp only [Act.put, List.setIfInBounds_toArray, List.set_cons_zero, List.set_cons_succ]
  refine wpU_take (i := 7) (v := .pointer (some ⟨hb, 0, none⟩)) rfl inv (by kernel_rfl) (by kernel_rfl) (by decide) (by decide) (by kernel_rfl) (by kernel_rfl) (by kernel_rfl) (fun _ _ _ h => HPN.out _ _ _ _ _ h) (Or.inl ⟨by rfl, fun w' hw' => ?_⟩) (HS3.out _ HBD3.out) (fun inv => ?_)
  · obtain h0 := hw'
    go_simp
  try simp only [Act.put, List.setIfInBounds_toArray, List.set_cons_zero, List.set_cons_succ]
  refine wpU_take (i := 8) (v := .pointer (some ⟨hb, 0 + 4, none⟩)) rfl inv (by kernel_rfl) (by kernel_rfl) (by decide) (by decide) (by kernel_rfl) (by kernel_rfl) (by kernel_rfl) (fun _ _ _ h => HPN.out _ _ _ _ _ h) (Or.inl ⟨by rfl, fun w' hw' => ?_⟩) (HS3.out _ HBD3.out) (fun inv => ?_)
  · obtain h0 := hw'
    go_simp
  try simp only [Act.put, List.setIfInBounds_toArray, List.set_cons_zero, List.set_cons_succ]
  refine wpU_take (i := 9) (v := .int .i64 (n : Int)) rfl inv (by kernel_rfl) (by kernel_rfl) (by decide) (by decide) (by kernel_rfl) (by kernel_rfl) (by kernel_rfl) (fun _ _ _ h => HPN.out _ _ _ _ _ h) (Or.inl ⟨by rfl, fun w' hw' => ?_⟩) (HS3.out _ HBD3.out) (fun inv => ?_)
  · obtain h0 := hw'
    go_simp
  try simp only [Act.put, List.setIfInBounds_toArray, List.set_cons_zero, List.set_cons_succ]
  refine wpU_take (i := 10) (v := .int .i64 (m : Int)) rfl inv (by kernel_rfl) (by kernel_rfl) (by decide) (by decide) (by kernel_rfl) (by kernel_rfl) (by kernel_rfl) (fun _ _ _ h => HPN.out _ _ _ _ _ h) (Or.inl ⟨by rfl, fun w' hw' => ?_⟩) (HS3.out _ HBD3.out) (fun inv => ?_)
  · obtain h0 := hw'
    go_simp
  try simp only [Act.put, List.setIfInBounds_toArray, List.set_cons_zero, List.set_cons_succ]
  refine wpU_take (i := 12) (v := .pointer (some ⟨hb, 0, none⟩)) rfl inv (by kernel_rfl) (by kernel_rfl) (by decide) (by decide) (by kernel_rfl) (by kernel_rfl) (by kernel_rfl) (fun _ _ _ h => HPN.out _ _ _ _ _ h) (Or.inl ⟨by rfl, fun w' hw' => ?_⟩) (HS3.out _ HBD3.out) (fun inv => ?_)
  · obtain h0 := hw'
    go_simp
  try simp only [Act.put, List.setIfInBounds_toArray, List.set_cons_zero, List.set_cons_succ]
  refine wpU_take (i := 13) (v := .pointer (some ⟨hb, 0, none⟩)) rfl inv (by kernel_rfl) (by kernel_rfl) (by decide) (by decide) (by kernel_rfl) (by kernel_rfl) (by kernel_rfl) (fun _ _ _ h => HPN.out _ _ _ _ _ h) (Or.inl ⟨by rfl, fun w' hw' => ?_⟩) (HS3.out _ HBD3.out) (fun inv => ?_)
  · obtain h0 := hw'
    go_simp
  try simp only [Act.put, List.setIfInBounds_toArray, List.set_cons_zero, List.set_cons_succ]
  refine wpU_take (i := 14) (v := .pointer (some ⟨hb, 0 + 4, none⟩)) rfl inv (by kernel_rfl) (by kernel_rfl) (by decide) (by decide) (by kernel_rfl) (by kernel_rfl) (by kernel_rfl) (fun _ _ _ h => HPN.out _ _ _ _ _ h) (Or.inl ⟨by rfl, fun w' hw' => ?_⟩) (HS3.out _ HBD3.out) (fun inv => ?_)
  · obtain h0 := hw'
    go_simp
  try simp only [Act.put, List.setIfInBounds_toArray, List.set_cons_zero, List.set_cons_succ]
  refine wpU_take (i := 15) (v := .int .i64 (n : Int)) rfl inv (by kernel_rfl) (by kernel_rfl) (by decide) (by decide) (by kernel_rfl) (by kernel_rfl) (by kernel_rfl) (fun _ _ _ h => HPN.out _ _ _ _ _ h) (Or.inl ⟨by rfl, fun w' hw' => ?_⟩) (HS3.out _ HBD3.out) (fun inv => ?_)
  · obtain h0 := hw'
    go_simp
  try simp only [Act.put, List.setIfInBounds_toArray, List.set_cons_zero, List.set_cons_succ]
  refine wpU_take (i := 16) (v := .int .i64 (m : Int)) rfl inv (by kernel_rfl) (by kernel_rfl) (by decide) (by decide) (by kernel_rfl) (by kernel_rfl) (by kernel_rfl) (fun _ _ _ h => HPN.out _ _ _ _ _ h) (Or.inl ⟨by rfl, fun w' hw' => ?_⟩) (HS3.out _ HBD3.out) (fun inv => ?_)
  · obtain h0 := hw'
    go_simp
  try simp only [Act.put, List.setIfInBounds_toArray, List.set_cons_zero, List.set_cons_succ]
  clear HWD
  refine wpU_three (i := 5) (j := 11) (k := 17) (by kernel_rfl) rfl rfl rfl (fun K hK => ?_) (fun K hK => ?_) (fun K hK => ?_)
  · replace inv := inv_setc (i := 5) inv (by kernel_rfl) (by decide)
    go_simp
    have HA1 : Hid (Below wd.heap.size wd (wd.alloc (.cells (madeCells #[.int .i64 0] m) 3))) := (Below.refl _ _).alloc (Nat.le_refl _) _
    have hz1 : Hid ((wd.alloc (.cells (madeCells #[.int .i64 0] m) 3)).heap.size = wd.heap.size + 1) := by show _ = _; simp
    have HV5 := Lib.hid (vrow_new wd 3 (.int .i64 0) m (g := wd.heap.size) rfl)
    obtain ⟨wk1, HW1⟩ := nameIt (wd.alloc (.cells (madeCells #[.int .i64 0] m) 3))
    rw [HW1.out] at HA1 HV5 hz1
    rw [HW1.out]
    have HB31 : Hid (Below W.heap.size W wk1) := HBD3.out.trans (HA1.out.mono (by have := hsd3.out; skip; have := hz1.out; omega))
    refine hK.out _ _ (fun _ => HS3.out _ HB31.out) ?_
    clear hK K
    try simp only [Act.put, List.setIfInBounds_toArray, List.set_cons_zero, List.set_cons_succ]
    refine wpU_take (i := 18) (v := .slice (some ⟨wd.heap.size, 0, none⟩) m m) rfl inv (by kernel_rfl) (by kernel_rfl) (by decide) (by decide) (by kernel_rfl) (by kernel_rfl) (by kernel_rfl) (fun _ _ _ h => HPN.out _ _ _ _ _ h) (Or.inl ⟨by rfl, fun w' hw' => ?_⟩) (HS3.out _ HB31.out) (fun inv => ?_)
    · obtain h0 := hw'
      go_simp
    try simp only [Act.put, List.setIfInBounds_toArray, List.set_cons_zero, List.set_cons_succ]
    refine wpU_two (i := 11) (j := 17) (by kernel_rfl) rfl rfl (fun K hK => ?_) (fun K hK => ?_)
    · replace inv := inv_setc (i := 11) inv (by kernel_rfl) (by decide)
      go_simp
      have HA2 : Hid (Below wk1.heap.size wk1 (wk1.alloc (.cells (madeCells #[.bool false] m) 4))) := (Below.refl _ _).alloc (Nat.le_refl _) _
      have hz2 : Hid ((wk1.alloc (.cells (madeCells #[.bool false] m) 4)).heap.size = wk1.heap.size + 1) := by show _ = _; simp
      have HV11 := Lib.hid (Ln.brow_new wk1 m (g := wk1.heap.size) rfl)
      obtain ⟨wk2, HW2⟩ := nameIt (wk1.alloc (.cells (madeCells #[.bool false] m) 4))
      rw [HW2.out] at HA2 HV11 hz2
      rw [HW2.out]
      have HB32 : Hid (Below W.heap.size W wk2) := HB31.out.trans (HA2.out.mono (by have := hsd3.out; skip; have := hz1.out; have := hz2.out; omega))
      replace HV5 := Lib.hid (HV5.out.keep HA2.out)
      refine hK.out _ _ (fun _ => HS3.out _ HB32.out) ?_
      clear hK K
      try simp only [Act.put, List.setIfInBounds_toArray, List.set_cons_zero, List.set_cons_succ]
      refine wpU_take (i := 19) (v := .slice (some ⟨wk1.heap.size, 0, none⟩) m m) rfl inv (by kernel_rfl) (by kernel_rfl) (by decide) (by decide) (by kernel_rfl) (by kernel_rfl) (by kernel_rfl) (fun _ _ _ h => HPN.out _ _ _ _ _ h) (Or.inl ⟨by rfl, fun w' hw' => ?_⟩) (HS3.out _ HB32.out) (fun inv => ?_)
      · obtain h0 := hw'
        go_simp
      try simp only [Act.put, List.setIfInBounds_toArray, List.set_cons_zero, List.set_cons_succ]
      refine wpU_one (i := 17) (by kernel_rfl) rfl (fun K hK => ?_)
      replace inv := inv_setc (i := 17) inv (by kernel_rfl) (by decide)
      go_simp
      have HA3 : Hid (Below wk2.heap.size wk2 (wk2.alloc (.cells (madeCells #[.bool false] m) 4))) := (Below.refl _ _).alloc (Nat.le_refl _) _
      have hz3 : Hid ((wk2.alloc (.cells (madeCells #[.bool false] m) 4)).heap.size = wk2.heap.size + 1) := by show _ = _; simp
      have HV17 := Lib.hid (Ln.brow_new wk2 m (g := wk2.heap.size) rfl)
      obtain ⟨wk3, HW3⟩ := nameIt (wk2.alloc (.cells (madeCells #[.bool false] m) 4))
      rw [HW3.out] at HA3 HV17 hz3
      rw [HW3.out]
      have HB33 : Hid (Below W.heap.size W wk3) := HB32.out.trans (HA3.out.mono (by have := hsd3.out; skip; have := hz1.out; have := hz2.out; have := hz3.out; omega))
      replace HV5 := Lib.hid (HV5.out.keep HA3.out)
      replace HV11 := Lib.hid (HV11.out.keep HA3.out)
      refine hK.out _ _ (fun _ => HS3.out _ HB33.out) ?_
      clear hK K
      try simp only [Act.put, List.setIfInBounds_toArray, List.set_cons_zero, List.set_cons_succ]
      refine wpU_one (i := 20) (by kernel_rfl) rfl (fun K hK => ?_)
      go_simp
      refine hK.out _ _ (fun h => absurd (show true = false from h) (by decide)) ?_
      clear hK K
      try simp only [Act.put, List.setIfInBounds_toArray, List.set_cons_zero, List.set_cons_succ]
      refine wpU_done (by kernel_rfl) ?_ _
      have HR3 : Hid (R3 W.heap.size wd.heap.size wk1.heap.size wk2.heap.size m (fun _ => 0) (fun _ => false) (fun _ => false) wk3) := ⟨HV5.out, HV11.out, HV17.out, by have := hsd3.out; skip; have := hz1.out; have := hz2.out; have := hz3.out; omega, by have := hsd3.out; skip; have := hz1.out; have := hz2.out; have := hz3.out; omega⟩
      first | exact HQ.out wd.heap.size wk1.heap.size wk2.heap.size _ _ _ _ _ _ _ _ _ _ _ _ _ _ _ _ _ _ _ HR3 HB33 | (go_wp2_with fail; exact HQ.out wd.heap.size wk1.heap.size wk2.heap.size _ _ _ _ _ _ _ _ _ _ _ _ _ _ _ _ _ _ _ HR3 HB33)
    · replace inv := inv_setc (i := 17) inv (by kernel_rfl) (by decide)
      go_simp
      have HA2 : Hid (Below wk1.heap.size wk1 (wk1.alloc (.cells (madeCells #[.bool false] m) 4))) := (Below.refl _ _).alloc (Nat.le_refl _) _
      have hz2 : Hid ((wk1.alloc (.cells (madeCells #[.bool false] m) 4)).heap.size = wk1.heap.size + 1) := by show _ = _; simp
      have HV17 := Lib.hid (Ln.brow_new wk1 m (g := wk1.heap.size) rfl)
      obtain ⟨wk2, HW2⟩ := nameIt (wk1.alloc (.cells (madeCells #[.bool false] m) 4))
      rw [HW2.out] at HA2 HV17 hz2
      rw [HW2.out]
      have HB32 : Hid (Below W.heap.size W wk2) := HB31.out.trans (HA2.out.mono (by have := hsd3.out; skip; have := hz1.out; have := hz2.out; omega))
      replace HV5 := Lib.hid (HV5.out.keep HA2.out)
      refine hK.out _ _ (fun _ => HS3.out _ HB32.out) ?_
      clear hK K
      try simp only [Act.put, List.setIfInBounds_toArray, List.set_cons_zero, List.set_cons_succ]
      refine wpU_one (i := 11) (by kernel_rfl) rfl (fun K hK => ?_)
      replace inv := inv_setc (i := 11) inv (by kernel_rfl) (by decide)
      go_simp
      have HA3 : Hid (Below wk2.heap.size wk2 (wk2.alloc (.cells (madeCells #[.bool false] m) 4))) := (Below.refl _ _).alloc (Nat.le_refl _) _
      have hz3 : Hid ((wk2.alloc (.cells (madeCells #[.bool false] m) 4)).heap.size = wk2.heap.size + 1) := by show _ = _; simp
      have HV11 := Lib.hid (Ln.brow_new wk2 m (g := wk2.heap.size) rfl)
      obtain ⟨wk3, HW3⟩ := nameIt (wk2.alloc (.cells (madeCells #[.bool false] m) 4))
      rw [HW3.out] at HA3 HV11 hz3
      rw [HW3.out]
      have HB33 : Hid (Below W.heap.size W wk3) := HB32.out.trans (HA3.out.mono (by have := hsd3.out; skip; have := hz1.out; have := hz2.out; have := hz3.out; omega))
      replace HV5 := Lib.hid (HV5.out.keep HA3.out)
      replace HV17 := Lib.hid (HV17.out.keep HA3.out)
      refine hK.out _ _ (fun _ => HS3.out _ HB33.out) ?_
      clear hK K
      try simp only [Act.put, List.setIfInBounds_toArray, List.set_cons_zero, List.set_cons_succ]
      refine wpU_take (i := 19) (v := .slice (some ⟨wk2.heap.size, 0, none⟩) m m) rfl inv (by kernel_rfl) (by kernel_rfl) (by decide) (by decide) (by kernel_rfl) (by kernel_rfl) (by kernel_rfl) (fun _ _ _ h => HPN.out _ _ _ _ _ h) (Or.inl ⟨by rfl, fun w' hw' => ?_⟩) (HS3.out _ HB33.out) (fun inv => ?_)
      · obtain h0 := hw'
        go_simp
      try simp only [Act.put, List.setIfInBounds_toArray, List.set_cons_zero, List.set_cons_succ]
      refine wpU_one (i := 20) (by kernel_rfl) rfl (fun K hK => ?_)
      go_simp
      refine hK.out _ _ (fun h => absurd (show true = false from h) (by decide)) ?_
      clear hK K
      try simp only [Act.put, List.setIfInBounds_toArray, List.set_cons_zero, List.set_cons_succ]
      refine wpU_done (by kernel_rfl) ?_ _
      have HR3 : Hid (R3 W.heap.size wd.heap.size wk2.heap.size wk1.heap.size m (fun _ => 0) (fun _ => false) (fun _ => false) wk3) := ⟨HV5.out, HV11.out, HV17.out, by have := hsd3.out; skip; have := hz1.out; have := hz2.out; have := hz3.out; omega, by have := hsd3.out; skip; have := hz1.out; have := hz2.out; have := hz3.out; omega⟩
      first | exact HQ.out wd.heap.size wk2.heap.size wk1.heap.size _ _ _ _ _ _ _ _ _ _ _ _ _ _ _ _ _ _ _ HR3 HB33 | (go_wp2_with fail; exact HQ.out wd.heap.size wk2.heap.size wk1.heap.size _ _ _ _ _ _ _ _ _ _ _ _ _ _ _ _ _ _ _ HR3 HB33)
  · replace inv := inv_setc (i := 11) inv (by kernel_rfl) (by decide)
    go_simp
    have HA1 : Hid (Below wd.heap.size wd (wd.alloc (.cells (madeCells #[.bool false] m) 4))) := (Below.refl _ _).alloc (Nat.le_refl _) _
    have hz1 : Hid ((wd.alloc (.cells (madeCells #[.bool false] m) 4)).heap.size = wd.heap.size + 1) := by show _ = _; simp
    have HV11 := Lib.hid (Ln.brow_new wd m (g := wd.heap.size) rfl)
    obtain ⟨wk1, HW1⟩ := nameIt (wd.alloc (.cells (madeCells #[.bool false] m) 4))
    rw [HW1.out] at HA1 HV11 hz1
    rw [HW1.out]
    have HB31 : Hid (Below W.heap.size W wk1) := HBD3.out.trans (HA1.out.mono (by have := hsd3.out; skip; have := hz1.out; omega))
    refine hK.out _ _ (fun _ => HS3.out _ HB31.out) ?_
    clear hK K
    try simp only [Act.put, List.setIfInBounds_toArray, List.set_cons_zero, List.set_cons_succ]
    refine wpU_two (i := 5) (j := 17) (by kernel_rfl) rfl rfl (fun K hK => ?_) (fun K hK => ?_)
    · replace inv := inv_setc (i := 5) inv (by kernel_rfl) (by decide)
      go_simp
      have HA2 : Hid (Below wk1.heap.size wk1 (wk1.alloc (.cells (madeCells #[.int .i64 0] m) 3))) := (Below.refl _ _).alloc (Nat.le_refl _) _
      have hz2 : Hid ((wk1.alloc (.cells (madeCells #[.int .i64 0] m) 3)).heap.size = wk1.heap.size + 1) := by show _ = _; simp
      have HV5 := Lib.hid (vrow_new wk1 3 (.int .i64 0) m (g := wk1.heap.size) rfl)
      obtain ⟨wk2, HW2⟩ := nameIt (wk1.alloc (.cells (madeCells #[.int .i64 0] m) 3))
      rw [HW2.out] at HA2 HV5 hz2
      rw [HW2.out]
      have HB32 : Hid (Below W.heap.size W wk2) := HB31.out.trans (HA2.out.mono (by have := hsd3.out; skip; have := hz1.out; have := hz2.out; omega))
      replace HV11 := Lib.hid (HV11.out.keep HA2.out)
      refine hK.out _ _ (fun _ => HS3.out _ HB32.out) ?_
      clear hK K
      try simp only [Act.put, List.setIfInBounds_toArray, List.set_cons_zero, List.set_cons_succ]
      refine wpU_take (i := 18) (v := .slice (some ⟨wk1.heap.size, 0, none⟩) m m) rfl inv (by kernel_rfl) (by kernel_rfl) (by decide) (by decide) (by kernel_rfl) (by kernel_rfl) (by kernel_rfl) (fun _ _ _ h => HPN.out _ _ _ _ _ h) (Or.inl ⟨by rfl, fun w' hw' => ?_⟩) (HS3.out _ HB32.out) (fun inv => ?_)
      · obtain h0 := hw'
        go_simp
      try simp only [Act.put, List.setIfInBounds_toArray, List.set_cons_zero, List.set_cons_succ]
      refine wpU_take (i := 19) (v := .slice (some ⟨wd.heap.size, 0, none⟩) m m) rfl inv (by kernel_rfl) (by kernel_rfl) (by decide) (by decide) (by kernel_rfl) (by kernel_rfl) (by kernel_rfl) (fun _ _ _ h => HPN.out _ _ _ _ _ h) (Or.inl ⟨by rfl, fun w' hw' => ?_⟩) (HS3.out _ HB32.out) (fun inv => ?_)
      · obtain h0 := hw'
        go_simp
      try simp only [Act.put, List.setIfInBounds_toArray, List.set_cons_zero, List.set_cons_succ]
      refine wpU_one (i := 17) (by kernel_rfl) rfl (fun K hK => ?_)
      replace inv := inv_setc (i := 17) inv (by kernel_rfl) (by decide)
      go_simp
      have HA3 : Hid (Below wk2.heap.size wk2 (wk2.alloc (.cells (madeCells #[.bool false] m) 4))) := (Below.refl _ _).alloc (Nat.le_refl _) _
      have hz3 : Hid ((wk2.alloc (.cells (madeCells #[.bool false] m) 4)).heap.size = wk2.heap.size + 1) := by show _ = _; simp
      have HV17 := Lib.hid (Ln.brow_new wk2 m (g := wk2.heap.size) rfl)
      obtain ⟨wk3, HW3⟩ := nameIt (wk2.alloc (.cells (madeCells #[.bool false] m) 4))
      rw [HW3.out] at HA3 HV17 hz3
      rw [HW3.out]
      have HB33 : Hid (Below W.heap.size W wk3) := HB32.out.trans (HA3.out.mono (by have := hsd3.out; skip; have := hz1.out; have := hz2.out; have := hz3.out; omega))
      replace HV11 := Lib.hid (HV11.out.keep HA3.out)
      replace HV5 := Lib.hid (HV5.out.keep HA3.out)
      refine hK.out _ _ (fun _ => HS3.out _ HB33.out) ?_
      clear hK K
      try simp only [Act.put, List.setIfInBounds_toArray, List.set_cons_zero, List.set_cons_succ]
      refine wpU_one (i := 20) (by kernel_rfl) rfl (fun K hK => ?_)
      go_simp
      refine hK.out _ _ (fun h => absurd (show true = false from h) (by decide)) ?_
      clear hK K
      try simp only [Act.put, List.setIfInBounds_toArray, List.set_cons_zero, List.set_cons_succ]
      refine wpU_done (by kernel_rfl) ?_ _
      have HR3 : Hid (R3 W.heap.size wk1.heap.size wd.heap.size wk2.heap.size m (fun _ => 0) (fun _ => false) (fun _ => false) wk3) := ⟨HV5.out, HV11.out, HV17.out, by have := hsd3.out; skip; have := hz1.out; have := hz2.out; have := hz3.out; omega, by have := hsd3.out; skip; have := hz1.out; have := hz2.out; have := hz3.out; omega⟩
      first | exact HQ.out wk1.heap.size wd.heap.size wk2.heap.size _ _ _ _ _ _ _ _ _ _ _ _ _ _ _ _ _ _ _ HR3 HB33 | (go_wp2_with fail; exact HQ.out wk1.heap.size wd.heap.size wk2.heap.size _ _ _ _ _ _ _ _ _ _ _ _ _ _ _ _ _ _ _ HR3 HB33)
    · replace inv := inv_setc (i := 17) inv (by kernel_rfl) (by decide)
      go_simp
      have HA2 : Hid (Below wk1.heap.size wk1 (wk1.alloc (.cells (madeCells #[.bool false] m) 4))) := (Below.refl _ _).alloc (Nat.le_refl _) _
      have hz2 : Hid ((wk1.alloc (.cells (madeCells #[.bool false] m) 4)).heap.size = wk1.heap.size + 1) := by show _ = _; simp
      have HV17 := Lib.hid (Ln.brow_new wk1 m (g := wk1.heap.size) rfl)
      obtain ⟨wk2, HW2⟩ := nameIt (wk1.alloc (.cells (madeCells #[.bool false] m) 4))
      rw [HW2.out] at HA2 HV17 hz2
      rw [HW2.out]
      have HB32 : Hid (Below W.heap.size W wk2) := HB31.out.trans (HA2.out.mono (by have := hsd3.out; skip; have := hz1.out; have := hz2.out; omega))
      replace HV11 := Lib.hid (HV11.out.keep HA2.out)
      refine hK.out _ _ (fun _ => HS3.out _ HB32.out) ?_
      clear hK K
      try simp only [Act.put, List.setIfInBounds_toArray, List.set_cons_zero, List.set_cons_succ]
      refine wpU_one (i := 5) (by kernel_rfl) rfl (fun K hK => ?_)
      replace inv := inv_setc (i := 5) inv (by kernel_rfl) (by decide)
      go_simp
      have HA3 : Hid (Below wk2.heap.size wk2 (wk2.alloc (.cells (madeCells #[.int .i64 0] m) 3))) := (Below.refl _ _).alloc (Nat.le_refl _) _
      have hz3 : Hid ((wk2.alloc (.cells (madeCells #[.int .i64 0] m) 3)).heap.size = wk2.heap.size + 1) := by show _ = _; simp
      have HV5 := Lib.hid (vrow_new wk2 3 (.int .i64 0) m (g := wk2.heap.size) rfl)
      obtain ⟨wk3, HW3⟩ := nameIt (wk2.alloc (.cells (madeCells #[.int .i64 0] m) 3))
      rw [HW3.out] at HA3 HV5 hz3
      rw [HW3.out]
      have HB33 : Hid (Below W.heap.size W wk3) := HB32.out.trans (HA3.out.mono (by have := hsd3.out; skip; have := hz1.out; have := hz2.out; have := hz3.out; omega))
      replace HV11 := Lib.hid (HV11.out.keep HA3.out)
      replace HV17 := Lib.hid (HV17.out.keep HA3.out)
      refine hK.out _ _ (fun _ => HS3.out _ HB33.out) ?_
      clear hK K
      try simp only [Act.put, List.setIfInBounds_toArray, List.set_cons_zero, List.set_cons_succ]
      refine wpU_take (i := 18) (v := .slice (some ⟨wk2.heap.size, 0, none⟩) m m) rfl inv (by kernel_rfl) (by kernel_rfl) (by decide) (by decide) (by kernel_rfl) (by kernel_rfl) (by kernel_rfl) (fun _ _ _ h => HPN.out _ _ _ _ _ h) (Or.inl ⟨by rfl, fun w' hw' => ?_⟩) (HS3.out _ HB33.out) (fun inv => ?_)
      · obtain h0 := hw'
        go_simp
      try simp only [Act.put, List.setIfInBounds_toArray, List.set_cons_zero, List.set_cons_succ]
      refine wpU_take (i := 19) (v := .slice (some ⟨wd.heap.size, 0, none⟩) m m) rfl inv (by kernel_rfl) (by kernel_rfl) (by decide) (by decide) (by kernel_rfl) (by kernel_rfl) (by kernel_rfl) (fun _ _ _ h => HPN.out _ _ _ _ _ h) (Or.inl ⟨by rfl, fun w' hw' => ?_⟩) (HS3.out _ HB33.out) (fun inv => ?_)
      · obtain h0 := hw'
        go_simp
      try simp only [Act.put, List.setIfInBounds_toArray, List.set_cons_zero, List.set_cons_succ]
      refine wpU_one (i := 20) (by kernel_rfl) rfl (fun K hK => ?_)
      go_simp
      refine hK.out _ _ (fun h => absurd (show true = false from h) (by decide)) ?_
      clear hK K
      try simp only [Act.put, List.setIfInBounds_toArray, List.set_cons_zero, List.set_cons_succ]
      refine wpU_done (by kernel_rfl) ?_ _
      have HR3 : Hid (R3 W.heap.size wk2.heap.size wd.heap.size wk1.heap.size m (fun _ => 0) (fun _ => false) (fun _ => false) wk3) := ⟨HV5.out, HV11.out, HV17.out, by have := hsd3.out; skip; have := hz1.out; have := hz2.out; have := hz3.out; omega, by have := hsd3.out; skip; have := hz1.out; have := hz2.out; have := hz3.out; omega⟩
      first | exact HQ.out wk2.heap.size wd.heap.size wk1.heap.size _ _ _ _ _ _ _ _ _ _ _ _ _ _ _ _ _ _ _ HR3 HB33 | (go_wp2_with fail; exact HQ.out wk2.heap.size wd.heap.size wk1.heap.size _ _ _ _ _ _ _ _ _ _ _ _ _ _ _ _ _ _ _ HR3 HB33)
  · replace inv := inv_setc (i := 17) inv (by kernel_rfl) (by decide)
    go_simp
    have HA1 : Hid (Below wd.heap.size wd (wd.alloc (.cells (madeCells #[.bool false] m) 4))) := (Below.refl _ _).alloc (Nat.le_refl _) _
    have hz1 : Hid ((wd.alloc (.cells (madeCells #[.bool false] m) 4)).heap.size = wd.heap.size + 1) := by show _ = _; simp
    have HV17 := Lib.hid (Ln.brow_new wd m (g := wd.heap.size) rfl)
    obtain ⟨wk1, HW1⟩ := nameIt (wd.alloc (.cells (madeCells #[.bool false] m) 4))
    rw [HW1.out] at HA1 HV17 hz1
    rw [HW1.out]
    have HB31 : Hid (Below W.heap.size W wk1) := HBD3.out.trans (HA1.out.mono (by have := hsd3.out; skip; have := hz1.out; omega))
    refine hK.out _ _ (fun _ => HS3.out _ HB31.out) ?_
    clear hK K
    try simp only [Act.put, List.setIfInBounds_toArray, List.set_cons_zero, List.set_cons_succ]
    refine wpU_two (i := 5) (j := 11) (by kernel_rfl) rfl rfl (fun K hK => ?_) (fun K hK => ?_)
    · replace inv := inv_setc (i := 5) inv (by kernel_rfl) (by decide)
      go_simp
      have HA2 : Hid (Below wk1.heap.size wk1 (wk1.alloc (.cells (madeCells #[.int .i64 0] m) 3))) := (Below.refl _ _).alloc (Nat.le_refl _) _
      have hz2 : Hid ((wk1.alloc (.cells (madeCells #[.int .i64 0] m) 3)).heap.size = wk1.heap.size + 1) := by show _ = _; simp
      have HV5 := Lib.hid (vrow_new wk1 3 (.int .i64 0) m (g := wk1.heap.size) rfl)
      obtain ⟨wk2, HW2⟩ := nameIt (wk1.alloc (.cells (madeCells #[.int .i64 0] m) 3))
      rw [HW2.out] at HA2 HV5 hz2
      rw [HW2.out]
      have HB32 : Hid (Below W.heap.size W wk2) := HB31.out.trans (HA2.out.mono (by have := hsd3.out; skip; have := hz1.out; have := hz2.out; omega))
      replace HV17 := Lib.hid (HV17.out.keep HA2.out)
      refine hK.out _ _ (fun _ => HS3.out _ HB32.out) ?_
      clear hK K
      try simp only [Act.put, List.setIfInBounds_toArray, List.set_cons_zero, List.set_cons_succ]
      refine wpU_take (i := 18) (v := .slice (some ⟨wk1.heap.size, 0, none⟩) m m) rfl inv (by kernel_rfl) (by kernel_rfl) (by decide) (by decide) (by kernel_rfl) (by kernel_rfl) (by kernel_rfl) (fun _ _ _ h => HPN.out _ _ _ _ _ h) (Or.inl ⟨by rfl, fun w' hw' => ?_⟩) (HS3.out _ HB32.out) (fun inv => ?_)
      · obtain h0 := hw'
        go_simp
      try simp only [Act.put, List.setIfInBounds_toArray, List.set_cons_zero, List.set_cons_succ]
      refine wpU_one (i := 11) (by kernel_rfl) rfl (fun K hK => ?_)
      replace inv := inv_setc (i := 11) inv (by kernel_rfl) (by decide)
      go_simp
      have HA3 : Hid (Below wk2.heap.size wk2 (wk2.alloc (.cells (madeCells #[.bool false] m) 4))) := (Below.refl _ _).alloc (Nat.le_refl _) _
      have hz3 : Hid ((wk2.alloc (.cells (madeCells #[.bool false] m) 4)).heap.size = wk2.heap.size + 1) := by show _ = _; simp
      have HV11 := Lib.hid (Ln.brow_new wk2 m (g := wk2.heap.size) rfl)
      obtain ⟨wk3, HW3⟩ := nameIt (wk2.alloc (.cells (madeCells #[.bool false] m) 4))
      rw [HW3.out] at HA3 HV11 hz3
      rw [HW3.out]
      have HB33 : Hid (Below W.heap.size W wk3) := HB32.out.trans (HA3.out.mono (by have := hsd3.out; skip; have := hz1.out; have := hz2.out; have := hz3.out; omega))
      replace HV17 := Lib.hid (HV17.out.keep HA3.out)
      replace HV5 := Lib.hid (HV5.out.keep HA3.out)
      refine hK.out _ _ (fun _ => HS3.out _ HB33.out) ?_
      clear hK K
      try simp only [Act.put, List.setIfInBounds_toArray, List.set_cons_zero, List.set_cons_succ]
      refine wpU_take (i := 19) (v := .slice (some ⟨wk2.heap.size, 0, none⟩) m m) rfl inv (by kernel_rfl) (by kernel_rfl) (by decide) (by decide) (by kernel_rfl) (by kernel_rfl) (by kernel_rfl) (fun _ _ _ h => HPN.out _ _ _ _ _ h) (Or.inl ⟨by rfl, fun w' hw' => ?_⟩) (HS3.out _ HB33.out) (fun inv => ?_)
      · obtain h0 := hw'
        go_simp
      try simp only [Act.put, List.setIfInBounds_toArray, List.set_cons_zero, List.set_cons_succ]
      refine wpU_one (i := 20) (by kernel_rfl) rfl (fun K hK => ?_)
      go_simp
      refine hK.out _ _ (fun h => absurd (show true = false from h) (by decide)) ?_
      clear hK K
      try simp only [Act.put, List.setIfInBounds_toArray, List.set_cons_zero, List.set_cons_succ]
      refine wpU_done (by kernel_rfl) ?_ _
      have HR3 : Hid (R3 W.heap.size wk1.heap.size wk2.heap.size wd.heap.size m (fun _ => 0) (fun _ => false) (fun _ => false) wk3) := ⟨HV5.out, HV11.out, HV17.out, by have := hsd3.out; skip; have := hz1.out; have := hz2.out; have := hz3.out; omega, by have := hsd3.out; skip; have := hz1.out; have := hz2.out; have := hz3.out; omega⟩
      first | exact HQ.out wk1.heap.size wk2.heap.size wd.heap.size _ _ _ _ _ _ _ _ _ _ _ _ _ _ _ _ _ _ _ HR3 HB33 | (go_wp2_with fail; exact HQ.out wk1.heap.size wk2.heap.size wd.heap.size _ _ _ _ _ _ _ _ _ _ _ _ _ _ _ _ _ _ _ HR3 HB33)
    · replace inv := inv_setc (i := 11) inv (by kernel_rfl) (by decide)
      go_simp
      have HA2 : Hid (Below wk1.heap.size wk1 (wk1.alloc (.cells (madeCells #[.bool false] m) 4))) := (Below.refl _ _).alloc (Nat.le_refl _) _
      have hz2 : Hid ((wk1.alloc (.cells (madeCells #[.bool false] m) 4)).heap.size = wk1.heap.size + 1) := by show _ = _; simp
      have HV11 := Lib.hid (Ln.brow_new wk1 m (g := wk1.heap.size) rfl)
      obtain ⟨wk2, HW2⟩ := nameIt (wk1.alloc (.cells (madeCells #[.bool false] m) 4))
      rw [HW2.out] at HA2 HV11 hz2
      rw [HW2.out]
      have HB32 : Hid (Below W.heap.size W wk2) := HB31.out.trans (HA2.out.mono (by have := hsd3.out; skip; have := hz1.out; have := hz2.out; omega))
      replace HV17 := Lib.hid (HV17.out.keep HA2.out)
      refine hK.out _ _ (fun _ => HS3.out _ HB32.out) ?_
      clear hK K
      try simp only [Act.put, List.setIfInBounds_toArray, List.set_cons_zero, List.set_cons_succ]
      refine wpU_one (i := 5) (by kernel_rfl) rfl (fun K hK => ?_)
      replace inv := inv_setc (i := 5) inv (by kernel_rfl) (by decide)
      go_simp
      have HA3 : Hid (Below wk2.heap.size wk2 (wk2.alloc (.cells (madeCells #[.int .i64 0] m) 3))) := (Below.refl _ _).alloc (Nat.le_refl _) _
      have hz3 : Hid ((wk2.alloc (.cells (madeCells #[.int .i64 0] m) 3)).heap.size = wk2.heap.size + 1) := by show _ = _; simp
      have HV5 := Lib.hid (vrow_new wk2 3 (.int .i64 0) m (g := wk2.heap.size) rfl)
      obtain ⟨wk3, HW3⟩ := nameIt (wk2.alloc (.cells (madeCells #[.int .i64 0] m) 3))
      rw [HW3.out] at HA3 HV5 hz3
      rw [HW3.out]
      have HB33 : Hid (Below W.heap.size W wk3) := HB32.out.trans (HA3.out.mono (by have := hsd3.out; skip; have := hz1.out; have := hz2.out; have := hz3.out; omega))
      replace HV17 := Lib.hid (HV17.out.keep HA3.out)
      replace HV11 := Lib.hid (HV11.out.keep HA3.out)
      refine hK.out _ _ (fun _ => HS3.out _ HB33.out) ?_
      clear hK K
      try simp only [Act.put, List.setIfInBounds_toArray, List.set_cons_zero, List.set_cons_succ]
      refine wpU_take (i := 18) (v := .slice (some ⟨wk2.heap.size, 0, none⟩) m m) rfl inv (by kernel_rfl) (by kernel_rfl) (by decide) (by decide) (by kernel_rfl) (by kernel_rfl) (by kernel_rfl) (fun _ _ _ h => HPN.out _ _ _ _ _ h) (Or.inl ⟨by rfl, fun w' hw' => ?_⟩) (HS3.out _ HB33.out) (fun inv => ?_)
      · obtain h0 := hw'
        go_simp
      try simp only [Act.put, List.setIfInBounds_toArray, List.set_cons_zero, List.set_cons_succ]
      refine wpU_take (i := 19) (v := .slice (some ⟨wk1.heap.size, 0, none⟩) m m) rfl inv (by kernel_rfl) (by kernel_rfl) (by decide) (by decide) (by kernel_rfl) (by kernel_rfl) (by kernel_rfl) (fun _ _ _ h => HPN.out _ _ _ _ _ h) (Or.inl ⟨by rfl, fun w' hw' => ?_⟩) (HS3.out _ HB33.out) (fun inv => ?_)
      · obtain h0 := hw'
        go_simp
      try simp only [Act.put, List.setIfInBounds_toArray, List.set_cons_zero, List.set_cons_succ]
      refine wpU_one (i := 20) (by kernel_rfl) rfl (fun K hK => ?_)
      go_simp
      refine hK.out _ _ (fun h => absurd (show true = false from h) (by decide)) ?_
      clear hK K
      try simp only [Act.put, List.setIfInBounds_toArray, List.set_cons_zero, List.set_cons_succ]
      refine wpU_done (by kernel_rfl) ?_ _
      have HR3 : Hid (R3 W.heap.size wk2.heap.size wk1.heap.size wd.heap.size m (fun _ => 0) (fun _ => false) (fun _ => false) wk3) := ⟨HV5.out, HV11.out, HV17.out, by have := hsd3.out; skip; have := hz1.out; have := hz2.out; have := hz3.out; omega, by have := hsd3.out; skip; have := hz1.out; have := hz2.out; have := hz3.out; omega⟩
      first | exact HQ.out wk2.heap.size wk1.heap.size wd.heap.size _ _ _ _ _ _ _ _ _ _ _ _ _ _ _ _ _ _ _ HR3 HB33 | (go_wp2_with fail; exact HQ.out wk2.heap.size wk1.heap.size wd.heap.size _ _ _ _ _ _ _ _ _ _ _ _ _ _ _ _ _ _ _ HR3 HB33)
noncomputable def row_r6c : Code := ((Try.f58.body.bind (findRegion 6)).getD .skip)
set_option maxHeartbeats 16000000 in
set_option maxRecDepth 1000000 in
theorem row_r6 {n m hb : Nat} {W : World} (hm1 : 1 ≤ m) (hm2 : m ≤ 25) (hw1 : IntKind.i64.wrap ((n : Int) + 1) = (m : Int))
    (hmkI : ∀ W : World, (Instr.makeSlice 33 (.int .i64 (m : Int)) (.int .i64 (m : Int))).run Try.prog W = .ok (.slice (some ⟨W.heap.size, 0, none⟩) m m) (W.alloc (.cells (madeCells #[.int .i64 0] m) 3)))
    (hmkB : ∀ W : World, (Instr.makeSlice 51 (.int .i64 (m : Int)) (.int .i64 (m : Int))).run Try.prog W = .ok (.slice (some ⟨W.heap.size, 0, none⟩) m m) (W.alloc (.cells (madeCells #[.bool false] m) 4)))
    (HSN3 : Hid (∀ W', Below W.heap.size W W' → W'.cell? ⟨hb, 0 + 4, none⟩ = some (.int .i64 (n : Int))))
    (a1 a2 a3 a4 a5 a6 a7 a8 a9 a10 a11 a12 a13 a14 a15 a16 a17 a18 a19 a20 a21 a22 a23 a24 a25 a26 a27 a28 a29 a30 a31 a32 a33 a34 a35 a36 a37 a38 a39 a40 a41 a42 a43 a44 a45 a46 a47 a48 a49 a50 a51 a52 a53 a54 a55 a56 a57 a58 a59 a60 a61 a62 a63 a64 a65 a66 a67 a68 a69 a70 a71 a72 a73 a74 a75 a76 a77 a78 a79 a80 a81 a82 a83 a84 a85 a86 a87 a88 a89 a90 a91 a92 a93 a94 a95 a96 a97 a98 a99 a100 a101 a102 a103 a104 a105 a106 a107 a108 a109 a110 a111 a112 a113 a114 a115 a116 a117 a118 a119 a120 a121 a122 a123 a124 a125 a126 a127 a128 a129 a130 a131 a132 a133 a134 a135 a136 a137 a138 a139 a140 a141 a142 a143 a144 a145 a146 a147 a148 a149 a150 a151 a152 a153 a154 a155 a156 a157 a158 a159 a160 a161 a162 a163 a164 a165 a166 a167 a168 a169 a170 a171 a172 a173 a174 a175 a176 a177 a178 a179 a180 a181 a182 a183 a184 a185 a186 a187 a188 a189 a190 a191 a192 a193 a194 a195 a196 a197 : Value) {Q : Exit → Act → World → Prop} (hP : ∀ c a t v w, Q (.panic c) (Act.put a t v) w → Q (.panic c) a w)
    (hQ : ∀ (p1 p2 p3 : Nat) (b48 b49 b50 b51 b52 b53 b54 b55 b56 b57 b58 b59 b60 b61 b62 b63 b64 b65 : Value) (wx : World), Hid (R3 W.heap.size p1 p2 p3 m (fun _ => 0) (fun _ => false) (fun _ => false) wx) → Hid (Below W.heap.size W wx) → Q .normal ⟨#[.pointer (some ⟨hb, 0, none⟩), a1, a2, a3, a4, a5, a6, a7, a8, a9, a10, a11, .slice (some ⟨p1, 0, none⟩) m m, .slice (some ⟨p2, 0, none⟩) m m, .slice (some ⟨p3, 0, none⟩) m m, a15, a16, a17, a18, a19, a20, a21, a22, a23, a24, a25, a26, a27, a28, a29, a30, a31, a32, a33, a34, a35, a36, a37, a38, a39, a40, a41, a42, a43, a44, a45, a46, a47, b48, b49, b50, b51, b52, b53, b54, b55, b56, b57, b58, b59, b60, b61, b62, b63, b64, b65, a66, a67, a68, a69, a70, a71, a72, a73, a74, a75, a76, a77, a78, a79, a80, a81, a82, a83, a84, a85, a86, a87, a88, a89, a90, a91, a92, a93, a94, a95, a96, a97, a98, a99, a100, a101, a102, a103, a104, a105, a106, a107, a108, a109, a110, a111, a112, a113, a114, a115, a116, a117, a118, a119, a120, a121, a122, a123, a124, a125, a126, a127, a128, a129, a130, a131, a132, a133, a134, a135, a136, a137, a138, a139, a140, a141, a142, a143, a144, a145, a146, a147, a148, a149, a150, a151, a152, a153, a154, a155, a156, a157, a158, a159, a160, a161, a162, a163, a164, a165, a166, a167, a168, a169, a170, a171, a172, a173, a174, a175, a176, a177, a178, a179, a180, a181, a182, a183, a184, a185, a186, a187, a188, a189, a190, a191, a192, a193, a194, a195, a196, a197], []⟩ wx) :
    Code.wp Try.prog row_r6c Q ⟨#[.pointer (some ⟨hb, 0, none⟩), a1, a2, a3, a4, a5, a6, a7, a8, a9, a10, a11, a12, a13, a14, a15, a16, a17, a18, a19, a20, a21, a22, a23, a24, a25, a26, a27, a28, a29, a30, a31, a32, a33, a34, a35, a36, a37, a38, a39, a40, a41, a42, a43, a44, a45, a46, a47, a48, a49, a50, a51, a52, a53, a54, a55, a56, a57, a58, a59, a60, a61, a62, a63, a64, a65, a66, a67, a68, a69, a70, a71, a72, a73, a74, a75, a76, a77, a78, a79, a80, a81, a82, a83, a84, a85, a86, a87, a88, a89, a90, a91, a92, a93, a94, a95, a96, a97, a98, a99, a100, a101, a102, a103, a104, a105, a106, a107, a108, a109, a110, a111, a112, a113, a114, a115, a116, a117, a118, a119, a120, a121, a122, a123, a124, a125, a126, a127, a128, a129, a130, a131, a132, a133, a134, a135, a136, a137, a138, a139, a140, a141, a142, a143, a144, a145, a146, a147, a148, a149, a150, a151, a152, a153, a154, a155, a156, a157, a158, a159, a160, a161, a162, a163, a164, a165, a166, a167, a168, a169, a170, a171, a172, a173, a174, a175, a176, a177, a178, a179, a180, a181, a182, a183, a184, a185, a186, a187, a188, a189, a190, a191, a192, a193, a194, a195, a196, a197], []⟩ W := by
  have HQ := Lib.hid hQ
  have HPN := Lib.hid hP
  clear hQ hP
  conv => arg 2; whnf
  have HS3 : Hid (∀ W', Below W.heap.size W W' → (fun w' => w'.cell? ⟨hb, 0 + 4, none⟩ = some (.int .i64 (n : Int))) W') := HSN3
  have HBD3 : Hid (Below W.heap.size W W.drew) := (Below.refl _ _).drew
  have hsd3 : Hid (W.drew.heap.size = W.heap.size) := rfl
  obtain ⟨wd, HWD⟩ := nameIt W.drew
  rw [HWD.out] at HBD3 hsd3
  refine wp_region_U (S := (fun w' => w'.cell? ⟨hb, 0 + 4, none⟩ = some (.int .i64 (n : Int)))) 20 (by kernel_rfl) (fun inv => ?_)
  rw [HWD.out]
  refine wpU_take (i := 0) (v := .pointer (some ⟨hb, 0, none⟩)) rfl inv (by kernel_rfl) (by kernel_rfl) (by decide) (by decide) (by kernel_rfl) (by kernel_rfl) (by kernel_rfl) (fun _ _ _ h => HPN.out _ _ _ _ _ h) (Or.inl ⟨by rfl, fun w' hw' => ?_⟩) (HS3.out _ HBD3.out) (fun inv => ?_)
  · obtain h0 := hw'
    go_simp
  try simp only [Act.put, List.setIfInBounds_toArray, List.set_cons_zero, List.set_cons_succ]
  refine wpU_take (i := 1) (v := .pointer (some ⟨hb, 0, none⟩)) rfl inv (by kernel_rfl) (by kernel_rfl) (by decide) (by decide) (by kernel_rfl) (by kernel_rfl) (by kernel_rfl) (fun _ _ _ h => HPN.out _ _ _ _ _ h) (Or.inl ⟨by rfl, fun w' hw' => ?_⟩) (HS3.out _ HBD3.out) (fun inv => ?_)
  · obtain h0 := hw'
    go_simp
  try simp only [Act.put, List.setIfInBounds_toArray, List.set_cons_zero, List.set_cons_succ]
  refine wpU_take (i := 2) (v := .pointer (some ⟨hb, 0 + 4, none⟩)) rfl inv (by kernel_rfl) (by kernel_rfl) (by decide) (by decide) (by kernel_rfl) (by kernel_rfl) (by kernel_rfl) (fun _ _ _ h => HPN.out _ _ _ _ _ h) (Or.inl ⟨by rfl, fun w' hw' => ?_⟩) (HS3.out _ HBD3.out) (fun inv => ?_)
  · obtain h0 := hw'
    go_simp
  try simp only [Act.put, List.setIfInBounds_toArray, List.set_cons_zero, List.set_cons_succ]
  refine wpU_take (i := 3) (v := .int .i64 (n : Int)) rfl inv (by kernel_rfl) (by kernel_rfl) (by decide) (by decide) (by kernel_rfl) (by kernel_rfl) (by kernel_rfl) (fun _ _ _ h => HPN.out _ _ _ _ _ h) (Or.inl ⟨by rfl, fun w' hw' => ?_⟩) (HS3.out _ HBD3.out) (fun inv => ?_)
  · obtain h0 := hw'
    go_simp
  try simp only [Act.put, List.setIfInBounds_toArray, List.set_cons_zero, List.set_cons_succ]
  refine wpU_take (i := 4) (v := .int .i64 (m : Int)) rfl inv (by kernel_rfl) (by kernel_rfl) (by decide) (by decide) (by kernel_rfl) (by kernel_rfl) (by kernel_rfl) (fun _ _ _ h => HPN.out _ _ _ _ _ h) (Or.inl ⟨by rfl, fun w' hw' => ?_⟩) (HS3.out _ HBD3.out) (fun inv => ?_)
  · obtain h0 := hw'
    go_simp
  try simp only [Act.put, List.setIfInBounds_toArray, List.set_cons_zero, List.set_cons_succ]
  refine wpU_take (i := 6) (v := .pointer (some ⟨hb, 0, none⟩)) rfl inv (by kernel_rfl) (by kernel_rfl) (by decide) (by decide) (by kernel_rfl) (by kernel_rfl) (by kernel_rfl) (fun _ _ _ h => HPN.out _ _ _ _ _ h) (Or.inl ⟨by rfl, fun w' hw' => ?_⟩) (HS3.out _ HBD3.out) (fun inv => ?_)
  · obtain h0 := hw'
    go_simp
  try simp only [Act.put, List.setIfInBounds_toArray, List.set_cons_zero, List.set_cons_succ]
  refine wpU_take (i := 7) (v := .pointer (some ⟨hb, 0, none⟩)) rfl inv (by kernel_rfl) (by kernel_rfl) (by decide) (by decide) (by kernel_rfl) (by kernel_rfl) (by kernel_rfl) (fun _ _ _ h => HPN.out _ _ _ _ _ h) (Or.inl ⟨by rfl, fun w' hw' => ?_⟩) (HS3.out _ HBD3.out) (fun inv => ?_)
  · obtain h0 := hw'
    go_simp
  try simp only [Act.put, List.setIfInBounds_toArray, List.set_cons_zero, List.set_cons_succ]
  refine wpU_take (i := 8) (v := .pointer (some ⟨hb, 0 + 4, none⟩)) rfl inv (by kernel_rfl) (by kernel_rfl) (by decide) (by decide) (by kernel_rfl) (by kernel_rfl) (by kernel_rfl) (fun _ _ _ h => HPN.out _ _ _ _ _ h) (Or.inl ⟨by rfl, fun w' hw' => ?_⟩) (HS3.out _ HBD3.out) (fun inv => ?_)
  · obtain h0 := hw'
    go_simp
  try simp only [Act.put, List.setIfInBounds_toArray, List.set_cons_zero, List.set_cons_succ]
  refine wpU_take (i := 9) (v := .int .i64 (n : Int)) rfl inv (by kernel_rfl) (by kernel_rfl) (by decide) (by decide) (by kernel_rfl) (by kernel_rfl) (by kernel_rfl) (fun _ _ _ h => HPN.out _ _ _ _ _ h) (Or.inl ⟨by rfl, fun w' hw' => ?_⟩) (HS3.out _ HBD3.out) (fun inv => ?_)
  · obtain h0 := hw'
    go_simp
  try simp only [Act.put, List.setIfInBounds_toArray, List.set_cons_zero, List.set_cons_succ]
  refine wpU_take (i := 10) (v := .int .i64 (m : Int)) rfl inv (by kernel_rfl) (by kernel_rfl) (by decide) (by decide) (by kernel_rfl) (by kernel_rfl) (by kernel_rfl) (fun _ _ _ h => HPN.out _ _ _ _ _ h) (Or.inl ⟨by rfl, fun w' hw' => ?_⟩) (HS3.out _ HBD3.out) (fun inv => ?_)
  · obtain h0 := hw'
    go_simp
  try simp only [Act.put, List.setIfInBounds_toArray, List.set_cons_zero, List.set_cons_succ]
  refine wpU_take (i := 12) (v := .pointer (some ⟨hb, 0, none⟩)) rfl inv (by kernel_rfl) (by kernel_rfl) (by decide) (by decide) (by kernel_rfl) (by kernel_rfl) (by kernel_rfl) (fun _ _ _ h => HPN.out _ _ _ _ _ h) (Or.inl ⟨by rfl, fun w' hw' => ?_⟩) (HS3.out _ HBD3.out) (fun inv => ?_)
  · obtain h0 := hw'
    go_simp
  try simp only [Act.put, List.setIfInBounds_toArray, List.set_cons_zero, List.set_cons_succ]
  refine wpU_take (i := 13) (v := .pointer (some ⟨hb, 0, none⟩)) rfl inv (by kernel_rfl) (by kernel_rfl) (by decide) (by decide) (by kernel_rfl) (by kernel_rfl) (by kernel_rfl) (fun _ _ _ h => HPN.out _ _ _ _ _ h) (Or.inl ⟨by rfl, fun w' hw' => ?_⟩) (HS3.out _ HBD3.out) (fun inv => ?_)
  · obtain h0 := hw'
    go_simp
  try simp only [Act.put, List.setIfInBounds_toArray, List.set_cons_zero, List.set_cons_succ]
  refine wpU_take (i := 14) (v := .pointer (some ⟨hb, 0 + 4, none⟩)) rfl inv (by kernel_rfl) (by kernel_rfl) (by decide) (by decide) (by kernel_rfl) (by kernel_rfl) (by kernel_rfl) (fun _ _ _ h => HPN.out _ _ _ _ _ h) (Or.inl ⟨by rfl, fun w' hw' => ?_⟩) (HS3.out _ HBD3.out) (fun inv => ?_)
  · obtain h0 := hw'
    go_simp
  try simp only [Act.put, List.setIfInBounds_toArray, List.set_cons_zero, List.set_cons_succ]
  refine wpU_take (i := 15) (v := .int .i64 (n : Int)) rfl inv (by kernel_rfl) (by kernel_rfl) (by decide) (by decide) (by kernel_rfl) (by kernel_rfl) (by kernel_rfl) (fun _ _ _ h => HPN.out _ _ _ _ _ h) (Or.inl ⟨by rfl, fun w' hw' => ?_⟩) (HS3.out _ HBD3.out) (fun inv => ?_)
  · obtain h0 := hw'
    go_simp
  try simp only [Act.put, List.setIfInBounds_toArray, List.set_cons_zero, List.set_cons_succ]
  refine wpU_take (i := 16) (v := .int .i64 (m : Int)) rfl inv (by kernel_rfl) (by kernel_rfl) (by decide) (by decide) (by kernel_rfl) (by kernel_rfl) (by kernel_rfl) (fun _ _ _ h => HPN.out _ _ _ _ _ h) (Or.inl ⟨by rfl, fun w' hw' => ?_⟩) (HS3.out _ HBD3.out) (fun inv => ?_)
  · obtain h0 := hw'
    go_simp
  try simp only [Act.put, List.setIfInBounds_toArray, List.set_cons_zero, List.set_cons_succ]
  clear HWD
  refine wpU_three (i := 5) (j := 11) (k := 17) (by kernel_rfl) rfl rfl rfl (fun K hK => ?_) (fun K hK => ?_) (fun K hK => ?_)
  · replace inv := inv_setc (i := 5) inv (by kernel_rfl) (by decide)
    go_simp
    have HA1 : Hid (Below wd.heap.size wd (wd.alloc (.cells (madeCells #[.int .i64 0] m) 3))) := (Below.refl _ _).alloc (Nat.le_refl _) _
    have hz1 : Hid ((wd.alloc (.cells (madeCells #[.int .i64 0] m) 3)).heap.size = wd.heap.size + 1) := by show _ = _; simp
    have HV5 := Lib.hid (vrow_new wd 3 (.int .i64 0) m (g := wd.heap.size) rfl)
    obtain ⟨wk1, HW1⟩ := nameIt (wd.alloc (.cells (madeCells #[.int .i64 0] m) 3))
    rw [HW1.out] at HA1 HV5 hz1
    rw [HW1.out]
    have HB31 : Hid (Below W.heap.size W wk1) := HBD3.out.trans (HA1.out.mono (by have := hsd3.out; skip; have := hz1.out; omega))
    refine hK.out _ _ (fun _ => HS3.out _ HB31.out) ?_
    clear hK K
    try simp only [Act.put, List.setIfInBounds_toArray, List.set_cons_zero, List.set_cons_succ]
    refine wpU_take (i := 18) (v := .slice (some ⟨wd.heap.size, 0, none⟩) m m) rfl inv (by kernel_rfl) (by kernel_rfl) (by decide) (by decide) (by kernel_rfl) (by kernel_rfl) (by kernel_rfl) (fun _ _ _ h => HPN.out _ _ _ _ _ h) (Or.inl ⟨by rfl, fun w' hw' => ?_⟩) (HS3.out _ HB31.out) (fun inv => ?_)
    · obtain h0 := hw'
      go_simp
    try simp only [Act.put, List.setIfInBounds_toArray, List.set_cons_zero, List.set_cons_succ]
    refine wpU_two (i := 11) (j := 17) (by kernel_rfl) rfl rfl (fun K hK => ?_) (fun K hK => ?_)
    · replace inv := inv_setc (i := 11) inv (by kernel_rfl) (by decide)
      go_simp
      have HA2 : Hid (Below wk1.heap.size wk1 (wk1.alloc (.cells (madeCells #[.bool false] m) 4))) := (Below.refl _ _).alloc (Nat.le_refl _) _
      have hz2 : Hid ((wk1.alloc (.cells (madeCells #[.bool false] m) 4)).heap.size = wk1.heap.size + 1) := by show _ = _; simp
      have HV11 := Lib.hid (Ln.brow_new wk1 m (g := wk1.heap.size) rfl)
      obtain ⟨wk2, HW2⟩ := nameIt (wk1.alloc (.cells (madeCells #[.bool false] m) 4))
      rw [HW2.out] at HA2 HV11 hz2
      rw [HW2.out]
      have HB32 : Hid (Below W.heap.size W wk2) := HB31.out.trans (HA2.out.mono (by have := hsd3.out; skip; have := hz1.out; have := hz2.out; omega))
      replace HV5 := Lib.hid (HV5.out.keep HA2.out)
      refine hK.out _ _ (fun _ => HS3.out _ HB32.out) ?_
      clear hK K
      try simp only [Act.put, List.setIfInBounds_toArray, List.set_cons_zero, List.set_cons_succ]
      refine wpU_take (i := 19) (v := .slice (some ⟨wk1.heap.size, 0, none⟩) m m) rfl inv (by kernel_rfl) (by kernel_rfl) (by decide) (by decide) (by kernel_rfl) (by kernel_rfl) (by kernel_rfl) (fun _ _ _ h => HPN.out _ _ _ _ _ h) (Or.inl ⟨by rfl, fun w' hw' => ?_⟩) (HS3.out _ HB32.out) (fun inv => ?_)
      · obtain h0 := hw'
        go_simp
      try simp only [Act.put, List.setIfInBounds_toArray, List.set_cons_zero, List.set_cons_succ]
      refine wpU_one (i := 17) (by kernel_rfl) rfl (fun K hK => ?_)
      replace inv := inv_setc (i := 17) inv (by kernel_rfl) (by decide)
      go_simp
      have HA3 : Hid (Below wk2.heap.size wk2 (wk2.alloc (.cells (madeCells #[.bool false] m) 4))) := (Below.refl _ _).alloc (Nat.le_refl _) _
      have hz3 : Hid ((wk2.alloc (.cells (madeCells #[.bool false] m) 4)).heap.size = wk2.heap.size + 1) := by show _ = _; simp
      have HV17 := Lib.hid (Ln.brow_new wk2 m (g := wk2.heap.size) rfl)
      obtain ⟨wk3, HW3⟩ := nameIt (wk2.alloc (.cells (madeCells #[.bool false] m) 4))
      rw [HW3.out] at HA3 HV17 hz3
      rw [HW3.out]
      have HB33 : Hid (Below W.heap.size W wk3) := HB32.out.trans (HA3.out.mono (by have := hsd3.out; skip; have := hz1.out; have := hz2.out; have := hz3.out; omega))
      replace HV5 := Lib.hid (HV5.out.keep HA3.out)
      replace HV11 := Lib.hid (HV11.out.keep HA3.out)
      refine hK.out _ _ (fun _ => HS3.out _ HB33.out) ?_
      clear hK K
      try simp only [Act.put, List.setIfInBounds_toArray, List.set_cons_zero, List.set_cons_succ]
      refine wpU_one (i := 20) (by kernel_rfl) rfl (fun K hK => ?_)
      go_simp
      refine hK.out _ _ (fun h => absurd (show true = false from h) (by decide)) ?_
      clear hK K
      try simp only [Act.put, List.setIfInBounds_toArray, List.set_cons_zero, List.set_cons_succ]
      refine wpU_done (by kernel_rfl) ?_ _
      have HR3 : Hid (R3 W.heap.size wd.heap.size wk1.heap.size wk2.heap.size m (fun _ => 0) (fun _ => false) (fun _ => false) wk3) := ⟨HV5.out, HV11.out, HV17.out, by have := hsd3.out; skip; have := hz1.out; have := hz2.out; have := hz3.out; omega, by have := hsd3.out; skip; have := hz1.out; have := hz2.out; have := hz3.out; omega⟩
      first | exact HQ.out wd.heap.size wk1.heap.size wk2.heap.size _ _ _ _ _ _ _ _ _ _ _ _ _ _ _ _ _ _ _ HR3 HB33 | (go_wp2_with fail; exact HQ.out wd.heap.size wk1.heap.size wk2.heap.size _ _ _ _ _ _ _ _ _ _ _ _ _ _ _ _ _ _ _ HR3 HB33)
    · replace inv := inv_setc (i := 17) inv (by kernel_rfl) (by decide)
      go_simp
      have HA2 : Hid (Below wk1.heap.size wk1 (wk1.alloc (.cells (madeCells #[.bool false] m) 4))) := (Below.refl _ _).alloc (Nat.le_refl _) _
      have hz2 : Hid ((wk1.alloc (.cells (madeCells #[.bool false] m) 4)).heap.size = wk1.heap.size + 1) := by show _ = _; simp
      have HV17 := Lib.hid (Ln.brow_new wk1 m (g := wk1.heap.size) rfl)
      obtain ⟨wk2, HW2⟩ := nameIt (wk1.alloc (.cells (madeCells #[.bool false] m) 4))
      rw [HW2.out] at HA2 HV17 hz2
      rw [HW2.out]
      have HB32 : Hid (Below W.heap.size W wk2) := HB31.out.trans (HA2.out.mono (by have := hsd3.out; skip; have := hz1.out; have := hz2.out; omega))
      replace HV5 := Lib.hid (HV5.out.keep HA2.out)
      refine hK.out _ _ (fun _ => HS3.out _ HB32.out) ?_
      clear hK K
      try simp only [Act.put, List.setIfInBounds_toArray, List.set_cons_zero, List.set_cons_succ]
      refine wpU_one (i := 11) (by kernel_rfl) rfl (fun K hK => ?_)
      replace inv := inv_setc (i := 11) inv (by kernel_rfl) (by decide)
      go_simp
      have HA3 : Hid (Below wk2.heap.size wk2 (wk2.alloc (.cells (madeCells #[.bool false] m) 4))) := (Below.refl _ _).alloc (Nat.le_refl _) _
      have hz3 : Hid ((wk2.alloc (.cells (madeCells #[.bool false] m) 4)).heap.size = wk2.heap.size + 1) := by show _ = _; simp
      have HV11 := Lib.hid (Ln.brow_new wk2 m (g := wk2.heap.size) rfl)
      obtain ⟨wk3, HW3⟩ := nameIt (wk2.alloc (.cells (madeCells #[.bool false] m) 4))
      rw [HW3.out] at HA3 HV11 hz3
      rw [HW3.out]
      have HB33 : Hid (Below W.heap.size W wk3) := HB32.out.trans (HA3.out.mono (by have := hsd3.out; skip; have := hz1.out; have := hz2.out; have := hz3.out; omega))
      replace HV5 := Lib.hid (HV5.out.keep HA3.out)
      replace HV17 := Lib.hid (HV17.out.keep HA3.out)
      refine hK.out _ _ (fun _ => HS3.out _ HB33.out) ?_
      clear hK K
      try simp only [Act.put, List.setIfInBounds_toArray, List.set_cons_zero, List.set_cons_succ]
      refine wpU_take (i := 19) (v := .slice (some ⟨wk2.heap.size, 0, none⟩) m m) rfl inv (by kernel_rfl) (by kernel_rfl) (by decide) (by decide) (by kernel_rfl) (by kernel_rfl) (by kernel_rfl) (fun _ _ _ h => HPN.out _ _ _ _ _ h) (Or.inl ⟨by rfl, fun w' hw' => ?_⟩) (HS3.out _ HB33.out) (fun inv => ?_)
      · obtain h0 := hw'
        go_simp
      try simp only [Act.put, List.setIfInBounds_toArray, List.set_cons_zero, List.set_cons_succ]
      refine wpU_one (i := 20) (by kernel_rfl) rfl (fun K hK => ?_)
      go_simp
      refine hK.out _ _ (fun h => absurd (show true = false from h) (by decide)) ?_
      clear hK K
      try simp only [Act.put, List.setIfInBounds_toArray, List.set_cons_zero, List.set_cons_succ]
      refine wpU_done (by kernel_rfl) ?_ _
      have HR3 : Hid (R3 W.heap.size wd.heap.size wk2.heap.size wk1.heap.size m (fun _ => 0) (fun _ => false) (fun _ => false) wk3) := ⟨HV5.out, HV11.out, HV17.out, by have := hsd3.out; skip; have := hz1.out; have := hz2.out; have := hz3.out; omega, by have := hsd3.out; skip; have := hz1.out; have := hz2.out; have := hz3.out; omega⟩
      first | exact HQ.out wd.heap.size wk2.heap.size wk1.heap.size _ _ _ _ _ _ _ _ _ _ _ _ _ _ _ _ _ _ _ HR3 HB33 | (go_wp2_with fail; exact HQ.out wd.heap.size wk2.heap.size wk1.heap.size _ _ _ _ _ _ _ _ _ _ _ _ _ _ _ _ _ _ _ HR3 HB33)
  · replace inv := inv_setc (i := 11) inv (by kernel_rfl) (by decide)
    go_simp
    have HA1 : Hid (Below wd.heap.size wd (wd.alloc (.cells (madeCells #[.bool false] m) 4))) := (Below.refl _ _).alloc (Nat.le_refl _) _
    have hz1 : Hid ((wd.alloc (.cells (madeCells #[.bool false] m) 4)).heap.size = wd.heap.size + 1) := by show _ = _; simp
    have HV11 := Lib.hid (Ln.brow_new wd m (g := wd.heap.size) rfl)
    obtain ⟨wk1, HW1⟩ := nameIt (wd.alloc (.cells (madeCells #[.bool false] m) 4))
    rw [HW1.out] at HA1 HV11 hz1
    rw [HW1.out]
    have HB31 : Hid (Below W.heap.size W wk1) := HBD3.out.trans (HA1.out.mono (by have := hsd3.out; skip; have := hz1.out; omega))
    refine hK.out _ _ (fun _ => HS3.out _ HB31.out) ?_
    clear hK K
    try simp only [Act.put, List.setIfInBounds_toArray, List.set_cons_zero, List.set_cons_succ]
    refine wpU_two (i := 5) (j := 17) (by kernel_rfl) rfl rfl (fun K hK => ?_) (fun K hK => ?_)
    · replace inv := inv_setc (i := 5) inv (by kernel_rfl) (by decide)
      go_simp
      have HA2 : Hid (Below wk1.heap.size wk1 (wk1.alloc (.cells (madeCells #[.int .i64 0] m) 3))) := (Below.refl _ _).alloc (Nat.le_refl _) _
      have hz2 : Hid ((wk1.alloc (.cells (madeCells #[.int .i64 0] m) 3)).heap.size = wk1.heap.size + 1) := by show _ = _; simp
      have HV5 := Lib.hid (vrow_new wk1 3 (.int .i64 0) m (g := wk1.heap.size) rfl)
      obtain ⟨wk2, HW2⟩ := nameIt (wk1.alloc (.cells (madeCells #[.int .i64 0] m) 3))
      rw [HW2.out] at HA2 HV5 hz2
      rw [HW2.out]
      have HB32 : Hid (Below W.heap.size W wk2) := HB31.out.trans (HA2.out.mono (by have := hsd3.out; skip; have := hz1.out; have := hz2.out; omega))
      replace HV11 := Lib.hid (HV11.out.keep HA2.out)
      refine hK.out _ _ (fun _ => HS3.out _ HB32.out) ?_
      clear hK K
      try simp only [Act.put, List.setIfInBounds_toArray, List.set_cons_zero, List.set_cons_succ]
      refine wpU_take (i := 18) (v := .slice (some ⟨wk1.heap.size, 0, none⟩) m m) rfl inv (by kernel_rfl) (by kernel_rfl) (by decide) (by decide) (by kernel_rfl) (by kernel_rfl) (by kernel_rfl) (fun _ _ _ h => HPN.out _ _ _ _ _ h) (Or.inl ⟨by rfl, fun w' hw' => ?_⟩) (HS3.out _ HB32.out) (fun inv => ?_)
      · obtain h0 := hw'
        go_simp
      try simp only [Act.put, List.setIfInBounds_toArray, List.set_cons_zero, List.set_cons_succ]
      refine wpU_take (i := 19) (v := .slice (some ⟨wd.heap.size, 0, none⟩) m m) rfl inv (by kernel_rfl) (by kernel_rfl) (by decide) (by decide) (by kernel_rfl) (by kernel_rfl) (by kernel_rfl) (fun _ _ _ h => HPN.out _ _ _ _ _ h) (Or.inl ⟨by rfl, fun w' hw' => ?_⟩) (HS3.out _ HB32.out) (fun inv => ?_)
      · obtain h0 := hw'
        go_simp
      try simp only [Act.put, List.setIfInBounds_toArray, List.set_cons_zero, List.set_cons_succ]
      refine wpU_one (i := 17) (by kernel_rfl) rfl (fun K hK => ?_)
      replace inv := inv_setc (i := 17) inv (by kernel_rfl) (by decide)
      go_simp
      have HA3 : Hid (Below wk2.heap.size wk2 (wk2.alloc (.cells (madeCells #[.bool false] m) 4))) := (Below.refl _ _).alloc (Nat.le_refl _) _
      have hz3 : Hid ((wk2.alloc (.cells (madeCells #[.bool false] m) 4)).heap.size = wk2.heap.size + 1) := by show _ = _; simp
      have HV17 := Lib.hid (Ln.brow_new wk2 m (g := wk2.heap.size) rfl)
      obtain ⟨wk3, HW3⟩ := nameIt (wk2.alloc (.cells (madeCells #[.bool false] m) 4))
      rw [HW3.out] at HA3 HV17 hz3
      rw [HW3.out]
      have HB33 : Hid (Below W.heap.size W wk3) := HB32.out.trans (HA3.out.mono (by have := hsd3.out; skip; have := hz1.out; have := hz2.out; have := hz3.out; omega))
      replace HV11 := Lib.hid (HV11.out.keep HA3.out)
      replace HV5 := Lib.hid (HV5.out.keep HA3.out)
      refine hK.out _ _ (fun _ => HS3.out _ HB33.out) ?_
      clear hK K
      try simp only [Act.put, List.setIfInBounds_toArray, List.set_cons_zero, List.set_cons_succ]
      refine wpU_one (i := 20) (by kernel_rfl) rfl (fun K hK => ?_)
      go_simp
      refine hK.out _ _ (fun h => absurd (show true = false from h) (by decide)) ?_
      clear hK K
      try simp only [Act.put, List.setIfInBounds_toArray, List.set_cons_zero, List.set_cons_succ]
      refine wpU_done (by kernel_rfl) ?_ _
      have HR3 : Hid (R3 W.heap.size wk1.heap.size wd.heap.size wk2.heap.size m (fun _ => 0) (fun _ => false) (fun _ => false) wk3) := ⟨HV5.out, HV11.out, HV17.out, by have := hsd3.out; skip; have := hz1.out; have := hz2.out; have := hz3.out; omega, by have := hsd3.out; skip; have := hz1.out; have := hz2.out; have := hz3.out; omega⟩
      first | exact HQ.out wk1.heap.size wd.heap.size wk2.heap.size _ _ _ _ _ _ _ _ _ _ _ _ _ _ _ _ _ _ _ HR3 HB33 | (go_wp2_with fail; exact HQ.out wk1.heap.size wd.heap.size wk2.heap.size _ _ _ _ _ _ _ _ _ _ _ _ _ _ _ _ _ _ _ HR3 HB33)
    · replace inv := inv_setc (i := 17) inv (by kernel_rfl) (by decide)
      go_simp
      have HA2 : Hid (Below wk1.heap.size wk1 (wk1.alloc (.cells (madeCells #[.bool false] m) 4))) := (Below.refl _ _).alloc (Nat.le_refl _) _
      have hz2 : Hid ((wk1.alloc (.cells (madeCells #[.bool false] m) 4)).heap.size = wk1.heap.size + 1) := by show _ = _; simp
      have HV17 := Lib.hid (Ln.brow_new wk1 m (g := wk1.heap.size) rfl)
      obtain ⟨wk2, HW2⟩ := nameIt (wk1.alloc (.cells (madeCells #[.bool false] m) 4))
      rw [HW2.out] at HA2 HV17 hz2
      rw [HW2.out]
      have HB32 : Hid (Below W.heap.size W wk2) := HB31.out.trans (HA2.out.mono (by have := hsd3.out; skip; have := hz1.out; have := hz2.out; omega))
      replace HV11 := Lib.hid (HV11.out.keep HA2.out)
      refine hK.out _ _ (fun _ => HS3.out _ HB32.out) ?_
      clear hK K
      try simp only [Act.put, List.setIfInBounds_toArray, List.set_cons_zero, List.set_cons_succ]
      refine wpU_one (i := 5) (by kernel_rfl) rfl (fun K hK => ?_)
      replace inv := inv_setc (i := 5) inv (by kernel_rfl) (by decide)
      go_simp
      have HA3 : Hid (Below wk2.heap.size wk2 (wk2.alloc (.cells (madeCells #[.int .i64 0] m) 3))) := (Below.refl _ _).alloc (Nat.le_refl _) _
      have hz3 : Hid ((wk2.alloc (.cells (madeCells #[.int .i64 0] m) 3)).heap.size = wk2.heap.size + 1) := by show _ = _; simp
      have HV5 := Lib.hid (vrow_new wk2 3 (.int .i64 0) m (g := wk2.heap.size) rfl)
      obtain ⟨wk3, HW3⟩ := nameIt (wk2.alloc (.cells (madeCells #[.int .i64 0] m) 3))
      rw [HW3.out] at HA3 HV5 hz3
      rw [HW3.out]
      have HB33 : Hid (Below W.heap.size W wk3) := HB32.out.trans (HA3.out.mono (by have := hsd3.out; skip; have := hz1.out; have := hz2.out; have := hz3.out; omega))
      replace HV11 := Lib.hid (HV11.out.keep HA3.out)
      replace HV17 := Lib.hid (HV17.out.keep HA3.out)
      refine hK.out _ _ (fun _ => HS3.out _ HB33.out) ?_
      clear hK K
      try simp only [Act.put, List.setIfInBounds_toArray, List.set_cons_zero, List.set_cons_succ]
      refine wpU_take (i := 18) (v := .slice (some ⟨wk2.heap.size, 0, none⟩) m m) rfl inv (by kernel_rfl) (by kernel_rfl) (by decide) (by decide) (by kernel_rfl) (by kernel_rfl) (by kernel_rfl) (fun _ _ _ h => HPN.out _ _ _ _ _ h) (Or.inl ⟨by rfl, fun w' hw' => ?_⟩) (HS3.out _ HB33.out) (fun inv => ?_)
      · obtain h0 := hw'
        go_simp
      try simp only [Act.put, List.setIfInBounds_toArray, List.set_cons_zero, List.set_cons_succ]
      refine wpU_take (i := 19) (v := .slice (some ⟨wd.heap.size, 0, none⟩) m m) rfl inv (by kernel_rfl) (by kernel_rfl) (by decide) (by decide) (by kernel_rfl) (by kernel_rfl) (by kernel_rfl) (fun _ _ _ h => HPN.out _ _ _ _ _ h) (Or.inl ⟨by rfl, fun w' hw' => ?_⟩) (HS3.out _ HB33.out) (fun inv => ?_)
      · obtain h0 := hw'
        go_simp
      try simp only [Act.put, List.setIfInBounds_toArray, List.set_cons_zero, List.set_cons_succ]
      refine wpU_one (i := 20) (by kernel_rfl) rfl (fun K hK => ?_)
      go_simp
      refine hK.out _ _ (fun h => absurd (show true = false from h) (by decide)) ?_
      clear hK K
      try simp only [Act.put, List.setIfInBounds_toArray, List.set_cons_zero, List.set_cons_succ]
      refine wpU_done (by kernel_rfl) ?_ _
      have HR3 : Hid (R3 W.heap.size wk2.heap.size wd.heap.size wk1.heap.size m (fun _ => 0) (fun _ => false) (fun _ => false) wk3) := ⟨HV5.out, HV11.out, HV17.out, by have := hsd3.out; skip; have := hz1.out; have := hz2.out; have := hz3.out; omega, by have := hsd3.out; skip; have := hz1.out; have := hz2.out; have := hz3.out; omega⟩
      first | exact HQ.out wk2.heap.size wd.heap.size wk1.heap.size _ _ _ _ _ _ _ _ _ _ _ _ _ _ _ _ _ _ _ HR3 HB33 | (go_wp2_with fail; exact HQ.out wk2.heap.size wd.heap.size wk1.heap.size _ _ _ _ _ _ _ _ _ _ _ _ _ _ _ _ _ _ _ HR3 HB33)
  · replace inv := inv_setc (i := 17) inv (by kernel_rfl) (by decide)
    go_simp
    have HA1 : Hid (Below wd.heap.size wd (wd.alloc (.cells (madeCells #[.bool false] m) 4))) := (Below.refl _ _).alloc (Nat.le_refl _) _
    have hz1 : Hid ((wd.alloc (.cells (madeCells #[.bool false] m) 4)).heap.size = wd.heap.size + 1) := by show _ = _; simp
    have HV17 := Lib.hid (Ln.brow_new wd m (g := wd.heap.size) rfl)
    obtain ⟨wk1, HW1⟩ := nameIt (wd.alloc (.cells (madeCells #[.bool false] m) 4))
    rw [HW1.out] at HA1 HV17 hz1
    rw [HW1.out]
    have HB31 : Hid (Below W.heap.size W wk1) := HBD3.out.trans (HA1.out.mono (by have := hsd3.out; skip; have := hz1.out; omega))
    refine hK.out _ _ (fun _ => HS3.out _ HB31.out) ?_
    clear hK K
    try simp only [Act.put, List.setIfInBounds_toArray, List.set_cons_zero, List.set_cons_succ]
    refine wpU_two (i := 5) (j := 11) (by kernel_rfl) rfl rfl (fun K hK => ?_) (fun K hK => ?_)
    · replace inv := inv_setc (i := 5) inv (by kernel_rfl) (by decide)
      go_simp
      have HA2 : Hid (Below wk1.heap.size wk1 (wk1.alloc (.cells (madeCells #[.int .i64 0] m) 3))) := (Below.refl _ _).alloc (Nat.le_refl _) _
      have hz2 : Hid ((wk1.alloc (.cells (madeCells #[.int .i64 0] m) 3)).heap.size = wk1.heap.size + 1) := by show _ = _; simp
      have HV5 := Lib.hid (vrow_new wk1 3 (.int .i64 0) m (g := wk1.heap.size) rfl)
      obtain ⟨wk2, HW2⟩ := nameIt (wk1.alloc (.cells (madeCells #[.int .i64 0] m) 3))
      rw [HW2.out] at HA2 HV5 hz2
      rw [HW2.out]
      have HB32 : Hid (Below W.heap.size W wk2) := HB31.out.trans (HA2.out.mono (by have := hsd3.out; skip; have := hz1.out; have := hz2.out; omega))
      replace HV17 := Lib.hid (HV17.out.keep HA2.out)
      refine hK.out _ _ (fun _ => HS3.out _ HB32.out) ?_
      clear hK K
      try simp only [Act.put, List.setIfInBounds_toArray, List.set_cons_zero, List.set_cons_succ]
      refine wpU_take (i := 18) (v := .slice (some ⟨wk1.heap.size, 0, none⟩) m m) rfl inv (by kernel_rfl) (by kernel_rfl) (by decide) (by decide) (by kernel_rfl) (by kernel_rfl) (by kernel_rfl) (fun _ _ _ h => HPN.out _ _ _ _ _ h) (Or.inl ⟨by rfl, fun w' hw' => ?_⟩) (HS3.out _ HB32.out) (fun inv => ?_)
      · obtain h0 := hw'
        go_simp
      try simp only [Act.put, List.setIfInBounds_toArray, List.set_cons_zero, List.set_cons_succ]
      refine wpU_one (i := 11) (by kernel_rfl) rfl (fun K hK => ?_)
      replace inv := inv_setc (i := 11) inv (by kernel_rfl) (by decide)
      go_simp
      have HA3 : Hid (Below wk2.heap.size wk2 (wk2.alloc (.cells (madeCells #[.bool false] m) 4))) := (Below.refl _ _).alloc (Nat.le_refl _) _
      have hz3 : Hid ((wk2.alloc (.cells (madeCells #[.bool false] m) 4)).heap.size = wk2.heap.size + 1) := by show _ = _; simp
      have HV11 := Lib.hid (Ln.brow_new wk2 m (g := wk2.heap.size) rfl)
      obtain ⟨wk3, HW3⟩ := nameIt (wk2.alloc (.cells (madeCells #[.bool false] m) 4))
      rw [HW3.out] at HA3 HV11 hz3
      rw [HW3.out]
      have HB33 : Hid (Below W.heap.size W wk3) := HB32.out.trans (HA3.out.mono (by have := hsd3.out; skip; have := hz1.out; have := hz2.out; have := hz3.out; omega))
      replace HV17 := Lib.hid (HV17.out.keep HA3.out)
      replace HV5 := Lib.hid (HV5.out.keep HA3.out)
      refine hK.out _ _ (fun _ => HS3.out _ HB33.out) ?_
      clear hK K
      try simp only [Act.put, List.setIfInBounds_toArray, List.set_cons_zero, List.set_cons_succ]
      refine wpU_take (i := 19) (v := .slice (some ⟨wk2.heap.size, 0, none⟩) m m) rfl inv (by kernel_rfl) (by kernel_rfl) (by decide) (by decide) (by kernel_rfl) (by kernel_rfl) (by kernel_rfl) (fun _ _ _ h => HPN.out _ _ _ _ _ h) (Or.inl ⟨by rfl, fun w' hw' => ?_⟩) (HS3.out _ HB33.out) (fun inv => ?_)
      · obtain h0 := hw'
        go_simp
      try simp only [Act.put, List.setIfInBounds_toArray, List.set_cons_zero, List.set_cons_succ]
      refine wpU_one (i := 20) (by kernel_rfl) rfl (fun K hK => ?_)
      go_simp
      refine hK.out _ _ (fun h => absurd (show true = false from h) (by decide)) ?_
      clear hK K
      try simp only [Act.put, List.setIfInBounds_toArray, List.set_cons_zero, List.set_cons_succ]
      refine wpU_done (by kernel_rfl) ?_ _
      have HR3 : Hid (R3 W.heap.size wk1.heap.size wk2.heap.size wd.heap.size m (fun _ => 0) (fun _ => false) (fun _ => false) wk3) := ⟨HV5.out, HV11.out, HV17.out, by have := hsd3.out; skip; have := hz1.out; have := hz2.out; have := hz3.out; omega, by have := hsd3.out; skip; have := hz1.out; have := hz2.out; have := hz3.out; omega⟩
      first | exact HQ.out wk1.heap.size wk2.heap.size wd.heap.size _ _ _ _ _ _ _ _ _ _ _ _ _ _ _ _ _ _ _ HR3 HB33 | (go_wp2_with fail; exact HQ.out wk1.heap.size wk2.heap.size wd.heap.size _ _ _ _ _ _ _ _ _ _ _ _ _ _ _ _ _ _ _ HR3 HB33)
    · replace inv := inv_setc (i := 11) inv (by kernel_rfl) (by decide)
      go_simp
      have HA2 : Hid (Below wk1.heap.size wk1 (wk1.alloc (.cells (madeCells #[.bool false] m) 4))) := (Below.refl _ _).alloc (Nat.le_refl _) _
      have hz2 : Hid ((wk1.alloc (.cells (madeCells #[.bool false] m) 4)).heap.size = wk1.heap.size + 1) := by show _ = _; simp
      have HV11 := Lib.hid (Ln.brow_new wk1 m (g := wk1.heap.size) rfl)
      obtain ⟨wk2, HW2⟩ := nameIt (wk1.alloc (.cells (madeCells #[.bool false] m) 4))
      rw [HW2.out] at HA2 HV11 hz2
      rw [HW2.out]
      have HB32 : Hid (Below W.heap.size W wk2) := HB31.out.trans (HA2.out.mono (by have := hsd3.out; skip; have := hz1.out; have := hz2.out; omega))
      replace HV17 := Lib.hid (HV17.out.keep HA2.out)
      refine hK.out _ _ (fun _ => HS3.out _ HB32.out) ?_
      clear hK K
      try simp only [Act.put, List.setIfInBounds_toArray, List.set_cons_zero, List.set_cons_succ]
      refine wpU_one (i := 5) (by kernel_rfl) rfl (fun K hK => ?_)
      replace inv := inv_setc (i := 5) inv (by kernel_rfl) (by decide)
      go_simp
      have HA3 : Hid (Below wk2.heap.size wk2 (wk2.alloc (.cells (madeCells #[.int .i64 0] m) 3))) := (Below.refl _ _).alloc (Nat.le_refl _) _
      have hz3 : Hid ((wk2.alloc (.cells (madeCells #[.int .i64 0] m) 3)).heap.size = wk2.heap.size + 1) := by show _ = _; simp
      have HV5 := Lib.hid (vrow_new wk2 3 (.int .i64 0) m (g := wk2.heap.size) rfl)
      obtain ⟨wk3, HW3⟩ := nameIt (wk2.alloc (.cells (madeCells #[.int .i64 0] m) 3))
      rw [HW3.out] at HA3 HV5 hz3
      rw [HW3.out]
      have HB33 : Hid (Below W.heap.size W wk3) := HB32.out.trans (HA3.out.mono (by have := hsd3.out; skip; have := hz1.out; have := hz2.out; have := hz3.out; omega))
      replace HV17 := Lib.hid (HV17.out.keep HA3.out)
      replace HV11 := Lib.hid (HV11.out.keep HA3.out)
      refine hK.out _ _ (fun _ => HS3.out _ HB33.out) ?_
      clear hK K
      try simp only [Act.put, List.setIfInBounds_toArray, List.set_cons_zero, List.set_cons_succ]
      refine wpU_take (i := 18) (v := .slice (some ⟨wk2.heap.size, 0, none⟩) m m) rfl inv (by kernel_rfl) (by kernel_rfl) (by decide) (by decide) (by kernel_rfl) (by kernel_rfl) (by kernel_rfl) (fun _ _ _ h => HPN.out _ _ _ _ _ h) (Or.inl ⟨by rfl, fun w' hw' => ?_⟩) (HS3.out _ HB33.out) (fun inv => ?_)
      · obtain h0 := hw'
        go_simp
      try simp only [Act.put, List.setIfInBounds_toArray, List.set_cons_zero, List.set_cons_succ]
      refine wpU_take (i := 19) (v := .slice (some ⟨wk1.heap.size, 0, none⟩) m m) rfl inv (by kernel_rfl) (by kernel_rfl) (by decide) (by decide) (by kernel_rfl) (by kernel_rfl) (by kernel_rfl) (fun _ _ _ h => HPN.out _ _ _ _ _ h) (Or.inl ⟨by rfl, fun w' hw' => ?_⟩) (HS3.out _ HB33.out) (fun inv => ?_)
      · obtain h0 := hw'
        go_simp
      try simp only [Act.put, List.setIfInBounds_toArray, List.set_cons_zero, List.set_cons_succ]
      refine wpU_one (i := 20) (by kernel_rfl) rfl (fun K hK => ?_)
      go_simp
      refine hK.out _ _ (fun h => absurd (show true = false from h) (by decide)) ?_
      clear hK K
      try simp only [Act.put, List.setIfInBounds_toArray, List.set_cons_zero, List.set_cons_succ]
      refine wpU_done (by kernel_rfl) ?_ _
      have HR3 : Hid (R3 W.heap.size wk2.heap.size wk1.heap.size wd.heap.size m (fun _ => 0) (fun _ => false) (fun _ => false) wk3) := ⟨HV5.out, HV11.out, HV17.out, by have := hsd3.out; skip; have := hz1.out; have := hz2.out; have := hz3.out; omega, by have := hsd3.out; skip; have := hz1.out; have := hz2.out; have := hz3.out; omega⟩
      first | exact HQ.out wk2.heap.size wk1.heap.size wd.heap.size _ _ _ _ _ _ _ _ _ _ _ _ _ _ _ _ _ _ _ HR3 HB33 | (go_wp2_with fail; exact HQ.out wk2.heap.size wk1.heap.size wd.heap.size _ _ _ _ _ _ _ _ _ _ _ _ _ _ _ _ _ _ _ HR3 HB33)
end Cs
end Go.Proofs.Ytbnpemgmdnghgaa
