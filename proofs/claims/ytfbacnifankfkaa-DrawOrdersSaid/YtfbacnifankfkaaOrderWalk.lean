/- The contract of draw.Order. -/
import Derived.Test.YtfbacnifankfkaaDrawWalk
import Derived.Test.YtfbacnifankfkaaOrder
import Derived.Test.YtfbacnifankfkaaSlices
namespace Go.Proofs.Ytfbacnifankfkaa
open Go.RowKit

theorem order_arg (n : Int) (v : Value) (w : World) (h : n < 0 ∨ 100 < n) :
    Calls Try.prog 18 #[.int .i64 n, v] w fun e w' => e = .returned (.tuple #[.slice none 0 0, .int .i64 0, .int .i64 1]) ∧ w = w' := by
  rcases h with h | h
  · go_enter Try.func18, Try.ntmps18
    go_wp2
    go_ret3
    exact ⟨rfl, rfl⟩
  · have h' : ¬ n < 0 := by omega
    go_enter Try.func18, Try.ntmps18
    go_wp2
    go_ret3
    exact ⟨rfl, rfl⟩

def ordErr : Option (List Int × Nat) → Int × Nat × List Int
  | none => (5, 0, [])
  | some (l, k) => (0, k, l)
/-- what draw.Order leaves -/
def OrdPost (r : Option (List Int × Nat)) (w : World) (e : Ending) (w' : World) : Prop :=
  ∃ v, e = .returned (.tuple #[v, .int .i64 (ordErr r).2.1, .int .i64 (ordErr r).1]) ∧ Sl w' v (ints (ordErr r).2.2) ∧ Below w.heap.size w w'

theorem erase_eq {α : Type} (l : List α) (i : Nat) : l.eraseIdx i = l.take i ++ l.drop (i + 1) := List.eraseIdx_eq_take_drop_succ l i

/-- the state of the drawing: what is left (in one block, in place), what has been taken (from block B on), how many coins are used -/
structure OrdRel (w : World) (B g capl : Nat) (l : List Bool) (k : Nat) (L O : List Int) (p : Nat) (v : Value) (wq : World) : Prop where
  used : p ≤ l.length
  len : L.length + O.length = k
  left : wq.ownsRow w.heap.size 3 1 (.slice (some ⟨g, 0, none⟩) L.length capl) L.length (ints L)
  out : wq.ownsRow B 3 1 v O.length (ints O)
  mid : Draw.Mid k (Draw.upto k) l L O p
  below : Below w.heap.size w wq
  size : B ≤ wq.heap.size
  apart : g < B

theorem ints_one (l : List Int) : ∀ u ∈ ints l, u.oneCell' = true := by
  intro u hu; simp [ints] at hu; obtain ⟨x, _, rfl⟩ := hu; rfl

/-- behind the append of what is taken -/
theorem OrdRel.taken {w : World} {B g capl : Nat} {l : List Bool} {k : Nat} {L O : List Int} {p : Nat} {v : Value} {wq : World} (h : OrdRel w B g capl l k L O p v wq) {v' : Value} {w1 : World} {x : Int}
    (hown : w1.ownsRow B 3 1 v' (O.length + 1) (ints O ++ [.int .i64 x])) (hg : wq.grownBy w1 v.ownBlock) :
    w1.ownsRow w.heap.size 3 1 (.slice (some ⟨g, 0, none⟩) L.length capl) L.length (ints L) ∧ w1.ownsRow B 3 1 v' (O ++ [x]).length (ints (O ++ [x])) ∧ Below w.heap.size w w1 ∧ B ≤ w1.heap.size := by
  refine ⟨h.left.kept hg (.inr ?_), ?_, ?_, Nat.le_trans h.size hg.size⟩
  · intro e
    have := (h.out.lt g e.symm).1
    have := h.apart
    omega
  · rw [ints_append, List.length_append]; exact hown
  · refine h.below.trans (below_grown hg h.below.size (fun b hb => ?_))
    have h1 := (h.out.lt b hb).1
    have h2 := h.apart
    have h3 := (h.left.lt g rfl).1
    omega

/-- behind the deletion of what is taken -/
theorem OrdRel.next {w : World} {B g capl : Nat} {l : List Bool} {k : Nat} {L O : List Int} {p : Nat} {v : Value} {wq : World} (h : OrdRel w B g capl l k L O p v wq) {v' : Value} {w1 w2 : World} {i u : Nat} (hL : 0 < L.length) (hnum : Draw.num L.length (l.drop p) = some (i, u))
    (h2 : w1.ownsRow B 3 1 v' (O ++ [L.getD i 0]).length (ints (O ++ [L.getD i 0]))) (h3 : Below w.heap.size w w1) (h4 : B ≤ w1.heap.size)
    (hd : w2.ownsRow w.heap.size 3 1 (.slice (some ⟨g, 0, none⟩) (L.length - 1) capl) (L.length - 1) ((ints L).take i ++ (ints L).drop (i + 1))) (hg : w1.grownBy w2 (some g)) :
    OrdRel w B g capl l k (L.eraseIdx i) (O ++ [L.getD i 0]) (p + u) v' w2 := by
  have hlt := Draw.num_lt hnum
  have hlen := h.len
  have he : (L.eraseIdx i).length = L.length - 1 := by rw [List.length_eraseIdx, if_pos hlt.1]
  refine ⟨?_, ?_, ?_, ?_, Draw.mid_some h.mid hL hnum, ?_, Nat.le_trans h4 hg.size, h.apart⟩
  · have := hlt.2; simp at this; have := h.used; omega
  · rw [he, List.length_append]; simp; omega
  · rw [he, erase_eq, ints_append]
    have e : ints (L.take i) ++ ints (L.drop (i + 1)) = (ints L).take i ++ (ints L).drop (i + 1) := by simp [ints]
    rw [e]; exact hd
  · refine h2.kept hg (.inr fun e => ?_)
    have := (h2.lt g e).1
    have := h.apart
    omega
  · refine h3.trans (below_grown hg h3.size (fun b hb => ?_))
    cases hb
    exact (h.left.lt g rfl).1


set_option maxHeartbeats 1000000 in
set_option maxRecDepth 100000 in
theorem order_good (n : Nat) (a : Option Addr) (cap : Nat) (l : List Bool) (w : World) (hn : n ≤ 100) (hv : Sl w (.slice a l.length cap) (bools l)) (hL : l.length ≤ 140737488355328) :
    Calls Try.prog 18 #[.int .i64 n, .slice a l.length cap] w (OrdPost (Draw.ord n (Draw.upto n) l) w) := by
  have HV := Lib.hid hv
  obtain ⟨hc1, hc2⟩ := hv.len.2
  unfold maxLen at hc2
  clear hv
  have h0 : ¬ (n : Int) < 0 := by omega
  have h1 : ¬ 100 < (n : Int) := by omega
  go_enter Try.func18, Try.ntmps18
  go_wp2
  go_loopw [7, 21] (fun m t wr => ∃ k : Nat, k ≤ n ∧ t = .int .i64 k ∧ Hid (wr.ownsRow w.heap.size 3 1 m k (ints (Draw.upto k))) ∧ Hid (Below w.heap.size w wr)) (fun _ t _ => n - (intOf t).toNat)
  case atStart => exact ⟨0, by omega, rfl, World.ownsRow_nil _ _ _ _, Below.refl _ _⟩
  case round =>
    obtain ⟨k, hk, rfl, HO, HB⟩ := hrel
    have hz := HB.out.size
    by_cases hlt : k < n
    · go_wp2_with (at_builtin; refine wp_app1 elInt rfl _ _ rfl HO.out rfl rfl rfl rfl ?_ ?_ hz ?_)
      · omega
      · unfold maxLen; omega
      · intro v' w' hown hg
        have HO3 : Hid (w'.ownsRow w.heap.size 3 1 v' (k + 1) (ints (Draw.upto (k + 1)))) := by
          rw [Draw.upto_succ, ints_append]; exact hown
        have HB3 := Lib.hid (HB.out.grown hg hz (fun b hb => (HO.out.lt b hb).1))
        clear hown hg HO HB
        go_wp2
        exact ⟨⟨k + 1, by omega, by go_num, HO3, HB3⟩, by simp [intOf]; omega⟩
    · obtain rfl : k = n := by omega
      rcases HO.out.2 with ⟨hu, hk0⟩ | ⟨g, capl, cur, hu, hg, hh, hnn, hcc, hs, ht⟩
      · subst hu
        subst hk0
        have HE : Hid (Draw.ord 0 (Draw.upto 0) l = some ([], 0)) := rfl
        go_wp2
        refine wp_loop_rounds 1 ?_
        rw [rounds_succ]
        go_wp2
        go_ret3
        rw [OrdPost, HE.out]
        exact ⟨_, rfl, sl_of_own HO.out, HB.out⟩
      · subst hu
        have HG : Hid (g < wr.heap.size) := (Array.getElem?_eq_some_iff.1 hh).1
        have HGW := Lib.hid hg
        have HM : Hid (Draw.Mid k (Draw.upto k) l (Draw.upto k) [] 0) := by
          have := Draw.mid_start (Draw.upto k) l
          rw [Draw.upto_len] at this; exact this
        have HO1 : Hid (wr.ownsRow w.heap.size 3 1 (.slice (some ⟨g, 0, none⟩) (Draw.upto k).length capl) (Draw.upto k).length (ints (Draw.upto k))) := by
          rw [Draw.upto_len]; exact HO
        have hll : (Draw.upto k).length ≤ 100 := by rw [Draw.upto_len]; omega
        clear HO hg hh hs ht hnn hcc cur
        have hlk : Hid ((Draw.upto k).length = k) := Draw.upto_len k
        clear hlk hll
        have HR : Hid (OrdRel w wr.heap.size g capl l k (Draw.upto k) [] 0 (.slice none 0 0) wr) :=
          ⟨by omega, by rw [Draw.upto_len]; simp, HO1.out, World.ownsRow_nil _ _ _ _, HM.out, HB.out, Nat.le_refl _, HG.out⟩
        generalize hB : wr.heap.size = B at *
        clear hB HO1 HM HB HG HGW hz
        go_wp2
        go_loopw [7, 8, 10] (fun v7 v8 v10 wq => ∃ (L O : List Int) (p : Nat), v7 = .slice (some ⟨g, 0, none⟩) L.length capl ∧ v10 = .int .i64 p ∧ Hid (OrdRel w B g capl l k L O p v8 wq)) (fun v7 _ _ _ => match v7 with | .slice _ n _ => n | _ => 0)
        case atStart => exact ⟨Draw.upto k, [], 0, by rw [Draw.upto_len], rfl, HR⟩
        case round =>
          clear HR
          obtain ⟨L, O, p, rfl, rfl, HR⟩ := hrel
          have hp := HR.out.used
          have hlen := HR.out.len
          by_cases hL : 0 < L.length
          · obtain ⟨vs, HVS, HSL⟩ : ∃ vs, Hid (vs = Value.slice (if cap = p then a else a.map fun x => x.add p) (l.length - p) (cap - p)) ∧ Hid (Sl wr vs (bools (l.drop p))) := by
              have HS := HV.out.keep HR.out.below
              refine ⟨_, rfl, ?_⟩
              have e : bools (l.drop p) = (bools l).drop p := by simp [bools]
              rw [e]
              by_cases hcp : cap = p
              · rw [if_pos hcp]
                have h3 : l.length - p = 0 := by omega
                rw [h3]
                exact HS.rest_end p (by omega) _ (by omega)
              · rw [if_neg hcp]
                exact HS.rest hp hcp
            have hpl : (p : Int) ≤ (l.length : Int) := by omega
            have hLi : (0 : Int) < (L.length : Int) := by omega
            have HN := Lib.hid (number (L.length : Int) vs (l.drop p) wr HSL.out (by simp; omega) (by omega) (by omega))
            rw [HVS.out, Int.toNat_natCast] at HN
            clear HVS HSL vs
            have hcl := HR.out.left.cellAt
            cases hnum : Draw.num L.length (l.drop p) with
            | none =>
              rw [hnum] at HN
              have HE := Lib.hid (Draw.mid_none HR.out.mid hL hnum)
              have HBD := Lib.hid HR.out.below
              clear hnum hcl HR
              simp only [numRes] at HN
              by_cases hcp : cap = p
              all_goals
                first | (rw [if_pos hcp] at HN; subst hcp; rw [show l.length - cap = 0 by omega, Nat.sub_self] at HN) | rw [if_neg hcp] at HN
                go_wp2_with fail
                refine HN.out.mono ?_
                rintro e w' ⟨rfl, rfl⟩
                go_wp2_with fail
                go_ret3
                rw [OrdPost, HE.out]
                exact ⟨_, rfl, sl_of_own (World.ownsRow_nil _ 0 0 1), HBD.out⟩
            | some q =>
              obtain ⟨i, u⟩ := q
              rw [hnum] at HN
              have hlt := Draw.num_lt hnum
              have hi := hlt.1
              have hu := hlt.2
              rw [List.length_drop] at hu
              have hcell := hcl i (by omega)
              rw [List.getElem?_eq_getElem (by rw [ints_len]; exact hi), ints_get] at hcell
              have HX : Hid (L[i] = L.getD i 0) := by show _ = _; simp [List.getD, hi]
              rw [HX.out] at hcell
              generalize hgx : L.getD i 0 = x at *
              have HGX := Lib.hid hgx
              clear hgx
              have HNUM := Lib.hid hnum
              clear hcl hnum hlt
              simp only [numRes] at HN
              have hz : B ≤ wr.heap.size := HR.out.size
              have hpu : (p : Int) + (u : Int) ≤ (l.length : Int) := by omega
              by_cases hcp : cap = p
              all_goals
                first | (rw [if_pos hcp] at HN; subst hcp; rw [show l.length - cap = 0 by omega, Nat.sub_self] at HN) | rw [if_neg hcp] at HN
                go_wp2_with fail
                refine HN.out.mono ?_
                rintro e w' ⟨rfl, rfl⟩
                clear HN
                go_wp2_with (at_builtin; refine wp_app1 elInt rfl _ _ rfl HR.out.out rfl rfl rfl rfl ?_ ?_ hz ?_)
              all_goals try omega
              all_goals try (unfold maxLen; omega)
              all_goals
                intro v' w1 hown hg
                obtain ⟨q1, q2, q3, q4⟩ := HR.out.taken hown hg
                have Q1 := Lib.hid q1
                have Q2 := Lib.hid q2
                have Q3 := Lib.hid q3
                have Q4 := Lib.hid q4
                clear hown hg q1 q2 q3 q4
                go_wp2_with fail
                refine (delete_own w1 w.heap.size g L.length capl i (ints L) Q1.out hi (ints_one L)).mono ?_
                rintro e w2 ⟨rfl, hd, hg2⟩
                have HR2 := Lib.hid (HR.out.next hL HNUM.out (by rw [HGX.out]; exact Q2.out) Q3.out Q4.out hd hg2)
                clear hd hg2 HR Q1 Q2 Q3 Q4
                go_wp2_with fail
                refine ⟨⟨L.eraseIdx i, _, _, ?_, ?_, HR2⟩, ?_⟩
                · rw [List.length_eraseIdx, if_pos hi]
                · go_num
                · simp; omega
          · have hL0 : L = [] := List.eq_nil_of_length_eq_zero (by omega)
            subst hL0
            have HE := Lib.hid (Draw.mid_end HR.out.mid)
            go_wp2
            go_ret3
            rw [OrdPost, HE.out]
            exact ⟨_, rfl, sl_of_own HR.out.out, HR.out.below⟩
end Go.Proofs.Ytfbacnifankfkaa
