/- The contracts of the tests 'is no symbol' (two closures alike). -/
import Derived.Test.YtenkhjmedolknaaDfaTo
import Derived.Test.YtenkhjmedolknaaPreds
namespace Go.Proofs.Ytenkhjmedolknaa
open Go.RowKit
namespace Df

def outP (x : Dfa) (c : Int) : Bool := decide (c < 0 ∨ (x.width : Int) ≤ c)
theorem width_at {x : Dfa} (h : 0 < x.next.length) : (x.next[0]'h).length = x.width := by
  obtain ⟨st, ac, nx⟩ := x
  cases nx with
  | nil => simp at h
  | cons r l => rfl

set_option maxHeartbeats 1000000 in
theorem outLaw (x : Dfa) (hx : Right x) (c : Int) (db : Nat) (an : Option Addr) (cn : Nat) (w : World) (hb : w.cell? ⟨db, 0 + 2, none⟩ = some (.slice an x.next.length cn)) (hN : Rd AnyB w (.sl (x.next.map D.ints)) [.slice an x.next.length cn]) :
    Calls Try.prog 10 #[.int .i64 c, .pointer (some ⟨db, 0, none⟩)] w fun e w' => e = .returned (.bool (outP x c)) ∧ Below w.heap.size w w' := by
  have h0 := hx.states.1
  obtain ⟨b, off, vr, hae, c0, hsl⟩ := Rd.rowI_at hN h0
  obtain ⟨ar, cr, rfl⟩ := hsl.form
  rw [ints_len, width_at h0, Nat.add_zero] at c0
  have HO : Hid (outP x c = decide (c < 0 ∨ (x.width : Int) ≤ c)) := rfl
  obtain ⟨R, HR⟩ := nameIt (outP x c)
  rw [HR.out] at HO ⊢
  obtain ⟨m, HM⟩ := nameIt x.width
  rw [HM.out] at c0 HO
  obtain ⟨n, HN⟩ := nameIt x.next.length
  rw [HN.out] at hb h0
  have hn0 : (0 : Int) < (n : Int) := by omega
  subst hae
  clear hsl hN
  by_cases h1 : c < 0
  · have hd : decide (c < 0) = true := by simpa using h1
    have HE : Hid (R = true) := by show _ = _; rw [HO.out]; simp [h1]
    clear HO
    go_enter Try.func10, Try.ntmps10
    go_wp2_with fail
    go_ret
    exact ⟨by rw [HE.out]; rfl, Below.refl _ _⟩
  · have hd : decide (c < 0) = false := by simpa using h1
    by_cases h2 : (m : Int) ≤ c
    · have hd2 : decide ((m : Int) ≤ c) = true := by simpa using h2
      have HE : Hid (R = true) := by show _ = _; rw [HO.out]; simp [h2]
      clear HO
      go_enter Try.func10, Try.ntmps10
      go_wp2_with fail
      go_ret
      exact ⟨by rw [HE.out]; rfl, Below.refl _ _⟩
    · have hd2 : decide ((m : Int) ≤ c) = false := by simpa using h2
      have HE : Hid (R = false) := by show _ = _; rw [HO.out]; first | (simp [h1, h2]; done) | (simp [h1, h2]; omega)
      clear HO
      go_enter Try.func10, Try.ntmps10
      go_wp2_with fail
      go_ret
      exact ⟨by rw [HE.out]; rfl, Below.refl _ _⟩

set_option maxHeartbeats 1000000 in
theorem outRun (x : Dfa) (hx : Right x) (c : Int) (db : Nat) (an : Option Addr) (cn : Nat) (w : World) (hb : w.cell? ⟨db, 0 + 2, none⟩ = some (.slice an x.next.length cn)) (hN : Rd AnyB w (.sl (x.next.map D.ints)) [.slice an x.next.length cn]) :
    Calls Try.prog 27 #[.int .i64 c, .pointer (some ⟨db, 0, none⟩)] w fun e w' => e = .returned (.bool (outP x c)) ∧ Below w.heap.size w w' := by
  have h0 := hx.states.1
  obtain ⟨b, off, vr, hae, c0, hsl⟩ := Rd.rowI_at hN h0
  obtain ⟨ar, cr, rfl⟩ := hsl.form
  rw [ints_len, width_at h0, Nat.add_zero] at c0
  have HO : Hid (outP x c = decide (c < 0 ∨ (x.width : Int) ≤ c)) := rfl
  obtain ⟨R, HR⟩ := nameIt (outP x c)
  rw [HR.out] at HO ⊢
  obtain ⟨m, HM⟩ := nameIt x.width
  rw [HM.out] at c0 HO
  obtain ⟨n, HN⟩ := nameIt x.next.length
  rw [HN.out] at hb h0
  have hn0 : (0 : Int) < (n : Int) := by omega
  subst hae
  clear hsl hN
  by_cases h1 : c < 0
  · have hd : decide (c < 0) = true := by simpa using h1
    have HE : Hid (R = true) := by show _ = _; rw [HO.out]; simp [h1]
    clear HO
    go_enter Try.func27, Try.ntmps27
    go_wp2_with fail
    go_ret
    exact ⟨by rw [HE.out]; rfl, Below.refl _ _⟩
  · have hd : decide (c < 0) = false := by simpa using h1
    by_cases h2 : (m : Int) ≤ c
    · have hd2 : decide ((m : Int) ≤ c) = true := by simpa using h2
      have HE : Hid (R = true) := by show _ = _; rw [HO.out]; simp [h2]
      clear HO
      go_enter Try.func27, Try.ntmps27
      go_wp2_with fail
      go_ret
      exact ⟨by rw [HE.out]; rfl, Below.refl _ _⟩
    · have hd2 : decide ((m : Int) ≤ c) = false := by simpa using h2
      have HE : Hid (R = false) := by show _ = _; rw [HO.out]; first | (simp [h1, h2]; done) | (simp [h1, h2]; omega)
      clear HO
      go_enter Try.func27, Try.ntmps27
      go_wp2_with fail
      go_ret
      exact ⟨by rw [HE.out]; rfl, Below.refl _ _⟩
end Df
end Go.Proofs.Ytenkhjmedolknaa
