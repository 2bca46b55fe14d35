/-
  THE WALKS of num.Add, num.Gap and the document's.
-/
import Derived.Test.YtkfampdcigiokaaDoorChecked
import Derived.Test.YtkfampdcigiokaaDoorNumSpec
import Derived.Test.YtkfampdcigiokaaDoorMem
set_option linter.unusedVariables false
set_option linter.unusedSimpArgs false
namespace Go.Proofs.YtkfampdcigiokaaDoor
open Go.RowKit

def numO (o : Option Int) : Int := o.getD 0
theorem wrap_in {x : Int} (h : -9223372036854775808 ≤ x ∧ x ≤ 9223372036854775807) : wrap64 x = x := by unfold wrap64; omega
theorem wrap_hi {x : Int} (h : 9223372036854775807 < x) (h2 : x ≤ 18446744073709551615) : wrap64 x = x - 18446744073709551616 := by unfold wrap64; omega
theorem wrap_lo {x : Int} (h : x < -9223372036854775808) (h2 : -18446744073709551616 ≤ x) : wrap64 x = x + 18446744073709551616 := by unfold wrap64; omega

set_option maxHeartbeats 2000000 in
theorem add_any (a b : Int) (w : World) (ha : -9223372036854775808 ≤ a ∧ a ≤ 9223372036854775807) (hb : -9223372036854775808 ≤ b ∧ b ≤ 9223372036854775807) :
    Calls Tryd.prog 15 #[.int .i64 a, .int .i64 b] w fun e w' => e = .returned (.tuple #[.int .i64 (numO (addP a b)), .bool (addP a b).isSome]) ∧ w = w' := by
  obtain ⟨ha1, ha2⟩ := ha
  obtain ⟨hb1, hb2⟩ := hb
  by_cases h1 : 9223372036854775807 < a + b
  · have hw := wrap_hi h1 (by omega)
    have hP : addP a b = none := by unfold addP; rw [if_neg (by omega)]
    rw [hP]
    have e1 : decide (a < 0) = false := decide_eq_false (by omega)
    have e2 : decide (b < 0) = false := decide_eq_false (by omega)
    have e3 : decide (a + b - 18446744073709551616 < 0) = true := decide_eq_true (by omega)
    have e4 : a + b - 18446744073709551616 < 0 := by omega
    go_enter Tryd.func15, Tryd.ntmps15
    go_wp2_with fail
    go_ret2
    exact ⟨rfl, rfl⟩
  · by_cases h2 : a + b < -9223372036854775808
    · have hw := wrap_lo h2 (by omega)
      have hP : addP a b = none := by unfold addP; rw [if_neg (by omega)]
      rw [hP]
      have e1 : decide (a < 0) = true := decide_eq_true (by omega)
      have e2 : decide (b < 0) = true := decide_eq_true (by omega)
      have e3 : decide (a + b + 18446744073709551616 < 0) = false := decide_eq_false (by omega)
      have e4 : ¬ a + b + 18446744073709551616 < 0 := by omega
      go_enter Tryd.func15, Tryd.ntmps15
      go_wp2_with fail
      go_ret2
      exact ⟨rfl, rfl⟩
    · have hw := wrap_in (x := a + b) (by omega)
      have hP : addP a b = some (a + b) := by unfold addP; rw [if_pos (by omega)]
      rw [hP]
      by_cases g1 : a < 0
      · by_cases g2 : b < 0
        · have e1 : decide (a < 0) = true := decide_eq_true (by omega)
          have e2 : decide (b < 0) = true := decide_eq_true (by omega)
          have e3 : decide (a + b < 0) = true := decide_eq_true (by omega)
          have e4 : a + b < 0 := by omega
          go_enter Tryd.func15, Tryd.ntmps15
          go_wp2_with fail
          go_ret2
          exact ⟨by rw [show numO (some (a + b)) = a + b from rfl, ← hw]; rfl, rfl⟩
        · have e1 : decide (a < 0) = true := decide_eq_true (by omega)
          have e2 : decide (b < 0) = false := decide_eq_false (by omega)
          go_enter Tryd.func15, Tryd.ntmps15
          go_wp2_with fail
          go_ret2
          exact ⟨by rw [show numO (some (a + b)) = a + b from rfl, ← hw]; rfl, rfl⟩
      · by_cases g2 : b < 0
        · have e1 : decide (a < 0) = false := decide_eq_false (by omega)
          have e2 : decide (b < 0) = true := decide_eq_true (by omega)
          go_enter Tryd.func15, Tryd.ntmps15
          go_wp2_with fail
          go_ret2
          exact ⟨by rw [show numO (some (a + b)) = a + b from rfl, ← hw]; rfl, rfl⟩
        · have e1 : decide (a < 0) = false := decide_eq_false (by omega)
          have e2 : decide (b < 0) = false := decide_eq_false (by omega)
          have e3 : decide (a + b < 0) = false := decide_eq_false (by omega)
          have e4 : ¬ a + b < 0 := by omega
          go_enter Tryd.func15, Tryd.ntmps15
          go_wp2_with fail
          go_ret2
          exact ⟨by rw [show numO (some (a + b)) = a + b from rfl, ← hw]; rfl, rfl⟩

set_option maxHeartbeats 2000000 in
theorem refAdd_any (a b : Int) (w : World) (ha : -9223372036854775808 ≤ a ∧ a ≤ 9223372036854775807) (hb : -9223372036854775808 ≤ b ∧ b ≤ 9223372036854775807) :
    Calls Tryd.prog 16 #[.int .i64 a, .int .i64 b] w fun e w' => e = .returned (.tuple #[.int .i64 (numO (addP a b)), .bool (addP a b).isSome]) ∧ w = w' := by
  obtain ⟨ha1, ha2⟩ := ha
  obtain ⟨hb1, hb2⟩ := hb
  by_cases g1 : 0 < b
  · have hv := wrap_in (x := 9223372036854775807 - b) (by omega)
    by_cases h1 : 9223372036854775807 < a + b
    · have hP : addP a b = none := by unfold addP; rw [if_neg (by omega)]
      rw [hP]
      have e1 : decide (0 < b) = true := decide_eq_true (by omega)
      have e2 : decide (9223372036854775807 - b < a) = true := decide_eq_true (by omega)
      have e3 : 9223372036854775807 - b < a := by omega
      go_enter Tryd.func16, Tryd.ntmps16
      go_wp2_with fail
      go_ret2
      exact ⟨rfl, rfl⟩
    · have hw := wrap_in (x := a + b) (by omega)
      have hP : addP a b = some (a + b) := by unfold addP; rw [if_pos (by omega)]
      rw [hP]
      have e1 : decide (0 < b) = true := decide_eq_true (by omega)
      have e2 : decide (9223372036854775807 - b < a) = false := decide_eq_false (by omega)
      have e3 : ¬ 9223372036854775807 - b < a := by omega
      have e4 : decide (b < 0) = false := decide_eq_false (by omega)
      have e5 : ¬ b < 0 := by omega
      go_enter Tryd.func16, Tryd.ntmps16
      go_wp2_with fail
      go_ret2
      exact ⟨by rw [show numO (some (a + b)) = a + b from rfl, ← hw]; rfl, rfl⟩
  · by_cases g2 : b < 0
    · have hv := wrap_in (x := -9223372036854775808 - b) (by omega)
      by_cases h1 : a + b < -9223372036854775808
      · have hP : addP a b = none := by unfold addP; rw [if_neg (by omega)]
        rw [hP]
        have e1 : decide (0 < b) = false := decide_eq_false (by omega)
        have e2 : decide (a < -9223372036854775808 - b) = true := decide_eq_true (by omega)
        have e3 : a < -9223372036854775808 - b := by omega
        have e4 : decide (b < 0) = true := decide_eq_true (by omega)
        go_enter Tryd.func16, Tryd.ntmps16
        go_wp2_with fail
        go_ret2
        exact ⟨rfl, rfl⟩
      · have hw := wrap_in (x := a + b) (by omega)
        have hP : addP a b = some (a + b) := by unfold addP; rw [if_pos (by omega)]
        rw [hP]
        have e1 : decide (0 < b) = false := decide_eq_false (by omega)
        have e2 : decide (a < -9223372036854775808 - b) = false := decide_eq_false (by omega)
        have e3 : ¬ a < -9223372036854775808 - b := by omega
        have e4 : decide (b < 0) = true := decide_eq_true (by omega)
        go_enter Tryd.func16, Tryd.ntmps16
        go_wp2_with fail
        go_ret2
        exact ⟨by rw [show numO (some (a + b)) = a + b from rfl, ← hw]; rfl, rfl⟩
    · obtain rfl : b = 0 := by omega
      have hw := wrap_in (x := a + 0) (by omega)
      have hw2 := wrap_in (x := a) (by omega)
      have hP : addP a 0 = some (a + 0) := by unfold addP; rw [if_pos (by omega)]
      rw [hP]
      go_enter Tryd.func16, Tryd.ntmps16
      go_wp2_with fail
      go_ret2
      exact ⟨rfl, rfl⟩
end Go.Proofs.YtkfampdcigiokaaDoor
