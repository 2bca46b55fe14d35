/-
  THE LAWS NumAdds and NumGaps.
-/
import Derived.Test.YtkfampdcigiokaaDoorNumAwake
set_option linter.unusedVariables false
set_option linter.unusedSimpArgs false
namespace Go.Proofs.YtkfampdcigiokaaDoor
open Go.RowKit

set_option maxHeartbeats 2000000 in
theorem numAdds_law (a b : Int) (w : World) (htab : Tab w) (ha : -9223372036854775808 ≤ a ∧ a ≤ 9223372036854775807) (hb : -9223372036854775808 ≤ b ∧ b ≤ 9223372036854775807) :
    Calls Tryd.prog 6 #[.int .i64 a, .int .i64 b] w fun e w' => e = .returned (.bool true) ∧ Below w.heap.size w w' := by
  have h1 := add_any a b w ha hb
  have h2 := refAdd_any a b w ha hb
  have haw := numAwake_any w htab
  obtain ⟨ha1, ha2⟩ := ha
  obtain ⟨hb1, hb2⟩ := hb
  by_cases hin : -9223372036854775808 ≤ a + b ∧ a + b ≤ 9223372036854775807
  · have hP : addP a b = some (a + b) := by unfold addP; rw [if_pos hin]
    rw [hP] at h1 h2
    rw [show numO (some (a + b)) = a + b from rfl, Option.isSome_some] at h1 h2
    have hee : ((a + b) != (a + b)) = false := by simp
    by_cases hbm : b = -9223372036854775808
    · have H1 := hide h1
      have H2 := hide h2
      have Haw := hide haw
      have e1 : (b == -9223372036854775808) = true := by simp [hbm]
      generalize a + b = s at *
      clear h1 h2 haw hP hbm
      go_enter Tryd.func6, Tryd.ntmps6
      go_wp2_with (first
        | (go_at_call 15; refine H1.out.mono ?_; rintro e w2 ⟨rfl, rfl⟩)
        | (go_at_call 16; refine H2.out.mono ?_; rintro e w2 ⟨rfl, rfl⟩)
        | (go_at_call 10; refine Haw.out.mono ?_; rintro e w2 ⟨rfl, hb2⟩))
      go_ret
      exact ⟨rfl, hb2⟩
    · have h3 := add_any (a + b) (-b) w hin (by omega)
      have hP2 : addP (a + b) (-b) = some a := by unfold addP; rw [show a + b + -b = a by omega, if_pos ⟨ha1, ha2⟩]
      rw [hP2, show numO (some a) = a from rfl, Option.isSome_some] at h3
      have H1 := hide h1
      have H2 := hide h2
      have H3 := hide h3
      have Haw := hide haw
      have e1 : (b == -9223372036854775808) = false := by rw [beq_eq_false_iff_ne]; exact hbm
      have e2 : (a == a) = true := by simp
      have hw := wrap_in (x := -b) (by omega)
      clear h1 h2 h3 haw hP hP2 hbm
      generalize a + b = s at *
      go_enter Tryd.func6, Tryd.ntmps6
      go_wp2_with (first
        | (go_at_call_of 15 (Value.int .i64 a); refine H1.out.mono ?_; rintro e w2 ⟨rfl, rfl⟩)
        | (go_at_call_of 15 (Value.int .i64 s); refine H3.out.mono ?_; rintro e w2 ⟨rfl, rfl⟩)
        | (go_at_call 16; refine H2.out.mono ?_; rintro e w2 ⟨rfl, rfl⟩)
        | (go_at_call 10; refine Haw.out.mono ?_; rintro e w2 ⟨rfl, hb2⟩))
      go_ret
      exact ⟨rfl, hb2⟩
  · have hP : addP a b = none := by unfold addP; rw [if_neg hin]
    rw [hP] at h1 h2
    rw [show numO none = 0 from rfl, Option.isSome_none] at h1 h2
    have H1 := hide h1
    have H2 := hide h2
    have Haw := hide haw
    clear h1 h2 haw hP hin
    go_enter Tryd.func6, Tryd.ntmps6
    go_wp2_with (first
      | (go_at_call 15; refine H1.out.mono ?_; rintro e w2 ⟨rfl, rfl⟩)
      | (go_at_call 16; refine H2.out.mono ?_; rintro e w2 ⟨rfl, rfl⟩)
      | (go_at_call 10; refine Haw.out.mono ?_; rintro e w2 ⟨rfl, hb2⟩))
    go_ret
    exact ⟨rfl, hb2⟩

theorem gap_more (a b m : Int) (hm : 5000 < m) : gapP a b 5000 ≤ gapP a b m ∧ gapP a b m ≤ m := by
  unfold gapP
  repeat' split
  all_goals omega
set_option maxHeartbeats 2000000 in
theorem numGaps_law (a b m : Int) (w : World) (htab : Tab w) (ha : -9223372036854775808 ≤ a ∧ a ≤ 9223372036854775807) (hb : -9223372036854775808 ≤ b ∧ b ≤ 9223372036854775807) (hm : -9223372036854775808 ≤ m ∧ m ≤ 9223372036854775807) :
    Calls Tryd.prog 5 #[.int .i64 a, .int .i64 b, .int .i64 m] w fun e w' => e = .returned (.bool true) ∧ Below w.heap.size w w' := by
  have h1 := gap_any a b m w ha hb hm
  have h2 := refGap_any a b m w ha hb hm
  have h3 := gap_any a b 5000 w ha hb (by omega)
  have haw := numAwake_any w htab
  have hgm := gap_more a b m
  have Haw := hide haw
  have H1 := hide h1
  have H2 := hide h2
  by_cases hbig : 5000 < m
  · obtain ⟨g1, g2⟩ := hgm hbig
    have H3 := hide h3
    generalize gapP a b m = x at *
    generalize gapP a b 5000 = y at *
    have e0 : decide (5000 < m) = true := decide_eq_true hbig
    have e1 : decide (y ≤ x) = true := decide_eq_true g1
    have e2 : decide (x ≤ m) = true := decide_eq_true g2
    have e3 : (m == 5000) = false := by rw [beq_eq_false_iff_ne]; omega
    clear h1 h2 h3 haw H2
    go_enter Tryd.func5, Tryd.ntmps5
    go_wp2_with fail
    refine H1.out.mono ?_
    rintro e w2 ⟨rfl, rfl⟩
    go_wp2_with fail
    refine H3.out.mono ?_
    rintro e w2 ⟨rfl, rfl⟩
    go_wp2_with fail
    refine H1.out.mono ?_
    rintro e w2 ⟨rfl, rfl⟩
    go_wp2_with (go_at_call 10; refine Haw.out.mono ?_; rintro e w2 ⟨rfl, hb2⟩)
    go_ret
    exact ⟨rfl, hb2⟩
  · have e0 : decide (5000 < m) = false := decide_eq_false hbig
    generalize gapP a b m = x at *
    have e1 : (x == x) = true := by simp
    clear h1 h2 h3 haw hgm
    go_enter Tryd.func5, Tryd.ntmps5
    go_wp2_with (first
      | (go_at_call 13; refine H1.out.mono ?_; rintro e w2 ⟨rfl, rfl⟩)
      | (go_at_call 14; refine H2.out.mono ?_; rintro e w2 ⟨rfl, rfl⟩)
      | (go_at_call 10; refine Haw.out.mono ?_; rintro e w2 ⟨rfl, hb2⟩))
    go_ret
    exact ⟨rfl, hb2⟩
end Go.Proofs.YtkfampdcigiokaaDoor
