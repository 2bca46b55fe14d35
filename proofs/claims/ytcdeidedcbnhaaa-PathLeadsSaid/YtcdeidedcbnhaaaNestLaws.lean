/-
  THE STATEMENTS of layer 10: NestAbove, NestCircles, NestBoth.
-/
import Derived.Test.YtcdeidedcbnhaaaNestD
set_option linter.unusedVariables false
set_option linter.unusedSimpArgs false
namespace Go.Proofs.Ytcdeidedcbnhaaa
open Go.RowKit

theorem awakeAbove : aboveL [-1, 0, 1, 0] 2 = [1, 0] := by decide
theorem awakeBelow : belowL [-1, 0, 1, 0] 0 = [1, 2, 3] := by decide
theorem awakeCircle : circleL [-1, 0, 1, 0] = -1 := by decide

/-- a slice that is written out -/
theorem RI.lit (w : World) (l : List Int) (hx : ∀ x ∈ l, -9223372036854775808 ≤ x ∧ x ≤ 9223372036854775807) (hl : l.length ≤ 1073741824) : RI (w.alloc (.cells (l.map (Value.int .i64)).toArray 3)) (.slice (some ⟨w.heap.size, 0, none⟩) l.length l.length) l := by
  have := World.ownsRow_lit (e := 3) (size := 1) (base := 0) w (l.map (Value.int .i64)).toArray l.length (Nat.zero_le _) (by unfold maxLen; omega) (by simp)
  exact RI.own this hx

set_option maxHeartbeats 2000000 in
theorem nestAwake_any (w : World) : Calls Try.prog 14 #[] w fun e w' => e = .returned (.bool true) ∧ Below w.heap.size w w' := by
  go_enter Try.func14, Try.ntmps14
  go_wp2_with fail
  have hr := RI.lit w [-1, 0, 1, 0] (by decide) (by decide)
  have hb0 : Below w.heap.size w (w.alloc (.cells ([-1, 0, 1, 0].map (Value.int .i64)).toArray 3)) := (Below.refl _ _).alloc (Nat.le_refl _) _
  refine (above_any [-1, 0, 1, 0] _ 2 _ (by decide) hr).mono ?_
  rintro e w1 ⟨v1, rfl, hown1, hb1⟩
  rw [awakeAbove] at hown1
  have hr1 := RI.own hown1 (by decide)
  have hb01 := hb0.trans (hb1.mono hb0.size)
  go_wp2_with fail
  have hq1 := RI.lit w1 [1, 0] (by decide) (by decide)
  have hc1 : Below w1.heap.size w1 (w1.alloc (.cells ([1, 0].map (Value.int .i64)).toArray 3)) := (Below.refl _ _).alloc (Nat.le_refl _) _
  refine (same_ints [1, 0] [1, 0] _ _ _ (by decide) (hr1.below hc1) hq1).mono ?_
  rintro e w2 ⟨rfl, hb2⟩
  rw [show decide (([1, 0] : List Int) = [1, 0]) = true from rfl]
  have hb02 := (hb01.trans (hc1.mono hb01.size)).trans (hb2.mono (by have := hb01.size; simp; omega))
  have hr2 := ((hr.below hb1).below hc1).below hb2
  go_wp2_with fail
  refine (below_any [-1, 0, 1, 0] _ 0 _ (by decide) hr2).mono ?_
  rintro e w3 ⟨v3, rfl, hown3, hb3⟩
  rw [awakeBelow] at hown3
  have hr3 := RI.own hown3 (by decide)
  have hb03 := hb02.trans (hb3.mono hb02.size)
  go_wp2_with fail
  have hq3 := RI.lit w3 [1, 2, 3] (by decide) (by decide)
  have hc3 : Below w3.heap.size w3 (w3.alloc (.cells ([1, 2, 3].map (Value.int .i64)).toArray 3)) := (Below.refl _ _).alloc (Nat.le_refl _) _
  refine (same_ints [1, 2, 3] [1, 2, 3] _ _ _ (by decide) (hr3.below hc3) hq3).mono ?_
  rintro e w4 ⟨rfl, hb4⟩
  rw [show decide (([1, 2, 3] : List Int) = [1, 2, 3]) = true from rfl]
  have hb04 := (hb03.trans (hc3.mono hb03.size)).trans (hb4.mono (by have := hb03.size; simp; omega))
  have hr4 := ((hr2.below hb3).below hc3).below hb4
  go_wp2_with fail
  refine (circle_any [-1, 0, 1, 0] _ _ (by decide) hr4).mono ?_
  rintro e w5 ⟨rfl, hb5⟩
  rw [awakeCircle]
  go_wp2_with fail
  go_ret
  exact ⟨rfl, hb04.trans (hb5.mono hb04.size)⟩

set_option maxHeartbeats 2000000 in
theorem nestAbove_law (l : List Int) (v : Value) (i : Int) (w : World) (hv : RI w v l) :
    Calls Try.prog 3 #[v, .int .i64 i] w fun e w' => e = .returned (.bool true) ∧ Below w.heap.size w w' := by
  obtain ⟨A, c, rfl, hc, hc2⟩ := slice_form hv
  have hll : l.length ≤ 9223372036854775807 := by omega
  by_cases h : l.length ≤ 20
  · go_enter Try.func3, Try.ntmps3
    go_wp2_with fail
    refine (above_any l _ i _ (by omega) hv).mono ?_
    rintro e w1 ⟨v1, rfl, hown1, hb1⟩
    have hal := above_len l i
    have hr1 := RI.list hown1 (above_at l i) (by omega)
    go_wp2_with fail
    refine (refAbove_any l _ i _ (by omega) (hv.below hb1)).mono ?_
    rintro e w2 ⟨v2, rfl, hown2, hb2⟩
    have hr2 := RI.list hown2 (above_at l i) (by omega)
    have hb02 := hb1.trans (hb2.mono hb1.size)
    go_wp2_with fail
    refine (same_ints _ _ _ _ _ (by omega) (hr1.below hb2) hr2).mono ?_
    rintro e w3 ⟨rfl, hb3⟩
    rw [show decide (aboveL l i = aboveL l i) = true from decide_eq_true rfl]
    have hb03 := hb02.trans (hb3.mono hb02.size)
    go_wp2_with fail
    refine (deep_any l _ i _ (by omega) (hv.below hb03)).mono ?_
    rintro e w4 ⟨rfl, hb4⟩
    have hb04 := hb03.trans (hb4.mono hb03.size)
    obtain ⟨A', c', rfl, hc'⟩ := own_form hown1
    generalize aboveL l i = L at *
    go_wp2_with fail
    refine (below_any l _ i _ (by omega) (hv.below hb04)).mono ?_
    rintro e w5 ⟨v5, rfl, hown5, hb5⟩
    have hb05 := hb04.trans (hb5.mono hb04.size)
    have hbe : ∀ x ∈ belowL l i, isAt l x := by
      intro x hx
      unfold belowL at hx
      split at hx
      · exact fl_at _ _ x hx
      · simp at hx
    have hbl : (belowL l i).length ≤ l.length := by
      unfold belowL
      split
      · exact fl_len _ _
      · simp
    have hr5 := RI.list hown5 hbe (by omega)
    go_wp2_with fail
    refine (refBelow_any l _ i _ (by omega) (hv.below hb05)).mono ?_
    rintro e w6 ⟨v6, rfl, hown6, hb6⟩
    have hr6 := RI.list hown6 hbe (by omega)
    have hb06 := hb05.trans (hb6.mono hb05.size)
    go_wp2_with fail
    refine (same_ints _ _ _ _ _ (by omega) (hr5.below hb6) hr6).mono ?_
    rintro e w7 ⟨rfl, hb7⟩
    rw [show decide (belowL l i = belowL l i) = true from decide_eq_true rfl]
    have hb07 := hb06.trans (hb7.mono hb06.size)
    go_wp2_with fail
    refine (nestAwake_any _).mono ?_
    rintro e w8 ⟨rfl, hb8⟩
    go_wp2_with fail
    go_ret
    exact ⟨rfl, hb07.trans (hb8.mono hb07.size)⟩
  · go_enter Try.func3, Try.ntmps3
    go_wp2_with (go_at_call 14; refine (nestAwake_any _).mono ?_; rintro e w' ⟨rfl, hb⟩)
    go_ret
    exact ⟨rfl, hb⟩

set_option maxHeartbeats 2000000 in
theorem nestCircles_law (l : List Int) (v : Value) (w : World) (hv : RI w v l) :
    Calls Try.prog 4 #[v] w fun e w' => e = .returned (.bool true) ∧ Below w.heap.size w w' := by
  obtain ⟨A, c, rfl, hc, hc2⟩ := slice_form hv
  have hll : l.length ≤ 9223372036854775807 := by omega
  by_cases h : l.length ≤ 20
  · go_enter Try.func4, Try.ntmps4
    go_wp2_with fail
    refine (circle_any l _ _ (by omega) hv).mono ?_
    rintro e w1 ⟨rfl, hb1⟩
    go_wp2_with fail
    refine (refCircle_any l _ _ (by omega) (hv.below hb1)).mono ?_
    rintro e w2 ⟨rfl, hb2⟩
    have hb02 := hb1.trans (hb2.mono hb1.size)
    generalize circleL l = z
    go_wp2_with fail
    refine (roots_any l _ _ (by omega) (hv.below hb02)).mono ?_
    rintro e w3 ⟨v3, rfl, hown3, hb3⟩
    have hb03 := hb02.trans (hb3.mono hb02.size)
    have hr3 := RI.list hown3 (fl_at _ _) (by omega)
    go_wp2_with fail
    refine (refRoots_any l _ _ (by omega) (hv.below hb03)).mono ?_
    rintro e w4 ⟨v4, rfl, hown4, hb4⟩
    have hb04 := hb03.trans (hb4.mono hb03.size)
    have hr4 := RI.list hown4 (fl_at _ _) (by omega)
    have hrl : (rootsL l).length ≤ l.length := fl_len _ _
    go_wp2_with fail
    refine (same_ints _ _ _ _ _ (by omega) (hr3.below hb4) hr4).mono ?_
    rintro e w7 ⟨rfl, hb7⟩
    rw [show decide (rootsL l = rootsL l) = true from decide_eq_true rfl]
    have hb07 := hb04.trans (hb7.mono hb04.size)
    go_wp2_with fail
    refine (nestAwake_any _).mono ?_
    rintro e w8 ⟨rfl, hb8⟩
    go_wp2_with fail
    go_ret
    exact ⟨rfl, hb07.trans (hb8.mono hb07.size)⟩
  · go_enter Try.func4, Try.ntmps4
    go_wp2_with (go_at_call 14; refine (nestAwake_any _).mono ?_; rintro e w' ⟨rfl, hb⟩)
    go_ret
    exact ⟨rfl, hb⟩

end Go.Proofs.Ytcdeidedcbnhaaa
