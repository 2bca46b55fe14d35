/-
  THE WALKS of nest and warderref10: Below, Roots, Circle.
-/
import Derived.Test.YtfocnmkbnccilaaNestC
set_option linter.unusedVariables false
set_option linter.unusedSimpArgs false
namespace Go.Proofs.Ytfocnmkbnccilaa
open Go.RowKit

/-- one round's end of a loop that gathers places -/
theorem fl_rel {p : Nat → Bool} {k : Nat} {w wr : World} {v v2 : Value} {w1 w2 : World} (h : p k = true) (hb : Below w.heap.size w wr) (hb1 : Below wr.heap.size wr w1)
    (hown : w1.ownsRow w.heap.size 3 1 v (fl p k).length ((fl p k).map (Value.int .i64)))
    (hown2 : w2.ownsRow w.heap.size 3 1 v2 ((fl p k).length + 1) ((fl p k).map (Value.int .i64) ++ [Value.int .i64 (k : Int)])) (hg2 : (w1.alloc (.cells #[.int .i64 (k : Int)] 3)).grownBy w2 v.ownBlock) :
    w2.ownsRow w.heap.size 3 1 v2 (fl p (k + 1)).length ((fl p (k + 1)).map (Value.int .i64)) ∧ Below w.heap.size w w2 := by
  have hb0 := hb.trans (hb1.mono hb.size)
  refine ⟨?_, (hb0.alloc hb0.size _).grown hg2 (by have := hb0.size; simp; omega) (fun g hg => (hown.lt g hg).1)⟩
  rw [fl_yes p k h, List.length_append, List.map_append]
  exact hown2

set_option maxRecDepth 100000 in
set_option maxHeartbeats 1000000 in
theorem below_any (l : List Int) (v : Value) (i : Int) (w : World) (hl : l.length ≤ 1073741824) (hv : RI w v l) :
    Calls Try.prog 83 #[v, .int .i64 i] w (ListPost (belowL l i) w) := by
  obtain ⟨i0, hi0, hz0, hz1, hz2⟩ := info_parts intInfo
  obtain ⟨A, c, rfl, hc⟩ := hv.form
  by_cases hi : isAt l i
  · obtain ⟨p, hp⟩ : ∃ p : Nat → Bool, p = fun (k : Nat) => decide ((k : Int) ≠ i ∧ i ∈ aboveL l (k : Int)) := ⟨_, rfl⟩
    have e : belowL l i = fl p l.length := by unfold belowL; rw [if_pos hi, hp]; rfl
    rw [e]
    have Hp := hide hp
    clear hp e
    obtain ⟨hi1, hi2⟩ := hi
    go_enter Try.func83, Try.ntmps83
    go_wp2_with fail
    go_loopw [5, 18] (fun u j wr => ∃ k : Nat, k ≤ l.length ∧ j = .int .i64 (k : Int) ∧ wr.ownsRow w.heap.size 3 1 u (fl p k).length ((fl p k).map (Value.int .i64)) ∧ Below w.heap.size w wr) (fun u j wr => l.length - (intOf j).toNat)
    case atStart => exact ⟨0, Nat.zero_le _, rfl, World.ownsRow_nil _ _ _ _, Below.refl _ _⟩
    case round =>
      obtain ⟨k, hk, rfl, hown, hb⟩ := hrel
      have hfl := fl_len p k
      by_cases hlt : k < l.length
      · have hv1 := hv.below hb
        by_cases hki : (k : Int) = i
        · have h1 : ((k : Int) != i) = false := by simp [hki]
          have hpk : p k = false := by rw [Hp.out]; simp [hki]
          have E := hide (fl_no p k hpk)
          clear hki hpk
          go_wp2_with fail
          go_roundw
          case rel => exact ⟨k + 1, by omega, by go_num, by rw [E.out]; exact hown, hb⟩
          case measure => simp [intOf]; omega
        · have h1 : ((k : Int) != i) = true := by simp [hki]
          have ha := above_any l _ (k : Int) wr hl hv1
          have hab := above_at l (k : Int)
          have hal := above_len l (k : Int)
          have hpk : p k = decide (i ∈ aboveL l (k : Int)) := by rw [Hp.out]; simp [hki]
          generalize aboveL l (k : Int) = L at *
          have Ha := hide ha
          have Hab := hide hab
          have Hpk := hide hpk
          clear ha hab hpk hki
          by_cases hm : i ∈ L
          · have hpk : p k = true := by rw [Hpk.out]; exact decide_eq_true hm
            have HP := hide hpk
            have hd := decide_eq_true hm
            clear hpk hm
            have HD := hide hd
            clear hd
            go_wp2_with fail
            refine Ha.out.mono ?_
            rintro e w1 ⟨v1, rfl, hown1, hb1⟩
            have hri := RI.list hown1 Hab.out hl
            have hcn := contains_any L v1 i w1 (by omega) hri
            rw [HD.out] at hcn
            have Hcn := hide hcn
            have hownk := own_below' hown hb1
            have hb0 := hb.trans (hb1.mono hb.size)
            clear hcn hown
            obtain ⟨A', c', rfl, hc'⟩ := own_form hownk
            go_wp2_with (first
              | (go_at_call 102; refine Hcn.out.mono ?_; rintro e w2 ⟨rfl, rfl⟩)
              | (at_builtin; refine wpList_append_own _ rfl (.tmp 31) (.tmp 33) 36 rfl w.heap.size 3 i0 _ 1 8 Try.underlying36 hi0 hz0 hz1 hz2 rfl (by omega) _ (fl p k).length _ rfl (hownk.alloc _) ⟨w1.heap.size, 0, none⟩ 1 1 [.int .i64 (k : Int)] rfl rfl (one_new _ _ _) (one_one _) (by unfold maxLen; omega) (by omega) (by have := hb0.size; simp; omega) ?_; intro v2 w2 hown2 hg2 _))
            go_roundw
            case rel => exact ⟨k + 1, by omega, by go_num, fl_rel HP.out hb hb1 hownk hown2 hg2⟩
            case measure => simp [intOf]; omega
          · have hpk : p k = false := by rw [Hpk.out]; exact decide_eq_false hm
            have E := hide (fl_no p k hpk)
            have HD := hide (decide_eq_false hm)
            clear hpk hm
            go_wp2_with fail
            refine Ha.out.mono ?_
            rintro e w1 ⟨v1, rfl, hown1, hb1⟩
            have hri := RI.list hown1 Hab.out hl
            have hcn := contains_any L v1 i w1 (by omega) hri
            rw [HD.out] at hcn
            have Hcn := hide hcn
            have hownk := own_below' hown hb1
            have hb0 := hb.trans (hb1.mono hb.size)
            clear hcn hown
            go_wp2_with (go_at_call 102; refine Hcn.out.mono ?_; rintro e w2 ⟨rfl, rfl⟩)
            go_roundw
            case rel => exact ⟨k + 1, by omega, by go_num, by rw [E.out]; exact hownk, hb0⟩
            case measure => simp [intOf]; omega
      · obtain rfl : k = l.length := by omega
        go_wp2_with fail
        go_ret
        exact ⟨_, rfl, hown, hb⟩
  · have e : belowL l i = [] := by unfold belowL; rw [if_neg hi]
    rw [e]
    clear e
    by_cases h0 : 0 ≤ i
    · have h1 : (l.length : Int) ≤ i := by unfold isAt at hi; omega
      go_enter Try.func83, Try.ntmps83
      go_wp2_with fail
      go_ret
      exact ⟨_, rfl, World.ownsRow_nil _ _ _ _, Below.refl _ _⟩
    · go_enter Try.func83, Try.ntmps83
      go_wp2_with fail
      go_ret
      exact ⟨_, rfl, World.ownsRow_nil _ _ _ _, Below.refl _ _⟩

theorem isL_range (l : List Int) (a i : Int) (h : ¬ isAt l a) : ¬ isL l a i := by
  rintro ⟨j, _, _, h0, h1⟩
  rcases upN_at l i j with h2 | h2
  · rw [h2] at h1; omega
  · rw [h1] at h2; exact h h2

/-- the first place in a circle, told place by place -/
theorem circle_yes (l : List Int) (k : Nat) (hk : k < l.length) (hno : ∀ j, j < k → ¬ circ l (j : Int)) (hy : circ l (k : Int)) : circleL l = (k : Int) := by
  unfold circleL
  have : (List.range l.length).find? (fun (i : Nat) => decide (circ l (i : Int))) = some k := by
    rw [List.find?_range_eq_some]
    exact ⟨by simpa using hy, by simpa using hk, fun j hj => by simpa using hno j hj⟩
  rw [this]; rfl
theorem circle_no (l : List Int) (hno : ∀ j, j < l.length → ¬ circ l (j : Int)) : circleL l = -1 := by
  unfold circleL
  have : (List.range l.length).find? (fun (i : Nat) => decide (circ l (i : Int))) = none := by
    rw [List.find?_eq_none]
    intro j hj
    simpa using hno j (by simpa using hj)
  rw [this]; rfl

set_option maxRecDepth 100000 in
set_option maxHeartbeats 1000000 in
theorem refCircle_any (l : List Int) (v : Value) (w : World) (hl : l.length ≤ 1073741824) (hv : RI w v l) :
    Calls Try.prog 33 #[v] w fun e w' => e = .returned (.int .i64 (circleL l)) ∧ Below w.heap.size w w' := by
  obtain ⟨A, c, rfl, hc⟩ := hv.form
  go_enter Try.func33, Try.ntmps33
  go_wp2_with fail
  go_loop [3] (fun j => ∃ k : Nat, k ≤ l.length ∧ j = .int .i64 (k : Int) ∧ ∀ m, m < k → ¬ circ l (m : Int)) (fun j => l.length - (intOf j).toNat)
  case atStart => exact ⟨0, Nat.zero_le _, rfl, fun m hm => by omega⟩
  case round =>
    obtain ⟨k, hk, rfl, hno⟩ := hrel
    have Hno := hide hno
    clear hno
    by_cases hlt : k < l.length
    · have ha := is_any l _ (k : Int) (k : Int) w hl hv
      have hci := circ_iff l (k : Int) ⟨by omega, by omega⟩
      have e : decide (isL l (k : Int) (k : Int)) = decide (circ l (k : Int)) := by
        refine decide_eq_decide.2 ⟨fun ⟨j, h1, h2, _, h3⟩ => hci.2 ⟨j, h1, h2, h3⟩, fun h => ?_⟩
        obtain ⟨j, h1, h2, h3⟩ := hci.1 h
        exact ⟨j, h1, h2, by omega, h3⟩
      rw [e] at ha
      by_cases hy : circ l (k : Int)
      · rw [decide_eq_true hy] at ha
        have Ha := hide ha
        have E := hide (circle_yes l k hlt Hno.out hy)
        clear ha e hci hy
        go_wp2_with (go_at_call 65; refine Ha.out.mono ?_; rintro e w2 ⟨rfl, rfl⟩)
        go_ret
        rw [E.out]
        exact ⟨rfl, Below.refl _ _⟩
      · rw [decide_eq_false hy] at ha
        have Ha := hide ha
        have Hy := hide hy
        clear ha e hci hy
        go_wp2_with (go_at_call 65; refine Ha.out.mono ?_; rintro e w2 ⟨rfl, rfl⟩)
        go_round
        case rel =>
          refine ⟨k + 1, by omega, by go_num, fun m hm => ?_⟩
          by_cases e : m = k
          · subst e; exact Hy.out
          · exact Hno.out m (by omega)
        case measure => simp [intOf]; omega
    · obtain rfl : k = l.length := by omega
      have E := hide (circle_no l Hno.out)
      go_wp2_with fail
      go_ret
      rw [E.out]
      exact ⟨rfl, Below.refl _ _⟩

end Go.Proofs.Ytfocnmkbnccilaa
