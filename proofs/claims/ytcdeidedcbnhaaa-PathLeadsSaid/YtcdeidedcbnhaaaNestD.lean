/-
  THE WALKS of nest and warderref10: Below, Roots, Circle.
-/
import Derived.Test.YtcdeidedcbnhaaaNestC
set_option linter.unusedVariables false
set_option linter.unusedSimpArgs false
namespace Go.Proofs.Ytcdeidedcbnhaaa
open Go.RowKit

/-- one round's end of a loop that gathers places -/
theorem fl_rel {p : Nat → Bool} {k : Nat} {w wr : World} {v v2 : Value} {w1 w2 : World} (h : p k = true) (hb : Below w.heap.size w wr) (hb1 : Below wr.heap.size wr w1)
    (hown : w1.ownsRow w.heap.size 3 1 v (fl p k).length ((fl p k).map (Value.int .i64)))
    (hown2 : w2.ownsRow w.heap.size 3 1 v2 ((fl p k).length + 1) ((fl p k).map (Value.int .i64) ++ [Value.int .i64 (k : Int)])) (hg2 : (w1.alloc (.cells #[.int .i64 (k : Int)] 3)).grownBy w2 v.ownBlock) :
    w2.ownsRow w.heap.size 3 1 v2 (fl p (k + 1)).length ((fl p (k + 1)).map (Value.int .i64)) ∧ Below w.heap.size w w2 := by
  have hb0 := hb.trans (hb1.mono hb.size)
  refine ⟨?_, (hb0.alloc hb0.size _).grown hg2 (by have := hb0.size; simp; omega) (fun g hg => (hown.lt g hg).1)⟩
  rw [fl_yes p k h, List.length_append, List.map_append]
  exact hown2

set_option maxHeartbeats 1000000 in
theorem below_any (l : List Int) (v : Value) (i : Int) (w : World) (hl : l.length ≤ 1073741824) (hv : RI w v l) :
    Calls Try.prog 19 #[v, .int .i64 i] w (ListPost (belowL l i) w) := by
  obtain ⟨i0, hi0, hz0, hz1, hz2⟩ := info_parts intInfo
  obtain ⟨A, c, rfl, hc⟩ := hv.form
  by_cases hi : isAt l i
  · obtain ⟨p, hp⟩ : ∃ p : Nat → Bool, p = fun (k : Nat) => decide ((k : Int) ≠ i ∧ i ∈ aboveL l (k : Int)) := ⟨_, rfl⟩
    have e : belowL l i = fl p l.length := by unfold belowL; rw [if_pos hi, hp]; rfl
    rw [e]
    have Hp := hide hp
    clear hp e
    obtain ⟨hi1, hi2⟩ := hi
    go_enter Try.func19, Try.ntmps19
    go_wp2_with fail
    go_loopw [5, 18] (fun u j wr => ∃ k : Nat, k ≤ l.length ∧ j = .int .i64 (k : Int) ∧ wr.ownsRow w.heap.size 3 1 u (fl p k).length ((fl p k).map (Value.int .i64)) ∧ Below w.heap.size w wr) (fun u j wr => l.length - (intOf j).toNat)
    case atStart => exact ⟨0, Nat.zero_le _, rfl, World.ownsRow_nil _ _ _ _, Below.refl _ _⟩
    case round =>
      obtain ⟨k, hk, rfl, hown, hb⟩ := hrel
      have hfl := fl_len p k
      by_cases hlt : k < l.length
      · have hv1 := hv.below hb
        by_cases hki : (k : Int) = i
        · have h1 : ((k : Int) != i) = false := by simp [hki]
          have hpk : p k = false := by rw [Hp.out]; simp [hki]
          have E := hide (fl_no p k hpk)
          clear hki hpk
          go_wp2_with fail
          go_roundw
          case rel => exact ⟨k + 1, by omega, by go_num, by rw [E.out]; exact hown, hb⟩
          case measure => simp [intOf]; omega
        · have h1 : ((k : Int) != i) = true := by simp [hki]
          have ha := above_any l _ (k : Int) wr hl hv1
          have hab := above_at l (k : Int)
          have hal := above_len l (k : Int)
          have hpk : p k = decide (i ∈ aboveL l (k : Int)) := by rw [Hp.out]; simp [hki]
          generalize aboveL l (k : Int) = L at *
          have Ha := hide ha
          have Hab := hide hab
          have Hpk := hide hpk
          clear ha hab hpk hki
          by_cases hm : i ∈ L
          · have hpk : p k = true := by rw [Hpk.out]; exact decide_eq_true hm
            have HP := hide hpk
            have hd := decide_eq_true hm
            clear hpk hm
            have HD := hide hd
            clear hd
            go_wp2_with fail
            refine Ha.out.mono ?_
            rintro e w1 ⟨v1, rfl, hown1, hb1⟩
            have hri := RI.list hown1 Hab.out hl
            have hcn := contains_any L v1 i w1 (by omega) hri
            rw [HD.out] at hcn
            have Hcn := hide hcn
            have hownk := own_below' hown hb1
            have hb0 := hb.trans (hb1.mono hb.size)
            clear hcn hown
            obtain ⟨A', c', rfl, hc'⟩ := own_form hownk
            go_wp2_with (first
              | (go_at_call 45; refine Hcn.out.mono ?_; rintro e w2 ⟨rfl, rfl⟩)
              | (at_builtin; refine wpList_append_own _ rfl (.tmp 31) (.tmp 33) 22 rfl w.heap.size 3 i0 _ 1 8 Try.underlying22 hi0 hz0 hz1 hz2 rfl (by omega) _ (fl p k).length _ rfl (hownk.alloc _) ⟨w1.heap.size, 0, none⟩ 1 1 [.int .i64 (k : Int)] rfl rfl (one_new _ _ _) (one_one _) (by unfold maxLen; omega) (by omega) (by have := hb0.size; simp; omega) ?_; intro v2 w2 hown2 hg2 _))
            go_roundw
            case rel => exact ⟨k + 1, by omega, by go_num, fl_rel HP.out hb hb1 hownk hown2 hg2⟩
            case measure => simp [intOf]; omega
          · have hpk : p k = false := by rw [Hpk.out]; exact decide_eq_false hm
            have E := hide (fl_no p k hpk)
            have HD := hide (decide_eq_false hm)
            clear hpk hm
            go_wp2_with fail
            refine Ha.out.mono ?_
            rintro e w1 ⟨v1, rfl, hown1, hb1⟩
            have hri := RI.list hown1 Hab.out hl
            have hcn := contains_any L v1 i w1 (by omega) hri
            rw [HD.out] at hcn
            have Hcn := hide hcn
            have hownk := own_below' hown hb1
            have hb0 := hb.trans (hb1.mono hb.size)
            clear hcn hown
            go_wp2_with (go_at_call 45; refine Hcn.out.mono ?_; rintro e w2 ⟨rfl, rfl⟩)
            go_roundw
            case rel => exact ⟨k + 1, by omega, by go_num, by rw [E.out]; exact hownk, hb0⟩
            case measure => simp [intOf]; omega
      · obtain rfl : k = l.length := by omega
        go_wp2_with fail
        go_ret
        exact ⟨_, rfl, hown, hb⟩
  · have e : belowL l i = [] := by unfold belowL; rw [if_neg hi]
    rw [e]
    clear e
    by_cases h0 : 0 ≤ i
    · have h1 : (l.length : Int) ≤ i := by unfold isAt at hi; omega
      go_enter Try.func19, Try.ntmps19
      go_wp2_with fail
      go_ret
      exact ⟨_, rfl, World.ownsRow_nil _ _ _ _, Below.refl _ _⟩
    · go_enter Try.func19, Try.ntmps19
      go_wp2_with fail
      go_ret
      exact ⟨_, rfl, World.ownsRow_nil _ _ _ _, Below.refl _ _⟩

theorem isL_range (l : List Int) (a i : Int) (h : ¬ isAt l a) : ¬ isL l a i := by
  rintro ⟨j, _, _, h0, h1⟩
  rcases upN_at l i j with h2 | h2
  · rw [h2] at h1; omega
  · rw [h1] at h2; exact h h2

set_option maxHeartbeats 1000000 in
theorem refBelow_any (l : List Int) (v : Value) (i : Int) (w : World) (hl : l.length ≤ 1073741824) (hv : RI w v l) :
    Calls Try.prog 20 #[v, .int .i64 i] w (ListPost (belowL l i) w) := by
  obtain ⟨i0, hi0, hz0, hz1, hz2⟩ := info_parts intInfo
  obtain ⟨A, c, rfl, hc⟩ := hv.form
  obtain ⟨p, hp⟩ : ∃ p : Nat → Bool, p = fun (k : Nat) => decide ((k : Int) ≠ i ∧ isL l i (k : Int)) := ⟨_, rfl⟩
  have e : belowL l i = fl p l.length := by
    unfold belowL fl
    rw [hp]
    by_cases hi : isAt l i
    · rw [if_pos hi]
      congr 1
      refine List.filter_congr fun k _ => ?_
      refine decide_eq_decide.2 ⟨fun ⟨h1, h2⟩ => ⟨h1, ?_⟩, fun ⟨h1, h2⟩ => ⟨h1, ?_⟩⟩
      · obtain ⟨j, h3, h4, h5⟩ := (mem_above l (k : Int) i hi.1 h1).1 h2
        exact ⟨j, h3, h4, hi.1, h5⟩
      · obtain ⟨j, h3, h4, _, h5⟩ := h2
        exact (mem_above l (k : Int) i hi.1 h1).2 ⟨j, h3, h4, h5⟩
    · rw [if_neg hi, List.filter_eq_nil_iff.2 (fun k _ => by simp; intro _; exact isL_range l i _ hi)]
      rfl
  rw [e]
  have Hp := hide hp
  clear hp e
  go_enter Try.func20, Try.ntmps20
  go_wp2_with fail
  go_loopw [5, 6] (fun u j wr => ∃ k : Nat, k ≤ l.length ∧ j = .int .i64 (k : Int) ∧ wr.ownsRow w.heap.size 3 1 u (fl p k).length ((fl p k).map (Value.int .i64)) ∧ Below w.heap.size w wr) (fun u j wr => l.length - (intOf j).toNat)
  case atStart => exact ⟨0, Nat.zero_le _, rfl, World.ownsRow_nil _ _ _ _, Below.refl _ _⟩
  case round =>
    obtain ⟨k, hk, rfl, hown, hb⟩ := hrel
    have hfl := fl_len p k
    by_cases hlt : k < l.length
    · have hv1 := hv.below hb
      by_cases hki : (k : Int) = i
      · have h1 : ((k : Int) != i) = false := by simp [hki]
        have hpk : p k = false := by rw [Hp.out]; simp [hki]
        have E := hide (fl_no p k hpk)
        clear hki hpk
        go_wp2_with fail
        go_roundw
        case rel => exact ⟨k + 1, by omega, by go_num, by rw [E.out]; exact hown, hb⟩
        case measure => simp [intOf]; omega
      · have h1 : ((k : Int) != i) = true := by simp [hki]
        have ha := is_any l _ i (k : Int) wr hl hv1
        have hpk : p k = decide (isL l i (k : Int)) := by rw [Hp.out]; simp [hki]
        have Hpk := hide hpk
        clear hpk hki
        generalize decide (isL l i (k : Int)) = b at *
        have Ha := hide ha
        clear ha
        obtain ⟨A', c', rfl, hc'⟩ := own_form hown
        cases b with
        | true =>
          go_wp2_with (first
            | (go_at_call 48; refine Ha.out.mono ?_; rintro e w2 ⟨rfl, rfl⟩)
            | (at_builtin; refine wpList_append_own _ rfl (.tmp 22) (.tmp 24) 22 rfl w.heap.size 3 i0 _ 1 8 Try.underlying22 hi0 hz0 hz1 hz2 rfl (by omega) _ (fl p k).length _ rfl (hown.alloc _) ⟨wr.heap.size, 0, none⟩ 1 1 [.int .i64 (k : Int)] rfl rfl (one_new _ _ _) (one_one _) (by unfold maxLen; omega) (by omega) (by have := hb.size; simp; omega) ?_; intro v2 w2 hown2 hg2 _))
          go_roundw
          case rel => exact ⟨k + 1, by omega, by go_num, fl_rel Hpk.out hb (Below.refl _ _) hown hown2 hg2⟩
          case measure => simp [intOf]; omega
        | false =>
          have E := hide (fl_no p k Hpk.out)
          go_wp2_with (go_at_call 48; refine Ha.out.mono ?_; rintro e w2 ⟨rfl, rfl⟩)
          go_roundw
          case rel => exact ⟨k + 1, by omega, by go_num, by rw [E.out]; exact hown, hb⟩
          case measure => simp [intOf]; omega
    · obtain rfl : k = l.length := by omega
      go_wp2_with fail
      go_ret
      exact ⟨_, rfl, hown, hb⟩

set_option maxHeartbeats 1000000 in
theorem roots_any (l : List Int) (v : Value) (w : World) (hl : l.length ≤ 1073741824) (hv : RI w v l) :
    Calls Try.prog 23 #[v] w (ListPost (rootsL l) w) := by
  obtain ⟨i0, hi0, hz0, hz1, hz2⟩ := info_parts intInfo
  obtain ⟨A, c, rfl, hc⟩ := hv.form
  obtain ⟨p, hp⟩ : ∃ p : Nat → Bool, p = fun (k : Nat) => decide (par l (k : Int) = -1) := ⟨_, rfl⟩
  have e : rootsL l = fl p l.length := by rw [hp]; rfl
  rw [e]
  have Hp := hide hp
  clear hp e
  go_enter Try.func23, Try.ntmps23
  go_wp2_with fail
  go_loopw [3, 9] (fun u j wr => ∃ k : Nat, k ≤ l.length ∧ j = .int .i64 (k : Int) ∧ wr.ownsRow w.heap.size 3 1 u (fl p k).length ((fl p k).map (Value.int .i64)) ∧ Below w.heap.size w wr) (fun u j wr => l.length - (intOf j).toNat)
  case atStart => exact ⟨0, Nat.zero_le _, rfl, World.ownsRow_nil _ _ _ _, Below.refl _ _⟩
  case round =>
    obtain ⟨k, hk, rfl, hown, hb⟩ := hrel
    have hfl := fl_len p k
    by_cases hlt : k < l.length
    · have hv1 := hv.below hb
      obtain ⟨A', c', rfl, hc'⟩ := own_form hown
      rcases par_at l (k : Int) with hq | hq
      · have hpk : p k = true := by rw [Hp.out]; simpa using hq
        have Hpk := hide hpk
        have Ha := hide (in_no l _ (k : Int) wr (by omega) hv1 hq)
        clear hq hpk
        go_wp2_with (first
            | (go_at_call 44; refine Ha.out.mono ?_; rintro e w2 ⟨rfl, rfl⟩)
            | (at_builtin; refine wpList_append_own _ rfl (.tmp 20) (.tmp 22) 22 rfl w.heap.size 3 i0 _ 1 8 Try.underlying22 hi0 hz0 hz1 hz2 rfl (by omega) _ (fl p k).length _ rfl (hown.alloc _) ⟨wr.heap.size, 0, none⟩ 1 1 [.int .i64 (k : Int)] rfl rfl (one_new _ _ _) (one_one _) (by unfold maxLen; omega) (by omega) (by have := hb.size; simp; omega) ?_; intro v2 w2 hown2 hg2 _))
        go_roundw
        case rel => exact ⟨k + 1, by omega, by go_num, fl_rel Hpk.out hb (Below.refl _ _) hown hown2 hg2⟩
        case measure => simp [intOf]; omega
      · have hpk : p k = false := by
          rw [Hp.out]
          refine decide_eq_false fun h => ?_
          rw [h] at hq; have := hq.1; omega
        have E := hide (fl_no p k hpk)
        have Ha := hide (in_yes l _ (k : Int) _ wr (by omega) hv1 rfl hq)
        clear hq hpk
        go_wp2_with (go_at_call 44; refine Ha.out.mono ?_; rintro e w2 ⟨rfl, rfl⟩)
        go_roundw
        case rel => exact ⟨k + 1, by omega, by go_num, by rw [E.out]; exact hown, hb⟩
        case measure => simp [intOf]; omega
    · obtain rfl : k = l.length := by omega
      go_wp2_with fail
      go_ret
      exact ⟨_, rfl, hown, hb⟩

set_option maxHeartbeats 1000000 in
theorem refRoots_any (l : List Int) (v : Value) (w : World) (hl : l.length ≤ 1073741824) (hv : RI w v l) :
    Calls Try.prog 24 #[v] w (ListPost (rootsL l) w) := by
  obtain ⟨i0, hi0, hz0, hz1, hz2⟩ := info_parts intInfo
  obtain ⟨A, c, rfl, hc⟩ := hv.form
  obtain ⟨p, hp⟩ : ∃ p : Nat → Bool, p = fun (k : Nat) => decide (par l (k : Int) = -1) := ⟨_, rfl⟩
  have e : rootsL l = fl p l.length := by rw [hp]; rfl
  rw [e]
  have Hp := hide hp
  clear hp e
  go_enter Try.func24, Try.ntmps24
  go_wp2_with fail
  go_loopw [3, 4] (fun u j wr => ∃ k : Nat, k ≤ l.length ∧ j = .int .i64 (k : Int) ∧ wr.ownsRow w.heap.size 3 1 u (fl p k).length ((fl p k).map (Value.int .i64)) ∧ Below w.heap.size w wr) (fun u j wr => l.length - (intOf j).toNat)
  case atStart => exact ⟨0, Nat.zero_le _, rfl, World.ownsRow_nil _ _ _ _, Below.refl _ _⟩
  case round =>
    obtain ⟨k, hk, rfl, hown, hb⟩ := hrel
    have hfl := fl_len p k
    by_cases hlt : k < l.length
    · have hv1 := hv.below hb
      obtain ⟨A', c', rfl, hc'⟩ := own_form hown
      have hup := up_any l _ (k : Int) 1 wr hl (by omega) (by omega) hv1
      rw [show ((1 : Int)).toNat = 1 from rfl, upN_one] at hup
      have hpa := par_at l (k : Int)
      have hpk : p k = decide (par l (k : Int) = -1) := by rw [Hp.out]
      have Hpk := hide hpk
      clear hpk
      generalize par l (k : Int) = y at *
      have Hup := hide hup
      clear hup
      by_cases hq : y = -1
      · have hpk : p k = true := by rw [Hpk.out]; exact decide_eq_true hq
        have HP := hide hpk
        have hy : y < 0 := by omega
        clear hq hpk hpa
        go_wp2_with (first
            | (go_at_call 46; refine Hup.out.mono ?_; rintro e w2 ⟨rfl, rfl⟩)
            | (at_builtin; refine wpList_append_own _ rfl (.tmp 15) (.tmp 17) 22 rfl w.heap.size 3 i0 _ 1 8 Try.underlying22 hi0 hz0 hz1 hz2 rfl (by omega) _ (fl p k).length _ rfl (hown.alloc _) ⟨wr.heap.size, 0, none⟩ 1 1 [.int .i64 (k : Int)] rfl rfl (one_new _ _ _) (one_one _) (by unfold maxLen; omega) (by omega) (by have := hb.size; simp; omega) ?_; intro v2 w2 hown2 hg2 _))
        go_roundw
        case rel => exact ⟨k + 1, by omega, by go_num, fl_rel HP.out hb (Below.refl _ _) hown hown2 hg2⟩
        case measure => simp [intOf]; omega
      · have hpk : p k = false := by rw [Hpk.out]; exact decide_eq_false hq
        have E := hide (fl_no p k hpk)
        have hy : 0 ≤ y := (hpa.resolve_left hq).1
        clear hq hpk hpa
        go_wp2_with (go_at_call 46; refine Hup.out.mono ?_; rintro e w2 ⟨rfl, rfl⟩)
        go_roundw
        case rel => exact ⟨k + 1, by omega, by go_num, by rw [E.out]; exact hown, hb⟩
        case measure => simp [intOf]; omega
    · obtain rfl : k = l.length := by omega
      go_wp2_with fail
      go_ret
      exact ⟨_, rfl, hown, hb⟩

/-- the first place in a circle, told place by place -/
theorem circle_yes (l : List Int) (k : Nat) (hk : k < l.length) (hno : ∀ j, j < k → ¬ circ l (j : Int)) (hy : circ l (k : Int)) : circleL l = (k : Int) := by
  unfold circleL
  have : (List.range l.length).find? (fun (i : Nat) => decide (circ l (i : Int))) = some k := by
    rw [List.find?_range_eq_some]
    exact ⟨by simpa using hy, by simpa using hk, fun j hj => by simpa using hno j hj⟩
  rw [this]; rfl
theorem circle_no (l : List Int) (hno : ∀ j, j < l.length → ¬ circ l (j : Int)) : circleL l = -1 := by
  unfold circleL
  have : (List.range l.length).find? (fun (i : Nat) => decide (circ l (i : Int))) = none := by
    rw [List.find?_eq_none]
    intro j hj
    simpa using hno j (by simpa using hj)
  rw [this]; rfl

set_option maxHeartbeats 1000000 in
theorem refCircle_any (l : List Int) (v : Value) (w : World) (hl : l.length ≤ 1073741824) (hv : RI w v l) :
    Calls Try.prog 22 #[v] w fun e w' => e = .returned (.int .i64 (circleL l)) ∧ Below w.heap.size w w' := by
  obtain ⟨A, c, rfl, hc⟩ := hv.form
  go_enter Try.func22, Try.ntmps22
  go_wp2_with fail
  go_loop [3] (fun j => ∃ k : Nat, k ≤ l.length ∧ j = .int .i64 (k : Int) ∧ ∀ m, m < k → ¬ circ l (m : Int)) (fun j => l.length - (intOf j).toNat)
  case atStart => exact ⟨0, Nat.zero_le _, rfl, fun m hm => by omega⟩
  case round =>
    obtain ⟨k, hk, rfl, hno⟩ := hrel
    have Hno := hide hno
    clear hno
    by_cases hlt : k < l.length
    · have ha := is_any l _ (k : Int) (k : Int) w hl hv
      have hci := circ_iff l (k : Int) ⟨by omega, by omega⟩
      have e : decide (isL l (k : Int) (k : Int)) = decide (circ l (k : Int)) := by
        refine decide_eq_decide.2 ⟨fun ⟨j, h1, h2, _, h3⟩ => hci.2 ⟨j, h1, h2, h3⟩, fun h => ?_⟩
        obtain ⟨j, h1, h2, h3⟩ := hci.1 h
        exact ⟨j, h1, h2, by omega, h3⟩
      rw [e] at ha
      by_cases hy : circ l (k : Int)
      · rw [decide_eq_true hy] at ha
        have Ha := hide ha
        have E := hide (circle_yes l k hlt Hno.out hy)
        clear ha e hci hy
        go_wp2_with (go_at_call 48; refine Ha.out.mono ?_; rintro e w2 ⟨rfl, rfl⟩)
        go_ret
        rw [E.out]
        exact ⟨rfl, Below.refl _ _⟩
      · rw [decide_eq_false hy] at ha
        have Ha := hide ha
        have Hy := hide hy
        clear ha e hci hy
        go_wp2_with (go_at_call 48; refine Ha.out.mono ?_; rintro e w2 ⟨rfl, rfl⟩)
        go_round
        case rel =>
          refine ⟨k + 1, by omega, by go_num, fun m hm => ?_⟩
          by_cases e : m = k
          · subst e; exact Hy.out
          · exact Hno.out m (by omega)
        case measure => simp [intOf]; omega
    · obtain rfl : k = l.length := by omega
      have E := hide (circle_no l Hno.out)
      go_wp2_with fail
      go_ret
      rw [E.out]
      exact ⟨rfl, Below.refl _ _⟩

set_option maxHeartbeats 2000000 in
theorem circle_any (l : List Int) (v : Value) (w : World) (hl : l.length ≤ 1073741824) (hv : RI w v l) :
    Calls Try.prog 21 #[v] w fun e w' => e = .returned (.int .i64 (circleL l)) ∧ Below w.heap.size w w' := by
  obtain ⟨A, c, rfl, hc⟩ := hv.form
  go_enter Try.func21, Try.ntmps21
  go_wp2_with fail
  go_loopw [10] (fun j wr => ∃ k : Nat, k ≤ l.length ∧ j = .int .i64 (k : Int) ∧ (∀ m, m < k → ¬ circ l (m : Int)) ∧ Below w.heap.size w wr) (fun j wr => l.length - (intOf j).toNat)
  case atStart => exact ⟨0, Nat.zero_le _, rfl, fun m hm => by omega, Below.refl _ _⟩
  case round =>
    obtain ⟨k, hk, rfl, hno, hb⟩ := hrel
    have Hno := hide hno
    clear hno
    by_cases hlt : k < l.length
    · have ha := above_any l _ (k : Int) wr hl (hv.below hb)
      have hab := above_at l (k : Int)
      have hal := above_len l (k : Int)
      have hcd : circ l (k : Int) ↔ par l (((aboveL l (k : Int)).getLast?).getD (k : Int)) = (k : Int) := ⟨fun h => h.2, fun h => ⟨⟨by omega, by omega⟩, h⟩⟩
      generalize aboveL l (k : Int) = L at *
      have Ha := hide ha
      have Hab := hide hab
      have Hcd := hide hcd
      clear ha hab hcd
      have hin := fun (q : Int) (w1 : World) (h : RI w1 (.slice A l.length c) l) => in_any l _ q w1 (by omega) h
      have Hin := hide hin
      clear hin
      go_upto_if 19 with (go_at_call 15; refine Ha.out.mono ?_; rintro e w1 ⟨v1, rfl, hown1, hb1⟩; obtain ⟨A', c', rfl, hc'⟩ := own_form hown1)
      have hri := RI.list hown1 Hab.out hl
      have hb0 := hb.trans (hb1.mono hb.size)
      clear hown1
      go_cut [4] (fun u wx => u = .int .i64 ((L.getLast?).getD (k : Int)) ∧ w1 = wx)
      case first =>
        by_cases hL : 0 < L.length
        · obtain ⟨b, o, rfl, hcell, _, _⟩ := hri.at_ (show L.length - 1 < L.length by omega)
          have e : L.getD (L.length - 1) 0 = (L.getLast?).getD (k : Int) := by
            rw [List.getLast?_eq_getElem?, List.getD, List.getElem?_eq_getElem (show L.length - 1 < L.length by omega)]; rfl
          have E := hide e
          generalize (L.getLast?).getD (k : Int) = z at *
          rw [e] at hcell
          clear e
          go_wp2_with fail
          go_meet
          case rel => exact ⟨rfl, rfl⟩
        · have e : (L.getLast?).getD (k : Int) = (k : Int) := by
            obtain rfl : L = [] := List.eq_nil_of_length_eq_zero (by omega)
            rfl
          have E := hide e
          clear e
          generalize (L.getLast?).getD (k : Int) = z at *
          go_wp2_with fail
          go_meet
          case rel => exact ⟨by rw [E.out], rfl⟩
      case rest =>
        obtain ⟨rfl, rfl⟩ := hcut
        have hq := Hin.out ((L.getLast?).getD (k : Int)) w1 (hv.below hb0)
        generalize (L.getLast?).getD (k : Int) = z at *
        have Hq := hide hq
        clear hq Hin
        have hpz : par l z = -1 ∨ isAt l (par l z) := par_at l z
        by_cases hy : circ l (k : Int)
        · have e := Hcd.out.1 hy
          have h1 : (par l z == (k : Int)) = true := by simpa using e
          have hq2 : Calls Try.prog 44 #[.slice A l.length c, .int .i64 z] w1 fun e w' => e = .returned (.tuple #[.int .i64 (k : Int), .bool true]) ∧ w1 = w' := by
            have := in_yes l _ z (k : Int) w1 (by omega) (hv.below hb0) e ⟨by omega, by omega⟩
            exact this
          have Hq2 := hide hq2
          have E := hide (circle_yes l k hlt Hno.out hy)
          clear hy e h1 hq2 hpz Hq
          go_wp2_with (go_at_call 44; refine Hq2.out.mono ?_; rintro e w2 ⟨rfl, rfl⟩)
          go_ret
          rw [E.out]
          exact ⟨rfl, hb0⟩
        · have hne : par l z ≠ (k : Int) := fun e => hy (Hcd.out.2 e)
          have Hy := hide hy
          rcases hpz with hpz | hpz
          · have Hq2 := hide (in_no l _ z w1 (by omega) (hv.below hb0) hpz)
            clear hy hne hpz Hq
            go_wp2_with (go_at_call 44; refine Hq2.out.mono ?_; rintro e w2 ⟨rfl, rfl⟩)
            go_roundw
            case rel =>
              refine ⟨k + 1, by omega, by go_num, fun m hm => ?_, hb0⟩
              by_cases e : m = k
              · subst e; exact Hy.out
              · exact Hno.out m (by omega)
            case measure => simp [intOf]; omega
          · have Hq2 := hide (in_yes l _ z _ w1 (by omega) (hv.below hb0) rfl hpz)
            have h1 : (par l z == (k : Int)) = false := by simpa using hne
            generalize par l z = y at *
            clear hy hne hpz Hq
            go_wp2_with (go_at_call 44; refine Hq2.out.mono ?_; rintro e w2 ⟨rfl, rfl⟩)
            go_roundw
            case rel =>
              refine ⟨k + 1, by omega, by go_num, fun m hm => ?_, hb0⟩
              by_cases e : m = k
              · subst e; exact Hy.out
              · exact Hno.out m (by omega)
            case measure => simp [intOf]; omega
    · obtain rfl : k = l.length := by omega
      have E := hide (circle_no l Hno.out)
      go_wp2_with fail
      go_ret
      rw [E.out]
      exact ⟨rfl, hb⟩

end Go.Proofs.Ytcdeidedcbnhaaa
