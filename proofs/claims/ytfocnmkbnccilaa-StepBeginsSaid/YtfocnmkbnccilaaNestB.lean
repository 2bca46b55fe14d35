/-
  THE WALKS of warderref10 and of the rest of nest.
-/
import Derived.Test.YtfocnmkbnccilaaNest
set_option linter.unusedVariables false
set_option linter.unusedSimpArgs false
namespace Go.Proofs.Ytfocnmkbnccilaa
open Go.RowKit

theorem getD_at {l : List Int} {k : Nat} (h : k < l.length) : l.getD k 0 = l[k] := by rw [List.getD, List.getElem?_eq_getElem h]; rfl

/-- steps up, from wherever -/
theorem up_rest (l : List Int) (i : Int) (k d : Nat) (x : Int) (h : upN l i k = norm l x) (hx : ¬ isAt l x) : upN l i (k + d) = -1 :=
  upN_none l i k (by rw [h]; exact ((norm_cases l x).resolve_left fun hh => hx hh.1).2) d

set_option maxHeartbeats 1000000 in
theorem up_any (l : List Int) (v : Value) (i n : Int) (w : World) (hl : l.length ≤ 1073741824) (hn0 : 0 ≤ n) (hn : n ≤ 4294967296) (hv : RI w v l) :
    Calls Try.prog 93 #[v, .int .i64 i, .int .i64 n] w fun e w' => e = .returned (.int .i64 (upN l i n.toNat)) ∧ w = w' := by
  obtain ⟨A, c, rfl, hc⟩ := hv.form
  obtain ⟨N, rfl⟩ := Int.eq_ofNat_of_zero_le hn0
  rw [Int.toNat_natCast]
  go_enter Try.func93, Try.ntmps93
  go_wp2_with fail
  go_loop [1, 7] (fun x j => ∃ (k : Nat) (y : Int), k ≤ N ∧ j = .int .i64 (k : Int) ∧ x = .int .i64 y ∧ upN l i k = norm l y) (fun x j => N - (intOf j).toNat)
  case atStart => exact ⟨0, i, Nat.zero_le _, rfl, rfl, rfl⟩
  case round =>
    obtain ⟨k, y, hk, rfl, rfl, hup⟩ := hrel
    by_cases hlt : k < N
    · by_cases hy : isAt l y
      · obtain ⟨hy1, hy2⟩ := hy
        obtain ⟨z, rfl⟩ := Int.eq_ofNat_of_zero_le hy1
        obtain ⟨b, o, rfl, hcell, hb1, hb2⟩ := hv.at_ (show z < l.length by omega)
        have e : upN l i (k + 1) = norm l (l.getD z 0) := by
          show par l (upN l i k) = _
          rw [hup, par_norm]
          unfold par
          rw [if_pos ⟨hy1, hy2⟩]; simp
        have E := hide e
        clear hup e
        generalize l.getD z 0 = y' at *
        go_wp2_with fail
        go_round
        case rel => exact ⟨k + 1, y', by omega, by go_num, rfl, E.out⟩
        case measure => simp [intOf]; omega
      · have e := up_rest l i k (N - k) y hup hy
        rw [show k + (N - k) = N from by omega] at e
        have E := hide e
        clear e hup
        by_cases h0 : 0 ≤ y
        · have h1 : (l.length : Int) ≤ y := by unfold isAt at hy; omega
          clear hy
          go_wp2_with fail
          go_ret
          rw [E.out]; exact ⟨rfl, rfl⟩
        · clear hy
          go_wp2_with fail
          go_ret
          rw [E.out]; exact ⟨rfl, rfl⟩
    · obtain rfl : k = N := by omega
      by_cases hy : isAt l y
      · have e : upN l i k = y := by rw [hup]; exact ((norm_cases l y).resolve_right fun hh => hh.1 hy).2
        have E := hide e
        clear e hup
        obtain ⟨hy1, hy2⟩ := hy
        go_wp2_with fail
        go_ret
        rw [E.out]; exact ⟨rfl, rfl⟩
      · have e : upN l i k = -1 := by rw [hup]; exact ((norm_cases l y).resolve_left fun hh => hy hh.1).2
        have E := hide e
        clear e hup
        by_cases h0 : 0 ≤ y
        · have h1 : (l.length : Int) ≤ y := by unfold isAt at hy; omega
          clear hy
          go_wp2_with fail
          go_ret
          rw [E.out]; exact ⟨rfl, rfl⟩
        · clear hy
          go_wp2_with fail
          go_ret
          rw [E.out]; exact ⟨rfl, rfl⟩

noncomputable instance (l : List Int) (a i : Int) : Decidable (isL l a i) := Classical.propDecidable _
set_option maxHeartbeats 1000000 in
theorem is_any (l : List Int) (v : Value) (a i : Int) (w : World) (hl : l.length ≤ 1073741824) (hv : RI w v l) :
    Calls Try.prog 65 #[v, .int .i64 a, .int .i64 i] w fun e w' => e = .returned (.bool (decide (isL l a i))) ∧ w = w' := by
  obtain ⟨A, c, rfl, hc⟩ := hv.form
  go_enter Try.func65, Try.ntmps65
  go_wp2_with fail
  go_loop [7] (fun j => ∃ k : Nat, 1 ≤ k ∧ k ≤ l.length + 1 ∧ j = .int .i64 (k : Int) ∧ ∀ m, 1 ≤ m → m < k → ¬ (0 ≤ a ∧ upN l i m = a)) (fun j => l.length + 1 - (intOf j).toNat)
  case atStart => exact ⟨1, Nat.le_refl _, by omega, rfl, fun m h1 h2 => by omega⟩
  case round =>
    obtain ⟨k, hk1, hk, rfl, hno⟩ := hrel
    have Hno := hide hno
    clear hno
    by_cases hlt : k ≤ l.length
    · have hup := up_any l _ i (k : Int) w hl (by omega) (by omega) hv
      rw [Int.toNat_natCast] at hup
      have hyes : 0 ≤ a → upN l i k = a → decide (isL l a i) = true := fun h1 h2 => decide_eq_true ⟨k, hk1, hlt, h1, h2⟩
      have hnext : ¬ (0 ≤ a ∧ upN l i k = a) → ∀ m, 1 ≤ m → m < k + 1 → ¬ (0 ≤ a ∧ upN l i m = a) := fun h m h1 h2 => by
        by_cases e : m = k
        · subst e; exact h
        · exact Hno.out m h1 (by omega)
      have Hup := hide hup
      have Hyes := hide hyes
      have Hnext := hide hnext
      clear hup hyes hnext Hno
      generalize upN l i k = y at *
      by_cases h0 : 0 ≤ a
      · by_cases h1 : y = a
        · have h2 : (y == a) = true := by simpa using h1
          have E := hide (Hyes.out h0 h1)
          clear h1
          go_wp2_with (go_at_call 93; refine Hup.out.mono ?_; rintro e w' ⟨rfl, rfl⟩)
          go_ret
          rw [E.out]; exact ⟨rfl, rfl⟩
        · have h2 : (y == a) = false := by simpa using h1
          have E := hide (Hnext.out (fun hh => h1 hh.2))
          clear h1
          go_wp2_with (go_at_call 93; refine Hup.out.mono ?_; rintro e w' ⟨rfl, rfl⟩)
          go_round
          case rel => exact ⟨k + 1, by omega, by omega, by go_num, E.out⟩
          case measure => simp [intOf]; omega
      · have E := hide (Hnext.out (fun hh => h0 hh.1))
        go_wp2_with fail
        go_round
        case rel => exact ⟨k + 1, by omega, by omega, by go_num, E.out⟩
        case measure => simp [intOf]; omega
    · have e : decide (isL l a i) = false := by
        refine decide_eq_false fun ⟨m, h1, h2, h3, h4⟩ => Hno.out m h1 (by omega) ⟨h3, h4⟩
      have E := hide e
      clear e
      go_wp2_with fail
      go_ret
      rw [E.out]; exact ⟨rfl, rfl⟩

end Go.Proofs.Ytfocnmkbnccilaa
