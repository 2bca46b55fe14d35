/-
  THE WALKS of num.Gap and the document's.
-/
import Derived.Test.YtkfampdcigiokaaDoorNumAdd
set_option linter.unusedVariables false
set_option linter.unusedSimpArgs false
namespace Go.Proofs.YtkfampdcigiokaaDoor
open Go.RowKit

theorem wrapu (x : Int) : IntKind.u64.wrap x = x % 18446744073709551616 := by
  simp [IntKind.wrap, IntKind.bits, IntKind.signed]
set_option maxHeartbeats 2000000 in
theorem gap_any (a b m : Int) (w : World) (ha : -9223372036854775808 ≤ a ∧ a ≤ 9223372036854775807) (hb : -9223372036854775808 ≤ b ∧ b ≤ 9223372036854775807) (hm : -9223372036854775808 ≤ m ∧ m ≤ 9223372036854775807) :
    Calls Tryd.prog 13 #[.int .i64 a, .int .i64 b, .int .i64 m] w fun e w' => e = .returned (.int .i64 (gapP a b m)) ∧ w = w' := by
  obtain ⟨ha1, ha2⟩ := ha
  obtain ⟨hb1, hb2⟩ := hb
  obtain ⟨hm1, hm2⟩ := hm
  by_cases h1 : m ≤ 0
  · have hP : gapP a b m = 0 := by unfold gapP; rw [if_pos (.inl h1)]
    rw [hP]
    have e1 : decide (m ≤ 0) = true := decide_eq_true h1
    go_enter Tryd.func13, Tryd.ntmps13
    go_wp2_with fail
    go_ret
    exact ⟨rfl, rfl⟩
  · by_cases h2 : b ≤ a
    · have hP : gapP a b m = 0 := by unfold gapP; rw [if_pos (.inr h2)]
      rw [hP]
      have e1 : decide (m ≤ 0) = false := decide_eq_false h1
      have e2 : decide (b ≤ a) = true := decide_eq_true h2
      go_enter Tryd.func13, Tryd.ntmps13
      go_wp2_with fail
      go_ret
      exact ⟨rfl, rfl⟩
    · have hP : gapP a b m = if b - a - 1 ≤ m then b - a - 1 else m := by unfold gapP; rw [if_neg (by omega)]
      rw [hP]
      have e1 : decide (m ≤ 0) = false := decide_eq_false h1
      have e2 : decide (b ≤ a) = false := decide_eq_false h2
      have hu : IntKind.u64.wrap (IntKind.u64.wrap (IntKind.u64.wrap b - IntKind.u64.wrap a) - 1) = b - a - 1 := by
        simp only [wrapu]; omega
      have hm3 := wrap_in (x := m) (by omega)
      by_cases h3 : b - a - 1 ≤ m
      · rw [if_pos h3]
        have hm4 := wrap_in (x := b - a - 1) (by omega)
        go_enter Tryd.func13, Tryd.ntmps13
        go_wp2_with fail
        all_goals first
          | (exfalso; rw [hu] at *; omega)
          | (go_ret; exact ⟨by simp [hu, hm4], rfl⟩)
      · rw [if_neg h3]
        go_enter Tryd.func13, Tryd.ntmps13
        go_wp2_with fail
        all_goals first
          | (exfalso; rw [hu] at *; omega)
          | (go_ret; exact ⟨by simp [hm3], rfl⟩)

set_option maxHeartbeats 2000000 in
theorem refGap_any (a b m : Int) (w : World) (ha : -9223372036854775808 ≤ a ∧ a ≤ 9223372036854775807) (hb : -9223372036854775808 ≤ b ∧ b ≤ 9223372036854775807) (hm : -9223372036854775808 ≤ m ∧ m ≤ 9223372036854775807) :
    Calls Tryd.prog 14 #[.int .i64 a, .int .i64 b, .int .i64 m] w fun e w' => e = .returned (.int .i64 (gapP a b m)) ∧ w = w' := by
  obtain ⟨ha1, ha2⟩ := ha
  obtain ⟨hb1, hb2⟩ := hb
  obtain ⟨hm1, hm2⟩ := hm
  obtain ⟨G, hG⟩ : ∃ G, G = gapP a b m := ⟨_, rfl⟩
  rw [← hG]
  unfold gapP at hG
  have HG := hide hG
  clear hG
  go_enter Tryd.func14, Tryd.ntmps14
  go_wp2_with fail
  go_loopw [0, 7] (fun x n wr => ∃ k : Nat, x = .int .i64 (a + (k : Int)) ∧ n = .int .i64 (k : Int) ∧ (k = 0 ∨ ((k : Int) ≤ m ∧ a + (k : Int) < b)) ∧ w = wr) (fun x n wr => (m - intOf n).toNat)
  case atStart => exact ⟨0, by simp, rfl, .inl rfl, rfl⟩
  case round =>
    obtain ⟨k, rfl, rfl, hk, rfl⟩ := hrel
    by_cases g1 : (k : Int) < m
    · have e1 : decide ((k : Int) < m) = true := decide_eq_true g1
      by_cases g2 : a + (k : Int) < b
      · have e2 : decide (a + (k : Int) < b) = true := decide_eq_true g2
        have hw := wrap_in (x := a + (k : Int) + 1) (by omega)
        have hw2 := wrap_in (x := (k : Int) + 1) (by omega)
        by_cases g3 : a + (k : Int) + 1 < b
        · have e3 : decide (a + (k : Int) + 1 < b) = true := decide_eq_true g3
          go_wp2_with fail
          go_roundw
          case rel => exact ⟨k + 1, by first | (congr 1; rw [hw]; omega) | (simp; omega) | skip, by first | go_num | (rw [hw2]; simp) | skip, .inr ⟨by omega, by omega⟩, by first | rfl | trivial⟩
          case measure => simp [intOf]; omega
        · have e3 : decide (a + (k : Int) + 1 < b) = false := decide_eq_false g3
          have hGk : G = (k : Int) := by rw [HG.out, if_neg (by omega), if_pos (by omega)]; omega
          have HGk := hide hGk
          clear hGk HG
          go_wp2_with fail
          go_ret
          exact ⟨by rw [HGk.out]; rfl, rfl⟩
      · have e2 : decide (a + (k : Int) < b) = false := decide_eq_false g2
        have hk0 : k = 0 := by omega
        subst hk0
        have hGk : G = 0 := by rw [HG.out, if_pos (.inr (by omega))]
        have HGk := hide hGk
        clear hGk HG
        go_wp2_with fail
        go_ret
        exact ⟨by rw [HGk.out]; rfl, rfl⟩
    · have e1 : decide ((k : Int) < m) = false := decide_eq_false g1
      have hGk : G = (k : Int) := by
        rw [HG.out]
        rcases hk with rfl | ⟨h1, h2⟩
        · rw [if_pos (.inl (by omega))]; rfl
        · rcases Nat.eq_zero_or_pos k with rfl | hk0
          · rw [if_pos (.inl (by omega))]; rfl
          · rw [if_neg (by omega)]
            by_cases h4 : b - a - 1 ≤ m
            · rw [if_pos h4]; omega
            · rw [if_neg h4]; omega
      have HGk := hide hGk
      clear hGk HG
      go_wp2_with fail
      go_ret
      exact ⟨by rw [HGk.out]; rfl, rfl⟩
end Go.Proofs.YtkfampdcigiokaaDoor
