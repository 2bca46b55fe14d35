/-
  The walks of bits.Has, cmp.Compare, eval.Compare, of tree.Arity and the document's Compare. No condition.
-/
import Derived.Test.YtfocnmkbnccilaaEvSpec
import Derived.Test.YtfocnmkbnccilaaMem
import Derived.Test.YtfocnmkbnccilaaProg
import Derived.BigQuiet
import Derived.Deep.QuietTactic
set_option linter.unusedVariables false
set_option linter.unusedSimpArgs false
namespace Go.Proofs.Ytfocnmkbnccilaa
open Go.RowKit

theorem number_any (i : Int) (w : World) : Calls Try.prog 101 #[.int .i64 i] w fun e w' => e = .returned (.bool (decide (0 ≤ i) && decide (i < 31))) ∧ w = w' := by
  by_cases h : 0 ≤ i <;> (go_enter Try.func101, Try.ntmps101; go_wp2; go_ret; exact ⟨by congr 2; simp [h] <;> omega, rfl⟩)
theorem ret_bool {a b : Bool} (h : a = b) : Ending.returned (.bool a) = .returned (.bool b) := by rw [h]
theorem ret_i64 {a b : Int} (h : a = b) : Ending.returned (.int .i64 a) = .returned (.int .i64 b) := by rw [h]
theorem has_any (s i : Int) (w : World) : Calls Try.prog 105 #[.int .i64 s, .int .i64 i] w fun e w' => e = .returned (.bool (hasB s i)) ∧ w = w' := by
  by_cases h0 : 0 ≤ i
  · by_cases h1 : i < 31
    · have e0 : decide (0 ≤ i) = true := by simp; omega
      have e1 : decide (i < 31) = true := by simp; omega
      go_enter Try.func105, Try.ntmps105
      go_wp2_with (go_at_call 101; refine (number_any _ _).mono ?_; rintro e w' ⟨rfl, rfl⟩)
      go_ret
      exact ⟨ret_bool (by unfold hasB; rw [and_one_i64, e0, e1]; rfl), rfl⟩
    · have e0 : decide (0 ≤ i) = true := by simp; omega
      have e1 : decide (i < 31) = false := by simp; omega
      go_enter Try.func105, Try.ntmps105
      go_wp2_with (go_at_call 101; refine (number_any _ _).mono ?_; rintro e w' ⟨rfl, rfl⟩)
      go_ret
      exact ⟨ret_bool (by unfold hasB; rw [e0, e1]; rfl), rfl⟩
  · have e0 : decide (0 ≤ i) = false := by simp; omega
    go_enter Try.func105, Try.ntmps105
    go_wp2_with (go_at_call 101; refine (number_any _ _).mono ?_; rintro e w' ⟨rfl, rfl⟩)
    go_ret
    exact ⟨ret_bool (by unfold hasB; rw [e0]; rfl), rfl⟩

theorem isNaN_any (a : Int) (w : World) : Calls Try.prog 127 #[.int .i64 a] w fun e w' => e = .returned (.bool false) ∧ w = w' := by
  go_enter Try.func127, Try.ntmps127
  go_wp2
  go_ret
  exact ⟨ret_bool (by simp), rfl⟩
theorem cmp_any (a b : Int) (w : World) : Calls Try.prog 109 #[.int .i64 a, .int .i64 b] w fun e w' => e = .returned (.int .i64 (cmpI a b)) ∧ w = w' := by
  by_cases h1 : a < b
  · go_enter Try.func109, Try.ntmps109
    go_wp2_with (go_at_call 127; refine (isNaN_any _ _).mono ?_; rintro e w' ⟨rfl, rfl⟩)
    go_ret
    exact ⟨ret_i64 (by unfold cmpI; (repeat' split) <;> omega), rfl⟩
  · by_cases h2 : b < a
    · go_enter Try.func109, Try.ntmps109
      go_wp2_with (go_at_call 127; refine (isNaN_any _ _).mono ?_; rintro e w' ⟨rfl, rfl⟩)
      go_ret
      exact ⟨ret_i64 (by unfold cmpI; (repeat' split) <;> omega), rfl⟩
    · go_enter Try.func109, Try.ntmps109
      go_wp2_with (go_at_call 127; refine (isNaN_any _ _).mono ?_; rintro e w' ⟨rfl, rfl⟩)
      go_ret
      exact ⟨ret_i64 (by unfold cmpI; (repeat' split) <;> omega), rfl⟩

theorem so_any (op c : Int) (w : World) : Calls Try.prog 135 #[.int .i64 op, .int .i64 c] w fun e w' => e = .returned (.bool (soB op c)) ∧ w = w' := by
  have key : (op = 3 ∨ op = 4 ∨ op = 5 ∨ op = 6 ∨ op = 7 ∨ op = 8) ∨ ((op == 3) = false ∧ (op == 4) = false ∧ (op == 5) = false ∧ (op == 6) = false ∧ (op == 7) = false ∧ (op == 8) = false) := by
    simp; omega
  rcases key with (rfl | rfl | rfl | rfl | rfl | rfl) | ⟨h3, h4, h5, h6, h7, h8⟩
  all_goals
    go_enter Try.func135, Try.ntmps135
    go_wp2
    go_ret
    refine ⟨ret_bool ?_, rfl⟩
    first | rfl | (simp at h3 h4 h5 h6 h7 h8; simp [soB, *])
theorem cmpI_lt (a b : Int) : (cmpI a b < 0 ↔ a < b) ∧ (0 < cmpI a b ↔ b < a) ∧ (cmpI a b = 0 ↔ a = b) := by
  unfold cmpI; split
  · omega
  · split <;> omega
theorem refCompare_any (op a b : Int) (w : World) : Calls Try.prog 130 #[.int .i64 op, .int .i64 a, .int .i64 b] w fun e w' => e = .returned (.bool (soB op (cmpI a b))) ∧ w = w' := by
  have hc := cmpI_lt a b
  have HC := hide hc
  clear hc
  have key : (op = 3 ∨ op = 4 ∨ op = 5 ∨ op = 6 ∨ op = 7 ∨ op = 8) ∨ ((op == 3) = false ∧ (op == 4) = false ∧ (op == 5) = false ∧ (op == 6) = false ∧ (op == 7) = false ∧ (op == 8) = false) := by
    simp; omega
  rcases key with (rfl | rfl | rfl | rfl | rfl | rfl) | ⟨h3, h4, h5, h6, h7, h8⟩
  all_goals
    go_enter Try.func130, Try.ntmps130
    go_wp2
    go_ret
    refine ⟨ret_bool ?_, rfl⟩
    have hc := HC.out
    simp only [soB]
    first
    | (simp at h3 h4 h5 h6 h7 h8; simp [*])
    | (rw [Bool.eq_iff_iff]; simp; omega)
theorem arity_any (op : Int) (w : World) : Calls Try.prog 137 #[.int .i64 op] w fun e w' => e = .returned (.int .i64 (arity op)) ∧ w = w' := by
  have key : (1 ≤ op ∧ op ≤ 14) ∨ op = 15 ∨ (19 ≤ op ∧ op ≤ 24) ∨ (16 ≤ op ∧ op ≤ 18) ∨ op = 25 ∨ op = 26 ∨ op < 1 ∨ 26 < op := by omega
  rcases key with ⟨h1, h2⟩ | rfl | ⟨h1, h2⟩ | ⟨h1, h2⟩ | rfl | rfl | h1 | h1
  all_goals
    go_enter Try.func137, Try.ntmps137
    go_wp2
    all_goals go_ret
    all_goals refine ⟨ret_i64 ?_, rfl⟩
    all_goals (unfold arity; (repeat' split) <;> first | rfl | omega)
end Go.Proofs.Ytfocnmkbnccilaa
