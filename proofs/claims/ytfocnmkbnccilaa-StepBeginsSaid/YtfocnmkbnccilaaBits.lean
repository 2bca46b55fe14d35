/-
  The walk of bits.With and bits.Without, and what they do to a set. No condition.
-/
import Derived.Test.YtfocnmkbnccilaaEvA
set_option linter.unusedVariables false
set_option linter.unusedSimpArgs false
namespace Go.Proofs.Ytfocnmkbnccilaa
open Go.RowKit

/-- a set's lowest 31 bits -/
def low (s : Int) : Nat := (s % 2147483648).toNat
theorem low_lt (s : Int) : low s < 2 ^ 31 := by unfold low; omega
theorem low_of (n : Nat) (h : n < 2 ^ 31) : low (n : Int) = n := by unfold low; omega
def withB (s i : Int) : Int := if 0 ≤ i ∧ i < 31 then ((low s ||| 2 ^ i.toNat : Nat) : Int) else (low s : Int)
def withoutB (s i : Int) : Int := if 0 ≤ i ∧ i < 31 then ((low s ^^^ (low s &&& 2 ^ i.toNat) : Nat) : Int) else (low s : Int)
theorem hasB_low (s : Int) (j : Nat) (hj : j < 31) : hasB s (j : Int) = (low s).testBit j := by
  have h1 : hasB s (j : Int) = (s / 2 ^ j % 2 == 1) := by
    unfold hasB
    rw [show decide (0 ≤ (j : Int)) = true by simp, show decide ((j : Int) < 31) = true by simp; omega]
    rfl
  rw [h1, Nat.testBit_eq_decide_div_mod_eq]
  have hs : s = 2 ^ j * (2 ^ (30 - j) * 2 * (s / 2147483648)) + s % 2147483648 := by
    have e : (2 : Int) ^ j * (2 ^ (30 - j) * 2 * (s / 2147483648)) = (2 ^ j * 2 ^ (30 - j) * 2) * (s / 2147483648) := by
      rw [← Int.mul_assoc, ← Int.mul_assoc]
    rw [e, ← Int.pow_add, show j + (30 - j) = 30 by omega]
    have := Int.mul_ediv_add_emod s 2147483648
    omega
  have h2 : s / 2 ^ j % 2 = ((low s / 2 ^ j % 2 : Nat) : Int) := by
    have hr : ((low s : Nat) : Int) = s % 2147483648 := by unfold low; omega
    rw [Int.natCast_emod, Int.natCast_ediv, hr]
    have hp : ((2 ^ j : Nat) : Int) = 2 ^ j := by simp
    rw [hp]
    conv => lhs; rw [hs]
    rw [Int.add_comm, Int.add_mul_ediv_left _ _ (by have : (0 : Int) < 2 ^ j := Int.pow_pos (by omega); omega)]
    rw [show (2 : Int) ^ (30 - j) * 2 * (s / 2147483648) = 2 * (2 ^ (30 - j) * (s / 2147483648)) by rw [Int.mul_comm ((2 : Int) ^ (30 - j)) 2, Int.mul_assoc]]
    omega
  rw [h2]
  generalize low s / 2 ^ j % 2 = n
  rw [Bool.eq_iff_iff]
  simp
  omega
theorem hasB_out (s j : Int) (hj : ¬ (0 ≤ j ∧ j < 31)) : hasB s j = false := by
  unfold hasB
  by_cases h : 0 ≤ j
  · rw [show decide (j < 31) = false by simp; omega]; simp
  · rw [show decide (0 ≤ j) = false by simp; omega]; rfl
theorem hasB_with (s i j : Int) : hasB (withB s i) j = ((decide (0 ≤ i ∧ i < 31) && (j == i)) || hasB s j) := by
  by_cases hj : 0 ≤ j ∧ j < 31
  · obtain ⟨n, rfl⟩ : ∃ n : Nat, j = (n : Int) := ⟨j.toNat, by omega⟩
    unfold withB
    by_cases hi : 0 ≤ i ∧ i < 31
    · obtain ⟨k, rfl⟩ : ∃ k : Nat, i = (k : Int) := ⟨i.toNat, by omega⟩
      have hl : low s ||| 2 ^ k < 2 ^ 31 := Nat.or_lt_two_pow (low_lt s) (Nat.pow_lt_pow_right (by omega) (by omega))
      rw [if_pos hi, Int.toNat_natCast, hasB_low _ _ (by omega), low_of _ hl, Nat.testBit_or, hasB_low _ _ (by omega), Nat.testBit_two_pow, Bool.or_comm]
      congr 1
      rw [Bool.eq_iff_iff]
      simp
      omega
    · rw [if_neg hi, hasB_low _ _ (by omega), low_of _ (low_lt s), hasB_low _ _ (by omega)]
      simp [hi]
  · rw [hasB_out _ _ hj, hasB_out _ _ hj, Bool.or_false]
    symm
    rw [Bool.and_eq_false_iff]
    by_cases hi : 0 ≤ i ∧ i < 31
    · right
      exact beq_eq_false_iff_ne.2 (by omega)
    · left; simpa using hi
theorem hasB_without (s i j : Int) : hasB (withoutB s i) j = (!(j == i) && hasB s j) := by
  by_cases hj : 0 ≤ j ∧ j < 31
  · obtain ⟨n, rfl⟩ : ∃ n : Nat, j = (n : Int) := ⟨j.toNat, by omega⟩
    unfold withoutB
    by_cases hi : 0 ≤ i ∧ i < 31
    · obtain ⟨k, rfl⟩ : ∃ k : Nat, i = (k : Int) := ⟨i.toNat, by omega⟩
      have hl : low s ^^^ (low s &&& 2 ^ k) < 2 ^ 31 := Nat.xor_lt_two_pow (low_lt s) (Nat.lt_of_le_of_lt Nat.and_le_left (low_lt s))
      rw [if_pos hi, Int.toNat_natCast, hasB_low _ _ (by omega), low_of _ hl, Nat.testBit_xor, Nat.testBit_and, Nat.testBit_two_pow, hasB_low _ _ (by omega)]
      by_cases e : n = k
      · subst e; cases (low s).testBit n <;> simp
      · rw [show ((n : Int) == (k : Int)) = false from beq_eq_false_iff_ne.2 (by omega), show decide (k = n) = false by simp; omega]; simp
    · rw [if_neg hi, hasB_low _ _ (by omega), low_of _ (low_lt s), hasB_low _ _ (by omega), show ((n : Int) == i) = false from beq_eq_false_iff_ne.2 (by omega)]; rfl
  · rw [hasB_out _ _ hj, hasB_out _ _ hj, Bool.and_false]

theorem ofInt_nat64 (a : Nat) (ha : a < 2 ^ 64) : (BitVec.ofInt 64 (a : Int)).toNat = a := by
  rw [BitVec.ofInt_natCast, BitVec.toNat_ofNat]; exact Nat.mod_eq_of_lt ha
theorem wrap_nat (n : Nat) (h : n < 2 ^ 63) : IntKind.i64.wrap (n : Int) = (n : Int) := by
  simp [IntKind.wrap, IntKind.bits, IntKind.signed]
  omega
theorem and_all (s : Int) : bits .and .i64 s 2147483647 = (low s : Int) := by
  show IntKind.i64.wrap ((BitVec.ofInt 64 s &&& BitVec.ofInt 64 2147483647).toNat : Int) = _
  have h : (BitVec.ofInt 64 s &&& BitVec.ofInt 64 2147483647).toNat = low s := by
    rw [BitVec.toNat_and, show (BitVec.ofInt 64 2147483647).toNat = 2 ^ 31 - 1 from rfl, Nat.and_two_pow_sub_one_eq_mod, BitVec.toNat_ofInt]
    unfold low
    omega
  rw [h]
  exact wrap_nat _ (Nat.lt_trans (low_lt s) (by decide))
theorem or_nat (a b : Nat) (ha : a < 2 ^ 62) (hb : b < 2 ^ 62) : bits .or .i64 (a : Int) (b : Int) = ((a ||| b : Nat) : Int) := by
  show IntKind.i64.wrap ((BitVec.ofInt 64 (a : Int) ||| BitVec.ofInt 64 (b : Int)).toNat : Int) = _
  rw [BitVec.toNat_or, ofInt_nat64 a (by omega), ofInt_nat64 b (by omega)]
  exact wrap_nat _ (Nat.lt_trans (Nat.or_lt_two_pow ha hb) (by decide))
theorem andNot_nat (a b : Nat) (ha : a < 2 ^ 62) (hb : b < 2 ^ 62) : bits .andNot .i64 (a : Int) (b : Int) = ((a ^^^ (a &&& b) : Nat) : Int) := by
  show IntKind.i64.wrap ((BitVec.ofInt 64 (a : Int) &&& ~~~ BitVec.ofInt 64 (b : Int)).toNat : Int) = _
  have h : (BitVec.ofInt 64 (a : Int) &&& ~~~ BitVec.ofInt 64 (b : Int)).toNat = a ^^^ (a &&& b) := by
    apply Nat.eq_of_testBit_eq
    intro i
    rw [BitVec.toNat_and, Nat.testBit_and, ofInt_nat64 a (by omega), BitVec.testBit_toNat, BitVec.getLsbD_not, Nat.testBit_xor, Nat.testBit_and, ← BitVec.testBit_toNat, ofInt_nat64 b (by omega)]
    by_cases hi : i < 64
    · simp [hi]; cases a.testBit i <;> cases b.testBit i <;> rfl
    · have : a.testBit i = false := Nat.testBit_lt_two_pow (Nat.lt_of_lt_of_le ha (Nat.pow_le_pow_right (by omega) (by omega)))
      simp [this]
  rw [h]
  exact wrap_nat _ (Nat.lt_trans (Nat.xor_lt_two_pow ha (Nat.lt_of_le_of_lt Nat.and_le_left ha)) (by decide))
theorem pow_wrap (i : Int) (h0 : 0 ≤ i) (h1 : i < 31) : wrap64 (2 ^ i.toNat) = ((2 ^ i.toNat : Nat) : Int) := by
  have h2 : (2 : Nat) ^ i.toNat < 2 ^ 31 := Nat.pow_lt_pow_right (by omega) (by omega)
  have e : (2 : Int) ^ i.toNat = ((2 ^ i.toNat : Nat) : Int) := by simp
  rw [e]
  clear e
  generalize (2 : Nat) ^ i.toNat = n at *
  exact IntWalk.wrap64_in _ ⟨by omega, by omega⟩

theorem with_any (s i : Int) (w : World) : Calls Try.prog 76 #[.int .i64 s, .int .i64 i] w fun e w' => e = .returned (.int .i64 (withB s i)) ∧ w = w' := by
  unfold withB
  by_cases h0 : 0 ≤ i
  · by_cases h1 : i < 31
    · have e0 : decide (0 ≤ i) = true := by simp; omega
      have e1 : decide (i < 31) = true := by simp; omega
      rw [if_pos ⟨h0, h1⟩]
      go_enter Try.func76, Try.ntmps76
      go_wp2_with (go_at_call 101; refine (number_any _ _).mono ?_; rintro e w' ⟨rfl, rfl⟩)
      go_ret
      exact ⟨ret_i64 (by rw [and_all, pow_wrap i h0 h1, or_nat _ _ (Nat.lt_trans (low_lt s) (by decide)) (Nat.pow_lt_pow_right (by omega) (by omega))]), rfl⟩
    · have e0 : decide (0 ≤ i) = true := by simp; omega
      have e1 : decide (i < 31) = false := by simp; omega
      rw [if_neg (by omega)]
      go_enter Try.func76, Try.ntmps76
      go_wp2_with (go_at_call 101; refine (number_any _ _).mono ?_; rintro e w' ⟨rfl, rfl⟩)
      go_ret
      exact ⟨ret_i64 (and_all s), rfl⟩
  · have e0 : decide (0 ≤ i) = false := by simp; omega
    rw [if_neg (by omega)]
    go_enter Try.func76, Try.ntmps76
    go_wp2_with (go_at_call 101; refine (number_any _ _).mono ?_; rintro e w' ⟨rfl, rfl⟩)
    go_ret
    exact ⟨ret_i64 (and_all s), rfl⟩
theorem without_any (s i : Int) (w : World) : Calls Try.prog 85 #[.int .i64 s, .int .i64 i] w fun e w' => e = .returned (.int .i64 (withoutB s i)) ∧ w = w' := by
  unfold withoutB
  by_cases h0 : 0 ≤ i
  · by_cases h1 : i < 31
    · have e0 : decide (0 ≤ i) = true := by simp; omega
      have e1 : decide (i < 31) = true := by simp; omega
      rw [if_pos ⟨h0, h1⟩]
      go_enter Try.func85, Try.ntmps85
      go_wp2_with (go_at_call 101; refine (number_any _ _).mono ?_; rintro e w' ⟨rfl, rfl⟩)
      go_ret
      exact ⟨ret_i64 (by rw [and_all, pow_wrap i h0 h1, andNot_nat _ _ (Nat.lt_trans (low_lt s) (by decide)) (Nat.pow_lt_pow_right (by omega) (by omega))]), rfl⟩
    · have e0 : decide (0 ≤ i) = true := by simp; omega
      have e1 : decide (i < 31) = false := by simp; omega
      rw [if_neg (by omega)]
      go_enter Try.func85, Try.ntmps85
      go_wp2_with (go_at_call 101; refine (number_any _ _).mono ?_; rintro e w' ⟨rfl, rfl⟩)
      go_ret
      exact ⟨ret_i64 (and_all s), rfl⟩
  · have e0 : decide (0 ≤ i) = false := by simp; omega
    rw [if_neg (by omega)]
    go_enter Try.func85, Try.ntmps85
    go_wp2_with (go_at_call 101; refine (number_any _ _).mono ?_; rintro e w' ⟨rfl, rfl⟩)
    go_ret
    exact ⟨ret_i64 (and_all s), rfl⟩
end Go.Proofs.Ytfocnmkbnccilaa
