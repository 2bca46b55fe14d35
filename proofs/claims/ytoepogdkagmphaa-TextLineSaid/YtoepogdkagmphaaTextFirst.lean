import Derived.Test.YtoepogdkagmphaaTextSpec
import Derived.Test.YtoepogdkagmphaaMem
import Derived.Test.YtoepogdkagmphaaLaw
import Derived.WalkSpells
import Derived.WalkLawsBesides
import Derived.Handy
import Derived.Deep.DeepCutAuto
import Derived.Deep.CutBlock
set_option linter.unusedVariables false
set_option linter.unusedSimpArgs false
namespace Go.Proofs.Ytoepogdkagmphaa
open Go.RowKit

/-- a text's byte, as a number; 0 behind the end -/
def bt (s : ByteArray) (j : Int) : Int := if h : j.toNat < s.size then ((s[j.toNat]'h).toNat : Int) else 0
def tailB (s : ByteArray) (j lo hi : Int) : Bool := decide (j < s.size) && (decide (lo ≤ bt s j) && decide (bt s j ≤ hi))
theorem tailB_lt {s : ByteArray} {j lo hi : Int} (h : tailB s j lo hi = true) : j < s.size := by
  unfold tailB at h
  rw [Bool.and_eq_true, decide_eq_true_eq] at h
  exact h.1
theorem bt_lt (s : ByteArray) (j : Int) : 0 ≤ bt s j ∧ bt s j < 256 := by
  unfold bt; split
  · have := (s[j.toNat]).toNat_lt; omega
  · omega
theorem bt_at (s : ByteArray) (n : Nat) (h : n < s.size) : ((s[n]'h).toNat : Int) = bt s (n : Int) := by simp [bt, h]

set_option maxHeartbeats 400000 in
theorem tail_any (s : ByteArray) (j lo hi : Int) (w : World) (hs : s.size ≤ 4294967296) (h0 : 0 ≤ j) (h1 : j ≤ 8589934592) :
    Calls Try.prog 27 #[.string s, .int .i64 j, .int .i64 lo, .int .i64 hi] w fun e w' => e = .returned (.bool (tailB s j lo hi)) ∧ w = w' := by
  obtain ⟨n, rfl⟩ := Int.eq_ofNat_of_zero_le h0
  by_cases h : n < s.size
  · have hb := bt_lt s n
    have he := bt_at s n h
    have e1 : tailB s n lo hi = (decide (lo ≤ bt s n) && decide (bt s n ≤ hi)) := by simp [tailB, h]
    have E := hide e1
    clear e1
    generalize bt s n = b at *
    have hl := (s[n]'h).toNat_lt
    have H := hide he
    clear he
    by_cases g1 : lo ≤ b
    · have g1' : lo ≤ (((s[n]'h).toNat : Nat) : Int) := by rw [H.out]; exact g1
      go_enter Try.func27, Try.ntmps27
      go_wp2
      go_ret
      refine ⟨?_, rfl⟩
      rw [E.out]
      simp [H.out]
      intros
      omega
    · have g1' : ¬ lo ≤ (((s[n]'h).toNat : Nat) : Int) := by rw [H.out]; exact g1
      go_enter Try.func27, Try.ntmps27
      go_wp2
      go_ret
      refine ⟨?_, rfl⟩
      rw [E.out]
      simp [H.out]
      intros
      omega
  · have e1 : tailB s n lo hi = false := by simp [tailB]; intro h'; omega
    have E := hide e1
    clear e1
    go_enter Try.func27, Try.ntmps27
    go_wp2
    go_ret
    rw [E.out]; exact ⟨rfl, rfl⟩

theorem low_any (s : ByteArray) (j : Int) (w : World) (hs : s.size ≤ 4294967296) (h0 : 0 ≤ j) (h1 : j < s.size) :
    Calls Try.prog 28 #[.string s, .int .i64 j] w fun e w' => e = .returned (.int .i64 (bt s j % 64)) ∧ w = w' := by
  obtain ⟨n, rfl⟩ := Int.eq_ofNat_of_zero_le h0
  have h : n < s.size := by omega
  have hl := (s[n]'h).toNat_lt
  have he := hide (bt_at s n h)
  go_enter Try.func28, Try.ntmps28
  go_wp2
  go_ret
  rw [← he.out]
  refine ⟨?_, rfl⟩
  simp


/-- the rune at a byte as the document has it -/
def fixD (d : Nat × Nat) : Int × Int := if d.1 = 65533 ∧ d.2 = 1 then (-1, 1) else ((d.1 : Int), (d.2 : Int))
def decF (s : ByteArray) (i : Nat) : Int × Int := fixD (Utf8.decode s i)
def firstL (s : ByteArray) (i : Nat) : Int × Int :=
  if bt s i < 128 then (bt s i, 1)
  else if (194 ≤ bt s i ∧ bt s i ≤ 223) ∧ tailB s (i + 1) 128 191 = true then (bt s i % 32 * 64 + bt s (i + 1) % 64, 2)
  else if ¬ (tailB s (i + 1) (if bt s i = 240 then 144 else if bt s i = 224 then 160 else 128) (if bt s i = 244 then 143 else if bt s i = 237 then 159 else 191) = true ∧ tailB s (i + 2) 128 191 = true) then (-1, 1)
  else if 224 ≤ bt s i ∧ bt s i ≤ 239 then (bt s i % 16 * 4096 + bt s (i + 1) % 64 * 64 + bt s (i + 2) % 64, 3)
  else if (240 ≤ bt s i ∧ bt s i ≤ 244) ∧ tailB s (i + 3) 128 191 = true then (bt s i % 8 * 262144 + bt s (i + 1) % 64 * 4096 + bt s (i + 2) % 64 * 64 + bt s (i + 3) % 64, 4)
  else (-1, 1)
theorem bt_get (s : ByteArray) (i k : Nat) : bt s ((i : Int) + k) = ((s.get! (i + k)).toNat : Int) := by
  unfold bt
  have e : ((i : Int) + k).toNat = i + k := by omega
  simp only [e]
  split
  · rename_i h
    have : s.get! (i + k) = s[i + k]'h := by simp [ByteArray.get!, getElem!_pos, h]; rfl
    rw [this]
  · rename_i h
    have hd : ¬ i + k < s.data.size := h
    have : s.get! (i + k) = default := by
      exact getElem!_neg s.data (i + k) hd
    rw [this]; rfl

def validN (c : Nat) : Bool := decide (c < 55296) || (decide (57344 ≤ c) && decide (c ≤ 1114111))
def decN (b0 b1 b2 b3 : Nat) (c1 c2 c3 : Bool) : Nat × Nat :=
  if b0 < 128 then (b0, 1)
  else if b0 / 32 = 6 ∧ c1 = true then (if 128 ≤ b0 % 32 * 64 + b1 % 64 then (b0 % 32 * 64 + b1 % 64, 2) else (65533, 1))
  else if b0 / 16 = 14 ∧ c1 = true ∧ c2 = true then (if 2048 ≤ b0 % 16 * 4096 + b1 % 64 * 64 + b2 % 64 ∧ validN (b0 % 16 * 4096 + b1 % 64 * 64 + b2 % 64) = true then (b0 % 16 * 4096 + b1 % 64 * 64 + b2 % 64, 3) else (65533, 1))
  else if b0 / 8 = 30 ∧ c1 = true ∧ c2 = true ∧ c3 = true then (if 65536 ≤ b0 % 8 * 262144 + b1 % 64 * 4096 + b2 % 64 * 64 + b3 % 64 ∧ validN (b0 % 8 * 262144 + b1 % 64 * 4096 + b2 % 64 * 64 + b3 % 64) = true then (b0 % 8 * 262144 + b1 % 64 * 4096 + b2 % 64 * 64 + b3 % 64, 4) else (65533, 1))
  else (65533, 1)
theorem valid_eq (c : Nat) : Utf8.valid (c : Int) = validN c := by
  unfold Utf8.valid validN
  rw [Bool.eq_iff_iff]
  simp
  omega
theorem decode_eq (s : ByteArray) (i : Nat) : Utf8.decode s i = decN (s.get! (i + 0)).toNat (s.get! (i + 1)).toNat (s.get! (i + 2)).toNat (s.get! (i + 3)).toNat
    (decide (i + 1 < s.size) && (s.get! (i + 1)).toNat / 64 == 2) (decide (i + 2 < s.size) && (s.get! (i + 2)).toNat / 64 == 2) (decide (i + 3 < s.size) && (s.get! (i + 3)).toNat / 64 == 2) := by
  unfold Utf8.decode decN
  simp only [valid_eq, Utf8.runeError, Bool.and_eq_true, beq_iff_eq, decide_eq_true_eq, ge_iff_le, and_assoc]

theorem firstN (b0 b1 b2 b3 : Nat) (p1 c2 c3 : Bool) :
    fixD (decN b0 b1 b2 b3 (p1 && b1 / 64 == 2) c2 c3) =
    (if b0 < 128 then ((b0 : Int), (1 : Int))
    else if (194 ≤ b0 ∧ b0 ≤ 223) ∧ (p1 = true ∧ b1 / 64 = 2) then (((b0 % 32 * 64 + b1 % 64 : Nat) : Int), 2)
    else if ¬ ((p1 = true ∧ (if b0 = 240 then 144 else if b0 = 224 then 160 else 128) ≤ b1 ∧ b1 ≤ (if b0 = 244 then 143 else if b0 = 237 then 159 else 191)) ∧ c2 = true) then (-1, 1)
    else if 224 ≤ b0 ∧ b0 ≤ 239 then (((b0 % 16 * 4096 + b1 % 64 * 64 + b2 % 64 : Nat) : Int), 3)
    else if (240 ≤ b0 ∧ b0 ≤ 244) ∧ c3 = true then (((b0 % 8 * 262144 + b1 % 64 * 4096 + b2 % 64 * 64 + b3 % 64 : Nat) : Int), 4)
    else (-1, 1)) := by
  by_cases q0 : b0 < 128
  · simp [decN, fixD, q0]; omega
  have bad : fixD (65533, 1) = (-1, 1) := rfl
  have good : ∀ v n : Nat, n ≠ 1 → fixD (v, n) = ((v : Int), (n : Int)) := fun v n hn => if_neg fun hh => hn hh.2
  simp only [decN, q0, if_false, validN, Bool.and_eq_true, decide_eq_true_eq, beq_iff_eq, Bool.or_eq_true]
  rcases (show b0 < 194 ∨ (194 ≤ b0 ∧ b0 ≤ 223) ∨ (224 ≤ b0 ∧ b0 ≤ 239) ∨ (240 ≤ b0 ∧ b0 ≤ 244) ∨ 245 ≤ b0 from by omega) with h | h | h | h | h
  · have e1 : ¬ b0 / 16 = 14 := by omega
    have e2 : ¬ b0 / 8 = 30 := by omega
    have e3 : ¬ (194 ≤ b0 ∧ b0 ≤ 223) := by omega
    have e4 : ¬ (224 ≤ b0 ∧ b0 ≤ 239) := by omega
    have e5 : ¬ (240 ≤ b0 ∧ b0 ≤ 244) := by omega
    have e6 : ¬ (b0 / 32 = 6 ∧ 128 ≤ b0 % 32 * 64 + b1 % 64) := by omega
    simp only [e1, e2, e3, e4, e5, false_and, if_false, ite_self]
    by_cases c1 : b0 / 32 = 6 ∧ p1 = true ∧ b1 / 64 = 2
    · rw [if_pos c1, if_neg (fun hh => e6 ⟨c1.1, hh⟩), bad]
    · rw [if_neg c1, bad]
  · have e1 : ¬ b0 / 16 = 14 := by omega
    have e2 : ¬ b0 / 8 = 30 := by omega
    have e4 : ¬ (224 ≤ b0 ∧ b0 ≤ 239) := by omega
    have e5 : ¬ (240 ≤ b0 ∧ b0 ≤ 244) := by omega
    have e6 : b0 / 32 = 6 := by omega
    simp only [e1, e2, e4, e5, e6, h, false_and, if_false, ite_self, true_and]
    by_cases c1 : p1 = true ∧ b1 / 64 = 2
    · have e7 : 128 ≤ b0 % 32 * 64 + b1 % 64 := by omega
      have e8 : b0 % 32 * 64 + b1 % 64 ≠ 65533 := by omega
      rw [if_pos c1, if_pos e7, if_pos c1, good _ _ (by omega)]; rfl
    · rw [if_neg c1, if_neg c1, bad]
  · have e1 : b0 / 16 = 14 := by omega
    have e2 : ¬ b0 / 8 = 30 := by omega
    have e3 : ¬ (194 ≤ b0 ∧ b0 ≤ 223) := by omega
    have e6 : ¬ b0 / 32 = 6 := by omega
    have e9 : ¬ b0 = 240 := by omega
    have e10 : ¬ b0 = 244 := by omega
    simp only [e1, e2, e3, e6, e9, e10, h, false_and, if_false, if_true, true_and, and_self]
    by_cases hp : c2 = true
    · by_cases c1 : p1 = true ∧ (if b0 = 224 then 160 else 128) ≤ b1 ∧ b1 ≤ (if b0 = 237 then 159 else 191)
      · have m2 : b1 / 64 = 2 ∧ 2048 ≤ b0 % 16 * 4096 + b1 % 64 * 64 + b2 % 64 ∧ (b0 % 16 * 4096 + b1 % 64 * 64 + b2 % 64 < 55296 ∨ 57344 ≤ b0 % 16 * 4096 + b1 % 64 * 64 + b2 % 64) ∧ b0 % 16 * 4096 + b1 % 64 * 64 + b2 % 64 ≤ 1114111 := by
          have := c1.2
          split at this <;> split at this <;> omega
        have m3 : b0 % 16 * 4096 + b1 % 64 * 64 + b2 % 64 < 55296 ∨ (57344 ≤ b0 % 16 * 4096 + b1 % 64 * 64 + b2 % 64 ∧ b0 % 16 * 4096 + b1 % 64 * 64 + b2 % 64 ≤ 1114111) := by omega
        rw [if_pos ⟨⟨c1.1, m2.1⟩, hp⟩, if_pos ⟨m2.2.1, m3⟩, if_neg (fun hh => hh ⟨c1, hp⟩)]
        rw [good _ _ (by omega)]; rfl
      · rw [if_pos (show ¬ _ from fun hh => c1 hh.1)]
        by_cases c4 : p1 = true ∧ b1 / 64 = 2
        · have m2 : ¬ (2048 ≤ b0 % 16 * 4096 + b1 % 64 * 64 + b2 % 64 ∧ (b0 % 16 * 4096 + b1 % 64 * 64 + b2 % 64 < 55296 ∨ (57344 ≤ b0 % 16 * 4096 + b1 % 64 * 64 + b2 % 64 ∧ b0 % 16 * 4096 + b1 % 64 * 64 + b2 % 64 ≤ 1114111))) := by
            have c5 : ¬ ((if b0 = 224 then 160 else 128) ≤ b1 ∧ b1 ≤ (if b0 = 237 then 159 else 191)) := fun hh => c1 ⟨c4.1, hh⟩
            have c6 := c4.2
            split at c5 <;> split at c5 <;> omega
          rw [if_pos ⟨c4, hp⟩, if_neg m2, bad]
        · rw [if_neg (fun hh => c4 hh.1), bad]
    · rw [if_neg (fun hh => hp hh.2), if_pos (fun hh => hp hh.2), bad]
  · have e1 : ¬ b0 / 16 = 14 := by omega
    have e2 : b0 / 8 = 30 := by omega
    have e3 : ¬ (194 ≤ b0 ∧ b0 ≤ 223) := by omega
    have e4 : ¬ (224 ≤ b0 ∧ b0 ≤ 239) := by omega
    have e6 : ¬ b0 / 32 = 6 := by omega
    have e9 : ¬ b0 = 224 := by omega
    have e10 : ¬ b0 = 237 := by omega
    simp only [e1, e2, e3, e4, e6, e9, e10, h, false_and, if_false, if_true, true_and, and_self]
    by_cases hp : c2 = true
    · by_cases hq : c3 = true
      · by_cases c1 : p1 = true ∧ (if b0 = 240 then 144 else 128) ≤ b1 ∧ b1 ≤ (if b0 = 244 then 143 else 191)
        · have m2 : b1 / 64 = 2 ∧ 65536 ≤ b0 % 8 * 262144 + b1 % 64 * 4096 + b2 % 64 * 64 + b3 % 64 ∧ b0 % 8 * 262144 + b1 % 64 * 4096 + b2 % 64 * 64 + b3 % 64 ≤ 1114111 := by
            have := c1.2
            split at this <;> split at this <;> omega
          have m3 : b0 % 8 * 262144 + b1 % 64 * 4096 + b2 % 64 * 64 + b3 % 64 < 55296 ∨ (57344 ≤ b0 % 8 * 262144 + b1 % 64 * 4096 + b2 % 64 * 64 + b3 % 64 ∧ b0 % 8 * 262144 + b1 % 64 * 4096 + b2 % 64 * 64 + b3 % 64 ≤ 1114111) := by omega
          rw [if_pos ⟨⟨c1.1, m2.1⟩, hp, hq⟩, if_pos ⟨m2.2.1, m3⟩, if_neg (fun hh => hh ⟨c1, hp⟩), if_pos hq]
          rw [good _ _ (by omega)]; rfl
        · rw [if_pos (show ¬ _ from fun hh => c1 hh.1)]
          by_cases c4 : p1 = true ∧ b1 / 64 = 2
          · have m2 : ¬ (65536 ≤ b0 % 8 * 262144 + b1 % 64 * 4096 + b2 % 64 * 64 + b3 % 64 ∧ (b0 % 8 * 262144 + b1 % 64 * 4096 + b2 % 64 * 64 + b3 % 64 < 55296 ∨ (57344 ≤ b0 % 8 * 262144 + b1 % 64 * 4096 + b2 % 64 * 64 + b3 % 64 ∧ b0 % 8 * 262144 + b1 % 64 * 4096 + b2 % 64 * 64 + b3 % 64 ≤ 1114111))) := by
              have c5 : ¬ ((if b0 = 240 then 144 else 128) ≤ b1 ∧ b1 ≤ (if b0 = 244 then 143 else 191)) := fun hh => c1 ⟨c4.1, hh⟩
              have c6 := c4.2
              split at c5 <;> split at c5 <;> omega
            rw [if_pos ⟨c4, hp, hq⟩, if_neg m2, bad]
          · rw [if_neg (fun hh => c4 hh.1), bad]
      · rw [if_neg (fun hh => hq hh.2.2), if_neg hq, ite_self, bad]
    · rw [if_neg (fun hh => hp hh.2.1), if_pos (fun hh => hp hh.2), bad]
  · have e1 : ¬ b0 / 16 = 14 := by omega
    have e3 : ¬ (194 ≤ b0 ∧ b0 ≤ 223) := by omega
    have e4 : ¬ (224 ≤ b0 ∧ b0 ≤ 239) := by omega
    have e5 : ¬ (240 ≤ b0 ∧ b0 ≤ 244) := by omega
    have e6 : ¬ b0 / 32 = 6 := by omega
    simp only [e1, e3, e4, e5, e6, false_and, if_false, ite_self]
    by_cases c1 : b0 / 8 = 30 ∧ (p1 = true ∧ b1 / 64 = 2) ∧ c2 = true ∧ c3 = true
    · have m2 : ¬ (65536 ≤ b0 % 8 * 262144 + b1 % 64 * 4096 + b2 % 64 * 64 + b3 % 64 ∧ (b0 % 8 * 262144 + b1 % 64 * 4096 + b2 % 64 * 64 + b3 % 64 < 55296 ∨ (57344 ≤ b0 % 8 * 262144 + b1 % 64 * 4096 + b2 % 64 * 64 + b3 % 64 ∧ b0 % 8 * 262144 + b1 % 64 * 4096 + b2 % 64 * 64 + b3 % 64 ≤ 1114111))) := by
        have := c1.1
        omega
      rw [if_pos c1, if_neg m2, bad]
    · rw [if_neg c1, bad]

theorem first_eq (s : ByteArray) (i : Nat) : decF s i = firstL s i := by
  have h0 := bt_get s i 0
  have h1 := bt_get s i 1
  have h2 := bt_get s i 2
  have h3 := bt_get s i 3
  simp at h0 h1 h2 h3
  unfold decF
  rw [decode_eq, firstN]
  unfold firstL tailB
  simp only [h0, h1, h2, h3, Nat.add_zero]
  generalize (s.get! i).toNat = b0
  generalize (s.get! (i + 1)).toNat = b1
  generalize (s.get! (i + 2)).toNat = b2
  generalize (s.get! (i + 3)).toNat = b3
  have t2 : (decide ((i : Int) + 2 < s.size) && (decide ((128 : Int) ≤ b2) && decide ((b2 : Int) ≤ 191))) = (decide (i + 2 < s.size) && b2 / 64 == 2) := by
    rw [Bool.eq_iff_iff]; simp; omega
  have t3 : (decide ((i : Int) + 3 < s.size) && (decide ((128 : Int) ≤ b3) && decide ((b3 : Int) ≤ 191))) = (decide (i + 3 < s.size) && b3 / 64 == 2) := by
    rw [Bool.eq_iff_iff]; simp; omega
  have t1 : (decide ((i : Int) + 1 < s.size) && (decide ((128 : Int) ≤ b1) && decide ((b1 : Int) ≤ 191))) = true ↔ (decide (i + 1 < s.size) = true ∧ b1 / 64 = 2) := by
    simp; omega
  have t4 : (decide ((i : Int) + 1 < s.size) && (decide ((if (b0 : Int) = 240 then (144 : Int) else if (b0 : Int) = 224 then 160 else 128) ≤ b1) && decide ((b1 : Int) ≤ (if (b0 : Int) = 244 then 143 else if (b0 : Int) = 237 then 159 else 191)))) = true ↔
      (decide (i + 1 < s.size) = true ∧ (if b0 = 240 then 144 else if b0 = 224 then 160 else 128) ≤ b1 ∧ b1 ≤ (if b0 = 244 then 143 else if b0 = 237 then 159 else 191)) := by
    have q1 : ((b0 : Int) = 240) ↔ b0 = 240 := by omega
    have q2 : ((b0 : Int) = 224) ↔ b0 = 224 := by omega
    have q3 : ((b0 : Int) = 244) ↔ b0 = 244 := by omega
    have q4 : ((b0 : Int) = 237) ↔ b0 = 237 := by omega
    simp only [q1, q2, q3, q4, Bool.and_eq_true, decide_eq_true_eq]
    have q5 : ((i : Int) + 1 < s.size) ↔ i + 1 < s.size := by omega
    rw [q5]
    split <;> split <;> (try split) <;> (try split) <;> omega
  have r1 : ((b0 : Int) < 128) ↔ b0 < 128 := by omega
  have r2 : (194 ≤ (b0 : Int) ∧ (b0 : Int) ≤ 223) ↔ (194 ≤ b0 ∧ b0 ≤ 223) := by omega
  have r3 : (224 ≤ (b0 : Int) ∧ (b0 : Int) ≤ 239) ↔ (224 ≤ b0 ∧ b0 ≤ 239) := by omega
  have r4 : (240 ≤ (b0 : Int) ∧ (b0 : Int) ≤ 244) ↔ (240 ≤ b0 ∧ b0 ≤ 244) := by omega
  simp only [r1, r2, r3, r4, t1, t2, t3, t4]
  repeat' split
  all_goals first
    | rfl
    | (simp; done)


def FirstPost (s : ByteArray) (i : Nat) (w : World) (e : Ending) (w' : World) : Prop := e = .returned (.tuple #[.int .i64 (decF s i).1, .int .i64 (decF s i).2]) ∧ w = w'
theorem firstPost_of {s : ByteArray} {i : Nat} {w : World} {x y : Int} (h : decF s i = (x, y)) : FirstPost s i w (.returned (.tuple #[.int .i64 x, .int .i64 y])) w := by
  unfold FirstPost; rw [h]; exact ⟨rfl, rfl⟩

set_option maxRecDepth 100000 in
set_option maxHeartbeats 2000000 in
theorem first_any (s : ByteArray) (i : Nat) (w : World) (hs : s.size ≤ 4294967296) (hi : i < s.size) :
    Calls Try.prog 25 #[.string s, .int .i64 (i : Int)] w (FirstPost s i w) := by
  have hl := (s[i]'hi).toNat_lt
  have E := hide (first_eq s i)
  have H := hide (bt_at s i hi)
  go_enter Try.func25, Try.ntmps25
  go_upto_region 2 with (fail)
  generalize (s[i]'hi).toNat = b at *
  have hb : bt s i = (b : Int) := H.out.symm
  unfold firstL at E
  rw [hb] at E
  clear H hb
  have l1 : 0 ≤ bt s ((i : Int) + 1) ∧ bt s ((i : Int) + 1) < 256 := bt_lt _ _
  have l2 : 0 ≤ bt s ((i : Int) + 2) ∧ bt s ((i : Int) + 2) < 256 := bt_lt _ _
  have l3 : 0 ≤ bt s ((i : Int) + 3) ∧ bt s ((i : Int) + 3) < 256 := bt_lt _ _
  by_cases h1 : (b : Int) < 128
  · have E2 := hide (E.out.trans (if_pos h1))
    clear E
    go_wp2
    go_ret2
    exact firstPost_of (by rw [E2.out])
  have E := hide (E.out.trans (if_neg h1))
  by_cases h2 : (194 ≤ (b : Int) ∧ (b : Int) ≤ 223) ∧ tailB s (i + 1) 128 191 = true
  · have E2 := hide (E.out.trans (if_pos h2))
    clear E
    obtain ⟨⟨h2a, h2b⟩, ht⟩ := h2
    have hlt : (i : Int) + 1 < s.size := tailB_lt ht
    go_wp2_with (first | (go_at_call 27; refine (tail_any s _ _ _ _ hs (by omega) (by omega)).mono ?_; rintro e w' ⟨rfl, rfl⟩) | (go_at_call 28; refine (low_any s _ _ hs (by omega) (by omega)).mono ?_; rintro e w' ⟨rfl, rfl⟩))
    go_ret2
    exact firstPost_of (by rw [E2.out])
  have E := hide (E.out.trans (if_neg h2))
  rcases (show (b < 194) ∨ (194 ≤ b ∧ b ≤ 223) ∨ (b = 224) ∨ (b = 237) ∨ (225 ≤ b ∧ b ≤ 239 ∧ b ≠ 237) ∨ (b = 240) ∨ (b = 244) ∨ (241 ≤ b ∧ b ≤ 243) ∨ (245 ≤ b) from by omega) with hb | hb | hb | hb | hb | hb | hb | hb | hb
  -- A
  · have b224 : ((b : Int) == 224) = false := by simp; omega
    have b237 : ((b : Int) == 237) = false := by simp; omega
    have b240 : ((b : Int) == 240) = false := by simp; omega
    have b244 : ((b : Int) == 244) = false := by simp; omega
    have hlo : (if (b : Int) = 240 then (144 : Int) else if (b : Int) = 224 then 160 else 128) = 128 := by
      repeat' split
      all_goals omega
    have hhi : (if (b : Int) = 244 then (143 : Int) else if (b : Int) = 237 then 159 else 191) = 191 := by
      repeat' split
      all_goals omega
    have E3 := E.out
    rw [hlo, hhi] at E3
    have E := hide E3
    clear hlo hhi E3
    clear h2
    cases t1 : tailB s (i + 1) 128 191 with
    | false =>
      have E2 := hide (E.out.trans (if_pos (show ¬ _ from fun hh => by rw [t1] at hh; exact absurd hh.1 (by decide))))
      clear E
      go_wp2_with (first | (go_at_call 27; refine (tail_any s _ _ _ _ hs (by omega) (by omega)).mono ?_; rintro e w' ⟨rfl, rfl⟩) | (go_at_call 28; refine (low_any s _ _ hs (by omega) (by omega)).mono ?_; rintro e w' ⟨rfl, rfl⟩))
      go_ret2
      exact firstPost_of (by rw [E2.out])
    | true =>
      have hlt1 : (i : Int) + 1 < s.size := tailB_lt t1
      cases t2 : tailB s (i + 2) 128 191 with
      | false =>
        have E2 := hide (E.out.trans (if_pos (show ¬ _ from fun hh => by rw [t2] at hh; exact absurd hh.2 (by decide))))
        clear E
        go_wp2_with (first | (go_at_call 27; refine (tail_any s _ _ _ _ hs (by omega) (by omega)).mono ?_; rintro e w' ⟨rfl, rfl⟩) | (go_at_call 28; refine (low_any s _ _ hs (by omega) (by omega)).mono ?_; rintro e w' ⟨rfl, rfl⟩))
        go_ret2
        exact firstPost_of (by rw [E2.out])
      | true =>
        have hlt2 : (i : Int) + 2 < s.size := tailB_lt t2
        have E := hide (E.out.trans (if_neg (fun hh => hh ⟨t1, t2⟩)))
        have E := hide (E.out.trans (if_neg (by omega)))
        have E2 := hide (E.out.trans (if_neg (fun hh => by have := hh.1; omega)))
        clear E
        go_wp2_with (first | (go_at_call 27; refine (tail_any s _ _ _ _ hs (by omega) (by omega)).mono ?_; rintro e w' ⟨rfl, rfl⟩) | (go_at_call 28; refine (low_any s _ _ hs (by omega) (by omega)).mono ?_; rintro e w' ⟨rfl, rfl⟩))
        go_ret2
        exact firstPost_of (by rw [E2.out])
  -- B
  · have b224 : ((b : Int) == 224) = false := by simp; omega
    have b237 : ((b : Int) == 237) = false := by simp; omega
    have b240 : ((b : Int) == 240) = false := by simp; omega
    have b244 : ((b : Int) == 244) = false := by simp; omega
    have hlo : (if (b : Int) = 240 then (144 : Int) else if (b : Int) = 224 then 160 else 128) = 128 := by
      repeat' split
      all_goals omega
    have hhi : (if (b : Int) = 244 then (143 : Int) else if (b : Int) = 237 then 159 else 191) = 191 := by
      repeat' split
      all_goals omega
    have E3 := E.out
    rw [hlo, hhi] at E3
    have E := hide E3
    clear hlo hhi E3
    have t1 : tailB s (i + 1) 128 191 = false := by
      cases hh : tailB s (i + 1) 128 191 with
      | false => rfl
      | true => exact absurd ⟨⟨by omega, by omega⟩, hh⟩ h2
    clear h2
    have E2 := hide (E.out.trans (if_pos (show ¬ _ from fun hh => by rw [t1] at hh; exact absurd hh.1 (by decide))))
    clear E
    go_wp2_with (first | (go_at_call 27; refine (tail_any s _ _ _ _ hs (by omega) (by omega)).mono ?_; rintro e w' ⟨rfl, rfl⟩) | (go_at_call 28; refine (low_any s _ _ hs (by omega) (by omega)).mono ?_; rintro e w' ⟨rfl, rfl⟩))
    go_ret2
    exact firstPost_of (by rw [E2.out])
  -- C1
  · have b224 : ((b : Int) == 224) = true := by simp; omega
    have b237 : ((b : Int) == 237) = false := by simp; omega
    have b240 : ((b : Int) == 240) = false := by simp; omega
    have b244 : ((b : Int) == 244) = false := by simp; omega
    have hlo : (if (b : Int) = 240 then (144 : Int) else if (b : Int) = 224 then 160 else 128) = 160 := by
      repeat' split
      all_goals omega
    have hhi : (if (b : Int) = 244 then (143 : Int) else if (b : Int) = 237 then 159 else 191) = 191 := by
      repeat' split
      all_goals omega
    have E3 := E.out
    rw [hlo, hhi] at E3
    have E := hide E3
    clear hlo hhi E3
    clear h2
    cases t1 : tailB s (i + 1) 160 191 with
    | false =>
      have E2 := hide (E.out.trans (if_pos (show ¬ _ from fun hh => by rw [t1] at hh; exact absurd hh.1 (by decide))))
      clear E
      go_wp2_with (first | (go_at_call 27; refine (tail_any s _ _ _ _ hs (by omega) (by omega)).mono ?_; rintro e w' ⟨rfl, rfl⟩) | (go_at_call 28; refine (low_any s _ _ hs (by omega) (by omega)).mono ?_; rintro e w' ⟨rfl, rfl⟩))
      go_ret2
      exact firstPost_of (by rw [E2.out]; try simp [hb])
    | true =>
      have hlt1 : (i : Int) + 1 < s.size := tailB_lt t1
      cases t2 : tailB s (i + 2) 128 191 with
      | false =>
        have E2 := hide (E.out.trans (if_pos (show ¬ _ from fun hh => by rw [t2] at hh; exact absurd hh.2 (by decide))))
        clear E
        go_wp2_with (first | (go_at_call 27; refine (tail_any s _ _ _ _ hs (by omega) (by omega)).mono ?_; rintro e w' ⟨rfl, rfl⟩) | (go_at_call 28; refine (low_any s _ _ hs (by omega) (by omega)).mono ?_; rintro e w' ⟨rfl, rfl⟩))
        go_ret2
        exact firstPost_of (by rw [E2.out]; try simp [hb])
      | true =>
        have hlt2 : (i : Int) + 2 < s.size := tailB_lt t2
        have E := hide (E.out.trans (if_neg (fun hh => hh ⟨t1, t2⟩)))
        have E2 := hide (E.out.trans (if_pos ⟨by omega, by omega⟩))
        clear E
        go_wp2_with (first | (go_at_call 27; refine (tail_any s _ _ _ _ hs (by omega) (by omega)).mono ?_; rintro e w' ⟨rfl, rfl⟩) | (go_at_call 28; refine (low_any s _ _ hs (by omega) (by omega)).mono ?_; rintro e w' ⟨rfl, rfl⟩))
        go_ret2
        exact firstPost_of (by rw [E2.out]; try simp [hb])
  -- C2
  · have b224 : ((b : Int) == 224) = false := by simp; omega
    have b237 : ((b : Int) == 237) = true := by simp; omega
    have b240 : ((b : Int) == 240) = false := by simp; omega
    have b244 : ((b : Int) == 244) = false := by simp; omega
    have hlo : (if (b : Int) = 240 then (144 : Int) else if (b : Int) = 224 then 160 else 128) = 128 := by
      repeat' split
      all_goals omega
    have hhi : (if (b : Int) = 244 then (143 : Int) else if (b : Int) = 237 then 159 else 191) = 159 := by
      repeat' split
      all_goals omega
    have E3 := E.out
    rw [hlo, hhi] at E3
    have E := hide E3
    clear hlo hhi E3
    clear h2
    cases t1 : tailB s (i + 1) 128 159 with
    | false =>
      have E2 := hide (E.out.trans (if_pos (show ¬ _ from fun hh => by rw [t1] at hh; exact absurd hh.1 (by decide))))
      clear E
      go_wp2_with (first | (go_at_call 27; refine (tail_any s _ _ _ _ hs (by omega) (by omega)).mono ?_; rintro e w' ⟨rfl, rfl⟩) | (go_at_call 28; refine (low_any s _ _ hs (by omega) (by omega)).mono ?_; rintro e w' ⟨rfl, rfl⟩))
      go_ret2
      exact firstPost_of (by rw [E2.out]; try simp [hb])
    | true =>
      have hlt1 : (i : Int) + 1 < s.size := tailB_lt t1
      cases t2 : tailB s (i + 2) 128 191 with
      | false =>
        have E2 := hide (E.out.trans (if_pos (show ¬ _ from fun hh => by rw [t2] at hh; exact absurd hh.2 (by decide))))
        clear E
        go_wp2_with (first | (go_at_call 27; refine (tail_any s _ _ _ _ hs (by omega) (by omega)).mono ?_; rintro e w' ⟨rfl, rfl⟩) | (go_at_call 28; refine (low_any s _ _ hs (by omega) (by omega)).mono ?_; rintro e w' ⟨rfl, rfl⟩))
        go_ret2
        exact firstPost_of (by rw [E2.out]; try simp [hb])
      | true =>
        have hlt2 : (i : Int) + 2 < s.size := tailB_lt t2
        have E := hide (E.out.trans (if_neg (fun hh => hh ⟨t1, t2⟩)))
        have E2 := hide (E.out.trans (if_pos ⟨by omega, by omega⟩))
        clear E
        go_wp2_with (first | (go_at_call 27; refine (tail_any s _ _ _ _ hs (by omega) (by omega)).mono ?_; rintro e w' ⟨rfl, rfl⟩) | (go_at_call 28; refine (low_any s _ _ hs (by omega) (by omega)).mono ?_; rintro e w' ⟨rfl, rfl⟩))
        go_ret2
        exact firstPost_of (by rw [E2.out]; try simp [hb])
  -- C3
  · have b224 : ((b : Int) == 224) = false := by simp; omega
    have b237 : ((b : Int) == 237) = false := by simp; omega
    have b240 : ((b : Int) == 240) = false := by simp; omega
    have b244 : ((b : Int) == 244) = false := by simp; omega
    have hlo : (if (b : Int) = 240 then (144 : Int) else if (b : Int) = 224 then 160 else 128) = 128 := by
      repeat' split
      all_goals omega
    have hhi : (if (b : Int) = 244 then (143 : Int) else if (b : Int) = 237 then 159 else 191) = 191 := by
      repeat' split
      all_goals omega
    have E3 := E.out
    rw [hlo, hhi] at E3
    have E := hide E3
    clear hlo hhi E3
    clear h2
    cases t1 : tailB s (i + 1) 128 191 with
    | false =>
      have E2 := hide (E.out.trans (if_pos (show ¬ _ from fun hh => by rw [t1] at hh; exact absurd hh.1 (by decide))))
      clear E
      go_wp2_with (first | (go_at_call 27; refine (tail_any s _ _ _ _ hs (by omega) (by omega)).mono ?_; rintro e w' ⟨rfl, rfl⟩) | (go_at_call 28; refine (low_any s _ _ hs (by omega) (by omega)).mono ?_; rintro e w' ⟨rfl, rfl⟩))
      go_ret2
      exact firstPost_of (by rw [E2.out])
    | true =>
      have hlt1 : (i : Int) + 1 < s.size := tailB_lt t1
      cases t2 : tailB s (i + 2) 128 191 with
      | false =>
        have E2 := hide (E.out.trans (if_pos (show ¬ _ from fun hh => by rw [t2] at hh; exact absurd hh.2 (by decide))))
        clear E
        go_wp2_with (first | (go_at_call 27; refine (tail_any s _ _ _ _ hs (by omega) (by omega)).mono ?_; rintro e w' ⟨rfl, rfl⟩) | (go_at_call 28; refine (low_any s _ _ hs (by omega) (by omega)).mono ?_; rintro e w' ⟨rfl, rfl⟩))
        go_ret2
        exact firstPost_of (by rw [E2.out])
      | true =>
        have hlt2 : (i : Int) + 2 < s.size := tailB_lt t2
        have E := hide (E.out.trans (if_neg (fun hh => hh ⟨t1, t2⟩)))
        have E2 := hide (E.out.trans (if_pos ⟨by omega, by omega⟩))
        clear E
        go_wp2_with (first | (go_at_call 27; refine (tail_any s _ _ _ _ hs (by omega) (by omega)).mono ?_; rintro e w' ⟨rfl, rfl⟩) | (go_at_call 28; refine (low_any s _ _ hs (by omega) (by omega)).mono ?_; rintro e w' ⟨rfl, rfl⟩))
        go_ret2
        exact firstPost_of (by rw [E2.out])
  -- D1
  · have b224 : ((b : Int) == 224) = false := by simp; omega
    have b237 : ((b : Int) == 237) = false := by simp; omega
    have b240 : ((b : Int) == 240) = true := by simp; omega
    have b244 : ((b : Int) == 244) = false := by simp; omega
    have hlo : (if (b : Int) = 240 then (144 : Int) else if (b : Int) = 224 then 160 else 128) = 144 := by
      repeat' split
      all_goals omega
    have hhi : (if (b : Int) = 244 then (143 : Int) else if (b : Int) = 237 then 159 else 191) = 191 := by
      repeat' split
      all_goals omega
    have E3 := E.out
    rw [hlo, hhi] at E3
    have E := hide E3
    clear hlo hhi E3
    clear h2
    cases t1 : tailB s (i + 1) 144 191 with
    | false =>
      have E2 := hide (E.out.trans (if_pos (show ¬ _ from fun hh => by rw [t1] at hh; exact absurd hh.1 (by decide))))
      clear E
      go_wp2_with (first | (go_at_call 27; refine (tail_any s _ _ _ _ hs (by omega) (by omega)).mono ?_; rintro e w' ⟨rfl, rfl⟩) | (go_at_call 28; refine (low_any s _ _ hs (by omega) (by omega)).mono ?_; rintro e w' ⟨rfl, rfl⟩))
      go_ret2
      exact firstPost_of (by rw [E2.out]; try simp [hb])
    | true =>
      have hlt1 : (i : Int) + 1 < s.size := tailB_lt t1
      cases t2 : tailB s (i + 2) 128 191 with
      | false =>
        have E2 := hide (E.out.trans (if_pos (show ¬ _ from fun hh => by rw [t2] at hh; exact absurd hh.2 (by decide))))
        clear E
        go_wp2_with (first | (go_at_call 27; refine (tail_any s _ _ _ _ hs (by omega) (by omega)).mono ?_; rintro e w' ⟨rfl, rfl⟩) | (go_at_call 28; refine (low_any s _ _ hs (by omega) (by omega)).mono ?_; rintro e w' ⟨rfl, rfl⟩))
        go_ret2
        exact firstPost_of (by rw [E2.out]; try simp [hb])
      | true =>
        have hlt2 : (i : Int) + 2 < s.size := tailB_lt t2
        have E := hide (E.out.trans (if_neg (fun hh => hh ⟨t1, t2⟩)))
        have E := hide (E.out.trans (if_neg (by omega)))
        cases t3 : tailB s (i + 3) 128 191 with
        | false =>
          have E2 := hide (E.out.trans (if_neg (fun hh => by rw [t3] at hh; exact absurd hh.2 (by decide))))
          clear E
          go_wp2_with (first | (go_at_call 27; refine (tail_any s _ _ _ _ hs (by omega) (by omega)).mono ?_; rintro e w' ⟨rfl, rfl⟩) | (go_at_call 28; refine (low_any s _ _ hs (by omega) (by omega)).mono ?_; rintro e w' ⟨rfl, rfl⟩))
          go_ret2
          exact firstPost_of (by rw [E2.out]; try simp [hb])
        | true =>
          have hlt3 : (i : Int) + 3 < s.size := tailB_lt t3
          have E2 := hide (E.out.trans (if_pos ⟨⟨by omega, by omega⟩, t3⟩))
          clear E
          go_wp2_with (first | (go_at_call 27; refine (tail_any s _ _ _ _ hs (by omega) (by omega)).mono ?_; rintro e w' ⟨rfl, rfl⟩) | (go_at_call 28; refine (low_any s _ _ hs (by omega) (by omega)).mono ?_; rintro e w' ⟨rfl, rfl⟩))
          go_ret2
          exact firstPost_of (by rw [E2.out]; try simp [hb])
  -- D2
  · have b224 : ((b : Int) == 224) = false := by simp; omega
    have b237 : ((b : Int) == 237) = false := by simp; omega
    have b240 : ((b : Int) == 240) = false := by simp; omega
    have b244 : ((b : Int) == 244) = true := by simp; omega
    have hlo : (if (b : Int) = 240 then (144 : Int) else if (b : Int) = 224 then 160 else 128) = 128 := by
      repeat' split
      all_goals omega
    have hhi : (if (b : Int) = 244 then (143 : Int) else if (b : Int) = 237 then 159 else 191) = 143 := by
      repeat' split
      all_goals omega
    have E3 := E.out
    rw [hlo, hhi] at E3
    have E := hide E3
    clear hlo hhi E3
    clear h2
    cases t1 : tailB s (i + 1) 128 143 with
    | false =>
      have E2 := hide (E.out.trans (if_pos (show ¬ _ from fun hh => by rw [t1] at hh; exact absurd hh.1 (by decide))))
      clear E
      go_wp2_with (first | (go_at_call 27; refine (tail_any s _ _ _ _ hs (by omega) (by omega)).mono ?_; rintro e w' ⟨rfl, rfl⟩) | (go_at_call 28; refine (low_any s _ _ hs (by omega) (by omega)).mono ?_; rintro e w' ⟨rfl, rfl⟩))
      go_ret2
      exact firstPost_of (by rw [E2.out]; try simp [hb])
    | true =>
      have hlt1 : (i : Int) + 1 < s.size := tailB_lt t1
      cases t2 : tailB s (i + 2) 128 191 with
      | false =>
        have E2 := hide (E.out.trans (if_pos (show ¬ _ from fun hh => by rw [t2] at hh; exact absurd hh.2 (by decide))))
        clear E
        go_wp2_with (first | (go_at_call 27; refine (tail_any s _ _ _ _ hs (by omega) (by omega)).mono ?_; rintro e w' ⟨rfl, rfl⟩) | (go_at_call 28; refine (low_any s _ _ hs (by omega) (by omega)).mono ?_; rintro e w' ⟨rfl, rfl⟩))
        go_ret2
        exact firstPost_of (by rw [E2.out]; try simp [hb])
      | true =>
        have hlt2 : (i : Int) + 2 < s.size := tailB_lt t2
        have E := hide (E.out.trans (if_neg (fun hh => hh ⟨t1, t2⟩)))
        have E := hide (E.out.trans (if_neg (by omega)))
        cases t3 : tailB s (i + 3) 128 191 with
        | false =>
          have E2 := hide (E.out.trans (if_neg (fun hh => by rw [t3] at hh; exact absurd hh.2 (by decide))))
          clear E
          go_wp2_with (first | (go_at_call 27; refine (tail_any s _ _ _ _ hs (by omega) (by omega)).mono ?_; rintro e w' ⟨rfl, rfl⟩) | (go_at_call 28; refine (low_any s _ _ hs (by omega) (by omega)).mono ?_; rintro e w' ⟨rfl, rfl⟩))
          go_ret2
          exact firstPost_of (by rw [E2.out]; try simp [hb])
        | true =>
          have hlt3 : (i : Int) + 3 < s.size := tailB_lt t3
          have E2 := hide (E.out.trans (if_pos ⟨⟨by omega, by omega⟩, t3⟩))
          clear E
          go_wp2_with (first | (go_at_call 27; refine (tail_any s _ _ _ _ hs (by omega) (by omega)).mono ?_; rintro e w' ⟨rfl, rfl⟩) | (go_at_call 28; refine (low_any s _ _ hs (by omega) (by omega)).mono ?_; rintro e w' ⟨rfl, rfl⟩))
          go_ret2
          exact firstPost_of (by rw [E2.out]; try simp [hb])
  -- D3
  · have b224 : ((b : Int) == 224) = false := by simp; omega
    have b237 : ((b : Int) == 237) = false := by simp; omega
    have b240 : ((b : Int) == 240) = false := by simp; omega
    have b244 : ((b : Int) == 244) = false := by simp; omega
    have hlo : (if (b : Int) = 240 then (144 : Int) else if (b : Int) = 224 then 160 else 128) = 128 := by
      repeat' split
      all_goals omega
    have hhi : (if (b : Int) = 244 then (143 : Int) else if (b : Int) = 237 then 159 else 191) = 191 := by
      repeat' split
      all_goals omega
    have E3 := E.out
    rw [hlo, hhi] at E3
    have E := hide E3
    clear hlo hhi E3
    clear h2
    cases t1 : tailB s (i + 1) 128 191 with
    | false =>
      have E2 := hide (E.out.trans (if_pos (show ¬ _ from fun hh => by rw [t1] at hh; exact absurd hh.1 (by decide))))
      clear E
      go_wp2_with (first | (go_at_call 27; refine (tail_any s _ _ _ _ hs (by omega) (by omega)).mono ?_; rintro e w' ⟨rfl, rfl⟩) | (go_at_call 28; refine (low_any s _ _ hs (by omega) (by omega)).mono ?_; rintro e w' ⟨rfl, rfl⟩))
      go_ret2
      exact firstPost_of (by rw [E2.out])
    | true =>
      have hlt1 : (i : Int) + 1 < s.size := tailB_lt t1
      cases t2 : tailB s (i + 2) 128 191 with
      | false =>
        have E2 := hide (E.out.trans (if_pos (show ¬ _ from fun hh => by rw [t2] at hh; exact absurd hh.2 (by decide))))
        clear E
        go_wp2_with (first | (go_at_call 27; refine (tail_any s _ _ _ _ hs (by omega) (by omega)).mono ?_; rintro e w' ⟨rfl, rfl⟩) | (go_at_call 28; refine (low_any s _ _ hs (by omega) (by omega)).mono ?_; rintro e w' ⟨rfl, rfl⟩))
        go_ret2
        exact firstPost_of (by rw [E2.out])
      | true =>
        have hlt2 : (i : Int) + 2 < s.size := tailB_lt t2
        have E := hide (E.out.trans (if_neg (fun hh => hh ⟨t1, t2⟩)))
        have E := hide (E.out.trans (if_neg (by omega)))
        cases t3 : tailB s (i + 3) 128 191 with
        | false =>
          have E2 := hide (E.out.trans (if_neg (fun hh => by rw [t3] at hh; exact absurd hh.2 (by decide))))
          clear E
          go_wp2_with (first | (go_at_call 27; refine (tail_any s _ _ _ _ hs (by omega) (by omega)).mono ?_; rintro e w' ⟨rfl, rfl⟩) | (go_at_call 28; refine (low_any s _ _ hs (by omega) (by omega)).mono ?_; rintro e w' ⟨rfl, rfl⟩))
          go_ret2
          exact firstPost_of (by rw [E2.out])
        | true =>
          have hlt3 : (i : Int) + 3 < s.size := tailB_lt t3
          have E2 := hide (E.out.trans (if_pos ⟨⟨by omega, by omega⟩, t3⟩))
          clear E
          go_wp2_with (first | (go_at_call 27; refine (tail_any s _ _ _ _ hs (by omega) (by omega)).mono ?_; rintro e w' ⟨rfl, rfl⟩) | (go_at_call 28; refine (low_any s _ _ hs (by omega) (by omega)).mono ?_; rintro e w' ⟨rfl, rfl⟩))
          go_ret2
          exact firstPost_of (by rw [E2.out])
  -- E
  · have b224 : ((b : Int) == 224) = false := by simp; omega
    have b237 : ((b : Int) == 237) = false := by simp; omega
    have b240 : ((b : Int) == 240) = false := by simp; omega
    have b244 : ((b : Int) == 244) = false := by simp; omega
    have hlo : (if (b : Int) = 240 then (144 : Int) else if (b : Int) = 224 then 160 else 128) = 128 := by
      repeat' split
      all_goals omega
    have hhi : (if (b : Int) = 244 then (143 : Int) else if (b : Int) = 237 then 159 else 191) = 191 := by
      repeat' split
      all_goals omega
    have E3 := E.out
    rw [hlo, hhi] at E3
    have E := hide E3
    clear hlo hhi E3
    clear h2
    cases t1 : tailB s (i + 1) 128 191 with
    | false =>
      have E2 := hide (E.out.trans (if_pos (show ¬ _ from fun hh => by rw [t1] at hh; exact absurd hh.1 (by decide))))
      clear E
      go_wp2_with (first | (go_at_call 27; refine (tail_any s _ _ _ _ hs (by omega) (by omega)).mono ?_; rintro e w' ⟨rfl, rfl⟩) | (go_at_call 28; refine (low_any s _ _ hs (by omega) (by omega)).mono ?_; rintro e w' ⟨rfl, rfl⟩))
      go_ret2
      exact firstPost_of (by rw [E2.out])
    | true =>
      have hlt1 : (i : Int) + 1 < s.size := tailB_lt t1
      cases t2 : tailB s (i + 2) 128 191 with
      | false =>
        have E2 := hide (E.out.trans (if_pos (show ¬ _ from fun hh => by rw [t2] at hh; exact absurd hh.2 (by decide))))
        clear E
        go_wp2_with (first | (go_at_call 27; refine (tail_any s _ _ _ _ hs (by omega) (by omega)).mono ?_; rintro e w' ⟨rfl, rfl⟩) | (go_at_call 28; refine (low_any s _ _ hs (by omega) (by omega)).mono ?_; rintro e w' ⟨rfl, rfl⟩))
        go_ret2
        exact firstPost_of (by rw [E2.out])
      | true =>
        have hlt2 : (i : Int) + 2 < s.size := tailB_lt t2
        have E := hide (E.out.trans (if_neg (fun hh => hh ⟨t1, t2⟩)))
        have E := hide (E.out.trans (if_neg (by omega)))
        have E2 := hide (E.out.trans (if_neg (fun hh => by have := hh.1; omega)))
        clear E
        go_wp2_with (first | (go_at_call 27; refine (tail_any s _ _ _ _ hs (by omega) (by omega)).mono ?_; rintro e w' ⟨rfl, rfl⟩) | (go_at_call 28; refine (low_any s _ _ hs (by omega) (by omega)).mono ?_; rintro e w' ⟨rfl, rfl⟩))
        go_ret2
        exact firstPost_of (by rw [E2.out])

end Go.Proofs.Ytoepogdkagmphaa
