/-
  THE LAW TextLine: for every text and number it returns true. Condition: the library variable MaxLen holds some number.
-/
import Derived.Test.YtoepogdkagmphaaTextLine
import Derived.BigQuiet
import Derived.Deep.QuietTactic
set_option linter.unusedVariables false
set_option linter.unusedSimpArgs false
namespace Go.Proofs.Ytoepogdkagmphaa
open Go.RowKit

theorem strOf_append (a b : List UInt8) : strOf a ++ strOf b = strOf (a ++ b) := by
  apply ByteArray.ext
  simp [strOf]

set_option maxRecDepth 100000 in
set_option maxHeartbeats 1000000 in
theorem textLine_law (s : ByteArray) (n : Int) (m : Int) (w : World) (hs : s.size ≤ 9223372036854775807) (hm : w.cell? ⟨0, 0, none⟩ = some (.int .i64 m)) (h0 : 0 < w.heap.size) :
    Calls Try.prog 7 #[.string s, .int .i64 n] w fun e w' => e = .returned (.bool true) ∧ Below w.heap.size w w' := by
  by_cases h : s.size ≤ 5000
  · obtain ⟨l, hl⟩ : ∃ l, l = s.data.toList := ⟨_, rfl⟩
    have hll : l.length = s.size := by rw [hl, Lib.size_eq]
    have C1 := hide (fun n' (w' : World) (hm' : w'.cell? ⟨0, 0, none⟩ = some (.int .i64 m)) => textLine_any l n' m w' (by omega) hm')
    have hsl : strOf l = s := by rw [hl]; exact strOf_of s
    have C2 := hide (fun (w' : World) => refLine_any s n w' (by omega))
    rw [← hl] at C2
    have Hsl := hide hsl
    have Hll := hide hll
    have Hl := hide hl
    clear hl hsl hll
    rw [Hsl.out] at C1
    go_enter Try.func7, Try.ntmps7
    go_wp2_with (first
      | (go_at_call 18; refine (C1.out _ _ (by simpa using hm)).mono ?_; rintro e w' ⟨rfl, q1, rfl⟩)
      | (go_at_call 19; refine (C2.out _).mono ?_; rintro e w' ⟨rfl, q2, rfl⟩))
    obtain ⟨q, hq⟩ : ∃ q, q = q1 + q2 := ⟨_, rfl⟩
    rw [← hq]
    clear hq
    have hdec : decide ((5000 : Int) < (s.size : Int)) = false := by simp; omega
    rw [hdec]
    clear hdec
    go_loop [5, 6] (fun lv iv => ∃ i : Nat, i ≤ s.size ∧ iv = .int .i64 (i : Int) ∧ lv = .int .i64 ((tens (l.take i) : Int) + 1)) (fun lv iv => s.size - (intOf iv).toNat)
    case atStart => exact ⟨0, Nat.zero_le _, rfl, rfl⟩
    case round =>
      obtain ⟨i, hi, rfl, rfl⟩ := hrel
      have ht := tens_le (l.take i)
      have ht2 : (l.take i).length ≤ i := List.length_take_le _ _
      by_cases hlt : i < s.size
      · have ht3 : tens (l.take (i + 1)) = tens (l.take i) + if s[i] = 10 then 1 else 0 := by
          rw [← tens_snoc, List.take_succ_eq_append_getElem (by rw [Hll.out]; exact hlt)]
          congr 2
          simp only [Hl.out]
          rfl
        have Ht := hide ht3
        clear ht3
        cases hb : ((s[i].toNat : Int) == 10) with
        | true =>
          have h10 : s[i] = 10 := by
            have : (s[i].toNat : Int) = 10 := by simpa using hb
            apply UInt8.toNat_inj.1; simp; omega
          have H10 := hide h10
          clear h10
          go_wp2
          go_round
          case rel => exact ⟨i + 1, by omega, by go_num, by rw [Ht.out, if_pos H10.out]; go_num⟩
          case measure => simp [intOf]; omega
        | false =>
          have h10 : s[i] ≠ 10 := by intro e; rw [e] at hb; simp at hb
          have H10 := hide h10
          clear h10
          go_wp2
          go_round
          case rel => exact ⟨i + 1, by omega, by go_num, by rw [Ht.out, if_neg H10.out]; go_num⟩
          case measure => simp [intOf]; omega
      · obtain rfl : i = s.size := by omega
        have e1 : l.take s.size = l := List.take_of_length_le (by rw [Hll.out]; omega)
        rw [e1] at ht ⊢
        clear e1 ht2
        have hj := hide (joinK_all l)
        have hj1 := hide (lineD_beyond l)
        have hj2 := hide (lineD_zero l)
        have hjl := hide (fun k => joinK_le l k)
        by_cases h2 : tens l + 1 ≤ 200
        · generalize tens l = T at *
          go_wp2_with (first
            | (go_at_call 18; refine (C1.out _ _ (by simpa using hm)).mono ?_; rintro e w' ⟨rfl, q3, rfl⟩))
          obtain ⟨q0, hq⟩ : ∃ q0, q0 = q + q3 := ⟨_, rfl⟩
          rw [← hq]
          clear hq
          have hdec : decide ((200 : Int) < (T : Int) + 1) = false := by simp; omega
          rw [hdec]
          clear hdec
          go_loopw [7, 8] (fun av kv wr => ∃ kk : Nat, kk ≤ T ∧ kv = .int .i64 ((kk : Int) + 2) ∧ av = .string (strOf (joinK l kk)) ∧ ∃ q, wr = w.drewN q) (fun av kv wr => T + 2 - (intOf kv).toNat)
          case atStart => exact ⟨0, Nat.zero_le _, rfl, rfl, _, rfl⟩
          case round =>
            obtain ⟨kk, hkk, rfl, rfl, q4, rfl⟩ := hrel
            by_cases hlt : kk < T
            · have hj0 := hjl.out kk
              have hlb : l.length ≤ 5000 := by rw [Hll.out]; exact h
              have hj3 : (joinK l kk).length ≤ 1100000 := by
                have : (kk + 1) * (l.length + 1) ≤ 200 * 5001 := Nat.mul_le_mul (by omega) (by omega)
                omega
              have hd0 := lineD_le l ((kk : Int) + 2)
              have hz1 : (strOf (joinK l kk)).size ≤ 1100000 := by rw [strOf_size]; exact hj3
              have hz2 : (strOf (lineD l ((kk : Int) + 2))).size ≤ 5000 := by rw [strOf_size]; omega
              have Hm := hide (by rw [joinK, ← strOf_append] : strOf (joinK l (kk + 1)) = strOf (joinK l kk) ++ strOf (10 :: lineD l ((kk : Int) + 2)))
              have Hm2 := hide (strOf_append [10] (lineD l ((kk : Int) + 2)))
              clear hj0 hd0 hj3 hlb
              go_wp2_with (first
                | (go_at_call 18; refine (C1.out _ _ (by simpa using hm)).mono ?_; rintro e w' ⟨rfl, q5, rfl⟩))
              go_roundw
              case rel => exact ⟨kk + 1, by omega, by go_num, by rw [Hm.out]; exact congrArg (fun x => Value.string (strOf (joinK l kk) ++ x)) Hm2.out, _, rfl⟩
              case measure => simp [intOf]; omega
            · obtain rfl : kk = T := by omega
              rw [hj.out, Hsl.out]
              have C3 := hide (fun (w' : World) (hm' : w'.cell? ⟨0, 0, none⟩ = some (.int .i64 m)) => C1.out ((kk : Int) + 1 + 1) w' hm')
              have C4 := hide (fun (w' : World) (hm' : w'.cell? ⟨0, 0, none⟩ = some (.int .i64 m)) => C1.out 0 w' hm')
              rw [hj1.out, show strOf [] = ⟨#[]⟩ from rfl] at C3
              rw [hj2.out, show strOf [] = ⟨#[]⟩ from rfl] at C4
              go_wp2_with (first
                | (go_at_call 18; (with_reducible refine (C3.out _ ?c3).mono ?_); (case c3 => simpa using hm); rintro e w' ⟨rfl, q5, rfl⟩)
                | (go_at_call 18; (with_reducible refine (C4.out _ ?c4).mono ?_); (case c4 => simpa using hm); rintro e w' ⟨rfl, q6, rfl⟩)
                | (go_at_call 8; refine (awake_any _).mono ?_; rintro e w' ⟨rfl, hb⟩))
              go_ret
              exact ⟨rfl, (below_drewN (Below.refl _ _) _).trans (hb.mono (by simp))⟩
        · generalize tens l = T at *
          go_wp2_with (go_at_call 8; refine (awake_any _).mono ?_; rintro e w' ⟨rfl, hb⟩)
          go_ret
          exact ⟨rfl, (below_drewN (Below.refl _ _) _).trans (hb.mono (by simp))⟩
  · go_enter Try.func7, Try.ntmps7
    go_wp2_with (go_at_call 8; refine (awake_any _).mono ?_; rintro e w' ⟨rfl, hb⟩)
    go_ret
    exact ⟨rfl, hb⟩
end Go.Proofs.Ytoepogdkagmphaa
