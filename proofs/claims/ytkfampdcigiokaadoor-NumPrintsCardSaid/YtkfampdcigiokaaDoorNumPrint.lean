/-
  THE WALK of warderref03.Print.
-/
import Derived.Test.YtkfampdcigiokaaDoorNumLaws
set_option linter.unusedVariables false
set_option linter.unusedSimpArgs false
namespace Go.Proofs.YtkfampdcigiokaaDoor
open Go.RowKit

theorem wrapu8 (x : Int) : IntKind.u8.wrap x = x % 256 := by
  simp [IntKind.wrap, IntKind.bits, IntKind.signed]
/-- the digits told so far -/
def PrI (u m : Nat) (L : List UInt8) : Prop := (m = 0 → L = Lib.decDigits u) ∧ (0 < m → Lib.decDigits m ++ L = Lib.decDigits u)
theorem PrI.step {u m : Nat} {L : List UInt8} (h : PrI u m L) (hm : 0 < m) : PrI u (m / 10) (UInt8.ofNat (48 + m % 10) :: L) := by
  have h2 := h.2 hm
  by_cases h10 : m < 10
  · have e : m / 10 = 0 := by omega
    rw [e]
    refine ⟨fun _ => ?_, fun h => by omega⟩
    rw [Lib.decDigits_one h10] at h2
    rw [show m % 10 = m by omega]
    simpa using h2
  · refine ⟨fun h => by omega, fun _ => ?_⟩
    rw [Lib.decDigits, dif_neg h10] at h2
    rw [← h2]; simp

theorem conv_one (w : World) (d : Nat) (hd : d ≤ 9) : (convert 45 9 (.slice (some ⟨w.heap.size, 0, none⟩) 1 1)).run Tryd.prog (w.alloc (.cells #[.int .u8 (48 + (d : Int))] 5)) = .ok (.string ⟨#[UInt8.ofNat (48 + d)]⟩) (w.alloc (.cells #[.int .u8 (48 + (d : Int))] 5)) := by
  refine run_convert_bytes_back (P := Tryd.prog) _ 45 9 5 ⟨w.heap.size, 0, none⟩ 1 [UInt8.ofNat (48 + d)] Tryd.underlying45 Tryd.underlying5 Tryd.underlying9 (fun j hj => ?_)
  obtain rfl : j = 0 := by simp at hj; omega
  rw [addAddr0, (Blk.new w 5 #[.int .u8 (48 + (d : Int))]).cell 0]
  have h : (UInt8.ofNat (48 + d)).toNat = 48 + d := by simp [UInt8.toNat_ofNat]; omega
  simp only [List.getElem_cons_zero, h]
  simp
theorem nDig_le : ∀ (k u : Nat), u < 10 ^ (k + 1) → Lib.nDigits u ≤ k + 1
  | 0, u, h => by rw [Lib.nDigits_small (by simpa using h)]; exact Nat.le_refl _
  | k + 1, u, h => by
    by_cases h10 : u < 10
    · rw [Lib.nDigits_small h10]; omega
    · rw [Lib.nDigits_big h10]
      have := nDig_le k (u / 10) (by rw [Nat.pow_succ] at h; omega)
      omega
theorem PrI.len {u m : Nat} {L : List UInt8} (h : PrI u m L) (hu : u ≤ 9223372036854775808) : L.length ≤ 20 := by
  have h1 := nDig_le 19 u (by omega)
  rw [← Lib.decDigits_length] at h1
  rcases Nat.eq_zero_or_pos m with h0 | h0
  · rw [h.1 h0]; exact h1
  · rw [← h.2 h0, List.length_append] at h1; omega

set_option maxRecDepth 100000 in
set_option maxHeartbeats 4000000 in
theorem refPrint_any (n : Int) (w : World) (hn : -9223372036854775808 ≤ n ∧ n ≤ 9223372036854775807) :
    Calls Tryd.prog 12 #[.int .i64 n] w fun e w' => e = .returned (.string ⟨(Lib.itoa n).toArray⟩) ∧ Below w.heap.size w w' := by
  obtain ⟨hn1, hn2⟩ := hn
  by_cases h0 : n = 0
  · subst h0
    have e0 : ((0 : Int) == 0) = true := rfl
    have hd : (⟨(Lib.itoa 0).toArray⟩ : ByteArray) = ⟨#[48]⟩ := by decide +kernel
    rw [hd]
    go_enter Tryd.func12, Tryd.ntmps12
    go_wp2_with fail
    go_ret
    exact ⟨rfl, Below.refl _ _⟩
  · have e0 : (n == 0) = false := by rw [beq_eq_false_iff_ne]; exact h0
    by_cases hneg : n < 0
    · obtain ⟨u, hu⟩ : ∃ u : Nat, n = -(u : Int) := ⟨n.natAbs, by omega⟩
      subst hu
      have hu0 : 0 < u := by omega
      have hit : Lib.itoa (-(u : Int)) = 45 :: Lib.decDigits u := Lib.itoa_neg u hu0
      rw [hit]
      have e1 : decide (-(u : Int) < 0) = true := decide_eq_true (by omega)
      have e1' : -(u : Int) < 0 := by omega
      clear h0 hneg hit
      go_enter Tryd.func12, Tryd.ntmps12
      go_wp2_with fail
      go_loopw [0, 3] (fun x t wr => ∃ (m : Nat) (S : ByteArray), m ≤ u ∧ x = .int .i64 (-(m : Int)) ∧ t = .string S ∧ PrI u m S.data.toList ∧ Below w.heap.size w wr) (fun x t wr => (intOf x).natAbs)
      case atStart => exact ⟨u, ⟨#[]⟩, Nat.le_refl _, rfl, rfl, ⟨fun h => absurd h (by omega), fun _ => by simp⟩, Below.refl _ _⟩
      case round =>
        obtain ⟨m, S, hm, rfl, rfl, hP, hb⟩ := hrel
        have hS : S.size ≤ 20 := by have := hP.len (by omega); rw [Array.length_toList] at this; exact this
        by_cases hm0 : m = 0
        · subst hm0
          have hL := hP.1 rfl
          have HL := hide hL
          have Hb := hide hb
          clear hP hL hb
          go_wp2_with fail
          go_ret
          have hfin : (⟨#[45]⟩ : ByteArray) ++ S = ⟨(45 :: Lib.decDigits u).toArray⟩ := by
            apply ByteArray.ext
            apply Array.ext'
            simp [ByteArray.data_append, HL.out]
          exact ⟨by show Ending.returned (Value.string ((⟨#[45]⟩ : ByteArray) ++ S)) = _; rw [hfin], Hb.out⟩
        · have e2 : (-(m : Int) != 0) = true := by rw [bne_iff_ne]; omega
          have hz0 : (-(m : Int)).tmod 10 = -((m % 10 : Nat) : Int) := by rw [Int.neg_tmod, Int.tmod_eq_emod_of_nonneg (by omega)]; simp
          have hy0 : (-(m : Int)).tdiv 10 = -((m / 10 : Nat) : Int) := by rw [Int.neg_tdiv, Int.tdiv_eq_ediv_of_nonneg (by omega)]; simp
          have hP2 := hP.step (by omega)
          have HP := hide hP2
          have Hb := hide hb
          have hd9 : m % 10 ≤ 9 := by omega
          generalize m % 10 = d at *
          have hcv := conv_one wr d hd9
          generalize UInt8.ofNat (48 + d) = c at *
          obtain ⟨y, hy⟩ : ∃ y, y = (-(m : Int)).tdiv 10 := ⟨_, rfl⟩
          obtain ⟨z, hz⟩ : ∃ z, z = (-(m : Int)).tmod 10 := ⟨_, rfl⟩
          obtain ⟨x, hx⟩ : ∃ x, x = -(m : Int) := ⟨_, rfl⟩
          rw [hy0] at hy
          rw [hz0] at hz
          rw [← hx] at hz0 hy0 e2 ⊢
          rw [← hy] at hy0
          rw [← hz] at hz0
          have hwy := wrap_in (x := y) (by omega)
          have hmeas : y.natAbs < x.natAbs := by omega
          have HY := hide hy
          have HX := hide hx
          have HM := hide hmeas
          clear hP hP2 hb hy hx hmeas
          by_cases hd0 : d = 0
          · subst hd0
            have hzz : z = 0 := by rw [hz]; rfl
            subst hzz
            have hcv : (convert 45 9 (.slice (some ⟨wr.heap.size, 0, none⟩) 1 1)).run Tryd.prog (wr.alloc (.cells #[.int .u8 48] 5)) = .ok (.string ⟨#[c]⟩) (wr.alloc (.cells #[.int .u8 48] 5)) := hcv
            clear hz
            go_wp2_with fail
            all_goals (try (exfalso; omega))
            go_roundw
            case rel =>
              refine ⟨m / 10, ⟨#[c]⟩ ++ S, by omega, by first | rw [hwy, HY.out] | rw [HY.out], rfl, ?_, Hb.out.alloc Hb.out.size _⟩
              have h2 := HP.out
              simpa [ByteArray.data_append] using h2
            case measure => have h9 := HM.out; simp [intOf, hwy]; omega
          · have hz1 : z < 0 := by omega
            have e3 : decide (z < 0) = true := decide_eq_true hz1
            have hwz : wrap64 (-z) = (d : Int) := by rw [wrap_in (by omega)]; omega
            have hw8 : IntKind.u8.wrap (48 + (d : Int)) = 48 + (d : Int) := by rw [wrapu8]; omega
            have hwd := wrap_in (x := 48 + (d : Int)) (by omega)
            rw [← hwz] at hcv hw8 hwd
            clear hz hwz
            go_wp2_with fail
            all_goals (try (exfalso; omega))
            go_roundw
            case rel =>
              refine ⟨m / 10, ⟨#[c]⟩ ++ S, by omega, by first | rw [hwy, HY.out] | rw [HY.out], rfl, ?_, Hb.out.alloc Hb.out.size _⟩
              have h2 := HP.out
              simpa [ByteArray.data_append] using h2
            case measure => have h9 := HM.out; simp [intOf, hwy]; omega
    · obtain ⟨u, hu⟩ : ∃ u : Nat, n = (u : Int) := ⟨n.natAbs, by omega⟩
      subst hu
      have hu0 : 0 < u := by omega
      have hit : Lib.itoa ((u : Int)) = Lib.decDigits u := Lib.itoa_nonneg u
      rw [hit]
      have e1 : decide ((u : Int) < 0) = false := decide_eq_false (by omega)
      have e1' : ¬ (u : Int) < 0 := by omega
      clear h0 hneg hit
      go_enter Tryd.func12, Tryd.ntmps12
      go_wp2_with fail
      go_loopw [0, 3] (fun x t wr => ∃ (m : Nat) (S : ByteArray), m ≤ u ∧ x = .int .i64 ((m : Int)) ∧ t = .string S ∧ PrI u m S.data.toList ∧ Below w.heap.size w wr) (fun x t wr => (intOf x).natAbs)
      case atStart => exact ⟨u, ⟨#[]⟩, Nat.le_refl _, rfl, rfl, ⟨fun h => absurd h (by omega), fun _ => by simp⟩, Below.refl _ _⟩
      case round =>
        obtain ⟨m, S, hm, rfl, rfl, hP, hb⟩ := hrel
        have hS : S.size ≤ 20 := by have := hP.len (by omega); rw [Array.length_toList] at this; exact this
        by_cases hm0 : m = 0
        · subst hm0
          have hL := hP.1 rfl
          have HL := hide hL
          have Hb := hide hb
          clear hP hL hb
          go_wp2_with fail
          go_ret
          have hfin : (⟨#[]⟩ : ByteArray) ++ S = ⟨(Lib.decDigits u).toArray⟩ := by
            apply ByteArray.ext
            apply Array.ext'
            simp [ByteArray.data_append, HL.out]
          exact ⟨by show Ending.returned (Value.string ((⟨#[]⟩ : ByteArray) ++ S)) = _; rw [hfin], Hb.out⟩
        · have e2 : ((m : Int) != 0) = true := by rw [bne_iff_ne]; omega
          have ht : (m : Int).tmod 10 = ((m % 10 : Nat) : Int) := by rw [Int.tmod_eq_emod_of_nonneg (by omega)]; simp
          have htd : (m : Int).tdiv 10 = ((m / 10 : Nat) : Int) := by rw [Int.tdiv_eq_ediv_of_nonneg (by omega)]; simp
          have e3 : decide (((m % 10 : Nat) : Int) < 0) = false := decide_eq_false (by omega)
          have hP2 := hP.step (by omega)
          have HP := hide hP2
          have Hb := hide hb
          have hd9 : m % 10 ≤ 9 := by omega
          generalize m % 10 = d at *
          have hw8 : IntKind.u8.wrap (48 + (d : Int)) = 48 + (d : Int) := by rw [wrapu8]; omega
          have hwd := wrap_in (x := 48 + (d : Int)) (by omega)
          have hwdd := wrap_in (x := (d : Int)) (by omega)
          have hcv := conv_one wr d hd9
          generalize UInt8.ofNat (48 + d) = c at *
          clear hP hP2 hb
          go_wp2_with fail
          all_goals (try (exfalso; omega))
          go_roundw
          case rel =>
            refine ⟨m / 10, ⟨#[c]⟩ ++ S, by omega, by first | rfl | (simp; done) | (congr 1; omega), rfl, ?_, Hb.out.alloc Hb.out.size _⟩
            have h2 := HP.out
            simpa [ByteArray.data_append] using h2
          case measure => simp [intOf]; omega
end Go.Proofs.YtkfampdcigiokaaDoor
