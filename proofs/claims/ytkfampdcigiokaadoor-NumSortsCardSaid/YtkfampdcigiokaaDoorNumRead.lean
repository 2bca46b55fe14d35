/-
  THE WALKS of num.formed, num.digits, num.Read.
-/
import Derived.Test.YtkfampdcigiokaaDoorNumAdd
set_option linter.unusedVariables false
set_option linter.unusedSimpArgs false
namespace Go.Proofs.YtkfampdcigiokaaDoor
open Go.RowKit

theorem loop_ne (s : ByteArray) : ∀ (n i : Nat) (r : List UInt8), s.size - i ≤ n → r ≠ [] → ByteArray.toList.loop s i r ≠ [] := by
  intro n
  induction n with
  | zero => intro i r h hr; rw [ByteArray.toList.loop, if_neg (by omega)]; simpa using hr
  | succ n ih =>
    intro i r h hr
    rw [ByteArray.toList.loop]
    split
    · exact ih _ _ (by omega) (by simp)
    · simpa using hr
theorem toList_ne {s : ByteArray} (h : s.size ≠ 0) : s.toList.isEmpty = false := by
  unfold ByteArray.toList
  rw [ByteArray.toList.loop, if_pos (by omega)]
  have := loop_ne s s.size 1 [s.get! 0] (by omega) (by simp)
  cases h2 : ByteArray.toList.loop s (0 + 1) [s.get! 0] with
  | nil => exact absurd h2 this
  | cons a l => rfl
theorem idx_str {s : ByteArray} {k : Nat} (h : k < s.size) (W : World) : (Instr.index 9 (.string s) (.int .i64 (k : Int))).run Tryd.prog W = .ok (.int .u8 (((byL s).getD k 0 : Nat) : Int)) W := by
  rw [run_index_string W 9 s .i64 _ Tryd.underlying9]
  rw [dif_pos (by omega)]
  have := byL_at h
  simp only [Int.toNat_natCast]
  rw [this]

set_option maxHeartbeats 2000000 in
theorem formed_any (s : ByteArray) (w : World) (hs : s.size ≤ 9223372036854775807) :
    Calls Tryd.prog 23 #[.string s] w fun e w' => e = .returned (.bool (formedL (byL s))) ∧ w = w' := by
  have hlen := byL_len s
  obtain ⟨F, hF⟩ : ∃ F, F = formedL (byL s) := ⟨_, rfl⟩
  rw [← hF]
  have HF := hide hF
  have Hlen := hide hlen
  clear hF hlen
  go_enter Tryd.func23, Tryd.ntmps23
  go_wp2_with fail
  go_loopw [6] (fun k wr => ∃ q : Nat, q ≤ s.size ∧ k = .int .i64 (q : Int) ∧ (∀ j, j < q → isD ((byL s).getD j 0) = true) ∧ w = wr) (fun k wr => s.size - (intOf k).toNat)
  case atStart => exact ⟨0, Nat.zero_le _, rfl, fun j h => absurd h (by omega), rfl⟩
  case round =>
    obtain ⟨q, hq, rfl, hall, rfl⟩ := hrel
    by_cases hlt : q < s.size
    · have hidx := idx_str hlt
      have hnext : isD ((byL s).getD q 0) = true → ∀ j, j < q + 1 → isD ((byL s).getD j 0) = true := fun h j hj => by
        by_cases e : j = q
        · subst e; exact h
        · exact hall j (by omega)
      have hbad : ¬ isD ((byL s).getD q 0) = true → F = false := fun h => by
        rw [HF.out]
        cases hf : formedL (byL s) with
        | false => rfl
        | true => exact absurd ((formedL_iff.1 hf).2 q (by rw [Hlen.out]; exact hlt)) h
      rw [isD_iff] at hnext hbad
      generalize (byL s).getD q 0 = c at *
      have Hnext := hide hnext
      have Hbad := hide hbad
      have hqi : (q : Int) < (s.size : Int) := by omega
      clear hnext hbad hall
      by_cases g1 : c < 48
      · have e1 : decide ((c : Int) < 48) = true := decide_eq_true (by omega)
        have hFF := Hbad.out (by omega)
        subst hFF
        clear Hnext Hbad HF
        go_wp2_with fail
        go_ret
        exact ⟨rfl, rfl⟩
      · have e1 : decide ((c : Int) < 48) = false := decide_eq_false (by omega)
        by_cases g2 : 57 < c
        · have e2 : decide (57 < (c : Int)) = true := decide_eq_true (by omega)
          have hFF := Hbad.out (by omega)
          subst hFF
          clear Hnext Hbad HF
          go_wp2_with fail
          go_ret
          exact ⟨rfl, rfl⟩
        · have e2 : decide (57 < (c : Int)) = false := decide_eq_false (by omega)
          clear Hbad
          go_wp2_with fail
          go_roundw
          case rel => exact ⟨q + 1, by omega, by go_num, Hnext.out ⟨by omega, by omega⟩, by first | rfl | trivial⟩
          case measure => simp [intOf]; omega
    · obtain rfl : q = s.size := by omega
      by_cases h0 : s.size = 0
      · have hse : s = ⟨#[]⟩ := by
          obtain ⟨d⟩ := s
          congr 1
          exact Array.eq_empty_of_size_eq_zero h0
        have hFF : F = false := by rw [HF.out, hse]; rfl
        subst hFF
        subst hse
        clear HF hall Hlen
        go_wp2_with fail
        go_ret
        exact ⟨rfl, rfl⟩
      · have hFF : F = true := by
          rw [HF.out]
          exact formedL_iff.2 ⟨by rw [Hlen.out]; omega, fun k hk => hall k (by rw [← Hlen.out]; exact hk)⟩
        have hse := toList_ne h0
        subst hFF
        clear HF hall Hlen
        go_wp2_with fail
        go_ret
        exact ⟨by simp [hse], rfl⟩

/-- what digits hands back -/
def digP (l : List Nat) (most : Nat) : Nat × Bool := if valL l ≤ most then (valL l, true) else (0, false)
set_option maxHeartbeats 2000000 in
theorem digits_any (s : ByteArray) (most : Nat) (w : World) (hs : s.size ≤ 9223372036854775807) (hf : formedL (byL s) = true) (h9 : 9 ≤ most) (hm : most ≤ 9223372036854775808) :
    Calls Tryd.prog 24 #[.string s, .int .u64 (most : Int)] w fun e w' => e = .returned (.tuple #[.int .u64 ((digP (byL s) most).1 : Int), .bool (digP (byL s) most).2]) ∧ w = w' := by
  have hlen := byL_len s
  obtain ⟨F, hF⟩ : ∃ F, F = digP (byL s) most := ⟨_, rfl⟩
  rw [← hF]
  have hd := fun k (hk : k < s.size) => formedL_at hf (k := k) (by rw [hlen]; exact hk)
  have hvt := fun k (hk : k < s.size) => valL_take (l := byL s) (k := k) (by rw [hlen]; exact hk)
  have hvp := valL_prefix (byL s)
  have hva : valL ((byL s).take s.size) = valL (byL s) := by rw [List.take_of_length_le (by omega)]
  have HF := hide hF
  have Hlen := hide hlen
  have Hd := hide hd
  have Hvt := hide hvt
  have Hvp := hide hvp
  have Hva := hide hva
  clear hF hlen hf hd hvt hvp hva
  go_enter Tryd.func24, Tryd.ntmps24
  go_wp2_with fail
  go_loopw [6, 11] (fun n k wr => ∃ q : Nat, q ≤ s.size ∧ k = .int .i64 (q : Int) ∧ n = .int .u64 (valL ((byL s).take q) : Int) ∧ valL ((byL s).take q) ≤ most ∧ w = wr) (fun n k wr => s.size - (intOf k).toNat)
  case atStart => exact ⟨0, Nat.zero_le _, rfl, rfl, Nat.zero_le _, rfl⟩
  case round =>
    obtain ⟨q, hq, rfl, rfl, hv, rfl⟩ := hrel
    by_cases hlt : q < s.size
    · have hidx := idx_str hlt
      obtain ⟨hc1, hc2⟩ := Hd.out q hlt
      have hvt := Hvt.out q hlt
      have hvp := Hvp.out (q + 1)
      generalize (byL s).getD q 0 = c at *
      obtain ⟨d, rfl⟩ : ∃ d, c = d + 48 := ⟨c - 48, by omega⟩
      rw [Nat.add_sub_cancel] at hvt
      have hd9 : d ≤ 9 := by omega
      rw [show ((d + 48 : Nat) : Int) = (d : Int) + 48 by omega] at hidx
      have Hvt2 := hide hvt
      have Hvp2 := hide hvp
      have Hv := hide hv
      have hw8 : IntKind.u8.wrap ((d : Int) + 48 - 48) = (d : Int) := by
        simp [IntKind.wrap, IntKind.bits, IntKind.signed]; omega
      generalize valL ((byL s).take q) = n at *
      have hqi : (q : Int) < (s.size : Int) := by omega
      have hwd : IntKind.u64.wrap (d : Int) = (d : Int) := by simp [IntKind.wrap, IntKind.bits, IntKind.signed]; omega
      have hwm : IntKind.u64.wrap ((most : Int) - (d : Int)) = ((most - d : Nat) : Int) := by simp [IntKind.wrap, IntKind.bits, IntKind.signed]; omega
      clear hvt hvp hv
      by_cases g : n * 10 + d ≤ most
      · have e : decide (((most - d : Nat) : Int) / 10 < (n : Int)) = false := decide_eq_false (by omega)
        have e' : ¬ ((most - d : Nat) : Int) / 10 < (n : Int) := by omega
        have hwn : IntKind.u64.wrap ((n : Int) * 10) = (n : Int) * 10 := by simp [IntKind.wrap, IntKind.bits, IntKind.signed]; omega
        have hwn2 : IntKind.u64.wrap ((n : Int) * 10 + (d : Int)) = (n : Int) * 10 + (d : Int) := by simp [IntKind.wrap, IntKind.bits, IntKind.signed]; omega
        go_wp2_with fail
        go_roundw
        case rel => exact ⟨q + 1, by omega, by go_num, by rw [Hvt2.out]; simp, by rw [Hvt2.out]; exact g, by first | rfl | trivial⟩
        case measure => simp [intOf]; omega
      · have e : decide (((most - d : Nat) : Int) / 10 < (n : Int)) = true := decide_eq_true (by omega)
        have e' : ((most - d : Nat) : Int) / 10 < (n : Int) := by omega
        have hFF : F = (0, false) := by
          rw [HF.out]
          unfold digP
          rw [if_neg (by have := Hvp2.out; rw [Hvt2.out] at this; omega)]
        subst hFF
        clear HF
        go_wp2_with fail
        go_ret2
        exact ⟨rfl, rfl⟩
    · obtain rfl : q = s.size := by omega
      rw [Hva.out] at hv ⊢
      have hFF : F = (valL (byL s), true) := by
        rw [HF.out]
        unfold digP
        rw [if_pos hv]
      subst hFF
      clear HF
      go_wp2_with fail
      go_ret2
      exact ⟨rfl, rfl⟩

theorem wrapu2 (x : Int) : IntKind.u64.wrap x = x % 18446744073709551616 := by
  simp [IntKind.wrap, IntKind.bits, IntKind.signed]
theorem byL_drop (s : ByteArray) : byL (s.extract 1 s.size) = (byL s).drop 1 := by
  unfold byL
  rw [← List.map_drop]
  congr 1
  simp [ByteArray.data_extract, Array.toList_extract, List.extract]
  exact List.take_of_length_le (by rw [List.length_tail, Array.length_toList]; exact Nat.le_refl _)
set_option maxHeartbeats 2000000 in
theorem numRead_any (s : ByteArray) (w : World) (hs : s.size ≤ 9223372036854775807) :
    Calls Tryd.prog 8 #[.string s] w fun e w' => e = .returned (.tuple #[.int .i64 (readL (byL s)).1, .int .i64 (readL (byL s)).2]) ∧ w = w' := by
  have hlen := byL_len s
  by_cases h0 : s.size = 0
  · have hl0 : byL s = [] := List.eq_nil_of_length_eq_zero (by omega)
    have hse : s = ⟨#[]⟩ := by
      obtain ⟨d⟩ := s
      congr 1
      exact Array.eq_empty_of_size_eq_zero h0
    have hfm := formed_any s w hs
    rw [hl0] at hfm ⊢
    rw [show formedL [] = false from rfl] at hfm
    rw [show readL [] = (0, 17) from rfl]
    subst hse
    have Hfm := hide hfm
    clear hfm hlen hl0
    go_enter Tryd.func8, Tryd.ntmps8
    go_wp2_with (go_at_call 23; refine Hfm.out.mono ?_; rintro e w2 ⟨rfl, rfl⟩)
    go_ret2
    exact ⟨rfl, rfl⟩
  · have hse := toList_ne h0
    have hidx : ∀ W : World, (Instr.index 9 (.string s) (.int .i64 0)).run Tryd.prog W = .ok (.int .u8 (((byL s).getD 0 0 : Nat) : Int)) W := idx_str (k := 0) (by omega)
    have hne : (byL s).isEmpty = false := by cases h : byL s with | nil => rw [h] at hlen; simp at hlen; omega | cons a l => rfl
    by_cases hneg : (byL s).getD 0 0 = 45
    · have hN : negL (byL s) = true := by unfold negL; rw [hne, decide_eq_true hneg]; rfl
      have hR : readL (byL s) = signed true ((byL s).drop 1) := by unfold readL; rw [if_pos hN]
      rw [hR]
      rw [hneg] at hidx
      have hfm := formed_any (s.extract 1 s.size) w (by first | omega | (simp; omega))
      have hdg := fun hf => digits_any (s.extract 1 s.size) 9223372036854775808 w (by first | omega | (simp; omega)) hf (by omega) (by omega)
      rw [byL_drop] at hfm hdg
      generalize (byL s).drop 1 = l at *
      cases hf : formedL l with
      | false =>
        rw [hf] at hfm
        have hS : signed true l = (0, 17) := by unfold signed; rw [if_pos hf]
        rw [hS]
        have Hfm := hide hfm
        clear hfm hdg hlen hN hR hne hf hS
        go_enter Tryd.func8, Tryd.ntmps8
        go_wp2_with (go_at_call 23; refine Hfm.out.mono ?_; rintro e w2 ⟨rfl, rfl⟩)
        go_ret2
        exact ⟨rfl, rfl⟩
      | true =>
        rw [hf] at hfm
        have hdg := hdg hf
        unfold digP at hdg
        by_cases g : valL l ≤ 9223372036854775808
        · rw [if_pos g] at hdg
          have hS : signed true l = (-(valL l : Int), 0) := by unfold signed; rw [if_neg (by rw [hf]; simp), if_neg (by simp; omega)]; simp
          rw [hS]
          obtain ⟨n, hn⟩ : ∃ n, n = valL l := ⟨_, rfl⟩
          rw [← hn] at hdg g ⊢
          have hw1 : IntKind.u64.wrap (-(n : Int)) = (18446744073709551616 - (n : Int)) % 18446744073709551616 := by rw [wrapu2]; omega
          have hw2 : wrap64 ((18446744073709551616 - (n : Int)) % 18446744073709551616) = -(n : Int) := by unfold wrap64; omega
          have Hfm := hide hfm
          have Hdg := hide hdg
          clear hfm hdg hlen hN hR hne hf hS hn
          go_enter Tryd.func8, Tryd.ntmps8
          go_wp2_with (first
            | (go_at_call 23; refine Hfm.out.mono ?_; rintro e w2 ⟨rfl, rfl⟩)
            | (go_at_call 24; refine Hdg.out.mono ?_; rintro e w2 ⟨rfl, rfl⟩))
          go_ret2
          exact ⟨by first | rfl | (simp [hw1, hw2]; unfold wrap64; omega), rfl⟩
        · rw [if_neg g] at hdg
          have hS : signed true l = (0, 2) := by unfold signed; rw [if_neg (by rw [hf]; simp), if_pos (by simp; omega)]
          rw [hS]
          have Hfm := hide hfm
          have Hdg := hide hdg
          clear hfm hdg hlen hN hR hne hf hS g
          go_enter Tryd.func8, Tryd.ntmps8
          go_wp2_with (first
            | (go_at_call 23; refine Hfm.out.mono ?_; rintro e w2 ⟨rfl, rfl⟩)
            | (go_at_call 24; refine Hdg.out.mono ?_; rintro e w2 ⟨rfl, rfl⟩))
          go_ret2
          exact ⟨rfl, rfl⟩
    · have hN : negL (byL s) = false := by unfold negL; rw [hne, decide_eq_false hneg]; rfl
      have hR : readL (byL s) = signed false (byL s) := by unfold readL; rw [if_neg (by rw [hN]; simp)]
      rw [hR]
      have hb := byL_lt s 0
      generalize (byL s).getD 0 0 = c0 at *
      have e45 : ((c0 : Int) == 45) = false := by rw [beq_eq_false_iff_ne]; omega
      have hfm := formed_any s w (by first | omega | (simp; omega))
      have hdg := fun hf => digits_any s 9223372036854775807 w (by first | omega | (simp; omega)) hf (by omega) (by omega)
      obtain ⟨l, hll⟩ : ∃ l, l = byL s := ⟨_, rfl⟩
      rw [← hll] at hfm hdg ⊢
      cases hf : formedL l with
      | false =>
        rw [hf] at hfm
        have hS : signed false l = (0, 17) := by unfold signed; rw [if_pos hf]
        rw [hS]
        have Hfm := hide hfm
        clear hfm hdg hlen hN hR hne hf hS
        go_enter Tryd.func8, Tryd.ntmps8
        go_wp2_with (go_at_call 23; refine Hfm.out.mono ?_; rintro e w2 ⟨rfl, rfl⟩)
        go_ret2
        exact ⟨rfl, rfl⟩
      | true =>
        rw [hf] at hfm
        have hdg := hdg hf
        unfold digP at hdg
        by_cases g : valL l ≤ 9223372036854775807
        · rw [if_pos g] at hdg
          have hS : signed false l = ((valL l : Int), 0) := by unfold signed; rw [if_neg (by rw [hf]; simp), if_neg (by simp; omega)]; simp
          rw [hS]
          obtain ⟨n, hn⟩ : ∃ n, n = valL l := ⟨_, rfl⟩
          rw [← hn] at hdg g ⊢
          have hw2 := wrap_in (x := (n : Int)) (by omega)
          have Hfm := hide hfm
          have Hdg := hide hdg
          clear hfm hdg hlen hN hR hne hf hS hn
          go_enter Tryd.func8, Tryd.ntmps8
          go_wp2_with (first
            | (go_at_call 23; refine Hfm.out.mono ?_; rintro e w2 ⟨rfl, rfl⟩)
            | (go_at_call 24; refine Hdg.out.mono ?_; rintro e w2 ⟨rfl, rfl⟩))
          go_ret2
          exact ⟨by first | rfl | simp [hw2] | simp_all, rfl⟩
        · rw [if_neg g] at hdg
          have hS : signed false l = (0, 2) := by unfold signed; rw [if_neg (by rw [hf]; simp), if_pos (by simp; omega)]
          rw [hS]
          have Hfm := hide hfm
          have Hdg := hide hdg
          clear hfm hdg hlen hN hR hne hf hS g
          go_enter Tryd.func8, Tryd.ntmps8
          go_wp2_with (first
            | (go_at_call 23; refine Hfm.out.mono ?_; rintro e w2 ⟨rfl, rfl⟩)
            | (go_at_call 24; refine Hdg.out.mono ?_; rintro e w2 ⟨rfl, rfl⟩))
          go_ret2
          exact ⟨rfl, rfl⟩
end Go.Proofs.YtkfampdcigiokaaDoor
