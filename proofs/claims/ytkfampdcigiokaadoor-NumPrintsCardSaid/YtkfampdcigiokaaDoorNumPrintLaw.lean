/-
  THE LAW NumPrints.
-/
import Derived.Test.YtkfampdcigiokaaDoorNumPrint
import Derived.Test.YtkfampdcigiokaaDoorNumDoor
set_option linter.unusedVariables false
set_option linter.unusedSimpArgs false
namespace Go.Proofs.YtkfampdcigiokaaDoor
open Go.RowKit

theorem Tab.below {w w' : World} (h : Tab w) (hb : Below w.heap.size w w') : Tab w' := by
  have hc := Lib.TabIs.cell h gPow 0 (by rw [Lib.pow10Tab_length]; omega)
  exact var?_below hb gPow (World.block_lt_of_cell? w _ hc) h
def nums (l : List UInt8) : List Nat := l.map UInt8.toNat
theorem formedL_snoc {l : List Nat} {b : Nat} (h : formedL l = true) (hb : isD b = true) : formedL (l ++ [b]) = true := by
  unfold formedL at h ⊢
  simp only [Bool.and_eq_true, List.all_eq_true] at h ⊢
  refine ⟨by simp, fun x hx => ?_⟩
  rcases List.mem_append.1 hx with hx | hx
  · exact h.2 x hx
  · simp at hx; subst hx; exact hb
theorem ofNat_dig {d : Nat} (h : d ≤ 9) : (UInt8.ofNat (48 + d)).toNat = 48 + d := by
  rw [UInt8.toNat_ofNat']
  omega
theorem dec_read : ∀ (k u : Nat), u ≤ k → valL (nums (Lib.decDigits u)) = u ∧ formedL (nums (Lib.decDigits u)) = true ∧ (nums (Lib.decDigits u)).getD 0 0 ≠ 45 := by
  intro k
  induction k with
  | zero =>
    intro u h
    obtain rfl : u = 0 := by omega
    decide +kernel
  | succ k ih =>
    intro u h
    by_cases h10 : u < 10
    · rw [Lib.decDigits_one h10]
      have e : nums [UInt8.ofNat (48 + u)] = [48 + u] := by unfold nums; rw [List.map_cons, ofNat_dig (by omega)]; rfl
      rw [e]
      refine ⟨?_, ?_, ?_⟩
      · simp [valL]
      · unfold formedL isD; simp; omega
      · simp; omega
    · obtain ⟨h1, h2, h3⟩ := ih (u / 10) (by omega)
      rw [Lib.decDigits, dif_neg h10]
      have e : nums (Lib.decDigits (u / 10) ++ [UInt8.ofNat (48 + u % 10)]) = nums (Lib.decDigits (u / 10)) ++ [48 + u % 10] := by
        unfold nums; rw [List.map_append, List.map_cons, ofNat_dig (by omega)]; rfl
      rw [e]
      refine ⟨?_, formedL_snoc h2 (isD_iff.2 ⟨by omega, by omega⟩), ?_⟩
      · rw [valL_snoc, h1]; omega
      · have hl := (formedL_iff.1 h2).1
        rw [List.getD, List.getElem?_append_left hl]
        exact h3
theorem itoa_read {n : Int} (h : -9223372036854775808 ≤ n ∧ n ≤ 9223372036854775807) : readL (nums (Lib.itoa n)) = (n, 0) := by
  by_cases hneg : n < 0
  · obtain ⟨u, rfl⟩ : ∃ u : Nat, n = -(u : Int) := ⟨n.natAbs, by omega⟩
    obtain ⟨h1, h2, _⟩ := dec_read u u (Nat.le_refl _)
    rw [Lib.itoa_neg u (by omega)]
    have e : nums (45 :: Lib.decDigits u) = 45 :: nums (Lib.decDigits u) := rfl
    rw [e]
    unfold readL
    rw [if_pos (by rfl)]
    unfold signed
    rw [List.drop_one, List.tail_cons, h1, if_neg (by rw [h2]; simp), if_neg (by simp; omega)]
    simp
  · obtain ⟨u, rfl⟩ := Int.eq_ofNat_of_zero_le (show 0 ≤ n by omega)
    obtain ⟨h1, h2, h3⟩ := dec_read u u (Nat.le_refl _)
    rw [Lib.itoa_nonneg]
    unfold readL negL
    rw [decide_eq_false h3, Bool.and_false, if_neg (by simp)]
    unfold signed
    rw [h1, if_neg (by rw [h2]; simp), if_neg (by simp; omega)]
    simp
theorem itoa_size {n : Int} (h : -9223372036854775808 ≤ n ∧ n ≤ 9223372036854775807) : (⟨(Lib.itoa n).toArray⟩ : ByteArray).size ≤ 100 := by
  show (Lib.itoa n).toArray.size ≤ 100
  rw [List.size_toArray]
  by_cases hneg : n < 0
  · obtain ⟨u, rfl⟩ : ∃ u : Nat, n = -(u : Int) := ⟨n.natAbs, by omega⟩
    rw [Lib.itoa_neg u (by omega), List.length_cons, Lib.decDigits_length]
    have := nDig_le 19 u (by omega)
    omega
  · obtain ⟨u, rfl⟩ := Int.eq_ofNat_of_zero_le (show 0 ≤ n by omega)
    rw [Lib.itoa_nonneg, Lib.decDigits_length]
    have := nDig_le 19 u (by omega)
    omega

set_option maxHeartbeats 1000000 in
theorem numPrints_law (n : Int) (w : World) (htab : Tab w) (hn : -9223372036854775808 ≤ n ∧ n ≤ 9223372036854775807) :
    Calls Tryd.prog 4 #[.int .i64 n] w fun e w' => e = .returned (.bool true) ∧ Below w.heap.size w w' := by
  have h1 := print_any n w hn htab
  have h2 := fun (W : World) => refPrint_any n W hn
  have hsz := itoa_size hn
  have h3 := fun (W : World) => numRead_any ⟨(Lib.itoa n).toArray⟩ W (by omega)
  have hrd : readL (byL ⟨(Lib.itoa n).toArray⟩) = (n, 0) := by
    have := itoa_read hn
    unfold nums at this
    unfold byL
    rw [List.toList_toArray]; exact this
  rw [hrd] at h3
  clear hrd
  generalize (⟨(Lib.itoa n).toArray⟩ : ByteArray) = S at *
  have haw := fun (W : World) (hW : Below w.heap.size w W) => numAwake_any W (htab.below hW)
  have e1 : (n == n) = true := by simp
  have H1 := hide h1
  have H2 := hide h2
  have H3 := hide h3
  have Haw := hide haw
  clear h1 h2 h3 haw htab
  go_enter Tryd.func4, Tryd.ntmps4
  go_wp2_with fail
  refine H1.out.mono ?_
  rintro e w2 ⟨rfl, b2⟩
  have B2 := hide b2
  clear b2 H1
  go_wp2_with fail
  refine (H3.out w2).mono ?_
  rintro e w3 ⟨rfl, rfl⟩
  go_wp2_with fail
  refine (H2.out w2).mono ?_
  rintro e w4 ⟨rfl, b4⟩
  have b04 := B2.out.trans (b4.mono B2.out.size)
  have B04 := hide b04
  clear b04 b4
  go_wp2_with fail
  refine (Haw.out w4 B04.out).mono ?_
  rintro e w5 ⟨rfl, b5⟩
  go_wp2_with fail
  go_ret
  exact ⟨rfl, B04.out.trans (b5.mono B04.out.size)⟩
end Go.Proofs.YtkfampdcigiokaaDoor
