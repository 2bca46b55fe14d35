/-
  THE WALK of warderref03.Read, and the law NumReads.
-/
import Derived.Test.YtkfampdcigiokaaDoorNumLaws
set_option linter.unusedVariables false
set_option linter.unusedSimpArgs false
namespace Go.Proofs.YtkfampdcigiokaaDoor
open Go.RowKit

/-- the number as it is told from byte k on -/
theorem valL_drop_take {l : List Nat} {f k : Nat} (h : f + k < l.length) : valL ((l.drop f).take (k + 1)) = valL ((l.drop f).take k) * 10 + (l.getD (f + k) 0 - 48) := by
  have h2 : k < (l.drop f).length := by rw [List.length_drop]; omega
  rw [valL_take h2]
  congr 2
  rw [List.getD, List.getD, List.getElem?_drop]
def fromL (l : List Nat) : Nat := if negL l = true then 1 else 0
theorem readL_eq (l : List Nat) : readL l = if formedL (l.drop (fromL l)) = false then (0, 17) else if (if fromL l = 1 then 9223372036854775808 else 9223372036854775807) < valL (l.drop (fromL l)) then (0, 2) else (if fromL l = 1 then -(valL (l.drop (fromL l)) : Int) else (valL (l.drop (fromL l)) : Int), 0) := by
  unfold readL fromL signed
  cases negL l <;> simp

set_option maxRecDepth 100000 in
set_option maxHeartbeats 4000000 in
theorem refRead_any (s : ByteArray) (w : World) (hs : s.size ≤ 9223372036854775807) :
    Calls Tryd.prog 9 #[.string s] w fun e w' => e = .returned (.tuple #[.int .i64 (readL (byL s)).1, .int .i64 (readL (byL s)).2]) ∧ w = w' := by
  have hlen := byL_len s
  by_cases h0 : s.size = 0
  · have hl0 : byL s = [] := List.eq_nil_of_length_eq_zero (by omega)
    rw [hl0, show readL [] = (0, 17) from rfl]
    have e0 : decide (0 < (s.size : Int)) = false := decide_eq_false (by omega)
    have e1 : ((0 : Int) == (s.size : Int)) = true := by simp [h0]
    clear hlen hl0
    go_enter Tryd.func9, Tryd.ntmps9
    go_wp2_with fail
    go_ret2
    exact ⟨rfl, rfl⟩
  · have hidx0 : ∀ W : World, (Instr.index 9 (.string s) (.int .i64 0)).run Tryd.prog W = .ok (.int .u8 (((byL s).getD 0 0 : Nat) : Int)) W := idx_str (k := 0) (by omega)
    have hne : (byL s).isEmpty = false := by cases h : byL s with | nil => rw [h] at hlen; simp at hlen; omega | cons a l => rfl
    obtain ⟨R, hR⟩ : ∃ R, R = readL (byL s) := ⟨_, rfl⟩
    rw [← hR]
    rw [readL_eq] at hR
    have e0 : decide (0 < (s.size : Int)) = true := decide_eq_true (by omega)
    have e0' : (0 : Int) < (s.size : Int) := by omega
    have hfr : fromL (byL s) = if (byL s).getD 0 0 = 45 then 1 else 0 := by
      unfold fromL negL
      rw [hne]
      by_cases h : (byL s).getD 0 0 = 45
      · rw [decide_eq_true h, if_pos h]; rfl
      · rw [decide_eq_false h, if_neg h]; rfl
    obtain ⟨f, hf⟩ : ∃ f, f = fromL (byL s) := ⟨_, rfl⟩
    rw [← hf] at hfr hR
    have hf1 : f ≤ 1 := by rw [hfr]; split <;> omega
    have hdl : ((byL s).drop f).length = s.size - f := by rw [List.length_drop, hlen]
    have HR := hide hR
    have Hlen := hide hlen
    have Hdl := hide hdl
    by_cases h45 : (byL s).getD 0 0 = 45
    · obtain rfl : f = 1 := by rw [hfr, if_pos h45]
      have e45 : ((((byL s).getD 0 0 : Nat) : Int) == 45) = true := by rw [h45]; rfl
      generalize (byL s).getD 0 0 = c0 at *
      have hc0 : True := trivial
      by_cases hend : s.size = 1
      · have e1 : ((1 : Int) == (s.size : Int)) = true := by simp [hend]
        have hRR : R = (0, 17) := by
          rw [HR.out, if_pos]
          have : (byL s).drop 1 = [] := List.eq_nil_of_length_eq_zero (by rw [Hdl.out]; omega)
          rw [this]; rfl
        subst hRR
        clear HR hR hf hfr hdl Hdl Hlen hlen hne
        go_enter Tryd.func9, Tryd.ntmps9
        go_wp2_with fail
        go_ret2
        exact ⟨rfl, rfl⟩
      · have e1 : ((1 : Int) == (s.size : Int)) = false := by rw [beq_eq_false_iff_ne]; omega
        clear hR hf hfr hdl hlen hne h45
        go_enter Tryd.func9, Tryd.ntmps9
        go_wp2_with fail
        go_loopw [5] (fun i wr => ∃ q : Nat, 1 ≤ q ∧ q ≤ s.size ∧ i = .int .i64 (q : Int) ∧ (∀ j, 1 ≤ j → j < q → isD ((byL s).getD j 0) = true) ∧ w = wr) (fun i wr => s.size - (intOf i).toNat)
        case atStart => exact ⟨1, by omega, by omega, rfl, fun j h1 h2 => absurd h1 (by omega), rfl⟩
        case round =>
          obtain ⟨q, hq0, hq, rfl, hall, rfl⟩ := hrel
          by_cases hlt : q < s.size
          · have hidx := idx_str hlt
            have hnext : isD ((byL s).getD q 0) = true → ∀ j, 1 ≤ j → j < q + 1 → isD ((byL s).getD j 0) = true := fun h j h1 h2 => by
              by_cases e : j = q
              · subst e; exact h
              · exact hall j h1 (by omega)
            have hbad : ¬ isD ((byL s).getD q 0) = true → R = (0, 17) := fun h => by
              rw [HR.out, if_pos]
              cases hfm : formedL ((byL s).drop 1) with
              | false => rfl
              | true =>
                have := (formedL_iff.1 hfm).2 (q - 1) (by rw [Hdl.out]; omega)
                rw [List.getD, List.getElem?_drop, show 1 + (q - 1) = q by omega] at this
                exact absurd this h
            rw [isD_iff] at hnext hbad
            generalize (byL s).getD q 0 = c at *
            have Hnext := hide hnext
            have Hbad := hide hbad
            have hqi : (q : Int) < (s.size : Int) := by omega
            clear hnext hbad hall
            by_cases g1 : c < 48
            · have e2 : decide ((c : Int) < 48) = true := decide_eq_true (by omega)
              have hFF := Hbad.out (by omega)
              subst hFF
              clear Hnext Hbad HR
              go_wp2_with fail
              go_ret2
              exact ⟨rfl, rfl⟩
            · have e2 : decide ((c : Int) < 48) = false := decide_eq_false (by omega)
              by_cases g2 : 57 < c
              · have e3 : decide (57 < (c : Int)) = true := decide_eq_true (by omega)
                have hFF := Hbad.out (by omega)
                subst hFF
                clear Hnext Hbad HR
                go_wp2_with fail
                go_ret2
                exact ⟨rfl, rfl⟩
              · have e3 : decide (57 < (c : Int)) = false := decide_eq_false (by omega)
                clear Hbad
                go_wp2_with fail
                go_roundw
                case rel => exact ⟨q + 1, by omega, by omega, by go_num, Hnext.out ⟨by omega, by omega⟩, by first | rfl | trivial⟩
                case measure => simp [intOf]; omega
          · obtain rfl : q = s.size := by omega
            have hfm : formedL ((byL s).drop 1) = true := formedL_iff.2 ⟨by rw [Hdl.out]; omega, fun k hk => by
              rw [Hdl.out] at hk
              have := hall (1 + k) (by omega) (by omega)
              rwa [List.getD, List.getElem?_drop]⟩
            have hdd := fun k (hk : 1 + k < s.size) => valL_drop_take (l := byL s) (f := 1) (k := k) (by rw [Hlen.out]; exact hk)
            have hpre := valL_prefix ((byL s).drop 1)
            have hfin : valL (((byL s).drop 1).take (s.size - 1)) = valL ((byL s).drop 1) := by rw [List.take_of_length_le (by rw [Hdl.out]; exact Nat.le_refl _)]
            have hR2 := HR.out
            rw [hfm] at hR2
            simp only [Bool.true_eq_false, if_false] at hR2
            have hdg := fun j h1 h2 => isD_iff.1 (hall j h1 h2)
            have Hdd := hide hdd
            have Hpre := hide hpre
            have Hfin := hide hfin
            have HR2 := hide hR2
            have Hdg := hide hdg
            clear hdd hpre hfin hR2 hdg hall hfm HR
            go_wp2_with fail
            go_loopw [6, 7] (fun n i wr => ∃ q : Nat, 1 ≤ q ∧ q ≤ s.size ∧ i = .int .i64 (q : Int) ∧ n = .int .i64 (-(valL (((byL s).drop 1).take (q - 1)) : Int)) ∧ valL (((byL s).drop 1).take (q - 1)) ≤ 9223372036854775808 ∧ w = wr) (fun n i wr => s.size - (intOf i).toNat)
            case atStart => exact ⟨1, by omega, by omega, rfl, rfl, by simp [valL], rfl⟩
            case round =>
              obtain ⟨q, hq0, hq, rfl, rfl, hv, rfl⟩ := hrel
              by_cases hlt : q < s.size
              · have hidx := idx_str hlt
                obtain ⟨hc1, hc2⟩ := Hdg.out q hq0 hlt
                have hdd := Hdd.out (q - 1) (by omega)
                have hpre := Hpre.out (q + 1 - 1)
                rw [show 1 + (q - 1) = q by omega, show q - 1 + 1 = q + 1 - 1 by omega] at hdd
                generalize (byL s).getD q 0 = c at *
                obtain ⟨d, rfl⟩ : ∃ d, c = d + 48 := ⟨c - 48, by omega⟩
                simp only [Nat.add_sub_cancel] at hdd
                have hd9 : d ≤ 9 := by omega
                rw [show ((d + 48 : Nat) : Int) = (d : Int) + 48 by omega] at hidx
                have Hdd2 := hide hdd
                have Hpre2 := hide hpre
                generalize valL (((byL s).drop 1).take (q - 1)) = n at *
                have hqi : (q : Int) < (s.size : Int) := by omega
                have hwd := wrap_in (x := (d : Int)) (by omega)
                have hwl := wrap_in (x := -9223372036854775808 + (d : Int)) (by omega)
                have htd : (-9223372036854775808 + (d : Int)).tdiv 10 = -((9223372036854775808 - (d : Int)) / 10) := by
                  rw [show -9223372036854775808 + (d : Int) = -(9223372036854775808 - (d : Int)) by omega, Int.neg_tdiv, Int.tdiv_eq_ediv_of_nonneg (by omega)]
                clear hdd hpre
                by_cases g : n * 10 + d ≤ 9223372036854775808
                · have e4 : decide (-(n : Int) < -((9223372036854775808 - (d : Int)) / 10)) = false := decide_eq_false (by omega)
                  have e5 : ¬ -(n : Int) < -((9223372036854775808 - (d : Int)) / 10) := by omega
                  have hw1 := wrap_in (x := -(n : Int) * 10) (by omega)
                  have hw2 := wrap_in (x := -(n : Int) * 10 - (d : Int)) (by omega)
                  go_wp2_with fail
                  go_roundw
                  case rel => exact ⟨q + 1, by omega, by omega, by go_num, by (try simp only [Nat.add_sub_cancel]); rw [Hdd2.out, show -(n : Int) * 10 - (d : Int) = -((n * 10 + d : Nat) : Int) by omega], by (try simp only [Nat.add_sub_cancel]); rw [Hdd2.out]; exact g, by first | rfl | trivial⟩
                  case measure => simp [intOf]; omega
                · have e4 : decide (-(n : Int) < -((9223372036854775808 - (d : Int)) / 10)) = true := decide_eq_true (by omega)
                  have e5 : -(n : Int) < -((9223372036854775808 - (d : Int)) / 10) := by omega
                  go_wp2_with fail
                  go_ret2
                  exact ⟨by rw [HR2.out, if_pos (by have := Hpre2.out; (try simp only [Nat.add_sub_cancel] at this); rw [Hdd2.out] at this; (first | (rw [if_pos trivial]; omega) | (rw [if_neg (by decide)]; omega) | omega))]; rfl, rfl⟩
              · obtain rfl : q = s.size := by omega
                rw [Hfin.out] at hv ⊢
                obtain ⟨V, hV⟩ : ∃ V, V = valL ((byL s).drop 1) := ⟨_, rfl⟩
                have hR3 : R = (-(V : Int), 0) := by rw [HR2.out, if_neg (by (first | (rw [if_pos trivial]; omega) | (rw [if_neg (by decide)]; omega) | omega)), hV]; simp
                rw [← hV] at hv ⊢
                subst hR3
                clear HR2 Hfin Hpre Hdd hV
                go_wp2_with fail
                go_ret2
                exact ⟨rfl, rfl⟩
    · obtain rfl : f = 0 := by rw [hfr, if_neg h45]
      have e45 : ((((byL s).getD 0 0 : Nat) : Int) == 45) = false := by rw [beq_eq_false_iff_ne]; omega
      generalize (byL s).getD 0 0 = c0 at *
      have hc0 : True := trivial
      have e1 : ((0 : Int) == (s.size : Int)) = false := by rw [beq_eq_false_iff_ne]; omega
      clear hR hf hfr hdl hlen hne h45
      go_enter Tryd.func9, Tryd.ntmps9
      go_wp2_with fail
      go_loopw [5] (fun i wr => ∃ q : Nat, 0 ≤ q ∧ q ≤ s.size ∧ i = .int .i64 (q : Int) ∧ (∀ j, 0 ≤ j → j < q → isD ((byL s).getD j 0) = true) ∧ w = wr) (fun i wr => s.size - (intOf i).toNat)
      case atStart => exact ⟨0, by omega, by omega, rfl, fun j h1 h2 => absurd h1 (by omega), rfl⟩
      case round =>
        obtain ⟨q, hq0, hq, rfl, hall, rfl⟩ := hrel
        by_cases hlt : q < s.size
        · have hidx := idx_str hlt
          have hnext : isD ((byL s).getD q 0) = true → ∀ j, 0 ≤ j → j < q + 1 → isD ((byL s).getD j 0) = true := fun h j h1 h2 => by
            by_cases e : j = q
            · subst e; exact h
            · exact hall j h1 (by omega)
          have hbad : ¬ isD ((byL s).getD q 0) = true → R = (0, 17) := fun h => by
            rw [HR.out, if_pos]
            cases hfm : formedL ((byL s).drop 0) with
            | false => rfl
            | true =>
              have := (formedL_iff.1 hfm).2 (q - 0) (by rw [Hdl.out]; omega)
              rw [List.getD, List.getElem?_drop, show 0 + (q - 0) = q by omega] at this
              exact absurd this h
          rw [isD_iff] at hnext hbad
          generalize (byL s).getD q 0 = c at *
          have Hnext := hide hnext
          have Hbad := hide hbad
          have hqi : (q : Int) < (s.size : Int) := by omega
          clear hnext hbad hall
          by_cases g1 : c < 48
          · have e2 : decide ((c : Int) < 48) = true := decide_eq_true (by omega)
            have hFF := Hbad.out (by omega)
            subst hFF
            clear Hnext Hbad HR
            go_wp2_with fail
            go_ret2
            exact ⟨rfl, rfl⟩
          · have e2 : decide ((c : Int) < 48) = false := decide_eq_false (by omega)
            by_cases g2 : 57 < c
            · have e3 : decide (57 < (c : Int)) = true := decide_eq_true (by omega)
              have hFF := Hbad.out (by omega)
              subst hFF
              clear Hnext Hbad HR
              go_wp2_with fail
              go_ret2
              exact ⟨rfl, rfl⟩
            · have e3 : decide (57 < (c : Int)) = false := decide_eq_false (by omega)
              clear Hbad
              go_wp2_with fail
              go_roundw
              case rel => exact ⟨q + 1, by omega, by omega, by go_num, Hnext.out ⟨by omega, by omega⟩, by first | rfl | trivial⟩
              case measure => simp [intOf]; omega
        · obtain rfl : q = s.size := by omega
          have hfm : formedL ((byL s).drop 0) = true := formedL_iff.2 ⟨by rw [Hdl.out]; omega, fun k hk => by
            rw [Hdl.out] at hk
            have := hall (0 + k) (by omega) (by omega)
            rwa [List.getD, List.getElem?_drop]⟩
          have hdd := fun k (hk : 0 + k < s.size) => valL_drop_take (l := byL s) (f := 0) (k := k) (by rw [Hlen.out]; exact hk)
          have hpre := valL_prefix ((byL s).drop 0)
          have hfin : valL (((byL s).drop 0).take (s.size - 0)) = valL ((byL s).drop 0) := by rw [List.take_of_length_le (by rw [Hdl.out]; exact Nat.le_refl _)]
          have hR2 := HR.out
          rw [hfm] at hR2
          simp only [Bool.true_eq_false, if_false] at hR2
          have hdg := fun j h1 h2 => isD_iff.1 (hall j h1 h2)
          have Hdd := hide hdd
          have Hpre := hide hpre
          have Hfin := hide hfin
          have HR2 := hide hR2
          have Hdg := hide hdg
          clear hdd hpre hfin hR2 hdg hall hfm HR
          go_wp2_with fail
          go_loopw [6, 7] (fun n i wr => ∃ q : Nat, 0 ≤ q ∧ q ≤ s.size ∧ i = .int .i64 (q : Int) ∧ n = .int .i64 (-(valL (((byL s).drop 0).take (q - 0)) : Int)) ∧ valL (((byL s).drop 0).take (q - 0)) ≤ 9223372036854775808 ∧ w = wr) (fun n i wr => s.size - (intOf i).toNat)
          case atStart => exact ⟨0, by omega, by omega, rfl, rfl, by simp [valL], rfl⟩
          case round =>
            obtain ⟨q, hq0, hq, rfl, rfl, hv, rfl⟩ := hrel
            by_cases hlt : q < s.size
            · have hidx := idx_str hlt
              obtain ⟨hc1, hc2⟩ := Hdg.out q hq0 hlt
              have hdd := Hdd.out (q - 0) (by omega)
              have hpre := Hpre.out (q + 1 - 0)
              rw [show 0 + (q - 0) = q by omega, show q - 0 + 1 = q + 1 - 0 by omega] at hdd
              generalize (byL s).getD q 0 = c at *
              obtain ⟨d, rfl⟩ : ∃ d, c = d + 48 := ⟨c - 48, by omega⟩
              simp only [Nat.add_sub_cancel] at hdd
              have hd9 : d ≤ 9 := by omega
              rw [show ((d + 48 : Nat) : Int) = (d : Int) + 48 by omega] at hidx
              have Hdd2 := hide hdd
              have Hpre2 := hide hpre
              generalize valL (((byL s).drop 0).take (q - 0)) = n at *
              have hqi : (q : Int) < (s.size : Int) := by omega
              have hwd := wrap_in (x := (d : Int)) (by omega)
              have hwl := wrap_in (x := -9223372036854775808 + (d : Int)) (by omega)
              have htd : (-9223372036854775808 + (d : Int)).tdiv 10 = -((9223372036854775808 - (d : Int)) / 10) := by
                rw [show -9223372036854775808 + (d : Int) = -(9223372036854775808 - (d : Int)) by omega, Int.neg_tdiv, Int.tdiv_eq_ediv_of_nonneg (by omega)]
              clear hdd hpre
              by_cases g : n * 10 + d ≤ 9223372036854775808
              · have e4 : decide (-(n : Int) < -((9223372036854775808 - (d : Int)) / 10)) = false := decide_eq_false (by omega)
                have e5 : ¬ -(n : Int) < -((9223372036854775808 - (d : Int)) / 10) := by omega
                have hw1 := wrap_in (x := -(n : Int) * 10) (by omega)
                have hw2 := wrap_in (x := -(n : Int) * 10 - (d : Int)) (by omega)
                go_wp2_with fail
                go_roundw
                case rel => exact ⟨q + 1, by omega, by omega, by go_num, by (try simp only [Nat.add_sub_cancel]); rw [Hdd2.out, show -(n : Int) * 10 - (d : Int) = -((n * 10 + d : Nat) : Int) by omega], by (try simp only [Nat.add_sub_cancel]); rw [Hdd2.out]; exact g, by first | rfl | trivial⟩
                case measure => simp [intOf]; omega
              · have e4 : decide (-(n : Int) < -((9223372036854775808 - (d : Int)) / 10)) = true := decide_eq_true (by omega)
                have e5 : -(n : Int) < -((9223372036854775808 - (d : Int)) / 10) := by omega
                go_wp2_with fail
                go_ret2
                exact ⟨by rw [HR2.out, if_pos (by have := Hpre2.out; (try simp only [Nat.add_sub_cancel] at this); rw [Hdd2.out] at this; (first | (rw [if_pos trivial]; omega) | (rw [if_neg (by decide)]; omega) | omega))]; rfl, rfl⟩
            · obtain rfl : q = s.size := by omega
              rw [Hfin.out] at hv ⊢
              obtain ⟨V, hV⟩ : ∃ V, V = valL ((byL s).drop 0) := ⟨_, rfl⟩
              rw [← hV] at hv ⊢
              by_cases hVm : V = 9223372036854775808
              · have hR3 : R = (0, 2) := by rw [HR2.out, if_pos (by (first | (rw [if_pos trivial]; omega) | (rw [if_neg (by decide)]; omega) | omega))]
                have e6 : (-(V : Int) == -9223372036854775808) = true := by rw [hVm]; rfl
                subst hR3
                clear HR2 Hfin Hpre Hdd hV hVm
                go_wp2_with fail
                go_ret2
                exact ⟨rfl, rfl⟩
              · have hR3 : R = ((V : Int), 0) := by rw [HR2.out, if_neg (by (first | (rw [if_pos trivial]; omega) | (rw [if_neg (by decide)]; omega) | omega)), hV]; simp
                have e6 : (-(V : Int) == -9223372036854775808) = false := by rw [beq_eq_false_iff_ne]; omega
                have hw3 := wrap_in (x := (V : Int)) (by omega)
                subst hR3
                clear HR2 Hfin Hpre Hdd hV hVm
                go_wp2_with fail
                go_ret2
                exact ⟨by first | rfl | simp_all, rfl⟩

set_option maxHeartbeats 1000000 in
theorem numReads_law (s : ByteArray) (w : World) (htab : Tab w) (hs : s.size ≤ 9223372036854775807) :
    Calls Tryd.prog 3 #[.string s] w fun e w' => e = .returned (.bool true) ∧ Below w.heap.size w w' := by
  have h1 := numRead_any s w hs
  have h2 := refRead_any s w hs
  have haw := numAwake_any w htab
  generalize readL (byL s) = r at *
  obtain ⟨r1, r2⟩ := r
  have e1 : (r1 == r1) = true := by simp
  have e2 : (r2 == r2) = true := by simp
  have H1 := hide h1
  have H2 := hide h2
  have Haw := hide haw
  clear h1 h2 haw
  go_enter Tryd.func3, Tryd.ntmps3
  go_wp2_with (first
    | (go_at_call 8; refine H1.out.mono ?_; rintro e w2 ⟨rfl, rfl⟩)
    | (go_at_call 9; refine H2.out.mono ?_; rintro e w2 ⟨rfl, rfl⟩)
    | (go_at_call 10; refine Haw.out.mono ?_; rintro e w2 ⟨rfl, hb2⟩))
  go_ret
  exact ⟨rfl, hb2⟩
end Go.Proofs.YtkfampdcigiokaaDoor
