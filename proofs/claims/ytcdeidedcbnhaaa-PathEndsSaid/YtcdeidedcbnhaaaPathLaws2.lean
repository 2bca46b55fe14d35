/-
  THE LAW PathEnds.
-/
import Derived.Test.YtcdeidedcbnhaaaPathOpen
import Derived.Test.YtcdeidedcbnhaaaPathEnds
set_option linter.unusedVariables false
set_option linter.unusedSimpArgs false
namespace Go.Proofs.Ytcdeidedcbnhaaa
open Go.RowKit

set_option maxHeartbeats 4000000 in
theorem pathEnds_law (next : List (List Int)) (i : Int) (way : List Int) (vn vw : Value) (w : World) (hln : next.length ≤ 9223372036854775807) (hlw : way.length ≤ 9223372036854775807) (hn : RR w vn next) (hw : RI w vw way) :
    Calls Try.prog 11 #[vn, .int .i64 i, vw] w fun e w' => e = .returned (.bool true) ∧ Below w.heap.size w w' := by
  have hnR := hn
  have hwR := hw
  obtain ⟨A, c, rfl, hc⟩ := hn.form
  obtain ⟨B, cb, rfl, hcb, _⟩ := slice_form hw
  have hgr := great_any next _ w hln hn
  cases hg : greatL next with
  | true =>
    rw [hg] at hgr
    go_enter Try.func11, Try.ntmps11
    go_wp2_with (first
      | (go_at_call 30; refine hgr.mono ?_; rintro e w2 ⟨rfl, rfl⟩)
      | (go_at_call 38; refine (pathAwake_any _).mono ?_; rintro e w2 ⟨rfl, hb2⟩))
    go_ret
    exact ⟨rfl, hb2⟩
  | false =>
    rw [hg] at hgr
    obtain ⟨hl, hr⟩ := great_false hg
    by_cases h1 : way.length ≤ 100
    · have h1' : (way.length : Int) ≤ 100 := by omega
      have hen := fun (W : World) (hW : Below w.heap.size w W) => ends_any next i way _ _ W hln (fun r h => by have := hr r h; omega) hlw (hn.below hW) (hw.below hW)
      obtain ⟨E, hE⟩ : ∃ E, E = endsP next i way := ⟨_, rfl⟩
      rw [← hE] at hen
      have Hr := hide hr
      have HE := hide hE
      have Hen := hide hen
      have Hgr := hide hgr
      clear hr hg hE hen hgr
      have hfin : ∀ (x : Int) (r : Bool), (r = true → 0 ≤ x ∧ x < (next.length : Int) ∧ goP next x.toNat [] = E) → (r = false → E = none) → E.isSome = r ∧ (r = true → numO E = x) ∧ (r = false → numO E = 0) := by
        intro x r h1 h2
        cases r with
        | true =>
          obtain ⟨h3, h4, h5⟩ := h1 rfl
          rw [← h5]
          refine ⟨rfl, fun _ => ?_, fun h => by simp at h⟩
          show ((x.toNat : Nat) : Int) = x
          omega
        | false => rw [h2 rfl]; exact ⟨rfl, fun h => by simp at h, fun _ => rfl⟩
      have Hfin := hide hfin
      clear hfin
      have hgo0 : (0 ≤ i ∧ i < (next.length : Int)) → goP next i.toNat (way.drop 0) = E := fun h => by
        rw [HE.out, List.drop_zero]; unfold endsP; rw [if_pos h]
      have hgo1 : ¬ (0 ≤ i ∧ i < (next.length : Int)) → E = none := fun h => by
        rw [HE.out]; unfold endsP; rw [if_neg h]
      have Hgo0 := hide hgo0
      have Hgo1 := hide hgo1
      clear hgo0 hgo1
      go_enter Try.func11, Try.ntmps11
      go_wp2_with (go_at_call 30; refine Hgr.out.mono ?_; rintro e w2 ⟨rfl, rfl⟩)
      all_goals
        go_loopw [7, 8, 9] (fun u r k wr => ∃ (m : Nat) (x : Int) (b : Bool), m ≤ way.length ∧ k = .int .i64 (m : Int) ∧ u = .int .i64 x ∧ r = .bool b ∧ (b = true → 0 ≤ x ∧ x < (next.length : Int) ∧ goP next x.toNat (way.drop m) = E) ∧ (b = false → E = none) ∧ Below w.heap.size w wr) (fun u r k wr => way.length - (intOf k).toNat)

        case atStart =>
          refine ⟨0, i, _, Nat.zero_le _, rfl, rfl, rfl, fun hb => ?_, fun hb => ?_, Below.refl _ _⟩
          · have h3 : 0 ≤ i ∧ i < (next.length : Int) := by constructor <;> simp_all
            exact ⟨h3.1, h3.2, Hgo0.out h3⟩
          · exact Hgo1.out (fun h3 => by have h4 := h3.1; have h5 := h3.2; simp_all <;> omega)
        case round =>
          obtain ⟨m, x, b, hm, rfl, rfl, rfl, hbt, hbf, hbw⟩ := hrel
          rename World => wr
          have hm' : (m : Int) ≤ (way.length : Int) := by omega
          cases b with
          | false =>
            have hEn : E = none := hbf rfl
            have hen := Hen.out wr hbw
            rw [hEn, show numO none = 0 from rfl, Option.isSome_none] at hen
            clear hbt hbf Hgo0 Hgo1 Hfin HE Hen hEn
            have Hen := hide hen
            clear hen
            go_wp2_with (first
              | (go_at_call 41; refine Hen.out.mono ?_; rintro e w2 ⟨rfl, rfl⟩)
              | (go_at_call 38; refine (pathAwake_any _).mono ?_; rintro e w2 ⟨rfl, hb2⟩))
            go_ret
            exact ⟨rfl, hbw.trans (hb2.mono hbw.size)⟩
          | true =>
            obtain ⟨h0, hxl, hgo⟩ := hbt rfl
            clear hbt hbf Hgo0 Hgo1 Hfin
            obtain ⟨q, rfl⟩ := Int.eq_ofNat_of_zero_le h0
            have hq : q < next.length := by omega
            rw [Int.toNat_natCast] at hgo
            by_cases hlt : m < way.length
            · rw [goP_drop hlt] at hgo
              obtain ⟨b2, o2, rfl, hcell2, hy1, hy2⟩ := (hw.below hbw).at_ hlt
              obtain ⟨b3, o3, A', c', rfl, hcell, hc1, hc2, hri⟩ := (hn.below hbw).at_ hq
              have hrow : (next.getD q []).length ≤ 200 := by rw [List.getD, List.getElem?_eq_getElem hq]; exact Hr.out _ (List.getElem_mem hq)
              have hmi : (m : Int) < (way.length : Int) := by omega
              generalize way.getD m 0 = k at *
              by_cases hk0 : 0 ≤ k
              · obtain ⟨kk, rfl⟩ := Int.eq_ofNat_of_zero_le hk0
                by_cases hkl : kk < (next.getD q []).length
                · obtain ⟨b4, o4, rfl, hcell4, hz1, hz2⟩ := hri.at_ hkl
                  have hki : (kk : Int) < ((next.getD q []).length : Int) := by omega
                  have hnew : ∀ b : Bool, (b = decide (0 ≤ (next.getD q []).getD kk 0 ∧ (next.getD q []).getD kk 0 < (next.length : Int))) → (b = true → 0 ≤ (next.getD q []).getD kk 0 ∧ (next.getD q []).getD kk 0 < (next.length : Int) ∧ goP next ((next.getD q []).getD kk 0).toNat (way.drop (m + 1)) = E) ∧ (b = false → E = none) := by
                    intro b hb
                    subst hb
                    refine ⟨fun h => ?_, fun h => ?_⟩
                    · have h := of_decide_eq_true h
                      obtain ⟨y, hy⟩ := Int.eq_ofNat_of_zero_le h.1
                      have hyn : y < next.length := by omega
                      rw [step_on hkl hy hyn] at hgo
                      refine ⟨h.1, h.2, ?_⟩
                      rw [hy, Int.toNat_natCast]
                      exact hgo
                    · rw [step_off hkl (of_decide_eq_false h)] at hgo
                      exact hgo.symm
                  generalize (next.getD q []).getD kk 0 = y at *
                  obtain ⟨n, hnn⟩ : ∃ n, n = (next.getD q []).length := ⟨_, rfl⟩
                  rw [← hnn] at hcell hc1 hrow hki hkl
                  have Hnew := hide hnew
                  have Hbw := hide hbw
                  clear hnew hbw hgo hri hnn
                  have hk0' : decide (0 ≤ (kk : Int)) = true := decide_eq_true hk0
                  have hki' : decide ((kk : Int) < (n : Int)) = true := decide_eq_true hki
                  clear hk0
                  by_cases hy0 : 0 ≤ y
                  · have hy0' : decide (0 ≤ y) = true := decide_eq_true hy0
                    go_wp2_with fail
                    go_quiet (fail)
                    go_wp2_with fail
                    go_quiet (fail)
                    go_wp2_with fail
                    go_roundw
                    case rel =>
                      obtain ⟨hb1, hb2⟩ := Hnew.out (decide (y < (next.length : Int))) (by by_cases hyl : y < (next.length : Int) <;> simp [hy0, hyl])
                      exact ⟨m + 1, y, _, by omega, by go_num, rfl, rfl, hb1, hb2, below_drewN Hbw.out _⟩
                    case measure => simp [intOf]; omega
                  · have hy0' : decide (0 ≤ y) = false := decide_eq_false hy0
                    go_wp2_with fail
                    go_quiet (fail)
                    go_wp2_with fail
                    go_quiet (fail)
                    go_wp2_with fail
                    go_roundw
                    case rel =>
                      obtain ⟨hb1, hb2⟩ := Hnew.out false (by simp; omega)
                      exact ⟨m + 1, y, _, by omega, by go_num, rfl, rfl, hb1, hb2, below_drewN Hbw.out _⟩
                    case measure => simp [intOf]; omega
                · have hEn : E = none := by rw [← hgo, step_high (by omega)]
                  have hki' : decide ((kk : Int) < ((next.getD q []).length : Int)) = false := decide_eq_false (by omega)
                  have hk0' : decide (0 ≤ (kk : Int)) = true := decide_eq_true hk0
                  have hkn : decide (kk < (next.getD q []).length) = false := decide_eq_false hkl
                  have hkm : (next.getD q []).length ≤ kk := by omega
                  obtain ⟨n, hnn⟩ : ∃ n, n = (next.getD q []).length := ⟨_, rfl⟩
                  rw [← hnn] at hcell hc1 hrow hki' hkn hkm
                  have HEn := hide hEn
                  have Hbw := hide hbw
                  clear hgo hri hnn hEn hbw hkl hk0
                  go_wp2_with fail
                  go_quiet (fail)
                  go_wp2_with fail
                  go_roundw
                  case rel => exact ⟨m + 1, q, _, by omega, by go_num, rfl, rfl, fun h => by simp at h, fun _ => HEn.out, below_drewN Hbw.out _⟩
                  case measure => simp [intOf]; omega
              · have hEn : E = none := by rw [← hgo, step_low hk0]
                have hk0' : decide (0 ≤ k) = false := decide_eq_false hk0
                have HEn := hide hEn
                have Hbw := hide hbw
                clear hgo hri hEn hbw hk0
                go_wp2_with fail
                go_quiet (fail)
                go_wp2_with fail
                go_roundw
                case rel => exact ⟨m + 1, q, _, by omega, by go_num, rfl, rfl, fun h => by simp at h, fun _ => HEn.out, below_drewN Hbw.out _⟩
                case measure => simp [intOf]; omega
            · obtain rfl : m = way.length := by omega
              have hEs : E = some q := by rw [← hgo, List.drop_length]; rfl
              have hen := Hen.out wr hbw
              rw [hEs, show numO (some q) = (q : Int) from rfl, Option.isSome_some] at hen
              clear hgo HE Hen hEs
              have Hen := hide hen
              clear hen
              have hqq : ((q : Int) == (q : Int)) = true := by simp
              go_wp2_with (first
                | (go_at_call 41; refine Hen.out.mono ?_; rintro e w2 ⟨rfl, rfl⟩)
                | (go_at_call 38; refine (pathAwake_any _).mono ?_; rintro e w2 ⟨rfl, hb2⟩))
              go_ret
              exact ⟨rfl, hbw.trans (hb2.mono hbw.size)⟩
    · have h1' : (100 : Int) < (way.length : Int) := by omega
      go_enter Try.func11, Try.ntmps11
      go_wp2_with (first
        | (go_at_call 30; refine hgr.mono ?_; rintro e w2 ⟨rfl, rfl⟩)
        | (go_at_call 38; refine (pathAwake_any _).mono ?_; rintro e w2 ⟨rfl, hb2⟩))
      go_ret
      exact ⟨rfl, hb2⟩
end Go.Proofs.Ytcdeidedcbnhaaa
