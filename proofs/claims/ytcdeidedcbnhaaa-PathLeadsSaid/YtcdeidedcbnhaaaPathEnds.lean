/-
  THE WALK of path.Ends.
-/
import Derived.Test.YtcdeidedcbnhaaaPathSpec
import Derived.Test.YtcdeidedcbnhaaaLabel
set_option linter.unusedVariables false
set_option linter.unusedSimpArgs false
namespace Go.Proofs.Ytcdeidedcbnhaaa
open Go.RowKit

set_option maxHeartbeats 2000000 in
theorem ends_any (next : List (List Int)) (i : Int) (way : List Int) (vn vw : Value) (w : World) (hln : next.length ≤ 9223372036854775807) (hr : ∀ r ∈ next, r.length ≤ 9223372036854775807) (hlw : way.length ≤ 9223372036854775807) (hn : RR w vn next) (hw : RI w vw way) :
    Calls Try.prog 41 #[vn, .int .i64 i, vw] w fun e w' => e = .returned (.tuple #[.int .i64 (numO (endsP next i way)), .bool (endsP next i way).isSome]) ∧ w = w' := by
  obtain ⟨A, c, rfl, hc⟩ := hn.form
  obtain ⟨B, cb, rfl, hcb, _⟩ := slice_form hw
  have hpl := pathPlace_any next _ i w hln hn
  by_cases hp : 0 ≤ i ∧ i < (next.length : Int)
  · obtain ⟨x0, rfl⟩ := Int.eq_ofNat_of_zero_le hp.1
    have hpp : decide (0 ≤ (x0 : Int) ∧ (x0 : Int) < (next.length : Int)) = true := decide_eq_true hp
    rw [hpp] at hpl
    have hE : endsP next (x0 : Int) way = goP next x0 way := by unfold endsP; rw [if_pos hp]; simp
    rw [hE]
    have hx0 : x0 < next.length := by omega
    obtain ⟨E, hEE⟩ : ∃ E, E = goP next x0 way := ⟨_, rfl⟩
    rw [← hEE]
    have HE := hide hEE
    have Hpl := hide hpl
    have Hr := hide hr
    clear hpp hE hEE hpl hp hr
    go_enter Try.func41, Try.ntmps41
    go_wp2_with (go_at_call 54; refine Hpl.out.mono ?_; rintro e w2 ⟨rfl, rfl⟩)
    go_loopw [8, 18] (fun u j wr => ∃ (m : Nat) (x : Nat), m ≤ way.length ∧ j = .int .i64 (m : Int) ∧ u = .int .i64 (x : Int) ∧ x < next.length ∧ goP next x (way.drop m) = E ∧ w = wr) (fun u j wr => way.length - (intOf j).toNat)
    case atStart => exact ⟨0, x0, Nat.zero_le _, rfl, rfl, hx0, by rw [List.drop_zero]; exact HE.out.symm, rfl⟩
    case round =>
      obtain ⟨m, x, hm, rfl, rfl, hx, hgo, rfl⟩ := hrel
      by_cases hlt : m < way.length
      · obtain ⟨b2, o2, rfl, hcell2, hy1, hy2⟩ := hw.at_ hlt
        obtain ⟨b, o, A', c', rfl, hcell, hc1, hc2, hri⟩ := hn.at_ hx
        rw [goP_drop hlt] at hgo
        have hrow : (next.getD x []).length ≤ 9223372036854775807 := by rw [List.getD, List.getElem?_eq_getElem hx]; exact Hr.out _ (List.getElem_mem hx)
        generalize way.getD m 0 = k at *
        by_cases h0 : 0 ≤ k
        · obtain ⟨q, rfl⟩ := Int.eq_ofNat_of_zero_le h0
          by_cases hq : q < (next.getD x []).length
          · have hpl2 := pathPlace_any next _ ((next.getD x []).getD q 0) w hln hn
            obtain ⟨b3, o3, rfl, hcell3, hz1, hz2⟩ := hri.at_ hq
            by_cases hp2 : 0 ≤ (next.getD x []).getD q 0 ∧ (next.getD x []).getD q 0 < (next.length : Int)
            · obtain ⟨y, hy⟩ := Int.eq_ofNat_of_zero_le hp2.1
              have hyn : y < next.length := by omega
              rw [step_on hq hy hyn] at hgo
              rw [decide_eq_true hp2, hy] at hpl2
              rw [hy] at hcell3
              obtain ⟨n, hnn⟩ : ∃ n, n = (next.getD x []).length := ⟨_, rfl⟩
              rw [← hnn] at hcell hc1 hrow hq
              have Hpl2 := hide hpl2
              have Hgo := hide hgo
              clear hpl2 hgo hp2 hy hri hnn
              go_wp2_with (go_at_call 54; refine Hpl2.out.mono ?_; rintro e w2 ⟨rfl, rfl⟩)
              go_roundw
              case rel => exact ⟨m + 1, y, by omega, by go_num, rfl, hyn, Hgo.out, by first | rfl | trivial⟩
              case measure => simp [intOf]; omega
            · rw [step_off hq hp2] at hgo
              rw [decide_eq_false hp2] at hpl2
              have hgo' : E = none := hgo.symm
              subst hgo'
              generalize (next.getD x []).getD q 0 = y at *
              obtain ⟨n, hnn⟩ : ∃ n, n = (next.getD x []).length := ⟨_, rfl⟩
              rw [← hnn] at hcell hc1 hrow hq
              have Hpl2 := hide hpl2
              clear hpl2 hgo hp2 hri hnn
              go_wp2_with (go_at_call 54; refine Hpl2.out.mono ?_; rintro e w2 ⟨rfl, rfl⟩)
              go_ret2
              exact ⟨rfl, rfl⟩
          · rw [step_high (by omega)] at hgo
            have hgo' : E = none := hgo.symm
            subst hgo'
            have hq2 : ((next.getD x []).length : Int) ≤ (q : Int) := by omega
            obtain ⟨n, hnn⟩ : ∃ n, n = (next.getD x []).length := ⟨_, rfl⟩
            rw [← hnn] at hcell hc1 hrow hq hq2
            clear hgo hri hnn
            go_wp2_with fail
            go_ret2
            exact ⟨rfl, rfl⟩
        · rw [step_low h0] at hgo
          have hgo' : E = none := hgo.symm
          subst hgo'
          have hk : k < 0 := by omega
          clear hgo hri
          go_wp2_with fail
          go_ret2
          exact ⟨rfl, rfl⟩
      · obtain rfl : m = way.length := by omega
        have hgo' : E = some x := by rw [← hgo, List.drop_length]; rfl
        subst hgo'
        clear hgo
        go_wp2_with fail
        go_ret2
        exact ⟨rfl, rfl⟩
  · rw [decide_eq_false hp] at hpl
    have hE : endsP next i way = none := by unfold endsP; rw [if_neg hp]
    rw [hE]
    have Hpl := hide hpl
    clear hE hpl hp
    go_enter Try.func41, Try.ntmps41
    go_wp2_with (go_at_call 54; refine Hpl.out.mono ?_; rintro e w2 ⟨rfl, rfl⟩)
    go_ret2
    exact ⟨rfl, rfl⟩

end Go.Proofs.Ytcdeidedcbnhaaa
