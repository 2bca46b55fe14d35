/-
  THE LAW PathLasso.
-/
import Derived.Test.YtcdeidedcbnhaaaPathOpen
import Derived.Test.YtcdeidedcbnhaaaPathLasW
set_option linter.unusedVariables false
set_option linter.unusedSimpArgs false
namespace Go.Proofs.Ytcdeidedcbnhaaa
open Go.RowKit

theorem LRes.rg {next : List (List Int)} {ever : List Bool} {i n : Int} {way : List Int} (hl : next.length ≤ 100) (hr : ∀ r ∈ next, r.length ≤ 200) (hE : Ever next ever) (h : LRes next ever i way n) : way.length ≤ 100 ∧ ∀ x ∈ way, -9223372036854775808 ≤ x ∧ x ≤ 9223372036854775807 := by
  rcases h with ⟨_, rfl, _⟩ | ⟨h1, m, k, h2, rfl, _⟩
  · simp
  · have h0 := isB_lt h1
    have hx : ever.getD i.toNat false = true := by
      have : i = ((i.toNat : Nat) : Int) := by omega
      rw [this, isB_nat] at h1; exact h1
    refine ⟨by rw [lWay_len]; have := h2.2.2.le hE hx; omega, fun x hx2 => ?_⟩
    unfold lWay at hx2
    obtain ⟨j, _, rfl⟩ := List.mem_map.1 hx2
    have := lK_le (x := i.toNat) (ever := ever) (m := 0) hr j
    omega

set_option maxHeartbeats 2000000 in
theorem pathLasso_law (next : List (List Int)) (i : Int) (a : List Bool) (vn va : Value) (w : World) (hln : next.length ≤ 9223372036854775807) (hla : a.length ≤ 9223372036854775807) (hn : RR w vn next) (ha : RB w va a) :
    Calls Try.prog 12 #[vn, .int .i64 i, va] w fun e w' => e = .returned (.bool true) ∧ Below w.heap.size w w' := by
  have hgr := great_any next _ w hln hn
  cases hg : greatL next with
  | true =>
    rw [hg] at hgr
    obtain ⟨A, c, rfl, hc⟩ := hn.form
    obtain ⟨B, cb, rfl, hcb⟩ := ha.form
    go_enter Try.func12, Try.ntmps12
    go_wp2_with (first
      | (go_at_call 30; refine hgr.mono ?_; rintro e w2 ⟨rfl, rfl⟩)
      | (go_at_call 38; refine (pathAwake_any _).mono ?_; rintro e w2 ⟨rfl, hb2⟩))
    go_ret
    exact ⟨rfl, hb2⟩
  | false =>
    rw [hg] at hgr
    obtain ⟨hl, hr⟩ := great_false hg
    have h1 := lasso_any next i a _ _ w hl hr hla hn ha
    have h2 := fun (W : World) (hW : Below w.heap.size w W) => refLasso_any next i a _ _ W hl hr hla (hn.below hW) (ha.below hW)
    have hrg := fun way n h => LRes.rg (i := i) (way := way) (n := n) hl hr (egL_ever next a) h
    obtain ⟨A, c, rfl, hc⟩ := hn.form
    obtain ⟨B, cb, rfl, hcb⟩ := ha.form
    generalize egL next a = ever at *
    obtain ⟨s, hs⟩ : ∃ s, s = isB ever i := ⟨_, rfl⟩
    have Hs := hide hs
    have Hrg := hide hrg
    have H1 := hide h1
    have H2 := hide h2
    have Hgr := hide hgr
    clear hr hg h1 h2 hgr hrg hs
    go_enter Try.func12, Try.ntmps12
    go_wp2_with (go_at_call 30; refine Hgr.out.mono ?_; rintro e w2 ⟨rfl, rfl⟩)
    refine H1.out.mono ?_
    rintro e w1 ⟨v1, way, n, rfl, hres1, hown1, hb1⟩
    rw [← Hs.out]
    have Hres1 := hide hres1
    have Hown1 := hide hown1
    have Hb1 := hide hb1
    clear hres1 hown1 hb1 H1
    go_wp2_with fail
    refine (H2.out w1 Hb1.out).mono ?_
    rintro e w2 ⟨v2, way2, n2, rfl, hres2, hown2, hb2⟩
    rw [← Hs.out]
    obtain ⟨rfl, rfl⟩ := Hres1.out.unique hres2
    obtain ⟨hwl, hwr⟩ := Hrg.out _ _ hres2
    have b02 := Hb1.out.trans (hb2.mono Hb1.out.size)
    have q1 := (RI.own Hown1.out hwr).below hb2
    have q2 := RI.own hown2 hwr
    have hsm := same_ints way way _ _ w2 (by omega) q1 q2
    rw [decide_eq_true rfl] at hsm
    have Hsm := hide hsm
    have B02 := hide b02
    have hss : (s == s) = true := by simp
    have hnn : (n == n) = true := by simp
    clear hsm b02 q1 q2 hown2 hres2 hb2 hwl hwr Hown1 Hres1 Hb1 Hrg Hs H2
    go_wp2_with fail
    refine Hsm.out.mono ?_
    rintro e w3 ⟨rfl, b3⟩
    have b03 := B02.out.trans (b3.mono B02.out.size)
    go_wp2_with fail
    refine (pathAwake_any _).mono ?_
    rintro e w4 ⟨rfl, b4⟩
    go_wp2_with fail
    go_ret
    exact ⟨rfl, b03.trans (b4.mono b03.size)⟩
end Go.Proofs.Ytcdeidedcbnhaaa
