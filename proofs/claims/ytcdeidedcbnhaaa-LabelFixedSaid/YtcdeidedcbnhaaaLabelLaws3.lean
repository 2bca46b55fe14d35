/-
  LabelFixed: the law's walk.
-/
import Derived.Test.YtcdeidedcbnhaaaLabelLaws2
set_option linter.unusedVariables false
set_option linter.unusedSimpArgs false
namespace Go.Proofs.Ytcdeidedcbnhaaa
open Go.RowKit

set_option maxRecDepth 100000 in
set_option maxHeartbeats 4000000 in
theorem labelFixed_law (next : List (List Int)) (a b : List Bool) (vn va vb : Value) (w : World) (hln : next.length ≤ 9223372036854775807) (hla : a.length ≤ 9223372036854775807) (hlb : b.length ≤ 9223372036854775807) (hn : RR w vn next) (ha : RB w va a) (hbb : RB w vb b) :
    Calls Try.prog 8 #[vn, va, vb] w fun e w' => e = .returned (.bool true) ∧ Below w.heap.size w w' := by
  obtain ⟨A, c, rfl, hc⟩ := hn.form
  obtain ⟨B, cb, rfl, hcb⟩ := ha.form
  obtain ⟨C, cc, rfl, hcc⟩ := hbb.form
  have hgr := great_any next _ w hln hn
  cases hg : greatL next with
  | true =>
    rw [hg] at hgr
    go_enter Try.func8, Try.ntmps8
    go_wp2_with (first
      | (go_at_call 30; refine hgr.mono ?_; rintro e w2 ⟨rfl, rfl⟩)
      | (go_at_call 29; refine (labelAwake_any _).mono ?_; rintro e w2 ⟨rfl, hb2⟩))
    go_ret
    exact ⟨rfl, hb2⟩
  | false =>
    rw [hg] at hgr
    obtain ⟨hl, hr⟩ := great_false hg
    by_cases h1 : a.length ≤ 300
    · by_cases h2 : b.length ≤ 300
      · have Hr := hide hr
        have Hg := hide hg
        have h1' : (a.length : Int) ≤ 300 := by omega
        have h2' : (b.length : Int) ≤ 300 := by omega
        have hul := euL_length next a b
        have hgl := egL_length next a
        have hxl := exL_length next (euL next a b)
        have hyl := exL_length next (egL next a)
        have hfu := eu_fix next a b
        have hfg := eg_fix next a
        clear hr hg
        go_enter Try.func8, Try.ntmps8
        go_wp2_with (go_at_call 30; refine hgr.mono ?_; rintro e w2 ⟨rfl, rfl⟩)
        refine (eu_any next a b _ _ _ _ hl Hr.out (by omega) (by omega) hn ha hbb).mono ?_
        intro e w1 hp1
        obtain ⟨v1, rfl, q1, b1⟩ := hp1.own
        clear hp1
        go_wp2_with fail
        refine (eg_any next a _ _ _ hl Hr.out (by omega) (hn.below b1) (ha.below b1)).mono ?_
        intro e w2 hp2
        obtain ⟨v2, rfl, q2, b2⟩ := hp2.own
        have b02 := b1.trans (b2.mono b1.size)
        clear hp2
        go_wp2_with fail
        refine (ex_any next (euL next a b) _ _ _ (by omega) (fun r h => Nat.le_trans (Hr.out r h) (by omega)) (by omega) (hn.below b02) (q1.below b2)).mono ?_
        intro e w3 hp3
        obtain ⟨v3, rfl, q3, b3⟩ := hp3.own
        have b03 := b02.trans (b3.mono b02.size)
        clear hp3
        go_wp2_with fail
        refine (ex_any next (egL next a) _ _ _ (by omega) (fun r h => Nat.le_trans (Hr.out r h) (by omega)) (by omega) (hn.below b03) (q2.below b3)).mono ?_
        intro e w4 hp4
        obtain ⟨v4, rfl, q4, b4⟩ := hp4.own
        have b04 := b03.trans (b4.mono b03.size)
        clear hp4
        have q1' := ((q1.below b2).below b3).below b4
        have q2' := (q2.below b3).below b4
        have q3' := q3.below b4
        have ha' := ha.below b04
        have hb' := hbb.below b04
        clear q1 q2 q3 b1 b2 b3 b4 b02 b03 ha hbb hn hgr
        generalize exL next (euL next a b) = x at *
        generalize exL next (egL next a) = y at *
        generalize euL next a b = u at *
        generalize egL next a = g at *
        obtain ⟨A1, c1, rfl, hc1⟩ := q1'.form
        obtain ⟨A2, c2, rfl, hc2⟩ := q2'.form
        obtain ⟨A3, c3, rfl, hc3⟩ := q3'.form
        obtain ⟨A4, c4, rfl, hc4⟩ := q4.form
        have Hfu := hide hfu
        have Hfg := hide hfg
        have Q1 := hide q1'
        have Q2 := hide q2'
        have Q3 := hide q3'
        have Q4 := hide q4
        have HA := hide ha'
        have HB := hide hb'
        have B04 := hide b04
        clear hfu hfg q1' q2' q3' q4 ha' hb' b04
        rw [hul, hgl, hxl, hyl]
        rw [hul] at hc1
        rw [hgl] at hc2
        rw [hxl] at hc3
        rw [hyl] at hc4
        rw [hul] at Q1
        rw [hgl] at Q2
        rw [hxl] at Q3
        rw [hyl] at Q4
        have Hul := hide hul
        have Hgl := hide hgl
        have Hxl := hide hxl
        have Hyl := hide hyl
        clear hul hgl hxl hyl
        go_wp2_with fail
        go_loopw [11] (fun i wr => ∃ k : Nat, k ≤ next.length ∧ i = .int .i64 (k : Int) ∧ Below w4.heap.size w4 wr) (fun i wr => next.length - (intOf i).toNat)
        case atStart => exact ⟨0, Nat.zero_le _, rfl, Below.refl _ _⟩
        case round =>
          obtain ⟨k, hk, rfl, hbd⟩ := hrel
          rename World => wr
          by_cases hlt : k < next.length
          · obtain ⟨g1, o1, rfl, hcell1⟩ := (Q1.out.below hbd).at_ (k := k) (by have := Hul.out; omega)
            obtain ⟨g2, o2, rfl, hcell2⟩ := (Q2.out.below hbd).at_ (k := k) (by have := Hgl.out; omega)
            obtain ⟨g3, o3, rfl, hcell3⟩ := (Q3.out.below hbd).at_ (k := k) (by have := Hxl.out; omega)
            obtain ⟨g4, o4, rfl, hcell4⟩ := (Q4.out.below hbd).at_ (k := k) (by have := Hyl.out; omega)
            rw [Hfu.out k hlt] at hcell1
            rw [Hfg.out k hlt] at hcell2
            have h1 := fun m => refIs_any a _ (k : Int) (wr.drewN m) (by omega) (HA.out.below (below_drewN hbd m))
            have h2 := fun m => refIs_any b _ (k : Int) (wr.drewN m) (by omega) (HB.out.below (below_drewN hbd m))
            rw [isB_nat] at h1 h2
            have hi : (k : Int) < (next.length : Int) := by omega
            generalize x.getD k false = xk at *
            generalize y.getD k false = yk at *
            generalize a.getD k false = p at *
            generalize b.getD k false = q at *
            have H1 := hide h1
            have H2 := hide h2
            clear h1 h2
            have hxx : (xk != xk) = false := by simp
            have hyy : (yk != yk) = false := by simp
            have hff : (false != false) = false := rfl
            have htt : (true != true) = false := rfl
            cases q <;> cases p <;> simp only [Bool.true_and, Bool.false_and, Bool.or_false, Bool.or_true, Bool.false_or, Bool.true_or] at hcell1 hcell2
            all_goals
              go_wp2_with fail
              go_quiet (first
                | (go_at_call_of 28 (Value.slice B a.length cb); exact quietOf (H1.out _))
                | (go_at_call_of 28 (Value.slice C b.length cc); exact quietOf (H2.out _)))
              go_wp2_with fail
              go_roundw
              case rel => exact ⟨k + 1, by omega, by go_num, below_drewN hbd _⟩
              case measure => simp [intOf]; omega
          · obtain rfl : k = next.length := by omega
            go_wp2_with fail
            refine (labelAwake_any _).mono ?_
            rintro e w10 ⟨rfl, b10⟩
            have b010 := B04.out.trans ((hbd.trans (b10.mono hbd.size)).mono B04.out.size)
            go_wp2_with fail
            go_ret
            exact ⟨rfl, b010⟩
      · have h1' : (a.length : Int) ≤ 300 := by omega
        have h2' : 300 < (b.length : Int) := by omega
        clear hr
        go_enter Try.func8, Try.ntmps8
        go_wp2_with (first
          | (go_at_call 30; refine hgr.mono ?_; rintro e w2 ⟨rfl, rfl⟩)
          | (go_at_call 29; refine (labelAwake_any _).mono ?_; rintro e w2 ⟨rfl, hb2⟩))
        go_ret
        exact ⟨rfl, hb2⟩
    · have h1' : 300 < (a.length : Int) := by omega
      clear hr
      go_enter Try.func8, Try.ntmps8
      go_wp2_with (first
        | (go_at_call 30; refine hgr.mono ?_; rintro e w2 ⟨rfl, rfl⟩)
        | (go_at_call 29; refine (labelAwake_any _).mono ?_; rintro e w2 ⟨rfl, hb2⟩))
      go_ret
      exact ⟨rfl, hb2⟩

end Go.Proofs.Ytcdeidedcbnhaaa
