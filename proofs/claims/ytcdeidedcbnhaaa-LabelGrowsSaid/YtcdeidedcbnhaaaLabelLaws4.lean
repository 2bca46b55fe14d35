/-
  LabelGrows: the law's walk.
-/
import Derived.Test.YtcdeidedcbnhaaaLabelLaws2
set_option linter.unusedVariables false
set_option linter.unusedSimpArgs false
namespace Go.Proofs.Ytcdeidedcbnhaaa
open Go.RowKit

theorem andL_in {a b : List Bool} (i : Nat) (h : (andL a b).getD i false = true) : a.getD i false = true ∧ b.getD i false = true := by
  rw [andL_at, Bool.and_eq_true] at h; exact h

set_option maxRecDepth 100000 in
set_option maxHeartbeats 4000000 in
theorem labelGrows_law (next : List (List Int)) (a b : List Bool) (vn va vb : Value) (w : World) (hln : next.length ≤ 9223372036854775807) (hla : a.length ≤ 9223372036854775807) (hlb : b.length ≤ 9223372036854775807) (hn : RR w vn next) (ha : RB w va a) (hbb : RB w vb b) :
    Calls Try.prog 9 #[vn, va, vb] w fun e w' => e = .returned (.bool true) ∧ Below w.heap.size w w' := by
  obtain ⟨A, c, rfl, hc⟩ := hn.form
  obtain ⟨B, cb, rfl, hcb⟩ := ha.form
  obtain ⟨C, cc, rfl, hcc⟩ := hbb.form
  have hgr := great_any next _ w hln hn
  cases hg : greatL next with
  | true =>
    rw [hg] at hgr
    go_enter Try.func9, Try.ntmps9
    go_wp2_with (first
      | (go_at_call 30; refine hgr.mono ?_; rintro e w2 ⟨rfl, rfl⟩)
      | (go_at_call 29; refine (labelAwake_any _).mono ?_; rintro e w2 ⟨rfl, hb2⟩))
    go_ret
    exact ⟨rfl, hb2⟩
  | false =>
    rw [hg] at hgr
    obtain ⟨hl, hr⟩ := great_false hg
    by_cases h1 : a.length ≤ 300
    · by_cases h2 : b.length ≤ 300
      · have Hr := hide hr
        have Hg := hide hg
        have h1' : (a.length : Int) ≤ 300 := by omega
        have h2' : (b.length : Int) ≤ 300 := by omega
        have hal : (andL a b).length ≤ 300 := by rw [andL_length]; omega
        have hg1 := fun i h => ex_grows (next := next) (a := andL a b) (b := a) (fun i h => (andL_in i h).1) i h
        have hg2 := fun i h => eu_grows (next := next) (a := a) (b := andL a b) (b' := b) (fun i h => (andL_in i h).2) i h
        have hg3 := fun i h => eg_grows (next := next) (a := andL a b) (b := a) (fun i h => (andL_in i h).1) i h
        have l1 := exL_length next (andL a b)
        have l2 := exL_length next a
        have l3 := euL_length next a (andL a b)
        have l4 := euL_length next a b
        have l5 := egL_length next (andL a b)
        have l6 := egL_length next a
        clear hr hg
        go_enter Try.func9, Try.ntmps9
        go_wp2_with (go_at_call 30; refine hgr.mono ?_; rintro e w2 ⟨rfl, rfl⟩)
        refine (and_any a b _ _ _ (by omega) (by omega) ha hbb).mono ?_
        intro e w0 hp0
        obtain ⟨v0, rfl, q0, b00⟩ := hp0.own
        clear hp0
        go_wp2_with fail
        refine (ex_any next (andL a b) _ _ _ (by omega) (fun r h => Nat.le_trans (Hr.out r h) (by omega)) (by omega) (hn.below b00) q0).mono ?_
        intro e w1 hp1
        obtain ⟨v1, rfl, q1, b1⟩ := hp1.own
        obtain ⟨A1, c1, rfl, hc1⟩ := q1.form
        have b01 := b00.trans (b1.mono b00.size)
        clear hp1
        go_wp2_with fail
        refine (ex_any next a _ _ _ (by omega) (fun r h => Nat.le_trans (Hr.out r h) (by omega)) (by omega) (hn.below b01) (ha.below b01)).mono ?_
        intro e w2 hp2
        obtain ⟨v2, rfl, q2, b2⟩ := hp2.own
        obtain ⟨A2, c2, rfl, hc2⟩ := q2.form
        have b02 := b01.trans (b2.mono b01.size)
        clear hp2
        go_wp2_with fail
        refine (eu_any next a (andL a b) _ _ _ _ hl Hr.out (by omega) (by omega) (hn.below b02) (ha.below b02) ((q0.below b1).below b2)).mono ?_
        intro e w3 hp3
        obtain ⟨v3, rfl, q3, b3⟩ := hp3.own
        obtain ⟨A3, c3, rfl, hc3⟩ := q3.form
        have b03 := b02.trans (b3.mono b02.size)
        clear hp3
        go_wp2_with fail
        refine (eu_any next a b _ _ _ _ hl Hr.out (by omega) (by omega) (hn.below b03) (ha.below b03) (hbb.below b03)).mono ?_
        intro e w4 hp4
        obtain ⟨v4, rfl, q4, b4⟩ := hp4.own
        obtain ⟨A4, c4, rfl, hc4⟩ := q4.form
        have b04 := b03.trans (b4.mono b03.size)
        clear hp4
        go_wp2_with fail
        refine (eg_any next (andL a b) _ _ _ hl Hr.out (by omega) (hn.below b04) ((((q0.below b1).below b2).below b3).below b4)).mono ?_
        intro e w5 hp5
        obtain ⟨v5, rfl, q5, b5⟩ := hp5.own
        obtain ⟨A5, c5, rfl, hc5⟩ := q5.form
        have b05 := b04.trans (b5.mono b04.size)
        clear hp5
        go_wp2_with fail
        refine (eg_any next a _ _ _ hl Hr.out (by omega) (hn.below b05) (ha.below b05)).mono ?_
        intro e w6 hp6
        obtain ⟨v6, rfl, q6, b6⟩ := hp6.own
        obtain ⟨A6, c6, rfl, hc6⟩ := q6.form
        have b06 := b05.trans (b6.mono b05.size)
        clear hp6
        have q1' := ((((q1.below b2).below b3).below b4).below b5).below b6
        have q2' := (((q2.below b3).below b4).below b5).below b6
        have q3' := ((q3.below b4).below b5).below b6
        have q4' := (q4.below b5).below b6
        have q5' := q5.below b6
        clear q0 q1 q2 q3 q4 q5 b00 b1 b2 b3 b4 b5 b6 b01 b02 b03 b04 b05 ha hbb hn hgr
        generalize exL next (andL a b) = p1 at *
        generalize exL next a = p2 at *
        generalize euL next a (andL a b) = p3 at *
        generalize euL next a b = p4 at *
        generalize egL next (andL a b) = p5 at *
        generalize egL next a = p6 at *
        have G1 := hide hg1
        have G2 := hide hg2
        have G3 := hide hg3
        clear hg1 hg2 hg3
        rw [l1] at q1' hc1
        rw [l2] at q2' hc2
        rw [l3] at q3' hc3
        rw [l4] at q4' hc4
        rw [l5] at q5' hc5
        rw [l6] at q6 hc6
        rw [l6]
        have Q1 := hide q1'
        have Q2 := hide q2'
        have Q3 := hide q3'
        have Q4 := hide q4'
        have Q5 := hide q5'
        have Q6 := hide q6
        have B06 := hide b06
        have L1 := hide l1
        have L2 := hide l2
        have L3 := hide l3
        have L4 := hide l4
        have L5 := hide l5
        have L6 := hide l6
        clear q1' q2' q3' q4' q5' q6 b06 l1 l2 l3 l4 l5 l6
        go_wp2_with fail
        obtain ⟨W7, hW7⟩ : ∃ W7, W7 = w6.alloc (.cells #[.slice A1 next.length c1, .slice A2 next.length c2, .slice A3 next.length c3, .slice A4 next.length c4, .slice A5 next.length c5, .slice A6 next.length c6] 43) := ⟨_, rfl⟩
        have hB7 : Blk W7 w6.heap.size 43 #[.slice A1 next.length c1, .slice A2 next.length c2, .slice A3 next.length c3, .slice A4 next.length c4, .slice A5 next.length c5, .slice A6 next.length c6] := by rw [hW7]; exact Blk.new _ _ _
        have hb7 : Below w6.heap.size w6 W7 := by rw [hW7]; exact (Below.refl _ _).alloc (Nat.le_refl _) _
        have hall : ∀ k, k < 3 → ∃ Ap cp p Aq cq q, W7.cell? ⟨w6.heap.size, k * 2, none⟩ = some (.slice Ap next.length cp) ∧ W7.cell? ⟨w6.heap.size, k * 2 + 1, none⟩ = some (.slice Aq next.length cq) ∧ RB W7 (.slice Ap next.length cp) p ∧ RB W7 (.slice Aq next.length cq) q ∧ p.length = next.length ∧ q.length = next.length ∧ next.length ≤ cp ∧ next.length ≤ cq ∧ (∀ i, p.getD i false = true → q.getD i false = true) := by
          intro k hk
          match k, hk with
          | 0, _ => exact ⟨A1, c1, p1, A2, c2, p2, by rw [hB7.cell]; rfl, by rw [hB7.cell]; rfl, Q1.out.below hb7, Q2.out.below hb7, L1.out, L2.out, hc1, hc2, G1.out⟩
          | 1, _ => exact ⟨A3, c3, p3, A4, c4, p4, by rw [hB7.cell]; rfl, by rw [hB7.cell]; rfl, Q3.out.below hb7, Q4.out.below hb7, L3.out, L4.out, hc3, hc4, G2.out⟩
          | 2, _ => exact ⟨A5, c5, p5, A6, c6, p6, by rw [hB7.cell]; rfl, by rw [hB7.cell]; rfl, Q5.out.below hb7, Q6.out.below hb7, L5.out, L6.out, hc5, hc6, G3.out⟩
        have hg7 := hB7.lt
        have hb07 := B06.out.trans (hb7.mono B06.out.size)
        have Hall := hide hall
        have B07 := hide hb07
        rw [← hW7]
        clear hall hB7 hb7 hb07 hW7 G1 G2 G3 Q1 Q2 Q3 Q4 Q5 Q6 L1 L2 L3 L4 L5 L6 B06 hc1 hc2 hc3 hc4 hc5 hc6 Hr Hg h1 h2 hal
        go_loopw [9] (fun i wr => ∃ k : Nat, k ≤ 3 ∧ i = .int .i64 (k : Int) ∧ Below W7.heap.size W7 wr) (fun i wr => 3 - (intOf i).toNat)
        case atStart => exact ⟨0, Nat.zero_le _, rfl, Below.refl _ _⟩
        case round =>
          obtain ⟨k, hk, rfl, hbd⟩ := hrel
          rename World => wr
          by_cases hlt : k < 3
          · obtain ⟨Ap, cp, p, Aq, cq, q, e1, e2, e3, e4, e5, e6, e7, e8, e9⟩ := Hall.out k hlt
            have hi : (k : Int) < 3 := by omega
            have d1 := (hbd.cell (p := ⟨w6.heap.size, k * 2, none⟩) hg7).trans e1
            have d2 := (hbd.cell (p := ⟨w6.heap.size, k * 2 + 1, none⟩) hg7).trans e2
            have E3 := hide e3
            have E4 := hide e4
            have E5 := hide e5
            have E6 := hide e6
            have E9 := hide e9
            clear e3 e4 e5 e6 e9
            go_wp2_with fail
            go_loopw [10] (fun i wx => ∃ j : Nat, j ≤ next.length ∧ i = .int .i64 (j : Int) ∧ Below W7.heap.size W7 wx) (fun i wr => next.length - (intOf i).toNat)
            case atStart => exact ⟨0, Nat.zero_le _, rfl, hbd⟩
            case round =>
              obtain ⟨j, hj, rfl, hbx⟩ := hrel
              rename World => wx
              have d1 := (hbx.cell (p := ⟨w6.heap.size, k * 2, none⟩) hg7).trans e1
              have d2 := (hbx.cell (p := ⟨w6.heap.size, k * 2 + 1, none⟩) hg7).trans e2
              by_cases hjlt : j < next.length
              · obtain ⟨g1, o1, rfl, f1⟩ := (E3.out.below hbx).at_ (k := j) (by have := E5.out; omega)
                obtain ⟨g2, o2, rfl, f2⟩ := (E4.out.below hbx).at_ (k := j) (by have := E6.out; omega)
                have hpq := E9.out j
                generalize p.getD j false = x at *
                generalize q.getD j false = y at *
                cases x with
                | false =>
                  go_wp2_with fail
                  go_roundw
                  case rel => exact ⟨j + 1, by omega, by go_num, hbx⟩
                  case measure => simp [intOf]; omega
                | true =>
                  have hy : y = true := hpq rfl
                  subst hy
                  go_wp2_with fail
                  go_roundw
                  case rel => exact ⟨j + 1, by omega, by go_num, hbx⟩
                  case measure => simp [intOf]; omega
              · obtain rfl : j = next.length := by omega
                go_wp2_with fail
                go_roundw
                case rel => exact ⟨k + 1, by omega, by go_num, hbx⟩
                case measure => simp [intOf]; omega
          · obtain rfl : k = 3 := by omega
            go_wp2_with fail
            refine (labelAwake_any _).mono ?_
            rintro e w10 ⟨rfl, b10⟩
            have b010 := B07.out.trans ((hbd.trans (b10.mono hbd.size)).mono B07.out.size)
            go_wp2_with fail
            go_ret
            exact ⟨rfl, b010⟩
      · have h1' : (a.length : Int) ≤ 300 := by omega
        have h2' : 300 < (b.length : Int) := by omega
        clear hr
        go_enter Try.func9, Try.ntmps9
        go_wp2_with (first
          | (go_at_call 30; refine hgr.mono ?_; rintro e w2 ⟨rfl, rfl⟩)
          | (go_at_call 29; refine (labelAwake_any _).mono ?_; rintro e w2 ⟨rfl, hb2⟩))
        go_ret
        exact ⟨rfl, hb2⟩
    · have h1' : 300 < (a.length : Int) := by omega
      clear hr
      go_enter Try.func9, Try.ntmps9
      go_wp2_with (first
        | (go_at_call 30; refine hgr.mono ?_; rintro e w2 ⟨rfl, rfl⟩)
        | (go_at_call 29; refine (labelAwake_any _).mono ?_; rintro e w2 ⟨rfl, hb2⟩))
      go_ret
      exact ⟨rfl, hb2⟩

end Go.Proofs.Ytcdeidedcbnhaaa
