/-
  NestBoth: for every list and every two numbers the law returns true, and they read as they did. No condition.
-/
import Derived.Test.YtcdeidedcbnhaaaNestOpen
import Derived.Test.YtcdeidedcbnhaaaNestBothSpec
set_option linter.unusedVariables false
set_option linter.unusedSimpArgs false
namespace Go.Proofs.Ytcdeidedcbnhaaa
open Go.ChangeShapes Go.WideShapes Go.ChangeAt Go.RowKit

theorem sumTo_mono (f : Nat → Nat) {n m : Nat} (h : n ≤ m) : sumTo f n ≤ sumTo f m := by
  induction m with
  | zero => have : n = 0 := by omega
            subst this; exact Nat.le_refl _
  | succ m ih =>
    by_cases e : n = m + 1
    · subst e; exact Nat.le_refl _
    · have := ih (by omega)
      simp only [sumTo]; omega
theorem below_facts (l : List Int) (i : Int) : (∀ x ∈ belowL l i, isAt l x) ∧ (belowL l i).length ≤ l.length := by
  unfold belowL
  split
  · exact ⟨fun x hx => fl_at _ _ x hx, fl_len _ _⟩
  · exact ⟨fun x hx => by simp at hx, by simp⟩

set_option maxRecDepth 100000 in
set_option maxHeartbeats 2000000 in
theorem nestBoth_law (l : List Int) (v : Value) (i k : Int) (w : World) (hv : RI w v l) :
    Calls Try.prog 5 #[v, .int .i64 i, .int .i64 k] w fun e w' => e = .returned (.bool true) ∧ Below w.heap.size w w' := by
  obtain ⟨A, c, rfl, hc, hc2⟩ := slice_form hv
  have hll : l.length ≤ 9223372036854775807 := by omega
  by_cases h : l.length ≤ 20
  · have hcir := circle_any l _ w (by omega) hv
    have hcn := circle_none l
    have hall := fun (hn : ∀ k : Nat, k < l.length → ¬ circ l (k : Int)) => all_places hn
    have hbw := both_ways l i k
    generalize circleL l = z at *
    have Hcir := hide hcir
    have Hcn := hide hcn
    have Hall := hide hall
    have Hbw := hide hbw
    clear hcir hcn hall hbw
    by_cases hz : z < 0
    · by_cases hi0 : 0 ≤ i
      · by_cases hi1 : i < (l.length : Int)
        · by_cases hk0 : 0 ≤ k
          · by_cases hk1 : k < (l.length : Int)
            · have Hsum := hide (Hall.out (Hcn.out hz))
              have Hb := hide (Hbw.out ⟨hi0, hi1⟩ ⟨hk0, hk1⟩)
              have hrl : (rootsL l).length ≤ l.length := fl_len _ _
              clear Hall Hbw Hcn
              go_enter Try.func5, Try.ntmps5
              go_upto_region 3 with (go_at_call 21; refine Hcir.out.mono ?_; rintro e w1 ⟨rfl, hb1⟩)
              have hv1 := hv.below hb1
              have hro := roots_any l _ w1 (by omega) hv1
              have Hro := hide hro
              clear hro
              go_wp2_with (go_at_call 23; refine Hro.out.mono ?_; rintro e w2 ⟨v2, rfl, hown2, hb2⟩; obtain ⟨A', c', rfl, hc'⟩ := own_form hown2)
              have hb02 := hb1.trans (hb2.mono hb1.size)
              clear hown2
              go_loopw [7, 8] (fun n r wr => ∃ m : Nat, m ≤ l.length ∧ r = .int .i64 (m : Int) ∧ n = .int .i64 (((rootsL l).length + sumTo (belowCount l) m : Nat) : Int) ∧ Below w.heap.size w wr) (fun n r wr => l.length - (intOf r).toNat)
              case atStart => exact ⟨0, Nat.zero_le _, rfl, rfl, hb02⟩
              case round =>
                obtain ⟨m, hm, rfl, rfl, hbr⟩ := hrel
                have hvr := hv.below hbr
                by_cases hlt : m < l.length
                · have hde := deep_any l _ (m : Int) wr (by omega) hvr
                  have hbf := below_facts l (m : Int)
                  have hbe := fun (w' : World) (h : RI w' (.slice A l.length c) l) => below_any l _ (m : Int) w' (by omega) h
                  have hs1 : sumTo (belowCount l) m ≤ 20 := by
                    have h1 := Hsum.out
                    have h2 := sumTo_mono (belowCount l) (show m ≤ l.length by omega)
                    omega
                  have hs2 : (aboveL l (m : Int)).length = 0 → sumTo (belowCount l) (m + 1) = sumTo (belowCount l) m + (belowL l (m : Int)).length := fun e => by
                    simp only [sumTo, belowCount, e, if_true]
                  have hs3 : ¬ (aboveL l (m : Int)).length = 0 → sumTo (belowCount l) (m + 1) = sumTo (belowCount l) m := fun e => by
                    simp only [sumTo, belowCount, e, if_false]; omega
                  have hbl := hbf.2
                  generalize (aboveL l (m : Int)).length = d at *
                  generalize sumTo (belowCount l) m = s1 at *
                  generalize (rootsL l).length = rn at *
                  have Hde := hide hde
                  have Hbe := hide hbe
                  have Hs2 := hide hs2
                  have Hs3 := hide hs3
                  clear hde hbe hs2 hs3 hbf
                  by_cases hd : d = 0
                  · have h1 : ((d : Int) == 0) = true := by simp [hd]
                    have E := hide (Hs2.out hd)
                    clear hd
                    go_wp2_with (first
                      | (go_at_call 18; refine Hde.out.mono ?_; rintro e w3 ⟨rfl, hb3⟩; have hb03 := hbr.trans (hb3.mono hbr.size))
                      | (go_at_call 19; refine (Hbe.out _ (hv.below hb03)).mono ?_; rintro e w4 ⟨v4, rfl, hown4, hb4⟩; obtain ⟨A', c', rfl, hc'⟩ := own_form hown4))
                    go_roundw
                    case rel => exact ⟨m + 1, by omega, by go_num, by rw [E.out]; go_num, hb03.trans (hb4.mono hb03.size)⟩
                    case measure => simp [intOf]; omega
                  · have h1 : ((d : Int) == 0) = false := by simp; omega
                    have E := hide (Hs3.out hd)
                    clear hd
                    go_wp2_with (go_at_call 18; refine Hde.out.mono ?_; rintro e w3 ⟨rfl, hb3⟩; have hb03 := hbr.trans (hb3.mono hbr.size))
                    go_roundw
                    case rel => exact ⟨m + 1, by omega, by go_num, by rw [E.out]; go_num, hb03⟩
                    case measure => simp [intOf]; omega
                · obtain rfl : m = l.length := by omega
                  rw [Hsum.out]
                  have hnn : ((l.length : Int) == (l.length : Int)) = true := by simp
                  go_wp2_with fail
                  refine (above_any l _ k _ (by omega) hvr).mono ?_
                  rintro e w3 ⟨v3, rfl, hown3, hb3⟩
                  have hr3 := RI.list hown3 (above_at l k) (by omega)
                  have hl3 := above_len l k
                  have hb03 := hbr.trans (hb3.mono hbr.size)
                  go_wp2_with fail
                  refine (lawHas_any _ _ i _ (by omega) hr3).mono ?_
                  rintro e w4 ⟨rfl, rfl⟩
                  go_wp2_with fail
                  refine (below_any l _ i _ (by omega) (hv.below hb03)).mono ?_
                  rintro e w5 ⟨v5, rfl, hown5, hb5⟩
                  have hbf := below_facts l i
                  have hr5 := RI.list hown5 hbf.1 (by omega)
                  have hl5 := hbf.2
                  have hb05 := hb03.trans (hb5.mono hb03.size)
                  go_wp2_with fail
                  refine (lawHas_any _ _ k _ (by omega) hr5).mono ?_
                  rintro e w6 ⟨rfl, rfl⟩
                  have hbb : decide (i ∈ aboveL l k) = decide (k ∈ belowL l i) := decide_eq_decide.2 Hb.out
                  rw [hbb]
                  generalize decide (k ∈ belowL l i) = bb
                  have hbe : (bb == bb) = true := by simp
                  clear hbb hbf
                  go_wp2_with fail
                  refine (above_any l _ i _ (by omega) (hv.below hb05)).mono ?_
                  rintro e w7 ⟨v7, rfl, hown7, hb7⟩
                  have hr7 := RI.list hown7 (above_at l i) (by omega)
                  have hl7 := above_len l i
                  have hb07 := hb05.trans (hb7.mono hb05.size)
                  go_wp2_with fail
                  refine (lawHas_any _ _ i _ (by omega) hr7).mono ?_
                  rintro e w8 ⟨rfl, rfl⟩
                  have hni : decide (i ∈ aboveL l i) = false := by
                    obtain ⟨m, p, hu, _⟩ := up_end l i
                    exact decide_eq_false hu.not
                  rw [hni]
                  go_wp2_with fail
                  refine (nestAwake_any _).mono ?_
                  rintro e w9 ⟨rfl, hb9⟩
                  go_wp2_with fail
                  go_ret
                  exact ⟨rfl, hb07.trans (hb9.mono hb07.size)⟩
            · go_enter Try.func5, Try.ntmps5
              go_wp2_with (first
                | (go_at_call 21; refine Hcir.out.mono ?_; rintro e w1 ⟨rfl, hb1⟩)
                | (go_at_call 14; refine (nestAwake_any _).mono ?_; rintro e w' ⟨rfl, hb⟩))
              go_ret
              exact ⟨rfl, hb1.trans (hb.mono hb1.size)⟩
          · go_enter Try.func5, Try.ntmps5
            go_wp2_with (first
              | (go_at_call 21; refine Hcir.out.mono ?_; rintro e w1 ⟨rfl, hb1⟩)
              | (go_at_call 14; refine (nestAwake_any _).mono ?_; rintro e w' ⟨rfl, hb⟩))
            go_ret
            exact ⟨rfl, hb1.trans (hb.mono hb1.size)⟩
        · go_enter Try.func5, Try.ntmps5
          go_wp2_with (first
            | (go_at_call 21; refine Hcir.out.mono ?_; rintro e w1 ⟨rfl, hb1⟩)
            | (go_at_call 14; refine (nestAwake_any _).mono ?_; rintro e w' ⟨rfl, hb⟩))
          go_ret
          exact ⟨rfl, hb1.trans (hb.mono hb1.size)⟩
      · go_enter Try.func5, Try.ntmps5
        go_wp2_with (first
          | (go_at_call 21; refine Hcir.out.mono ?_; rintro e w1 ⟨rfl, hb1⟩)
          | (go_at_call 14; refine (nestAwake_any _).mono ?_; rintro e w' ⟨rfl, hb⟩))
        go_ret
        exact ⟨rfl, hb1.trans (hb.mono hb1.size)⟩
    · go_enter Try.func5, Try.ntmps5
      go_wp2_with (first
        | (go_at_call 21; refine Hcir.out.mono ?_; rintro e w1 ⟨rfl, hb1⟩)
        | (go_at_call 14; refine (nestAwake_any _).mono ?_; rintro e w' ⟨rfl, hb⟩))
      go_ret
      exact ⟨rfl, hb1.trans (hb.mono hb1.size)⟩
  · go_enter Try.func5, Try.ntmps5
    go_wp2_with (go_at_call 14; refine (nestAwake_any _).mono ?_; rintro e w' ⟨rfl, hb⟩)
    go_ret
    exact ⟨rfl, hb⟩


set_option maxRecDepth 100000 in
theorem nestBoth_lifted (os : Os) (started : os.Started) (H : Type) (enc : TypeId × Value → H) :
    ReturnsInHanded {} Try.checked os 5 .any (Rows.nestBothSpec.pre6 enc Try.prog Try.f5 Rows.nestBothRow.domain false) (Rows.nestBothSpec.post enc Try.prog Try.f5 false true false false) := by
  refine returnsInHanded_of_change (C := Try.checked) lawOwn started (by kernel_rfl) Try.func5
    (ChangeSpec.witness6 (enc := enc) (C := Try.checked) false ⟨#[], #[.slice none 0 0, .int .i64 0, .int .i64 0], []⟩ 8 (by kernel_rfl) (by kernel_rfl) (by kernel_rfl) (by kernel_rfl)) ?_
  intro W base args ds gs before hval0 hW hcnd _
  have hval : ∀ (j : Nat) t v, Try.f5.params[j]? = some t → args[j]? = some v → Value.okWide Try.prog W .any base t v := hval0
  have hW' := hW
  obtain ⟨p, q, hA, _⟩ := hW'
  have hA' : DataW.TrodAll enc Try.prog W 0 (fun _ => true) true Try.f5.params.toList args.toList ds p := hA
  rw [Try.params5] at hA' hval
  obtain ⟨v0, vs0, d0, ds0, p0, q0, hargs, hds, _, h0, r0⟩ := trodAll_cons hA'
  obtain ⟨v1, vs1, d1, ds1, p1, q1, rfl, rfl, _, h1, r1⟩ := trodAll_cons r0
  obtain ⟨v2, vs2, d2, ds2, p2, q2, rfl, rfl, _, h2, r2⟩ := trodAll_cons r1
  obtain ⟨rfl, rfl, _⟩ := trodAll_nil r2
  obtain rfl : args = #[v0, v1, v2] := by cases args; simp_all
  subst hds
  refine law_calls (by kernel_rfl) (by kernel_rfl) rfl hW (fun gs' h => by subst h; rfl) ?_
  obtain ⟨fuel_l, hf_l⟩ := h0
  obtain ⟨a0_l, l0_l, c0_l, rfl⟩ := okWide_slice Try.underlying22 (hval 0 22 _ rfl rfl)
  obtain ⟨l, h_l⟩ := opensInts H enc W _ _ _ hf_l
  obtain ⟨i, rfl, rfl, rfl, wi⟩ := open_int Try.underlying3 (hval 1 3 _ rfl rfl) h1
  obtain ⟨k, rfl, rfl, rfl, wk⟩ := open_int Try.underlying3 (hval 2 3 _ rfl rfl) h2
  exact nestBoth_law l _ i k W h_l

theorem nestBoth_holds : Rows.NestBothSaid :=
  OpenClaim.holds_of_wide 5 Try.f5 rfl rfl rfl rfl rfl rfl rfl ⟨rfl, rfl, rfl, rfl, rfl⟩ rfl rfl rfl rfl rfl (by kernel_rfl) Try.func5 (by kernel_rfl)
    (of_decide_eq_true (by kernel_rfl)) (by unfold Func.isWrapper; first | (rw [if_pos (by decide +kernel)]; kernel_rfl) | (rw [if_neg (by decide +kernel)]; exact ⟨rfl, rfl⟩))
    (fun os started H enc _ => nestBoth_lifted os started H enc)
#print axioms nestBoth_holds
end Go.Proofs.Ytcdeidedcbnhaaa
