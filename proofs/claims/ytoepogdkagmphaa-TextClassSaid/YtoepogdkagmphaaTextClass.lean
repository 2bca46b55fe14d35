/-
  TextClass: for every rune number the law returns true. No condition.
-/
import Derived.Test.YtoepogdkagmphaaTextLaws
set_option linter.unusedVariables false
set_option linter.unusedSimpArgs false
namespace Go.Proofs.Ytoepogdkagmphaa
open Go.ChangeShapes Go.WideShapes Go.ChangeAt Go.RowKit

theorem wf_i32 {n : Int} (h : (Lit.int .i32 n).wf = true) : -2147483648 ≤ n ∧ n ≤ 2147483647 := by
  simpa [Lit.wf, IntKind.min, IntKind.max, IntKind.signed, IntKind.bits] using h
theorem small_any (r : Int) (w : World) : Calls Try.prog 12 #[.int .i32 r] w fun e w' => e = .returned (.bool (decide (97 ≤ r) && decide (r ≤ 122))) ∧ w = w' := by
  by_cases h : 97 ≤ r <;> (go_enter Try.func12, Try.ntmps12; go_wp2; go_ret; exact ⟨by congr 2; simp [h] <;> omega, rfl⟩)
theorem great_any (r : Int) (w : World) : Calls Try.prog 13 #[.int .i32 r] w fun e w' => e = .returned (.bool (decide (65 ≤ r) && decide (r ≤ 90))) ∧ w = w' := by
  by_cases h : 65 ≤ r <;> (go_enter Try.func13, Try.ntmps13; go_wp2; go_ret; exact ⟨by congr 2; simp [h] <;> omega, rfl⟩)
theorem digit_any (r : Int) (w : World) : Calls Try.prog 14 #[.int .i32 r] w fun e w' => e = .returned (.bool (decide (48 ≤ r) && decide (r ≤ 57))) ∧ w = w' := by
  by_cases h : 48 ≤ r <;> (go_enter Try.func14, Try.ntmps14; go_wp2; go_ret; exact ⟨by congr 2; simp [h] <;> omega, rfl⟩)
theorem blank_any (r : Int) (w : World) : Calls Try.prog 15 #[.int .i32 r] w fun e w' => e = .returned (.bool (r == 32 || r == 9 || r == 10 || r == 13)) ∧ w = w' := by
  cases h1 : (r == 32) <;> cases h2 : (r == 9) <;> cases h3 : (r == 10) <;> (go_enter Try.func15, Try.ntmps15; go_wp2; go_ret; exact ⟨by simp_all, rfl⟩)

set_option maxRecDepth 100000 in
set_option maxHeartbeats 1000000 in
theorem textClass_law (r : Int) (w : World) (h0 : -2147483648 ≤ r) (h1 : r ≤ 2147483647) : Calls Try.prog 5 #[.int .i32 r] w fun e w' => e = .returned (.bool true) ∧ Below w.heap.size w w' := by
  go_enter Try.func5, Try.ntmps5
  go_wp2_with (first
    | (go_at_call 12; refine (small_any _ _).mono ?_; rintro e w' ⟨rfl, rfl⟩)
    | (go_at_call 13; refine (great_any _ _).mono ?_; rintro e w' ⟨rfl, rfl⟩)
    | (go_at_call 14; refine (digit_any _ _).mono ?_; rintro e w' ⟨rfl, rfl⟩)
    | (go_at_call 15; refine (blank_any _ _).mono ?_; rintro e w' ⟨rfl, rfl⟩)
    | (go_at_call 8; refine (awake_any _).mono ?_; rintro e w4 ⟨rfl, hb4⟩))
  all_goals go_ret
  all_goals first | exact ⟨rfl, by assumption⟩ | skip


set_option maxRecDepth 100000 in
theorem textClass_lifted (os : Os) (started : os.Started) (H : Type) (enc : TypeId × Value → H) :
    ReturnsInHanded {} Try.checked os 5 .any (Rows.textClassSpec.pre6 enc Try.prog Try.f5 Rows.textClassRow.domain false) (Rows.textClassSpec.post enc Try.prog Try.f5 false true false false) := by
  refine returnsInHanded_of_change (C := Try.checked) lawOwn started (by kernel_rfl) Try.func5
    (ChangeSpec.witness6 (enc := enc) (C := Try.checked) false ⟨#[], #[.int .i32 0], []⟩ 8 (by kernel_rfl) (by kernel_rfl) (by kernel_rfl) (by kernel_rfl)) ?_
  intro W base args ds gs before hval0 hW hcnd _
  have hval : ∀ (j : Nat) t v, Try.f5.params[j]? = some t → args[j]? = some v → Value.okWide Try.prog W .any base t v := hval0
  have hW' := hW
  obtain ⟨p, q, hA, _⟩ := hW'
  have hA' : DataW.TrodAll enc Try.prog W 0 (fun _ => true) true Try.f5.params.toList args.toList ds p := hA
  rw [Try.params5] at hA' hval
  obtain ⟨v0, vs0, d0, ds0, p0, q0, hargs, hds, _, h0, r0⟩ := trodAll_cons hA'
  obtain ⟨rfl, rfl, _⟩ := trodAll_nil r0
  obtain rfl : args = #[v0] := by cases args; simp_all
  subst hds
  refine law_calls (by kernel_rfl) (by kernel_rfl) rfl hW (fun gs' h => by subst h; rfl) ?_
  obtain ⟨r, rfl, rfl, rfl, wr⟩ := open_int Try.underlying21 (hval 0 21 _ rfl rfl) h0
  exact textClass_law r W (wf_i32 wr).1 (wf_i32 wr).2

theorem textClass_holds : Rows.TextClassSaid :=
  OpenClaim.holds_of_wide 5 Try.f5 rfl rfl rfl rfl rfl rfl rfl ⟨rfl, rfl, rfl, rfl, rfl⟩ rfl rfl rfl rfl rfl (by kernel_rfl) Try.func5 (by kernel_rfl)
    (of_decide_eq_true (by kernel_rfl)) (by unfold Func.isWrapper; first | (rw [if_pos (by decide +kernel)]; kernel_rfl) | (rw [if_neg (by decide +kernel)]; exact ⟨rfl, rfl⟩))
    (fun os started H enc _ => textClass_lifted os started H enc)
#print axioms textClass_holds

end Go.Proofs.Ytoepogdkagmphaa
