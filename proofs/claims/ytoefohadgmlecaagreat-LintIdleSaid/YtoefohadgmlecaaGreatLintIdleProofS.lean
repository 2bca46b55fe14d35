/-
  LintIdle: an idle condition is the same in any two states.
-/
import Derived.Test.YtoefohadgmlecaaGreatLid8
set_option linter.unusedVariables false
set_option linter.unusedSimpArgs false
namespace Go.Proofs.YtoefohadgmlecaaGreat
open Go.ChangeShapes Go.WideShapes Go.ChangeAt Go.RowKit

set_option maxRecDepth 100000 in
theorem lintIdle_lifted (os : Os) (started : os.Started) (H : Type) (enc : TypeId × Value → H) :
    ReturnsInHanded {} Tryz.checked os 3 .any (Rows.lintIdleSpec.pre6 enc Tryz.prog Tryz.f3 Rows.lintIdleRow.domain false) (Rows.lintIdleSpec.post enc Tryz.prog Tryz.f3 false true false false) := by
  refine returnsInHanded_of_change (C := Tryz.checked) lawOwn started (by kernel_rfl) Tryz.func3
    (ChangeSpec.witness6 (enc := enc) (C := Tryz.checked) false ⟨#[], #[.slice none 0 0, .agg #[.slice none 0 0, .int .i64 0, .int .i64 0, .slice none 0 0, .slice none 0 0], .agg #[.slice none 0 0, .int .i64 0, .int .i64 0, .slice none 0 0, .slice none 0 0]], []⟩ 8 (by kernel_rfl) (by kernel_rfl) (by kernel_rfl) (by kernel_rfl)) ?_
  intro W base args ds gs before hval0 hW hcnd _
  have hval : ∀ (j : Nat) t v, Tryz.f3.params[j]? = some t → args[j]? = some v → Value.okWide Tryz.prog W .any base t v := hval0
  have hW' := hW
  obtain ⟨p, q, hA, _⟩ := hW'
  have hA' : DataW.TrodAll enc Tryz.prog W 0 (fun _ => true) true Tryz.f3.params.toList args.toList ds p := hA
  rw [Tryz.params3] at hA' hval
  obtain ⟨v0, vs0, d0, ds0, p0, q0, hargs, hds, _, h0, r0⟩ := trodAll_cons hA'
  obtain ⟨v1, vs1, d1, ds1, p1, q1, rfl, rfl, _, h1, r1⟩ := trodAll_cons r0
  obtain ⟨v2, vs2, d2, ds2, p2, q2, rfl, rfl, _, h2, r2⟩ := trodAll_cons r1
  obtain ⟨rfl, rfl, _⟩ := trodAll_nil r2
  obtain rfl : args = #[v0, v1, v2] := by cases args; simp_all
  subst hds
  refine law_calls (by kernel_rfl) (by kernel_rfl) rfl hW (fun gs' h => by subst h; rfl) ?_
  obtain ⟨fuel_c, hf_c⟩ := h0
  obtain ⟨a_c, n_c, c_c, rfl⟩ := okWide_slice Tryz.underlying22 (hval 0 22 _ rfl rfl)
  obtain ⟨c, h_c⟩ := opensInsts H enc W _ _ _ hf_c
  have ok_c : ∀ y ∈ c, y.ok := slice_all h_c fun cs y h2 => h2.2
  obtain ⟨fuel_s, hf_s⟩ := h1
  obtain ⟨cs_s, rfl, _⟩ := okWide_struct Tryz.underlying26 (hval 1 26 _ rfl rfl)
  obtain ⟨s, vv_s, dv_s, cv_s, h_s⟩ := open_st hf_s
  obtain ⟨fuel_t, hf_t⟩ := h2
  obtain ⟨cs_t, rfl, _⟩ := okWide_struct Tryz.underlying26 (hval 2 26 _ rfl rfl)
  obtain ⟨t, vv_t, dv_t, cv_t, h_t⟩ := open_st hf_t
  refine (lintIdle_A c s t h_s.opn h_s.don h_t.opn h_t.don awake44_A).calls rfl fun j v av h3 h4 => ?_
  match j with
  | 0 => simp at h3 h4; subst h3; subst h4; exact into_inst.slice h_c
  | 1 => simp at h3 h4; subst h3; subst h4; exact rt_st h_s
  | 2 => simp at h3 h4; subst h3; subst h4; exact rt_st h_t
  | j + 3 => simp at h3

theorem lintIdle_holds : Rows.LintIdleSaid :=
  OpenClaim.holds_of_wide 3 Tryz.f3 rfl rfl rfl rfl rfl rfl rfl ⟨rfl, rfl, rfl, rfl, rfl⟩ rfl rfl rfl rfl rfl (by kernel_rfl) Tryz.func3 (by kernel_rfl)
    (of_decide_eq_true (by kernel_rfl)) (by unfold Func.isWrapper; first | (rw [if_pos (by decide +kernel)]; kernel_rfl) | (rw [if_neg (by decide +kernel)]; exact ⟨rfl, rfl⟩))
    (fun os started H enc _ => lintIdle_lifted os started H enc)
#print axioms lintIdle_holds
end Go.Proofs.YtoefohadgmlecaaGreat
