/-
  StepKeeps: for every model, every state and all numbers the law returns true: each move that may be made leads to a state that may be. No condition.
-/
import Derived.Test.YtcindbpnaicemaaSkp16
set_option linter.unusedVariables false
set_option linter.unusedSimpArgs false
namespace Go.Proofs.Ytcindbpnaicemaa
open Go.ChangeShapes Go.WideShapes Go.ChangeAt Go.RowKit

set_option maxRecDepth 100000 in
theorem stepKeeps_lifted (os : Os) (started : os.Started) (H : Type) (enc : TypeId × Value → H) :
    ReturnsInHanded {} Try.checked os 3 .any (Rows.stepKeepsSpec.pre6 enc Try.prog Try.f3 Rows.stepKeepsRow.domain false) (Rows.stepKeepsSpec.post enc Try.prog Try.f3 false true false false) := by
  refine returnsInHanded_of_change (C := Try.checked) lawOwn started (by kernel_rfl) Try.func3
    (ChangeSpec.witness6 (enc := enc) (C := Try.checked) false ⟨#[], #[.agg #[.slice none 0 0, .slice none 0 0, .slice none 0 0, .slice none 0 0, .slice none 0 0, .slice none 0 0, .slice none 0 0, .slice none 0 0, .slice none 0 0, .slice none 0 0], .agg #[.slice none 0 0, .int .i64 0, .int .i64 0, .slice none 0 0, .slice none 0 0], .slice none 0 0], []⟩ 8 (by kernel_rfl) (by kernel_rfl) (by kernel_rfl) (by kernel_rfl)) ?_
  intro W base args ds gs before hval0 hW hcnd _
  have hval : ∀ (j : Nat) t v, Try.f3.params[j]? = some t → args[j]? = some v → Value.okWide Try.prog W .any base t v := hval0
  have hW' := hW
  obtain ⟨p, q, hA, _⟩ := hW'
  have hA' : DataW.TrodAll enc Try.prog W 0 (fun _ => true) true Try.f3.params.toList args.toList ds p := hA
  rw [Try.params3] at hA' hval
  obtain ⟨v0, vs0, d0, ds0, p0, q0, hargs, hds, _, h0, r0⟩ := trodAll_cons hA'
  obtain ⟨v1, vs1, d1, ds1, p1, q1, rfl, rfl, _, h1, r1⟩ := trodAll_cons r0
  obtain ⟨v2, vs2, d2, ds2, p2, q2, rfl, rfl, _, h2, r2⟩ := trodAll_cons r1
  obtain ⟨rfl, rfl, _⟩ := trodAll_nil r2
  obtain rfl : args = #[v0, v1, v2] := by cases args; simp_all
  subst hds
  refine law_calls (by kernel_rfl) (by kernel_rfl) rfl hW (fun gs' h => by subst h; rfl) ?_
  obtain ⟨fuel_m, hf_m⟩ := h0
  obtain ⟨cs_m, rfl, _⟩ := okWide_struct Try.underlying32 (hval 0 32 _ rfl rfl)
  obtain ⟨V_m, m, rfl, h_m⟩ := open_mod hf_m
  obtain ⟨A_e_m, c_e_m, ee1_m, ee2_m, ee3_m⟩ := slice_form h_m.events
  have okI_m : ∀ y ∈ m.inits, ok64 y := slice_all h_m.inits fun cs y h2 => wf_i64 h2.2
  obtain ⟨fuel_s, hf_s⟩ := h1
  obtain ⟨cs_s, rfl, _⟩ := okWide_struct Try.underlying35 (hval 1 35 _ rfl rfl)
  obtain ⟨s, vv_s, dv_s, cv_s, h_s⟩ := open_st hf_s
  obtain ⟨fuel_n, hf_n⟩ := h2
  obtain ⟨a_n, n_n, c_n, rfl⟩ := okWide_slice Try.underlying23 (hval 2 23 _ rfl rfl)
  obtain ⟨n, h_n⟩ := opensI64s H enc W _ _ _ hf_n
  have ok_n : ∀ y ∈ n, ok64 y := slice_all h_n fun cs y h2 => wf_i64 h2.2
  refine (stepKeeps_A m s n (mod_conds h_m) (mod_pars h_m) (slice_all h_m.roles fun cs x h2 => h2.2.2) (slice_all h_m.events fun cs x ⟨cv, _, h2⟩ => h2.2.2.2.1) (st_vals h_s) h_s.opn h_s.don (slice_all h_s.did fun cs x h2 => wf_i64 h2.2) ok_n).calls rfl fun j v av h3 h4 => ?_
  match j with
  | 0 => simp at h3 h4; subst h3; subst h4; exact rt_mod h_m
  | 1 => simp at h3 h4; subst h3; subst h4; exact rt_st h_s
  | 2 => simp at h3 h4; subst h3; subst h4; exact into_int.slice h_n
  | j + 3 => simp at h3

theorem stepKeeps_holds : Rows.StepKeepsSaid :=
  OpenClaim.holds_of_wide 3 Try.f3 rfl rfl rfl rfl rfl rfl rfl ⟨rfl, rfl, rfl, rfl, rfl⟩ rfl rfl rfl rfl rfl (by kernel_rfl) Try.func3 (by kernel_rfl)
    (of_decide_eq_true (by kernel_rfl)) (by unfold Func.isWrapper; first | (rw [if_pos (by decide +kernel)]; kernel_rfl) | (rw [if_neg (by decide +kernel)]; exact ⟨rfl, rfl⟩))
    (fun os started H enc _ => stepKeeps_lifted os started H enc)
#print axioms stepKeeps_holds
end Go.Proofs.Ytcindbpnaicemaa
