/-
  BstepOnce: for every model, state and event the law returns true: what Pass adds to the milestones that are done has its stage closed. No condition.
-/
import Derived.Test.YtpaedlocijgkaaaCD
import Derived.Test.YtpaedlocijgkaaaLaw
set_option linter.unusedVariables false
set_option linter.unusedSimpArgs false
namespace Go.Proofs.Ytpaedlocijgkaaa
open Go.ChangeShapes Go.WideShapes Go.ChangeAt Go.RowKit

set_option maxRecDepth 100000 in
theorem bstepOnce_lifted (os : Os) (started : os.Started) (H : Type) (enc : TypeId × Value → H) :
    ReturnsInHanded {} Try.checked os 6 .any (Rows.bstepOnceSpec.pre6 enc Try.prog Try.f6 Rows.bstepOnceRow.domain false) (Rows.bstepOnceSpec.post enc Try.prog Try.f6 false true false false) := by
  refine returnsInHanded_of_change (C := Try.checked) lawOwn started (by kernel_rfl) Try.func6
    (ChangeSpec.witness6 (enc := enc) (C := Try.checked) false ⟨#[], #[.agg #[.slice none 0 0, .slice none 0 0, .slice none 0 0, .slice none 0 0, .slice none 0 0, .slice none 0 0, .slice none 0 0, .slice none 0 0, .slice none 0 0, .slice none 0 0], .agg #[.slice none 0 0, .int .i64 0, .int .i64 0, .slice none 0 0, .slice none 0 0], .int .i64 0], []⟩ 8 (by kernel_rfl) (by kernel_rfl) (by kernel_rfl) (by kernel_rfl)) ?_
  intro W base args ds gs before hval0 hW hcnd _
  have hval : ∀ (j : Nat) t v, Try.f6.params[j]? = some t → args[j]? = some v → Value.okWide Try.prog W .any base t v := hval0
  have hW' := hW
  obtain ⟨p, q, hA, _⟩ := hW'
  have hA' : DataW.TrodAll enc Try.prog W 0 (fun _ => true) true Try.f6.params.toList args.toList ds p := hA
  rw [Try.params6] at hA' hval
  obtain ⟨v0, vs0, d0, ds0, p0, q0, hargs, hds, _, h0, r0⟩ := trodAll_cons hA'
  obtain ⟨v1, vs1, d1, ds1, p1, q1, rfl, rfl, _, h1, r1⟩ := trodAll_cons r0
  obtain ⟨v2, vs2, d2, ds2, p2, q2, rfl, rfl, _, h2, r2⟩ := trodAll_cons r1
  obtain ⟨rfl, rfl, _⟩ := trodAll_nil r2
  obtain rfl : args = #[v0, v1, v2] := by cases args; simp_all
  subst hds
  refine law_calls (by kernel_rfl) (by kernel_rfl) rfl hW (fun gs' h => by subst h; rfl) ?_
  obtain ⟨fuel_m, hf_m⟩ := h0
  obtain ⟨cs_m, rfl, _⟩ := okWide_struct Try.underlying43 (hval 0 43 _ rfl rfl)
  obtain ⟨V, m, rfl, hm⟩ := open_mod hf_m
  obtain ⟨fuel_s, hf_s⟩ := h1
  obtain ⟨cs_s, rfl, _⟩ := okWide_struct Try.underlying28 (hval 1 28 _ rfl rfl)
  obtain ⟨s, vv, dv, cv, hs⟩ := open_st hf_s
  obtain ⟨ev, rfl, rfl, rfl, wev⟩ := open_int Try.underlying3 (hval 2 3 _ rfl rfl) h2
  refine (once_A m s ev (mod_conds hm) (mod_pars hm) (st_vals hs)).calls rfl fun j v av h3 h4 => ?_
  match j with
  | 0 => simp at h3 h4; subst h3; subst h4; exact rt_mod hm
  | 1 => simp at h3 h4; subst h3; subst h4; exact rt_st hs
  | 2 => simp at h3 h4; subst h3; subst h4; exact .c _
  | j + 3 => simp at h3

theorem bstepOnce_holds : Rows.BstepOnceSaid :=
  OpenClaim.holds_of_wide 6 Try.f6 rfl rfl rfl rfl rfl rfl rfl ⟨rfl, rfl, rfl, rfl, rfl⟩ rfl rfl rfl rfl rfl (by kernel_rfl) Try.func6 (by kernel_rfl)
    (of_decide_eq_true (by kernel_rfl)) (by unfold Func.isWrapper; first | (rw [if_pos (by decide +kernel)]; kernel_rfl) | (rw [if_neg (by decide +kernel)]; exact ⟨rfl, rfl⟩))
    (fun os started H enc _ => bstepOnce_lifted os started H enc)
#print axioms bstepOnce_holds
end Go.Proofs.Ytpaedlocijgkaaa

