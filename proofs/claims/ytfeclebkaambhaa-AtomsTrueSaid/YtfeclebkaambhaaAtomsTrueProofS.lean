/-
  AtomsTrue: for every model, state and instruction the law returns true: what holds in a state holds in its node. No condition.
-/
import Derived.Test.YtfeclebkaambhaaAtt11
set_option linter.unusedVariables false
set_option linter.unusedSimpArgs false
namespace Go.Proofs.Ytfeclebkaambhaa
open Go.ChangeShapes Go.WideShapes Go.ChangeAt Go.RowKit

set_option maxRecDepth 100000 in
theorem atomsTrue_lifted (os : Os) (started : os.Started) (H : Type) (enc : TypeId × Value → H) :
    ReturnsInHanded {} Try.checked os 4 .any (Rows.atomsTrueSpec.pre6 enc Try.prog Try.f4 Rows.atomsTrueRow.domain false) (Rows.atomsTrueSpec.post enc Try.prog Try.f4 false true false false) := by
  refine returnsInHanded_of_change (C := Try.checked) lawOwn started (by kernel_rfl) Try.func4
    (ChangeSpec.witness6 (enc := enc) (C := Try.checked) false ⟨#[], #[.agg #[.slice none 0 0, .slice none 0 0, .slice none 0 0, .slice none 0 0, .slice none 0 0, .slice none 0 0, .slice none 0 0, .slice none 0 0, .slice none 0 0, .slice none 0 0], .agg #[.slice none 0 0, .int .i64 0, .int .i64 0, .slice none 0 0, .slice none 0 0], .agg #[.int .i64 0, .int .i64 0, .int .i64 0, .int .i64 0, .int .i64 0, .int .i64 0, .int .i64 0]], []⟩ 8 (by kernel_rfl) (by kernel_rfl) (by kernel_rfl) (by kernel_rfl)) ?_
  intro W base args ds gs before hval0 hW hcnd _
  have hval : ∀ (j : Nat) t v, Try.f4.params[j]? = some t → args[j]? = some v → Value.okWide Try.prog W .any base t v := hval0
  have hW' := hW
  obtain ⟨p, q, hA, _⟩ := hW'
  have hA' : DataW.TrodAll enc Try.prog W 0 (fun _ => true) true Try.f4.params.toList args.toList ds p := hA
  rw [Try.params4] at hA' hval
  obtain ⟨v0, vs0, d0, ds0, p0, q0, hargs, hds, _, h0, r0⟩ := trodAll_cons hA'
  obtain ⟨v1, vs1, d1, ds1, p1, q1, rfl, rfl, _, h1, r1⟩ := trodAll_cons r0
  obtain ⟨v2, vs2, d2, ds2, p2, q2, rfl, rfl, _, h2, r2⟩ := trodAll_cons r1
  obtain ⟨rfl, rfl, _⟩ := trodAll_nil r2
  obtain rfl : args = #[v0, v1, v2] := by cases args; simp_all
  subst hds
  refine law_calls (by kernel_rfl) (by kernel_rfl) rfl hW (fun gs' h => by subst h; rfl) ?_
  obtain ⟨fuel_m, hf_m⟩ := h0
  obtain ⟨cs_m, rfl, _⟩ := okWide_struct Try.underlying47 (hval 0 47 _ rfl rfl)
  obtain ⟨V, m, rfl, hm⟩ := open_mod hf_m
  obtain ⟨fuel_s, hf_s⟩ := h1
  obtain ⟨cs_s, rfl, _⟩ := okWide_struct Try.underlying26 (hval 1 26 _ rfl rfl)
  obtain ⟨s, vv, dv, cv, hs⟩ := open_st hf_s
  obtain ⟨fuel_x, hf_x⟩ := h2
  obtain ⟨cs_x, rfl, _⟩ := okWide_struct Try.underlying51 (hval 2 51 _ rfl rfl)
  obtain ⟨x, hx⟩ := opensInst H enc W _ _ _ hf_x
  obtain ⟨ex, hxo⟩ := hx
  have ecs : cs_x = (Inst.cells x).toArray := Array.ext' ex
  subst ecs
  obtain ⟨A_e, c_e, ee1, ee2, ee3⟩ := slice_form hm.events
  refine (atomsTrue_A m s x (by omega) (mod_conds hm) hxo (st_vals hs)).calls rfl fun j v av h3 h4 => ?_
  match j with
  | 0 => simp at h3 h4; subst h3; subst h4; exact rt_mod hm
  | 1 => simp at h3 h4; subst h3; subst h4; exact rt_st hs
  | 2 =>
    simp at h3 h4
    subst h3
    subst h4
    refine .agg _ _ rfl fun j u av h1 h2 => ?_
    rw [show eInst x = (Inst.cells x).map .c from rfl, List.getElem?_map] at h2
    have h1' : (Inst.cells x)[j]? = some u := by simpa using h1
    rw [h1'] at h2
    cases h2
    exact .c u
  | j + 3 => simp at h3

theorem atomsTrue_holds : Rows.AtomsTrueSaid :=
  OpenClaim.holds_of_wide 4 Try.f4 rfl rfl rfl rfl rfl rfl rfl ⟨rfl, rfl, rfl, rfl, rfl⟩ rfl rfl rfl rfl rfl (by kernel_rfl) Try.func4 (by kernel_rfl)
    (of_decide_eq_true (by kernel_rfl)) (by unfold Func.isWrapper; first | (rw [if_pos (by decide +kernel)]; kernel_rfl) | (rw [if_neg (by decide +kernel)]; exact ⟨rfl, rfl⟩))
    (fun os started H enc _ => atomsTrue_lifted os started H enc)
#print axioms atomsTrue_holds
end Go.Proofs.Ytfeclebkaambhaa
