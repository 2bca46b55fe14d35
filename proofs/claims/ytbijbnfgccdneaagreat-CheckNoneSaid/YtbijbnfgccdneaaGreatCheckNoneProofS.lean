/-
  CheckNone: what is no formula is refused, and of no nodes there is no answer
-/
import Derived.Test.YtbijbnfgccdneaaGreatCno10
set_option linter.unusedVariables false
set_option linter.unusedSimpArgs false
namespace Go.Proofs.YtbijbnfgccdneaaGreat
open Go.ChangeShapes Go.WideShapes Go.ChangeAt Go.RowKit

set_option maxRecDepth 100000 in
theorem checkNone_lifted (os : Os) (started : os.Started) (H : Type) (enc : TypeId × Value → H) :
    ReturnsInHanded {} Tryz.checked os 3 .any (Rows.checkNoneSpec.pre6 enc Tryz.prog Tryz.f3 Rows.checkNoneRow.domain false) (Rows.checkNoneSpec.post enc Tryz.prog Tryz.f3 false true false false) := by
  refine returnsInHanded_of_change (C := Tryz.checked) lawOwn started (by kernel_rfl) Tryz.func3
    (ChangeSpec.witness6 (enc := enc) (C := Tryz.checked) false ⟨#[], #[.agg #[.slice none 0 0, .slice none 0 0, .slice none 0 0, .slice none 0 0, .slice none 0 0, .slice none 0 0, .slice none 0 0, .slice none 0 0, .slice none 0 0, .slice none 0 0], .slice none 0 0], []⟩ 8 (by kernel_rfl) (by kernel_rfl) (by kernel_rfl) (by kernel_rfl)) ?_
  intro W base args ds gs before hval0 hW hcnd _
  have hval : ∀ (j : Nat) t v, Tryz.f3.params[j]? = some t → args[j]? = some v → Value.okWide Tryz.prog W .any base t v := hval0
  have hW' := hW
  obtain ⟨p, q, hA, _⟩ := hW'
  have hA' : DataW.TrodAll enc Tryz.prog W 0 (fun _ => true) true Tryz.f3.params.toList args.toList ds p := hA
  rw [Tryz.params3] at hA' hval
  obtain ⟨v0, vs0, d0, ds0, p0, q0, hargs, hds, _, h0, r0⟩ := trodAll_cons hA'
  obtain ⟨v1, vs1, d1, ds1, p1, q1, rfl, rfl, _, h1, r1⟩ := trodAll_cons r0
  obtain ⟨rfl, rfl, _⟩ := trodAll_nil r1
  obtain rfl : args = #[v0, v1] := by cases args; simp_all
  subst hds
  refine law_calls (by kernel_rfl) (by kernel_rfl) rfl hW (fun gs' h => by subst h; rfl) ?_
  obtain ⟨fuel_m, hf_m⟩ := h0
  obtain ⟨cs_m, rfl, _⟩ := okWide_struct Tryz.underlying32 (hval 0 32 _ rfl rfl)
  obtain ⟨V_m, m, rfl, h_m⟩ := open_mod hf_m
  obtain ⟨A_e_m, c_e_m, ee1_m, ee2_m, ee3_m⟩ := slice_form h_m.events
  have okI_m : ∀ y ∈ m.inits, ok64 y := slice_all h_m.inits fun cs y h2 => wf_i64 h2.2
  obtain ⟨fuel_p, hf_p⟩ := h1
  obtain ⟨a_p, n_p, c_p, rfl⟩ := okWide_slice Tryz.underlying33 (hval 1 33 _ rfl rfl)
  obtain ⟨p, h_p⟩ := opensInsts H enc W _ _ _ hf_p
  have ok_p : ∀ y ∈ p, y.ok := slice_all h_p fun cs y h2 => h2.2
  refine (checkNone_A m p ok_p).calls rfl fun j v av h3 h4 => ?_
  match j with
  | 0 => simp at h3 h4; subst h3; subst h4; exact rt_mod h_m
  | 1 => simp at h3 h4; subst h3; subst h4; exact into_inst.slice h_p
  | j + 2 => simp at h3

theorem checkNone_holds : Rows.CheckNoneSaid :=
  OpenClaim.holds_of_wide 3 Tryz.f3 rfl rfl rfl rfl rfl rfl rfl ⟨rfl, rfl, rfl, rfl, rfl⟩ rfl rfl rfl rfl rfl (by kernel_rfl) Tryz.func3 (by kernel_rfl)
    (of_decide_eq_true (by kernel_rfl)) (by unfold Func.isWrapper; first | (rw [if_pos (by decide +kernel)]; kernel_rfl) | (rw [if_neg (by decide +kernel)]; exact ⟨rfl, rfl⟩))
    (fun os started H enc _ => checkNone_lifted os started H enc)
#print axioms checkNone_holds
end Go.Proofs.YtbijbnfgccdneaaGreat
