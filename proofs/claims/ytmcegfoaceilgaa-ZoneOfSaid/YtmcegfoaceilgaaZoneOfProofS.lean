/-
  ZoneOf: for every values, constants and r the law returns true: the zone is the one of the document, and may be. No condition.
-/
import Derived.Test.YtmcegfoaceilgaaZof9
set_option linter.unusedVariables false
set_option linter.unusedSimpArgs false
namespace Go.Proofs.Ytmcegfoaceilgaa
open Go.ChangeShapes Go.WideShapes Go.ChangeAt Go.RowKit

set_option maxRecDepth 100000 in
theorem zoneOf_lifted (os : Os) (started : os.Started) (H : Type) (enc : TypeId × Value → H) :
    ReturnsInHanded {} Try.checked os 5 .any (Rows.zoneOfSpec.pre6 enc Try.prog Try.f5 Rows.zoneOfRow.domain false) (Rows.zoneOfSpec.post enc Try.prog Try.f5 false true false false) := by
  refine returnsInHanded_of_change (C := Try.checked) lawOwn started (by kernel_rfl) Try.func5
    (ChangeSpec.witness6 (enc := enc) (C := Try.checked) false ⟨#[], #[.slice none 0 0, .slice none 0 0, .int .i64 0], []⟩ 8 (by kernel_rfl) (by kernel_rfl) (by kernel_rfl) (by kernel_rfl)) ?_
  intro W base args ds gs before hval0 hW hcnd _
  have hval : ∀ (j : Nat) t v, Try.f5.params[j]? = some t → args[j]? = some v → Value.okWide Try.prog W .any base t v := hval0
  have hW' := hW
  obtain ⟨p, q, hA, _⟩ := hW'
  have hA' : DataW.TrodAll enc Try.prog W 0 (fun _ => true) true Try.f5.params.toList args.toList ds p := hA
  rw [Try.params5] at hA' hval
  obtain ⟨v0, vs0, d0, ds0, p0, q0, hargs, hds, _, h0, r0⟩ := trodAll_cons hA'
  obtain ⟨v1, vs1, d1, ds1, p1, q1, rfl, rfl, _, h1, r1⟩ := trodAll_cons r0
  obtain ⟨v2, vs2, d2, ds2, p2, q2, rfl, rfl, _, h2, r2⟩ := trodAll_cons r1
  obtain ⟨rfl, rfl, _⟩ := trodAll_nil r2
  obtain rfl : args = #[v0, v1, v2] := by cases args; simp_all
  subst hds
  refine law_calls (by kernel_rfl) (by kernel_rfl) rfl hW (fun gs' h => by subst h; rfl) ?_
  obtain ⟨fuel_v, hf_v⟩ := h0
  obtain ⟨a_v, n_v, c_v, rfl⟩ := okWide_slice Try.underlying26 (hval 0 26 _ rfl rfl)
  obtain ⟨v, h_v⟩ := opensI64s H enc W _ _ _ hf_v
  have ok_v : ∀ y ∈ v, ok64 y := slice_all h_v fun cs y h2 => wf_i64 h2.2
  obtain ⟨fuel_c, hf_c⟩ := h1
  obtain ⟨a_c, n_c, c_c, rfl⟩ := okWide_slice Try.underlying26 (hval 1 26 _ rfl rfl)
  obtain ⟨c, h_c⟩ := opensI64s H enc W _ _ _ hf_c
  have ok_c : ∀ y ∈ c, ok64 y := slice_all h_c fun cs y h2 => wf_i64 h2.2
  obtain ⟨r, rfl, rfl, rfl, ok_r⟩ := open_int Try.underlying3 (hval 2 3 _ rfl rfl) h2
  refine (zoneOf22_A v c r ok_v ok_c).calls rfl fun j v av h3 h4 => ?_
  match j with
  | 0 => simp at h3 h4; subst h3; subst h4; exact into_int.slice h_v
  | 1 => simp at h3 h4; subst h3; subst h4; exact into_int.slice h_c
  | 2 => simp at h3 h4; subst h3; subst h4; exact .c _
  | j + 3 => simp at h3

theorem zoneOf_holds : Rows.ZoneOfSaid :=
  OpenClaim.holds_of_wide 5 Try.f5 rfl rfl rfl rfl rfl rfl rfl ⟨rfl, rfl, rfl, rfl, rfl⟩ rfl rfl rfl rfl rfl (by kernel_rfl) Try.func5 (by kernel_rfl)
    (of_decide_eq_true (by kernel_rfl)) (by unfold Func.isWrapper; first | (rw [if_pos (by decide +kernel)]; kernel_rfl) | (rw [if_neg (by decide +kernel)]; exact ⟨rfl, rfl⟩))
    (fun os started H enc _ => zoneOf_lifted os started H enc)
#print axioms zoneOf_holds
end Go.Proofs.Ytmcegfoaceilgaa
