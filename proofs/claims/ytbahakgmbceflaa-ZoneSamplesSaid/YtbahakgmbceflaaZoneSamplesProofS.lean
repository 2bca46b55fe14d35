/-
  ZoneSamples: a zone that may be is that of its sample.
-/
import Derived.Test.YtbahakgmbceflaaZsm12
set_option linter.unusedVariables false
set_option linter.unusedSimpArgs false
namespace Go.Proofs.Ytbahakgmbceflaa
open Go.ChangeShapes Go.WideShapes Go.ChangeAt Go.RowKit

set_option maxRecDepth 100000 in
theorem zoneSamples_lifted (os : Os) (started : os.Started) (H : Type) (enc : TypeId × Value → H) :
    ReturnsInHanded {} Try.checked os 3 .any (Rows.zoneSamplesSpec.pre6 enc Try.prog Try.f3 Rows.zoneSamplesRow.domain false) (Rows.zoneSamplesSpec.post enc Try.prog Try.f3 false true false false) := by
  refine returnsInHanded_of_change (C := Try.checked) lawOwn started (by kernel_rfl) Try.func3
    (ChangeSpec.witness6 (enc := enc) (C := Try.checked) false ⟨#[], #[.agg #[.slice none 0 0, .slice none 0 0], .slice none 0 0, .agg #[.int .i64 0, .int .i64 0]], []⟩ 8 (by kernel_rfl) (by kernel_rfl) (by kernel_rfl) (by kernel_rfl)) ?_
  intro W base args ds gs before hval0 hW hcnd _
  have hval : ∀ (j : Nat) t v, Try.f3.params[j]? = some t → args[j]? = some v → Value.okWide Try.prog W .any base t v := hval0
  have hW' := hW
  obtain ⟨p, q, hA, _⟩ := hW'
  have hA' : DataW.TrodAll enc Try.prog W 0 (fun _ => true) true Try.f3.params.toList args.toList ds p := hA
  rw [Try.params3] at hA' hval
  obtain ⟨v0, vs0, d0, ds0, p0, q0, hargs, hds, _, h0, r0⟩ := trodAll_cons hA'
  obtain ⟨v1, vs1, d1, ds1, p1, q1, rfl, rfl, _, h1, r1⟩ := trodAll_cons r0
  obtain ⟨v2, vs2, d2, ds2, p2, q2, rfl, rfl, _, h2, r2⟩ := trodAll_cons r1
  obtain ⟨rfl, rfl, _⟩ := trodAll_nil r2
  obtain rfl : args = #[v0, v1, v2] := by cases args; simp_all
  subst hds
  refine law_calls (by kernel_rfl) (by kernel_rfl) rfl hW (fun gs' h => by subst h; rfl) ?_
  obtain ⟨fuel_z, hf_z⟩ := h0
  obtain ⟨cs_z, rfl, _⟩ := okWide_struct Try.underlying25 (hval 0 25 _ rfl rfl)
  obtain ⟨z, h_z⟩ := opensZone H enc W _ _ _ hf_z
  obtain ⟨fuel_c, hf_c⟩ := h1
  obtain ⟨a_c, n_c, c_c, rfl⟩ := okWide_slice Try.underlying26 (hval 1 26 _ rfl rfl)
  obtain ⟨c, h_c⟩ := opensI64s H enc W _ _ _ hf_c
  have ok_c : ∀ y ∈ c, ok64 y := slice_all h_c fun cs y h2 => wf_i64 h2.2
  obtain ⟨fuel_a, hf_a⟩ := h2
  obtain ⟨cs_a, rfl⟩ := okWide_arr Try.underlying27 (hval 2 27 _ rfl rfl)
  obtain ⟨⟨a0, a1⟩, h_a⟩ := opensInts2 H enc W _ _ _ hf_a
  obtain ⟨rfl, ok_a0, ok_a1⟩ := ints2_inv h_a
  refine (zoneSamples_A z c a0 a1 ok_c (fun x hx => (zn_attrs h_z x hx).1)).calls rfl fun j v av h3 h4 => ?_
  match j with
  | 0 => simp at h3 h4; subst h3; subst h4; exact rt_at into_zn h_z
  | 1 => simp at h3 h4; subst h3; subst h4; exact into_int.slice h_c
  | 2 => simp at h3 h4; subst h3; subst h4; exact rt_cells _
  | j + 3 => simp at h3

theorem zoneSamples_holds : Rows.ZoneSamplesSaid :=
  OpenClaim.holds_of_wide 3 Try.f3 rfl rfl rfl rfl rfl rfl rfl ⟨rfl, rfl, rfl, rfl, rfl⟩ rfl rfl rfl rfl rfl (by kernel_rfl) Try.func3 (by kernel_rfl)
    (of_decide_eq_true (by kernel_rfl)) (by unfold Func.isWrapper; first | (rw [if_pos (by decide +kernel)]; kernel_rfl) | (rw [if_neg (by decide +kernel)]; exact ⟨rfl, rfl⟩))
    (fun os started H enc _ => zoneSamples_lifted os started H enc)
#print axioms zoneSamples_holds
end Go.Proofs.Ytbahakgmbceflaa
