/-
  NodeSamples: each node that may be is that of its sample.
-/
import Derived.Test.YtbahakgmbceflaaGreatNsm17
set_option linter.unusedVariables false
set_option linter.unusedSimpArgs false
namespace Go.Proofs.YtbahakgmbceflaaGreat
open Go.ChangeShapes Go.WideShapes Go.ChangeAt Go.RowKit

set_option maxRecDepth 100000 in
theorem nodeSamples_lifted (os : Os) (started : os.Started) (H : Type) (enc : TypeId × Value → H) :
    ReturnsInHanded {} Tryz.checked os 3 .any (Rows.nodeSamplesSpec.pre6 enc Tryz.prog Tryz.f3 Rows.nodeSamplesRow.domain false) (Rows.nodeSamplesSpec.post enc Tryz.prog Tryz.f3 false true false false) := by
  refine returnsInHanded_of_change (C := Tryz.checked) lawOwn started (by kernel_rfl) Tryz.func3
    (ChangeSpec.witness6 (enc := enc) (C := Tryz.checked) false ⟨#[], #[.agg #[.slice none 0 0, .slice none 0 0, .slice none 0 0, .slice none 0 0, .slice none 0 0, .slice none 0 0, .slice none 0 0, .slice none 0 0, .slice none 0 0, .slice none 0 0], .slice none 0 0, .agg #[.slice none 0 0, .slice none 0 0, .int .i64 0, .int .i64 0, .slice none 0 0, .slice none 0 0]], []⟩ 8 (by kernel_rfl) (by kernel_rfl) (by kernel_rfl) (by kernel_rfl)) ?_
  intro W base args ds gs before hval0 hW hcnd _
  have hval : ∀ (j : Nat) t v, Tryz.f3.params[j]? = some t → args[j]? = some v → Value.okWide Tryz.prog W .any base t v := hval0
  have hW' := hW
  obtain ⟨p, q, hA, _⟩ := hW'
  have hA' : DataW.TrodAll enc Tryz.prog W 0 (fun _ => true) true Tryz.f3.params.toList args.toList ds p := hA
  rw [Tryz.params3] at hA' hval
  obtain ⟨v0, vs0, d0, ds0, p0, q0, hargs, hds, _, h0, r0⟩ := trodAll_cons hA'
  obtain ⟨v1, vs1, d1, ds1, p1, q1, rfl, rfl, _, h1, r1⟩ := trodAll_cons r0
  obtain ⟨v2, vs2, d2, ds2, p2, q2, rfl, rfl, _, h2, r2⟩ := trodAll_cons r1
  obtain ⟨rfl, rfl, _⟩ := trodAll_nil r2
  obtain rfl : args = #[v0, v1, v2] := by cases args; simp_all
  subst hds
  refine law_calls (by kernel_rfl) (by kernel_rfl) rfl hW (fun gs' h => by subst h; rfl) ?_
  obtain ⟨fuel_m, hf_m⟩ := h0
  obtain ⟨cs_m, rfl, _⟩ := okWide_struct Tryz.underlying32 (hval 0 32 _ rfl rfl)
  obtain ⟨V_m, m, rfl, h_m⟩ := open_mod hf_m
  obtain ⟨A_e_m, c_e_m, ee1_m, ee2_m, ee3_m⟩ := slice_form h_m.events
  have okI_m : ∀ y ∈ m.inits, ok64 y := slice_all h_m.inits fun cs y h2 => wf_i64 h2.2
  obtain ⟨fuel_c, hf_c⟩ := h1
  obtain ⟨a_c, n_c, c_c, rfl⟩ := okWide_slice Tryz.underlying23 (hval 1 23 _ rfl rfl)
  obtain ⟨c, h_c⟩ := opensI64s H enc W _ _ _ hf_c
  have ok_c : ∀ y ∈ c, ok64 y := slice_all h_c fun cs y h2 => wf_i64 h2.2
  obtain ⟨fuel_n, hf_n⟩ := h2
  obtain ⟨cs_n, rfl, _⟩ := okWide_struct Tryz.underlying38 (hval 2 38 _ rfl rfl)
  obtain ⟨n, h_n⟩ := opensNd H enc W _ _ _ hf_n
  refine (nodeSamples_A m c n (by omega) (mod_conds h_m) (mod_pars h_m) ok_c (ndB_of h_n).1 (ndB_of h_n).2.1 (ndB_of h_n).2.2.1 (ndB_of h_n).2.2.2).calls rfl fun j v av h3 h4 => ?_
  match j with
  | 0 => simp at h3 h4; subst h3; subst h4; exact rt_mod h_m
  | 1 => simp at h3 h4; subst h3; subst h4; exact into_int.slice h_c
  | 2 => simp at h3 h4; subst h3; subst h4; exact rt_at into_nd h_n
  | j + 3 => simp at h3

theorem nodeSamples_holds : Rows.NodeSamplesSaid :=
  OpenClaim.holds_of_wide 3 Tryz.f3 rfl rfl rfl rfl rfl rfl rfl ⟨rfl, rfl, rfl, rfl, rfl⟩ rfl rfl rfl rfl rfl (by kernel_rfl) Tryz.func3 (by kernel_rfl)
    (of_decide_eq_true (by kernel_rfl)) (by unfold Func.isWrapper; first | (rw [if_pos (by decide +kernel)]; kernel_rfl) | (rw [if_neg (by decide +kernel)]; exact ⟨rfl, rfl⟩))
    (fun os started H enc _ => nodeSamples_lifted os started H enc)
#print axioms nodeSamples_holds
end Go.Proofs.YtbahakgmbceflaaGreat
