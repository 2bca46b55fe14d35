/-
  RunGoes: for every model, all moves and every number the law returns true: a run of the first moves is the beginning of the run of all; each state follows from the one before it. No condition.
-/
import Derived.Test.YtfocnmkbnccilaaGreatRun15
set_option linter.unusedVariables false
set_option linter.unusedSimpArgs false
namespace Go.Proofs.YtfocnmkbnccilaaGreat
open Go.ChangeShapes Go.WideShapes Go.ChangeAt Go.RowKit

set_option maxRecDepth 100000 in
theorem runGoes_lifted (os : Os) (started : os.Started) (H : Type) (enc : TypeId × Value → H) :
    ReturnsInHanded {} Tryz.checked os 4 .any (Rows.runGoesSpec.pre6 enc Tryz.prog Tryz.f4 Rows.runGoesRow.domain false) (Rows.runGoesSpec.post enc Tryz.prog Tryz.f4 false true false false) := by
  refine returnsInHanded_of_change (C := Tryz.checked) lawOwn started (by kernel_rfl) Tryz.func4
    (ChangeSpec.witness6 (enc := enc) (C := Tryz.checked) false ⟨#[], #[.agg #[.slice none 0 0, .slice none 0 0, .slice none 0 0, .slice none 0 0, .slice none 0 0, .slice none 0 0, .slice none 0 0, .slice none 0 0, .slice none 0 0, .slice none 0 0], .slice none 0 0, .int .i64 0], []⟩ 8 (by kernel_rfl) (by kernel_rfl) (by kernel_rfl) (by kernel_rfl)) ?_
  intro W base args ds gs before hval0 hW hcnd _
  have hval : ∀ (j : Nat) t v, Tryz.f4.params[j]? = some t → args[j]? = some v → Value.okWide Tryz.prog W .any base t v := hval0
  have hW' := hW
  obtain ⟨p, q, hA, _⟩ := hW'
  have hA' : DataW.TrodAll enc Tryz.prog W 0 (fun _ => true) true Tryz.f4.params.toList args.toList ds p := hA
  rw [Tryz.params4] at hA' hval
  obtain ⟨v0, vs0, d0, ds0, p0, q0, hargs, hds, _, h0, r0⟩ := trodAll_cons hA'
  obtain ⟨v1, vs1, d1, ds1, p1, q1, rfl, rfl, _, h1, r1⟩ := trodAll_cons r0
  obtain ⟨v2, vs2, d2, ds2, p2, q2, rfl, rfl, _, h2, r2⟩ := trodAll_cons r1
  obtain ⟨rfl, rfl, _⟩ := trodAll_nil r2
  obtain rfl : args = #[v0, v1, v2] := by cases args; simp_all
  subst hds
  refine law_calls (by kernel_rfl) (by kernel_rfl) rfl hW (fun gs' h => by subst h; rfl) ?_
  obtain ⟨fuel_m, hf_m⟩ := h0
  obtain ⟨cs_m, rfl, _⟩ := okWide_struct Tryz.underlying32 (hval 0 32 _ rfl rfl)
  obtain ⟨V, m, rfl, hm⟩ := open_mod hf_m
  obtain ⟨fuel_l, hf_l⟩ := h1
  obtain ⟨a_l, n_l, c_l, rfl⟩ := okWide_slice Tryz.underlying33 (hval 1 33 _ rfl rfl)
  obtain ⟨l, hl⟩ := opensMvs H enc W _ _ _ hf_l
  obtain ⟨at_, rfl, rfl, rfl, wat⟩ := open_int Tryz.underlying3 (hval 2 3 _ rfl rfl) h2
  refine (runGoes_A m l at_ (mod_conds hm) (mod_pars hm) (mod_inits hm) (mod_roles hm) (mod_times hm) (mvs_nums hl)).calls rfl fun j v av h3 h4 => ?_
  match j with
  | 0 => simp at h3 h4; subst h3; subst h4; exact rt_mod hm
  | 1 => simp at h3 h4; subst h3; subst h4; exact into_mv.slice hl
  | 2 => simp at h3 h4; subst h3; subst h4; exact .c _
  | j + 3 => simp at h3

theorem runGoes_holds : Rows.RunGoesSaid :=
  OpenClaim.holds_of_wide 4 Tryz.f4 rfl rfl rfl rfl rfl rfl rfl ⟨rfl, rfl, rfl, rfl, rfl⟩ rfl rfl rfl rfl rfl (by kernel_rfl) Tryz.func4 (by kernel_rfl)
    (of_decide_eq_true (by kernel_rfl)) (by unfold Func.isWrapper; first | (rw [if_pos (by decide +kernel)]; kernel_rfl) | (rw [if_neg (by decide +kernel)]; exact ⟨rfl, rfl⟩))
    (fun os started H enc _ => runGoes_lifted os started H enc)
#print axioms runGoes_holds
end Go.Proofs.YtfocnmkbnccilaaGreat
