/-
  CheckTwins: signs of time are twins, as the law says, where the arguments are not too great for the bound of the Upto form
-/
import Derived.Test.YtmmoidfcfjklaaaGreatCtq10
set_option linter.unusedVariables false
set_option linter.unusedSimpArgs false
namespace Go.Proofs.YtmmoidfcfjklaaaGreat
open Go.ChangeShapes Go.WideShapes Go.ChangeAt Go.RowKit

set_option maxRecDepth 100000 in
theorem checkTwins_lifted (os : Go.Os) (started : os.Started) (H : Type) (enc : TypeId × Value → H) (F : Stop.Interp) :
    ReturnsInHanded {} Tryz.checked os 4 .any ((Rows.OpenSpec.upto Rows.checkTwinsSpec).pre6 enc Tryz.prog Tryz.f4 Rows.checkTwinsUptoRow.domain false) (((Rows.OpenSpec.upto Rows.checkTwinsSpec).at F).post enc Tryz.prog Tryz.f4 false true false false) := by
  refine returnsInHanded_of_cond (C := Tryz.checked) (s := Rows.OpenSpec.upto Rows.checkTwinsSpec) (k := Rows.uptoSmall) rfl Qq started (by kernel_rfl) Tryz.func4
    (OpenSpec.witness (enc := enc) (C := Tryz.checked) (s := Rows.OpenSpec.upto Rows.checkTwinsSpec) (k := Rows.uptoSmall) rfl false ⟨#[], #[.agg #[.slice none 0 0, .slice none 0 0, .slice none 0 0, .slice none 0 0, .slice none 0 0, .slice none 0 0, .slice none 0 0, .slice none 0 0, .slice none 0 0, .slice none 0 0], .slice none 0 0], []⟩ 8 (by kernel_rfl) (by kernel_rfl) (by kernel_rfl)
      (x := ([.agg [.nil, .nil, .nil, .nil, .nil, .nil, .nil, .nil, .nil, .nil], .nil], [], [])) (by kernel_rfl) rfl (by kernel_rfl)) ?_
  intro W base args ds gs before hval0 hW hcnd hk _
  show Calls Tryz.prog 4 args W fun e W' => ∃ v, e = .returned v ∧ Rows.checkTwinsSpec.post enc Tryz.prog Tryz.f4 false true false false W args v W'
  have hval : ∀ (j : Nat) t v, Tryz.f4.params[j]? = some t → args[j]? = some v → Value.okWide Tryz.prog W .any base t v := hval0
  have hW' := hW
  obtain ⟨p, q, hA, hV, _⟩ := hW'
  obtain ⟨hgs, _⟩ := trodVars_none hV
  rw [hgs, List.append_nil] at hk
  have hA' : DataW.TrodAll enc Tryz.prog W 0 (fun _ => true) true Tryz.f4.params.toList args.toList ds p := hA
  rw [Tryz.params4] at hA' hval
  obtain ⟨v0, vs0, d0, ds0, p0, q0, hargs, hds, _, h0, r0⟩ := trodAll_cons hA'
  obtain ⟨v1, vs1, d1, ds1, p1, q1, rfl, rfl, _, h1, r1⟩ := trodAll_cons r0
  obtain ⟨rfl, rfl, _⟩ := trodAll_nil r1
  obtain rfl : args = #[v0, v1] := by cases args; simp_all
  subst hds
  refine F9 (by kernel_rfl) (by kernel_rfl) rfl hW (fun gs' h => by subst h; rfl) ?_
  obtain ⟨fuel_m, hf_m⟩ := h0
  obtain ⟨cs_m, rfl, _⟩ := un Tryz.underlying32 (hval 0 32 _ rfl rfl)
  obtain ⟨V_m, m, rfl, h_m⟩ := Le hf_m
  obtain ⟨A_e_m, c_e_m, ee1_m, ee2_m, ee3_m⟩ := cB h_m.events
  have okI_m : ∀ y ∈ m.inits, aI y := gc h_m.inits fun cs y h2 => dY h2.2
  obtain ⟨fuel_p, hf_p⟩ := h1
  obtain ⟨a_p, n_p, c_p, rfl⟩ := okWide_slice Tryz.underlying33 (hval 1 33 _ rfl rfl)
  obtain ⟨p, h_p⟩ := nL H enc W _ _ _ hf_p
  have ok_p : ∀ y ∈ p, y.ok := gc h_p fun cs y h2 => h2.2
  refine (vW m p ok_p (by omega) (gc h_m.stages fun cs x h2 => h2.2.2) (gc h_m.roles fun cs x h2 => h2.2.2) okI_m (Fq h_m) (sf hf_m h_m hf_p h_p hk).1 (sf hf_m h_m hf_p h_p hk).2.1 (sf hf_m h_m hf_p h_p hk).2.2).calls rfl fun j v av h3 h4 => ?_
  match j with
  | 0 => simp at h3 h4; subst h3; subst h4; exact RC h_m
  | 1 => simp at h3 h4; subst h3; subst h4; exact qe.slice h_p
  | j + 2 => simp at h3

theorem checkTwins_holds : Rows.CheckTwinsUptoSaid :=
  OpenClaim.holds_of_cond 4 Tryz.f4 rfl rfl rfl rfl rfl rfl rfl ⟨rfl, rfl, rfl, rfl, rfl⟩ rfl rfl rfl rfl rfl (by kernel_rfl) Tryz.func4 (by kernel_rfl)
    (of_decide_eq_true (by kernel_rfl)) (by unfold Func.isWrapper; first | (rw [if_pos (by decide +kernel)]; kernel_rfl) | (rw [if_neg (by decide +kernel)]; exact ⟨rfl, rfl⟩))
    (fun os started H enc _ F => checkTwins_lifted os started H enc F)
#print axioms checkTwins_holds
end Go.Proofs.YtmmoidfcfjklaaaGreat
