/-
  CheckLabels: the labels of chapter 34 are what the document says, and Holds tells of the first node
-/
import Derived.Test.YtmmoidfcfjklaaaGreatClq10
set_option linter.unusedVariables false
set_option linter.unusedSimpArgs false
namespace Go.Proofs.YtmmoidfcfjklaaaGreat
open Go.ChangeShapes Go.WideShapes Go.ChangeAt Go.RowKit

set_option maxRecDepth 100000 in
theorem checkLabels_lifted (os : Go.Os) (started : os.Started) (H : Type) (enc : TypeId × Value → H) (F : Stop.Interp) :
    ReturnsInHanded {} Tryz.checked os 3 .any ((Rows.OpenSpec.upto Rows.checkLabelsSpec).pre6 enc Tryz.prog Tryz.f3 Rows.checkLabelsUptoRow.domain false) (((Rows.OpenSpec.upto Rows.checkLabelsSpec).at F).post enc Tryz.prog Tryz.f3 false true false false) := by
  refine returnsInHanded_of_cond (C := Tryz.checked) (s := Rows.OpenSpec.upto Rows.checkLabelsSpec) (k := Rows.uptoSmall) rfl PU started (by kernel_rfl) Tryz.func3
    (OpenSpec.witness (enc := enc) (C := Tryz.checked) (s := Rows.OpenSpec.upto Rows.checkLabelsSpec) (k := Rows.uptoSmall) rfl false ⟨#[], #[.agg #[.slice none 0 0, .slice none 0 0, .slice none 0 0, .slice none 0 0, .slice none 0 0, .slice none 0 0, .slice none 0 0, .slice none 0 0, .slice none 0 0, .slice none 0 0], .slice none 0 0], []⟩ 8 (by kernel_rfl) (by kernel_rfl) (by kernel_rfl)
      (x := ([.agg [.nil, .nil, .nil, .nil, .nil, .nil, .nil, .nil, .nil, .nil], .nil], [], [])) (by kernel_rfl) rfl (by kernel_rfl)) ?_
  intro W base args ds gs before hval0 hW hcnd hk _
  show Calls Tryz.prog 3 args W fun e W' => ∃ v, e = .returned v ∧ Rows.checkLabelsSpec.post enc Tryz.prog Tryz.f3 false true false false W args v W'
  have hval : ∀ (j : Nat) t v, Tryz.f3.params[j]? = some t → args[j]? = some v → Value.okWide Tryz.prog W .any base t v := hval0
  have hW' := hW
  obtain ⟨p, q, hA, hV, _⟩ := hW'
  obtain ⟨hgs, _⟩ := trodVars_none hV
  rw [hgs, List.append_nil] at hk
  have hA' : DataW.TrodAll enc Tryz.prog W 0 (fun _ => true) true Tryz.f3.params.toList args.toList ds p := hA
  rw [Tryz.params3] at hA' hval
  obtain ⟨v0, vs0, d0, ds0, p0, q0, hargs, hds, _, h0, r0⟩ := trodAll_cons hA'
  obtain ⟨v1, vs1, d1, ds1, p1, q1, rfl, rfl, _, h1, r1⟩ := trodAll_cons r0
  obtain ⟨rfl, rfl, _⟩ := trodAll_nil r1
  obtain rfl : args = #[v0, v1] := by cases args; simp_all
  subst hds
  refine EY (by kernel_rfl) (by kernel_rfl) rfl hW (fun gs' h => by subst h; rfl) ?_
  obtain ⟨fuel_m, hf_m⟩ := h0
  obtain ⟨cs_m, rfl, _⟩ := uY Tryz.underlying32 (hval 0 32 _ rfl rfl)
  obtain ⟨V_m, m, rfl, h_m⟩ := Jh hf_m
  obtain ⟨A_e_m, c_e_m, ee1_m, ee2_m, ee3_m⟩ := dk h_m.events
  have okI_m : ∀ y ∈ m.inits, aF y := f7 h_m.inits fun cs y h2 => dY h2.2
  obtain ⟨fuel_p, hf_p⟩ := h1
  obtain ⟨a_p, n_p, c_p, rfl⟩ := okWide_slice Tryz.underlying33 (hval 1 33 _ rfl rfl)
  obtain ⟨p, h_p⟩ := nB H enc W _ _ _ hf_p
  have ok_p : ∀ y ∈ p, y.ok := f7 h_p fun cs y h2 => h2.2
  refine (uH m p ok_p (by omega) (f7 h_m.stages fun cs x h2 => h2.2.2) (f7 h_m.roles fun cs x h2 => h2.2.2) okI_m (Fh h_m) (t8 hf_m h_m hf_p h_p hk).1 (t8 hf_m h_m hf_p h_p hk).2.1 (t8 hf_m h_m hf_p h_p hk).2.2).calls rfl fun j v av h3 h4 => ?_
  match j with
  | 0 => simp at h3 h4; subst h3; subst h4; exact Qz h_m
  | 1 => simp at h3 h4; subst h3; subst h4; exact pI.slice h_p
  | j + 2 => simp at h3

theorem checkLabels_holds : Rows.CheckLabelsUptoSaid :=
  OpenClaim.holds_of_cond 3 Tryz.f3 rfl rfl rfl rfl rfl rfl rfl ⟨rfl, rfl, rfl, rfl, rfl⟩ rfl rfl rfl rfl rfl (by kernel_rfl) Tryz.func3 (by kernel_rfl)
    (of_decide_eq_true (by kernel_rfl)) (by unfold Func.isWrapper; first | (rw [if_pos (by decide +kernel)]; kernel_rfl) | (rw [if_neg (by decide +kernel)]; exact ⟨rfl, rfl⟩))
    (fun os started H enc _ F => checkLabels_lifted os started H enc F)
#print axioms checkLabels_holds
end Go.Proofs.YtmmoidfcfjklaaaGreat
