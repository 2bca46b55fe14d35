/-
  QuotTrue: in the graph of any model a property holds in a node just if it holds in its class, of the graph that is shrunk
-/
import Derived.Test.YtiaiihjmmfakdaaGreatDoorQtq8
set_option linter.unusedVariables false
set_option linter.unusedSimpArgs false
namespace Go.Proofs.YtiaiihjmmfakdaaGreatDoor
open Go.ChangeShapes Go.WideShapes Go.ChangeAt Go.RowKit

set_option maxRecDepth 100000 in
theorem quotTrue_met (os : Go.Os) (args : Array Value) : laidMetH Tryz.prog Rows.quotTrueRow.laid ((World.doorLaid Tryz.prog 400 os).forCall (fun _ _ => 0) ⟨#[], args, []⟩).memory :=
  laidMetH_of_parts3 (fuel := 8) (laidMet_of_run' 8 (by kernel_rfl) (by kernel_rfl)) (by kernel_rfl) (by kernel_rfl)
set_option maxRecDepth 100000 in
theorem quotTrue_lifted (os : Go.Os) (started : os.Started) (H : Type) (enc : TypeId × Value → H) :
    ReturnsInHanded {} Tryz.checked os 3 .any (fun w args => (Rows.quotTrueSpec.pre enc Tryz.prog Tryz.f3 [] false w args ∧ laidMetH Tryz.prog Rows.quotTrueRow.laid w) ∧ sizedMet enc Tryz.prog Tryz.f3 (OpenSpec.ofChange Rows.quotTrueSpec) false w args) (Rows.quotTrueSpec.post enc Tryz.prog Tryz.f3 false true false false) := by
  refine returnsInHanded_of_change_and (C := Tryz.checked) (X := fun w _ => laidMetH Tryz.prog Rows.quotTrueRow.laid w) (fun _ _ _ hh h => h.of_heap hh) J8 started (by kernel_rfl) Tryz.func3
    (ChangeSpec.witness_shaped (enc := enc) (C := Tryz.checked) (os := os) (X := fun w _ => laidMetH Tryz.prog Rows.quotTrueRow.laid w) false (World.doorLaid Tryz.prog 400 os) #[.agg #[.slice none 0 0, .slice none 0 0, .slice none 0 0, .slice none 0 0, .slice none 0 0, .slice none 0 0, .slice none 0 0, .slice none 0 0, .slice none 0 0, .slice none 0 0], .slice none 0 0] 8 rfl (World.shaped_of_RefB (by kernel_rfl) (by kernel_rfl)) (by kernel_rfl) (by kernel_rfl) (by kernel_rfl) (quotTrue_met os _)) ?_
  intro W base args ds gs before hval0 hW hcnd _ hL _
  have htab := wH hL
  have hval : ∀ (j : Nat) t v, Tryz.f3.params[j]? = some t → args[j]? = some v → Value.okWide Tryz.prog W .any base t v := hval0
  have hW' := hW
  obtain ⟨p, q, hA, _⟩ := hW'
  have hA' : DataW.TrodAll enc Tryz.prog W 0 (fun _ => true) true Tryz.f3.params.toList args.toList ds p := hA
  rw [Tryz.params3] at hA' hval
  obtain ⟨v0, vs0, d0, ds0, p0, q0, hargs, hds, _, h0, r0⟩ := trodAll_cons hA'
  obtain ⟨v1, vs1, d1, ds1, p1, q1, rfl, rfl, _, h1, r1⟩ := trodAll_cons r0
  obtain ⟨rfl, rfl, _⟩ := trodAll_nil r1
  obtain rfl : args = #[v0, v1] := by cases args; simp_all
  subst hds
  refine B4 (by kernel_rfl) (by kernel_rfl) rfl hW (fun gs' h => by subst h; rfl) ?_
  obtain ⟨fuel_m, hf_m⟩ := h0
  obtain ⟨cs_m, rfl, _⟩ := rG Tryz.underlying32 (hval 0 32 _ rfl rfl)
  obtain ⟨V_m, m, rfl, h_m⟩ := E3 hf_m
  obtain ⟨A_e_m, c_e_m, ee1_m, ee2_m, ee3_m⟩ := fX h_m.events
  have okI_m : ∀ y ∈ m.inits, aB y := fe h_m.inits fun cs y h2 => df h2.2
  obtain ⟨fuel_p, hf_p⟩ := h1
  obtain ⟨a_p, n_p, c_p, rfl⟩ := okWide_slice Tryz.underlying33 (hval 1 33 _ rfl rfl)
  obtain ⟨p, h_p⟩ := lK H enc W _ _ _ hf_p
  have ok_p : ∀ y ∈ p, y.ok := fe h_p fun cs y h2 => h2.2
  refine (xN m p ok_p (Cr h_p) (fe h_m.stages fun cs x h2 => h2.2.2) (fe h_m.roles fun cs x h2 => h2.2.2) okI_m (AB h_m)).calls rfl (fun j v av h3 h4 => ?_) (yJ htab)
  match j with
  | 0 => simp at h3 h4; subst h3; subst h4; exact Ji h_m
  | 1 => simp at h3 h4; subst h3; subst h4; exact nD.slice h_p
  | j + 2 => simp at h3

theorem quotTrue_said : Rows.QuotTrueSaid :=
  OpenClaim.holds_of_wide 3 Tryz.f3 rfl rfl rfl rfl rfl rfl rfl ⟨rfl, rfl, rfl, rfl, rfl⟩ rfl rfl rfl rfl rfl (by kernel_rfl) Tryz.func3 (by kernel_rfl)
    (of_decide_eq_true (by kernel_rfl)) (by unfold Func.isWrapper; first | (rw [if_pos (by decide +kernel)]; kernel_rfl) | (rw [if_neg (by decide +kernel)]; exact ⟨rfl, rfl⟩))
    (fun os started H enc _ => quotTrue_lifted os started H enc)
theorem quotTrue_holds : Rows.QuotTrueCardSaid :=
  Claim7.holds_tied_plain_at .later [] [.data, .data, .data] true Rows.quotTrueCard.stood.harness false
    quotTrue_said (fun _ h => by cases h) (by kernel_rfl) (fun _ h => by cases h) quotTrue_row_tie rfl ⟨rfl, rfl⟩ (by kernel_rfl) rfl
    (fun f fn hf hfn => by
      obtain rfl : f = 3 := Option.some.inj ((show Tryz.prog.funcNamed Rows.quotTrueRow.func = some 3 by kernel_rfl).symm.trans hf) |>.symm
      obtain rfl : fn = Tryz.f3 := (Option.some.inj (Tryz.func3.symm.trans hfn)).symm
      exact ⟨by kernel_rfl, fun j t ht => by
        rw [Tryz.params3] at ht
        have hm : t ∈ [32, 33] := by simpa using Array.mem_of_getElem? ht
        have hall : ([32, 33].all fun u => !Tryz.prog.wantsStandIn u) = true := by kernel_rfl
        exact (show Tryz.prog.wantsStandIn t = false by simpa using List.all_eq_true.1 hall t hm)⟩)
    (by kernel_rfl)
#print axioms quotTrue_holds
end Go.Proofs.YtiaiihjmmfakdaaGreatDoor
