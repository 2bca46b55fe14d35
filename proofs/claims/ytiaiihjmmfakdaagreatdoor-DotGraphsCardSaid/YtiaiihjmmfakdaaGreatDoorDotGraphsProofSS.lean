/-
  DotGraphs: which text the graph of any model has
-/
import Derived.Test.YtiaiihjmmfakdaaGreatDoorDgqq8
set_option linter.unusedVariables false
set_option linter.unusedSimpArgs false
namespace Go.Proofs.YtiaiihjmmfakdaaGreatDoor
open Go.ChangeShapes Go.WideShapes Go.ChangeAt Go.RowKit

set_option maxRecDepth 100000 in
theorem dotGraphs_met (os : Os) (args : Array Value) : laidMetH Tryz.prog Rows.dotGraphsRow.laid ((World.doorLaid Tryz.prog 400 os).forCall (fun _ _ => 0) ⟨#[], args, []⟩).memory :=
  laidMetH_of_parts3 (fuel := 8) (laidMet_of_run' 8 (by kernel_rfl) (by kernel_rfl)) (by kernel_rfl) (by kernel_rfl)
set_option maxRecDepth 100000 in
theorem dotGraphs_lifted (os : Os) (started : os.Started) (H : Type) (enc : TypeId × Value → H) :
    ReturnsInHanded {} Tryz.checked os 4 .any (fun w args => (Rows.dotGraphsSpec.pre enc Tryz.prog Tryz.f4 [] false w args ∧ laidMetH Tryz.prog Rows.dotGraphsRow.laid w) ∧ sizedMet enc Tryz.prog Tryz.f4 (OpenSpec.ofChange Rows.dotGraphsSpec) false w args) (Rows.dotGraphsSpec.post enc Tryz.prog Tryz.f4 false true false false) := by
  refine returnsInHanded_of_change_and (C := Tryz.checked) (X := fun w _ => laidMetH Tryz.prog Rows.dotGraphsRow.laid w) (fun _ _ _ hh h => h.of_heap hh) IB started (by kernel_rfl) Tryz.func4
    (ChangeSpec.witness_shaped (enc := enc) (C := Tryz.checked) (os := os) (X := fun w _ => laidMetH Tryz.prog Rows.dotGraphsRow.laid w) false (World.doorLaid Tryz.prog 400 os) #[.agg #[.slice none 0 0, .slice none 0 0, .slice none 0 0, .slice none 0 0, .slice none 0 0, .slice none 0 0, .slice none 0 0, .slice none 0 0, .slice none 0 0, .slice none 0 0], .slice none 0 0] 8 rfl (World.shaped_of_RefB (by kernel_rfl) (by kernel_rfl)) (by kernel_rfl) (by kernel_rfl) (by kernel_rfl) (dotGraphs_met os _)) ?_
  intro W base args ds gs before hval0 hW hcnd _ hL _
  have htab := uJ hL
  have hval : ∀ (j : Nat) t v, Tryz.f4.params[j]? = some t → args[j]? = some v → Value.okWide Tryz.prog W .any base t v := hval0
  have hW' := hW
  obtain ⟨p, q, hA, _⟩ := hW'
  have hA' : DataW.TrodAll enc Tryz.prog W 0 (fun _ => true) true Tryz.f4.params.toList args.toList ds p := hA
  rw [Tryz.params4] at hA' hval
  obtain ⟨v0, vs0, d0, ds0, p0, q0, hargs, hds, _, h0, r0⟩ := trodAll_cons hA'
  obtain ⟨v1, vs1, d1, ds1, p1, q1, rfl, rfl, _, h1, r1⟩ := trodAll_cons r0
  obtain ⟨rfl, rfl, _⟩ := trodAll_nil r1
  obtain rfl : args = #[v0, v1] := by cases args; simp_all
  subst hds
  refine Ag (by kernel_rfl) (by kernel_rfl) rfl hW (fun gs' h => by subst h; rfl) ?_
  obtain ⟨fuel_m, hf_m⟩ := h0
  obtain ⟨cs_m, rfl, _⟩ := qp Tryz.underlying32 (hval 0 32 _ rfl rfl)
  obtain ⟨V_m, m, rfl, h_m⟩ := DK hf_m
  obtain ⟨A_e_m, c_e_m, ee1_m, ee2_m, ee3_m⟩ := fE h_m.events
  have okI_m : ∀ y ∈ m.inits, aq y := fg h_m.inits fun cs y h2 => cO h2.2
  obtain ⟨fuel_more, hf_more⟩ := h1
  obtain ⟨a_more, n_more, c_more, rfl⟩ := okWide_slice Tryz.underlying23 (hval 1 23 _ rfl rfl)
  obtain ⟨more, h_more⟩ := zI H enc W _ _ _ hf_more
  have ok_more : ∀ y ∈ more, aq y := fg h_more fun cs y h2 => cO h2.2
  refine (t6 m more ok_more (yr h_more) (fg h_m.stages fun cs x h2 => h2.2.2) (fg h_m.roles fun cs x h2 => h2.2.2) okI_m (yC h_m)).calls rfl (fun j v av h3 h4 => ?_) (xo htab)
  match j with
  | 0 => simp at h3 h4; subst h3; subst h4; exact I3 h_m
  | 1 => simp at h3 h4; subst h3; subst h4; exact pH.slice h_more
  | j + 2 => simp at h3

theorem dotGraphs_said : Rows.DotGraphsSaid :=
  OpenClaim.holds_of_wide 4 Tryz.f4 rfl rfl rfl rfl rfl rfl rfl ⟨rfl, rfl, rfl, rfl, rfl⟩ rfl rfl rfl rfl rfl (by kernel_rfl) Tryz.func4 (by kernel_rfl)
    (of_decide_eq_true (by kernel_rfl)) (by unfold Func.isWrapper; first | (rw [if_pos (by decide +kernel)]; kernel_rfl) | (rw [if_neg (by decide +kernel)]; exact ⟨rfl, rfl⟩))
    (fun os started H enc _ => dotGraphs_lifted os started H enc)
theorem dotGraphs_holds : Rows.DotGraphsCardSaid :=
  Claim7.holds_tied_plain_at .later [] [.data, .data, .data] true Rows.dotGraphsCard.stood.harness false
    dotGraphs_said (fun _ h => by cases h) (by kernel_rfl) (fun _ h => by cases h) dotGraphs_row_tie rfl ⟨rfl, rfl⟩ (by kernel_rfl) rfl
    (fun f fn hf hfn => by
      obtain rfl : f = 4 := Option.some.inj ((show Tryz.prog.funcNamed Rows.dotGraphsRow.func = some 4 by kernel_rfl).symm.trans hf) |>.symm
      obtain rfl : fn = Tryz.f4 := (Option.some.inj (Tryz.func4.symm.trans hfn)).symm
      exact ⟨by kernel_rfl, fun j t ht => by
        rw [Tryz.params4] at ht
        have hm : t ∈ [32, 23] := by simpa using Array.mem_of_getElem? ht
        have hall : ([32, 23].all fun u => !Tryz.prog.wantsStandIn u) = true := by kernel_rfl
        exact (show Tryz.prog.wantsStandIn t = false by simpa using List.all_eq_true.1 hall t hm)⟩)
    (by kernel_rfl)
#print axioms dotGraphs_holds
end Go.Proofs.YtiaiihjmmfakdaaGreatDoor
