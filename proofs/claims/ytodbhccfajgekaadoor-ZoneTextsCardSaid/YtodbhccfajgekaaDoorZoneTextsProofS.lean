/-
  ZoneTexts: for every two zones the law returns true: they have one text just if they are the same. The library tables that it reads are as the program text lays them (tied).
-/
import Derived.Test.YtodbhccfajgekaaDoorZtx8
set_option linter.unusedVariables false
set_option linter.unusedSimpArgs false
namespace Go.Proofs.YtodbhccfajgekaaDoor
open Go.ChangeShapes Go.WideShapes Go.ChangeAt Go.RowKit

set_option maxRecDepth 100000 in
theorem zoneTexts_met (os : Os) (args : Array Value) : laidMetH Tryd.prog Rows.zoneTextsRow.laid ((World.doorLaid Tryd.prog 400 os).forCall (fun _ _ => 0) ⟨#[], args, []⟩).memory :=
  laidMetH_of_parts3 (fuel := 8) (laidMet_of_run' 8 (by kernel_rfl) (by kernel_rfl)) (by kernel_rfl) (by kernel_rfl)
set_option maxRecDepth 100000 in
theorem zoneTexts_lifted (os : Os) (started : os.Started) (H : Type) (enc : TypeId × Value → H) :
    ReturnsInHanded {} Tryd.checked os 7 .any (fun w args => (Rows.zoneTextsSpec.pre enc Tryd.prog Tryd.f7 [] false w args ∧ laidMetH Tryd.prog Rows.zoneTextsRow.laid w) ∧ sizedMet enc Tryd.prog Tryd.f7 (OpenSpec.ofChange Rows.zoneTextsSpec) false w args) (Rows.zoneTextsSpec.post enc Tryd.prog Tryd.f7 false true false false) := by
  refine returnsInHanded_of_change_and (C := Tryd.checked) (X := fun w _ => laidMetH Tryd.prog Rows.zoneTextsRow.laid w) (fun _ _ _ hh h => h.of_heap hh) lawOwn started (by kernel_rfl) Tryd.func7
    (ChangeSpec.witness_shaped (enc := enc) (C := Tryd.checked) (os := os) (X := fun w _ => laidMetH Tryd.prog Rows.zoneTextsRow.laid w) false (World.doorLaid Tryd.prog 400 os) #[.agg #[.slice none 0 0, .slice none 0 0], .agg #[.slice none 0 0, .slice none 0 0]] 8 rfl (World.shaped_of_RefB (by kernel_rfl) (by kernel_rfl)) (by kernel_rfl) (by kernel_rfl) (by kernel_rfl) (zoneTexts_met os _)) ?_
  intro W base args ds gs before hval0 hW hcnd _ hL _
  have htab := tab_of_laid hL
  have hval : ∀ (j : Nat) t v, Tryd.f7.params[j]? = some t → args[j]? = some v → Value.okWide Tryd.prog W .any base t v := hval0
  have hW' := hW
  obtain ⟨p, q, hA, _⟩ := hW'
  have hA' : DataW.TrodAll enc Tryd.prog W 0 (fun _ => true) true Tryd.f7.params.toList args.toList ds p := hA
  rw [Tryd.params7] at hA' hval
  obtain ⟨v0, vs0, d0, ds0, p0, q0, hargs, hds, _, h0, r0⟩ := trodAll_cons hA'
  obtain ⟨v1, vs1, d1, ds1, p1, q1, rfl, rfl, _, h1, r1⟩ := trodAll_cons r0
  obtain ⟨rfl, rfl, _⟩ := trodAll_nil r1
  obtain rfl : args = #[v0, v1] := by cases args; simp_all
  subst hds
  refine law_calls (by kernel_rfl) (by kernel_rfl) rfl hW (fun gs' h => by subst h; rfl) ?_
  obtain ⟨fuel_a, hf_a⟩ := h0
  obtain ⟨cs_a, rfl, _⟩ := okWide_struct Tryd.underlying51 (hval 0 51 _ rfl rfl)
  obtain ⟨a, h_a⟩ := opensZone H enc W _ _ _ hf_a
  obtain ⟨fuel_b, hf_b⟩ := h1
  obtain ⟨cs_b, rfl, _⟩ := okWide_struct Tryd.underlying51 (hval 1 51 _ rfl rfl)
  obtain ⟨b, h_b⟩ := opensZone H enc W _ _ _ hf_b
  refine (zoneTexts22_A a b (by obtain ⟨v1, v2, e, k1, k2⟩ := h_a; exact slice_all k1 fun cs y h2 => h2.2) (by obtain ⟨v1, v2, e, k1, k2⟩ := h_a; exact slice_all k2 fun cs y h2 => wf_i64 h2.2) (by obtain ⟨v1, v2, e, k1, k2⟩ := h_b; exact slice_all k1 fun cs y h2 => h2.2) (by obtain ⟨v1, v2, e, k1, k2⟩ := h_b; exact slice_all k2 fun cs y h2 => wf_i64 h2.2)).calls rfl (fun j v av h3 h4 => ?_) (amb_of_tab htab)
  match j with
  | 0 => simp at h3 h4; subst h3; subst h4; exact rt_at into_zn h_a
  | 1 => simp at h3 h4; subst h3; subst h4; exact rt_at into_zn h_b
  | j + 2 => simp at h3

theorem zoneTexts_said : Rows.ZoneTextsSaid :=
  OpenClaim.holds_of_wide 7 Tryd.f7 rfl rfl rfl rfl rfl rfl rfl ⟨rfl, rfl, rfl, rfl, rfl⟩ rfl rfl rfl rfl rfl (by kernel_rfl) Tryd.func7 (by kernel_rfl)
    (of_decide_eq_true (by kernel_rfl)) (by unfold Func.isWrapper; first | (rw [if_pos (by decide +kernel)]; kernel_rfl) | (rw [if_neg (by decide +kernel)]; exact ⟨rfl, rfl⟩))
    (fun os started H enc _ => zoneTexts_lifted os started H enc)
theorem zoneTexts_holds : Rows.ZoneTextsCardSaid :=
  Claim7.holds_tied_plain_at .later [] [.data, .data, .data] true Rows.zoneTextsCard.stood.harness false
    zoneTexts_said (fun _ h => by cases h) (by kernel_rfl) (fun _ h => by cases h) zoneTexts_row_tie rfl ⟨rfl, rfl⟩ (by kernel_rfl) rfl
    (fun f fn hf hfn => by
      obtain rfl : f = 7 := Option.some.inj ((show Tryd.prog.funcNamed Rows.zoneTextsRow.func = some 7 by kernel_rfl).symm.trans hf) |>.symm
      obtain rfl : fn = Tryd.f7 := (Option.some.inj (Tryd.func7.symm.trans hfn)).symm
      exact ⟨by kernel_rfl, fun j t ht => by
        rw [Tryd.params7] at ht
        have hm : t ∈ [51] := by simpa using Array.mem_of_getElem? ht
        have hall : ([51].all fun u => !Tryd.prog.wantsStandIn u) = true := by kernel_rfl
        exact (show Tryd.prog.wantsStandIn t = false by simpa using List.all_eq_true.1 hall t hm)⟩)
    (by kernel_rfl)
#print axioms zoneTexts_holds
end Go.Proofs.YtodbhccfajgekaaDoor
