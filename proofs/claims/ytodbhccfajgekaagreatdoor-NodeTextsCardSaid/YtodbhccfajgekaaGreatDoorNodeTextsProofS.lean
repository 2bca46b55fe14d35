/-
  NodeTexts: two nodes have one text just if they are the same
-/
import Derived.Test.YtodbhccfajgekaaGreatDoorNtx13
set_option linter.unusedVariables false
set_option linter.unusedSimpArgs false
namespace Go.Proofs.YtodbhccfajgekaaGreatDoor
open Go.ChangeShapes Go.WideShapes Go.ChangeAt Go.RowKit

theorem rt_at {α : Type} {r : Rep α} {f : α → List AV} (h : Into r f) {w : World} {S : Nat → Prop} {cs : Array Value} {x : α} (hx : r.at_ w S cs.toList x) : RT w S (.agg cs) (.agg (f x)) := by
  obtain ⟨h1, h2⟩ := h w S cs.toList x hx
  exact .agg cs (f x) (by have := r.len hx; simp at this; omega) fun j u av h3 h4 => (h2 j u av (by simpa using h3) h4).1
set_option maxRecDepth 100000 in
theorem nodeTexts_met (os : Os) (args : Array Value) : laidMetH Tryz.prog Rows.nodeTextsRow.laid ((World.doorLaid Tryz.prog 400 os).forCall (fun _ _ => 0) ⟨#[], args, []⟩).memory :=
  laidMetH_of_parts3 (fuel := 8) (laidMet_of_run' 8 (by kernel_rfl) (by kernel_rfl)) (by kernel_rfl) (by kernel_rfl)
set_option maxRecDepth 100000 in
theorem nodeTexts_lifted (os : Os) (started : os.Started) (H : Type) (enc : TypeId × Value → H) :
    ReturnsInHanded {} Tryz.checked os 3 .any (fun w args => (Rows.nodeTextsSpec.pre enc Tryz.prog Tryz.f3 [] false w args ∧ laidMetH Tryz.prog Rows.nodeTextsRow.laid w) ∧ sizedMet enc Tryz.prog Tryz.f3 (OpenSpec.ofChange Rows.nodeTextsSpec) false w args) (Rows.nodeTextsSpec.post enc Tryz.prog Tryz.f3 false true false false) := by
  refine returnsInHanded_of_change_and (C := Tryz.checked) (X := fun w _ => laidMetH Tryz.prog Rows.nodeTextsRow.laid w) (fun _ _ _ hh h => h.of_heap hh) lawOwn started (by kernel_rfl) Tryz.func3
    (ChangeSpec.witness_shaped (enc := enc) (C := Tryz.checked) (os := os) (X := fun w _ => laidMetH Tryz.prog Rows.nodeTextsRow.laid w) false (World.doorLaid Tryz.prog 400 os) #[.agg #[.slice none 0 0, .slice none 0 0, .int .i64 0, .int .i64 0, .slice none 0 0, .slice none 0 0], .agg #[.slice none 0 0, .slice none 0 0, .int .i64 0, .int .i64 0, .slice none 0 0, .slice none 0 0]] 8 rfl (World.shaped_of_RefB (by kernel_rfl) (by kernel_rfl)) (by kernel_rfl) (by kernel_rfl) (by kernel_rfl) (nodeTexts_met os _)) ?_
  intro W base args ds gs before hval0 hW hcnd _ hL _
  have htab := tab_of_laid hL
  have hval : ∀ (j : Nat) t v, Tryz.f3.params[j]? = some t → args[j]? = some v → Value.okWide Tryz.prog W .any base t v := hval0
  have hW' := hW
  obtain ⟨p, q, hA, _⟩ := hW'
  have hA' : DataW.TrodAll enc Tryz.prog W 0 (fun _ => true) true Tryz.f3.params.toList args.toList ds p := hA
  rw [Tryz.params3] at hA' hval
  obtain ⟨v0, vs0, d0, ds0, p0, q0, hargs, hds, _, h0, r0⟩ := trodAll_cons hA'
  obtain ⟨v1, vs1, d1, ds1, p1, q1, rfl, rfl, _, h1, r1⟩ := trodAll_cons r0
  obtain ⟨rfl, rfl, _⟩ := trodAll_nil r1
  obtain rfl : args = #[v0, v1] := by cases args; simp_all
  subst hds
  refine law_calls (by kernel_rfl) (by kernel_rfl) rfl hW (fun gs' h => by subst h; rfl) ?_
  obtain ⟨fuel_a, hf_a⟩ := h0
  obtain ⟨cs_a, rfl, _⟩ := okWide_struct Tryz.underlying27 (hval 0 27 _ rfl rfl)
  obtain ⟨a, h_a⟩ := opensNd H enc W _ _ _ hf_a
  obtain ⟨fuel_b, hf_b⟩ := h1
  obtain ⟨cs_b, rfl, _⟩ := okWide_struct Tryz.underlying27 (hval 1 27 _ rfl rfl)
  obtain ⟨b, h_b⟩ := opensNd H enc W _ _ _ hf_b
  refine (nodeTexts27_A a b (ndK_of h_a) (ndK_of h_b)).calls rfl (fun j v av h3 h4 => ?_) (amb_of_tab htab)
  match j with
  | 0 => simp at h3 h4; subst h3; subst h4; exact rt_at into_nd h_a
  | 1 => simp at h3 h4; subst h3; subst h4; exact rt_at into_nd h_b
  | j + 2 => simp at h3

theorem nodeTexts_said : Rows.NodeTextsSaid :=
  OpenClaim.holds_of_wide 3 Tryz.f3 rfl rfl rfl rfl rfl rfl rfl ⟨rfl, rfl, rfl, rfl, rfl⟩ rfl rfl rfl rfl rfl (by kernel_rfl) Tryz.func3 (by kernel_rfl)
    (of_decide_eq_true (by kernel_rfl)) (by unfold Func.isWrapper; first | (rw [if_pos (by decide +kernel)]; kernel_rfl) | (rw [if_neg (by decide +kernel)]; exact ⟨rfl, rfl⟩))
    (fun os started H enc _ => nodeTexts_lifted os started H enc)
theorem nodeTexts_holds : Rows.NodeTextsCardSaid :=
  Claim7.holds_tied_plain_at .later [] [.data, .data, .data] true Rows.nodeTextsCard.stood.harness true
    nodeTexts_said (fun _ h => by cases h) (by kernel_rfl) (fun _ h => by cases h) nodeTexts_row_tie rfl ⟨rfl, rfl⟩ (by kernel_rfl) rfl
    (fun f fn hf hfn => by
      obtain rfl : f = 3 := Option.some.inj ((show Tryz.prog.funcNamed Rows.nodeTextsRow.func = some 3 by kernel_rfl).symm.trans hf) |>.symm
      obtain rfl : fn = Tryz.f3 := (Option.some.inj (Tryz.func3.symm.trans hfn)).symm
      exact ⟨by kernel_rfl, fun j t ht => by
        rw [Tryz.params3] at ht
        have hm : t ∈ [27] := by simpa using Array.mem_of_getElem? ht
        have hall : ([27].all fun u => !Tryz.prog.wantsStandIn u) = true := by kernel_rfl
        exact (show Tryz.prog.wantsStandIn t = false by simpa using List.all_eq_true.1 hall t hm)⟩)
    (by kernel_rfl)
#print axioms nodeTexts_holds
end Go.Proofs.YtodbhccfajgekaaGreatDoor
