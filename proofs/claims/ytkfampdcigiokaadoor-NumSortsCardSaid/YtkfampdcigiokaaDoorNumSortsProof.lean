/-
  NumSorts: for every input the law returns true, and it reads as it did. The library tables that it reads are as the program text lays them (tied).
-/
import Derived.Test.YtkfampdcigiokaaDoorNumSortLaw
import Derived.Test.YtkfampdcigiokaaDoorRep
set_option linter.unusedVariables false
set_option linter.unusedSimpArgs false
namespace Go.Proofs.YtkfampdcigiokaaDoor
open Go.ChangeShapes Go.WideShapes Go.ChangeAt Go.RowKit

theorem Tab.below {w w' : World} (h : Tab w) (hb : Below w.heap.size w w') : Tab w' := by
  have hc := Lib.TabIs.cell h gPow 0 (by rw [Lib.pow10Tab_length]; omega)
  exact var?_below hb gPow (World.block_lt_of_cell? w _ hc) h
theorem opensI64s : Opens Tryd.prog 34 (sliceR (intR .i64)) := opens_slice Tryd.underlying34 (by kernel_rfl) (by decide) (opens_int Tryd.underlying2)
theorem LI.of_rep {w : World} {v : Value} {l : List Int} (h : (sliceR (intR .i64)).one w (fun b => b < w.heap.size) v l) : LI w v l := by
  obtain ⟨A, c, rfl, hc, _⟩ := slice_form h
  refine ⟨A, c, rfl, hc, fun hp => ?_⟩
  obtain ⟨b, o, rfl, hb, _⟩ := slice_some h hp
  exact ⟨b, o, rfl, hb, fun i hi => (ints_at h hi).1⟩

theorem numSorts_met (os : Os) (args : Array Value) : laidMetH Tryd.prog Rows.numSortsRow.laid ((World.doorLaid Tryd.prog 400 os).forCall (fun _ _ => 0) ⟨#[], args, []⟩).memory :=
  laidMetH_of_parts3 (fuel := 8) (laidMet_of_run' 8 (by kernel_rfl) (by kernel_rfl)) (by kernel_rfl) (by kernel_rfl)
set_option maxRecDepth 100000 in
theorem numSorts_lifted (os : Os) (started : os.Started) (H : Type) (enc : TypeId × Value → H) :
    ReturnsInHanded {} Tryd.checked os 7 .any (fun w args => (Rows.numSortsSpec.pre enc Tryd.prog Tryd.f7 [] false w args ∧ laidMetH Tryd.prog Rows.numSortsRow.laid w) ∧ sizedMet enc Tryd.prog Tryd.f7 (OpenSpec.ofChange Rows.numSortsSpec) false w args) (Rows.numSortsSpec.post enc Tryd.prog Tryd.f7 false true false false) := by
  refine returnsInHanded_of_change_and (C := Tryd.checked) (X := fun w _ => laidMetH Tryd.prog Rows.numSortsRow.laid w) (fun _ _ _ hh h => h.of_heap hh) lawOwn started (by kernel_rfl) Tryd.func7
    (ChangeSpec.witness_shaped (enc := enc) (C := Tryd.checked) (os := os) (X := fun w _ => laidMetH Tryd.prog Rows.numSortsRow.laid w) false (World.doorLaid Tryd.prog 400 os) #[.slice none 0 0, .int .i64 0] 8 rfl (World.shaped_of_RefB (by kernel_rfl) (by kernel_rfl)) (by kernel_rfl) (by kernel_rfl) (by kernel_rfl) (numSorts_met os _)) ?_
  intro W base args ds gs before hval0 hW hcnd _ hL _
  have htab := tab_of_laid hL
  have hval : ∀ (j : Nat) t v, Tryd.f7.params[j]? = some t → args[j]? = some v → Value.okWide Tryd.prog W .any base t v := hval0
  have hW' := hW
  obtain ⟨p, q, hA, _⟩ := hW'
  have hA' : DataW.TrodAll enc Tryd.prog W 0 (fun _ => true) true Tryd.f7.params.toList args.toList ds p := hA
  rw [Tryd.params7] at hA' hval
  obtain ⟨v0, vs0, d0, ds0, p0, q0, hargs, hds, _, h0, r0⟩ := trodAll_cons hA'
  obtain ⟨v1, vs1, d1, ds1, p1, q1, rfl, rfl, _, h1, r1⟩ := trodAll_cons r0
  obtain ⟨rfl, rfl, _⟩ := trodAll_nil r1
  obtain rfl : args = #[v0, v1] := by cases args; simp_all
  subst hds
  refine law_calls (by kernel_rfl) (by kernel_rfl) rfl hW (fun gs' h => by subst h; rfl) ?_
  obtain ⟨fuel_l, hf_l⟩ := h0
  obtain ⟨a0_l, l0_l, c0_l, rfl⟩ := okWide_slice Tryd.underlying34 (hval 0 34 _ rfl rfl)
  obtain ⟨l, h_l⟩ := opensI64s H enc W _ _ _ hf_l
  obtain ⟨n, rfl, rfl, rfl, wn⟩ := open_int Tryd.underlying2 (hval 1 2 _ rfl rfl) h1
  exact numSorts_law l n _ W (fun w' hb => Tab.below htab hb) (LI.of_rep h_l)

theorem numSorts_said : Rows.NumSortsSaid :=
  OpenClaim.holds_of_wide 7 Tryd.f7 rfl rfl rfl rfl rfl rfl rfl ⟨rfl, rfl, rfl, rfl, rfl⟩ rfl rfl rfl rfl rfl (by kernel_rfl) Tryd.func7 (by kernel_rfl)
    (of_decide_eq_true (by kernel_rfl)) (by unfold Func.isWrapper; first | (rw [if_pos (by decide +kernel)]; kernel_rfl) | (rw [if_neg (by decide +kernel)]; exact ⟨rfl, rfl⟩))
    (fun os started H enc _ => numSorts_lifted os started H enc)
theorem numSorts_holds : Rows.NumSortsCardSaid :=
  Claim7.holds_tied_plain_at .later [] [.data, .data, .data] true Rows.numAddsCard.stood.harness false
    numSorts_said (fun _ h => by cases h) (by kernel_rfl) (fun _ h => by cases h) numSorts_row_tie rfl ⟨rfl, rfl⟩ (by kernel_rfl) rfl
    (fun f fn hf hfn => by
      obtain rfl : f = 7 := Option.some.inj ((show Tryd.prog.funcNamed Rows.numSortsRow.func = some 7 by kernel_rfl).symm.trans hf) |>.symm
      obtain rfl : fn = Tryd.f7 := (Option.some.inj (Tryd.func7.symm.trans hfn)).symm
      exact ⟨by kernel_rfl, fun j t ht => by
        rw [Tryd.params7] at ht
        have hm : t ∈ [34, 2] := by simpa using Array.mem_of_getElem? ht
        have hall : ([34, 2].all fun u => !Tryd.prog.wantsStandIn u) = true := by kernel_rfl
        exact (show Tryd.prog.wantsStandIn t = false by simpa using List.all_eq_true.1 hall t hm)⟩)
    (by kernel_rfl)
#print axioms numSorts_holds

end Go.Proofs.YtkfampdcigiokaaDoor
