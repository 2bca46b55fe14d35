/-
  Parts of the proof: C19, C20, C21, D1, D5.
-/
import Derived.Test.YtcindbpnaicemaaSkp10
set_option linter.unusedVariables false
set_option linter.unusedSimpArgs false
namespace Go.Proofs.Ytcindbpnaicemaa
section
open Go.RowKit
theorem sets_E (m : Mod) (l : List Int) (hl : l.length ≤ 1000000) : ∃ b, ADet Try.prog 34 [.agg (eMod m), sI l] (val (.bool b)) := by
  classical
  exact ⟨decide (∀ i (h : i < l.length), inB l[i] m.attrs.length = true ∧ ∀ j (h : j < i), l[j] ≠ l[i]), sets_A m l hl _ (by simp)⟩
set_option maxRecDepth 100000 in
set_option maxHeartbeats 8000000 in
theorem named_A (m : Mod) (hf : Fit m) : ARel Try.prog 14 [.agg (eMod m)] fun R => ∃ b, R = val (.bool b) ∧ True := by
  refine arel_of_code mixedT Try.func14 rfl (by decide) Try.ntmps14 Try.results14 rfl ?_
  obtain ⟨hg, hm, hst, hev, hat, hus, hro, hso, -⟩ := id hf.sizes
  (repeat' (first | simp (maxSteps := 5000000) (implicitDefEqProofs := false) only [ruA, ruB, aEv, ASt.get, aget, ASt.put, aBox, aCells, oneC, oneCL, envOf, ↓reduceIte, Nat.reduceLT, eq_self] | (with_reducible refine aIf_split (fun _ => ?_) (fun _ => ?_)) | (with_reducible refine aSel_split (fun _ => ?_) (fun _ => ?_)) | (with_reducible refine aGd_split (fun _ => ?_) (fun _ => ?_))))
  refine aLoop_of (fun st => ∃ (k : Nat) (b : Bool), k ≤ m.roles.length ∧ st = ⟨233, [(1, .op 0 0 0), (3, eB b), (4, eI (k : Int))], [(0, some (.box 32 (eMod m)))], 1⟩) (fun st => m.roles.length - slotN st 4) ⟨_, (weak_cut1 (by (first | ((simp only [envIn, tabIn, envLt, tabLt, AObj.lt, AV.lt, AV.ltL, ruW, ASt.get, aget, ↓reduceIte, Nat.reduceLT, Nat.reduceEqDiff, eq_self]) <;> (repeat' apply And.intro) <;> first | (rw [wrapK (by omega)]; done) | (simp; done) | omega) | fail))), 0, true, Nat.zero_le _, rfl⟩ ?_
  rintro _ ⟨k, b, hk, rfl⟩
  by_cases hlt : k < m.roles.length
  · (repeat' (first | simp (maxSteps := 5000000) (implicitDefEqProofs := false) only [ruA, ruB, aEv, aTake, aLoad, aField, aIndex, aLen, aBin, bin2, ASt.get, aget, ASt.put, ↓reduceIte, reduceCtorEq, Nat.reduceLT, Nat.reduceEqDiff, Nat.reduceAdd, Nat.reduceLeDiff, eq_self, ne_eq, aLenM, false_or, tyF_32_3, tyA_24, tyS_24, tyE_24, tyF_65_1, tyA_3, tyS_3, tyF_32_2, tyA_22, tyS_22, tyE_22, row_at, hlt] | (with_reducible refine aIf_split (fun _ => ?_) (fun _ => ?_)) | (with_reducible refine aSel_split (fun _ => ?_) (fun _ => ?_)) | (with_reducible refine aGd_split (fun _ => ?_) (fun _ => ?_))))
    all_goals first | with_reducible exact roundI (weak_cut1 (by (first | ((simp only [envIn, tabIn, envLt, tabLt, AObj.lt, AV.lt, AV.ltL, ruW, ASt.get, aget, ↓reduceIte, reduceCtorEq, Nat.reduceLT, Nat.reduceEqDiff, eq_self]) <;> (repeat' apply And.intro) <;> first | (rw [wrapK (by omega)]; done) | (simp; done) | omega) | fail))) ⟨k + 1, true, by omega, rfl⟩ (by simp only [slotN, ruW, ASt.get, aget, ASt.put, ↓reduceIte, reduceCtorEq, Nat.reduceLT, Nat.reduceEqDiff, Nat.reduceAdd, Nat.reduceLeDiff, eq_self, implies_true]; omega) | with_reducible exact roundI (weak_cut1 (by (first | ((simp only [envIn, tabIn, envLt, tabLt, AObj.lt, AV.lt, AV.ltL, ruW, ASt.get, aget, ↓reduceIte, Nat.reduceLT, Nat.reduceEqDiff, eq_self]) <;> (repeat' apply And.intro) <;> first | (rw [wrapK (by omega)]; done) | (simp; done) | omega) | fail))) ⟨k + 1, false, by omega, rfl⟩ (by simp only [slotN, ruW, ASt.get, aget, ↓reduceIte, Nat.reduceLT, Nat.reduceEqDiff, eq_self]; omega) | skip
    refine callPI (all_A m.users.length (by omega)) fun v => ?_
    (repeat' (first | simp (maxSteps := 5000000) (implicitDefEqProofs := false) only [ruA, ruB, aEv, aBin, bin2, ASt.get, aget, ASt.put, ↓reduceIte, Nat.reduceLT, Nat.reduceEqDiff, eq_self] | (with_reducible refine aIf_split (fun _ => ?_) (fun _ => ?_)) | (with_reducible refine aSel_split (fun _ => ?_) (fun _ => ?_)) | (with_reducible refine aGd_split (fun _ => ?_) (fun _ => ?_))))
    exact roundI (weak_cut1 (by (first | ((simp only [envIn, tabIn, envLt, tabLt, AObj.lt, AV.lt, AV.ltL, ruW, ASt.get, aget, ↓reduceIte, Nat.reduceLT, Nat.reduceEqDiff, eq_self]) <;> (repeat' apply And.intro) <;> first | (rw [wrapK (by omega)]; done) | (simp; done) | omega) | fail))) ⟨k + 1, decide (m.roles[k].2 ≤ v), by omega, rfl⟩ (by simp only [slotN, ruW, ASt.get, aget, ↓reduceIte, Nat.reduceLT, Nat.reduceEqDiff, eq_self]; omega)
  obtain rfl : k = m.roles.length := by omega
  (repeat' (first | simp (maxSteps := 5000000) (implicitDefEqProofs := false) only [ruA, ruB, aEv, aTake, aLoad, aField, aLen, aBin, bin2, ASt.get, aget, ASt.put, ↓reduceIte, reduceCtorEq, Nat.reduceLT, Nat.reduceEqDiff, Nat.reduceAdd, Nat.reduceLeDiff, eq_self, ne_eq, aLenM, false_or, tyF_32_3, tyA_24, tyS_24, tyE_24, hlt] | (with_reducible refine aIf_split (fun _ => ?_) (fun _ => ?_)) | (with_reducible refine aSel_split (fun _ => ?_) (fun _ => ?_)) | (with_reducible refine aGd_split (fun _ => ?_) (fun _ => ?_))))
  clear hk hlt
  refine aLoop_of (fun st => ∃ (k : Nat) (b : Bool), k ≤ m.stages.length ∧ st = ⟨233, [(1, .op 0 0 0), (3, eB b), (6, eI (k : Int))], [(0, some (.box 32 (eMod m)))], 1⟩) (fun st => m.stages.length - slotN st 6) ⟨_, (weak_cut1 (by (first | ((simp only [envIn, tabIn, envLt, tabLt, AObj.lt, AV.lt, AV.ltL, ruW, ASt.get, aget, ↓reduceIte, Nat.reduceLT, Nat.reduceEqDiff, eq_self]) <;> (repeat' apply And.intro) <;> first | (rw [wrapK (by omega)]; done) | (simp; done) | omega) | fail))), 0, b, Nat.zero_le _, rfl⟩ ?_
  clear b
  rintro _ ⟨k, b, hk, rfl⟩
  by_cases hlt : k < m.stages.length
  · (repeat' (first | simp (maxSteps := 5000000) (implicitDefEqProofs := false) only [ruA, ruB, aEv, aTake, aLoad, aField, aIndex, aLen, aBin, bin2, ASt.get, aget, ASt.put, ↓reduceIte, reduceCtorEq, Nat.reduceLT, Nat.reduceEqDiff, Nat.reduceAdd, Nat.reduceLeDiff, eq_self, ne_eq, aLenM, false_or, tyA_3, tyS_3, tyF_32_4, tyA_25, tyS_25, tyE_25, tyF_67_1, row_at, hlt] | (with_reducible refine aIf_split (fun _ => ?_) (fun _ => ?_)) | (with_reducible refine aSel_split (fun _ => ?_) (fun _ => ?_)) | (with_reducible refine aGd_split (fun _ => ?_) (fun _ => ?_))))
    all_goals first | with_reducible exact roundI (weak_cut1 (by (first | ((simp only [envIn, tabIn, envLt, tabLt, AObj.lt, AV.lt, AV.ltL, ruW, ASt.get, aget, ↓reduceIte, reduceCtorEq, Nat.reduceLT, Nat.reduceEqDiff, eq_self]) <;> (repeat' apply And.intro) <;> first | (rw [wrapK (by omega)]; done) | (simp; done) | omega) | fail))) ⟨k + 1, true, by omega, rfl⟩ (by simp only [slotN, ASt.get, aget, ↓reduceIte, Nat.reduceLT, Nat.reduceEqDiff, eq_self]; omega) | with_reducible exact roundI (weak_cut1 (by (first | ((simp only [envIn, tabIn, envLt, tabLt, AObj.lt, AV.lt, AV.ltL, ruW, ASt.get, aget, ↓reduceIte, Nat.reduceLT, Nat.reduceEqDiff, eq_self]) <;> (repeat' apply And.intro) <;> first | (rw [wrapK (by omega)]; done) | (simp; done) | omega) | fail))) ⟨k + 1, false, by omega, rfl⟩ (by simp only [slotN, ASt.get, aget, ↓reduceIte, Nat.reduceLT, Nat.reduceEqDiff, eq_self]; omega) | skip
    refine callV (in_A m.stages[k].2 m.stages.length) ?_
    (repeat' (first | simp (maxSteps := 5000000) (implicitDefEqProofs := false) only [ruA, ruB, aEv, aBin, bin2, ASt.get, aget, ASt.put, ↓reduceIte, Nat.reduceLT, Nat.reduceEqDiff, eq_self] | (with_reducible refine aIf_split (fun _ => ?_) (fun _ => ?_)) | (with_reducible refine aSel_split (fun _ => ?_) (fun _ => ?_)) | (with_reducible refine aGd_split (fun _ => ?_) (fun _ => ?_))))
    exact roundI (weak_cut1 (by (first | ((simp only [envIn, tabIn, envLt, tabLt, AObj.lt, AV.lt, AV.ltL, ruW, ASt.get, aget, ↓reduceIte, Nat.reduceLT, Nat.reduceEqDiff, eq_self]) <;> (repeat' apply And.intro) <;> first | (rw [wrapK (by omega)]; done) | (simp; done) | omega) | fail))) ⟨k + 1, inB m.stages[k].2 m.stages.length, by omega, rfl⟩ (by simp only [slotN, ASt.get, aget, ↓reduceIte, Nat.reduceLT, Nat.reduceEqDiff, eq_self]; omega)
  obtain rfl : k = m.stages.length := by omega
  (repeat' (first | simp (maxSteps := 5000000) (implicitDefEqProofs := false) only [ruA, ruB, aEv, aTake, aLoad, aField, aLen, aBin, bin2, ASt.get, aget, ASt.put, ↓reduceIte, reduceCtorEq, Nat.reduceLT, Nat.reduceEqDiff, Nat.reduceAdd, Nat.reduceLeDiff, eq_self, ne_eq, aLenM, false_or, tyF_32_4, tyA_25, tyS_25, tyE_25, hlt] | (with_reducible refine aIf_split (fun _ => ?_) (fun _ => ?_)) | (with_reducible refine aSel_split (fun _ => ?_) (fun _ => ?_)) | (with_reducible refine aGd_split (fun _ => ?_) (fun _ => ?_))))
  clear hk hlt
  refine aLoop_of (fun st => ∃ (k : Nat) (b : Bool), k ≤ m.events.length ∧ st = ⟨233, [(1, .op 0 0 0), (3, eB b), (8, eI (k : Int))], [(0, some (.box 32 (eMod m)))], 1⟩) (fun st => m.events.length - slotN st 8) ⟨_, (weak_cut1 (by (first | ((simp only [envIn, tabIn, envLt, tabLt, AObj.lt, AV.lt, AV.ltL, ruW, ASt.get, aget, ↓reduceIte, Nat.reduceLT, Nat.reduceEqDiff, eq_self]) <;> (repeat' apply And.intro) <;> first | (rw [wrapK (by omega)]; done) | (simp; done) | omega) | fail))), 0, b, Nat.zero_le _, rfl⟩ ?_
  clear b
  rintro _ ⟨k, b, hk, rfl⟩
  by_cases hlt : k < m.events.length
  · have hs := hf.events _ (List.getElem_mem hlt)
    (repeat' (first | simp (maxSteps := 5000000) (implicitDefEqProofs := false) only [ruA, ruB, aEv, aTake, aLoad, aField, aIndex, aLen, aBin, bin2, ASt.get, aget, ASt.put, aStore, aBox, aCells, oneC, oneCL, Value.cells, Value.oneCell', ↓reduceIte, reduceCtorEq, Nat.reduceLT, Nat.reduceEqDiff, Nat.reduceAdd, Nat.reduceLeDiff, eq_self, ne_eq, aLenM, false_or, tyF_32_3, tyA_24, tyS_24, tyE_24, tyA_3, tyS_3, tyF_32_5, tyA_26, tyS_26, tyE_26, tyA_56, tyS_56, tyZ_56, tyF_56_1, row_at, hlt] | (with_reducible refine aIf_split (fun _ => ?_) (fun _ => ?_)) | (with_reducible refine aSel_split (fun _ => ?_) (fun _ => ?_)) | (with_reducible refine aGd_split (fun _ => ?_) (fun _ => ?_))))
    all_goals first | with_reducible exact roundI (weak_cut1 (by (first | ((simp only [envIn, tabIn, envLt, tabLt, AObj.lt, AV.lt, AV.ltL, ruW, ASt.get, aget, ↓reduceIte, reduceCtorEq, Nat.reduceLT, Nat.reduceEqDiff, eq_self]) <;> (repeat' apply And.intro) <;> first | (rw [wrapK (by omega)]; done) | (simp; done) | omega) | fail))) ⟨k + 1, true, by omega, rfl⟩ (by simp only [slotN, ruW, ASt.get, aget, ASt.put, ↓reduceIte, reduceCtorEq, Nat.reduceLT, Nat.reduceEqDiff, Nat.reduceAdd, Nat.reduceLeDiff, eq_self, implies_true]; omega) | with_reducible exact roundI (weak_cut1 (by (first | ((simp only [envIn, tabIn, envLt, tabLt, AObj.lt, AV.lt, AV.ltL, ruW, ASt.get, aget, ↓reduceIte, reduceCtorEq, Nat.reduceLT, Nat.reduceEqDiff, eq_self]) <;> (repeat' apply And.intro) <;> first | (rw [wrapK (by omega)]; done) | (simp; done) | omega) | fail))) ⟨k + 1, false, by omega, rfl⟩ (by simp only [slotN, ASt.get, aget, ↓reduceIte, Nat.reduceLT, Nat.reduceEqDiff, eq_self]; omega) | skip
    refine callV (in_A _ _) ?_
    (repeat' (first | simp (maxSteps := 5000000) (implicitDefEqProofs := false) only [ruA, ruB, aEv, aTake, aLoad, aField, aLen, aBin, bin2, ASt.get, aget, ASt.put, ↓reduceIte, reduceCtorEq, Nat.reduceLT, Nat.reduceEqDiff, Nat.reduceAdd, Nat.reduceLeDiff, eq_self, ne_eq, aLenM, false_or, tyA_3, tyS_3, tyF_32_4, tyA_25, tyS_25, tyE_25, tyF_56_2] | (with_reducible refine aIf_split (fun _ => ?_) (fun _ => ?_)) | (with_reducible refine aSel_split (fun _ => ?_) (fun _ => ?_)) | (with_reducible refine aGd_split (fun _ => ?_) (fun _ => ?_))))
    all_goals first | with_reducible exact roundI (weak_cut1 (by (first | ((simp only [envIn, tabIn, envLt, tabLt, AObj.lt, AV.lt, AV.ltL, ruW, ASt.get, aget, ↓reduceIte, reduceCtorEq, Nat.reduceLT, Nat.reduceEqDiff, eq_self]) <;> (repeat' apply And.intro) <;> first | (rw [wrapK (by omega)]; done) | (simp; done) | omega) | fail))) ⟨k + 1, true, by omega, rfl⟩ (by simp only [slotN, ruW, ASt.get, aget, ASt.put, ↓reduceIte, reduceCtorEq, Nat.reduceLT, Nat.reduceEqDiff, Nat.reduceAdd, Nat.reduceLeDiff, eq_self, implies_true]; omega) | with_reducible exact roundI (weak_cut1 (by (first | ((simp only [envIn, tabIn, envLt, tabLt, AObj.lt, AV.lt, AV.ltL, ruW, ASt.get, aget, ↓reduceIte, reduceCtorEq, Nat.reduceLT, Nat.reduceEqDiff, eq_self]) <;> (repeat' apply And.intro) <;> first | (rw [wrapK (by omega)]; done) | (simp; done) | omega) | fail))) ⟨k + 1, false, by omega, rfl⟩ (by simp only [slotN, ASt.get, aget, ↓reduceIte, Nat.reduceLT, Nat.reduceEqDiff, eq_self]; omega) | skip
    refine callV (in_A _ _) ?_
    (repeat' (first | simp (maxSteps := 5000000) (implicitDefEqProofs := false) only [ruA, ruB, aEv, aTake, aLoad, aField, aBin, bin2, ASt.get, aget, ASt.put, ↓reduceIte, reduceCtorEq, Nat.reduceLT, Nat.reduceEqDiff, Nat.reduceAdd, Nat.reduceLeDiff, eq_self, tyA_32, tyS_32, tyF_56_3, tyA_33, tyS_33] | (with_reducible refine aIf_split (fun _ => ?_) (fun _ => ?_)) | (with_reducible refine aSel_split (fun _ => ?_) (fun _ => ?_)) | (with_reducible refine aGd_split (fun _ => ?_) (fun _ => ?_))))
    all_goals first | with_reducible exact roundI (weak_cut1 (by (first | ((simp only [envIn, tabIn, envLt, tabLt, AObj.lt, AV.lt, AV.ltL, ruW, ASt.get, aget, ↓reduceIte, reduceCtorEq, Nat.reduceLT, Nat.reduceEqDiff, eq_self]) <;> (repeat' apply And.intro) <;> first | (rw [wrapK (by omega)]; done) | (simp; done) | omega) | fail))) ⟨k + 1, true, by omega, rfl⟩ (by simp only [slotN, ruW, ASt.get, aget, ASt.put, ↓reduceIte, reduceCtorEq, Nat.reduceLT, Nat.reduceEqDiff, Nat.reduceAdd, Nat.reduceLeDiff, eq_self, implies_true]; omega) | with_reducible exact roundI (weak_cut1 (by (first | ((simp only [envIn, tabIn, envLt, tabLt, AObj.lt, AV.lt, AV.ltL, ruW, ASt.get, aget, ↓reduceIte, reduceCtorEq, Nat.reduceLT, Nat.reduceEqDiff, eq_self]) <;> (repeat' apply And.intro) <;> first | (rw [wrapK (by omega)]; done) | (simp; done) | omega) | fail))) ⟨k + 1, false, by omega, rfl⟩ (by simp only [slotN, ASt.get, aget, ↓reduceIte, Nat.reduceLT, Nat.reduceEqDiff, eq_self]; omega) | skip
    obtain ⟨x, hx⟩ := sets_E m m.events[k].sets (by omega)
    refine callV hx ?_
    (repeat' (first | simp (maxSteps := 5000000) (implicitDefEqProofs := false) only [ruA, aEv, aBin, bin2, ASt.get, aget, ASt.put, ↓reduceIte, Nat.reduceLT, Nat.reduceEqDiff, eq_self] | (with_reducible refine aIf_split (fun _ => ?_) (fun _ => ?_)) | (with_reducible refine aSel_split (fun _ => ?_) (fun _ => ?_)) | (with_reducible refine aGd_split (fun _ => ?_) (fun _ => ?_))))
    exact roundI (weak_cut1 (by (first | ((simp only [envIn, tabIn, envLt, tabLt, AObj.lt, AV.lt, AV.ltL, ruW, ASt.get, aget, ↓reduceIte, reduceCtorEq, Nat.reduceLT, Nat.reduceEqDiff, eq_self]) <;> (repeat' apply And.intro) <;> first | (rw [wrapK (by omega)]; done) | (simp; done) | omega) | fail))) ⟨k + 1, x, by omega, rfl⟩ (by simp only [slotN, ASt.get, aget, ↓reduceIte, Nat.reduceLT, Nat.reduceEqDiff, eq_self]; omega)
  obtain rfl : k = m.events.length := by omega
  (repeat' (first | simp (maxSteps := 5000000) (implicitDefEqProofs := false) only [ruA, ruB, aEv, aTake, aLoad, aField, aLen, aBin, bin2, ASt.get, aget, ASt.put, ↓reduceIte, reduceCtorEq, Nat.reduceLT, Nat.reduceEqDiff, Nat.reduceAdd, Nat.reduceLeDiff, eq_self, ne_eq, aLenM, false_or, tyF_32_5, tyA_26, tyS_26, tyE_26, hlt] | (with_reducible refine aIf_split (fun _ => ?_) (fun _ => ?_)) | (with_reducible refine aSel_split (fun _ => ?_) (fun _ => ?_)) | (with_reducible refine aGd_split (fun _ => ?_) (fun _ => ?_))))
  clear hk hlt
  refine aLoop_of (fun st => ∃ (k : Nat) (b : Bool), k ≤ m.guards.length ∧ st = ⟨233, [(1, .op 0 0 0), (3, eB b), (10, eI (k : Int))], [(0, some (.box 32 (eMod m)))], 1⟩) (fun st => m.guards.length - slotN st 10) ⟨_, (weak_cut1 (by (first | ((simp only [envIn, tabIn, envLt, tabLt, AObj.lt, AV.lt, AV.ltL, ruW, ASt.get, aget, ↓reduceIte, Nat.reduceLT, Nat.reduceEqDiff, eq_self]) <;> (repeat' apply And.intro) <;> first | (rw [wrapK (by omega)]; done) | (simp; done) | omega) | fail))), 0, b, Nat.zero_le _, rfl⟩ ?_
  clear b
  rintro _ ⟨k, b, hk, rfl⟩
  by_cases hlt : k < m.guards.length
  · have hs := hf.guards _ (List.getElem_mem hlt)
    (repeat' (first | simp (maxSteps := 5000000) (implicitDefEqProofs := false) only [ruA, ruB, aEv, aTake, aLoad, aField, aIndex, aLen, aBin, bin2, ASt.get, aget, ASt.put, aStore, aBox, aCells, oneC, oneCL, Value.cells, Value.oneCell', ↓reduceIte, reduceCtorEq, Nat.reduceLT, Nat.reduceEqDiff, Nat.reduceAdd, Nat.reduceLeDiff, eq_self, ne_eq, aLenM, false_or, tyA_3, tyS_3, tyF_32_4, tyA_25, tyS_25, tyE_25, tyF_32_6, tyA_27, tyS_27, tyE_27, tyA_52, tyS_52, tyZ_52, tyF_52_0, row_at, hlt] | (with_reducible refine aIf_split (fun _ => ?_) (fun _ => ?_)) | (with_reducible refine aSel_split (fun _ => ?_) (fun _ => ?_)) | (with_reducible refine aGd_split (fun _ => ?_) (fun _ => ?_))))
    all_goals first | with_reducible exact roundI (weak_cut1 (by (first | ((simp only [envIn, tabIn, envLt, tabLt, AObj.lt, AV.lt, AV.ltL, ruW, ASt.get, aget, ↓reduceIte, reduceCtorEq, Nat.reduceLT, Nat.reduceEqDiff, eq_self]) <;> (repeat' apply And.intro) <;> first | (rw [wrapK (by omega)]; done) | (simp; done) | omega) | fail))) ⟨k + 1, true, by omega, rfl⟩ (by simp only [slotN, ruW, ASt.get, aget, ASt.put, ↓reduceIte, reduceCtorEq, Nat.reduceLT, Nat.reduceEqDiff, Nat.reduceAdd, Nat.reduceLeDiff, eq_self, implies_true]; omega) | with_reducible exact roundI (weak_cut1 (by (first | ((simp only [envIn, tabIn, envLt, tabLt, AObj.lt, AV.lt, AV.ltL, ruW, ASt.get, aget, ↓reduceIte, reduceCtorEq, Nat.reduceLT, Nat.reduceEqDiff, eq_self]) <;> (repeat' apply And.intro) <;> first | (rw [wrapK (by omega)]; done) | (simp; done) | omega) | fail))) ⟨k + 1, false, by omega, rfl⟩ (by simp only [slotN, ASt.get, aget, ↓reduceIte, Nat.reduceLT, Nat.reduceEqDiff, eq_self]; omega) | skip
    refine callV (in_A _ _) ?_
    (repeat' (first | simp (maxSteps := 5000000) (implicitDefEqProofs := false) only [ruA, ruB, aEv, aTake, aLoad, aField, aLen, aBin, bin2, ASt.get, aget, ASt.put, ↓reduceIte, reduceCtorEq, Nat.reduceLT, Nat.reduceEqDiff, Nat.reduceAdd, Nat.reduceLeDiff, eq_self, ne_eq, aLenM, false_or, tyA_3, tyS_3, tyF_32_5, tyA_26, tyS_26, tyE_26, tyA_32, tyS_32, tyF_52_1, tyF_52_2, tyA_50, tyS_50] | (with_reducible refine aIf_split (fun _ => ?_) (fun _ => ?_)) | (with_reducible refine aSel_split (fun _ => ?_) (fun _ => ?_)) | (with_reducible refine aGd_split (fun _ => ?_) (fun _ => ?_))))
    all_goals first | with_reducible exact roundI (weak_cut1 (by (first | ((simp only [envIn, tabIn, envLt, tabLt, AObj.lt, AV.lt, AV.ltL, ruW, ASt.get, aget, ↓reduceIte, reduceCtorEq, Nat.reduceLT, Nat.reduceEqDiff, eq_self]) <;> (repeat' apply And.intro) <;> first | (rw [wrapK (by omega)]; done) | (simp; done) | omega) | fail))) ⟨k + 1, true, by omega, rfl⟩ (by simp only [slotN, ruW, ASt.get, aget, ASt.put, ↓reduceIte, reduceCtorEq, Nat.reduceLT, Nat.reduceEqDiff, Nat.reduceAdd, Nat.reduceLeDiff, eq_self, implies_true]; omega) | with_reducible exact roundI (weak_cut1 (by (first | ((simp only [envIn, tabIn, envLt, tabLt, AObj.lt, AV.lt, AV.ltL, ruW, ASt.get, aget, ↓reduceIte, reduceCtorEq, Nat.reduceLT, Nat.reduceEqDiff, eq_self]) <;> (repeat' apply And.intro) <;> first | (rw [wrapK (by omega)]; done) | (simp; done) | omega) | fail))) ⟨k + 1, false, by omega, rfl⟩ (by simp only [slotN, ASt.get, aget, ↓reduceIte, Nat.reduceLT, Nat.reduceEqDiff, eq_self]; omega) | skip
    · refine callPB (check11_A m m.guards[k].cond false (by omega)) fun x _ => ?_
      (repeat' (first | simp (maxSteps := 5000000) (implicitDefEqProofs := false) only [ruA, aEv, aBin, bin2, ASt.get, aget, ASt.put, ↓reduceIte, Nat.reduceLT, Nat.reduceEqDiff, eq_self] | (with_reducible refine aIf_split (fun _ => ?_) (fun _ => ?_)) | (with_reducible refine aSel_split (fun _ => ?_) (fun _ => ?_)) | (with_reducible refine aGd_split (fun _ => ?_) (fun _ => ?_))))
      exact roundI (weak_cut1 (by (first | ((simp only [envIn, tabIn, envLt, tabLt, AObj.lt, AV.lt, AV.ltL, ruW, ASt.get, aget, ↓reduceIte, reduceCtorEq, Nat.reduceLT, Nat.reduceEqDiff, eq_self]) <;> (repeat' apply And.intro) <;> first | (rw [wrapK (by omega)]; done) | (simp; done) | omega) | fail))) ⟨k + 1, x, by omega, rfl⟩ (by simp only [slotN, ASt.get, aget, ↓reduceIte, Nat.reduceLT, Nat.reduceEqDiff, eq_self]; omega)
    · refine callV (in_A _ _) ?_
      (repeat' (first | simp (maxSteps := 5000000) (implicitDefEqProofs := false) only [ruA, ruB, aEv, aTake, aLoad, aField, aBin, bin2, ASt.get, aget, ASt.put, ↓reduceIte, reduceCtorEq, Nat.reduceLT, Nat.reduceEqDiff, Nat.reduceAdd, eq_self, tyA_32, tyS_32, tyF_52_2, tyA_50, tyS_50] | (with_reducible refine aIf_split (fun _ => ?_) (fun _ => ?_)) | (with_reducible refine aSel_split (fun _ => ?_) (fun _ => ?_)) | (with_reducible refine aGd_split (fun _ => ?_) (fun _ => ?_))))
      all_goals first | with_reducible exact roundI (weak_cut1 (by (first | ((simp only [envIn, tabIn, envLt, tabLt, AObj.lt, AV.lt, AV.ltL, ruW, ASt.get, aget, ↓reduceIte, reduceCtorEq, Nat.reduceLT, Nat.reduceEqDiff, eq_self]) <;> (repeat' apply And.intro) <;> first | (rw [wrapK (by omega)]; done) | (simp; done) | omega) | fail))) ⟨k + 1, true, by omega, rfl⟩ (by simp only [slotN, ruW, ASt.get, aget, ASt.put, ↓reduceIte, reduceCtorEq, Nat.reduceLT, Nat.reduceEqDiff, Nat.reduceAdd, Nat.reduceLeDiff, eq_self, implies_true]; omega) | with_reducible exact roundI (weak_cut1 (by (first | ((simp only [envIn, tabIn, envLt, tabLt, AObj.lt, AV.lt, AV.ltL, ruW, ASt.get, aget, ↓reduceIte, reduceCtorEq, Nat.reduceLT, Nat.reduceEqDiff, eq_self]) <;> (repeat' apply And.intro) <;> first | (rw [wrapK (by omega)]; done) | (simp; done) | omega) | fail))) ⟨k + 1, false, by omega, rfl⟩ (by simp only [slotN, ASt.get, aget, ↓reduceIte, Nat.reduceLT, Nat.reduceEqDiff, eq_self]; omega) | skip
      refine callPB (check11_A m m.guards[k].cond false (by omega)) fun x _ => ?_
      (repeat' (first | simp (maxSteps := 5000000) (implicitDefEqProofs := false) only [ruA, aEv, aBin, bin2, ASt.get, aget, ASt.put, ↓reduceIte, Nat.reduceLT, Nat.reduceEqDiff, eq_self] | (with_reducible refine aIf_split (fun _ => ?_) (fun _ => ?_)) | (with_reducible refine aSel_split (fun _ => ?_) (fun _ => ?_)) | (with_reducible refine aGd_split (fun _ => ?_) (fun _ => ?_))))
      exact roundI (weak_cut1 (by (first | ((simp only [envIn, tabIn, envLt, tabLt, AObj.lt, AV.lt, AV.ltL, ruW, ASt.get, aget, ↓reduceIte, reduceCtorEq, Nat.reduceLT, Nat.reduceEqDiff, eq_self]) <;> (repeat' apply And.intro) <;> first | (rw [wrapK (by omega)]; done) | (simp; done) | omega) | fail))) ⟨k + 1, x, by omega, rfl⟩ (by simp only [slotN, ASt.get, aget, ↓reduceIte, Nat.reduceLT, Nat.reduceEqDiff, eq_self]; omega)
  obtain rfl : k = m.guards.length := by omega
  (repeat' (first | simp (maxSteps := 5000000) (implicitDefEqProofs := false) only [ruA, ruB, aEv, aTake, aLoad, aField, aLen, aBin, bin2, ASt.get, aget, ASt.put, ↓reduceIte, reduceCtorEq, Nat.reduceLT, Nat.reduceEqDiff, Nat.reduceAdd, Nat.reduceLeDiff, eq_self, ne_eq, aLenM, false_or, tyF_32_6, tyA_27, tyS_27, tyE_27, hlt] | (with_reducible refine aIf_split (fun _ => ?_) (fun _ => ?_)) | (with_reducible refine aSel_split (fun _ => ?_) (fun _ => ?_)) | (with_reducible refine aGd_split (fun _ => ?_) (fun _ => ?_))))
  clear hk hlt
  refine aLoop_of (fun st => ∃ (k : Nat) (b : Bool), k ≤ m.miles.length ∧ st = ⟨233, [(1, .op 0 0 0), (3, eB b), (12, eI (k : Int))], [(0, some (.box 32 (eMod m)))], 1⟩) (fun st => m.miles.length - slotN st 12) ⟨_, (weak_cut1 (by (first | ((simp only [envIn, tabIn, envLt, tabLt, AObj.lt, AV.lt, AV.ltL, ruW, ASt.get, aget, ↓reduceIte, Nat.reduceLT, Nat.reduceEqDiff, eq_self]) <;> (repeat' apply And.intro) <;> first | (rw [wrapK (by omega)]; done) | (simp; done) | omega) | fail))), 0, b, Nat.zero_le _, rfl⟩ ?_
  clear b
  rintro _ ⟨k, b, hk, rfl⟩
  by_cases hlt : k < m.miles.length
  · have hs := hf.miles _ (List.getElem_mem hlt)
    (repeat' (first | simp (maxSteps := 5000000) (implicitDefEqProofs := false) only [ruA, ruB, aEv, aTake, aLoad, aField, aIndex, aLen, aBin, bin2, ASt.get, aget, ASt.put, aStore, aBox, aCells, oneC, oneCL, Value.cells, Value.oneCell', ↓reduceIte, reduceCtorEq, Nat.reduceLT, Nat.reduceEqDiff, Nat.reduceAdd, Nat.reduceLeDiff, eq_self, ne_eq, aLenM, false_or, tyA_3, tyS_3, tyF_32_4, tyA_25, tyS_25, tyE_25, tyF_32_7, tyA_28, tyS_28, tyE_28, tyA_54, tyS_54, tyZ_54, tyF_54_1, row_at, hlt] | (with_reducible refine aIf_split (fun _ => ?_) (fun _ => ?_)) | (with_reducible refine aSel_split (fun _ => ?_) (fun _ => ?_)) | (with_reducible refine aGd_split (fun _ => ?_) (fun _ => ?_))))
    all_goals first | with_reducible exact roundI (weak_cut1 (by (first | ((simp only [envIn, tabIn, envLt, tabLt, AObj.lt, AV.lt, AV.ltL, ruW, ASt.get, aget, ↓reduceIte, reduceCtorEq, Nat.reduceLT, Nat.reduceEqDiff, eq_self]) <;> (repeat' apply And.intro) <;> first | (rw [wrapK (by omega)]; done) | (simp; done) | omega) | fail))) ⟨k + 1, true, by omega, rfl⟩ (by simp only [slotN, ruW, ASt.get, aget, ASt.put, ↓reduceIte, reduceCtorEq, Nat.reduceLT, Nat.reduceEqDiff, Nat.reduceAdd, Nat.reduceLeDiff, eq_self, implies_true]; omega) | with_reducible exact roundI (weak_cut1 (by (first | ((simp only [envIn, tabIn, envLt, tabLt, AObj.lt, AV.lt, AV.ltL, ruW, ASt.get, aget, ↓reduceIte, reduceCtorEq, Nat.reduceLT, Nat.reduceEqDiff, eq_self]) <;> (repeat' apply And.intro) <;> first | (rw [wrapK (by omega)]; done) | (simp; done) | omega) | fail))) ⟨k + 1, false, by omega, rfl⟩ (by simp only [slotN, ASt.get, aget, ↓reduceIte, Nat.reduceLT, Nat.reduceEqDiff, eq_self]; omega) | skip
    refine callV (in_A _ _) ?_
    (repeat' (first | simp (maxSteps := 5000000) (implicitDefEqProofs := false) only [ruA, ruB, aEv, aTake, aLoad, aField, aLen, aBin, bin2, ASt.get, aget, ASt.put, ↓reduceIte, reduceCtorEq, Nat.reduceLT, Nat.reduceEqDiff, Nat.reduceAdd, Nat.reduceLeDiff, eq_self, ne_eq, aLenM, false_or, tyA_3, tyS_3, tyF_32_5, tyA_26, tyS_26, tyE_26, tyA_32, tyS_32, tyA_50, tyS_50, tyF_54_2, tyF_54_3] | (with_reducible refine aIf_split (fun _ => ?_) (fun _ => ?_)) | (with_reducible refine aSel_split (fun _ => ?_) (fun _ => ?_)) | (with_reducible refine aGd_split (fun _ => ?_) (fun _ => ?_))))
    all_goals first | with_reducible exact roundI (weak_cut1 (by (first | ((simp only [envIn, tabIn, envLt, tabLt, AObj.lt, AV.lt, AV.ltL, ruW, ASt.get, aget, ↓reduceIte, reduceCtorEq, Nat.reduceLT, Nat.reduceEqDiff, eq_self]) <;> (repeat' apply And.intro) <;> first | (rw [wrapK (by omega)]; done) | (simp; done) | omega) | fail))) ⟨k + 1, true, by omega, rfl⟩ (by simp only [slotN, ruW, ASt.get, aget, ASt.put, ↓reduceIte, reduceCtorEq, Nat.reduceLT, Nat.reduceEqDiff, Nat.reduceAdd, Nat.reduceLeDiff, eq_self, implies_true]; omega) | with_reducible exact roundI (weak_cut1 (by (first | ((simp only [envIn, tabIn, envLt, tabLt, AObj.lt, AV.lt, AV.ltL, ruW, ASt.get, aget, ↓reduceIte, reduceCtorEq, Nat.reduceLT, Nat.reduceEqDiff, eq_self]) <;> (repeat' apply And.intro) <;> first | (rw [wrapK (by omega)]; done) | (simp; done) | omega) | fail))) ⟨k + 1, false, by omega, rfl⟩ (by simp only [slotN, ASt.get, aget, ↓reduceIte, Nat.reduceLT, Nat.reduceEqDiff, eq_self]; omega) | skip
    · refine callPB (check11_A m m.miles[k].cond false (by omega)) fun x _ => ?_
      (repeat' (first | simp (maxSteps := 5000000) (implicitDefEqProofs := false) only [ruA, aEv, aBin, bin2, ASt.get, aget, ASt.put, ↓reduceIte, Nat.reduceLT, Nat.reduceEqDiff, eq_self] | (with_reducible refine aIf_split (fun _ => ?_) (fun _ => ?_)) | (with_reducible refine aSel_split (fun _ => ?_) (fun _ => ?_)) | (with_reducible refine aGd_split (fun _ => ?_) (fun _ => ?_))))
      exact roundI (weak_cut1 (by (first | ((simp only [envIn, tabIn, envLt, tabLt, AObj.lt, AV.lt, AV.ltL, ruW, ASt.get, aget, ↓reduceIte, reduceCtorEq, Nat.reduceLT, Nat.reduceEqDiff, eq_self]) <;> (repeat' apply And.intro) <;> first | (rw [wrapK (by omega)]; done) | (simp; done) | omega) | fail))) ⟨k + 1, x, by omega, rfl⟩ (by simp only [slotN, ASt.get, aget, ↓reduceIte, Nat.reduceLT, Nat.reduceEqDiff, eq_self]; omega)
    · refine callV (in_A _ _) ?_
      (repeat' (first | simp (maxSteps := 5000000) (implicitDefEqProofs := false) only [ruA, ruB, aEv, aTake, aLoad, aField, aBin, bin2, ASt.get, aget, ASt.put, ↓reduceIte, reduceCtorEq, Nat.reduceLT, Nat.reduceEqDiff, Nat.reduceAdd, Nat.reduceLeDiff, eq_self, tyA_32, tyS_32, tyA_50, tyS_50, tyF_54_3] | (with_reducible refine aIf_split (fun _ => ?_) (fun _ => ?_)) | (with_reducible refine aSel_split (fun _ => ?_) (fun _ => ?_)) | (with_reducible refine aGd_split (fun _ => ?_) (fun _ => ?_))))
      all_goals first | with_reducible exact roundI (weak_cut1 (by (first | ((simp only [envIn, tabIn, envLt, tabLt, AObj.lt, AV.lt, AV.ltL, ruW, ASt.get, aget, ↓reduceIte, reduceCtorEq, Nat.reduceLT, Nat.reduceEqDiff, eq_self]) <;> (repeat' apply And.intro) <;> first | (rw [wrapK (by omega)]; done) | (simp; done) | omega) | fail))) ⟨k + 1, true, by omega, rfl⟩ (by simp only [slotN, ruW, ASt.get, aget, ASt.put, ↓reduceIte, reduceCtorEq, Nat.reduceLT, Nat.reduceEqDiff, Nat.reduceAdd, Nat.reduceLeDiff, eq_self, implies_true]; omega) | with_reducible exact roundI (weak_cut1 (by (first | ((simp only [envIn, tabIn, envLt, tabLt, AObj.lt, AV.lt, AV.ltL, ruW, ASt.get, aget, ↓reduceIte, reduceCtorEq, Nat.reduceLT, Nat.reduceEqDiff, eq_self]) <;> (repeat' apply And.intro) <;> first | (rw [wrapK (by omega)]; done) | (simp; done) | omega) | fail))) ⟨k + 1, false, by omega, rfl⟩ (by simp only [slotN, ASt.get, aget, ↓reduceIte, Nat.reduceLT, Nat.reduceEqDiff, eq_self]; omega) | skip
      refine callPB (check11_A m m.miles[k].cond false (by omega)) fun x _ => ?_
      (repeat' (first | simp (maxSteps := 5000000) (implicitDefEqProofs := false) only [ruA, aEv, aBin, bin2, ASt.get, aget, ASt.put, ↓reduceIte, Nat.reduceLT, Nat.reduceEqDiff, eq_self] | (with_reducible refine aIf_split (fun _ => ?_) (fun _ => ?_)) | (with_reducible refine aSel_split (fun _ => ?_) (fun _ => ?_)) | (with_reducible refine aGd_split (fun _ => ?_) (fun _ => ?_))))
      exact roundI (weak_cut1 (by (first | ((simp only [envIn, tabIn, envLt, tabLt, AObj.lt, AV.lt, AV.ltL, ruW, ASt.get, aget, ↓reduceIte, reduceCtorEq, Nat.reduceLT, Nat.reduceEqDiff, eq_self]) <;> (repeat' apply And.intro) <;> first | (rw [wrapK (by omega)]; done) | (simp; done) | omega) | fail))) ⟨k + 1, x, by omega, rfl⟩ (by simp only [slotN, ASt.get, aget, ↓reduceIte, Nat.reduceLT, Nat.reduceEqDiff, eq_self]; omega)
  obtain rfl : k = m.miles.length := by omega
  (repeat' (first | simp (maxSteps := 5000000) (implicitDefEqProofs := false) only [ruA, ruB, aEv, aTake, aLoad, aField, aLen, aBin, bin2, ASt.get, aget, ASt.put, ↓reduceIte, reduceCtorEq, Nat.reduceLT, Nat.reduceEqDiff, Nat.reduceAdd, Nat.reduceLeDiff, eq_self, ne_eq, aLenM, false_or, tyF_32_7, tyA_28, tyS_28, tyE_28, hlt] | (with_reducible refine aIf_split (fun _ => ?_) (fun _ => ?_)) | (with_reducible refine aSel_split (fun _ => ?_) (fun _ => ?_)) | (with_reducible refine aGd_split (fun _ => ?_) (fun _ => ?_))))
  clear hk hlt
  refine aLoop_of (fun st => ∃ (k : Nat) (b : Bool), k ≤ m.sods.length ∧ st = ⟨233, [(1, .op 0 0 0), (3, eB b), (14, eI (k : Int))], [(0, some (.box 32 (eMod m)))], 1⟩) (fun st => m.sods.length - slotN st 14) ⟨_, (weak_cut1 (by (first | ((simp only [envIn, tabIn, envLt, tabLt, AObj.lt, AV.lt, AV.ltL, ruW, ASt.get, aget, ↓reduceIte, Nat.reduceLT, Nat.reduceEqDiff, eq_self]) <;> (repeat' apply And.intro) <;> first | (rw [wrapK (by omega)]; done) | (simp; done) | omega) | fail))), 0, b, Nat.zero_le _, rfl⟩ ?_
  clear b
  rintro _ ⟨k, b, hk, rfl⟩
  by_cases hlt : k < m.sods.length
  · (repeat' (first | simp (maxSteps := 5000000) (implicitDefEqProofs := false) only [ruA, ruB, aEv, aTake, aLoad, aField, aLen, aBin, bin2, ASt.get, aget, ASt.put, ↓reduceIte, reduceCtorEq, Nat.reduceLT, Nat.reduceEqDiff, Nat.reduceAdd, Nat.reduceLeDiff, eq_self, ne_eq, aLenM, false_or, tyF_32_8, tyA_29, tyS_29, tyE_29, hlt] | (with_reducible refine aIf_split (fun _ => ?_) (fun _ => ?_)) | (with_reducible refine aSel_split (fun _ => ?_) (fun _ => ?_)) | (with_reducible refine aGd_split (fun _ => ?_) (fun _ => ?_))))
    refine aDraw_quiet (by kernel_rfl) ?_
    (repeat' (first | simp (maxSteps := 5000000) (implicitDefEqProofs := false) only [ruA, ruB, aEv, aTake, aLoad, aField, aIndex, aLen, aBin, bin2, ASt.get, aget, ASt.put, ↓reduceIte, reduceCtorEq, Nat.reduceLT, Nat.reduceEqDiff, Nat.reduceAdd, Nat.reduceLeDiff, eq_self, ne_eq, dref, tyA_3, tyS_3, tyF_32_5, tyA_26, tyS_26, tyE_26, tyF_32_8, tyA_29, tyS_29, tyE_29, tyF_80_0, row_at, hlt] | (with_reducible refine aIf_split (fun _ => ?_) (fun _ => ?_)) | (with_reducible refine aSel_split (fun _ => ?_) (fun _ => ?_)) | (with_reducible refine aGd_split (fun _ => ?_) (fun _ => ?_))))
    all_goals first | with_reducible exact roundI (weak_cut1 (by (first | ((simp only [envIn, tabIn, envLt, tabLt, AObj.lt, AV.lt, AV.ltL, ruW, ASt.get, aget, ↓reduceIte, reduceCtorEq, Nat.reduceLT, Nat.reduceEqDiff, eq_self]) <;> (repeat' apply And.intro) <;> first | (rw [wrapK (by omega)]; done) | (simp; done) | omega) | fail))) ⟨k + 1, true, by omega, rfl⟩ (by simp only [slotN, ruW, ASt.get, aget, ASt.put, ↓reduceIte, reduceCtorEq, Nat.reduceLT, Nat.reduceEqDiff, Nat.reduceAdd, Nat.reduceLeDiff, eq_self, implies_true]; omega) | with_reducible exact roundI (weak_cut1 (by (first | ((simp only [envIn, tabIn, envLt, tabLt, AObj.lt, AV.lt, AV.ltL, ruW, ASt.get, aget, ↓reduceIte, Nat.reduceLT, Nat.reduceEqDiff, eq_self]) <;> (repeat' apply And.intro) <;> first | (rw [wrapK (by omega)]; done) | (simp; done) | omega) | fail))) ⟨k + 1, false, by omega, rfl⟩ (by simp only [slotN, ASt.get, aget, ↓reduceIte, Nat.reduceLT, Nat.reduceEqDiff, eq_self]; omega) | skip
    refine callD (in_A _ _) ?_
    (repeat' (first | simp (maxSteps := 5000000) (implicitDefEqProofs := false) only [ruA, ruB, aEv, aTake, aLoad, aField, aIndex, aLen, aBin, bin2, ASt.get, aget, ASt.put, ↓reduceIte, reduceCtorEq, Nat.reduceLT, Nat.reduceEqDiff, Nat.reduceAdd, Nat.reduceLeDiff, eq_self, ne_eq, dref, tyA_3, tyS_3, tyF_32_5, tyA_26, tyS_26, tyE_26, tyF_32_8, tyA_29, tyS_29, tyE_29, tyF_80_1, row_at, hlt] | (with_reducible refine aIf_split (fun _ => ?_) (fun _ => ?_)) | (with_reducible refine aSel_split (fun _ => ?_) (fun _ => ?_)) | (with_reducible refine aGd_split (fun _ => ?_) (fun _ => ?_))))
    all_goals first | with_reducible exact roundI (weak_cut1 (by (first | ((simp only [envIn, tabIn, envLt, tabLt, AObj.lt, AV.lt, AV.ltL, ruW, ASt.get, aget, ↓reduceIte, reduceCtorEq, Nat.reduceLT, Nat.reduceEqDiff, eq_self]) <;> (repeat' apply And.intro) <;> first | (rw [wrapK (by omega)]; done) | (simp; done) | omega) | fail))) ⟨k + 1, true, by omega, rfl⟩ (by simp only [slotN, ruW, ASt.get, aget, ASt.put, ↓reduceIte, reduceCtorEq, Nat.reduceLT, Nat.reduceEqDiff, Nat.reduceAdd, Nat.reduceLeDiff, eq_self, implies_true]; omega) | with_reducible exact roundI (weak_cut1 (by (first | ((simp only [envIn, tabIn, envLt, tabLt, AObj.lt, AV.lt, AV.ltL, ruW, ASt.get, aget, ↓reduceIte, Nat.reduceLT, Nat.reduceEqDiff, eq_self]) <;> (repeat' apply And.intro) <;> first | (rw [wrapK (by omega)]; done) | (simp; done) | omega) | fail))) ⟨k + 1, false, by omega, rfl⟩ (by simp only [slotN, ASt.get, aget, ↓reduceIte, Nat.reduceLT, Nat.reduceEqDiff, eq_self]; omega) | skip
    refine callD (in_A _ _) ?_
    (repeat' (first | simp (maxSteps := 5000000) (implicitDefEqProofs := false) only [ruA, ruB, aEv, aTake, aLoad, aField, aIndex, aBin, bin2, ASt.get, aget, ASt.put, ↓reduceIte, reduceCtorEq, Nat.reduceLT, Nat.reduceEqDiff, Nat.reduceAdd, Nat.reduceLeDiff, eq_self, tyA_3, tyS_3, tyF_32_8, tyA_29, tyS_29, tyE_29, tyF_80_0, tyF_80_1, row_at, hlt] | (with_reducible refine aIf_split (fun _ => ?_) (fun _ => ?_)) | (with_reducible refine aSel_split (fun _ => ?_) (fun _ => ?_)) | (with_reducible refine aGd_split (fun _ => ?_) (fun _ => ?_))))
    all_goals first | with_reducible exact roundI (weak_cut1 (by (first | ((simp only [envIn, tabIn, envLt, tabLt, AObj.lt, AV.lt, AV.ltL, ruW, ASt.get, aget, ↓reduceIte, reduceCtorEq, Nat.reduceLT, Nat.reduceEqDiff, eq_self]) <;> (repeat' apply And.intro) <;> first | (rw [wrapK (by omega)]; done) | (simp; done) | omega) | fail))) ⟨k + 1, true, by omega, rfl⟩ (by simp only [slotN, ruW, ASt.get, aget, ASt.put, ↓reduceIte, reduceCtorEq, Nat.reduceLT, Nat.reduceEqDiff, Nat.reduceAdd, Nat.reduceLeDiff, eq_self, implies_true]; omega) | with_reducible exact roundI (weak_cut1 (by (first | ((simp only [envIn, tabIn, envLt, tabLt, AObj.lt, AV.lt, AV.ltL, ruW, ASt.get, aget, ↓reduceIte, Nat.reduceLT, Nat.reduceEqDiff, eq_self]) <;> (repeat' apply And.intro) <;> first | (rw [wrapK (by omega)]; done) | (simp; done) | omega) | fail))) ⟨k + 1, false, by omega, rfl⟩ (by simp only [slotN, ASt.get, aget, ↓reduceIte, Nat.reduceLT, Nat.reduceEqDiff, eq_self]; omega) | with_reducible exact roundI (weak_cut1 (by (first | ((simp only [envIn, tabIn, envLt, tabLt, AObj.lt, AV.lt, AV.ltL, ruW, ASt.get, aget, ↓reduceIte, Nat.reduceLT, Nat.reduceEqDiff, eq_self]) <;> (repeat' apply And.intro) <;> first | (rw [wrapK (by omega)]; done) | (simp; done) | omega) | fail))) ⟨k + 1, (m.sods[k].1 != m.sods[k].2), by omega, rfl⟩ (by simp only [slotN, ASt.get, aget, ↓reduceIte, Nat.reduceLT, Nat.reduceEqDiff, eq_self]; omega) | skip
  obtain rfl : k = m.sods.length := by omega
  (repeat' (first | simp (maxSteps := 5000000) (implicitDefEqProofs := false) only [ruA, ruB, aEv, aTake, aLoad, aField, aLen, aBin, bin2, ASt.get, aget, ASt.put, aResL, aOne, ↓reduceIte, reduceCtorEq, Nat.reduceLT, Nat.reduceEqDiff, Nat.reduceAdd, Nat.reduceLeDiff, eq_self, ne_eq, aLenM, false_or, tyF_32_8, tyA_29, tyS_29, tyE_29, hlt] | (with_reducible refine aIf_split (fun _ => ?_) (fun _ => ?_)) | (with_reducible refine aSel_split (fun _ => ?_) (fun _ => ?_)) | (with_reducible refine aGd_split (fun _ => ?_) (fun _ => ?_))))
  exact retV ⟨_, rfl⟩
end
section
open Go.RowKit
/-- what is known of a model that may be -/
structure Chk (m : Mod) : Prop where
  attrs : m.attrs.length ≤ 5
  inits : m.inits.length = m.attrs.length
  users : m.users.length ≤ 4
  roles : m.roles.length ≤ 4
  stages : m.stages.length ≤ 8
  events : m.events.length ≤ 6
  guards : m.guards.length ≤ 12
  miles : m.miles.length ≤ 8
  sods : m.sods.length ≤ 6
  circle : circleL (pars m) < 0
set_option maxRecDepth 100000 in
set_option maxHeartbeats 8000000 in
theorem check13_A (m : Mod) (hf : Fit m) (hp : ∀ p ∈ m.stages, ok64 p.2) : ARel Try.prog 6 [.agg (eMod m)] fun R => ∃ b, R = val (.bool b) ∧ (b = true → Chk m) := by
  refine arel_of_code mixedT Try.func6 rfl (by decide) Try.ntmps6 Try.results6 rfl ?_
  obtain ⟨hg, hm, hst, hev, hat, hus, hro, hso, hor, -⟩ := id hf.sizes
  have hpl : (pars m).length ≤ 1073741824 := by simp [pars]; omega
  have hpo : ∀ x ∈ pars m, ok64 x := fun x hx => by
    obtain ⟨p, hp', rfl⟩ := List.mem_map.1 hx
    exact hp p hp'
  (repeat' (first | simp (maxSteps := 5000000) (implicitDefEqProofs := false) only [ruA, ruB, aEv, aTake, aLoad, aField, aLen, aBin, bin2, ASt.get, aget, ASt.put, aBox, aCells, oneC, oneCL, envOf, aResL, aOne, ↓reduceIte, reduceCtorEq, Nat.reduceLT, Nat.reduceEqDiff, Nat.reduceAdd, Nat.reduceLeDiff, eq_self, ne_eq, aLenM, false_or, tyF_32_0, tyA_22, tyS_22, tyE_22, tyF_32_1, tyA_23, tyS_23, tyE_23, tyF_32_2, tyF_32_3, tyA_24, tyS_24, tyE_24, tyF_32_4, tyA_25, tyS_25, tyE_25, tyF_32_5, tyA_26, tyS_26, tyE_26, tyF_32_6, tyA_27, tyS_27, tyE_27, tyF_32_7, tyA_28, tyS_28, tyE_28, tyF_32_8, tyA_29, tyS_29, tyE_29, tyA_32, tyS_32] | (with_reducible refine aIf_split (fun _ => ?_) (fun _ => ?_)) | (with_reducible refine aSel_split (fun _ => ?_) (fun _ => ?_)) | (with_reducible refine aGd_split (fun _ => ?_) (fun _ => ?_))))
  all_goals first | with_reducible exact retV ⟨false, rfl, fun h => by cases h⟩ | skip
  refine callPB (named_A m hf) fun b _ => ?_
  (repeat' (first | simp (maxSteps := 5000000) (implicitDefEqProofs := false) only [ruA, ruB, aEv, aTake, aLoad, aField, aUn, un1, ASt.get, aget, ASt.put, aResL, aOne, ↓reduceIte, reduceCtorEq, Nat.reduceLT, Nat.reduceEqDiff, Nat.reduceAdd, Nat.reduceLeDiff, eq_self, tyF_32_5, tyA_26, tyS_26] | (with_reducible refine aIf_split (fun _ => ?_) (fun _ => ?_)) | (with_reducible refine aSel_split (fun _ => ?_) (fun _ => ?_)) | (with_reducible refine aGd_split (fun _ => ?_) (fun _ => ?_))))
  all_goals first | with_reducible exact retV ⟨false, rfl, fun h => by cases h⟩ | skip
  refine callPI (writes_A m.events (by omega)) fun n => ?_
  (repeat' (first | simp (maxSteps := 5000000) (implicitDefEqProofs := false) only [ruA, ruB, aEv, aTake, aLoad, aBin, bin2, ASt.get, aget, ASt.put, aResL, aOne, ↓reduceIte, Nat.reduceLT, Nat.reduceEqDiff, Nat.reduceAdd, eq_self, tyA_32, tyS_32] | (with_reducible refine aIf_split (fun _ => ?_) (fun _ => ?_)) | (with_reducible refine aSel_split (fun _ => ?_) (fun _ => ?_)) | (with_reducible refine aGd_split (fun _ => ?_) (fun _ => ?_))))
  all_goals first | with_reducible exact retV ⟨false, rfl, fun h => by cases h⟩ | skip
  refine callO (refParents_A m (by omega)) (.inr ints_plain) ?_
  (repeat' (first | simp (maxSteps := 5000000) (implicitDefEqProofs := false) only [ruA, ruB, aEv, ASt.get, aget, ASt.put, ↓reduceIte, Nat.reduceLT, Nat.reduceEqDiff, Nat.reduceAdd, eq_self] | (with_reducible refine aIf_split (fun _ => ?_) (fun _ => ?_)) | (with_reducible refine aSel_split (fun _ => ?_) (fun _ => ?_)) | (with_reducible refine aGd_split (fun _ => ?_) (fun _ => ?_))))
  refine callV (circle_A (pars m) hpl hpo) ?_
  (repeat' (first | simp (maxSteps := 5000000) (implicitDefEqProofs := false) only [ruA, ruB, aEv, aTake, aLoad, aBin, bin2, ASt.get, aget, ASt.put, aResL, aOne, ↓reduceIte, reduceCtorEq, Nat.reduceLT, Nat.reduceEqDiff, Nat.reduceAdd, eq_self, tyA_32, tyS_32] | (with_reducible refine aIf_split (fun _ => ?_) (fun _ => ?_)) | (with_reducible refine aSel_split (fun _ => ?_) (fun _ => ?_)) | (with_reducible refine aGd_split (fun _ => ?_) (fun _ => ?_))))
  all_goals first | with_reducible exact retV ⟨false, rfl, fun h => by cases h⟩ | skip
  have chk : Chk m := by refine ⟨?_, ?_, ?_, ?_, ?_, ?_, ?_, ?_, ?_, ?_⟩ <;> (simp only [decide_eq_false_iff_not, bne_eq_false_iff_eq] at *; omega)
  refine callPO ((constsC_A m [] hf (by simp)).fits ⟨.one (.refl _), .one (.nil 7), trivial⟩) fun o _ => ?_
  (repeat' (first | simp (maxSteps := 5000000) (implicitDefEqProofs := false) only [ruA, ruB, aEv, aTake, aLoad, aLen, aBin, bin2, ASt.get, aget, ASt.put, aResL, aOne, ↓reduceIte, reduceCtorEq, Nat.reduceLT, Nat.reduceEqDiff, Nat.reduceAdd, eq_self, ne_eq, aLenM, false_or, tyE_23, tyA_32, tyS_32] | (with_reducible refine aIf_split (fun _ => ?_) (fun _ => ?_)) | (with_reducible refine aSel_split (fun _ => ?_) (fun _ => ?_)) | (with_reducible refine aGd_split (fun _ => ?_) (fun _ => ?_))))
  all_goals first | with_reducible exact retV ⟨false, rfl, fun h => by cases h⟩ | skip
  refine callP (order_A m hf) fun R hR => ?_
  rcases hR with ⟨od, rfl, hod⟩ | rfl
  · have e0 : ((0 : Int) == 0) = true := by decide
    refine ⟨.inr ⟨⟨trivial, trivial, trivial⟩, pairs_plain, trivial⟩, ?_⟩
    simp only [AV.shift, AV.shiftL, ATab.shift]
    (repeat' (first | simp (maxSteps := 5000000) (implicitDefEqProofs := false) only [ruA, ruB, aEv, aTake, aLoad, aField, aBin, bin2, aExtract, ASt.get, aget, ASt.put, ↓reduceIte, reduceCtorEq, Nat.reduceLT, Nat.reduceEqDiff, Nat.reduceAdd, eq_self, tyF_32_9, tyA_30, tyS_30, e0] | (with_reducible refine aIf_split (fun _ => ?_) (fun _ => ?_)) | (with_reducible refine aSel_split (fun _ => ?_) (fun _ => ?_)) | (with_reducible refine aGd_split (fun _ => ?_) (fun _ => ?_))))
    refine callPB (same12_A od m.order (by omega) (by omega)) fun x _ => ?_
    (repeat' (first | simp (maxSteps := 5000000) (implicitDefEqProofs := false) only [ruA, aEv, ASt.get, aget, ASt.put, aResL, aOne, ↓reduceIte, Nat.reduceLT, Nat.reduceEqDiff, eq_self] | (with_reducible refine aIf_split (fun _ => ?_) (fun _ => ?_)) | (with_reducible refine aSel_split (fun _ => ?_) (fun _ => ?_)) | (with_reducible refine aGd_split (fun _ => ?_) (fun _ => ?_))))
    exact retV ⟨_, rfl, fun _ => chk⟩
  · have e0 : ((10 : Int) == 0) = false := by decide
    refine ⟨.inr ⟨⟨trivial, trivial, trivial⟩, trivial⟩, ?_⟩
    simp only [AV.shift, AV.shiftL, ATab.shift]
    (repeat' (first | simp (maxSteps := 5000000) (implicitDefEqProofs := false) only [ruA, ruB, aEv, aBin, bin2, aExtract, ASt.get, aget, ASt.put, aResL, aOne, ↓reduceIte, Nat.reduceLT, Nat.reduceEqDiff, Nat.reduceAdd, eq_self, e0] | (with_reducible refine aIf_split (fun _ => ?_) (fun _ => ?_)) | (with_reducible refine aSel_split (fun _ => ?_) (fun _ => ?_)) | (with_reducible refine aGd_split (fun _ => ?_) (fun _ => ?_))))
    exact retV ⟨false, rfl, fun h => by cases h⟩
end
section
open Go.RowKit
theorem above_step {l : List Int} (hn : ∀ k : Nat, k < l.length → ¬ circ l (k : Int)) {i p x : Int} (hi : isAt l i) (hp : isAt l p) (hpar : par l i = p) (h0 : 0 ≤ x) (hx : x ∈ aboveL l p) : x ∈ aboveL l i := by
  obtain ⟨m, q, h, hs⟩ := up_end l i
  have hc := no_circle_stop hn hi h hs
  obtain ⟨j, h1, h2, h3⟩ := mem_above_up hx
  have e : ∀ j, upN l i (j + 1) = upN l p j := by
    intro j
    induction j with
    | zero =>
      rw [upN_one, hpar]
      rcases norm_cases l p with h | h
      · exact h.2.symm
      · exact absurd hp h.1
    | succ j ih =>
      show par l (upN l i (j + 1)) = par l (upN l p j)
      rw [ih]
  rcases up_all h hs (.inl (by rw [hc]; have := hi.1; omega)) j with h4 | h4
  · rw [e, h3] at h4
    omega
  · rw [e, h3] at h4
    exact h4
theorem par_up {l : List Int} {i p : Int} (hi : isAt l i) (hp : isAt l p) (hpar : par l i = p) (hne : p ≠ i) (hn : ∀ k : Nat, k < l.length → ¬ circ l (k : Int)) : p ∈ aboveL l i := by
  obtain ⟨m, q, h, hs⟩ := up_end l i
  have hc := no_circle_stop hn hi h hs
  rcases up_all h hs (.inl (by rw [hc]; have := hi.1; omega)) 0 with h4 | h4
  · rw [upN_one, hpar] at h4
    have := hp.1
    omega
  · rw [upN_one, hpar] at h4
    exact h4
theorem hasB_fold : ∀ (l : List Int) (o j : Int), hasB (l.foldl withoutB o) j = true ↔ hasB o j = true ∧ j ∉ l
  | [], o, j => by simp
  | i :: l, o, j => by
    rw [List.foldl_cons, hasB_fold l, hasB_without]
    simp only [Bool.and_eq_true, Bool.not_eq_true', beq_eq_false_iff_ne, ne_eq, List.mem_cons, not_or]
    exact ⟨fun ⟨⟨h1, h2⟩, h3⟩ => ⟨h2, h1, h3⟩, fun ⟨h1, h2, h3⟩ => ⟨⟨h2, h1⟩, h3⟩⟩
theorem hasB_undo (l : List Ml) (st d : Int) (i : Nat) : ∀ k, hasB (undo l st d k) (i : Int) = true → hasB d (i : Int) = true ∧ (i < k → l[i]?.map (·.stage) ≠ some st)
  | 0, h => ⟨h, fun h => by omega⟩
  | k + 1, h => by
    unfold undo at h
    split at h
    · rename_i hk
      rw [hasB_without] at h
      simp only [Bool.and_eq_true, Bool.not_eq_true', beq_eq_false_iff_ne, ne_eq] at h
      obtain ⟨h1, h2⟩ := hasB_undo l st d i k h.2
      exact ⟨h1, fun hik => h2 (by omega)⟩
    · rename_i hk
      obtain ⟨h1, h2⟩ := hasB_undo l st d i k h
      refine ⟨h1, fun hik => ?_⟩
      rcases Nat.lt_or_ge i k with h3 | h3
      · exact h2 h3
      · obtain rfl : i = k := by omega
        exact hk
def inR (o : Int) : Prop := 0 ≤ o ∧ o < 2147483648
theorem low_in (s : Int) : inR (low s : Int) := by
  have := low_lt s
  unfold inR
  omega
theorem withB_in (s i : Int) : inR (withB s i) := by
  unfold withB
  split
  · rename_i h
    have h1 : low s ||| 2 ^ i.toNat < 2 ^ 31 := Nat.or_lt_two_pow (low_lt s) (Nat.pow_lt_pow_right (by omega) (by omega))
    unfold inR
    omega
  · exact low_in s
theorem withoutB_in (s i : Int) : inR (withoutB s i) := by
  unfold withoutB
  split
  · rename_i h
    have h1 : low s ^^^ (low s &&& 2 ^ i.toNat) < 2 ^ 31 := Nat.xor_lt_two_pow (low_lt s) (Nat.and_lt_two_pow _ (Nat.pow_lt_pow_right (by omega) (by omega)))
    unfold inR
    omega
  · exact low_in s
theorem fold_in : ∀ (l : List Int) (o : Int), inR o → inR (l.foldl withoutB o)
  | [], o, h => h
  | i :: l, o, _ => fold_in l _ (withoutB_in o i)
theorem undo_in (l : List Ml) (st d : Int) (h : inR d) : ∀ k, inR (undo l st d k)
  | 0 => h
  | k + 1 => by
    unfold undo
    split
    · exact withoutB_in _ _
    · exact undo_in l st d h k
/-- where a stage is open, the one that it lies in is open -/
def sndP (m : Mod) (o : Int) : Prop := ∀ i (h : i < m.stages.length), 0 ≤ m.stages[i].2 → m.stages[i].2 < (m.stages.length : Int) → hasB o (i : Int) = true → hasB o m.stages[i].2 = true
theorem soundK_iff (m : Mod) (o : Int) : ∀ k, soundK m o k = true ↔ ∀ i, i < k → soundAt m o i = true
  | 0 => by simp [soundK]
  | k + 1 => by
    simp only [soundK, Bool.and_eq_true, soundK_iff m o k]
    refine ⟨fun ⟨h1, h2⟩ i hi => ?_, fun h => ⟨fun i hi => h i (by omega), h k (by omega)⟩⟩
    rcases Nat.lt_or_ge i k with h3 | h3
    · exact h1 i h3
    · obtain rfl : i = k := by omega
      exact h2
theorem sound_iff (m : Mod) (o : Int) : soundK m o m.stages.length = true ↔ sndP m o := by
  rw [soundK_iff]
  unfold sndP
  refine ⟨fun h i hi h1 h2 h3 => ?_, fun h i hi => ?_⟩
  · have := h i hi
    unfold soundAt at this
    rw [List.getElem?_eq_getElem hi] at this
    simp only [h1, h2, h3, decide_true, Bool.and_self, Bool.not_true, Bool.false_or] at this
    exact this
  · unfold soundAt
    rw [List.getElem?_eq_getElem hi]
    simp only
    by_cases h1 : 0 ≤ m.stages[i].2
    · by_cases h2 : m.stages[i].2 < (m.stages.length : Int)
      · cases h3 : hasB o (i : Int) with
        | false => simp [h1, h2]
        | true => simp [h1, h2, h i hi h1 h2 h3]
      · simp [h2]
    · simp [h1]
theorem pars_par {m : Mod} {i : Nat} (hi : i < m.stages.length) (h1 : 0 ≤ m.stages[i].2) (h2 : m.stages[i].2 < (m.stages.length : Int)) : par (pars m) (i : Int) = m.stages[i].2 ∧ isAt (pars m) m.stages[i].2 ∧ isAt (pars m) (i : Int) := by
  have hl : (pars m).length = m.stages.length := by simp [pars]
  have ha : isAt (pars m) (i : Int) := ⟨by omega, by rw [hl]; omega⟩
  have hb : isAt (pars m) m.stages[i].2 := ⟨h1, by rw [hl]; exact h2⟩
  refine ⟨?_, hb, ha⟩
  unfold par
  rw [if_pos ha]
  have e : (pars m).getD (i : Int).toNat 0 = m.stages[i].2 := by simp [pars, hi]
  rw [e]
  unfold norm
  rw [if_pos hb]
theorem turn_sound {m : Mod} (hc : circleL (pars m) < 0) (s : St) (x : Bool × Int) (event : Int) (hs : sndP m s.opn) : sndP m (turnM m event s x).opn := by
  have hn := circle_none _ hc
  unfold turnM
  split
  · rename_i hf
    unfold fireM
    unfold firesM readyM at hf
    cases hx : sentryM m x with
    | none => simpa [hx] using hs
    | some q =>
      obtain ⟨st, ev, cond, mi⟩ := q
      rw [hx] at hf
      simp only [Bool.and_eq_true] at hf
      obtain ⟨⟨hin, ⟨-, hop⟩, hab⟩, -⟩ := hf
      have hst : isAt (pars m) st := by
        simp [inS] at hin
        exact ⟨hin.1, by simpa [pars] using hin.2⟩
      simp only [hin, if_true]
      split
      · rename_i hm
        intro i hi h1 h2 h3
        simp only [hasB_fold, List.mem_append, List.mem_singleton, not_or] at h3 ⊢
        obtain ⟨h3, h4, h5⟩ := h3
        obtain ⟨e1, e2, e3⟩ := pars_par hi h1 h2
        refine ⟨hs i hi h1 h2 h3, fun h6 => h4 ?_, fun h6 => h4 ?_⟩
        · refine (both_ways _ _ _ hst e3).1 ?_
          exact above_step hn e3 e2 e1 hst.1 ((both_ways _ _ _ hst e2).2 h6)
        · refine (both_ways _ _ _ hst e3).1 ?_
          have := par_up e3 e2 e1 (by rw [h6]; exact fun e => h5 e.symm) hn
          rwa [h6] at this
      · rename_i hm
        intro i hi h1 h2 h3
        simp only at h3 ⊢
        rw [hasB_with] at h3 ⊢
        simp only [Bool.or_eq_true, Bool.and_eq_true, decide_eq_true_eq, beq_iff_eq] at h3 ⊢
        right
        rcases h3 with ⟨_, h3⟩ | h3
        · have hx1 : x.1 = false := by simpa using hm
          rw [hx1] at hab
          simp only [Bool.false_or] at hab
          have e : (m.stages.getD st.toNat (⟨#[]⟩, 0)) = m.stages[i] := by
            rw [← h3]
            simp [hi]
          unfold aboveM at hab
          rw [e] at hab
          simp only [Bool.or_eq_true, beq_iff_eq, Bool.and_eq_true] at hab
          rcases hab with h | h
          · omega
          · exact h.2
        · exact hs i hi h1 h2 h3
  · exact hs
theorem fold_sound {m : Mod} (hc : circleL (pars m) < 0) (event : Int) : ∀ (l : List (Bool × Int)) (s : St), sndP m s.opn → sndP m (l.foldl (turnM m event) s).opn
  | [], s, h => h
  | x :: l, s, h => fold_sound hc event l _ (turn_sound hc s x event h)
end
section
open Go.RowKit
theorem two_no : ((2 : Int) = 0) = False := by simp
set_option maxRecDepth 100000 in
set_option maxHeartbeats 4000000 in
theorem hasR_A (s i : Int) (hs : ok64 s) : ADet Try.prog 29 [eI s, eI i] (val (.bool (hasB s i))) := by
  refine adet_of_code mixedT Try.func29 rfl (by decide) Try.ntmps29 Try.results29 rfl (val_ok _) ?_
  (repeat' (first | simp (maxSteps := 5000000) (implicitDefEqProofs := false) only [ruA, ruB, aEv, aBin, bin2, ASt.get, aget, ASt.put, envOf, aResL, aOne, ↓reduceIte, Nat.reduceLT, Nat.reduceEqDiff, eq_self] | (with_reducible refine aIf_split (fun _ => ?_) (fun _ => ?_)) | (with_reducible refine aSel_split (fun _ => ?_) (fun _ => ?_)) | (with_reducible refine aGd_split (fun _ => ?_) (fun _ => ?_))))
  · rename_i h
    simp at h
    simp [hasB]
    omega
  · rename_i h1 h2
    simp at h1 h2
    simp [hasB]
    omega
  · rename_i h1 h2
    simp at h1 h2
    obtain ⟨q, rfl⟩ : ∃ q : Nat, i = (q : Int) := ⟨i.toNat, by omega⟩
    have e0 : s / 2 ^ 0 = s := by simp
    refine aLoop_of (fun st => ∃ k : Nat, k ≤ q ∧ st = ⟨31, [(0, eI (s / 2 ^ k)), (1, eI (q : Int)), (5, eI (k : Int))], [], 0⟩) (fun st => q - slotN st 5) ⟨_, (weak_cut1 (by (first | ((simp only [envIn, tabIn, envLt, tabLt, AV.lt, ruW, ASt.get, aget, ↓reduceIte, reduceCtorEq, Nat.reduceLT, Nat.reduceEqDiff, eq_self, e0]) <;> (repeat' apply And.intro) <;> first | (rw [wrapK (by omega)]; done) | (simp; done) | omega) | fail))), 0, Nat.zero_le _, rfl⟩ ?_
    rintro _ ⟨k, hk, rfl⟩
    have hp : (1 : Int) ≤ 2 ^ k := Int.pow_pos (by omega)
    have hd0 : -9223372036854775808 ≤ s / 2 ^ k := by
      refine Int.le_ediv_of_mul_le (by omega) ?_
      have := hs.1
      generalize (2 : Int) ^ k = p at *
      omega
    have hd1 : s / 2 ^ k ≤ 9223372036854775807 := by
      by_cases h : s < 0
      · have := Int.ediv_neg_of_neg_of_pos h (by omega : (0 : Int) < 2 ^ k)
        omega
      · exact Int.le_trans (Int.ediv_le_self _ (by omega)) hs.2
    have ed : s / 2 ^ (k + 1) = s / 2 ^ k / 2 := by
      rw [Int.pow_succ, Int.ediv_ediv_of_nonneg (Int.le_of_lt (Int.pow_pos (by omega)))]
    generalize hx : s / 2 ^ k = x at *
    by_cases hxn : x % 2 = 1 ∧ x < 0
    · have et : x.tmod 2 = -1 := by
        have h3 : x.tmod 2 = -((-x) % 2) := by
          rw [← Int.tmod_eq_emod_of_nonneg (by omega), Int.neg_tmod]
          omega
        omega
      have en : decide ((-1 : Int) < 0) = true := by decide
      have em : IntKind.i64.wrap (0 - (-1)) = 1 := by decide
      have ew : IntKind.i64.wrap (x - 1) = x - 1 := wrap_in (by omega) (by omega)
      have eq : (x - 1).tdiv 2 = x / 2 := by
        have h3 : (2 : Int) ∣ x - 1 := ⟨x / 2, by omega⟩
        rw [Int.tdiv_eq_ediv_of_dvd h3]
        omega
      by_cases hlt : k < q
      · (repeat' (first | simp (maxSteps := 5000000) (implicitDefEqProofs := false) only [ruA, ruB, aEv, aBin, bin2, aUn, un1, ASt.get, aget, ASt.put, ↓reduceIte, reduceCtorEq, Nat.reduceLT, Nat.reduceEqDiff, eq_self, hlt, two_no, et, en, em, ew, eq] | (with_reducible refine aIf_split (fun _ => ?_) (fun _ => ?_)) | (with_reducible refine aSel_split (fun _ => ?_) (fun _ => ?_)) | (with_reducible refine aGd_split (fun _ => ?_) (fun _ => ?_))))
        have ew2 : IntKind.i64.wrap (x / 2) = x / 2 := wrap_in (by omega) (by omega)
        exact roundI (weak_cut1 (by (first | ((simp only [envIn, tabIn, envLt, tabLt, AV.lt, ruW, ASt.get, aget, ↓reduceIte, reduceCtorEq, Nat.reduceLT, Nat.reduceEqDiff, eq_self, ed, ew2]) <;> (repeat' apply And.intro) <;> first | (rw [wrapK (by omega)]; done) | (simp; done) | omega) | fail))) ⟨k + 1, by omega, rfl⟩ (by simp only [slotN, ruW, ASt.get, aget, ↓reduceIte, Nat.reduceLT, Nat.reduceEqDiff, eq_self]; omega)
      · obtain rfl : k = q := by omega
        (repeat' (first | simp (maxSteps := 5000000) (implicitDefEqProofs := false) only [ruA, ruB, aEv, aBin, bin2, ASt.get, aget, ASt.put, aResL, aOne, ↓reduceIte, reduceCtorEq, Nat.reduceLT, Nat.reduceEqDiff, eq_self, hlt, two_no, et] | (with_reducible refine aIf_split (fun _ => ?_) (fun _ => ?_)) | (with_reducible refine aSel_split (fun _ => ?_) (fun _ => ?_)) | (with_reducible refine aGd_split (fun _ => ?_) (fun _ => ?_))))
        have hk31 : (k : Int) < 31 := by omega
        simp [hasB, hx, hk31, hxn.1]
    have et : x.tmod 2 = x % 2 := by
      by_cases h : x < 0
      · have h0 : x % 2 = 0 := by omega
        rw [h0]
        exact Int.tmod_eq_zero_of_dvd ⟨x / 2, by omega⟩
      · exact Int.tmod_eq_emod_of_nonneg (by omega)
    have en : decide (x % 2 < 0) = false := by simp; omega
    have ew : IntKind.i64.wrap (x - x % 2) = x - x % 2 := wrap_in (by omega) (by omega)
    have eq : (x - x % 2).tdiv 2 = x / 2 := by
      have h3 : (2 : Int) ∣ x - x % 2 := ⟨x / 2, by omega⟩
      rw [Int.tdiv_eq_ediv_of_dvd h3]
      omega
    by_cases hlt : k < q
    · (repeat' (first | simp (maxSteps := 5000000) (implicitDefEqProofs := false) only [ruA, ruB, aEv, aBin, bin2, ASt.get, aget, ASt.put, ↓reduceIte, reduceCtorEq, Nat.reduceLT, Nat.reduceEqDiff, eq_self, hlt, two_no, et, en, ew, eq] | (with_reducible refine aIf_split (fun _ => ?_) (fun _ => ?_)) | (with_reducible refine aSel_split (fun _ => ?_) (fun _ => ?_)) | (with_reducible refine aGd_split (fun _ => ?_) (fun _ => ?_))))
      have ew2 : IntKind.i64.wrap (x / 2) = x / 2 := wrap_in (by omega) (by omega)
      exact roundI (weak_cut1 (by (first | ((simp only [envIn, tabIn, envLt, tabLt, AV.lt, ruW, ASt.get, aget, ↓reduceIte, reduceCtorEq, Nat.reduceLT, Nat.reduceEqDiff, eq_self, ed, ew2]) <;> (repeat' apply And.intro) <;> first | (rw [wrapK (by omega)]; done) | (simp; done) | omega) | fail))) ⟨k + 1, by omega, rfl⟩ (by simp only [slotN, ruW, ASt.get, aget, ↓reduceIte, Nat.reduceLT, Nat.reduceEqDiff, eq_self]; omega)
    · obtain rfl : k = q := by omega
      (repeat' (first | simp (maxSteps := 5000000) (implicitDefEqProofs := false) only [ruA, ruB, aEv, aBin, bin2, ASt.get, aget, ASt.put, aResL, aOne, ↓reduceIte, reduceCtorEq, Nat.reduceLT, Nat.reduceEqDiff, eq_self, hlt, two_no, et] | (with_reducible refine aIf_split (fun _ => ?_) (fun _ => ?_)) | (with_reducible refine aSel_split (fun _ => ?_) (fun _ => ?_)) | (with_reducible refine aGd_split (fun _ => ?_) (fun _ => ?_))))
      have hk31 : (k : Int) < 31 := by omega
      simp [hasB, hx, hk31]
      rcases Int.emod_two_eq x with h | h <;> simp [h]
end
section
open Go.RowKit
def in31 (o : Int) : Prop := 0 ≤ o ∧ o < 2147483648
theorem in31_ok {o : Int} (h : in31 o) : ok64 o := by unfold in31 at h; unfold ok64; omega
end
end Go.Proofs.Ytcindbpnaicemaa
