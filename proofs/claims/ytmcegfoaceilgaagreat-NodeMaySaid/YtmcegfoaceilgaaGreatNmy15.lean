/-
  Parts of the proof: C19, C20, NC, EvOpen, ModOpen.
-/
import Derived.Test.YtmcegfoaceilgaaGreatNmy14
import Derived.Test.YtmcegfoaceilgaaGreatProg
set_option linter.unusedVariables false
set_option linter.unusedSimpArgs false
namespace Go.Proofs.YtmcegfoaceilgaaGreat
section
open Go.RowKit
theorem sets_E (m : Mod) (l : List Int) (hl : l.length ≤ 1000000) : ∃ b, ADet Tryz.prog 62 [.agg (eMod m), sI l] (val (.bool b)) := by
  classical
  exact ⟨decide (∀ i (h : i < l.length), inB l[i] m.attrs.length = true ∧ ∀ j (h : j < i), l[j] ≠ l[i]), sets_A m l hl _ (by simp)⟩
set_option maxRecDepth 100000 in
set_option maxHeartbeats 8000000 in
theorem named_A (m : Mod) (hf : Fit m) : ARel Tryz.prog 34 [.agg (eMod m)] fun R => ∃ b, R = val (.bool b) ∧ True := by
  refine arel_of_code mixedT Tryz.func34 rfl (by decide) Tryz.ntmps34 Tryz.results34 rfl ?_
  obtain ⟨hg, hm, hst, hev, hat, hus, hro, hso, -⟩ := id hf.sizes
  (repeat' (first | simp (maxSteps := 5000000) (implicitDefEqProofs := false) only [ruA, ruB, aEv, ASt.get, aget, ASt.put, aBox, aCells, oneC, oneCL, envOf, ↓reduceIte, Nat.reduceLT, eq_self] | (with_reducible refine aIf_split (fun _ => ?_) (fun _ => ?_)) | (with_reducible refine aSel_split (fun _ => ?_) (fun _ => ?_)) | (with_reducible refine aGd_split (fun _ => ?_) (fun _ => ?_))))
  refine aLoop_of (fun st => ∃ (k : Nat) (b : Bool), k ≤ m.roles.length ∧ st = ⟨233, [(1, .op 0 0 0), (3, eB b), (4, eI (k : Int))], [(0, some (.box 32 (eMod m)))], 1⟩) (fun st => m.roles.length - slotN st 4) ⟨_, (weak_cut1 (by (first | ((simp only [envIn, tabIn, envLt, tabLt, AObj.lt, AV.lt, AV.ltL, ruW, ASt.get, aget, ↓reduceIte, Nat.reduceLT, Nat.reduceEqDiff, eq_self]) <;> (repeat' apply And.intro) <;> first | (rw [wrapK (by omega)]; done) | (simp; done) | omega) | fail))), 0, true, Nat.zero_le _, rfl⟩ ?_
  rintro _ ⟨k, b, hk, rfl⟩
  by_cases hlt : k < m.roles.length
  · (repeat' (first | simp (maxSteps := 5000000) (implicitDefEqProofs := false) only [ruA, ruB, aEv, aTake, aLoad, aField, aIndex, aLen, aBin, bin2, ASt.get, aget, ASt.put, ↓reduceIte, reduceCtorEq, Nat.reduceLT, Nat.reduceEqDiff, Nat.reduceAdd, Nat.reduceLeDiff, eq_self, ne_eq, tyF_32_3, tyA_24, tyS_24, tyE_24, tyF_98_1, tyA_3, tyS_3, tyF_32_2, tyA_22, tyS_22, tyE_22, row_at, hlt] | (with_reducible refine aIf_split (fun _ => ?_) (fun _ => ?_)) | (with_reducible refine aSel_split (fun _ => ?_) (fun _ => ?_)) | (with_reducible refine aGd_split (fun _ => ?_) (fun _ => ?_))))
    all_goals first | with_reducible exact roundI (weak_cut1 (by (first | ((simp only [envIn, tabIn, envLt, tabLt, AObj.lt, AV.lt, AV.ltL, ruW, ASt.get, aget, ↓reduceIte, reduceCtorEq, Nat.reduceLT, Nat.reduceEqDiff, eq_self]) <;> (repeat' apply And.intro) <;> first | (rw [wrapK (by omega)]; done) | (simp; done) | omega) | fail))) ⟨k + 1, true, by omega, rfl⟩ (by simp only [slotN, ruW, ASt.get, aget, ASt.put, ↓reduceIte, reduceCtorEq, Nat.reduceLT, Nat.reduceEqDiff, Nat.reduceAdd, Nat.reduceLeDiff, eq_self, implies_true]; omega) | with_reducible exact roundI (weak_cut1 (by (first | ((simp only [envIn, tabIn, envLt, tabLt, AObj.lt, AV.lt, AV.ltL, ruW, ASt.get, aget, ↓reduceIte, Nat.reduceLT, Nat.reduceEqDiff, eq_self]) <;> (repeat' apply And.intro) <;> first | (rw [wrapK (by omega)]; done) | (simp; done) | omega) | fail))) ⟨k + 1, false, by omega, rfl⟩ (by simp only [slotN, ruW, ASt.get, aget, ↓reduceIte, Nat.reduceLT, Nat.reduceEqDiff, eq_self]; omega) | skip
    refine callPI (all_A m.users.length (by omega)) fun v => ?_
    (repeat' (first | simp (maxSteps := 5000000) (implicitDefEqProofs := false) only [ruA, ruB, aEv, aBin, bin2, ASt.get, aget, ASt.put, ↓reduceIte, Nat.reduceLT, Nat.reduceEqDiff, eq_self] | (with_reducible refine aIf_split (fun _ => ?_) (fun _ => ?_)) | (with_reducible refine aSel_split (fun _ => ?_) (fun _ => ?_)) | (with_reducible refine aGd_split (fun _ => ?_) (fun _ => ?_))))
    exact roundI (weak_cut1 (by (first | ((simp only [envIn, tabIn, envLt, tabLt, AObj.lt, AV.lt, AV.ltL, ruW, ASt.get, aget, ↓reduceIte, Nat.reduceLT, Nat.reduceEqDiff, eq_self]) <;> (repeat' apply And.intro) <;> first | (rw [wrapK (by omega)]; done) | (simp; done) | omega) | fail))) ⟨k + 1, decide (m.roles[k].2 ≤ v), by omega, rfl⟩ (by simp only [slotN, ruW, ASt.get, aget, ↓reduceIte, Nat.reduceLT, Nat.reduceEqDiff, eq_self]; omega)
  obtain rfl : k = m.roles.length := by omega
  (repeat' (first | simp (maxSteps := 5000000) (implicitDefEqProofs := false) only [ruA, ruB, aEv, aTake, aLoad, aField, aLen, aBin, bin2, ASt.get, aget, ASt.put, ↓reduceIte, reduceCtorEq, Nat.reduceLT, Nat.reduceEqDiff, Nat.reduceAdd, Nat.reduceLeDiff, eq_self, ne_eq, tyF_32_3, tyA_24, tyS_24, tyE_24, hlt] | (with_reducible refine aIf_split (fun _ => ?_) (fun _ => ?_)) | (with_reducible refine aSel_split (fun _ => ?_) (fun _ => ?_)) | (with_reducible refine aGd_split (fun _ => ?_) (fun _ => ?_))))
  clear hk hlt
  refine aLoop_of (fun st => ∃ (k : Nat) (b : Bool), k ≤ m.stages.length ∧ st = ⟨233, [(1, .op 0 0 0), (3, eB b), (6, eI (k : Int))], [(0, some (.box 32 (eMod m)))], 1⟩) (fun st => m.stages.length - slotN st 6) ⟨_, (weak_cut1 (by (first | ((simp only [envIn, tabIn, envLt, tabLt, AObj.lt, AV.lt, AV.ltL, ruW, ASt.get, aget, ↓reduceIte, Nat.reduceLT, Nat.reduceEqDiff, eq_self]) <;> (repeat' apply And.intro) <;> first | (rw [wrapK (by omega)]; done) | (simp; done) | omega) | fail))), 0, b, Nat.zero_le _, rfl⟩ ?_
  clear b
  rintro _ ⟨k, b, hk, rfl⟩
  by_cases hlt : k < m.stages.length
  · (repeat' (first | simp (maxSteps := 5000000) (implicitDefEqProofs := false) only [ruA, ruB, aEv, aTake, aLoad, aField, aIndex, aLen, aBin, bin2, ASt.get, aget, ASt.put, ↓reduceIte, reduceCtorEq, Nat.reduceLT, Nat.reduceEqDiff, Nat.reduceAdd, Nat.reduceLeDiff, eq_self, ne_eq, tyA_3, tyS_3, tyF_32_4, tyA_25, tyS_25, tyE_25, tyF_100_1, row_at, hlt] | (with_reducible refine aIf_split (fun _ => ?_) (fun _ => ?_)) | (with_reducible refine aSel_split (fun _ => ?_) (fun _ => ?_)) | (with_reducible refine aGd_split (fun _ => ?_) (fun _ => ?_))))
    all_goals first | with_reducible exact roundI (weak_cut1 (by (first | ((simp only [envIn, tabIn, envLt, tabLt, AObj.lt, AV.lt, AV.ltL, ruW, ASt.get, aget, ↓reduceIte, reduceCtorEq, Nat.reduceLT, Nat.reduceEqDiff, eq_self]) <;> (repeat' apply And.intro) <;> first | (rw [wrapK (by omega)]; done) | (simp; done) | omega) | fail))) ⟨k + 1, true, by omega, rfl⟩ (by simp only [slotN, ASt.get, aget, ↓reduceIte, Nat.reduceLT, Nat.reduceEqDiff, eq_self]; omega) | with_reducible exact roundI (weak_cut1 (by (first | ((simp only [envIn, tabIn, envLt, tabLt, AObj.lt, AV.lt, AV.ltL, ruW, ASt.get, aget, ↓reduceIte, Nat.reduceLT, Nat.reduceEqDiff, eq_self]) <;> (repeat' apply And.intro) <;> first | (rw [wrapK (by omega)]; done) | (simp; done) | omega) | fail))) ⟨k + 1, false, by omega, rfl⟩ (by simp only [slotN, ASt.get, aget, ↓reduceIte, Nat.reduceLT, Nat.reduceEqDiff, eq_self]; omega) | skip
    refine callV (in_A m.stages[k].2 m.stages.length) ?_
    (repeat' (first | simp (maxSteps := 5000000) (implicitDefEqProofs := false) only [ruA, ruB, aEv, aBin, bin2, ASt.get, aget, ASt.put, ↓reduceIte, Nat.reduceLT, Nat.reduceEqDiff, eq_self] | (with_reducible refine aIf_split (fun _ => ?_) (fun _ => ?_)) | (with_reducible refine aSel_split (fun _ => ?_) (fun _ => ?_)) | (with_reducible refine aGd_split (fun _ => ?_) (fun _ => ?_))))
    exact roundI (weak_cut1 (by (first | ((simp only [envIn, tabIn, envLt, tabLt, AObj.lt, AV.lt, AV.ltL, ruW, ASt.get, aget, ↓reduceIte, Nat.reduceLT, Nat.reduceEqDiff, eq_self]) <;> (repeat' apply And.intro) <;> first | (rw [wrapK (by omega)]; done) | (simp; done) | omega) | fail))) ⟨k + 1, inB m.stages[k].2 m.stages.length, by omega, rfl⟩ (by simp only [slotN, ASt.get, aget, ↓reduceIte, Nat.reduceLT, Nat.reduceEqDiff, eq_self]; omega)
  obtain rfl : k = m.stages.length := by omega
  (repeat' (first | simp (maxSteps := 5000000) (implicitDefEqProofs := false) only [ruA, ruB, aEv, aTake, aLoad, aField, aLen, aBin, bin2, ASt.get, aget, ASt.put, ↓reduceIte, reduceCtorEq, Nat.reduceLT, Nat.reduceEqDiff, Nat.reduceAdd, Nat.reduceLeDiff, eq_self, ne_eq, tyF_32_4, tyA_25, tyS_25, tyE_25, hlt] | (with_reducible refine aIf_split (fun _ => ?_) (fun _ => ?_)) | (with_reducible refine aSel_split (fun _ => ?_) (fun _ => ?_)) | (with_reducible refine aGd_split (fun _ => ?_) (fun _ => ?_))))
  clear hk hlt
  refine aLoop_of (fun st => ∃ (k : Nat) (b : Bool), k ≤ m.events.length ∧ st = ⟨233, [(1, .op 0 0 0), (3, eB b), (8, eI (k : Int))], [(0, some (.box 32 (eMod m)))], 1⟩) (fun st => m.events.length - slotN st 8) ⟨_, (weak_cut1 (by (first | ((simp only [envIn, tabIn, envLt, tabLt, AObj.lt, AV.lt, AV.ltL, ruW, ASt.get, aget, ↓reduceIte, Nat.reduceLT, Nat.reduceEqDiff, eq_self]) <;> (repeat' apply And.intro) <;> first | (rw [wrapK (by omega)]; done) | (simp; done) | omega) | fail))), 0, b, Nat.zero_le _, rfl⟩ ?_
  clear b
  rintro _ ⟨k, b, hk, rfl⟩
  by_cases hlt : k < m.events.length
  · have hs := hf.events _ (List.getElem_mem hlt)
    (repeat' (first | simp (maxSteps := 5000000) (implicitDefEqProofs := false) only [ruA, ruB, aEv, aTake, aLoad, aField, aIndex, aLen, aBin, bin2, ASt.get, aget, ASt.put, aStore, aBox, aCells, oneC, oneCL, Value.cells, Value.oneCell', ↓reduceIte, reduceCtorEq, Nat.reduceLT, Nat.reduceEqDiff, Nat.reduceAdd, Nat.reduceLeDiff, eq_self, ne_eq, tyF_32_3, tyA_24, tyS_24, tyE_24, tyA_3, tyS_3, tyF_32_5, tyA_26, tyS_26, tyE_26, tyA_56, tyS_56, tyZ_56, tyF_56_1, row_at, hlt] | (with_reducible refine aIf_split (fun _ => ?_) (fun _ => ?_)) | (with_reducible refine aSel_split (fun _ => ?_) (fun _ => ?_)) | (with_reducible refine aGd_split (fun _ => ?_) (fun _ => ?_))))
    all_goals first | with_reducible exact roundI (weak_cut1 (by (first | ((simp only [envIn, tabIn, envLt, tabLt, AObj.lt, AV.lt, AV.ltL, ruW, ASt.get, aget, ↓reduceIte, reduceCtorEq, Nat.reduceLT, Nat.reduceEqDiff, eq_self]) <;> (repeat' apply And.intro) <;> first | (rw [wrapK (by omega)]; done) | (simp; done) | omega) | fail))) ⟨k + 1, true, by omega, rfl⟩ (by simp only [slotN, ruW, ASt.get, aget, ASt.put, ↓reduceIte, reduceCtorEq, Nat.reduceLT, Nat.reduceEqDiff, Nat.reduceAdd, Nat.reduceLeDiff, eq_self, implies_true]; omega) | with_reducible exact roundI (weak_cut1 (by (first | ((simp only [envIn, tabIn, envLt, tabLt, AObj.lt, AV.lt, AV.ltL, ruW, ASt.get, aget, ↓reduceIte, reduceCtorEq, Nat.reduceLT, Nat.reduceEqDiff, eq_self]) <;> (repeat' apply And.intro) <;> first | (rw [wrapK (by omega)]; done) | (simp; done) | omega) | fail))) ⟨k + 1, false, by omega, rfl⟩ (by simp only [slotN, ASt.get, aget, ↓reduceIte, Nat.reduceLT, Nat.reduceEqDiff, eq_self]; omega) | skip
    refine callV (in_A _ _) ?_
    (repeat' (first | simp (maxSteps := 5000000) (implicitDefEqProofs := false) only [ruA, ruB, aEv, aTake, aLoad, aField, aLen, aBin, bin2, ASt.get, aget, ASt.put, ↓reduceIte, reduceCtorEq, Nat.reduceLT, Nat.reduceEqDiff, Nat.reduceAdd, Nat.reduceLeDiff, eq_self, ne_eq, tyA_3, tyS_3, tyF_32_4, tyA_25, tyS_25, tyE_25, tyF_56_2] | (with_reducible refine aIf_split (fun _ => ?_) (fun _ => ?_)) | (with_reducible refine aSel_split (fun _ => ?_) (fun _ => ?_)) | (with_reducible refine aGd_split (fun _ => ?_) (fun _ => ?_))))
    all_goals first | with_reducible exact roundI (weak_cut1 (by (first | ((simp only [envIn, tabIn, envLt, tabLt, AObj.lt, AV.lt, AV.ltL, ruW, ASt.get, aget, ↓reduceIte, reduceCtorEq, Nat.reduceLT, Nat.reduceEqDiff, eq_self]) <;> (repeat' apply And.intro) <;> first | (rw [wrapK (by omega)]; done) | (simp; done) | omega) | fail))) ⟨k + 1, true, by omega, rfl⟩ (by simp only [slotN, ruW, ASt.get, aget, ASt.put, ↓reduceIte, reduceCtorEq, Nat.reduceLT, Nat.reduceEqDiff, Nat.reduceAdd, Nat.reduceLeDiff, eq_self, implies_true]; omega) | with_reducible exact roundI (weak_cut1 (by (first | ((simp only [envIn, tabIn, envLt, tabLt, AObj.lt, AV.lt, AV.ltL, ruW, ASt.get, aget, ↓reduceIte, reduceCtorEq, Nat.reduceLT, Nat.reduceEqDiff, eq_self]) <;> (repeat' apply And.intro) <;> first | (rw [wrapK (by omega)]; done) | (simp; done) | omega) | fail))) ⟨k + 1, false, by omega, rfl⟩ (by simp only [slotN, ASt.get, aget, ↓reduceIte, Nat.reduceLT, Nat.reduceEqDiff, eq_self]; omega) | skip
    refine callV (in_A _ _) ?_
    (repeat' (first | simp (maxSteps := 5000000) (implicitDefEqProofs := false) only [ruA, ruB, aEv, aTake, aLoad, aField, aBin, bin2, ASt.get, aget, ASt.put, ↓reduceIte, reduceCtorEq, Nat.reduceLT, Nat.reduceEqDiff, Nat.reduceAdd, Nat.reduceLeDiff, eq_self, tyA_32, tyS_32, tyF_56_3, tyA_33, tyS_33] | (with_reducible refine aIf_split (fun _ => ?_) (fun _ => ?_)) | (with_reducible refine aSel_split (fun _ => ?_) (fun _ => ?_)) | (with_reducible refine aGd_split (fun _ => ?_) (fun _ => ?_))))
    all_goals first | with_reducible exact roundI (weak_cut1 (by (first | ((simp only [envIn, tabIn, envLt, tabLt, AObj.lt, AV.lt, AV.ltL, ruW, ASt.get, aget, ↓reduceIte, reduceCtorEq, Nat.reduceLT, Nat.reduceEqDiff, eq_self]) <;> (repeat' apply And.intro) <;> first | (rw [wrapK (by omega)]; done) | (simp; done) | omega) | fail))) ⟨k + 1, true, by omega, rfl⟩ (by simp only [slotN, ruW, ASt.get, aget, ASt.put, ↓reduceIte, reduceCtorEq, Nat.reduceLT, Nat.reduceEqDiff, Nat.reduceAdd, Nat.reduceLeDiff, eq_self, implies_true]; omega) | with_reducible exact roundI (weak_cut1 (by (first | ((simp only [envIn, tabIn, envLt, tabLt, AObj.lt, AV.lt, AV.ltL, ruW, ASt.get, aget, ↓reduceIte, reduceCtorEq, Nat.reduceLT, Nat.reduceEqDiff, eq_self]) <;> (repeat' apply And.intro) <;> first | (rw [wrapK (by omega)]; done) | (simp; done) | omega) | fail))) ⟨k + 1, false, by omega, rfl⟩ (by simp only [slotN, ASt.get, aget, ↓reduceIte, Nat.reduceLT, Nat.reduceEqDiff, eq_self]; omega) | skip
    obtain ⟨x, hx⟩ := sets_E m m.events[k].sets (by omega)
    refine callV hx ?_
    (repeat' (first | simp (maxSteps := 5000000) (implicitDefEqProofs := false) only [ruA, aEv, aBin, bin2, ASt.get, aget, ASt.put, ↓reduceIte, Nat.reduceLT, Nat.reduceEqDiff, eq_self] | (with_reducible refine aIf_split (fun _ => ?_) (fun _ => ?_)) | (with_reducible refine aSel_split (fun _ => ?_) (fun _ => ?_)) | (with_reducible refine aGd_split (fun _ => ?_) (fun _ => ?_))))
    exact roundI (weak_cut1 (by (first | ((simp only [envIn, tabIn, envLt, tabLt, AObj.lt, AV.lt, AV.ltL, ruW, ASt.get, aget, ↓reduceIte, reduceCtorEq, Nat.reduceLT, Nat.reduceEqDiff, eq_self]) <;> (repeat' apply And.intro) <;> first | (rw [wrapK (by omega)]; done) | (simp; done) | omega) | fail))) ⟨k + 1, x, by omega, rfl⟩ (by simp only [slotN, ASt.get, aget, ↓reduceIte, Nat.reduceLT, Nat.reduceEqDiff, eq_self]; omega)
  obtain rfl : k = m.events.length := by omega
  (repeat' (first | simp (maxSteps := 5000000) (implicitDefEqProofs := false) only [ruA, ruB, aEv, aTake, aLoad, aField, aLen, aBin, bin2, ASt.get, aget, ASt.put, ↓reduceIte, reduceCtorEq, Nat.reduceLT, Nat.reduceEqDiff, Nat.reduceAdd, Nat.reduceLeDiff, eq_self, ne_eq, tyF_32_5, tyA_26, tyS_26, tyE_26, hlt] | (with_reducible refine aIf_split (fun _ => ?_) (fun _ => ?_)) | (with_reducible refine aSel_split (fun _ => ?_) (fun _ => ?_)) | (with_reducible refine aGd_split (fun _ => ?_) (fun _ => ?_))))
  clear hk hlt
  refine aLoop_of (fun st => ∃ (k : Nat) (b : Bool), k ≤ m.guards.length ∧ st = ⟨233, [(1, .op 0 0 0), (3, eB b), (10, eI (k : Int))], [(0, some (.box 32 (eMod m)))], 1⟩) (fun st => m.guards.length - slotN st 10) ⟨_, (weak_cut1 (by (first | ((simp only [envIn, tabIn, envLt, tabLt, AObj.lt, AV.lt, AV.ltL, ruW, ASt.get, aget, ↓reduceIte, Nat.reduceLT, Nat.reduceEqDiff, eq_self]) <;> (repeat' apply And.intro) <;> first | (rw [wrapK (by omega)]; done) | (simp; done) | omega) | fail))), 0, b, Nat.zero_le _, rfl⟩ ?_
  clear b
  rintro _ ⟨k, b, hk, rfl⟩
  by_cases hlt : k < m.guards.length
  · have hs := hf.guards _ (List.getElem_mem hlt)
    (repeat' (first | simp (maxSteps := 5000000) (implicitDefEqProofs := false) only [ruA, ruB, aEv, aTake, aLoad, aField, aIndex, aLen, aBin, bin2, ASt.get, aget, ASt.put, aStore, aBox, aCells, oneC, oneCL, Value.cells, Value.oneCell', ↓reduceIte, reduceCtorEq, Nat.reduceLT, Nat.reduceEqDiff, Nat.reduceAdd, Nat.reduceLeDiff, eq_self, ne_eq, tyA_3, tyS_3, tyF_32_4, tyA_25, tyS_25, tyE_25, tyF_32_6, tyA_27, tyS_27, tyE_27, tyA_84, tyS_84, tyZ_84, tyF_84_0, row_at, hlt] | (with_reducible refine aIf_split (fun _ => ?_) (fun _ => ?_)) | (with_reducible refine aSel_split (fun _ => ?_) (fun _ => ?_)) | (with_reducible refine aGd_split (fun _ => ?_) (fun _ => ?_))))
    all_goals first | with_reducible exact roundI (weak_cut1 (by (first | ((simp only [envIn, tabIn, envLt, tabLt, AObj.lt, AV.lt, AV.ltL, ruW, ASt.get, aget, ↓reduceIte, reduceCtorEq, Nat.reduceLT, Nat.reduceEqDiff, eq_self]) <;> (repeat' apply And.intro) <;> first | (rw [wrapK (by omega)]; done) | (simp; done) | omega) | fail))) ⟨k + 1, true, by omega, rfl⟩ (by simp only [slotN, ruW, ASt.get, aget, ASt.put, ↓reduceIte, reduceCtorEq, Nat.reduceLT, Nat.reduceEqDiff, Nat.reduceAdd, Nat.reduceLeDiff, eq_self, implies_true]; omega) | with_reducible exact roundI (weak_cut1 (by (first | ((simp only [envIn, tabIn, envLt, tabLt, AObj.lt, AV.lt, AV.ltL, ruW, ASt.get, aget, ↓reduceIte, reduceCtorEq, Nat.reduceLT, Nat.reduceEqDiff, eq_self]) <;> (repeat' apply And.intro) <;> first | (rw [wrapK (by omega)]; done) | (simp; done) | omega) | fail))) ⟨k + 1, false, by omega, rfl⟩ (by simp only [slotN, ASt.get, aget, ↓reduceIte, Nat.reduceLT, Nat.reduceEqDiff, eq_self]; omega) | skip
    refine callV (in_A _ _) ?_
    (repeat' (first | simp (maxSteps := 5000000) (implicitDefEqProofs := false) only [ruA, ruB, aEv, aTake, aLoad, aField, aLen, aBin, bin2, ASt.get, aget, ASt.put, ↓reduceIte, reduceCtorEq, Nat.reduceLT, Nat.reduceEqDiff, Nat.reduceAdd, Nat.reduceLeDiff, eq_self, ne_eq, tyA_3, tyS_3, tyF_32_5, tyA_26, tyS_26, tyE_26, tyA_32, tyS_32, tyF_84_1, tyF_84_2, tyA_82, tyS_82] | (with_reducible refine aIf_split (fun _ => ?_) (fun _ => ?_)) | (with_reducible refine aSel_split (fun _ => ?_) (fun _ => ?_)) | (with_reducible refine aGd_split (fun _ => ?_) (fun _ => ?_))))
    all_goals first | with_reducible exact roundI (weak_cut1 (by (first | ((simp only [envIn, tabIn, envLt, tabLt, AObj.lt, AV.lt, AV.ltL, ruW, ASt.get, aget, ↓reduceIte, reduceCtorEq, Nat.reduceLT, Nat.reduceEqDiff, eq_self]) <;> (repeat' apply And.intro) <;> first | (rw [wrapK (by omega)]; done) | (simp; done) | omega) | fail))) ⟨k + 1, true, by omega, rfl⟩ (by simp only [slotN, ruW, ASt.get, aget, ASt.put, ↓reduceIte, reduceCtorEq, Nat.reduceLT, Nat.reduceEqDiff, Nat.reduceAdd, Nat.reduceLeDiff, eq_self, implies_true]; omega) | with_reducible exact roundI (weak_cut1 (by (first | ((simp only [envIn, tabIn, envLt, tabLt, AObj.lt, AV.lt, AV.ltL, ruW, ASt.get, aget, ↓reduceIte, reduceCtorEq, Nat.reduceLT, Nat.reduceEqDiff, eq_self]) <;> (repeat' apply And.intro) <;> first | (rw [wrapK (by omega)]; done) | (simp; done) | omega) | fail))) ⟨k + 1, false, by omega, rfl⟩ (by simp only [slotN, ASt.get, aget, ↓reduceIte, Nat.reduceLT, Nat.reduceEqDiff, eq_self]; omega) | skip
    · refine callPB (check11_A m m.guards[k].cond false (by omega)) fun x _ => ?_
      (repeat' (first | simp (maxSteps := 5000000) (implicitDefEqProofs := false) only [ruA, aEv, aBin, bin2, ASt.get, aget, ASt.put, ↓reduceIte, Nat.reduceLT, Nat.reduceEqDiff, eq_self] | (with_reducible refine aIf_split (fun _ => ?_) (fun _ => ?_)) | (with_reducible refine aSel_split (fun _ => ?_) (fun _ => ?_)) | (with_reducible refine aGd_split (fun _ => ?_) (fun _ => ?_))))
      exact roundI (weak_cut1 (by (first | ((simp only [envIn, tabIn, envLt, tabLt, AObj.lt, AV.lt, AV.ltL, ruW, ASt.get, aget, ↓reduceIte, reduceCtorEq, Nat.reduceLT, Nat.reduceEqDiff, eq_self]) <;> (repeat' apply And.intro) <;> first | (rw [wrapK (by omega)]; done) | (simp; done) | omega) | fail))) ⟨k + 1, x, by omega, rfl⟩ (by simp only [slotN, ASt.get, aget, ↓reduceIte, Nat.reduceLT, Nat.reduceEqDiff, eq_self]; omega)
    · refine callV (in_A _ _) ?_
      (repeat' (first | simp (maxSteps := 5000000) (implicitDefEqProofs := false) only [ruA, ruB, aEv, aTake, aLoad, aField, aBin, bin2, ASt.get, aget, ASt.put, ↓reduceIte, reduceCtorEq, Nat.reduceLT, Nat.reduceEqDiff, Nat.reduceAdd, eq_self, tyA_32, tyS_32, tyF_84_2, tyA_82, tyS_82] | (with_reducible refine aIf_split (fun _ => ?_) (fun _ => ?_)) | (with_reducible refine aSel_split (fun _ => ?_) (fun _ => ?_)) | (with_reducible refine aGd_split (fun _ => ?_) (fun _ => ?_))))
      all_goals first | with_reducible exact roundI (weak_cut1 (by (first | ((simp only [envIn, tabIn, envLt, tabLt, AObj.lt, AV.lt, AV.ltL, ruW, ASt.get, aget, ↓reduceIte, reduceCtorEq, Nat.reduceLT, Nat.reduceEqDiff, eq_self]) <;> (repeat' apply And.intro) <;> first | (rw [wrapK (by omega)]; done) | (simp; done) | omega) | fail))) ⟨k + 1, true, by omega, rfl⟩ (by simp only [slotN, ruW, ASt.get, aget, ASt.put, ↓reduceIte, reduceCtorEq, Nat.reduceLT, Nat.reduceEqDiff, Nat.reduceAdd, Nat.reduceLeDiff, eq_self, implies_true]; omega) | with_reducible exact roundI (weak_cut1 (by (first | ((simp only [envIn, tabIn, envLt, tabLt, AObj.lt, AV.lt, AV.ltL, ruW, ASt.get, aget, ↓reduceIte, reduceCtorEq, Nat.reduceLT, Nat.reduceEqDiff, eq_self]) <;> (repeat' apply And.intro) <;> first | (rw [wrapK (by omega)]; done) | (simp; done) | omega) | fail))) ⟨k + 1, false, by omega, rfl⟩ (by simp only [slotN, ASt.get, aget, ↓reduceIte, Nat.reduceLT, Nat.reduceEqDiff, eq_self]; omega) | skip
      refine callPB (check11_A m m.guards[k].cond false (by omega)) fun x _ => ?_
      (repeat' (first | simp (maxSteps := 5000000) (implicitDefEqProofs := false) only [ruA, aEv, aBin, bin2, ASt.get, aget, ASt.put, ↓reduceIte, Nat.reduceLT, Nat.reduceEqDiff, eq_self] | (with_reducible refine aIf_split (fun _ => ?_) (fun _ => ?_)) | (with_reducible refine aSel_split (fun _ => ?_) (fun _ => ?_)) | (with_reducible refine aGd_split (fun _ => ?_) (fun _ => ?_))))
      exact roundI (weak_cut1 (by (first | ((simp only [envIn, tabIn, envLt, tabLt, AObj.lt, AV.lt, AV.ltL, ruW, ASt.get, aget, ↓reduceIte, reduceCtorEq, Nat.reduceLT, Nat.reduceEqDiff, eq_self]) <;> (repeat' apply And.intro) <;> first | (rw [wrapK (by omega)]; done) | (simp; done) | omega) | fail))) ⟨k + 1, x, by omega, rfl⟩ (by simp only [slotN, ASt.get, aget, ↓reduceIte, Nat.reduceLT, Nat.reduceEqDiff, eq_self]; omega)
  obtain rfl : k = m.guards.length := by omega
  (repeat' (first | simp (maxSteps := 5000000) (implicitDefEqProofs := false) only [ruA, ruB, aEv, aTake, aLoad, aField, aLen, aBin, bin2, ASt.get, aget, ASt.put, ↓reduceIte, reduceCtorEq, Nat.reduceLT, Nat.reduceEqDiff, Nat.reduceAdd, Nat.reduceLeDiff, eq_self, ne_eq, tyF_32_6, tyA_27, tyS_27, tyE_27, hlt] | (with_reducible refine aIf_split (fun _ => ?_) (fun _ => ?_)) | (with_reducible refine aSel_split (fun _ => ?_) (fun _ => ?_)) | (with_reducible refine aGd_split (fun _ => ?_) (fun _ => ?_))))
  clear hk hlt
  refine aLoop_of (fun st => ∃ (k : Nat) (b : Bool), k ≤ m.miles.length ∧ st = ⟨233, [(1, .op 0 0 0), (3, eB b), (12, eI (k : Int))], [(0, some (.box 32 (eMod m)))], 1⟩) (fun st => m.miles.length - slotN st 12) ⟨_, (weak_cut1 (by (first | ((simp only [envIn, tabIn, envLt, tabLt, AObj.lt, AV.lt, AV.ltL, ruW, ASt.get, aget, ↓reduceIte, Nat.reduceLT, Nat.reduceEqDiff, eq_self]) <;> (repeat' apply And.intro) <;> first | (rw [wrapK (by omega)]; done) | (simp; done) | omega) | fail))), 0, b, Nat.zero_le _, rfl⟩ ?_
  clear b
  rintro _ ⟨k, b, hk, rfl⟩
  by_cases hlt : k < m.miles.length
  · have hs := hf.miles _ (List.getElem_mem hlt)
    (repeat' (first | simp (maxSteps := 5000000) (implicitDefEqProofs := false) only [ruA, ruB, aEv, aTake, aLoad, aField, aIndex, aLen, aBin, bin2, ASt.get, aget, ASt.put, aStore, aBox, aCells, oneC, oneCL, Value.cells, Value.oneCell', ↓reduceIte, reduceCtorEq, Nat.reduceLT, Nat.reduceEqDiff, Nat.reduceAdd, Nat.reduceLeDiff, eq_self, ne_eq, tyA_3, tyS_3, tyF_32_4, tyA_25, tyS_25, tyE_25, tyF_32_7, tyA_28, tyS_28, tyE_28, tyA_86, tyS_86, tyZ_86, tyF_86_1, row_at, hlt] | (with_reducible refine aIf_split (fun _ => ?_) (fun _ => ?_)) | (with_reducible refine aSel_split (fun _ => ?_) (fun _ => ?_)) | (with_reducible refine aGd_split (fun _ => ?_) (fun _ => ?_))))
    all_goals first | with_reducible exact roundI (weak_cut1 (by (first | ((simp only [envIn, tabIn, envLt, tabLt, AObj.lt, AV.lt, AV.ltL, ruW, ASt.get, aget, ↓reduceIte, reduceCtorEq, Nat.reduceLT, Nat.reduceEqDiff, eq_self]) <;> (repeat' apply And.intro) <;> first | (rw [wrapK (by omega)]; done) | (simp; done) | omega) | fail))) ⟨k + 1, true, by omega, rfl⟩ (by simp only [slotN, ruW, ASt.get, aget, ASt.put, ↓reduceIte, reduceCtorEq, Nat.reduceLT, Nat.reduceEqDiff, Nat.reduceAdd, Nat.reduceLeDiff, eq_self, implies_true]; omega) | with_reducible exact roundI (weak_cut1 (by (first | ((simp only [envIn, tabIn, envLt, tabLt, AObj.lt, AV.lt, AV.ltL, ruW, ASt.get, aget, ↓reduceIte, reduceCtorEq, Nat.reduceLT, Nat.reduceEqDiff, eq_self]) <;> (repeat' apply And.intro) <;> first | (rw [wrapK (by omega)]; done) | (simp; done) | omega) | fail))) ⟨k + 1, false, by omega, rfl⟩ (by simp only [slotN, ASt.get, aget, ↓reduceIte, Nat.reduceLT, Nat.reduceEqDiff, eq_self]; omega) | skip
    refine callV (in_A _ _) ?_
    (repeat' (first | simp (maxSteps := 5000000) (implicitDefEqProofs := false) only [ruA, ruB, aEv, aTake, aLoad, aField, aLen, aBin, bin2, ASt.get, aget, ASt.put, ↓reduceIte, reduceCtorEq, Nat.reduceLT, Nat.reduceEqDiff, Nat.reduceAdd, Nat.reduceLeDiff, eq_self, ne_eq, tyA_3, tyS_3, tyF_32_5, tyA_26, tyS_26, tyE_26, tyA_32, tyS_32, tyA_82, tyS_82, tyF_86_2, tyF_86_3] | (with_reducible refine aIf_split (fun _ => ?_) (fun _ => ?_)) | (with_reducible refine aSel_split (fun _ => ?_) (fun _ => ?_)) | (with_reducible refine aGd_split (fun _ => ?_) (fun _ => ?_))))
    all_goals first | with_reducible exact roundI (weak_cut1 (by (first | ((simp only [envIn, tabIn, envLt, tabLt, AObj.lt, AV.lt, AV.ltL, ruW, ASt.get, aget, ↓reduceIte, reduceCtorEq, Nat.reduceLT, Nat.reduceEqDiff, eq_self]) <;> (repeat' apply And.intro) <;> first | (rw [wrapK (by omega)]; done) | (simp; done) | omega) | fail))) ⟨k + 1, true, by omega, rfl⟩ (by simp only [slotN, ruW, ASt.get, aget, ASt.put, ↓reduceIte, reduceCtorEq, Nat.reduceLT, Nat.reduceEqDiff, Nat.reduceAdd, Nat.reduceLeDiff, eq_self, implies_true]; omega) | with_reducible exact roundI (weak_cut1 (by (first | ((simp only [envIn, tabIn, envLt, tabLt, AObj.lt, AV.lt, AV.ltL, ruW, ASt.get, aget, ↓reduceIte, reduceCtorEq, Nat.reduceLT, Nat.reduceEqDiff, eq_self]) <;> (repeat' apply And.intro) <;> first | (rw [wrapK (by omega)]; done) | (simp; done) | omega) | fail))) ⟨k + 1, false, by omega, rfl⟩ (by simp only [slotN, ASt.get, aget, ↓reduceIte, Nat.reduceLT, Nat.reduceEqDiff, eq_self]; omega) | skip
    · refine callPB (check11_A m m.miles[k].cond false (by omega)) fun x _ => ?_
      (repeat' (first | simp (maxSteps := 5000000) (implicitDefEqProofs := false) only [ruA, aEv, aBin, bin2, ASt.get, aget, ASt.put, ↓reduceIte, Nat.reduceLT, Nat.reduceEqDiff, eq_self] | (with_reducible refine aIf_split (fun _ => ?_) (fun _ => ?_)) | (with_reducible refine aSel_split (fun _ => ?_) (fun _ => ?_)) | (with_reducible refine aGd_split (fun _ => ?_) (fun _ => ?_))))
      exact roundI (weak_cut1 (by (first | ((simp only [envIn, tabIn, envLt, tabLt, AObj.lt, AV.lt, AV.ltL, ruW, ASt.get, aget, ↓reduceIte, reduceCtorEq, Nat.reduceLT, Nat.reduceEqDiff, eq_self]) <;> (repeat' apply And.intro) <;> first | (rw [wrapK (by omega)]; done) | (simp; done) | omega) | fail))) ⟨k + 1, x, by omega, rfl⟩ (by simp only [slotN, ASt.get, aget, ↓reduceIte, Nat.reduceLT, Nat.reduceEqDiff, eq_self]; omega)
    · refine callV (in_A _ _) ?_
      (repeat' (first | simp (maxSteps := 5000000) (implicitDefEqProofs := false) only [ruA, ruB, aEv, aTake, aLoad, aField, aBin, bin2, ASt.get, aget, ASt.put, ↓reduceIte, reduceCtorEq, Nat.reduceLT, Nat.reduceEqDiff, Nat.reduceAdd, Nat.reduceLeDiff, eq_self, tyA_32, tyS_32, tyA_82, tyS_82, tyF_86_3] | (with_reducible refine aIf_split (fun _ => ?_) (fun _ => ?_)) | (with_reducible refine aSel_split (fun _ => ?_) (fun _ => ?_)) | (with_reducible refine aGd_split (fun _ => ?_) (fun _ => ?_))))
      all_goals first | with_reducible exact roundI (weak_cut1 (by (first | ((simp only [envIn, tabIn, envLt, tabLt, AObj.lt, AV.lt, AV.ltL, ruW, ASt.get, aget, ↓reduceIte, reduceCtorEq, Nat.reduceLT, Nat.reduceEqDiff, eq_self]) <;> (repeat' apply And.intro) <;> first | (rw [wrapK (by omega)]; done) | (simp; done) | omega) | fail))) ⟨k + 1, true, by omega, rfl⟩ (by simp only [slotN, ruW, ASt.get, aget, ASt.put, ↓reduceIte, reduceCtorEq, Nat.reduceLT, Nat.reduceEqDiff, Nat.reduceAdd, Nat.reduceLeDiff, eq_self, implies_true]; omega) | with_reducible exact roundI (weak_cut1 (by (first | ((simp only [envIn, tabIn, envLt, tabLt, AObj.lt, AV.lt, AV.ltL, ruW, ASt.get, aget, ↓reduceIte, reduceCtorEq, Nat.reduceLT, Nat.reduceEqDiff, eq_self]) <;> (repeat' apply And.intro) <;> first | (rw [wrapK (by omega)]; done) | (simp; done) | omega) | fail))) ⟨k + 1, false, by omega, rfl⟩ (by simp only [slotN, ASt.get, aget, ↓reduceIte, Nat.reduceLT, Nat.reduceEqDiff, eq_self]; omega) | skip
      refine callPB (check11_A m m.miles[k].cond false (by omega)) fun x _ => ?_
      (repeat' (first | simp (maxSteps := 5000000) (implicitDefEqProofs := false) only [ruA, aEv, aBin, bin2, ASt.get, aget, ASt.put, ↓reduceIte, Nat.reduceLT, Nat.reduceEqDiff, eq_self] | (with_reducible refine aIf_split (fun _ => ?_) (fun _ => ?_)) | (with_reducible refine aSel_split (fun _ => ?_) (fun _ => ?_)) | (with_reducible refine aGd_split (fun _ => ?_) (fun _ => ?_))))
      exact roundI (weak_cut1 (by (first | ((simp only [envIn, tabIn, envLt, tabLt, AObj.lt, AV.lt, AV.ltL, ruW, ASt.get, aget, ↓reduceIte, reduceCtorEq, Nat.reduceLT, Nat.reduceEqDiff, eq_self]) <;> (repeat' apply And.intro) <;> first | (rw [wrapK (by omega)]; done) | (simp; done) | omega) | fail))) ⟨k + 1, x, by omega, rfl⟩ (by simp only [slotN, ASt.get, aget, ↓reduceIte, Nat.reduceLT, Nat.reduceEqDiff, eq_self]; omega)
  obtain rfl : k = m.miles.length := by omega
  (repeat' (first | simp (maxSteps := 5000000) (implicitDefEqProofs := false) only [ruA, ruB, aEv, aTake, aLoad, aField, aLen, aBin, bin2, ASt.get, aget, ASt.put, ↓reduceIte, reduceCtorEq, Nat.reduceLT, Nat.reduceEqDiff, Nat.reduceAdd, Nat.reduceLeDiff, eq_self, ne_eq, tyF_32_7, tyA_28, tyS_28, tyE_28, hlt] | (with_reducible refine aIf_split (fun _ => ?_) (fun _ => ?_)) | (with_reducible refine aSel_split (fun _ => ?_) (fun _ => ?_)) | (with_reducible refine aGd_split (fun _ => ?_) (fun _ => ?_))))
  clear hk hlt
  refine aLoop_of (fun st => ∃ (k : Nat) (b : Bool), k ≤ m.sods.length ∧ st = ⟨233, [(1, .op 0 0 0), (3, eB b), (14, eI (k : Int))], [(0, some (.box 32 (eMod m)))], 1⟩) (fun st => m.sods.length - slotN st 14) ⟨_, (weak_cut1 (by (first | ((simp only [envIn, tabIn, envLt, tabLt, AObj.lt, AV.lt, AV.ltL, ruW, ASt.get, aget, ↓reduceIte, Nat.reduceLT, Nat.reduceEqDiff, eq_self]) <;> (repeat' apply And.intro) <;> first | (rw [wrapK (by omega)]; done) | (simp; done) | omega) | fail))), 0, b, Nat.zero_le _, rfl⟩ ?_
  clear b
  rintro _ ⟨k, b, hk, rfl⟩
  by_cases hlt : k < m.sods.length
  · (repeat' (first | simp (maxSteps := 5000000) (implicitDefEqProofs := false) only [ruA, ruB, aEv, aTake, aLoad, aField, aLen, aBin, bin2, ASt.get, aget, ASt.put, ↓reduceIte, reduceCtorEq, Nat.reduceLT, Nat.reduceEqDiff, Nat.reduceAdd, Nat.reduceLeDiff, eq_self, ne_eq, tyF_32_8, tyA_29, tyS_29, tyE_29, hlt] | (with_reducible refine aIf_split (fun _ => ?_) (fun _ => ?_)) | (with_reducible refine aSel_split (fun _ => ?_) (fun _ => ?_)) | (with_reducible refine aGd_split (fun _ => ?_) (fun _ => ?_))))
    refine aDraw_quiet (by kernel_rfl) ?_
    (repeat' (first | simp (maxSteps := 5000000) (implicitDefEqProofs := false) only [ruA, ruB, aEv, aTake, aLoad, aField, aIndex, aLen, aBin, bin2, ASt.get, aget, ASt.put, ↓reduceIte, reduceCtorEq, Nat.reduceLT, Nat.reduceEqDiff, Nat.reduceAdd, Nat.reduceLeDiff, eq_self, ne_eq, dref, tyA_3, tyS_3, tyF_32_5, tyA_26, tyS_26, tyE_26, tyF_32_8, tyA_29, tyS_29, tyE_29, tyF_104_0, row_at, hlt] | (with_reducible refine aIf_split (fun _ => ?_) (fun _ => ?_)) | (with_reducible refine aSel_split (fun _ => ?_) (fun _ => ?_)) | (with_reducible refine aGd_split (fun _ => ?_) (fun _ => ?_))))
    all_goals first | with_reducible exact roundI (weak_cut1 (by (first | ((simp only [envIn, tabIn, envLt, tabLt, AObj.lt, AV.lt, AV.ltL, ruW, ASt.get, aget, ↓reduceIte, reduceCtorEq, Nat.reduceLT, Nat.reduceEqDiff, eq_self]) <;> (repeat' apply And.intro) <;> first | (rw [wrapK (by omega)]; done) | (simp; done) | omega) | fail))) ⟨k + 1, true, by omega, rfl⟩ (by simp only [slotN, ruW, ASt.get, aget, ASt.put, ↓reduceIte, reduceCtorEq, Nat.reduceLT, Nat.reduceEqDiff, Nat.reduceAdd, Nat.reduceLeDiff, eq_self, implies_true]; omega) | with_reducible exact roundI (weak_cut1 (by (first | ((simp only [envIn, tabIn, envLt, tabLt, AObj.lt, AV.lt, AV.ltL, ruW, ASt.get, aget, ↓reduceIte, Nat.reduceLT, Nat.reduceEqDiff, eq_self]) <;> (repeat' apply And.intro) <;> first | (rw [wrapK (by omega)]; done) | (simp; done) | omega) | fail))) ⟨k + 1, false, by omega, rfl⟩ (by simp only [slotN, ASt.get, aget, ↓reduceIte, Nat.reduceLT, Nat.reduceEqDiff, eq_self]; omega) | skip
    refine callD (in_A _ _) ?_
    (repeat' (first | simp (maxSteps := 5000000) (implicitDefEqProofs := false) only [ruA, ruB, aEv, aTake, aLoad, aField, aIndex, aLen, aBin, bin2, ASt.get, aget, ASt.put, ↓reduceIte, reduceCtorEq, Nat.reduceLT, Nat.reduceEqDiff, Nat.reduceAdd, Nat.reduceLeDiff, eq_self, ne_eq, dref, tyA_3, tyS_3, tyF_32_5, tyA_26, tyS_26, tyE_26, tyF_32_8, tyA_29, tyS_29, tyE_29, tyF_104_1, row_at, hlt] | (with_reducible refine aIf_split (fun _ => ?_) (fun _ => ?_)) | (with_reducible refine aSel_split (fun _ => ?_) (fun _ => ?_)) | (with_reducible refine aGd_split (fun _ => ?_) (fun _ => ?_))))
    all_goals first | with_reducible exact roundI (weak_cut1 (by (first | ((simp only [envIn, tabIn, envLt, tabLt, AObj.lt, AV.lt, AV.ltL, ruW, ASt.get, aget, ↓reduceIte, reduceCtorEq, Nat.reduceLT, Nat.reduceEqDiff, eq_self]) <;> (repeat' apply And.intro) <;> first | (rw [wrapK (by omega)]; done) | (simp; done) | omega) | fail))) ⟨k + 1, true, by omega, rfl⟩ (by simp only [slotN, ruW, ASt.get, aget, ASt.put, ↓reduceIte, reduceCtorEq, Nat.reduceLT, Nat.reduceEqDiff, Nat.reduceAdd, Nat.reduceLeDiff, eq_self, implies_true]; omega) | with_reducible exact roundI (weak_cut1 (by (first | ((simp only [envIn, tabIn, envLt, tabLt, AObj.lt, AV.lt, AV.ltL, ruW, ASt.get, aget, ↓reduceIte, Nat.reduceLT, Nat.reduceEqDiff, eq_self]) <;> (repeat' apply And.intro) <;> first | (rw [wrapK (by omega)]; done) | (simp; done) | omega) | fail))) ⟨k + 1, false, by omega, rfl⟩ (by simp only [slotN, ASt.get, aget, ↓reduceIte, Nat.reduceLT, Nat.reduceEqDiff, eq_self]; omega) | skip
    refine callD (in_A _ _) ?_
    (repeat' (first | simp (maxSteps := 5000000) (implicitDefEqProofs := false) only [ruA, ruB, aEv, aTake, aLoad, aField, aIndex, aBin, bin2, ASt.get, aget, ASt.put, ↓reduceIte, reduceCtorEq, Nat.reduceLT, Nat.reduceEqDiff, Nat.reduceAdd, Nat.reduceLeDiff, eq_self, tyA_3, tyS_3, tyF_32_8, tyA_29, tyS_29, tyE_29, tyF_104_0, tyF_104_1, row_at, hlt] | (with_reducible refine aIf_split (fun _ => ?_) (fun _ => ?_)) | (with_reducible refine aSel_split (fun _ => ?_) (fun _ => ?_)) | (with_reducible refine aGd_split (fun _ => ?_) (fun _ => ?_))))
    all_goals first | with_reducible exact roundI (weak_cut1 (by (first | ((simp only [envIn, tabIn, envLt, tabLt, AObj.lt, AV.lt, AV.ltL, ruW, ASt.get, aget, ↓reduceIte, reduceCtorEq, Nat.reduceLT, Nat.reduceEqDiff, eq_self]) <;> (repeat' apply And.intro) <;> first | (rw [wrapK (by omega)]; done) | (simp; done) | omega) | fail))) ⟨k + 1, true, by omega, rfl⟩ (by simp only [slotN, ruW, ASt.get, aget, ASt.put, ↓reduceIte, reduceCtorEq, Nat.reduceLT, Nat.reduceEqDiff, Nat.reduceAdd, Nat.reduceLeDiff, eq_self, implies_true]; omega) | with_reducible exact roundI (weak_cut1 (by (first | ((simp only [envIn, tabIn, envLt, tabLt, AObj.lt, AV.lt, AV.ltL, ruW, ASt.get, aget, ↓reduceIte, Nat.reduceLT, Nat.reduceEqDiff, eq_self]) <;> (repeat' apply And.intro) <;> first | (rw [wrapK (by omega)]; done) | (simp; done) | omega) | fail))) ⟨k + 1, false, by omega, rfl⟩ (by simp only [slotN, ASt.get, aget, ↓reduceIte, Nat.reduceLT, Nat.reduceEqDiff, eq_self]; omega) | with_reducible exact roundI (weak_cut1 (by (first | ((simp only [envIn, tabIn, envLt, tabLt, AObj.lt, AV.lt, AV.ltL, ruW, ASt.get, aget, ↓reduceIte, Nat.reduceLT, Nat.reduceEqDiff, eq_self]) <;> (repeat' apply And.intro) <;> first | (rw [wrapK (by omega)]; done) | (simp; done) | omega) | fail))) ⟨k + 1, (m.sods[k].1 != m.sods[k].2), by omega, rfl⟩ (by simp only [slotN, ASt.get, aget, ↓reduceIte, Nat.reduceLT, Nat.reduceEqDiff, eq_self]; omega) | skip
  obtain rfl : k = m.sods.length := by omega
  (repeat' (first | simp (maxSteps := 5000000) (implicitDefEqProofs := false) only [ruA, ruB, aEv, aTake, aLoad, aField, aLen, aBin, bin2, ASt.get, aget, ASt.put, aResL, aOne, ↓reduceIte, reduceCtorEq, Nat.reduceLT, Nat.reduceEqDiff, Nat.reduceAdd, Nat.reduceLeDiff, eq_self, ne_eq, tyF_32_8, tyA_29, tyS_29, tyE_29, hlt] | (with_reducible refine aIf_split (fun _ => ?_) (fun _ => ?_)) | (with_reducible refine aSel_split (fun _ => ?_) (fun _ => ?_)) | (with_reducible refine aGd_split (fun _ => ?_) (fun _ => ?_))))
  exact retV ⟨_, rfl⟩
end
section
open Go.RowKit
/-- what is known of a model that may be -/
structure Chk (m : Mod) : Prop where
  attrs : m.attrs.length ≤ 5
  inits : m.inits.length = m.attrs.length
  users : m.users.length ≤ 4
  roles : m.roles.length ≤ 4
  stages : m.stages.length ≤ 8
  events : m.events.length ≤ 6
  guards : m.guards.length ≤ 12
  miles : m.miles.length ≤ 8
  sods : m.sods.length ≤ 6
  circle : circleL (pars m) < 0
set_option maxRecDepth 100000 in
set_option maxHeartbeats 8000000 in
theorem check13_A (m : Mod) (hf : Fit m) (hp : ∀ p ∈ m.stages, ok64 p.2) : ARel Tryz.prog 17 [.agg (eMod m)] fun R => ∃ b, R = val (.bool b) ∧ (b = true → Chk m) := by
  refine arel_of_code mixedT Tryz.func17 rfl (by decide) Tryz.ntmps17 Tryz.results17 rfl ?_
  obtain ⟨hg, hm, hst, hev, hat, hus, hro, hso, hor, -⟩ := id hf.sizes
  have hpl : (pars m).length ≤ 1073741824 := by simp [pars]; omega
  have hpo : ∀ x ∈ pars m, ok64 x := fun x hx => by
    obtain ⟨p, hp', rfl⟩ := List.mem_map.1 hx
    exact hp p hp'
  (repeat' (first | simp (maxSteps := 5000000) (implicitDefEqProofs := false) only [ruA, ruB, aEv, aTake, aLoad, aField, aLen, aBin, bin2, ASt.get, aget, ASt.put, aBox, aCells, oneC, oneCL, envOf, aResL, aOne, ↓reduceIte, reduceCtorEq, Nat.reduceLT, Nat.reduceEqDiff, Nat.reduceAdd, Nat.reduceLeDiff, eq_self, ne_eq, tyF_32_0, tyA_22, tyS_22, tyE_22, tyF_32_1, tyA_23, tyS_23, tyE_23, tyF_32_2, tyF_32_3, tyA_24, tyS_24, tyE_24, tyF_32_4, tyA_25, tyS_25, tyE_25, tyF_32_5, tyA_26, tyS_26, tyE_26, tyF_32_6, tyA_27, tyS_27, tyE_27, tyF_32_7, tyA_28, tyS_28, tyE_28, tyF_32_8, tyA_29, tyS_29, tyE_29, tyA_32, tyS_32] | (with_reducible refine aIf_split (fun _ => ?_) (fun _ => ?_)) | (with_reducible refine aSel_split (fun _ => ?_) (fun _ => ?_)) | (with_reducible refine aGd_split (fun _ => ?_) (fun _ => ?_))))
  all_goals first | with_reducible exact retV ⟨false, rfl, fun h => by cases h⟩ | skip
  refine callPB (named_A m hf) fun b _ => ?_
  (repeat' (first | simp (maxSteps := 5000000) (implicitDefEqProofs := false) only [ruA, ruB, aEv, aTake, aLoad, aField, aUn, un1, ASt.get, aget, ASt.put, aResL, aOne, ↓reduceIte, reduceCtorEq, Nat.reduceLT, Nat.reduceEqDiff, Nat.reduceAdd, Nat.reduceLeDiff, eq_self, tyF_32_5, tyA_26, tyS_26] | (with_reducible refine aIf_split (fun _ => ?_) (fun _ => ?_)) | (with_reducible refine aSel_split (fun _ => ?_) (fun _ => ?_)) | (with_reducible refine aGd_split (fun _ => ?_) (fun _ => ?_))))
  all_goals first | with_reducible exact retV ⟨false, rfl, fun h => by cases h⟩ | skip
  refine callPI (writes_A m.events (by omega)) fun n => ?_
  (repeat' (first | simp (maxSteps := 5000000) (implicitDefEqProofs := false) only [ruA, ruB, aEv, aTake, aLoad, aBin, bin2, ASt.get, aget, ASt.put, aResL, aOne, ↓reduceIte, Nat.reduceLT, Nat.reduceEqDiff, Nat.reduceAdd, eq_self, tyA_32, tyS_32] | (with_reducible refine aIf_split (fun _ => ?_) (fun _ => ?_)) | (with_reducible refine aSel_split (fun _ => ?_) (fun _ => ?_)) | (with_reducible refine aGd_split (fun _ => ?_) (fun _ => ?_))))
  all_goals first | with_reducible exact retV ⟨false, rfl, fun h => by cases h⟩ | skip
  refine callO (refParents_A m (by omega)) (.inr ints_plain) ?_
  (repeat' (first | simp (maxSteps := 5000000) (implicitDefEqProofs := false) only [ruA, ruB, aEv, ASt.get, aget, ASt.put, ↓reduceIte, Nat.reduceLT, Nat.reduceEqDiff, Nat.reduceAdd, eq_self] | (with_reducible refine aIf_split (fun _ => ?_) (fun _ => ?_)) | (with_reducible refine aSel_split (fun _ => ?_) (fun _ => ?_)) | (with_reducible refine aGd_split (fun _ => ?_) (fun _ => ?_))))
  refine callV (circle_A (pars m) hpl hpo) ?_
  (repeat' (first | simp (maxSteps := 5000000) (implicitDefEqProofs := false) only [ruA, ruB, aEv, aTake, aLoad, aBin, bin2, ASt.get, aget, ASt.put, aResL, aOne, ↓reduceIte, reduceCtorEq, Nat.reduceLT, Nat.reduceEqDiff, Nat.reduceAdd, eq_self, tyA_32, tyS_32] | (with_reducible refine aIf_split (fun _ => ?_) (fun _ => ?_)) | (with_reducible refine aSel_split (fun _ => ?_) (fun _ => ?_)) | (with_reducible refine aGd_split (fun _ => ?_) (fun _ => ?_))))
  all_goals first | with_reducible exact retV ⟨false, rfl, fun h => by cases h⟩ | skip
  have chk : Chk m := by refine ⟨?_, ?_, ?_, ?_, ?_, ?_, ?_, ?_, ?_, ?_⟩ <;> (simp only [decide_eq_false_iff_not, bne_eq_false_iff_eq] at *; omega)
  refine callPO ((constsC_A m [] hf (by simp)).fits ⟨.one (.refl _), .one (.nil 7), trivial⟩) fun o _ => ?_
  (repeat' (first | simp (maxSteps := 5000000) (implicitDefEqProofs := false) only [ruA, ruB, aEv, aTake, aLoad, aLen, aBin, bin2, ASt.get, aget, ASt.put, aResL, aOne, ↓reduceIte, reduceCtorEq, Nat.reduceLT, Nat.reduceEqDiff, Nat.reduceAdd, eq_self, ne_eq, tyE_23, tyA_32, tyS_32] | (with_reducible refine aIf_split (fun _ => ?_) (fun _ => ?_)) | (with_reducible refine aSel_split (fun _ => ?_) (fun _ => ?_)) | (with_reducible refine aGd_split (fun _ => ?_) (fun _ => ?_))))
  all_goals first | with_reducible exact retV ⟨false, rfl, fun h => by cases h⟩ | skip
  refine callP (order_A m hf) fun R hR => ?_
  rcases hR with ⟨od, rfl, hod⟩ | rfl
  · have e0 : ((0 : Int) == 0) = true := by decide
    refine ⟨.inr ⟨⟨trivial, trivial, trivial⟩, pairs_plain, trivial⟩, ?_⟩
    simp only [AV.shift, AV.shiftL, ATab.shift]
    (repeat' (first | simp (maxSteps := 5000000) (implicitDefEqProofs := false) only [ruA, ruB, aEv, aTake, aLoad, aField, aBin, bin2, aExtract, ASt.get, aget, ASt.put, ↓reduceIte, reduceCtorEq, Nat.reduceLT, Nat.reduceEqDiff, Nat.reduceAdd, eq_self, tyF_32_9, tyA_30, tyS_30, e0] | (with_reducible refine aIf_split (fun _ => ?_) (fun _ => ?_)) | (with_reducible refine aSel_split (fun _ => ?_) (fun _ => ?_)) | (with_reducible refine aGd_split (fun _ => ?_) (fun _ => ?_))))
    refine callPB (same12_A od m.order (by omega) (by omega)) fun x _ => ?_
    (repeat' (first | simp (maxSteps := 5000000) (implicitDefEqProofs := false) only [ruA, aEv, ASt.get, aget, ASt.put, aResL, aOne, ↓reduceIte, Nat.reduceLT, Nat.reduceEqDiff, eq_self] | (with_reducible refine aIf_split (fun _ => ?_) (fun _ => ?_)) | (with_reducible refine aSel_split (fun _ => ?_) (fun _ => ?_)) | (with_reducible refine aGd_split (fun _ => ?_) (fun _ => ?_))))
    exact retV ⟨_, rfl, fun _ => chk⟩
  · have e0 : ((10 : Int) == 0) = false := by decide
    refine ⟨.inr ⟨⟨trivial, trivial, trivial⟩, trivial⟩, ?_⟩
    simp only [AV.shift, AV.shiftL, ATab.shift]
    (repeat' (first | simp (maxSteps := 5000000) (implicitDefEqProofs := false) only [ruA, ruB, aEv, aBin, bin2, aExtract, ASt.get, aget, ASt.put, aResL, aOne, ↓reduceIte, Nat.reduceLT, Nat.reduceEqDiff, Nat.reduceAdd, eq_self, e0] | (with_reducible refine aIf_split (fun _ => ?_) (fun _ => ?_)) | (with_reducible refine aSel_split (fun _ => ?_) (fun _ => ?_)) | (with_reducible refine aGd_split (fun _ => ?_) (fun _ => ?_))))
    exact retV ⟨false, rfl, fun h => by cases h⟩
end
section
open Go.RowKit
/-- a set of numbers below n -/
def subS (n : Nat) (o : Int) : Prop := 0 ≤ o ∧ o < 2 ^ n
theorem subS_low {n : Nat} {o : Int} (hn : n ≤ 31) (h : subS n o) : low o < 2 ^ n ∧ (low o : Int) = o := by
  obtain ⟨h1, h2⟩ := h
  have h3 : (2 : Int) ^ n ≤ 2147483648 := by
    have h4 : 2 ^ n ≤ 2 ^ 31 := Nat.pow_le_pow_right (by decide) hn
    have h5 : (2 : Int) ^ n = ((2 ^ n : Nat) : Int) := by simp
    rw [h5]
    have h6 : (2 : Nat) ^ 31 = 2147483648 := by decide
    omega
  have e : low o = o.toNat := by unfold low; omega
  have h5 : (2 : Int) ^ n = ((2 ^ n : Nat) : Int) := by simp
  rw [h5] at h2
  rw [e]
  omega
theorem subS_nat {n a : Nat} (h : a < 2 ^ n) : subS n (a : Int) := by
  refine ⟨by omega, ?_⟩
  have h5 : (2 : Int) ^ n = ((2 ^ n : Nat) : Int) := by simp
  rw [h5]
  omega
theorem subS_with {n : Nat} {o i : Int} (hn : n ≤ 31) (h : subS n o) (hi : i < (n : Int)) : subS n (withB o i) := by
  obtain ⟨h1, h2⟩ := subS_low hn h
  unfold withB
  split
  · exact subS_nat (Nat.or_lt_two_pow h1 (Nat.pow_lt_pow_right (by omega) (by omega)))
  · exact subS_nat h1
theorem subS_without {n : Nat} {o i : Int} (hn : n ≤ 31) (h : subS n o) : subS n (withoutB o i) := by
  obtain ⟨h1, h2⟩ := subS_low hn h
  unfold withoutB
  split
  · exact subS_nat (Nat.xor_lt_two_pow h1 (Nat.lt_of_le_of_lt Nat.and_le_left h1))
  · exact subS_nat h1
theorem subS_fold {n : Nat} (hn : n ≤ 31) : ∀ (l : List Int) (o : Int), subS n o → subS n (l.foldl withoutB o)
  | [], o, h => h
  | i :: l, o, h => subS_fold hn l _ (subS_without hn h)
theorem subS_undo {n : Nat} (hn : n ≤ 31) (l : List Ml) (st d : Int) (h : subS n d) : ∀ k, subS n (undo l st d k)
  | 0 => h
  | k + 1 => by
    unfold undo
    split
    · exact subS_without hn (subS_undo hn l st d h k)
    · exact subS_undo hn l st d h k
theorem fire_sub (m : Mod) (s : St) (x : Bool × Int) (h1 : m.stages.length ≤ 31) (h2 : m.miles.length ≤ 31) (ho : subS m.stages.length s.opn) (hd : subS m.miles.length s.don) : subS m.stages.length (fireM m s x).opn ∧ subS m.miles.length (fireM m s x).don := by
  unfold fireM
  split
  · rename_i st ev cond mi hs
    split
    · rename_i hin
      split
      · rename_i hx
        refine ⟨subS_fold h1 _ _ ho, subS_with h2 hd ?_⟩
        unfold sentryM at hs
        rw [if_pos hx] at hs
        split at hs
        · rename_i h0
          rcases hk : m.miles[x.2.toNat]? with _ | K
          · rw [hk] at hs
            cases hs
          · rw [hk] at hs
            have := (List.getElem?_eq_some_iff.1 hk).1
            simp at hs
            omega
        · cases hs
      · refine ⟨subS_with h1 ho ?_, subS_undo h2 _ _ _ hd _⟩
        unfold inS at hin
        simp at hin
        omega
    · exact ⟨ho, hd⟩
  · exact ⟨ho, hd⟩
theorem pass_sub (m : Mod) (event : Int) (h1 : m.stages.length ≤ 31) (h2 : m.miles.length ≤ 31) : ∀ (l : List (Bool × Int)) (s : St), subS m.stages.length s.opn → subS m.miles.length s.don → subS m.stages.length (l.foldl (turnM m event) s).opn ∧ subS m.miles.length (l.foldl (turnM m event) s).don
  | [], s, ho, hd => ⟨ho, hd⟩
  | x :: l, s, ho, hd => by
    rw [List.foldl_cons]
    have h : subS m.stages.length (turnM m event s x).opn ∧ subS m.miles.length (turnM m event s x).don := by
      unfold turnM
      split
      · exact fire_sub m s x h1 h2 ho hd
      · exact ⟨ho, hd⟩
    exact pass_sub m event h1 h2 l _ h.1 h.2
theorem subS_of {n : Nat} {o : Int} (hn : n ≤ 31) (h : subS n o) : ofB o (n : Int) = true := by
  obtain ⟨h1, h2⟩ := h
  unfold ofB firstI
  have e : (max 0 (min (n : Int) 31)).toNat = n := by omega
  rw [e]
  simp
  omega
theorem subS_zero (n : Nat) : subS n 0 := by
  have : 0 < 2 ^ n := Nat.two_pow_pos n
  exact subS_nat (a := 0) this
theorem begin_sub (m : Mod) (h1 : m.stages.length ≤ 31) (h2 : m.miles.length ≤ 31) : ofB (beginM m).opn m.stages.length = true ∧ ofB (beginM m).don m.miles.length = true := by
  obtain ⟨h3, h4⟩ := pass_sub m (-1) h1 h2 (m.order.take m.order.length) (startS m) (subS_zero _) (subS_zero _)
  exact ⟨subS_of h1 h3, subS_of h2 h4⟩
/-- the state in which a case begins may be -/
theorem begin_chk (m : Mod) (h1 : m.stages.length ≤ 31) (h2 : m.miles.length ≤ 31) (h3 : m.inits.length = m.attrs.length) (ht : ∀ e ∈ m.events, 0 ≤ e.times) : chkS m (beginM m) = true := by
  obtain ⟨o1, o2⟩ := begin_sub m h1 h2
  have hv := fold_vals m (-1) (m.order.take m.order.length) (startS m)
  have e1 : (beginM m).vals = m.inits := hv.1
  have e2 : (beginM m).did = List.replicate m.events.length 0 := hv.2.1
  have e3 : (beginM m).cnt = List.replicate m.events.length 0 := hv.2.2
  unfold chkS
  rw [o1, o2, e1, e2, e3]
  have hall : ∀ k, k ≤ m.events.length → allN (chkAt m (beginM m)) k = true := by
    intro k
    induction k with
    | zero => intro _; rfl
    | succ k ih =>
      intro hk
      unfold allN
      rw [ih (by omega), Bool.true_and]
      unfold chkAt
      have g : (List.replicate m.events.length (0 : Int)).getD k 0 = 0 := by
        rw [List.getD_eq_getElem?_getD, List.getElem?_replicate]
        split <;> rfl
      rw [e2, e3, g, List.getElem?_eq_getElem (by omega)]
      have h0 := ht _ (List.getElem_mem (show k < m.events.length by omega))
      have hz : ofB 0 (m.users.length : Int) = true := by
        unfold ofB firstI
        have : 1 ≤ (2 : Int) ^ (max 0 (min (m.users.length : Int) 31)).toNat := by
          have := Nat.one_le_two_pow (n := (max 0 (min (m.users.length : Int) 31)).toNat)
          have h5 : ∀ n : Nat, (2 : Int) ^ n = ((2 ^ n : Nat) : Int) := by simp
          rw [h5]
          omega
        simp
        omega
      rw [hz]
      simp
      omega
  rw [hall _ (Nat.le_refl _)]
  simp [h3]
theorem statZ_chk (m : Mod) (c : List Int) (s : St) (h : chkS m s = true) : chkS m (statZ m (nodeM m c s)) = true := by
  unfold chkS at h ⊢
  have e : chkAt m (statZ m (nodeM m c s)) = chkAt m s := rfl
  rw [e]
  show (decide ((List.replicate m.attrs.length (0 : Int)).length = m.attrs.length) && decide (s.did.length = m.events.length) && decide (s.cnt.length = m.events.length) && ofB s.opn m.stages.length && ofB s.don m.miles.length && allN (chkAt m s) m.events.length) = true
  simp only [Bool.and_eq_true, decide_eq_true_eq] at h ⊢
  simp only [List.length_replicate]
  exact ⟨⟨⟨⟨⟨trivial, h.1.1.1.1.2⟩, h.1.1.1.2⟩, h.1.1.2⟩, h.1.2⟩, h.2⟩
theorem chk_times (m : Mod) (s : St) (h : chkS m s = true) : ∀ e ∈ m.events, 0 ≤ e.times := fun e he => by
  obtain ⟨i, hi, rfl⟩ := List.getElem_of_mem he
  unfold chkS at h
  simp only [Bool.and_eq_true] at h
  have hall : ∀ k, allN (chkAt m s) k = true → ∀ j, j < k → chkAt m s j = true := by
    intro k
    induction k with
    | zero => intro _ j hj; omega
    | succ k ih =>
      intro h j hj
      unfold allN at h
      rw [Bool.and_eq_true] at h
      rcases Nat.lt_or_ge j k with h2 | h2
      · exact ih h.1 j h2
      · obtain rfl : j = k := by omega
        exact h.2
  have hi2 := hall _ h.2 i hi
  unfold chkAt at hi2
  rw [List.getElem?_eq_getElem hi] at hi2
  simp at hi2
  omega
set_option maxRecDepth 100000 in
set_option maxHeartbeats 32000000 in
theorem nodeMay27_A (m : Mod) (c : List Int) (s : St) (hle : m.events.length ≤ 9223372036854775807) (hco : condOk m) (hp : ∀ p ∈ m.stages, ok64 p.2) (hi : ∀ x ∈ m.inits, ok64 x) (hv : ∀ x ∈ s.vals, ok64 x) (hc : ∀ x ∈ c, ok64 x) (hop : ok64 s.opn) (hdo : ok64 s.don) (hdid : ∀ x ∈ s.did, ok64 x) : ADet Tryz.prog 4 [.agg (eMod m), sI c, .agg (eSt s)] (val (.bool true)) := by
  refine adet_of_code mixedT Tryz.func4 rfl (by decide) Tryz.ntmps4 Tryz.results4 rfl (val_ok _) ?_
  (repeat' (first | simp (maxSteps := 5000000) (implicitDefEqProofs := false) only [ruA, ruB, aEv, aTake, aLoad, ASt.get, aget, ASt.put, aBox, aCells, oneC, oneCL, Value.oneCell', envOf, ↓reduceIte, reduceCtorEq, Nat.reduceLT, Nat.reduceEqDiff, Nat.reduceAdd, eq_self, tyA_32, tyS_32] | (with_reducible refine aIf_split (fun _ => ?_) (fun _ => ?_)) | (with_reducible refine aSel_split (fun _ => ?_) (fun _ => ?_)) | (with_reducible refine aGd_split (fun _ => ?_) (fun _ => ?_))))
  refine callPB (wild_A m hle) fun b hb => ?_
  cases b with
  | true =>
    (repeat' (first | simp (maxSteps := 5000000) (implicitDefEqProofs := false) only [ruA, ruB, aEv, ASt.get, aget, ASt.put, aResL, aOne, ↓reduceIte, Nat.reduceLT, Nat.reduceEqDiff, eq_self] | (with_reducible refine aIf_split (fun _ => ?_) (fun _ => ?_)) | (with_reducible refine aSel_split (fun _ => ?_) (fun _ => ?_)) | (with_reducible refine aGd_split (fun _ => ?_) (fun _ => ?_)) | (with_reducible refine aDraw_quiet (by kernel_rfl) ?_) | ((with_reducible apply callV (g := 8)); exact (awake27_A)) | ((with_reducible apply callD (g := 8)); exact (awake27_A))))
  | false =>
    obtain ⟨hf, hm⟩ := hb rfl
    (repeat' (first | simp (maxSteps := 5000000) (implicitDefEqProofs := false) only [ruA, ruB, aEv, aTake, aLoad, ASt.get, aget, ASt.put, ↓reduceIte, Nat.reduceLT, Nat.reduceEqDiff, Nat.reduceAdd, eq_self, tyA_35, tyS_35] | (with_reducible refine aIf_split (fun _ => ?_) (fun _ => ?_)) | (with_reducible refine aSel_split (fun _ => ?_) (fun _ => ?_)) | (with_reducible refine aGd_split (fun _ => ?_) (fun _ => ?_))))
    refine callPB (great15_A s) fun b2 hb2 => ?_
    cases b2 with
    | true =>
      (repeat' (first | simp (maxSteps := 5000000) (implicitDefEqProofs := false) only [ruA, ruB, aEv, ASt.get, aget, ASt.put, aResL, aOne, ↓reduceIte, Nat.reduceLT, Nat.reduceEqDiff, eq_self] | (with_reducible refine aIf_split (fun _ => ?_) (fun _ => ?_)) | (with_reducible refine aSel_split (fun _ => ?_) (fun _ => ?_)) | (with_reducible refine aGd_split (fun _ => ?_) (fun _ => ?_)) | (with_reducible refine aDraw_quiet (by kernel_rfl) ?_) | ((with_reducible apply callV (g := 8)); exact (awake27_A)) | ((with_reducible apply callD (g := 8)); exact (awake27_A))))
    | false =>
      obtain ⟨hs1, hs2, hs3⟩ := hb2 rfl
      by_cases hcl : c.length ≤ 20
      · have d1 : decide (20 < (c.length : Int)) = false := by simp only [decide_eq_false_iff_not]; omega
        (repeat' (first | simp (maxSteps := 5000000) (implicitDefEqProofs := false) only [ruA, ruB, aEv, aTake, aLoad, aLen, aBin, bin2, ASt.get, aget, ASt.put, ↓reduceIte, reduceCtorEq, Nat.reduceLT, Nat.reduceEqDiff, Nat.reduceAdd, eq_self, ne_eq, tyA_32, tyS_32, tyE_23, d1] | (with_reducible refine aIf_split (fun _ => ?_) (fun _ => ?_)) | (with_reducible refine aSel_split (fun _ => ?_) (fun _ => ?_)) | (with_reducible refine aGd_split (fun _ => ?_) (fun _ => ?_))))
        refine callPB (check13_A m hf hp) fun b3 hb3 => ?_
        cases b3 with
        | false =>
          (repeat' (first | simp (maxSteps := 5000000) (implicitDefEqProofs := false) only [ruA, ruB, aEv, aUn, un1, ASt.get, aget, ASt.put, aResL, aOne, ↓reduceIte, Nat.reduceLT, Nat.reduceEqDiff, eq_self] | (with_reducible refine aIf_split (fun _ => ?_) (fun _ => ?_)) | (with_reducible refine aSel_split (fun _ => ?_) (fun _ => ?_)) | (with_reducible refine aGd_split (fun _ => ?_) (fun _ => ?_)) | (with_reducible refine aDraw_quiet (by kernel_rfl) ?_) | ((with_reducible apply callV (g := 8)); exact (awake27_A)) | ((with_reducible apply callD (g := 8)); exact (awake27_A))))
        | true =>
          have hk := hb3 rfl
          obtain ⟨-, hmil, hstg, hel, -, -, -, -, -, hil⟩ := id hf.sizes
          have hCR := checkR_A m s (by omega) hop hdo hdid
          cases hch : chkS m s with
          | false =>
            rw [hch] at hCR
            (repeat' (first | simp (maxSteps := 5000000) (implicitDefEqProofs := false) only [ruA, ruB, aEv, aTake, aLoad, aUn, un1, ASt.get, aget, ASt.put, aResL, aOne, ↓reduceIte, reduceCtorEq, Nat.reduceLT, Nat.reduceEqDiff, Nat.reduceAdd, eq_self, tyA_32, tyS_32, tyA_35, tyS_35] | (with_reducible refine aIf_split (fun _ => ?_) (fun _ => ?_)) | (with_reducible refine aSel_split (fun _ => ?_) (fun _ => ?_)) | (with_reducible refine aGd_split (fun _ => ?_) (fun _ => ?_)) | (with_reducible refine aDraw_quiet (by kernel_rfl) ?_) | ((with_reducible apply callV); exact (hCR)) | ((with_reducible apply callD); exact (hCR)) | ((with_reducible apply callV (g := 8)); exact (awake27_A)) | ((with_reducible apply callD (g := 8)); exact (awake27_A))))
          | true =>
            rw [hch] at hCR
            obtain ⟨e1, e2, e3⟩ := begin_st m
            have hvl : s.vals.length = m.attrs.length := by
              unfold chkS at hch
              simp only [Bool.and_eq_true, decide_eq_true_eq] at hch
              exact hch.1.1.1.1.1
            have hat := hk.attrs
            have hin := hk.inits
            have hO := nodeOfC_A m c s hel hm (by omega) (by omega) hv hc (by omega) (by omega)
            obtain ⟨z1, z2⟩ := nodeM_len m c s (by omega) (by omega)
            have hB := nodeBegin_A m c hf hco hp hi hm (by omega) hc
            obtain ⟨y1, y2⟩ := nodeM_len m c (beginM m) (by rw [e1]; omega) (by omega)
            have hP1 : NodeP m c (nodeM m c s) := nodeP_zone m c _ s.vals (by omega) hvl rfl (statZ_chk m c s hch)
            have hP2 : NodeP m c (nodeM m c (beginM m)) := nodeP_zone m c _ (beginM m).vals (by rw [e1]; omega) (by rw [e1]; omega) rfl (statZ_chk m c _ (begin_chk m (by omega) (by omega) hin (chk_times m s hch)))
            have hC1 : ADet Tryz.prog 19 [.agg (eMod m), sI c, .agg (eNd (nodeM m c s))] (val (.bool true)) := (nodeCheck_A m c (nodeM m c s) hel hm (by omega) z1 z2 (by omega) hc (by show s.did.length ≤ _; omega) (by show s.cnt.length ≤ _; omega)).mono fun R ⟨b, h1, h2⟩ => by rw [h1, h2.2 hP1]
            have hC2 : ADet Tryz.prog 19 [.agg (eMod m), sI c, .agg (eNd (nodeM m c (beginM m)))] (val (.bool true)) := (nodeCheck_A m c (nodeM m c (beginM m)) hel hm (by omega) y1 y2 (by omega) hc (by show (beginM m).did.length ≤ _; omega) (by show (beginM m).cnt.length ≤ _; omega)).mono fun R ⟨b, h1, h2⟩ => by rw [h1, h2.2 hP2]
            obtain ⟨nd, hnd⟩ : ∃ nd, nodeM m c s = nd := ⟨_, rfl⟩
            obtain ⟨nb, hnb⟩ : ∃ nd, nodeM m c (beginM m) = nd := ⟨_, rfl⟩
            rw [hnd] at hO hC1
            rw [hnb] at hB hC2
            clear hP1 hP2 hnd hnb z1 z2 y1 y2 hk hch
            (repeat' (first | simp (maxSteps := 5000000) (implicitDefEqProofs := false) only [ruA, ruB, aEv, aTake, aLoad, aUn, un1, ASt.get, aget, ASt.put, ↓reduceIte, reduceCtorEq, Nat.reduceLT, Nat.reduceEqDiff, Nat.reduceAdd, eq_self, tyA_32, tyS_32, tyA_35, tyS_35] | (with_reducible refine aIf_split (fun _ => ?_) (fun _ => ?_)) | (with_reducible refine aSel_split (fun _ => ?_) (fun _ => ?_)) | (with_reducible refine aGd_split (fun _ => ?_) (fun _ => ?_))))
            refine callV hCR ?_
            (repeat' (first | simp (maxSteps := 5000000) (implicitDefEqProofs := false) only [ruA, ruB, aEv, aUn, un1, ASt.get, aget, ASt.put, ↓reduceIte, Nat.reduceLT, Nat.reduceEqDiff, eq_self] | (with_reducible refine aIf_split (fun _ => ?_) (fun _ => ?_)) | (with_reducible refine aSel_split (fun _ => ?_) (fun _ => ?_)) | (with_reducible refine aGd_split (fun _ => ?_) (fun _ => ?_))))
            refine aDraw_held [] [0, 1, 2, 3, 4] (.exec 5 (.exec 6 (.take 7 (.take 8 (.take 9 (.take 10 (.take 11 (.exec 12 (.exec 13 (.take 14 (.take 15 (.exec 16 (.take 17 (.exec 18 .done)))))))))))))) (by kernel_rfl) (by simp [ATab.get_cons]) ?_
            (repeat' (first | simp (maxSteps := 5000000) (implicitDefEqProofs := false) only [ruA, ruB, aEv, aTake, aLoad, ASt.get, aget, ASt.put, aResL, aOne, ↓reduceIte, reduceCtorEq, Nat.reduceLT, Nat.reduceEqDiff, Nat.reduceAdd, eq_self, aTakes, aTakeE, aElder, aFrom, AV.shift, AV.shiftL, tyA_32, tyS_32, tyA_35, tyS_35] | (with_reducible refine aIf_split (fun _ => ?_) (fun _ => ?_)) | (with_reducible refine aSel_split (fun _ => ?_) (fun _ => ?_)) | (with_reducible refine aGd_split (fun _ => ?_) (fun _ => ?_)) | (with_reducible refine aDraw_quiet (by kernel_rfl) ?_) | ((with_reducible apply callT); exact (hO); exact (.inl (by simp [roL, roA, treeL, treeC]))) | ((with_reducible apply callV); exact (hC1)) | ((with_reducible apply callD); exact (hC1)) | ((with_reducible apply callT); exact (hB); exact (.inl (by simp [roL, roA, treeL, treeC]))) | ((with_reducible apply callV); exact (hC2)) | ((with_reducible apply callD); exact (hC2)) | ((with_reducible apply callV (g := 8)); exact (awake27_A)) | ((with_reducible apply callD (g := 8)); exact (awake27_A)) | (with_reducible apply And.intro)))
            all_goals trace_state
      · have d1 : decide (20 < (c.length : Int)) = true := by simp only [decide_eq_true_eq]; omega
        (repeat' (first | simp (maxSteps := 5000000) (implicitDefEqProofs := false) only [ruA, ruB, aEv, aLen, aBin, bin2, ASt.get, aget, ASt.put, aResL, aOne, ↓reduceIte, Nat.reduceLT, Nat.reduceEqDiff, eq_self, ne_eq, tyE_23, d1] | (with_reducible refine aIf_split (fun _ => ?_) (fun _ => ?_)) | (with_reducible refine aSel_split (fun _ => ?_) (fun _ => ?_)) | (with_reducible refine aGd_split (fun _ => ?_) (fun _ => ?_)) | (with_reducible refine aDraw_quiet (by kernel_rfl) ?_) | ((with_reducible apply callV (g := 8)); exact (awake27_A)) | ((with_reducible apply callD (g := 8)); exact (awake27_A))))
end
section
open Go.RowKit

theorem opensInt : Opens Tryz.prog 3 (intR .i64) := opens_int Tryz.underlying3
theorem opensI64 : Opens Tryz.prog 2 (intR .i64) := opens_int Tryz.underlying2
def valR : Rep (Int × Int × Unit) := pairR (intR .i64) (pairR (intR .i64) nilR)
theorem opensVal : Opens Tryz.prog 134 valR :=
  opens_struct Tryz.underlying134 (by kernel_rfl) (opensF_cons (by kernel_rfl) (by kernel_rfl) opensInt (opensF_cons (by kernel_rfl) (by kernel_rfl) opensI64 (opensF_nil _ _)))
def instP : Rep (Int × (Int × Int × Unit) × (Int × Int × Unit) × Int × Int × Unit) := pairR (intR .i64) (pairR valR (pairR valR (pairR (intR .i64) (pairR (intR .i64) nilR))))
theorem opensInstP : Opens Tryz.prog 136 instP :=
  opens_struct Tryz.underlying136 (by kernel_rfl) (opensF_cons (by kernel_rfl) (by kernel_rfl) opensInt (opensF_cons (by kernel_rfl) (by kernel_rfl) opensVal (opensF_cons (by kernel_rfl) (by kernel_rfl) opensVal (opensF_cons (by kernel_rfl) (by kernel_rfl) opensInt (opensF_cons (by kernel_rfl) (by kernel_rfl) opensInt (opensF_nil _ _))))))
theorem opensInst : Opens Tryz.prog 136 instR := opens_map opensInstP (fun p => ⟨p.1, p.2.1.1, p.2.1.2.1, p.2.2.1.1, p.2.2.1.2.1, p.2.2.2.1, p.2.2.2.2.1⟩) (by
  rintro w S cs ⟨op, ⟨la, ln, _⟩, ⟨ra, rn, _⟩, n, u, _⟩ h
  obtain ⟨c0, q0, e0, ⟨a0, h0⟩, h'⟩ := pair_inv h
  obtain ⟨c1, q1, e1, h1, h''⟩ := pair_inv h'
  obtain ⟨c2, q2, e2, h2, h3⟩ := pair_inv h''
  obtain ⟨c3, q3, e3, ⟨a3, h3'⟩, h4⟩ := pair_inv h3
  obtain ⟨c4, q4, e4, ⟨a4, h4'⟩, h5⟩ := pair_inv h4
  have h5 : q4 = [] := h5
  obtain ⟨d0, k0, f0, ⟨b0, g0⟩, m0⟩ := pair_inv h1
  obtain ⟨d1, k1, f1, ⟨b1, g1⟩, m1⟩ := pair_inv m0
  have m1 : k1 = [] := m1
  obtain ⟨d2, k2, f2, ⟨b2, g2⟩, m2⟩ := pair_inv h2
  obtain ⟨d3, k3, f3, ⟨b3, g3⟩, m3⟩ := pair_inv m2
  have m3 : k3 = [] := m3
  refine ⟨?_, wf_i64 h0, wf_i64 g0, wf_i64 g1, wf_i64 g2, wf_i64 g3, wf_i64 h3', wf_i64 h4'⟩
  rw [e0, e1, e2, e3, e4, h5, a0, f0, f1, m1, b0, b1, f2, f3, m3, b2, b3, a3, a4]
  rfl)
theorem opensInsts : Opens Tryz.prog 82 (sliceR instR) := opens_slice Tryz.underlying82 (by kernel_rfl) (by decide) opensInst
theorem opensI64s : Opens Tryz.prog 23 (sliceR (intR .i64)) := opens_slice Tryz.underlying23 (by kernel_rfl) (by decide) opensI64
theorem opensIntsE : Opens Tryz.prog 33 (sliceR (intR .i64)) := opens_slice Tryz.underlying33 (by kernel_rfl) (by decide) opensInt
def stP : Rep (List Int × Int × Int × List Int × List Int × Unit) := pairR (sliceR (intR .i64)) (pairR (intR .i64) (pairR (intR .i64) (pairR (sliceR (intR .i64)) (pairR (sliceR (intR .i64)) nilR))))
theorem opensStP : Opens Tryz.prog 35 stP :=
  opens_struct Tryz.underlying35 (by kernel_rfl) (opensF_cons (by kernel_rfl) (by kernel_rfl) opensI64s (opensF_cons (by kernel_rfl) (by kernel_rfl) opensInt (opensF_cons (by kernel_rfl) (by kernel_rfl) opensInt (opensF_cons (by kernel_rfl) (by kernel_rfl) opensIntsE (opensF_cons (by kernel_rfl) (by kernel_rfl) opensIntsE (opensF_nil _ _))))))
/-- a state's cells -/
structure StAt (w : World) (S : Nat → Prop) (cs : Array Value) (s : St) (vv dv cv : Value) : Prop where
  cells : cs = #[vv, .int .i64 s.opn, .int .i64 s.don, dv, cv]
  vals : (sliceR (intR .i64)).one w S vv s.vals
  did : (sliceR (intR .i64)).one w S dv s.did
  cnt : (sliceR (intR .i64)).one w S cv s.cnt
  opn : ok64 s.opn
  don : ok64 s.don
theorem open_st {H : Type} {enc : TypeId × Value → H} {w : World} {fuel : Nat} {cs : Array Value} {x : DataW H × List MemPlace} (h : DataW.trod enc Tryz.prog w 0 (fun _ => true) true fuel 35 cs.toList = some x) :
    ∃ s vv dv cv, StAt w (fun b => b < w.heap.size) cs s vv dv cv := by
  obtain ⟨⟨vals, o, d, did, cnt, _⟩, h⟩ := opensStP H enc w fuel _ _ h
  obtain ⟨c0, q0, e0, h0, h⟩ := pair_inv h
  obtain ⟨c1, q1, e1, ⟨e1', h1⟩, h⟩ := pair_inv h
  obtain ⟨c2, q2, e2, ⟨e2', h2⟩, h⟩ := pair_inv h
  obtain ⟨c3, q3, e3, h3, h⟩ := pair_inv h
  obtain ⟨c4, q4, e4, h4, h⟩ := pair_inv h
  obtain rfl : q4 = [] := h
  obtain ⟨vv, rfl, h0⟩ := one_inv (r := sliceR (intR .i64)) rfl h0
  obtain ⟨dv, rfl, h3⟩ := one_inv (r := sliceR (intR .i64)) rfl h3
  obtain ⟨cv, rfl, h4⟩ := one_inv (r := sliceR (intR .i64)) rfl h4
  refine ⟨⟨vals, o, d, did, cnt⟩, vv, dv, cv, ?_, h0, h3, h4, wf_i64 h1, wf_i64 h2⟩
  apply Array.ext'
  rw [e0, e1, e2, e3, e4, e1', e2']
  rfl
end
section
open Go.RowKit

theorem opensStr : Opens Tryz.prog 9 strR := opens_string Tryz.underlying9
theorem opensBoolM : Opens Tryz.prog 4 boolR := opens_bool Tryz.underlying4
theorem opensNameInt {t : TypeId} (h : Opens Tryz.prog t (pairR strR (pairR (intR .i64) nilR))) : Opens Tryz.prog t nameIntR := opens_map h (fun p => (p.1, p.2.1)) (by
  rintro w S cs ⟨s, n, _⟩ h
  obtain ⟨c0, q0, e0, ⟨a0, h0⟩, h⟩ := pair_inv h
  obtain ⟨c1, q1, e1, ⟨a1, h1⟩, h⟩ := pair_inv h
  have h : q1 = [] := h
  exact ⟨by rw [e0, e1, a0, a1, h]; rfl, h0, wf_i64 h1⟩)
theorem opensStage : Opens Tryz.prog 100 nameIntR := opensNameInt (opens_struct Tryz.underlying100 (by kernel_rfl) (opensF_cons (by kernel_rfl) (by kernel_rfl) opensStr (opensF_cons (by kernel_rfl) (by kernel_rfl) opensInt (opensF_nil _ _))))
theorem opensRole : Opens Tryz.prog 98 nameIntR := opensNameInt (opens_struct Tryz.underlying98 (by kernel_rfl) (opensF_cons (by kernel_rfl) (by kernel_rfl) opensStr (opensF_cons (by kernel_rfl) (by kernel_rfl) opensInt (opensF_nil _ _))))
theorem opensSod : Opens Tryz.prog 104 intIntR := opens_map (r := pairR (intR .i64) (pairR (intR .i64) nilR)) (opens_struct Tryz.underlying104 (by kernel_rfl) (opensF_cons (by kernel_rfl) (by kernel_rfl) opensInt (opensF_cons (by kernel_rfl) (by kernel_rfl) opensInt (opensF_nil _ _)))) (fun p => (p.1, p.2.1)) (by
  rintro w S cs ⟨s, n, _⟩ h
  obtain ⟨c0, q0, e0, ⟨a0, h0⟩, h⟩ := pair_inv h
  obtain ⟨c1, q1, e1, ⟨a1, h1⟩, h⟩ := pair_inv h
  have h : q1 = [] := h
  exact ⟨by rw [e0, e1, a0, a1, h]; rfl, wf_i64 h0, wf_i64 h1⟩)
theorem opensSentry : Opens Tryz.prog 111 sentryR := opens_map (r := pairR boolR (pairR (intR .i64) nilR)) (opens_struct Tryz.underlying111 (by kernel_rfl) (opensF_cons (by kernel_rfl) (by kernel_rfl) opensBoolM (opensF_cons (by kernel_rfl) (by kernel_rfl) opensInt (opensF_nil _ _)))) (fun p => (p.1, p.2.1)) (by
  rintro w S cs ⟨s, n, _⟩ h
  obtain ⟨c0, q0, e0, a0, h⟩ := pair_inv h
  have a0 : c0 = [.bool s] := a0
  obtain ⟨c1, q1, e1, ⟨a1, h1⟩, h⟩ := pair_inv h
  have h : q1 = [] := h
  exact ⟨by rw [e0, e1, a0, a1, h]; rfl, wf_i64 h1⟩)
theorem opensGuard : Opens Tryz.prog 84 gdR := opens_map (r := pairR (intR .i64) (pairR (intR .i64) (pairR (sliceR instR) nilR))) (opens_struct Tryz.underlying84 (by kernel_rfl) (opensF_cons (by kernel_rfl) (by kernel_rfl) opensInt (opensF_cons (by kernel_rfl) (by kernel_rfl) opensInt (opensF_cons (by kernel_rfl) (by kernel_rfl) opensInsts (opensF_nil _ _))))) (fun p => ⟨p.1, p.2.1, p.2.2.1⟩) (by
  rintro w S cs ⟨s, n, l, _⟩ h
  obtain ⟨c0, q0, e0, ⟨a0, h0⟩, h⟩ := pair_inv h
  obtain ⟨c1, q1, e1, ⟨a1, h1⟩, h⟩ := pair_inv h
  obtain ⟨c2, q2, e2, h2, h⟩ := pair_inv h
  have h : q2 = [] := h
  obtain ⟨cv, rfl, h2⟩ := one_inv (r := sliceR instR) rfl h2
  exact ⟨cv, by rw [e0, e1, e2, a0, a1, h]; rfl, h2, wf_i64 h0, wf_i64 h1⟩)
theorem opensMile : Opens Tryz.prog 86 mlR := opens_map (r := pairR strR (pairR (intR .i64) (pairR (intR .i64) (pairR (sliceR instR) (pairR boolR nilR))))) (opens_struct Tryz.underlying86 (by kernel_rfl) (opensF_cons (by kernel_rfl) (by kernel_rfl) opensStr (opensF_cons (by kernel_rfl) (by kernel_rfl) opensInt (opensF_cons (by kernel_rfl) (by kernel_rfl) opensInt (opensF_cons (by kernel_rfl) (by kernel_rfl) opensInsts (opensF_cons (by kernel_rfl) (by kernel_rfl) opensBoolM (opensF_nil _ _))))))) (fun p => ⟨p.1, p.2.1, p.2.2.1, p.2.2.2.1, p.2.2.2.2.1⟩) (by
  rintro w S cs ⟨nm, s, n, l, b, _⟩ h
  obtain ⟨c9, q9, e9, ⟨a9, h9⟩, h⟩ := pair_inv h
  obtain ⟨c0, q0, e0, ⟨a0, h0⟩, h⟩ := pair_inv h
  obtain ⟨c1, q1, e1, ⟨a1, h1⟩, h⟩ := pair_inv h
  obtain ⟨c2, q2, e2, h2, h⟩ := pair_inv h
  obtain ⟨c3, q3, e3, a3, h⟩ := pair_inv h
  have a3 : c3 = [.bool b] := a3
  have h : q3 = [] := h
  obtain ⟨cv, rfl, h2⟩ := one_inv (r := sliceR instR) rfl h2
  exact ⟨cv, by rw [e9, e0, e1, e2, e3, a9, a0, a1, a3, h]; rfl, h2, wf_i64 h0, wf_i64 h1, h9⟩)
theorem opensEvent : Opens Tryz.prog 56 evR := opens_map (r := pairR strR (pairR (intR .i64) (pairR (intR .i64) (pairR (sliceR (intR .i64)) (pairR (intR .i64) nilR))))) (opens_struct Tryz.underlying56 (by kernel_rfl) (opensF_cons (by kernel_rfl) (by kernel_rfl) opensStr (opensF_cons (by kernel_rfl) (by kernel_rfl) opensInt (opensF_cons (by kernel_rfl) (by kernel_rfl) opensInt (opensF_cons (by kernel_rfl) (by kernel_rfl) opensIntsE (opensF_cons (by kernel_rfl) (by kernel_rfl) opensInt (opensF_nil _ _))))))) (fun p => ⟨p.1, p.2.1, p.2.2.1, p.2.2.2.1, p.2.2.2.2.1⟩) (by
  rintro w S cs ⟨nm, s, n, l, b, _⟩ h
  obtain ⟨c9, q9, e9, ⟨a9, h9⟩, h⟩ := pair_inv h
  obtain ⟨c0, q0, e0, ⟨a0, h0⟩, h⟩ := pair_inv h
  obtain ⟨c1, q1, e1, ⟨a1, h1⟩, h⟩ := pair_inv h
  obtain ⟨c2, q2, e2, h2, h⟩ := pair_inv h
  obtain ⟨c3, q3, e3, ⟨a3, h3⟩, h⟩ := pair_inv h
  have h : q3 = [] := h
  obtain ⟨cv, rfl, h2⟩ := one_inv (r := sliceR (intR .i64)) rfl h2
  exact ⟨cv, by rw [e9, e0, e1, e2, e3, a9, a0, a1, a3, h]; rfl, h2, wf_i64 h0, wf_i64 h1, wf_i64 h3, h9⟩)
abbrev modP := pairR (sliceR strR) (pairR (sliceR (intR .i64)) (pairR (sliceR strR) (pairR (sliceR nameIntR) (pairR (sliceR nameIntR) (pairR (sliceR evR) (pairR (sliceR gdR) (pairR (sliceR mlR) (pairR (sliceR intIntR) (pairR (sliceR sentryR) nilR)))))))))
set_option maxRecDepth 100000 in
theorem opensModP : Opens Tryz.prog 32 modP := opens_struct Tryz.underlying32 (by kernel_rfl) (opensF_cons (by kernel_rfl) (by kernel_rfl) (opens_slice Tryz.underlying22 (by kernel_rfl) (by decide) opensStr) (opensF_cons (by kernel_rfl) (by kernel_rfl) (opens_slice Tryz.underlying23 (by kernel_rfl) (by decide) opensI64) (opensF_cons (by kernel_rfl) (by kernel_rfl) (opens_slice Tryz.underlying22 (by kernel_rfl) (by decide) opensStr) (opensF_cons (by kernel_rfl) (by kernel_rfl) (opens_slice Tryz.underlying24 (by kernel_rfl) (by decide) opensRole) (opensF_cons (by kernel_rfl) (by kernel_rfl) (opens_slice Tryz.underlying25 (by kernel_rfl) (by decide) opensStage) (opensF_cons (by kernel_rfl) (by kernel_rfl) (opens_slice Tryz.underlying26 (by kernel_rfl) (by decide) opensEvent) (opensF_cons (by kernel_rfl) (by kernel_rfl) (opens_slice Tryz.underlying27 (by kernel_rfl) (by decide) opensGuard) (opensF_cons (by kernel_rfl) (by kernel_rfl) (opens_slice Tryz.underlying28 (by kernel_rfl) (by decide) opensMile) (opensF_cons (by kernel_rfl) (by kernel_rfl) (opens_slice Tryz.underlying29 (by kernel_rfl) (by decide) opensSod) (opensF_cons (by kernel_rfl) (by kernel_rfl) (opens_slice Tryz.underlying30 (by kernel_rfl) (by decide) opensSentry) (opensF_nil _ _)))))))))))
theorem open_mod {H : Type} {enc : TypeId × Value → H} {w : World} {fuel : Nat} {cs : Array Value} {x : DataW H × List MemPlace} (h : DataW.trod enc Tryz.prog w 0 (fun _ => true) true fuel 32 cs.toList = some x) :
    ∃ (V : MV) (m : Mod), cs = V.cells ∧ ModI w V m := by
  obtain ⟨⟨attrs, inits, users, roles, stages, events, guards, miles, sods, order, _⟩, h⟩ := opensModP H enc w fuel _ _ h
  obtain ⟨c0, q0, e0, h0, h⟩ := pair_inv h
  obtain ⟨c1, q1, e1, h1, h⟩ := pair_inv h
  obtain ⟨c2, q2, e2, h2, h⟩ := pair_inv h
  obtain ⟨c3, q3, e3, h3, h⟩ := pair_inv h
  obtain ⟨c4, q4, e4, h4, h⟩ := pair_inv h
  obtain ⟨c5, q5, e5, h5, h⟩ := pair_inv h
  obtain ⟨c6, q6, e6, h6, h⟩ := pair_inv h
  obtain ⟨c7, q7, e7, h7, h⟩ := pair_inv h
  obtain ⟨c8, q8, e8, h8, h⟩ := pair_inv h
  obtain ⟨c9, q9, e9, h9, h⟩ := pair_inv h
  obtain rfl : q9 = [] := h
  obtain ⟨v0, rfl, h0⟩ := one_inv (r := sliceR strR) rfl h0
  obtain ⟨v1, rfl, h1⟩ := one_inv (r := sliceR (intR .i64)) rfl h1
  obtain ⟨v2, rfl, h2⟩ := one_inv (r := sliceR strR) rfl h2
  obtain ⟨v3, rfl, h3⟩ := one_inv (r := sliceR nameIntR) rfl h3
  obtain ⟨v4, rfl, h4⟩ := one_inv (r := sliceR nameIntR) rfl h4
  obtain ⟨v5, rfl, h5⟩ := one_inv (r := sliceR evR) rfl h5
  obtain ⟨v6, rfl, h6⟩ := one_inv (r := sliceR gdR) rfl h6
  obtain ⟨v7, rfl, h7⟩ := one_inv (r := sliceR mlR) rfl h7
  obtain ⟨v8, rfl, h8⟩ := one_inv (r := sliceR intIntR) rfl h8
  obtain ⟨v9, rfl, h9⟩ := one_inv (r := sliceR sentryR) rfl h9
  refine ⟨⟨v0, v1, v2, v3, v4, v5, v6, v7, v8, v9⟩, ⟨attrs, inits, users, roles, stages, events, guards, miles, sods, order⟩, ?_, ⟨h0, h1, h2, h3, h4, h5, h6, h7, h8, h9⟩⟩
  apply Array.ext'
  rw [e0, e1, e2, e3, e4, e5, e6, e7, e8, e9]
  rfl
end
end Go.Proofs.YtmcegfoaceilgaaGreat
