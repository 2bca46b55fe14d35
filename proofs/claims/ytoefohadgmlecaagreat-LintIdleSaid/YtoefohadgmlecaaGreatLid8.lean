/-
  Parts of the proof: L9, L10, EvOpen, CO.
-/
import Derived.Test.YtoefohadgmlecaaGreatLid7
import Derived.Test.YtoefohadgmlecaaGreatProg
set_option linter.unusedVariables false
set_option linter.unusedSimpArgs false
namespace Go.Proofs.YtoefohadgmlecaaGreat
section
open Go.RowKit
set_option maxRecDepth 100000 in
theorem rule5_A : ADet Tryz.prog 39 [eI 0, .rp [eI 0]] (val (.bool true)) := by
  refine adet_of_code mixedT Tryz.func39 rfl (by decide) Tryz.ntmps39 Tryz.results39 rfl (val_ok _) ?_
  have hH := has_A 0 0
  have e : hasB 0 0 = false := rfl
  rw [e] at hH
  (repeat' (first | simp (maxSteps := 5000000) (implicitDefEqProofs := false) only [ruA, ruB, aEv, aTake, aLoad, aField, aIndex, aLen, aBin, bin2, aUn, un1, aExtract, aConv, ASt.get, aget, ASt.put, aStore, aBox, aAppend, aBuildSlice, aMake, aBuild, aFill, oneParts, allC, aBinS, yv, aCells, oneC, oneCL, treeC, treeL, treeML, treeM_c, treeM_sl, treeM_rp, treeM_any, treeM_fn, treeM_bfn, aLit, aDst, aSrc, appTab, Value.cells, Value.oneCell', envOf, aResL, aOne, ↓reduceIte, reduceCtorEq, forall_const, Nat.reduceLT, Nat.reduceEqDiff, Nat.reduceAdd, Nat.reduceMul, Nat.reduceSub, Nat.reduceLeDiff, Nat.reduceBEq, eq_self, implies_true, ne_eq, dref, dref1, dref2, aExecS, aStoreB, aTakes, aTakeE, aElder, aFrom, aFresh, isLoad, aBuildSlice1, frzs, frz1, ownIds, AV.frz, AV.frzL, frzEnv, AV.shift, AV.shiftL, aFieldV, aSliceW, aSliceO, aSlice, aSliceR, aSliceS, aBd, aMax, frzAVs, frzAV, frzTab, AObj.frz, aMM, aNilS, aMay, aNil, tyA_3, tyS_3] | (with_reducible refine aIf_split (fun _ => ?_) (fun _ => ?_)) | (with_reducible refine aSel_split (fun _ => ?_) (fun _ => ?_)) | (with_reducible refine aGd_split (fun _ => ?_) (fun _ => ?_)) | (with_reducible refine aDraw_quiet (by kernel_rfl) ?_) | ((with_reducible apply callV); exact (hH)) | ((with_reducible apply callD); exact (hH))))
set_option maxRecDepth 100000 in
theorem rule6_A : ADet Tryz.prog 40 [eI 0, .rp [eI 0]] (val (.bool true)) := by
  refine adet_of_code mixedT Tryz.func40 rfl (by decide) Tryz.ntmps40 Tryz.results40 rfl (val_ok _) ?_
  have hH := has_A 0 0
  have e : hasB 0 0 = false := rfl
  rw [e] at hH
  (repeat' (first | simp (maxSteps := 5000000) (implicitDefEqProofs := false) only [ruA, ruB, aEv, aTake, aLoad, aField, aIndex, aLen, aBin, bin2, aUn, un1, aExtract, aConv, ASt.get, aget, ASt.put, aStore, aBox, aAppend, aBuildSlice, aMake, aBuild, aFill, oneParts, allC, aBinS, yv, aCells, oneC, oneCL, treeC, treeL, treeML, treeM_c, treeM_sl, treeM_rp, treeM_any, treeM_fn, treeM_bfn, aLit, aDst, aSrc, appTab, Value.cells, Value.oneCell', envOf, aResL, aOne, ↓reduceIte, reduceCtorEq, forall_const, Nat.reduceLT, Nat.reduceEqDiff, Nat.reduceAdd, Nat.reduceMul, Nat.reduceSub, Nat.reduceLeDiff, Nat.reduceBEq, eq_self, implies_true, ne_eq, dref, dref1, dref2, aExecS, aStoreB, aTakes, aTakeE, aElder, aFrom, aFresh, isLoad, aBuildSlice1, frzs, frz1, ownIds, AV.frz, AV.frzL, frzEnv, AV.shift, AV.shiftL, aFieldV, aSliceW, aSliceO, aSlice, aSliceR, aSliceS, aBd, aMax, frzAVs, frzAV, frzTab, AObj.frz, aMM, aNilS, aMay, aNil, tyA_3, tyS_3] | (with_reducible refine aIf_split (fun _ => ?_) (fun _ => ?_)) | (with_reducible refine aSel_split (fun _ => ?_) (fun _ => ?_)) | (with_reducible refine aGd_split (fun _ => ?_) (fun _ => ?_)) | (with_reducible refine aDraw_quiet (by kernel_rfl) ?_) | ((with_reducible apply callV); exact (hH)) | ((with_reducible apply callD); exact (hH))))
/-- the notes behind so many rows -/
def notesK (k : Nat) : List (List AV) := (if 4 < k then [[eI 5, eI 0]] else []) ++ (if 5 < k then [[eI 6, eI 0]] else [])
set_option maxRecDepth 100000 in
set_option maxHeartbeats 8000000 in
theorem notes1_A : ARel Tryz.prog 9 [.agg (eMod mod1)] fun R => R = own 53 2 [[eI 5, eI 0], [eI 6, eI 0]] := by
  have hC := mcheck1_A
  refine arel_of_sc Tryz.func9 rfl (by decide) Tryz.ntmps9 Tryz.results9 rfl ?_
  refine sc_cut (fun st => st = ⟨38, [(1, .op 0 0 0)], [(0, some (.box 51 (eMod mod1)))], 1⟩) (sc_of mixedT ?_) ?_
  · (repeat' (first | simp (maxSteps := 5000000) (implicitDefEqProofs := false) only [ruA, ruB, aEv, aTake, aLoad, aField, aIndex, aLen, aBin, bin2, aUn, un1, aExtract, aConv, ASt.get, aget, ASt.put, aStore, aBox, aAppend, aBuildSlice, aMake, aBuild, aFill, oneParts, allC, aBinS, yv, aCells, oneC, oneCL, treeC, treeL, treeML, treeM_c, treeM_sl, treeM_rp, treeM_any, treeM_fn, treeM_bfn, aLit, aDst, aSrc, appTab, Value.cells, Value.oneCell', envOf, aResL, aOne, ↓reduceIte, reduceCtorEq, forall_const, Nat.reduceLT, Nat.reduceEqDiff, Nat.reduceAdd, Nat.reduceMul, Nat.reduceSub, Nat.reduceLeDiff, Nat.reduceBEq, eq_self, implies_true, ne_eq, dref, dref1, dref2, aExecS, aStoreB, aTakes, aTakeE, aElder, aFrom, aFresh, isLoad, aBuildSlice1, frzs, frz1, ownIds, AV.frz, AV.frzL, frzEnv, AV.shift, AV.shiftL, aFieldV, aSliceW, aSliceO, aSlice, aSliceR, aSliceS, aBd, aMax, frzAVs, frzAV, frzTab, AObj.frz, aMM, aNilS, aMay, aNil, tyA_51, tyS_51, tyE_59, tyK_59, tyK_3, tyA_63, tyS_63, tyZ_63, tyF_63_0, tyA_3, tyS_3, tyF_63_1, tyA_61, tyS_61, tyB_53, tyR_38] | (with_reducible refine aIf_split (fun _ => ?_) (fun _ => ?_)) | (with_reducible refine aSel_split (fun _ => ?_) (fun _ => ?_)) | (with_reducible refine aGd_split (fun _ => ?_) (fun _ => ?_)) | (with_reducible refine aDraw_quiet (by kernel_rfl) ?_)))
    all_goals exact aTo_mk (weak_cut1 (by (first | ((simp only [envIn, tabIn, envLt, tabLt, AObj.lt, AV.lt, AV.ltL, ruW, ASt.get, aget, ASt.put, ↓reduceIte, reduceCtorEq, Nat.reduceLT, Nat.reduceEqDiff, Nat.reduceAdd, Nat.reduceLeDiff, eq_self, implies_true]) <;> (repeat' apply And.intro) <;> first | (rw [wrapK (by omega)]; done) | (simp; done) | omega) | fail))) rfl
  rintro _ rfl
  refine sc_cut (fun st => st = ⟨38, [(1, .op 0 0 0), (3, .c (.slice none 0 0))], [(0, some (.box 51 (eMod mod1)))], 1⟩) (sc_of mixedT ?_) ?_
  · (repeat' (first | simp (maxSteps := 5000000) (implicitDefEqProofs := false) only [ruA, ruB, aEv, aTake, aLoad, aField, aIndex, aLen, aBin, bin2, aUn, un1, aExtract, aConv, ASt.get, aget, ASt.put, aStore, aBox, aAppend, aBuildSlice, aMake, aBuild, aFill, oneParts, allC, aBinS, yv, aCells, oneC, oneCL, treeC, treeL, treeML, treeM_c, treeM_sl, treeM_rp, treeM_any, treeM_fn, treeM_bfn, aLit, aDst, aSrc, appTab, Value.cells, Value.oneCell', envOf, aResL, aOne, ↓reduceIte, reduceCtorEq, forall_const, Nat.reduceLT, Nat.reduceEqDiff, Nat.reduceAdd, Nat.reduceMul, Nat.reduceSub, Nat.reduceLeDiff, Nat.reduceBEq, eq_self, implies_true, ne_eq, dref, dref1, dref2, aExecS, aStoreB, aTakes, aTakeE, aElder, aFrom, aFresh, isLoad, aBuildSlice1, frzs, frz1, ownIds, AV.frz, AV.frzL, frzEnv, AV.shift, AV.shiftL, aFieldV, aSliceW, aSliceO, aSlice, aSliceR, aSliceS, aBd, aMax, frzAVs, frzAV, frzTab, AObj.frz, aMM, aNilS, aMay, aNil, tyA_51, tyS_51, tyE_59, tyK_59, tyK_3, tyA_63, tyS_63, tyZ_63, tyF_63_0, tyA_3, tyS_3, tyF_63_1, tyA_61, tyS_61, tyB_53, tyR_38] | (with_reducible refine aIf_split (fun _ => ?_) (fun _ => ?_)) | (with_reducible refine aSel_split (fun _ => ?_) (fun _ => ?_)) | (with_reducible refine aGd_split (fun _ => ?_) (fun _ => ?_)) | (with_reducible refine aDraw_quiet (by kernel_rfl) ?_)))
    all_goals exact aTo_mk (weak_cut1 (by (first | ((simp only [envIn, tabIn, envLt, tabLt, AObj.lt, AV.lt, AV.ltL, ruW, ASt.get, aget, ASt.put, ↓reduceIte, reduceCtorEq, Nat.reduceLT, Nat.reduceEqDiff, Nat.reduceAdd, Nat.reduceLeDiff, eq_self, implies_true]) <;> (repeat' apply And.intro) <;> first | (rw [wrapK (by omega)]; done) | (simp; done) | omega) | fail))) rfl
  rintro _ rfl
  refine sc_cut (fun st => st = ⟨38, [(1, .op 0 0 0), (3, .c (.slice none 0 0))], [(0, some (.box 51 (eMod mod1)))], 1⟩) (sc_of mixedT ?_) ?_
  · (repeat' (first | simp (maxSteps := 5000000) (implicitDefEqProofs := false) only [ruA, ruB, aEv, aTake, aLoad, aField, aIndex, aLen, aBin, bin2, aUn, un1, aExtract, aConv, ASt.get, aget, ASt.put, aStore, aBox, aAppend, aBuildSlice, aMake, aBuild, aFill, oneParts, allC, aBinS, yv, aCells, oneC, oneCL, treeC, treeL, treeML, treeM_c, treeM_sl, treeM_rp, treeM_any, treeM_fn, treeM_bfn, aLit, aDst, aSrc, appTab, Value.cells, Value.oneCell', envOf, aResL, aOne, ↓reduceIte, reduceCtorEq, forall_const, Nat.reduceLT, Nat.reduceEqDiff, Nat.reduceAdd, Nat.reduceMul, Nat.reduceSub, Nat.reduceLeDiff, Nat.reduceBEq, eq_self, implies_true, ne_eq, dref, dref1, dref2, aExecS, aStoreB, aTakes, aTakeE, aElder, aFrom, aFresh, isLoad, aBuildSlice1, frzs, frz1, ownIds, AV.frz, AV.frzL, frzEnv, AV.shift, AV.shiftL, aFieldV, aSliceW, aSliceO, aSlice, aSliceR, aSliceS, aBd, aMax, frzAVs, frzAV, frzTab, AObj.frz, aMM, aNilS, aMay, aNil, tyA_51, tyS_51, tyE_59, tyK_59, tyK_3, tyA_63, tyS_63, tyZ_63, tyF_63_0, tyA_3, tyS_3, tyF_63_1, tyA_61, tyS_61, tyB_53, tyR_38] | (with_reducible refine aIf_split (fun _ => ?_) (fun _ => ?_)) | (with_reducible refine aSel_split (fun _ => ?_) (fun _ => ?_)) | (with_reducible refine aGd_split (fun _ => ?_) (fun _ => ?_)) | (with_reducible refine aDraw_quiet (by kernel_rfl) ?_) | ((with_reducible apply callV); exact (hC)) | ((with_reducible apply callD); exact (hC))))
    all_goals exact aTo_mk (weak_cut1 (by (first | ((simp only [envIn, tabIn, envLt, tabLt, AObj.lt, AV.lt, AV.ltL, ruW, ASt.get, aget, ASt.put, ↓reduceIte, reduceCtorEq, Nat.reduceLT, Nat.reduceEqDiff, Nat.reduceAdd, Nat.reduceLeDiff, eq_self, implies_true]) <;> (repeat' apply And.intro) <;> first | (rw [wrapK (by omega)]; done) | (simp; done) | omega) | fail))) rfl
  rintro _ rfl
  refine sc_cut (fun st => st = ⟨38, [(3, .osl 0)], [(0, some (.row 53 2 (notesK 11)))], 1⟩) (sc_of mixedT ?_) ?_
  · (repeat' (first | simp (maxSteps := 5000000) (implicitDefEqProofs := false) only [ruA, ruB, aEv, aTake, aLoad, aField, aIndex, aLen, aBin, bin2, aUn, un1, aExtract, aConv, ASt.get, aget, ASt.put, aStore, aBox, aAppend, aBuildSlice, aMake, aBuild, aFill, oneParts, allC, aBinS, yv, aCells, oneC, oneCL, treeC, treeL, treeML, treeM_c, treeM_sl, treeM_rp, treeM_any, treeM_fn, treeM_bfn, aLit, aDst, aSrc, appTab, Value.cells, Value.oneCell', envOf, aResL, aOne, ↓reduceIte, reduceCtorEq, forall_const, Nat.reduceLT, Nat.reduceEqDiff, Nat.reduceAdd, Nat.reduceMul, Nat.reduceSub, Nat.reduceLeDiff, Nat.reduceBEq, eq_self, implies_true, ne_eq, dref, dref1, dref2, aExecS, aStoreB, aTakes, aTakeE, aElder, aFrom, aFresh, isLoad, aBuildSlice1, frzs, frz1, ownIds, AV.frz, AV.frzL, frzEnv, AV.shift, AV.shiftL, aFieldV, aSliceW, aSliceO, aSlice, aSliceR, aSliceS, aBd, aMax, frzAVs, frzAV, frzTab, AObj.frz, aMM, aNilS, aMay, aNil, tyA_51, tyS_51, tyE_59, tyK_59, tyK_3, tyA_63, tyS_63, tyZ_63, tyF_63_0, tyA_3, tyS_3, tyF_63_1, tyA_61, tyS_61, tyB_53, tyR_38] | (with_reducible refine aIf_split (fun _ => ?_) (fun _ => ?_)) | (with_reducible refine aSel_split (fun _ => ?_) (fun _ => ?_)) | (with_reducible refine aGd_split (fun _ => ?_) (fun _ => ?_))))
    refine callO rules1_A (.inl (by simp [roL, roA, treeL, treeC])) ?_
    (repeat' (first | simp (maxSteps := 5000000) (implicitDefEqProofs := false) only [ruA, ruB, aEv, aTake, aLoad, aField, aIndex, aLen, aBin, bin2, aUn, un1, aExtract, aConv, ASt.get, aget, ASt.put, aStore, aBox, aAppend, aBuildSlice, aMake, aBuild, aFill, oneParts, allC, aBinS, yv, aCells, oneC, oneCL, treeC, treeL, treeML, treeM_c, treeM_sl, treeM_rp, treeM_any, treeM_fn, treeM_bfn, aLit, aDst, aSrc, appTab, Value.cells, Value.oneCell', envOf, aResL, aOne, ↓reduceIte, reduceCtorEq, forall_const, Nat.reduceLT, Nat.reduceEqDiff, Nat.reduceAdd, Nat.reduceMul, Nat.reduceSub, Nat.reduceLeDiff, Nat.reduceBEq, eq_self, implies_true, ne_eq, dref, dref1, dref2, aExecS, aStoreB, aTakes, aTakeE, aElder, aFrom, aFresh, isLoad, aBuildSlice1, frzs, frz1, ownIds, AV.frz, AV.frzL, frzEnv, AV.shift, AV.shiftL, aFieldV, aSliceW, aSliceO, aSlice, aSliceR, aSliceS, aBd, aMax, frzAVs, frzAV, frzTab, AObj.frz, aMM, aNilS, aMay, aNil, tyA_51, tyS_51, tyE_59, tyK_59, tyK_3, tyA_63, tyS_63, tyZ_63, tyF_63_0, tyA_3, tyS_3, tyF_63_1, tyA_61, tyS_61, tyB_53, tyR_38, List.length_cons, List.length_nil] | (with_reducible refine aIf_split (fun _ => ?_) (fun _ => ?_)) | (with_reducible refine aSel_split (fun _ => ?_) (fun _ => ?_)) | (with_reducible refine aGd_split (fun _ => ?_) (fun _ => ?_))))
    refine aLoop_of (fun st => ∃ k : Nat, k ≤ 11 ∧ st = ⟨38, [(3, .osl 0), (12, .sl 2 rows1), (13, eI 11), (14, eI (k : Int))], [(0, some (.row 53 2 (notesK k)))], 1⟩) (fun st => 11 - slotN st 14) ?_ ?_
    · refine ⟨_, (weak_frz _ 1).trans ?_, 0, by omega, rfl⟩
      simp [frz1, frzEnv, frzTab, ATab.get_cons, AObj.frz, AV.frz, AV.frzL]
      exact ((weak_nil 3 53 2 (by simp only [ruW, ASt.get, aget, ASt.put, ↓reduceIte, reduceCtorEq, Nat.reduceLT, Nat.reduceEqDiff, Nat.reduceAdd, Nat.reduceLeDiff, eq_self, implies_true, notesK, List.length_cons, List.length_nil, List.append_nil])).trans (weak_ren1 [2] ⟨(by decide), (by (first | ((simp only [envInR, tabInR, envLt, tabLt, AObj.lt, AV.lt, AV.ltL, AV.ren, AV.renL, AObj.ren, List.getD_cons_zero, List.getD_cons_succ, List.length_cons, List.length_nil, ruW, ASt.get, aget, ASt.put, ↓reduceIte, reduceCtorEq, Nat.reduceLT, Nat.reduceEqDiff, Nat.reduceAdd, Nat.reduceLeDiff, eq_self, implies_true, notesK, List.length_cons, List.length_nil, List.append_nil]) <;> (repeat' apply And.intro) <;> first | (rw [wrapK (by omega)]; done) | (simp; done) | omega) | fail))⟩))
    rintro _ ⟨k, hk, rfl⟩
    by_cases hlt : k < 11
    · have z0 : decide ((k : Int) < 11) = true := decide_eq_true (by omega)
      by_cases h45 : k = 4 ∨ k = 5
      · rcases h45 with rfl | rfl
        · have r1 : rows1[Int.toNat ((4 : Nat) : Int)]?.getD [] = [eI 1, .fn 39 [.rp [eI 0]]] := rfl
          have r2 : rows1[4]?.getD [] = [eI 1, .fn 39 [.rp [eI 0]]] := rfl
          (repeat' (first | simp (maxSteps := 5000000) (implicitDefEqProofs := false) only [ruA, ruB, aEv, aTake, aLoad, aField, aIndex, aLen, aBin, bin2, aUn, un1, aExtract, aConv, ASt.get, aget, ASt.put, aStore, aBox, aAppend, aBuildSlice, aMake, aBuild, aFill, oneParts, allC, aBinS, yv, aCells, oneC, oneCL, treeC, treeL, treeML, treeM_c, treeM_sl, treeM_rp, treeM_any, treeM_fn, treeM_bfn, aLit, aDst, aSrc, appTab, Value.cells, Value.oneCell', envOf, aResL, aOne, ↓reduceIte, reduceCtorEq, forall_const, Nat.reduceLT, Nat.reduceEqDiff, Nat.reduceAdd, Nat.reduceMul, Nat.reduceSub, Nat.reduceLeDiff, Nat.reduceBEq, eq_self, implies_true, ne_eq, dref, dref1, dref2, aExecS, aStoreB, aTakes, aTakeE, aElder, aFrom, aFresh, isLoad, aBuildSlice1, frzs, frz1, ownIds, AV.frz, AV.frzL, frzEnv, AV.shift, AV.shiftL, aFieldV, aSliceW, aSliceO, aSlice, aSliceR, aSliceS, aBd, aMax, frzAVs, frzAV, frzTab, AObj.frz, aMM, aNilS, aMay, aNil, tyA_51, tyS_51, tyE_59, tyK_59, tyK_3, tyA_63, tyS_63, tyZ_63, tyF_63_0, tyA_3, tyS_3, tyF_63_1, tyA_61, tyS_61, tyB_53, tyR_38, z0, r1, r2, List.length_cons, List.length_nil] | (with_reducible refine aIf_split (fun _ => ?_) (fun _ => ?_)) | (with_reducible refine aSel_split (fun _ => ?_) (fun _ => ?_)) | (with_reducible refine aGd_split (fun _ => ?_) (fun _ => ?_))))
          refine aLoop_of (fun st => ∃ j : Nat, j ≤ 1 ∧ st = ⟨38, [(3, .osl 0), (4, eI ((4 : Nat) : Int)), (5, .op 1 0 0), (12, .sl 2 rows1), (13, eI 11), (14, eI ((4 : Nat) : Int)), (20, eI 1), (21, eI (j : Int))], [(0, some (.row 53 2 (notesK (4 + j)))), (1, some (.box 63 [eI 1, .fn 39 [.rp [eI 0]]]))], 2⟩) (fun st => 1 - slotN st 21) ⟨_, (weak_cut1 (by (first | ((simp only [envIn, tabIn, envLt, tabLt, AObj.lt, AV.lt, AV.ltL, ruW, ASt.get, aget, ASt.put, ↓reduceIte, reduceCtorEq, Nat.reduceLT, Nat.reduceEqDiff, Nat.reduceAdd, Nat.reduceLeDiff, eq_self, implies_true]) <;> (repeat' apply And.intro) <;> first | (rw [wrapK (by omega)]; done) | (simp; done) | omega) | fail))), 0, by omega, rfl⟩ ?_
          rintro _ ⟨j, hj, rfl⟩
          rcases (by omega : j = 0 ∨ j = 1) with rfl | rfl
          · have y0 : decide (((0 : Nat) : Int) < 1) = true := rfl
            have hR := rule5_A
            have w5 : IntKind.i64.wrap (((4 : Nat) : Int) + 1) = 5 := rfl
            have y5 : IntKind.i64.wrap (((0 : Nat) : Int) + 1) = ((1 : Nat) : Int) := rfl
            have nr : notesK 4 ++ [[eI 5, eI ((0 : Nat) : Int)]] = notesK (4 + 1) := rfl
            have nl : (notesK 4).length ≤ 2 := by decide
            (repeat' (first | simp (maxSteps := 5000000) (implicitDefEqProofs := false) only [ruA, ruB, aEv, aTake, aLoad, aField, aIndex, aLen, aBin, bin2, aUn, un1, aExtract, aConv, ASt.get, aget, ASt.put, aStore, aBox, aAppend, aBuildSlice, aMake, aBuild, aFill, oneParts, allC, aBinS, yv, aCells, oneC, oneCL, treeC, treeL, treeML, treeM_c, treeM_sl, treeM_rp, treeM_any, treeM_fn, treeM_bfn, aLit, aDst, aSrc, appTab, Value.cells, Value.oneCell', envOf, aResL, aOne, ↓reduceIte, reduceCtorEq, forall_const, Nat.reduceLT, Nat.reduceEqDiff, Nat.reduceAdd, Nat.reduceMul, Nat.reduceSub, Nat.reduceLeDiff, Nat.reduceBEq, eq_self, implies_true, ne_eq, dref, dref1, dref2, aExecS, aStoreB, aTakes, aTakeE, aElder, aFrom, aFresh, isLoad, aBuildSlice1, frzs, frz1, ownIds, AV.frz, AV.frzL, frzEnv, AV.shift, AV.shiftL, aFieldV, aSliceW, aSliceO, aSlice, aSliceR, aSliceS, aBd, aMax, frzAVs, frzAV, frzTab, AObj.frz, aMM, aNilS, aMay, aNil, tyA_51, tyS_51, tyE_59, tyK_59, tyK_3, tyA_63, tyS_63, tyZ_63, tyF_63_0, tyA_3, tyS_3, tyF_63_1, tyA_61, tyS_61, tyB_53, tyR_38, y0, w5] | (with_reducible refine aIf_split (fun _ => ?_) (fun _ => ?_)) | (with_reducible refine aSel_split (fun _ => ?_) (fun _ => ?_)) | (with_reducible refine aGd_split (fun _ => ?_) (fun _ => ?_)) | (with_reducible refine aDraw_quiet (by kernel_rfl) ?_) | ((with_reducible apply callV); exact (hR)) | ((with_reducible apply callD); exact (hR))))
            all_goals exact ⟨rfl, ⟨by omega, by omega⟩, roundI (weak_ren1 [3, 1] ⟨(by decide), (by (first | ((simp only [envInR, tabInR, envLt, tabLt, AObj.lt, AV.lt, AV.ltL, AV.ren, AV.renL, AObj.ren, List.getD_cons_zero, List.getD_cons_succ, List.length_cons, List.length_nil, ruW, ASt.get, aget, ASt.put, ↓reduceIte, reduceCtorEq, Nat.reduceLT, Nat.reduceEqDiff, Nat.reduceAdd, Nat.reduceLeDiff, eq_self, implies_true, w5, y5, nr]) <;> (repeat' apply And.intro) <;> first | (rw [wrapK (by omega)]; done) | (simp; done) | omega) | fail))⟩) ⟨1, by omega, rfl⟩ (by simp only [slotN, ruW, ASt.get, aget, ASt.put, ↓reduceIte, reduceCtorEq, Nat.reduceLT, Nat.reduceEqDiff, Nat.reduceAdd, Nat.reduceLeDiff, eq_self, implies_true]; omega)⟩
          · have y1 : decide (((1 : Nat) : Int) < 1) = false := rfl
            (repeat' (first | simp (maxSteps := 5000000) (implicitDefEqProofs := false) only [ruA, ruB, aEv, aTake, aLoad, aField, aIndex, aLen, aBin, bin2, aUn, un1, aExtract, aConv, ASt.get, aget, ASt.put, aStore, aBox, aAppend, aBuildSlice, aMake, aBuild, aFill, oneParts, allC, aBinS, yv, aCells, oneC, oneCL, treeC, treeL, treeML, treeM_c, treeM_sl, treeM_rp, treeM_any, treeM_fn, treeM_bfn, aLit, aDst, aSrc, appTab, Value.cells, Value.oneCell', envOf, aResL, aOne, ↓reduceIte, reduceCtorEq, forall_const, Nat.reduceLT, Nat.reduceEqDiff, Nat.reduceAdd, Nat.reduceMul, Nat.reduceSub, Nat.reduceLeDiff, Nat.reduceBEq, eq_self, implies_true, ne_eq, dref, dref1, dref2, aExecS, aStoreB, aTakes, aTakeE, aElder, aFrom, aFresh, isLoad, aBuildSlice1, frzs, frz1, ownIds, AV.frz, AV.frzL, frzEnv, AV.shift, AV.shiftL, aFieldV, aSliceW, aSliceO, aSlice, aSliceR, aSliceS, aBd, aMax, frzAVs, frzAV, frzTab, AObj.frz, aMM, aNilS, aMay, aNil, tyA_51, tyS_51, tyE_59, tyK_59, tyK_3, tyA_63, tyS_63, tyZ_63, tyF_63_0, tyA_3, tyS_3, tyF_63_1, tyA_61, tyS_61, tyB_53, tyR_38, y1] | (with_reducible refine aIf_split (fun _ => ?_) (fun _ => ?_)) | (with_reducible refine aSel_split (fun _ => ?_) (fun _ => ?_)) | (with_reducible refine aGd_split (fun _ => ?_) (fun _ => ?_)) | (with_reducible refine aDraw_quiet (by kernel_rfl) ?_)))
            all_goals exact roundI (weak_ren1 [0] ⟨(by decide), (by (first | ((simp only [envInR, tabInR, envLt, tabLt, AObj.lt, AV.lt, AV.ltL, AV.ren, AV.renL, AObj.ren, List.getD_cons_zero, List.getD_cons_succ, List.length_cons, List.length_nil, ruW, ASt.get, aget, ASt.put, ↓reduceIte, reduceCtorEq, Nat.reduceLT, Nat.reduceEqDiff, Nat.reduceAdd, Nat.reduceLeDiff, eq_self, implies_true]) <;> (repeat' apply And.intro) <;> first | (rw [wrapK (by omega)]; done) | (simp; done) | omega) | fail))⟩) ⟨5, by omega, rfl⟩ (by simp only [slotN, ruW, ASt.get, aget, ASt.put, ↓reduceIte, reduceCtorEq, Nat.reduceLT, Nat.reduceEqDiff, Nat.reduceAdd, Nat.reduceLeDiff, eq_self, implies_true]; omega)
        · have r1 : rows1[Int.toNat ((5 : Nat) : Int)]?.getD [] = [eI 1, .fn 40 [.rp [eI 0]]] := rfl
          have r2 : rows1[5]?.getD [] = [eI 1, .fn 40 [.rp [eI 0]]] := rfl
          (repeat' (first | simp (maxSteps := 5000000) (implicitDefEqProofs := false) only [ruA, ruB, aEv, aTake, aLoad, aField, aIndex, aLen, aBin, bin2, aUn, un1, aExtract, aConv, ASt.get, aget, ASt.put, aStore, aBox, aAppend, aBuildSlice, aMake, aBuild, aFill, oneParts, allC, aBinS, yv, aCells, oneC, oneCL, treeC, treeL, treeML, treeM_c, treeM_sl, treeM_rp, treeM_any, treeM_fn, treeM_bfn, aLit, aDst, aSrc, appTab, Value.cells, Value.oneCell', envOf, aResL, aOne, ↓reduceIte, reduceCtorEq, forall_const, Nat.reduceLT, Nat.reduceEqDiff, Nat.reduceAdd, Nat.reduceMul, Nat.reduceSub, Nat.reduceLeDiff, Nat.reduceBEq, eq_self, implies_true, ne_eq, dref, dref1, dref2, aExecS, aStoreB, aTakes, aTakeE, aElder, aFrom, aFresh, isLoad, aBuildSlice1, frzs, frz1, ownIds, AV.frz, AV.frzL, frzEnv, AV.shift, AV.shiftL, aFieldV, aSliceW, aSliceO, aSlice, aSliceR, aSliceS, aBd, aMax, frzAVs, frzAV, frzTab, AObj.frz, aMM, aNilS, aMay, aNil, tyA_51, tyS_51, tyE_59, tyK_59, tyK_3, tyA_63, tyS_63, tyZ_63, tyF_63_0, tyA_3, tyS_3, tyF_63_1, tyA_61, tyS_61, tyB_53, tyR_38, z0, r1, r2, List.length_cons, List.length_nil] | (with_reducible refine aIf_split (fun _ => ?_) (fun _ => ?_)) | (with_reducible refine aSel_split (fun _ => ?_) (fun _ => ?_)) | (with_reducible refine aGd_split (fun _ => ?_) (fun _ => ?_))))
          refine aLoop_of (fun st => ∃ j : Nat, j ≤ 1 ∧ st = ⟨38, [(3, .osl 0), (4, eI ((5 : Nat) : Int)), (5, .op 1 0 0), (12, .sl 2 rows1), (13, eI 11), (14, eI ((5 : Nat) : Int)), (20, eI 1), (21, eI (j : Int))], [(0, some (.row 53 2 (notesK (5 + j)))), (1, some (.box 63 [eI 1, .fn 40 [.rp [eI 0]]]))], 2⟩) (fun st => 1 - slotN st 21) ⟨_, (weak_cut1 (by (first | ((simp only [envIn, tabIn, envLt, tabLt, AObj.lt, AV.lt, AV.ltL, ruW, ASt.get, aget, ASt.put, ↓reduceIte, reduceCtorEq, Nat.reduceLT, Nat.reduceEqDiff, Nat.reduceAdd, Nat.reduceLeDiff, eq_self, implies_true]) <;> (repeat' apply And.intro) <;> first | (rw [wrapK (by omega)]; done) | (simp; done) | omega) | fail))), 0, by omega, rfl⟩ ?_
          rintro _ ⟨j, hj, rfl⟩
          rcases (by omega : j = 0 ∨ j = 1) with rfl | rfl
          · have y0 : decide (((0 : Nat) : Int) < 1) = true := rfl
            have hR := rule6_A
            have w5 : IntKind.i64.wrap (((5 : Nat) : Int) + 1) = 6 := rfl
            have y5 : IntKind.i64.wrap (((0 : Nat) : Int) + 1) = ((1 : Nat) : Int) := rfl
            have nr : notesK 5 ++ [[eI 6, eI ((0 : Nat) : Int)]] = notesK (5 + 1) := rfl
            have nl : (notesK 5).length ≤ 2 := by decide
            (repeat' (first | simp (maxSteps := 5000000) (implicitDefEqProofs := false) only [ruA, ruB, aEv, aTake, aLoad, aField, aIndex, aLen, aBin, bin2, aUn, un1, aExtract, aConv, ASt.get, aget, ASt.put, aStore, aBox, aAppend, aBuildSlice, aMake, aBuild, aFill, oneParts, allC, aBinS, yv, aCells, oneC, oneCL, treeC, treeL, treeML, treeM_c, treeM_sl, treeM_rp, treeM_any, treeM_fn, treeM_bfn, aLit, aDst, aSrc, appTab, Value.cells, Value.oneCell', envOf, aResL, aOne, ↓reduceIte, reduceCtorEq, forall_const, Nat.reduceLT, Nat.reduceEqDiff, Nat.reduceAdd, Nat.reduceMul, Nat.reduceSub, Nat.reduceLeDiff, Nat.reduceBEq, eq_self, implies_true, ne_eq, dref, dref1, dref2, aExecS, aStoreB, aTakes, aTakeE, aElder, aFrom, aFresh, isLoad, aBuildSlice1, frzs, frz1, ownIds, AV.frz, AV.frzL, frzEnv, AV.shift, AV.shiftL, aFieldV, aSliceW, aSliceO, aSlice, aSliceR, aSliceS, aBd, aMax, frzAVs, frzAV, frzTab, AObj.frz, aMM, aNilS, aMay, aNil, tyA_51, tyS_51, tyE_59, tyK_59, tyK_3, tyA_63, tyS_63, tyZ_63, tyF_63_0, tyA_3, tyS_3, tyF_63_1, tyA_61, tyS_61, tyB_53, tyR_38, y0, w5] | (with_reducible refine aIf_split (fun _ => ?_) (fun _ => ?_)) | (with_reducible refine aSel_split (fun _ => ?_) (fun _ => ?_)) | (with_reducible refine aGd_split (fun _ => ?_) (fun _ => ?_)) | (with_reducible refine aDraw_quiet (by kernel_rfl) ?_) | ((with_reducible apply callV); exact (hR)) | ((with_reducible apply callD); exact (hR))))
            all_goals exact ⟨rfl, ⟨by omega, by omega⟩, roundI (weak_ren1 [3, 1] ⟨(by decide), (by (first | ((simp only [envInR, tabInR, envLt, tabLt, AObj.lt, AV.lt, AV.ltL, AV.ren, AV.renL, AObj.ren, List.getD_cons_zero, List.getD_cons_succ, List.length_cons, List.length_nil, ruW, ASt.get, aget, ASt.put, ↓reduceIte, reduceCtorEq, Nat.reduceLT, Nat.reduceEqDiff, Nat.reduceAdd, Nat.reduceLeDiff, eq_self, implies_true, w5, y5, nr]) <;> (repeat' apply And.intro) <;> first | (rw [wrapK (by omega)]; done) | (simp; done) | omega) | fail))⟩) ⟨1, by omega, rfl⟩ (by simp only [slotN, ruW, ASt.get, aget, ASt.put, ↓reduceIte, reduceCtorEq, Nat.reduceLT, Nat.reduceEqDiff, Nat.reduceAdd, Nat.reduceLeDiff, eq_self, implies_true]; omega)⟩
          · have y1 : decide (((1 : Nat) : Int) < 1) = false := rfl
            (repeat' (first | simp (maxSteps := 5000000) (implicitDefEqProofs := false) only [ruA, ruB, aEv, aTake, aLoad, aField, aIndex, aLen, aBin, bin2, aUn, un1, aExtract, aConv, ASt.get, aget, ASt.put, aStore, aBox, aAppend, aBuildSlice, aMake, aBuild, aFill, oneParts, allC, aBinS, yv, aCells, oneC, oneCL, treeC, treeL, treeML, treeM_c, treeM_sl, treeM_rp, treeM_any, treeM_fn, treeM_bfn, aLit, aDst, aSrc, appTab, Value.cells, Value.oneCell', envOf, aResL, aOne, ↓reduceIte, reduceCtorEq, forall_const, Nat.reduceLT, Nat.reduceEqDiff, Nat.reduceAdd, Nat.reduceMul, Nat.reduceSub, Nat.reduceLeDiff, Nat.reduceBEq, eq_self, implies_true, ne_eq, dref, dref1, dref2, aExecS, aStoreB, aTakes, aTakeE, aElder, aFrom, aFresh, isLoad, aBuildSlice1, frzs, frz1, ownIds, AV.frz, AV.frzL, frzEnv, AV.shift, AV.shiftL, aFieldV, aSliceW, aSliceO, aSlice, aSliceR, aSliceS, aBd, aMax, frzAVs, frzAV, frzTab, AObj.frz, aMM, aNilS, aMay, aNil, tyA_51, tyS_51, tyE_59, tyK_59, tyK_3, tyA_63, tyS_63, tyZ_63, tyF_63_0, tyA_3, tyS_3, tyF_63_1, tyA_61, tyS_61, tyB_53, tyR_38, y1] | (with_reducible refine aIf_split (fun _ => ?_) (fun _ => ?_)) | (with_reducible refine aSel_split (fun _ => ?_) (fun _ => ?_)) | (with_reducible refine aGd_split (fun _ => ?_) (fun _ => ?_)) | (with_reducible refine aDraw_quiet (by kernel_rfl) ?_)))
            all_goals exact roundI (weak_ren1 [0] ⟨(by decide), (by (first | ((simp only [envInR, tabInR, envLt, tabLt, AObj.lt, AV.lt, AV.ltL, AV.ren, AV.renL, AObj.ren, List.getD_cons_zero, List.getD_cons_succ, List.length_cons, List.length_nil, ruW, ASt.get, aget, ASt.put, ↓reduceIte, reduceCtorEq, Nat.reduceLT, Nat.reduceEqDiff, Nat.reduceAdd, Nat.reduceLeDiff, eq_self, implies_true]) <;> (repeat' apply And.intro) <;> first | (rw [wrapK (by omega)]; done) | (simp; done) | omega) | fail))⟩) ⟨6, by omega, rfl⟩ (by simp only [slotN, ruW, ASt.get, aget, ASt.put, ↓reduceIte, reduceCtorEq, Nat.reduceLT, Nat.reduceEqDiff, Nat.reduceAdd, Nat.reduceLeDiff, eq_self, implies_true]; omega)
      · obtain ⟨f, cs, hrow, htree⟩ : ∃ f cs, rows1[Int.toNat (k : Int)]?.getD [] = [eI 0, .fn f cs] ∧ rows1[k]?.getD [] = [eI 0, .fn f cs] := by
          rcases (by omega : k = 0 ∨ k = 1 ∨ k = 2 ∨ k = 3 ∨ k = 6 ∨ k = 7 ∨ k = 8 ∨ k = 9 ∨ k = 10) with rfl | rfl | rfl | rfl | rfl | rfl | rfl | rfl | rfl <;> exact ⟨_, _, rfl, rfl⟩
        have hn : notesK (k + 1) = notesK k := by
          unfold notesK
          have a1 : (4 < k + 1) = (4 < k) := propext ⟨fun h => by omega, fun h => by omega⟩
          have a2 : (5 < k + 1) = (5 < k) := propext ⟨fun h => by omega, fun h => by omega⟩
          simp only [a1, a2]
        have w1 : IntKind.i64.wrap ((k : Int) + 1) = ((k + 1 : Nat) : Int) := wrapK (by omega)
        have d00 : decide ((0 : Int) < 0) = false := rfl
        (repeat' (first | simp (maxSteps := 5000000) (implicitDefEqProofs := false) only [ruA, ruB, aEv, aTake, aLoad, aField, aIndex, aLen, aBin, bin2, aUn, un1, aExtract, aConv, ASt.get, aget, ASt.put, aStore, aBox, aAppend, aBuildSlice, aMake, aBuild, aFill, oneParts, allC, aBinS, yv, aCells, oneC, oneCL, treeC, treeL, treeML, treeM_c, treeM_sl, treeM_rp, treeM_any, treeM_fn, treeM_bfn, aLit, aDst, aSrc, appTab, Value.cells, Value.oneCell', envOf, aResL, aOne, ↓reduceIte, reduceCtorEq, forall_const, Nat.reduceLT, Nat.reduceEqDiff, Nat.reduceAdd, Nat.reduceMul, Nat.reduceSub, Nat.reduceLeDiff, Nat.reduceBEq, eq_self, implies_true, ne_eq, dref, dref1, dref2, aExecS, aStoreB, aTakes, aTakeE, aElder, aFrom, aFresh, isLoad, aBuildSlice1, frzs, frz1, ownIds, AV.frz, AV.frzL, frzEnv, AV.shift, AV.shiftL, aFieldV, aSliceW, aSliceO, aSlice, aSliceR, aSliceS, aBd, aMax, frzAVs, frzAV, frzTab, AObj.frz, aMM, aNilS, aMay, aNil, tyA_51, tyS_51, tyE_59, tyK_59, tyK_3, tyA_63, tyS_63, tyZ_63, tyF_63_0, tyA_3, tyS_3, tyF_63_1, tyA_61, tyS_61, tyB_53, tyR_38, z0, hrow, htree, List.length_cons, List.length_nil] | (with_reducible refine aIf_split (fun _ => ?_) (fun _ => ?_)) | (with_reducible refine aSel_split (fun _ => ?_) (fun _ => ?_)) | (with_reducible refine aGd_split (fun _ => ?_) (fun _ => ?_))))
        refine ⟨hlt, ?_⟩
        refine aLoop_zero ?_
        (repeat' (first | simp (maxSteps := 5000000) (implicitDefEqProofs := false) only [ruA, ruB, aEv, aTake, aLoad, aField, aIndex, aLen, aBin, bin2, aUn, un1, aExtract, aConv, ASt.get, aget, ASt.put, aStore, aBox, aAppend, aBuildSlice, aMake, aBuild, aFill, oneParts, allC, aBinS, yv, aCells, oneC, oneCL, treeC, treeL, treeML, treeM_c, treeM_sl, treeM_rp, treeM_any, treeM_fn, treeM_bfn, aLit, aDst, aSrc, appTab, Value.cells, Value.oneCell', envOf, aResL, aOne, ↓reduceIte, reduceCtorEq, forall_const, Nat.reduceLT, Nat.reduceEqDiff, Nat.reduceAdd, Nat.reduceMul, Nat.reduceSub, Nat.reduceLeDiff, Nat.reduceBEq, eq_self, implies_true, ne_eq, dref, dref1, dref2, aExecS, aStoreB, aTakes, aTakeE, aElder, aFrom, aFresh, isLoad, aBuildSlice1, frzs, frz1, ownIds, AV.frz, AV.frzL, frzEnv, AV.shift, AV.shiftL, aFieldV, aSliceW, aSliceO, aSlice, aSliceR, aSliceS, aBd, aMax, frzAVs, frzAV, frzTab, AObj.frz, aMM, aNilS, aMay, aNil, tyA_51, tyS_51, tyE_59, tyK_59, tyK_3, tyA_63, tyS_63, tyZ_63, tyF_63_0, tyA_3, tyS_3, tyF_63_1, tyA_61, tyS_61, tyB_53, tyR_38, d00, w1] | (with_reducible refine aIf_split (fun _ => ?_) (fun _ => ?_)) | (with_reducible refine aSel_split (fun _ => ?_) (fun _ => ?_)) | (with_reducible refine aGd_split (fun _ => ?_) (fun _ => ?_)) | (with_reducible refine aDraw_quiet (by kernel_rfl) ?_)))
        all_goals exact roundI (weak_ren1 [0] ⟨(by decide), (by (first | ((simp only [envInR, tabInR, envLt, tabLt, AObj.lt, AV.lt, AV.ltL, AV.ren, AV.renL, AObj.ren, List.getD_cons_zero, List.getD_cons_succ, List.length_cons, List.length_nil, ruW, ASt.get, aget, ASt.put, ↓reduceIte, reduceCtorEq, Nat.reduceLT, Nat.reduceEqDiff, Nat.reduceAdd, Nat.reduceLeDiff, eq_self, implies_true, hn, w1]) <;> (repeat' apply And.intro) <;> first | (rw [wrapK (by omega)]; done) | (simp; done) | omega) | fail))⟩) ⟨k + 1, by omega, rfl⟩ (by simp only [slotN, ruW, ASt.get, aget, ASt.put, ↓reduceIte, reduceCtorEq, Nat.reduceLT, Nat.reduceEqDiff, Nat.reduceAdd, Nat.reduceLeDiff, eq_self, implies_true]; omega)
    · obtain rfl : k = 11 := by omega
      have z1 : decide (((11 : Nat) : Int) < 11) = false := rfl
      (repeat' (first | simp (maxSteps := 5000000) (implicitDefEqProofs := false) only [ruA, ruB, aEv, aTake, aLoad, aField, aIndex, aLen, aBin, bin2, aUn, un1, aExtract, aConv, ASt.get, aget, ASt.put, aStore, aBox, aAppend, aBuildSlice, aMake, aBuild, aFill, oneParts, allC, aBinS, yv, aCells, oneC, oneCL, treeC, treeL, treeML, treeM_c, treeM_sl, treeM_rp, treeM_any, treeM_fn, treeM_bfn, aLit, aDst, aSrc, appTab, Value.cells, Value.oneCell', envOf, aResL, aOne, ↓reduceIte, reduceCtorEq, forall_const, Nat.reduceLT, Nat.reduceEqDiff, Nat.reduceAdd, Nat.reduceMul, Nat.reduceSub, Nat.reduceLeDiff, Nat.reduceBEq, eq_self, implies_true, ne_eq, dref, dref1, dref2, aExecS, aStoreB, aTakes, aTakeE, aElder, aFrom, aFresh, isLoad, aBuildSlice1, frzs, frz1, ownIds, AV.frz, AV.frzL, frzEnv, AV.shift, AV.shiftL, aFieldV, aSliceW, aSliceO, aSlice, aSliceR, aSliceS, aBd, aMax, frzAVs, frzAV, frzTab, AObj.frz, aMM, aNilS, aMay, aNil, tyA_51, tyS_51, tyE_59, tyK_59, tyK_3, tyA_63, tyS_63, tyZ_63, tyF_63_0, tyA_3, tyS_3, tyF_63_1, tyA_61, tyS_61, tyB_53, tyR_38, z1] | (with_reducible refine aIf_split (fun _ => ?_) (fun _ => ?_)) | (with_reducible refine aSel_split (fun _ => ?_) (fun _ => ?_)) | (with_reducible refine aGd_split (fun _ => ?_) (fun _ => ?_)) | (with_reducible refine aDraw_quiet (by kernel_rfl) ?_)))
      all_goals exact aTo_mk (weak_cut1 (by (first | ((simp only [envIn, tabIn, envLt, tabLt, AObj.lt, AV.lt, AV.ltL, ruW, ASt.get, aget, ASt.put, ↓reduceIte, reduceCtorEq, Nat.reduceLT, Nat.reduceEqDiff, Nat.reduceAdd, Nat.reduceLeDiff, eq_self, implies_true]) <;> (repeat' apply And.intro) <;> first | (rw [wrapK (by omega)]; done) | (simp; done) | omega) | fail))) rfl
  rintro _ rfl
  refine sc_of mixedT ?_
  (repeat' (first | simp (maxSteps := 5000000) (implicitDefEqProofs := false) only [ruA, ruB, aEv, aTake, aLoad, aField, aIndex, aLen, aBin, bin2, aUn, un1, aExtract, aConv, ASt.get, aget, ASt.put, aStore, aBox, aAppend, aBuildSlice, aMake, aBuild, aFill, oneParts, allC, aBinS, yv, aCells, oneC, oneCL, treeC, treeL, treeML, treeM_c, treeM_sl, treeM_rp, treeM_any, treeM_fn, treeM_bfn, aLit, aDst, aSrc, appTab, Value.cells, Value.oneCell', envOf, aResL, aOne, ↓reduceIte, reduceCtorEq, forall_const, Nat.reduceLT, Nat.reduceEqDiff, Nat.reduceAdd, Nat.reduceMul, Nat.reduceSub, Nat.reduceLeDiff, Nat.reduceBEq, eq_self, implies_true, ne_eq, dref, dref1, dref2, aExecS, aStoreB, aTakes, aTakeE, aElder, aFrom, aFresh, isLoad, aBuildSlice1, frzs, frz1, ownIds, AV.frz, AV.frzL, frzEnv, AV.shift, AV.shiftL, aFieldV, aSliceW, aSliceO, aSlice, aSliceR, aSliceS, aBd, aMax, frzAVs, frzAV, frzTab, AObj.frz, aMM, aNilS, aMay, aNil, tyA_51, tyS_51, tyE_59, tyK_59, tyK_3, tyA_63, tyS_63, tyZ_63, tyF_63_0, tyA_3, tyS_3, tyF_63_1, tyA_61, tyS_61, tyB_53, tyR_38] | (with_reducible refine aIf_split (fun _ => ?_) (fun _ => ?_)) | (with_reducible refine aSel_split (fun _ => ?_) (fun _ => ?_)) | (with_reducible refine aGd_split (fun _ => ?_) (fun _ => ?_)) | (with_reducible refine aDraw_quiet (by kernel_rfl) ?_)))
  all_goals exact retO (rows := notesK 11) (e := 53) (sz := 2) (by simp [ATab.get_cons]) rfl
end
section
open Go.RowKit
theorem noteTy : (Tryz.prog.fieldsOf 53).toList.map (fun f => (f.name, f.type, f.offset)) = [("Code", 3, 0), ("N", 3, 1)] := by kernel_rfl
theorem noteBin (op : BinOp) (hop : op = .eql ∨ op = .neq) (a b : Int × Int) : BinRun Tryz.prog op 53 (.agg #[.int .i64 a.1, .int .i64 a.2]) (.agg #[.int .i64 b.1, .int .i64 b.2]) (.bool (if op matches .eql then (a.1 == b.1 && a.2 == b.2) else !(a.1 == b.1 && a.2 == b.2))) := by
  have ht := noteTy
  obtain ⟨f, g, hfs⟩ : ∃ f g, (Tryz.prog.fieldsOf 53).toList = [f, g] := by
    generalize (Tryz.prog.fieldsOf 53).toList = l at ht ⊢
    cases l with
    | nil => simp at ht
    | cons f l => cases l with
      | nil => simp at ht
      | cons g l => cases l with
        | nil => exact ⟨f, g, rfl⟩
        | cons h l => simp at ht
  rw [hfs] at ht
  simp only [List.map_cons, List.map_nil, List.cons.injEq, Prod.mk.injEq, and_true] at ht
  obtain ⟨⟨h1, h2, h3⟩, h4, h5, h6⟩ := ht
  refine structRun [(.int .i64 a.1, .int .i64 b.1), (.int .i64 a.2, .int .i64 b.2)] (by kernel_rfl) (by kernel_rfl) (by kernel_rfl) (by rw [hfs]; rfl) (fun k f' p hk hp => ?_) (by simp [cellsEq, cellEq]) hop
  rw [hfs] at hk
  match k, hk, hp with
  | 0, hk, hp =>
    cases hk
    cases hp
    refine ⟨by rw [h1]; decide, ?_, by rw [h3]; rfl, by rw [h3]; rfl⟩
    rw [h2]
    kernel_rfl
  | 1, hk, hp =>
    cases hk
    cases hp
    refine ⟨by rw [h4]; decide, ?_, by rw [h6]; rfl, by rw [h6]; rfl⟩
    rw [h5]
    kernel_rfl
  | k + 2, hk, hp => simp at hk
set_option maxRecDepth 100000 in
set_option maxHeartbeats 8000000 in
theorem awake44_A : ADet Tryz.prog 5 [] (val (.bool true)) := by
  refine adet_of_code mixedT Tryz.func5 rfl (by decide) Tryz.ntmps5 Tryz.results5 rfl (val_ok _) ?_
  have hN := notes1_A.fits (args := [.agg [.c (.slice none 0 0), .c (.slice none 0 0), .c (.slice none 0 0), .c (.slice none 0 0), .sl 2 [[eS ⟨#[115]⟩, eI (-1)]], .c (.slice none 0 0), .c (.slice none 0 0), .c (.slice none 0 0), .c (.slice none 0 0), .c (.slice none 0 0)]]) ⟨.agg ⟨.nil 1, .nil 1, .nil 1, .nil 2, .refl _, .nil 5, .nil 3, .nil 5, .nil 2, .nil 2, trivial⟩, trivial⟩
  (repeat' (first | simp (maxSteps := 5000000) (implicitDefEqProofs := false) only [ruA, ruB, aEv, aTake, aLoad, aField, aIndex, aLen, aBin, bin2, aUn, un1, aExtract, aConv, ASt.get, aget, ASt.put, aStore, aBox, aAppend, aBuildSlice, aMake, aBuild, aFill, oneParts, allC, aBinS, yv, aCells, oneC, oneCL, treeC, treeL, treeML, treeM_c, treeM_sl, treeM_rp, treeM_any, treeM_fn, treeM_bfn, aLit, aDst, aSrc, appTab, Value.cells, Value.oneCell', envOf, aResL, aOne, ↓reduceIte, reduceCtorEq, forall_const, Nat.reduceLT, Nat.reduceEqDiff, Nat.reduceAdd, Nat.reduceMul, Nat.reduceSub, Nat.reduceLeDiff, Nat.reduceBEq, eq_self, implies_true, ne_eq, dref, dref1, dref2, aExecS, aStoreB, aTakes, aTakeE, aElder, aFrom, aFresh, isLoad, aBuildSlice1, frzs, frz1, ownIds, AV.frz, AV.frzL, frzEnv, AV.shift, AV.shiftL, aFieldV, aSliceW, aSliceO, aSlice, aSliceR, aSliceS, aBd, aMax, frzAVs, frzAV, frzTab, AObj.frz, aMM, aNilS, aMay, aNil, tyB_41, tyR_42, tyB_51, tyE_38, tyK_38, tyK_3, tyA_53, tyS_53, tyB_53, tyK_53] | (with_reducible refine aIf_split (fun _ => ?_) (fun _ => ?_)) | (with_reducible refine aSel_split (fun _ => ?_) (fun _ => ?_)) | (with_reducible refine aGd_split (fun _ => ?_) (fun _ => ?_))))
  refine ⟨rfl, ?_⟩
  refine callO (e := 53) (sz := 2) (rows := [[eI 5, eI 0], [eI 6, eI 0]]) ?_ (.inr ?_) ?_
  · simp (maxSteps := 5000000) (implicitDefEqProofs := false) only [ruA, ruB, aEv, aTake, aLoad, aField, aIndex, aLen, aBin, bin2, aUn, un1, aExtract, aConv, ASt.get, aget, ASt.put, aStore, aBox, aAppend, aBuildSlice, aMake, aBuild, aFill, oneParts, allC, aBinS, yv, aCells, oneC, oneCL, treeC, treeL, treeML, treeM_c, treeM_sl, treeM_rp, treeM_any, treeM_fn, treeM_bfn, aLit, aDst, aSrc, appTab, Value.cells, Value.oneCell', envOf, aResL, aOne, ↓reduceIte, reduceCtorEq, forall_const, Nat.reduceLT, Nat.reduceEqDiff, Nat.reduceAdd, Nat.reduceMul, Nat.reduceSub, Nat.reduceLeDiff, Nat.reduceBEq, eq_self, implies_true, ne_eq, dref, dref1, dref2, aExecS, aStoreB, aTakes, aTakeE, aElder, aFrom, aFresh, isLoad, aBuildSlice1, frzs, frz1, ownIds, AV.frz, AV.frzL, frzEnv, AV.shift, AV.shiftL, aFieldV, aSliceW, aSliceO, aSlice, aSliceR, aSliceS, aBd, aMax, frzAVs, frzAV, frzTab, AObj.frz, aMM, aNilS, aMay, aNil, tyB_41, tyR_42, tyB_51, tyE_38, tyK_38, tyK_3, tyA_53, tyS_53, tyB_53, tyK_53]
    exact hN
  · intro row hr av ha
    simp at hr
    rcases hr with rfl | rfl <;> simp at ha <;> rcases ha with rfl | rfl <;> trivial
  · have e0 : ([[eI 5, eI 0], [eI 6, eI 0]] : List (List AV))[Int.toNat 0]?.getD [] = [eI 5, eI 0] := rfl
    have e1 : ([[eI 5, eI 0], [eI 6, eI 0]] : List (List AV))[Int.toNat 1]?.getD [] = [eI 6, eI 0] := rfl
    have b0 : (0 : Int) < ((2 : Nat) : Int) := by decide
    have b1 : (1 : Int) < ((2 : Nat) : Int) := by decide
    have q2 : (((2 : Nat) : Int) == 2) = true := rfl
    have t0 : Int.toNat 0 < 2 := by decide
    have t1 : Int.toNat 1 < 2 := by decide
    (repeat' (first | simp (maxSteps := 5000000) (implicitDefEqProofs := false) only [ruA, ruB, aEv, aTake, aLoad, aField, aIndex, aLen, aBin, bin2, aUn, un1, aExtract, aConv, ASt.get, aget, ASt.put, aStore, aBox, aAppend, aBuildSlice, aMake, aBuild, aFill, oneParts, allC, aBinS, yv, aCells, oneC, oneCL, treeC, treeL, treeML, treeM_c, treeM_sl, treeM_rp, treeM_any, treeM_fn, treeM_bfn, aLit, aDst, aSrc, appTab, Value.cells, Value.oneCell', envOf, aResL, aOne, ↓reduceIte, reduceCtorEq, forall_const, Nat.reduceLT, Nat.reduceEqDiff, Nat.reduceAdd, Nat.reduceMul, Nat.reduceSub, Nat.reduceLeDiff, Nat.reduceBEq, eq_self, implies_true, ne_eq, dref, dref1, dref2, aExecS, aStoreB, aTakes, aTakeE, aElder, aFrom, aFresh, isLoad, aBuildSlice1, frzs, frz1, ownIds, AV.frz, AV.frzL, frzEnv, AV.shift, AV.shiftL, aFieldV, aSliceW, aSliceO, aSlice, aSliceR, aSliceS, aBd, aMax, frzAVs, frzAV, frzTab, AObj.frz, aMM, aNilS, aMay, aNil, tyB_41, tyR_42, tyB_51, tyE_38, tyK_38, tyK_3, tyA_53, tyS_53, tyB_53, tyK_53, e0, e1, b0, b1, t0, t1, q2, List.length_cons, List.length_nil] | (with_reducible refine aIf_split (fun _ => ?_) (fun _ => ?_)) | (with_reducible refine aSel_split (fun _ => ?_) (fun _ => ?_)) | (with_reducible refine aGd_split (fun _ => ?_) (fun _ => ?_)) | (with_reducible refine aDraw_quiet (by kernel_rfl) ?_)))
    refine ⟨_, noteBin .eql (.inl rfl) (5, 0) (5, 0), ?_⟩
    (repeat' (first | simp (maxSteps := 5000000) (implicitDefEqProofs := false) only [ruA, ruB, aEv, aTake, aLoad, aField, aIndex, aLen, aBin, bin2, aUn, un1, aExtract, aConv, ASt.get, aget, ASt.put, aStore, aBox, aAppend, aBuildSlice, aMake, aBuild, aFill, oneParts, allC, aBinS, yv, aCells, oneC, oneCL, treeC, treeL, treeML, treeM_c, treeM_sl, treeM_rp, treeM_any, treeM_fn, treeM_bfn, aLit, aDst, aSrc, appTab, Value.cells, Value.oneCell', envOf, aResL, aOne, ↓reduceIte, reduceCtorEq, forall_const, Nat.reduceLT, Nat.reduceEqDiff, Nat.reduceAdd, Nat.reduceMul, Nat.reduceSub, Nat.reduceLeDiff, Nat.reduceBEq, eq_self, implies_true, ne_eq, dref, dref1, dref2, aExecS, aStoreB, aTakes, aTakeE, aElder, aFrom, aFresh, isLoad, aBuildSlice1, frzs, frz1, ownIds, AV.frz, AV.frzL, frzEnv, AV.shift, AV.shiftL, aFieldV, aSliceW, aSliceO, aSlice, aSliceR, aSliceS, aBd, aMax, frzAVs, frzAV, frzTab, AObj.frz, aMM, aNilS, aMay, aNil, tyB_41, tyR_42, tyB_51, tyE_38, tyK_38, tyK_3, tyA_53, tyS_53, tyB_53, tyK_53, e0, e1, b0, b1, t0, t1, q2, beq_self_eq_true, Bool.and_self, List.length_cons, List.length_nil] | (with_reducible refine aIf_split (fun _ => ?_) (fun _ => ?_)) | (with_reducible refine aSel_split (fun _ => ?_) (fun _ => ?_)) | (with_reducible refine aGd_split (fun _ => ?_) (fun _ => ?_)) | (with_reducible refine aDraw_quiet (by kernel_rfl) ?_)))
    exact ⟨by decide, _, noteBin .eql (.inl rfl) (6, 0) (6, 0), rfl⟩
end
section
open Go.RowKit

theorem opensInt : Opens Tryz.prog 3 (intR .i64) := opens_int Tryz.underlying3
theorem opensI64 : Opens Tryz.prog 2 (intR .i64) := opens_int Tryz.underlying2
def valR : Rep (Int × Int × Unit) := pairR (intR .i64) (pairR (intR .i64) nilR)
theorem opensVal : Opens Tryz.prog 34 valR :=
  opens_struct Tryz.underlying34 (by kernel_rfl) (opensF_cons (by kernel_rfl) (by kernel_rfl) opensInt (opensF_cons (by kernel_rfl) (by kernel_rfl) opensI64 (opensF_nil _ _)))
def instP : Rep (Int × (Int × Int × Unit) × (Int × Int × Unit) × Int × Int × Unit) := pairR (intR .i64) (pairR valR (pairR valR (pairR (intR .i64) (pairR (intR .i64) nilR))))
theorem opensInstP : Opens Tryz.prog 36 instP :=
  opens_struct Tryz.underlying36 (by kernel_rfl) (opensF_cons (by kernel_rfl) (by kernel_rfl) opensInt (opensF_cons (by kernel_rfl) (by kernel_rfl) opensVal (opensF_cons (by kernel_rfl) (by kernel_rfl) opensVal (opensF_cons (by kernel_rfl) (by kernel_rfl) opensInt (opensF_cons (by kernel_rfl) (by kernel_rfl) opensInt (opensF_nil _ _))))))
theorem opensInst : Opens Tryz.prog 36 instR := opens_map opensInstP (fun p => ⟨p.1, p.2.1.1, p.2.1.2.1, p.2.2.1.1, p.2.2.1.2.1, p.2.2.2.1, p.2.2.2.2.1⟩) (by
  rintro w S cs ⟨op, ⟨la, ln, _⟩, ⟨ra, rn, _⟩, n, u, _⟩ h
  obtain ⟨c0, q0, e0, ⟨a0, h0⟩, h'⟩ := pair_inv h
  obtain ⟨c1, q1, e1, h1, h''⟩ := pair_inv h'
  obtain ⟨c2, q2, e2, h2, h3⟩ := pair_inv h''
  obtain ⟨c3, q3, e3, ⟨a3, h3'⟩, h4⟩ := pair_inv h3
  obtain ⟨c4, q4, e4, ⟨a4, h4'⟩, h5⟩ := pair_inv h4
  have h5 : q4 = [] := h5
  obtain ⟨d0, k0, f0, ⟨b0, g0⟩, m0⟩ := pair_inv h1
  obtain ⟨d1, k1, f1, ⟨b1, g1⟩, m1⟩ := pair_inv m0
  have m1 : k1 = [] := m1
  obtain ⟨d2, k2, f2, ⟨b2, g2⟩, m2⟩ := pair_inv h2
  obtain ⟨d3, k3, f3, ⟨b3, g3⟩, m3⟩ := pair_inv m2
  have m3 : k3 = [] := m3
  refine ⟨?_, wf_i64 h0, wf_i64 g0, wf_i64 g1, wf_i64 g2, wf_i64 g3, wf_i64 h3', wf_i64 h4'⟩
  rw [e0, e1, e2, e3, e4, h5, a0, f0, f1, m1, b0, b1, f2, f3, m3, b2, b3, a3, a4]
  rfl)
theorem opensInsts : Opens Tryz.prog 22 (sliceR instR) := opens_slice Tryz.underlying22 (by kernel_rfl) (by decide) opensInst
theorem opensI64s : Opens Tryz.prog 23 (sliceR (intR .i64)) := opens_slice Tryz.underlying23 (by kernel_rfl) (by decide) opensI64
theorem opensIntsE : Opens Tryz.prog 24 (sliceR (intR .i64)) := opens_slice Tryz.underlying24 (by kernel_rfl) (by decide) opensInt
def stP : Rep (List Int × Int × Int × List Int × List Int × Unit) := pairR (sliceR (intR .i64)) (pairR (intR .i64) (pairR (intR .i64) (pairR (sliceR (intR .i64)) (pairR (sliceR (intR .i64)) nilR))))
theorem opensStP : Opens Tryz.prog 26 stP :=
  opens_struct Tryz.underlying26 (by kernel_rfl) (opensF_cons (by kernel_rfl) (by kernel_rfl) opensI64s (opensF_cons (by kernel_rfl) (by kernel_rfl) opensInt (opensF_cons (by kernel_rfl) (by kernel_rfl) opensInt (opensF_cons (by kernel_rfl) (by kernel_rfl) opensIntsE (opensF_cons (by kernel_rfl) (by kernel_rfl) opensIntsE (opensF_nil _ _))))))
/-- a state's cells -/
structure StAt (w : World) (S : Nat → Prop) (cs : Array Value) (s : St) (vv dv cv : Value) : Prop where
  cells : cs = #[vv, .int .i64 s.opn, .int .i64 s.don, dv, cv]
  vals : (sliceR (intR .i64)).one w S vv s.vals
  did : (sliceR (intR .i64)).one w S dv s.did
  cnt : (sliceR (intR .i64)).one w S cv s.cnt
  opn : ok64 s.opn
  don : ok64 s.don
theorem open_st {H : Type} {enc : TypeId × Value → H} {w : World} {fuel : Nat} {cs : Array Value} {x : DataW H × List MemPlace} (h : DataW.trod enc Tryz.prog w 0 (fun _ => true) true fuel 26 cs.toList = some x) :
    ∃ s vv dv cv, StAt w (fun b => b < w.heap.size) cs s vv dv cv := by
  obtain ⟨⟨vals, o, d, did, cnt, _⟩, h⟩ := opensStP H enc w fuel _ _ h
  obtain ⟨c0, q0, e0, h0, h⟩ := pair_inv h
  obtain ⟨c1, q1, e1, ⟨e1', h1⟩, h⟩ := pair_inv h
  obtain ⟨c2, q2, e2, ⟨e2', h2⟩, h⟩ := pair_inv h
  obtain ⟨c3, q3, e3, h3, h⟩ := pair_inv h
  obtain ⟨c4, q4, e4, h4, h⟩ := pair_inv h
  obtain rfl : q4 = [] := h
  obtain ⟨vv, rfl, h0⟩ := one_inv (r := sliceR (intR .i64)) rfl h0
  obtain ⟨dv, rfl, h3⟩ := one_inv (r := sliceR (intR .i64)) rfl h3
  obtain ⟨cv, rfl, h4⟩ := one_inv (r := sliceR (intR .i64)) rfl h4
  refine ⟨⟨vals, o, d, did, cnt⟩, vv, dv, cv, ?_, h0, h3, h4, wf_i64 h1, wf_i64 h2⟩
  apply Array.ext'
  rw [e0, e1, e2, e3, e4, e1', e2']
  rfl
end
section
open Go.RowKit
def Into {α : Type} (r : Rep α) (f : α → List AV) : Prop := ∀ (w : World) (S : Nat → Prop) (cs : List Value) (x : α), r.at_ w S cs x → (f x).length = r.size ∧ ∀ (j : Nat) (u : Value) (av : AV), cs[j]? = some u → (f x)[j]? = some av → RT w S u av ∧ u.oneCell' = true
theorem Into.slice {α : Type} {r : Rep α} {f : α → List AV} (h : Into r f) {w : World} {S : Nat → Prop} {v : Value} {l : List α} (hv : (sliceR r).one w S v l) : RT w S v (.sl r.size (l.map f)) := by
  obtain ⟨A, c, rfl, h1, h2⟩ := slice_form hv
  by_cases h0 : 0 < l.length
  · obtain ⟨b, o, rfl, hb, hrow⟩ := slice_some hv h0
    classical
    let cs : Nat → List Value := fun i => if hi : i < l.length then (hrow i hi).choose else []
    have hcs : ∀ i (hi : i < l.length), (∀ (j : Nat) (u : Value), (cs i)[j]? = some u → w.cell? ⟨b, o + i * r.size + j, none⟩ = some u) ∧ r.at_ w S (cs i) l[i] := fun i hi => by
      have := (hrow i hi).choose_spec
      simpa [cs, hi] using this
    have key : ∀ (i j : Nat) (row : List AV) (av : AV), (l.map f)[i]? = some row → row[j]? = some av → ∃ hi : i < l.length, (cs i)[j]? = some ((cs i).getD j undef) ∧ RT w S ((cs i).getD j undef) av ∧ ((cs i).getD j undef).oneCell' = true := fun i j row av h3 h4 => by
      have hi : i < l.length := by
        have := (List.getElem?_eq_some_iff.1 h3).1
        simpa using this
      have hf : row = f l[i] := by
        rw [List.getElem?_map, List.getElem?_eq_getElem hi] at h3
        exact (Option.some.inj h3).symm
      subst hf
      obtain ⟨h5, h6⟩ := h w S (cs i) l[i] (hcs i hi).2
      have hj : j < (cs i).length := by
        rw [r.len (hcs i hi).2, ← h5]
        exact (List.getElem?_eq_some_iff.1 h4).1
      have e : (cs i)[j]? = some ((cs i).getD j undef) := by
        rw [List.getD_eq_getElem?_getD, List.getElem?_eq_getElem hj]
        rfl
      exact ⟨hi, e, h6 j _ av e h4⟩
    refine .sl _ _ c r.size _ b o (fun i j => (cs i).getD j undef) (by simp) h1 h2 (fun _ => ⟨rfl, hb⟩) (fun row hr => ?_) (fun _ i j row av h3 h4 => ?_) (fun i j row av h3 h4 => (key i j row av h3 h4).elim fun _ h => h.2.2) (fun i j row av h3 h4 => (key i j row av h3 h4).elim fun _ h => h.2.1)
    · obtain ⟨i, hi, rfl⟩ := List.getElem_of_mem hr
      have hi : i < l.length := by simpa using hi
      simp only [List.getElem_map]
      exact (h w S (cs i) l[i] (hcs i hi).2).1
    · obtain ⟨hi, h5, _⟩ := key i j row av h3 h4
      exact (hcs i hi).1 j _ h5
  · have : l = [] := List.length_eq_zero_iff.1 (by omega)
    subst this
    exact .sl A 0 c r.size [] 0 0 (fun _ _ => undef) rfl h1 h2 (fun h => by omega) (by simp) (fun h => by omega) (by simp) (by simp)
theorem into_cells {α : Type} {r : Rep α} {f : α → List AV} (g : α → List Value) (hg : ∀ w S cs x, r.at_ w S cs x → cs = g x) (hs : ∀ x, (g x).length = r.size) (ho : ∀ x u, u ∈ g x → u.oneCell' = true) (hf : ∀ x, f x = (g x).map .c) : Into r f := fun w S cs x h => by
  obtain rfl := hg w S cs x h
  rw [hf]
  refine ⟨by simp [hs], fun j u av h1 h2 => ?_⟩
  rw [List.getElem?_map, h1] at h2
  cases h2
  exact ⟨.c u, ho x u (List.mem_of_getElem? h1)⟩
theorem into_int : Into (intR .i64) (fun n => [eI n]) := into_cells (fun n => [.int .i64 n]) (fun w S cs x h => h.1) (fun x => rfl) (fun x u h => by simp at h; subst h; rfl) (fun x => rfl)
theorem into_inst : Into instR eInst := into_cells Inst.cells (fun w S cs x h => h.1) (fun x => rfl) (fun x u h => by simp [Inst.cells] at h; rcases h with rfl | rfl | rfl | rfl | rfl | rfl | rfl <;> rfl) (fun x => rfl)
theorem rt_st {w : World} {S : Nat → Prop} {cs : Array Value} {s : St} {vv dv cv : Value} (h : StAt w S cs s vv dv cv) : RT w S (.agg cs) (.agg (eSt s)) := by
  obtain ⟨rfl, h2, h3, h4, _, _⟩ := h
  refine .agg _ _ rfl fun j u av h5 h6 => ?_
  match j with
  | 0 => simp at h5 h6; subst h5; subst h6; exact into_int.slice h2
  | 1 => simp at h5 h6; subst h5; subst h6; exact .c _
  | 2 => simp at h5 h6; subst h5; subst h6; exact .c _
  | 3 => simp at h5 h6; subst h5; subst h6; exact into_int.slice h3
  | 4 => simp at h5 h6; subst h5; subst h6; exact into_int.slice h4
  | j + 5 => simp at h5
/-- every thing of a slice is one that may be -/
theorem slice_all {α : Type} {r : Rep α} {w : World} {S : Nat → Prop} {v : Value} {l : List α} {Q : α → Prop} (h : (sliceR r).one w S v l) (hq : ∀ cs x, r.at_ w S cs x → Q x) : ∀ x ∈ l, Q x := fun x hx => by
  obtain ⟨i, hi, rfl⟩ := List.getElem_of_mem hx
  obtain ⟨A, c, rfl, _⟩ := slice_form h
  obtain ⟨b, o, rfl, _, hrow⟩ := slice_some h (by omega)
  obtain ⟨cs, _, h2⟩ := hrow i hi
  exact hq cs _ h2
end
end Go.Proofs.YtoefohadgmlecaaGreat
