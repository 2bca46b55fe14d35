/-
  Parts of the proof: C4, C5, D5, D6, D7, D8.
-/
import Derived.Test.YtmochnclbcbijaaGreatSpk8
set_option linter.unusedVariables false
set_option linter.unusedSimpArgs false
namespace Go.Proofs.YtmochnclbcbijaaGreat
section
open Go.RowKit

theorem below_len (l : List Int) (i : Int) : (belowL l i).length ≤ l.length := by
  unfold belowL
  split
  · rw [List.length_map]
    exact Nat.le_trans (List.length_filter_le _ _) (by simp)
  · simp
def undo (l : List Ml) (st d : Int) : Nat → Int
  | 0 => d
  | k + 1 => if l[k]?.map (·.stage) = some st then withoutB (undo l st d k) (k : Int) else undo l st d k
def fireM (m : Mod) (s : St) (x : Bool × Int) : St :=
  match sentryM m x with
  | some (st, _, _, mi) =>
    if inS m st = true then
      if x.1 = true then { s with don := withB s.don mi, opn := (belowL (pars m) st ++ [st]).foldl withoutB s.opn }
      else { s with opn := withB s.opn st, don := undo m.miles st s.don m.miles.length }
    else s
  | none => s
set_option maxRecDepth 100000 in
set_option maxHeartbeats 4000000 in
theorem fire_A (m : Mod) (s : St) (xm : Bool) (xn : Int) (hf : Fit m) (hp : ∀ p ∈ m.stages, ok64 p.2) : ADet Tryz.prog 49 [.agg (eMod m), .agg (eSt s), .agg [eB xm, eI xn]] ⟨.agg (eSt (fireM m s (xm, xn))), [], 0⟩ := by
  refine adet_of_code mixedT Tryz.func49 rfl (by decide) Tryz.ntmps49 Tryz.results49 rfl (⟨fun id o h => (by cases h), ⟨trivial, trivial, trivial, trivial, trivial, trivial⟩⟩) ?_
  (repeat' (first | simp (maxSteps := 5000000) (implicitDefEqProofs := false) only [ruA, ruB, aEv, aTake, aLoad, aField, aIndex, aLen, aBin, bin2, aUn, un1, aExtract, aConv, ASt.get, aget, ASt.put, aStore, aBox, aAppend, aBuildSlice, aMake, aBuild, aFill, oneParts, allC, aBinS, yv, aCells, oneC, oneCL, treeC, treeL, aLit, aDst, aSrc, appTab, Value.cells, Value.oneCell', envOf, aResL, aOne, ↓reduceIte, reduceCtorEq, forall_const, Nat.reduceLT, Nat.reduceEqDiff, Nat.reduceAdd, Nat.reduceMul, Nat.reduceSub, Nat.reduceLeDiff, Nat.reduceBEq, eq_self, implies_true, ne_eq, dref, dref1, dref2, aExecS, aStoreB, aTakes, aTakeE, aElder, aFrom, aFresh, isLoad, aBuildSlice1, frzs, frz1, ownIds, AV.frz, AV.frzL, frzEnv, AV.shift, AV.shiftL, aFieldV, aSliceW, aSliceO, aSlice, aSliceR, aSliceS, aBd, aMax, frzAVs, frzAV, frzTab, AObj.frz, aMM, aNilS, aMay, aNil, tyA_51, tyS_51, tyZ_51, tyA_41, tyS_41, tyA_67, tyS_67, tyZ_124, tyS_124, tyF_67_0, tyA_4, tyS_4, tyF_51_2, tyA_3, tyS_3, tyF_124_3, tyF_124_0, tyR_49, tyE_49, tyK_49, tyK_3, tyF_51_1, tyF_41_7, tyA_37, tyS_37, tyE_37, tyK_37, tyA_91, tyS_91, tyZ_91, tyF_91_1] | (with_reducible refine aIf_split (fun _ => ?_) (fun _ => ?_)) | (with_reducible refine aSel_split (fun _ => ?_) (fun _ => ?_)) | (with_reducible refine aGd_split (fun _ => ?_) (fun _ => ?_))))
  have ro : roL [.agg (eMod m), .agg [eB xm, eI xn]] := by simp [roL, roA, treeL, treeC]
  have hA := find_A m xm xn
  obtain ⟨-, hmi, hst, -⟩ := id hf.sizes
  cases he : sentryM m (xm, xn) with
  | none =>
    rw [findR_none he] at hA
    refine callT hA (.inl ro) ?_
    (repeat' (first | simp (maxSteps := 5000000) (implicitDefEqProofs := false) only [ruA, ruB, aEv, aTake, aLoad, aField, aIndex, aLen, aBin, bin2, aUn, un1, aExtract, aConv, ASt.get, aget, ASt.put, aStore, aBox, aAppend, aBuildSlice, aMake, aBuild, aFill, oneParts, allC, aBinS, yv, aCells, oneC, oneCL, treeC, treeL, aLit, aDst, aSrc, appTab, Value.cells, Value.oneCell', envOf, aResL, aOne, ↓reduceIte, reduceCtorEq, forall_const, Nat.reduceLT, Nat.reduceEqDiff, Nat.reduceAdd, Nat.reduceMul, Nat.reduceSub, Nat.reduceLeDiff, Nat.reduceBEq, eq_self, implies_true, ne_eq, dref, dref1, dref2, aExecS, aStoreB, aTakes, aTakeE, aElder, aFrom, aFresh, isLoad, aBuildSlice1, frzs, frz1, ownIds, AV.frz, AV.frzL, frzEnv, AV.shift, AV.shiftL, aFieldV, aSliceW, aSliceO, aSlice, aSliceR, aSliceS, aBd, aMax, frzAVs, frzAV, frzTab, AObj.frz, aMM, aNilS, aMay, aNil, tyA_51, tyS_51, tyZ_51, tyA_41, tyS_41, tyA_67, tyS_67, tyZ_124, tyS_124, tyF_67_0, tyA_4, tyS_4, tyF_51_2, tyA_3, tyS_3, tyF_124_3, tyF_124_0, tyR_49, tyE_49, tyK_49, tyK_3, tyF_51_1, tyF_41_7, tyA_37, tyS_37, tyE_37, tyK_37, tyA_91, tyS_91, tyZ_91, tyF_91_1] | (with_reducible refine aIf_split (fun _ => ?_) (fun _ => ?_)) | (with_reducible refine aSel_split (fun _ => ?_) (fun _ => ?_)) | (with_reducible refine aGd_split (fun _ => ?_) (fun _ => ?_))))
    exact gives_tree (by simp [fireM, he, AV.ren, AV.renL])
  | some q =>
    obtain ⟨st, ev, cond, mi⟩ := q
    rw [findR_some he] at hA
    refine callT hA (.inl ro) ?_
    (repeat' (first | simp (maxSteps := 5000000) (implicitDefEqProofs := false) only [ruA, ruB, aEv, aTake, aLoad, aField, aIndex, aLen, aBin, bin2, aUn, un1, aExtract, aConv, ASt.get, aget, ASt.put, aStore, aBox, aAppend, aBuildSlice, aMake, aBuild, aFill, oneParts, allC, aBinS, yv, aCells, oneC, oneCL, treeC, treeL, aLit, aDst, aSrc, appTab, Value.cells, Value.oneCell', envOf, aResL, aOne, ↓reduceIte, reduceCtorEq, forall_const, Nat.reduceLT, Nat.reduceEqDiff, Nat.reduceAdd, Nat.reduceMul, Nat.reduceSub, Nat.reduceLeDiff, Nat.reduceBEq, eq_self, implies_true, ne_eq, dref, dref1, dref2, aExecS, aStoreB, aTakes, aTakeE, aElder, aFrom, aFresh, isLoad, aBuildSlice1, frzs, frz1, ownIds, AV.frz, AV.frzL, frzEnv, AV.shift, AV.shiftL, aFieldV, aSliceW, aSliceO, aSlice, aSliceR, aSliceS, aBd, aMax, frzAVs, frzAV, frzTab, AObj.frz, aMM, aNilS, aMay, aNil, tyA_51, tyS_51, tyZ_51, tyA_41, tyS_41, tyA_67, tyS_67, tyZ_124, tyS_124, tyF_67_0, tyA_4, tyS_4, tyF_51_2, tyA_3, tyS_3, tyF_124_3, tyF_124_0, tyR_49, tyE_49, tyK_49, tyK_3, tyF_51_1, tyF_41_7, tyA_37, tyS_37, tyE_37, tyK_37, tyA_91, tyS_91, tyZ_91, tyF_91_1] | (with_reducible refine aIf_split (fun _ => ?_) (fun _ => ?_)) | (with_reducible refine aSel_split (fun _ => ?_) (fun _ => ?_)) | (with_reducible refine aGd_split (fun _ => ?_) (fun _ => ?_))))
    · rename_i h
      have h : inS m st = false := by simpa using h
      exact gives_tree (by simp [fireM, he, h, AV.ren, AV.renL])
    · rename_i h hx
      refine callV (with_A _ _) ?_
      (repeat' (first | simp (maxSteps := 5000000) (implicitDefEqProofs := false) only [ruA, ruB, aEv, aTake, aLoad, aField, aIndex, aLen, aBin, bin2, aUn, un1, aExtract, aConv, ASt.get, aget, ASt.put, aStore, aBox, aAppend, aBuildSlice, aMake, aBuild, aFill, oneParts, allC, aBinS, yv, aCells, oneC, oneCL, treeC, treeL, aLit, aDst, aSrc, appTab, Value.cells, Value.oneCell', envOf, aResL, aOne, ↓reduceIte, reduceCtorEq, forall_const, Nat.reduceLT, Nat.reduceEqDiff, Nat.reduceAdd, Nat.reduceMul, Nat.reduceSub, Nat.reduceLeDiff, Nat.reduceBEq, eq_self, implies_true, ne_eq, dref, dref1, dref2, aExecS, aStoreB, aTakes, aTakeE, aElder, aFrom, aFresh, isLoad, aBuildSlice1, frzs, frz1, ownIds, AV.frz, AV.frzL, frzEnv, AV.shift, AV.shiftL, aFieldV, aSliceW, aSliceO, aSlice, aSliceR, aSliceS, aBd, aMax, frzAVs, frzAV, frzTab, AObj.frz, aMM, aNilS, aMay, aNil, tyA_51, tyS_51, tyZ_51, tyA_41, tyS_41, tyA_67, tyS_67, tyZ_124, tyS_124, tyF_67_0, tyA_4, tyS_4, tyF_51_2, tyA_3, tyS_3, tyF_124_3, tyF_124_0, tyR_49, tyE_49, tyK_49, tyK_3, tyF_51_1, tyF_41_7, tyA_37, tyS_37, tyE_37, tyK_37, tyA_91, tyS_91, tyZ_91, tyF_91_1] | (with_reducible refine aIf_split (fun _ => ?_) (fun _ => ?_)) | (with_reducible refine aSel_split (fun _ => ?_) (fun _ => ?_)) | (with_reducible refine aGd_split (fun _ => ?_) (fun _ => ?_))))
      have hbl : (belowL (pars m) st).length ≤ 1000 := by
        have := below_len (pars m) st
        simp [pars] at this ⊢
        omega
      have hpl : (pars m).length ≤ 1073741824 := by simp [pars]; omega
      have hpo : ∀ x ∈ pars m, ok64 x := fun x hx => by
        obtain ⟨p, hp', rfl⟩ := List.mem_map.1 hx
        exact hp p hp'
      refine aDraw_join (fun s' => s' = ⟨77, [(4, .op 0 0 0), (6, .op 1 0 0), (38, .osl 2), (39, eI ((belowL (pars m) st ++ [st]).length : Int)), (40, eI 0)], [(0, some (.box 51 (eSt { s with don := withB s.don mi }))), (1, some (.box 51 [.c (.slice none 0 0), eI 0, eI 0, .c (.slice none 0 0), .c (.slice none 0 0)])), (2, some (.row 3 1 ((belowL (pars m) st ++ [st]).map fun n => [eI n])))], 3⟩)
        [] [0, 2, 3, 5, 6, 10] (.two 1 (.two 4 (.exec 7 (.exec 8 (.take 9 .done))) 7 (.exec 4 (.exec 8 (.take 9 .done)))) 7 (.exec 1 (.exec 4 (.exec 8 (.take 9 .done))))) (by kernel_rfl) (by simp) ?_ ?_
      · (repeat' (first | simp (maxSteps := 5000000) (implicitDefEqProofs := false) only [ruA, ruB, aEv, aTake, aLoad, aField, aIndex, aLen, aBin, bin2, aUn, un1, aExtract, aConv, ASt.get, aget, ASt.put, aStore, aBox, aAppend, aBuildSlice, aMake, aBuild, aFill, oneParts, allC, aBinS, yv, aCells, oneC, oneCL, treeC, treeL, aLit, aDst, aSrc, appTab, Value.cells, Value.oneCell', envOf, aResL, aOne, ↓reduceIte, reduceCtorEq, forall_const, Nat.reduceLT, Nat.reduceEqDiff, Nat.reduceAdd, Nat.reduceMul, Nat.reduceSub, Nat.reduceLeDiff, Nat.reduceBEq, eq_self, implies_true, ne_eq, dref, dref1, dref2, aExecS, aStoreB, aTakes, aTakeE, aElder, aFrom, aFresh, isLoad, aBuildSlice1, frzs, frz1, ownIds, AV.frz, AV.frzL, frzEnv, AV.shift, AV.shiftL, aFieldV, aSliceW, aSliceO, aSlice, aSliceR, aSliceS, aBd, aMax, frzAVs, frzAV, frzTab, AObj.frz, aMM, aNilS, aMay, aNil, tyA_51, tyS_51, tyZ_51, tyA_41, tyS_41, tyA_67, tyS_67, tyZ_124, tyS_124, tyF_67_0, tyA_4, tyS_4, tyF_51_2, tyA_3, tyS_3, tyF_124_3, tyF_124_0, tyR_49, tyE_49, tyK_49, tyK_3, tyF_51_1, tyF_41_7, tyA_37, tyS_37, tyE_37, tyK_37, tyA_91, tyS_91, tyZ_91, tyF_91_1] | (with_reducible refine aIf_split (fun _ => ?_) (fun _ => ?_)) | (with_reducible refine aSel_split (fun _ => ?_) (fun _ => ?_)) | (with_reducible refine aGd_split (fun _ => ?_) (fun _ => ?_))))
        have fin : (((belowL (pars m) st).map fun n => [eI n]).length ≤ 9223372036854775806 ∧ (((belowL (pars m) st).map fun n => [eI n]).length + 1) * 8 ≤ 140737488355328) := by simp; omega
        refine ⟨?_, rfl, ?_⟩
        · refine callO (parents_A m (by omega)) (.inr ints_plain) ?_
          (repeat' (first | simp (maxSteps := 5000000) (implicitDefEqProofs := false) only [ruA, ruB, aEv, aTake, aLoad, aField, aIndex, aLen, aBin, bin2, aUn, un1, aExtract, aConv, ASt.get, aget, ASt.put, aStore, aBox, aAppend, aBuildSlice, aMake, aBuild, aFill, oneParts, allC, aBinS, yv, aCells, oneC, oneCL, treeC, treeL, aLit, aDst, aSrc, appTab, Value.cells, Value.oneCell', envOf, aResL, aOne, ↓reduceIte, reduceCtorEq, forall_const, Nat.reduceLT, Nat.reduceEqDiff, Nat.reduceAdd, Nat.reduceMul, Nat.reduceSub, Nat.reduceLeDiff, Nat.reduceBEq, eq_self, implies_true, ne_eq, dref, dref1, dref2, aExecS, aStoreB, aTakes, aTakeE, aElder, aFrom, aFresh, isLoad, aBuildSlice1, frzs, frz1, ownIds, AV.frz, AV.frzL, frzEnv, AV.shift, AV.shiftL, aFieldV, aSliceW, aSliceO, aSlice, aSliceR, aSliceS, aBd, aMax, frzAVs, frzAV, frzTab, AObj.frz, aMM, aNilS, aMay, aNil, tyA_51, tyS_51, tyZ_51, tyA_41, tyS_41, tyA_67, tyS_67, tyZ_124, tyS_124, tyF_67_0, tyA_4, tyS_4, tyF_51_2, tyA_3, tyS_3, tyF_124_3, tyF_124_0, tyR_49, tyE_49, tyK_49, tyK_3, tyF_51_1, tyF_41_7, tyA_37, tyS_37, tyE_37, tyK_37, tyA_91, tyS_91, tyZ_91, tyF_91_1] | (with_reducible refine aIf_split (fun _ => ?_) (fun _ => ?_)) | (with_reducible refine aSel_split (fun _ => ?_) (fun _ => ?_)) | (with_reducible refine aGd_split (fun _ => ?_) (fun _ => ?_))))
          refine ⟨?_, rfl, ?_⟩
          · refine callO (below_A (pars m) st hpl hpo) (.inr ints_plain) ?_
            (repeat' (first | simp (maxSteps := 5000000) (implicitDefEqProofs := false) only [ruA, ruB, aEv, aTake, aLoad, aField, aIndex, aLen, aBin, bin2, aUn, un1, aExtract, aConv, ASt.get, aget, ASt.put, aStore, aBox, aAppend, aBuildSlice, aMake, aBuild, aFill, oneParts, allC, aBinS, yv, aCells, oneC, oneCL, treeC, treeL, aLit, aDst, aSrc, appTab, Value.cells, Value.oneCell', envOf, aResL, aOne, ↓reduceIte, reduceCtorEq, forall_const, Nat.reduceLT, Nat.reduceEqDiff, Nat.reduceAdd, Nat.reduceMul, Nat.reduceSub, Nat.reduceLeDiff, Nat.reduceBEq, eq_self, implies_true, ne_eq, dref, dref1, dref2, aExecS, aStoreB, aTakes, aTakeE, aElder, aFrom, aFresh, isLoad, aBuildSlice1, frzs, frz1, ownIds, AV.frz, AV.frzL, frzEnv, AV.shift, AV.shiftL, aFieldV, aSliceW, aSliceO, aSlice, aSliceR, aSliceS, aBd, aMax, frzAVs, frzAV, frzTab, AObj.frz, aMM, aNilS, aMay, aNil, tyA_51, tyS_51, tyZ_51, tyA_41, tyS_41, tyA_67, tyS_67, tyZ_124, tyS_124, tyF_67_0, tyA_4, tyS_4, tyF_51_2, tyA_3, tyS_3, tyF_124_3, tyF_124_0, tyR_49, tyE_49, tyK_49, tyK_3, tyF_51_1, tyF_41_7, tyA_37, tyS_37, tyE_37, tyK_37, tyA_91, tyS_91, tyZ_91, tyF_91_1] | (with_reducible refine aIf_split (fun _ => ?_) (fun _ => ?_)) | (with_reducible refine aSel_split (fun _ => ?_) (fun _ => ?_)) | (with_reducible refine aGd_split (fun _ => ?_) (fun _ => ?_))))
            exact ⟨rfl, ⟨by omega, by omega⟩, aTo_mk (weak_ren1 [1, 3, 8] ⟨(by decide), (by (first | ((simp only [envInR, tabInR, envLt, tabLt, AObj.lt, AV.lt, AV.ltL, AV.ren, AV.renL, AObj.ren, List.getD_cons_zero, List.getD_cons_succ, List.length_cons, List.length_nil, ruW, ASt.get, aget, ASt.put, ↓reduceIte, reduceCtorEq, Nat.reduceLT, Nat.reduceEqDiff, Nat.reduceAdd, Nat.reduceLeDiff, eq_self, implies_true, List.map_append, List.map_cons, List.map_nil, List.length_append, List.length_map]) <;> (repeat' apply And.intro) <;> first | (rw [wrapK (by omega)]; done) | (simp; done) | omega) | fail))⟩) rfl⟩
          · refine callO (below_A (pars m) st hpl hpo) (.inr ints_plain) ?_
            (repeat' (first | simp (maxSteps := 5000000) (implicitDefEqProofs := false) only [ruA, ruB, aEv, aTake, aLoad, aField, aIndex, aLen, aBin, bin2, aUn, un1, aExtract, aConv, ASt.get, aget, ASt.put, aStore, aBox, aAppend, aBuildSlice, aMake, aBuild, aFill, oneParts, allC, aBinS, yv, aCells, oneC, oneCL, treeC, treeL, aLit, aDst, aSrc, appTab, Value.cells, Value.oneCell', envOf, aResL, aOne, ↓reduceIte, reduceCtorEq, forall_const, Nat.reduceLT, Nat.reduceEqDiff, Nat.reduceAdd, Nat.reduceMul, Nat.reduceSub, Nat.reduceLeDiff, Nat.reduceBEq, eq_self, implies_true, ne_eq, dref, dref1, dref2, aExecS, aStoreB, aTakes, aTakeE, aElder, aFrom, aFresh, isLoad, aBuildSlice1, frzs, frz1, ownIds, AV.frz, AV.frzL, frzEnv, AV.shift, AV.shiftL, aFieldV, aSliceW, aSliceO, aSlice, aSliceR, aSliceS, aBd, aMax, frzAVs, frzAV, frzTab, AObj.frz, aMM, aNilS, aMay, aNil, tyA_51, tyS_51, tyZ_51, tyA_41, tyS_41, tyA_67, tyS_67, tyZ_124, tyS_124, tyF_67_0, tyA_4, tyS_4, tyF_51_2, tyA_3, tyS_3, tyF_124_3, tyF_124_0, tyR_49, tyE_49, tyK_49, tyK_3, tyF_51_1, tyF_41_7, tyA_37, tyS_37, tyE_37, tyK_37, tyA_91, tyS_91, tyZ_91, tyF_91_1] | (with_reducible refine aIf_split (fun _ => ?_) (fun _ => ?_)) | (with_reducible refine aSel_split (fun _ => ?_) (fun _ => ?_)) | (with_reducible refine aGd_split (fun _ => ?_) (fun _ => ?_))))
            exact ⟨⟨by omega, by omega⟩, aTo_mk (weak_ren1 [1, 3, 8] ⟨(by decide), (by (first | ((simp only [envInR, tabInR, envLt, tabLt, AObj.lt, AV.lt, AV.ltL, AV.ren, AV.renL, AObj.ren, List.getD_cons_zero, List.getD_cons_succ, List.length_cons, List.length_nil, ruW, ASt.get, aget, ASt.put, ↓reduceIte, reduceCtorEq, Nat.reduceLT, Nat.reduceEqDiff, Nat.reduceAdd, Nat.reduceLeDiff, eq_self, implies_true, List.map_append, List.map_cons, List.map_nil, List.length_append, List.length_map]) <;> (repeat' apply And.intro) <;> first | (rw [wrapK (by omega)]; done) | (simp; done) | omega) | fail))⟩) rfl⟩
        · refine callO (parents_A m (by omega)) (.inr ints_plain) ?_
          (repeat' (first | simp (maxSteps := 5000000) (implicitDefEqProofs := false) only [ruA, ruB, aEv, aTake, aLoad, aField, aIndex, aLen, aBin, bin2, aUn, un1, aExtract, aConv, ASt.get, aget, ASt.put, aStore, aBox, aAppend, aBuildSlice, aMake, aBuild, aFill, oneParts, allC, aBinS, yv, aCells, oneC, oneCL, treeC, treeL, aLit, aDst, aSrc, appTab, Value.cells, Value.oneCell', envOf, aResL, aOne, ↓reduceIte, reduceCtorEq, forall_const, Nat.reduceLT, Nat.reduceEqDiff, Nat.reduceAdd, Nat.reduceMul, Nat.reduceSub, Nat.reduceLeDiff, Nat.reduceBEq, eq_self, implies_true, ne_eq, dref, dref1, dref2, aExecS, aStoreB, aTakes, aTakeE, aElder, aFrom, aFresh, isLoad, aBuildSlice1, frzs, frz1, ownIds, AV.frz, AV.frzL, frzEnv, AV.shift, AV.shiftL, aFieldV, aSliceW, aSliceO, aSlice, aSliceR, aSliceS, aBd, aMax, frzAVs, frzAV, frzTab, AObj.frz, aMM, aNilS, aMay, aNil, tyA_51, tyS_51, tyZ_51, tyA_41, tyS_41, tyA_67, tyS_67, tyZ_124, tyS_124, tyF_67_0, tyA_4, tyS_4, tyF_51_2, tyA_3, tyS_3, tyF_124_3, tyF_124_0, tyR_49, tyE_49, tyK_49, tyK_3, tyF_51_1, tyF_41_7, tyA_37, tyS_37, tyE_37, tyK_37, tyA_91, tyS_91, tyZ_91, tyF_91_1] | (with_reducible refine aIf_split (fun _ => ?_) (fun _ => ?_)) | (with_reducible refine aSel_split (fun _ => ?_) (fun _ => ?_)) | (with_reducible refine aGd_split (fun _ => ?_) (fun _ => ?_))))
          refine callO (below_A (pars m) st hpl hpo) (.inr ints_plain) ?_
          (repeat' (first | simp (maxSteps := 5000000) (implicitDefEqProofs := false) only [ruA, ruB, aEv, aTake, aLoad, aField, aIndex, aLen, aBin, bin2, aUn, un1, aExtract, aConv, ASt.get, aget, ASt.put, aStore, aBox, aAppend, aBuildSlice, aMake, aBuild, aFill, oneParts, allC, aBinS, yv, aCells, oneC, oneCL, treeC, treeL, aLit, aDst, aSrc, appTab, Value.cells, Value.oneCell', envOf, aResL, aOne, ↓reduceIte, reduceCtorEq, forall_const, Nat.reduceLT, Nat.reduceEqDiff, Nat.reduceAdd, Nat.reduceMul, Nat.reduceSub, Nat.reduceLeDiff, Nat.reduceBEq, eq_self, implies_true, ne_eq, dref, dref1, dref2, aExecS, aStoreB, aTakes, aTakeE, aElder, aFrom, aFresh, isLoad, aBuildSlice1, frzs, frz1, ownIds, AV.frz, AV.frzL, frzEnv, AV.shift, AV.shiftL, aFieldV, aSliceW, aSliceO, aSlice, aSliceR, aSliceS, aBd, aMax, frzAVs, frzAV, frzTab, AObj.frz, aMM, aNilS, aMay, aNil, tyA_51, tyS_51, tyZ_51, tyA_41, tyS_41, tyA_67, tyS_67, tyZ_124, tyS_124, tyF_67_0, tyA_4, tyS_4, tyF_51_2, tyA_3, tyS_3, tyF_124_3, tyF_124_0, tyR_49, tyE_49, tyK_49, tyK_3, tyF_51_1, tyF_41_7, tyA_37, tyS_37, tyE_37, tyK_37, tyA_91, tyS_91, tyZ_91, tyF_91_1] | (with_reducible refine aIf_split (fun _ => ?_) (fun _ => ?_)) | (with_reducible refine aSel_split (fun _ => ?_) (fun _ => ?_)) | (with_reducible refine aGd_split (fun _ => ?_) (fun _ => ?_))))
          exact ⟨⟨by omega, by omega⟩, aTo_mk (weak_ren1 [1, 3, 8] ⟨(by decide), (by (first | ((simp only [envInR, tabInR, envLt, tabLt, AObj.lt, AV.lt, AV.ltL, AV.ren, AV.renL, AObj.ren, List.getD_cons_zero, List.getD_cons_succ, List.length_cons, List.length_nil, ruW, ASt.get, aget, ASt.put, ↓reduceIte, reduceCtorEq, Nat.reduceLT, Nat.reduceEqDiff, Nat.reduceAdd, Nat.reduceLeDiff, eq_self, implies_true, List.map_append, List.map_cons, List.map_nil, List.length_append, List.length_map]) <;> (repeat' apply And.intro) <;> first | (rw [wrapK (by omega)]; done) | (simp; done) | omega) | fail))⟩) rfl⟩
      · rintro _ rfl
        have eR : fireM m s (true, xn) = { s with don := withB s.don mi, opn := (belowL (pars m) st ++ [st]).foldl withoutB s.opn } := by
          subst hx
          simp at h
          simp [fireM, he, h]
        subst hx
        rw [eR]
        have hL : (belowL (pars m) st ++ [st]).length ≤ 1001 := by simp; omega
        generalize belowL (pars m) st ++ [st] = L at hL ⊢
        (repeat' (first | simp (maxSteps := 5000000) (implicitDefEqProofs := false) only [ruA, ruB, aEv, aTake, aLoad, aField, aIndex, aLen, aBin, bin2, aUn, un1, aExtract, aConv, ASt.get, aget, ASt.put, aStore, aBox, aAppend, aBuildSlice, aMake, aBuild, aFill, oneParts, allC, aBinS, yv, aCells, oneC, oneCL, treeC, treeL, aLit, aDst, aSrc, appTab, Value.cells, Value.oneCell', envOf, aResL, aOne, ↓reduceIte, reduceCtorEq, forall_const, Nat.reduceLT, Nat.reduceEqDiff, Nat.reduceAdd, Nat.reduceMul, Nat.reduceSub, Nat.reduceLeDiff, Nat.reduceBEq, eq_self, implies_true, ne_eq, dref, dref1, dref2, aExecS, aStoreB, aTakes, aTakeE, aElder, aFrom, aFresh, isLoad, aBuildSlice1, frzs, frz1, ownIds, AV.frz, AV.frzL, frzEnv, AV.shift, AV.shiftL, aFieldV, aSliceW, aSliceO, aSlice, aSliceR, aSliceS, aBd, aMax, frzAVs, frzAV, frzTab, AObj.frz, aMM, aNilS, aMay, aNil, tyA_51, tyS_51, tyZ_51, tyA_41, tyS_41, tyA_67, tyS_67, tyZ_124, tyS_124, tyF_67_0, tyA_4, tyS_4, tyF_51_2, tyA_3, tyS_3, tyF_124_3, tyF_124_0, tyR_49, tyE_49, tyK_49, tyK_3, tyF_51_1, tyF_41_7, tyA_37, tyS_37, tyE_37, tyK_37, tyA_91, tyS_91, tyZ_91, tyF_91_1] | (with_reducible refine aIf_split (fun _ => ?_) (fun _ => ?_)) | (with_reducible refine aSel_split (fun _ => ?_) (fun _ => ?_)) | (with_reducible refine aGd_split (fun _ => ?_) (fun _ => ?_))))
        refine aLoop_of (fun s' => ∃ k : Nat, k ≤ L.length ∧ s' = ⟨77, [(4, .op 0 0 0), (6, .op 1 0 0), (38, .osl 2), (39, eI (L.length : Int)), (40, eI (k : Int))], [(0, some (.box 51 (eSt { s with don := withB s.don mi, opn := (L.take k).foldl withoutB s.opn }))), (1, some (.box 51 [.c (.slice none 0 0), eI 0, eI 0, .c (.slice none 0 0), .c (.slice none 0 0)])), (2, some (.row 3 1 (L.map fun n => [eI n])))], 3⟩) (fun st => L.length - slotN st 40) ⟨_, (weak_cut1 (by (first | ((simp only [envIn, tabIn, envLt, tabLt, AObj.lt, AV.lt, AV.ltL, ruW, ASt.get, aget, ASt.put, ↓reduceIte, reduceCtorEq, Nat.reduceLT, Nat.reduceEqDiff, Nat.reduceAdd, Nat.reduceLeDiff, eq_self, implies_true, List.take_zero, List.foldl_nil]) <;> (repeat' apply And.intro) <;> first | (rw [wrapK (by omega)]; done) | (simp; done) | omega) | fail))), 0, Nat.zero_le _, rfl⟩ ?_
        rintro _ ⟨k, hk, rfl⟩
        by_cases hlt : k < L.length
        · have ef := fold_snoc withoutB s.opn L hlt
          (repeat' (first | simp (maxSteps := 5000000) (implicitDefEqProofs := false) only [ruA, ruB, aEv, aTake, aLoad, aField, aIndex, aLen, aBin, bin2, aUn, un1, aExtract, aConv, ASt.get, aget, ASt.put, aStore, aBox, aAppend, aBuildSlice, aMake, aBuild, aFill, oneParts, allC, aBinS, yv, aCells, oneC, oneCL, treeC, treeL, aLit, aDst, aSrc, appTab, Value.cells, Value.oneCell', envOf, aResL, aOne, ↓reduceIte, reduceCtorEq, forall_const, Nat.reduceLT, Nat.reduceEqDiff, Nat.reduceAdd, Nat.reduceMul, Nat.reduceSub, Nat.reduceLeDiff, Nat.reduceBEq, eq_self, implies_true, ne_eq, dref, dref1, dref2, aExecS, aStoreB, aTakes, aTakeE, aElder, aFrom, aFresh, isLoad, aBuildSlice1, frzs, frz1, ownIds, AV.frz, AV.frzL, frzEnv, AV.shift, AV.shiftL, aFieldV, aSliceW, aSliceO, aSlice, aSliceR, aSliceS, aBd, aMax, frzAVs, frzAV, frzTab, AObj.frz, aMM, aNilS, aMay, aNil, tyA_51, tyS_51, tyZ_51, tyA_41, tyS_41, tyA_67, tyS_67, tyZ_124, tyS_124, tyF_67_0, tyA_4, tyS_4, tyF_51_2, tyA_3, tyS_3, tyF_124_3, tyF_124_0, tyR_49, tyE_49, tyK_49, tyK_3, tyF_51_1, tyF_41_7, tyA_37, tyS_37, tyE_37, tyK_37, tyA_91, tyS_91, tyZ_91, tyF_91_1, row_at, hlt] | (with_reducible refine aIf_split (fun _ => ?_) (fun _ => ?_)) | (with_reducible refine aSel_split (fun _ => ?_) (fun _ => ?_)) | (with_reducible refine aGd_split (fun _ => ?_) (fun _ => ?_))))
          refine callV (without_A _ _) ?_
          (repeat' (first | simp (maxSteps := 5000000) (implicitDefEqProofs := false) only [ruA, ruB, aEv, aTake, aLoad, aField, aIndex, aLen, aBin, bin2, aUn, un1, aExtract, aConv, ASt.get, aget, ASt.put, aStore, aBox, aAppend, aBuildSlice, aMake, aBuild, aFill, oneParts, allC, aBinS, yv, aCells, oneC, oneCL, treeC, treeL, aLit, aDst, aSrc, appTab, Value.cells, Value.oneCell', envOf, aResL, aOne, ↓reduceIte, reduceCtorEq, forall_const, Nat.reduceLT, Nat.reduceEqDiff, Nat.reduceAdd, Nat.reduceMul, Nat.reduceSub, Nat.reduceLeDiff, Nat.reduceBEq, eq_self, implies_true, ne_eq, dref, dref1, dref2, aExecS, aStoreB, aTakes, aTakeE, aElder, aFrom, aFresh, isLoad, aBuildSlice1, frzs, frz1, ownIds, AV.frz, AV.frzL, frzEnv, AV.shift, AV.shiftL, aFieldV, aSliceW, aSliceO, aSlice, aSliceR, aSliceS, aBd, aMax, frzAVs, frzAV, frzTab, AObj.frz, aMM, aNilS, aMay, aNil, tyA_51, tyS_51, tyZ_51, tyA_41, tyS_41, tyA_67, tyS_67, tyZ_124, tyS_124, tyF_67_0, tyA_4, tyS_4, tyF_51_2, tyA_3, tyS_3, tyF_124_3, tyF_124_0, tyR_49, tyE_49, tyK_49, tyK_3, tyF_51_1, tyF_41_7, tyA_37, tyS_37, tyE_37, tyK_37, tyA_91, tyS_91, tyZ_91, tyF_91_1, row_at, hlt] | (with_reducible refine aIf_split (fun _ => ?_) (fun _ => ?_)) | (with_reducible refine aSel_split (fun _ => ?_) (fun _ => ?_)) | (with_reducible refine aGd_split (fun _ => ?_) (fun _ => ?_))))
          exact roundI (weak_cut1 (by (first | ((simp only [envIn, tabIn, envLt, tabLt, AObj.lt, AV.lt, AV.ltL, ruW, ASt.get, aget, ASt.put, ↓reduceIte, reduceCtorEq, Nat.reduceLT, Nat.reduceEqDiff, Nat.reduceAdd, Nat.reduceLeDiff, eq_self, implies_true, ef]) <;> (repeat' apply And.intro) <;> first | (rw [wrapK (by omega)]; done) | (simp; done) | omega) | fail))) ⟨k + 1, by omega, rfl⟩ (by simp only [slotN, ruW, ASt.get, aget, ASt.put, ↓reduceIte, reduceCtorEq, Nat.reduceLT, Nat.reduceEqDiff, Nat.reduceAdd, Nat.reduceLeDiff, eq_self, implies_true]; omega)
        · obtain rfl : k = L.length := by omega
          (repeat' (first | simp (maxSteps := 5000000) (implicitDefEqProofs := false) only [ruA, ruB, aEv, aTake, aLoad, aField, aIndex, aLen, aBin, bin2, aUn, un1, aExtract, aConv, ASt.get, aget, ASt.put, aStore, aBox, aAppend, aBuildSlice, aMake, aBuild, aFill, oneParts, allC, aBinS, yv, aCells, oneC, oneCL, treeC, treeL, aLit, aDst, aSrc, appTab, Value.cells, Value.oneCell', envOf, aResL, aOne, ↓reduceIte, reduceCtorEq, forall_const, Nat.reduceLT, Nat.reduceEqDiff, Nat.reduceAdd, Nat.reduceMul, Nat.reduceSub, Nat.reduceLeDiff, Nat.reduceBEq, eq_self, implies_true, ne_eq, dref, dref1, dref2, aExecS, aStoreB, aTakes, aTakeE, aElder, aFrom, aFresh, isLoad, aBuildSlice1, frzs, frz1, ownIds, AV.frz, AV.frzL, frzEnv, AV.shift, AV.shiftL, aFieldV, aSliceW, aSliceO, aSlice, aSliceR, aSliceS, aBd, aMax, frzAVs, frzAV, frzTab, AObj.frz, aMM, aNilS, aMay, aNil, tyA_51, tyS_51, tyZ_51, tyA_41, tyS_41, tyA_67, tyS_67, tyZ_124, tyS_124, tyF_67_0, tyA_4, tyS_4, tyF_51_2, tyA_3, tyS_3, tyF_124_3, tyF_124_0, tyR_49, tyE_49, tyK_49, tyK_3, tyF_51_1, tyF_41_7, tyA_37, tyS_37, tyE_37, tyK_37, tyA_91, tyS_91, tyZ_91, tyF_91_1, row_at, hlt] | (with_reducible refine aIf_split (fun _ => ?_) (fun _ => ?_)) | (with_reducible refine aSel_split (fun _ => ?_) (fun _ => ?_)) | (with_reducible refine aGd_split (fun _ => ?_) (fun _ => ?_))))
          exact gives_tree (by simp only [AV.ren, AV.renL, List.take_length])
    · rename_i h hx
      refine callV (with_A _ _) ?_
      (repeat' (first | simp (maxSteps := 5000000) (implicitDefEqProofs := false) only [ruA, ruB, aEv, aTake, aLoad, aField, aIndex, aLen, aBin, bin2, aUn, un1, aExtract, aConv, ASt.get, aget, ASt.put, aStore, aBox, aAppend, aBuildSlice, aMake, aBuild, aFill, oneParts, allC, aBinS, yv, aCells, oneC, oneCL, treeC, treeL, aLit, aDst, aSrc, appTab, Value.cells, Value.oneCell', envOf, aResL, aOne, ↓reduceIte, reduceCtorEq, forall_const, Nat.reduceLT, Nat.reduceEqDiff, Nat.reduceAdd, Nat.reduceMul, Nat.reduceSub, Nat.reduceLeDiff, Nat.reduceBEq, eq_self, implies_true, ne_eq, dref, dref1, dref2, aExecS, aStoreB, aTakes, aTakeE, aElder, aFrom, aFresh, isLoad, aBuildSlice1, frzs, frz1, ownIds, AV.frz, AV.frzL, frzEnv, AV.shift, AV.shiftL, aFieldV, aSliceW, aSliceO, aSlice, aSliceR, aSliceS, aBd, aMax, frzAVs, frzAV, frzTab, AObj.frz, aMM, aNilS, aMay, aNil, tyA_51, tyS_51, tyZ_51, tyA_41, tyS_41, tyA_67, tyS_67, tyZ_124, tyS_124, tyF_67_0, tyA_4, tyS_4, tyF_51_2, tyA_3, tyS_3, tyF_124_3, tyF_124_0, tyR_49, tyE_49, tyK_49, tyK_3, tyF_51_1, tyF_41_7, tyA_37, tyS_37, tyE_37, tyK_37, tyA_91, tyS_91, tyZ_91, tyF_91_1] | (with_reducible refine aIf_split (fun _ => ?_) (fun _ => ?_)) | (with_reducible refine aSel_split (fun _ => ?_) (fun _ => ?_)) | (with_reducible refine aGd_split (fun _ => ?_) (fun _ => ?_))))
      have eR : fireM m s (false, xn) = { s with opn := withB s.opn st, don := undo m.miles st s.don m.miles.length } := by
        subst hx
        simp at h
        simp [fireM, he, h]
      subst hx
      rw [eR]
      refine aLoop_of (fun s' => ∃ k : Nat, k ≤ m.miles.length ∧ s' = ⟨77, [(4, .op 0 0 0), (6, .op 1 0 0), (7, .op 2 0 0), (58, .sl 5 (m.miles.map eMl)), (59, eI (m.miles.length : Int)), (60, eI (k : Int))], [(0, some (.box 51 (eSt { s with opn := withB s.opn st, don := undo m.miles st s.don k }))), (1, some (.box 51 [.c (.slice none 0 0), eI 0, eI 0, .c (.slice none 0 0), .c (.slice none 0 0)])), (2, some (.box 124 [eI st, eI ev, sInsts cond, eI mi]))], 3⟩) (fun st => m.miles.length - slotN st 60) ⟨_, (weak_ren1 [1, 3, 4] ⟨(by decide), (by (first | ((simp only [envInR, tabInR, envLt, tabLt, AObj.lt, AV.lt, AV.ltL, AV.ren, AV.renL, AObj.ren, List.getD_cons_zero, List.getD_cons_succ, List.length_cons, List.length_nil, ruW, ASt.get, aget, ASt.put, ↓reduceIte, reduceCtorEq, Nat.reduceLT, Nat.reduceEqDiff, Nat.reduceAdd, Nat.reduceLeDiff, eq_self, implies_true, undo]) <;> (repeat' apply And.intro) <;> first | (rw [wrapK (by omega)]; done) | (simp; done) | omega) | fail))⟩), 0, Nat.zero_le _, rfl⟩ ?_
      rintro _ ⟨k, hk, rfl⟩
      by_cases hlt : k < m.miles.length
      · (repeat' (first | simp (maxSteps := 5000000) (implicitDefEqProofs := false) only [ruA, ruB, aEv, aTake, aLoad, aField, aIndex, aLen, aBin, bin2, aUn, un1, aExtract, aConv, ASt.get, aget, ASt.put, aStore, aBox, aAppend, aBuildSlice, aMake, aBuild, aFill, oneParts, allC, aBinS, yv, aCells, oneC, oneCL, treeC, treeL, aLit, aDst, aSrc, appTab, Value.cells, Value.oneCell', envOf, aResL, aOne, ↓reduceIte, reduceCtorEq, forall_const, Nat.reduceLT, Nat.reduceEqDiff, Nat.reduceAdd, Nat.reduceMul, Nat.reduceSub, Nat.reduceLeDiff, Nat.reduceBEq, eq_self, implies_true, ne_eq, dref, dref1, dref2, aExecS, aStoreB, aTakes, aTakeE, aElder, aFrom, aFresh, isLoad, aBuildSlice1, frzs, frz1, ownIds, AV.frz, AV.frzL, frzEnv, AV.shift, AV.shiftL, aFieldV, aSliceW, aSliceO, aSlice, aSliceR, aSliceS, aBd, aMax, frzAVs, frzAV, frzTab, AObj.frz, aMM, aNilS, aMay, aNil, tyA_51, tyS_51, tyZ_51, tyA_41, tyS_41, tyA_67, tyS_67, tyZ_124, tyS_124, tyF_67_0, tyA_4, tyS_4, tyF_51_2, tyA_3, tyS_3, tyF_124_3, tyF_124_0, tyR_49, tyE_49, tyK_49, tyK_3, tyF_51_1, tyF_41_7, tyA_37, tyS_37, tyE_37, tyK_37, tyA_91, tyS_91, tyZ_91, tyF_91_1, row_at, hlt] | (with_reducible refine aIf_split (fun _ => ?_) (fun _ => ?_)) | (with_reducible refine aSel_split (fun _ => ?_) (fun _ => ?_)) | (with_reducible refine aGd_split (fun _ => ?_) (fun _ => ?_))))
        · rename_i hq
          have eu : undo m.miles st s.don (k + 1) = withoutB (undo m.miles st s.don k) (k : Int) := by
            have : m.miles[k].stage = st := by simpa using hq
            simp [undo, hlt, this]
          refine callV (without_A _ _) ?_
          (repeat' (first | simp (maxSteps := 5000000) (implicitDefEqProofs := false) only [ruA, ruB, aEv, aTake, aLoad, aField, aIndex, aLen, aBin, bin2, aUn, un1, aExtract, aConv, ASt.get, aget, ASt.put, aStore, aBox, aAppend, aBuildSlice, aMake, aBuild, aFill, oneParts, allC, aBinS, yv, aCells, oneC, oneCL, treeC, treeL, aLit, aDst, aSrc, appTab, Value.cells, Value.oneCell', envOf, aResL, aOne, ↓reduceIte, reduceCtorEq, forall_const, Nat.reduceLT, Nat.reduceEqDiff, Nat.reduceAdd, Nat.reduceMul, Nat.reduceSub, Nat.reduceLeDiff, Nat.reduceBEq, eq_self, implies_true, ne_eq, dref, dref1, dref2, aExecS, aStoreB, aTakes, aTakeE, aElder, aFrom, aFresh, isLoad, aBuildSlice1, frzs, frz1, ownIds, AV.frz, AV.frzL, frzEnv, AV.shift, AV.shiftL, aFieldV, aSliceW, aSliceO, aSlice, aSliceR, aSliceS, aBd, aMax, frzAVs, frzAV, frzTab, AObj.frz, aMM, aNilS, aMay, aNil, tyA_51, tyS_51, tyZ_51, tyA_41, tyS_41, tyA_67, tyS_67, tyZ_124, tyS_124, tyF_67_0, tyA_4, tyS_4, tyF_51_2, tyA_3, tyS_3, tyF_124_3, tyF_124_0, tyR_49, tyE_49, tyK_49, tyK_3, tyF_51_1, tyF_41_7, tyA_37, tyS_37, tyE_37, tyK_37, tyA_91, tyS_91, tyZ_91, tyF_91_1, row_at, hlt] | (with_reducible refine aIf_split (fun _ => ?_) (fun _ => ?_)) | (with_reducible refine aSel_split (fun _ => ?_) (fun _ => ?_)) | (with_reducible refine aGd_split (fun _ => ?_) (fun _ => ?_))))
          exact roundI (weak_cut1 (by (first | ((simp only [envIn, tabIn, envLt, tabLt, AObj.lt, AV.lt, AV.ltL, ruW, ASt.get, aget, ASt.put, ↓reduceIte, reduceCtorEq, Nat.reduceLT, Nat.reduceEqDiff, Nat.reduceAdd, Nat.reduceLeDiff, eq_self, implies_true, eu]) <;> (repeat' apply And.intro) <;> first | (rw [wrapK (by omega)]; done) | (simp; done) | omega) | fail))) ⟨k + 1, by omega, rfl⟩ (by simp only [slotN, ruW, ASt.get, aget, ASt.put, ↓reduceIte, reduceCtorEq, Nat.reduceLT, Nat.reduceEqDiff, Nat.reduceAdd, Nat.reduceLeDiff, eq_self, implies_true]; omega)
        · rename_i hq
          have eu : undo m.miles st s.don (k + 1) = undo m.miles st s.don k := by
            have : m.miles[k].stage ≠ st := by simpa using hq
            simp [undo, hlt, this]
          exact roundI (weak_cut1 (by (first | ((simp only [envIn, tabIn, envLt, tabLt, AObj.lt, AV.lt, AV.ltL, ruW, ASt.get, aget, ASt.put, ↓reduceIte, reduceCtorEq, Nat.reduceLT, Nat.reduceEqDiff, Nat.reduceAdd, Nat.reduceLeDiff, eq_self, implies_true, eu]) <;> (repeat' apply And.intro) <;> first | (rw [wrapK (by omega)]; done) | (simp; done) | omega) | fail))) ⟨k + 1, by omega, rfl⟩ (by simp only [slotN, ruW, ASt.get, aget, ASt.put, ↓reduceIte, reduceCtorEq, Nat.reduceLT, Nat.reduceEqDiff, Nat.reduceAdd, Nat.reduceLeDiff, eq_self, implies_true]; omega)
      · obtain rfl : k = m.miles.length := by omega
        (repeat' (first | simp (maxSteps := 5000000) (implicitDefEqProofs := false) only [ruA, ruB, aEv, aTake, aLoad, aField, aIndex, aLen, aBin, bin2, aUn, un1, aExtract, aConv, ASt.get, aget, ASt.put, aStore, aBox, aAppend, aBuildSlice, aMake, aBuild, aFill, oneParts, allC, aBinS, yv, aCells, oneC, oneCL, treeC, treeL, aLit, aDst, aSrc, appTab, Value.cells, Value.oneCell', envOf, aResL, aOne, ↓reduceIte, reduceCtorEq, forall_const, Nat.reduceLT, Nat.reduceEqDiff, Nat.reduceAdd, Nat.reduceMul, Nat.reduceSub, Nat.reduceLeDiff, Nat.reduceBEq, eq_self, implies_true, ne_eq, dref, dref1, dref2, aExecS, aStoreB, aTakes, aTakeE, aElder, aFrom, aFresh, isLoad, aBuildSlice1, frzs, frz1, ownIds, AV.frz, AV.frzL, frzEnv, AV.shift, AV.shiftL, aFieldV, aSliceW, aSliceO, aSlice, aSliceR, aSliceS, aBd, aMax, frzAVs, frzAV, frzTab, AObj.frz, aMM, aNilS, aMay, aNil, tyA_51, tyS_51, tyZ_51, tyA_41, tyS_41, tyA_67, tyS_67, tyZ_124, tyS_124, tyF_67_0, tyA_4, tyS_4, tyF_51_2, tyA_3, tyS_3, tyF_124_3, tyF_124_0, tyR_49, tyE_49, tyK_49, tyK_3, tyF_51_1, tyF_41_7, tyA_37, tyS_37, tyE_37, tyK_37, tyA_91, tyS_91, tyZ_91, tyF_91_1, row_at, hlt] | (with_reducible refine aIf_split (fun _ => ?_) (fun _ => ?_)) | (with_reducible refine aSel_split (fun _ => ?_) (fun _ => ?_)) | (with_reducible refine aGd_split (fun _ => ?_) (fun _ => ?_))))
        exact gives_tree (by simp only [AV.ren, AV.renL])
end
section
open Go.RowKit

def turnM (m : Mod) (event : Int) (s : St) (x : Bool × Int) : St := if firesM m s x event = true then fireM m s x else s
def passM (m : Mod) (event : Int) (s : St) (k : Nat) : St := (m.order.take k).foldl (turnM m event) s
theorem fireM_vals (m : Mod) (s : St) (x : Bool × Int) : (fireM m s x).vals = s.vals ∧ (fireM m s x).did = s.did ∧ (fireM m s x).cnt = s.cnt := by
  unfold fireM
  split
  · split
    · split <;> simp
    · simp
  · simp
theorem turnM_vals (m : Mod) (event : Int) (s : St) (x : Bool × Int) : (turnM m event s x).vals = s.vals ∧ (turnM m event s x).did = s.did ∧ (turnM m event s x).cnt = s.cnt := by
  unfold turnM
  split
  · exact fireM_vals m s x
  · simp
theorem fold_vals (m : Mod) (event : Int) : ∀ (l : List (Bool × Int)) (s : St), (l.foldl (turnM m event) s).vals = s.vals ∧ (l.foldl (turnM m event) s).did = s.did ∧ (l.foldl (turnM m event) s).cnt = s.cnt
  | [], s => by simp
  | x :: l, s => by
    have h := fold_vals m event l (turnM m event s x)
    have h2 := turnM_vals m event s x
    simp [h, h2]
set_option maxRecDepth 100000 in
set_option maxHeartbeats 4000000 in
theorem pass_A (m : Mod) (s : St) (event : Int) (hf : Fit m) (hc : condOk m) (hp : ∀ p ∈ m.stages, ok64 p.2) (hs : ∀ x ∈ s.vals, ok64 x) : ADet Tryz.prog 25 [.agg (eMod m), .agg (eSt s), eI event] ⟨.agg (eSt (passM m event s m.order.length)), [], 0⟩ := by
  refine adet_of_code mixedT Tryz.func25 rfl (by decide) Tryz.ntmps25 Tryz.results25 rfl (⟨fun id o h => (by cases h), ⟨trivial, trivial, trivial, trivial, trivial, trivial⟩⟩) ?_
  (repeat' (first | simp (maxSteps := 5000000) (implicitDefEqProofs := false) only [ruA, ruB, aEv, aTake, aLoad, aField, aIndex, aLen, aBin, bin2, aUn, un1, aExtract, aConv, ASt.get, aget, ASt.put, aStore, aBox, aAppend, aBuildSlice, aMake, aBuild, aFill, oneParts, allC, aBinS, yv, aCells, oneC, oneCL, treeC, treeL, aLit, aDst, aSrc, appTab, Value.cells, Value.oneCell', envOf, aResL, aOne, ↓reduceIte, reduceCtorEq, forall_const, Nat.reduceLT, Nat.reduceEqDiff, Nat.reduceAdd, Nat.reduceMul, Nat.reduceSub, Nat.reduceLeDiff, Nat.reduceBEq, eq_self, implies_true, ne_eq, dref, dref1, dref2, aExecS, aStoreB, aTakes, aTakeE, aElder, aFrom, aFresh, isLoad, aBuildSlice1, frzs, frz1, ownIds, AV.frz, AV.frzL, frzEnv, AV.shift, AV.shiftL, aFieldV, aSliceW, aSliceO, aSlice, aSliceR, aSliceS, aBd, aMax, frzAVs, frzAV, frzTab, AObj.frz, aMM, aNilS, aMay, aNil, tyA_51, tyS_51, tyZ_51, tyF_41_9, tyA_39, tyS_39, tyE_39, tyK_39, tyK_3, tyA_67, tyS_67, tyZ_67, tyA_41, tyS_41] | (with_reducible refine aIf_split (fun _ => ?_) (fun _ => ?_)) | (with_reducible refine aSel_split (fun _ => ?_) (fun _ => ?_)) | (with_reducible refine aGd_split (fun _ => ?_) (fun _ => ?_))))
  have hol : m.order.length ≤ 40 := hf.sizes.2.2.2.2.2.2.2.2.1
  have e0 : passM m event s 0 = s := rfl
  refine aLoop_of (fun s' => ∃ k : Nat, k ≤ m.order.length ∧ s' = ⟨31, [(2, eI event), (3, .op 0 0 0), (4, .op 1 0 0), (6, .op 2 0 0), (11, eI (m.order.length : Int)), (12, eI (k : Int))], [(0, some (.box 41 (eMod m))), (1, some (.box 51 (eSt (passM m event s k)))), (2, some (.box 51 [.c (.slice none 0 0), eI 0, eI 0, .c (.slice none 0 0), .c (.slice none 0 0)]))], 3⟩) (fun st => m.order.length - slotN st 12) ⟨_, (weak_cut1 (by (first | ((simp only [envIn, tabIn, envLt, tabLt, AObj.lt, AV.lt, AV.ltL, ruW, ASt.get, aget, ASt.put, ↓reduceIte, reduceCtorEq, Nat.reduceLT, Nat.reduceEqDiff, Nat.reduceAdd, Nat.reduceLeDiff, eq_self, implies_true, e0]) <;> (repeat' apply And.intro) <;> first | (rw [wrapK (by omega)]; done) | (simp; done) | omega) | fail))), 0, Nat.zero_le _, rfl⟩ ?_
  rintro _ ⟨k, hk, rfl⟩
  by_cases hlt : k < m.order.length
  · have ef : passM m event s (k + 1) = turnM m event (passM m event s k) m.order[k] := fold_snoc _ _ _ hlt
    have hv := fold_vals m event (m.order.take k) s
    have hs' : ∀ x ∈ (passM m event s k).vals, ok64 x := by
      unfold passM
      rw [hv.1]
      exact hs
    (repeat' (first | simp (maxSteps := 5000000) (implicitDefEqProofs := false) only [ruA, ruB, aEv, aTake, aLoad, aField, aIndex, aLen, aBin, bin2, aUn, un1, aExtract, aConv, ASt.get, aget, ASt.put, aStore, aBox, aAppend, aBuildSlice, aMake, aBuild, aFill, oneParts, allC, aBinS, yv, aCells, oneC, oneCL, treeC, treeL, aLit, aDst, aSrc, appTab, Value.cells, Value.oneCell', envOf, aResL, aOne, ↓reduceIte, reduceCtorEq, forall_const, Nat.reduceLT, Nat.reduceEqDiff, Nat.reduceAdd, Nat.reduceMul, Nat.reduceSub, Nat.reduceLeDiff, Nat.reduceBEq, eq_self, implies_true, ne_eq, dref, dref1, dref2, aExecS, aStoreB, aTakes, aTakeE, aElder, aFrom, aFresh, isLoad, aBuildSlice1, frzs, frz1, ownIds, AV.frz, AV.frzL, frzEnv, AV.shift, AV.shiftL, aFieldV, aSliceW, aSliceO, aSlice, aSliceR, aSliceS, aBd, aMax, frzAVs, frzAV, frzTab, AObj.frz, aMM, aNilS, aMay, aNil, tyA_51, tyS_51, tyZ_51, tyF_41_9, tyA_39, tyS_39, tyE_39, tyK_39, tyK_3, tyA_67, tyS_67, tyZ_67, tyA_41, tyS_41, row_at, hlt] | (with_reducible refine aIf_split (fun _ => ?_) (fun _ => ?_)) | (with_reducible refine aSel_split (fun _ => ?_) (fun _ => ?_)) | (with_reducible refine aGd_split (fun _ => ?_) (fun _ => ?_))))
    generalize passM m event s k = t at ef hs' ⊢
    generalize m.order[k] = x at ef ⊢
    refine callV (fires_A m t x.1 x.2 event hf hc hs') ?_
    (repeat' (first | simp (maxSteps := 5000000) (implicitDefEqProofs := false) only [ruA, ruB, aEv, aTake, aLoad, aField, aIndex, aLen, aBin, bin2, aUn, un1, aExtract, aConv, ASt.get, aget, ASt.put, aStore, aBox, aAppend, aBuildSlice, aMake, aBuild, aFill, oneParts, allC, aBinS, yv, aCells, oneC, oneCL, treeC, treeL, aLit, aDst, aSrc, appTab, Value.cells, Value.oneCell', envOf, aResL, aOne, ↓reduceIte, reduceCtorEq, forall_const, Nat.reduceLT, Nat.reduceEqDiff, Nat.reduceAdd, Nat.reduceMul, Nat.reduceSub, Nat.reduceLeDiff, Nat.reduceBEq, eq_self, implies_true, ne_eq, dref, dref1, dref2, aExecS, aStoreB, aTakes, aTakeE, aElder, aFrom, aFresh, isLoad, aBuildSlice1, frzs, frz1, ownIds, AV.frz, AV.frzL, frzEnv, AV.shift, AV.shiftL, aFieldV, aSliceW, aSliceO, aSlice, aSliceR, aSliceS, aBd, aMax, frzAVs, frzAV, frzTab, AObj.frz, aMM, aNilS, aMay, aNil, tyA_51, tyS_51, tyZ_51, tyF_41_9, tyA_39, tyS_39, tyE_39, tyK_39, tyK_3, tyA_67, tyS_67, tyZ_67, tyA_41, tyS_41] | (with_reducible refine aIf_split (fun _ => ?_) (fun _ => ?_)) | (with_reducible refine aSel_split (fun _ => ?_) (fun _ => ?_)) | (with_reducible refine aGd_split (fun _ => ?_) (fun _ => ?_))))
    · rename_i h
      have e1 : turnM m event t x = fireM m t x := if_pos h
      rw [e1] at ef
      refine callT (fire_A m t x.1 x.2 hf hp) (.inl (by simp [roL, roA, treeL, treeC])) ?_
      (repeat' (first | simp (maxSteps := 5000000) (implicitDefEqProofs := false) only [ruA, ruB, aEv, aTake, aLoad, aField, aIndex, aLen, aBin, bin2, aUn, un1, aExtract, aConv, ASt.get, aget, ASt.put, aStore, aBox, aAppend, aBuildSlice, aMake, aBuild, aFill, oneParts, allC, aBinS, yv, aCells, oneC, oneCL, treeC, treeL, aLit, aDst, aSrc, appTab, Value.cells, Value.oneCell', envOf, aResL, aOne, ↓reduceIte, reduceCtorEq, forall_const, Nat.reduceLT, Nat.reduceEqDiff, Nat.reduceAdd, Nat.reduceMul, Nat.reduceSub, Nat.reduceLeDiff, Nat.reduceBEq, eq_self, implies_true, ne_eq, dref, dref1, dref2, aExecS, aStoreB, aTakes, aTakeE, aElder, aFrom, aFresh, isLoad, aBuildSlice1, frzs, frz1, ownIds, AV.frz, AV.frzL, frzEnv, AV.shift, AV.shiftL, aFieldV, aSliceW, aSliceO, aSlice, aSliceR, aSliceS, aBd, aMax, frzAVs, frzAV, frzTab, AObj.frz, aMM, aNilS, aMay, aNil, tyA_51, tyS_51, tyZ_51, tyF_41_9, tyA_39, tyS_39, tyE_39, tyK_39, tyK_3, tyA_67, tyS_67, tyZ_67, tyA_41, tyS_41] | (with_reducible refine aIf_split (fun _ => ?_) (fun _ => ?_)) | (with_reducible refine aSel_split (fun _ => ?_) (fun _ => ?_)) | (with_reducible refine aGd_split (fun _ => ?_) (fun _ => ?_))))
      exact roundI (weak_cut1 (by (first | ((simp only [envIn, tabIn, envLt, tabLt, AObj.lt, AV.lt, AV.ltL, ruW, ASt.get, aget, ASt.put, ↓reduceIte, reduceCtorEq, Nat.reduceLT, Nat.reduceEqDiff, Nat.reduceAdd, Nat.reduceLeDiff, eq_self, implies_true, ef]) <;> (repeat' apply And.intro) <;> first | (rw [wrapK (by omega)]; done) | (simp; done) | omega) | fail))) ⟨k + 1, by omega, rfl⟩ (by simp only [slotN, ruW, ASt.get, aget, ASt.put, ↓reduceIte, reduceCtorEq, Nat.reduceLT, Nat.reduceEqDiff, Nat.reduceAdd, Nat.reduceLeDiff, eq_self, implies_true]; omega)
    · rename_i h
      have e1 : turnM m event t x = t := if_neg (by rw [show (x : Bool × Int) = (x.1, x.2) from rfl, h]; simp)
      rw [e1] at ef
      exact roundI (weak_cut1 (by (first | ((simp only [envIn, tabIn, envLt, tabLt, AObj.lt, AV.lt, AV.ltL, ruW, ASt.get, aget, ASt.put, ↓reduceIte, reduceCtorEq, Nat.reduceLT, Nat.reduceEqDiff, Nat.reduceAdd, Nat.reduceLeDiff, eq_self, implies_true, ef]) <;> (repeat' apply And.intro) <;> first | (rw [wrapK (by omega)]; done) | (simp; done) | omega) | fail))) ⟨k + 1, by omega, rfl⟩ (by simp only [slotN, ruW, ASt.get, aget, ASt.put, ↓reduceIte, reduceCtorEq, Nat.reduceLT, Nat.reduceEqDiff, Nat.reduceAdd, Nat.reduceLeDiff, eq_self, implies_true]; omega)
  · obtain rfl : k = m.order.length := by omega
    (repeat' (first | simp (maxSteps := 5000000) (implicitDefEqProofs := false) only [ruA, ruB, aEv, aTake, aLoad, aField, aIndex, aLen, aBin, bin2, aUn, un1, aExtract, aConv, ASt.get, aget, ASt.put, aStore, aBox, aAppend, aBuildSlice, aMake, aBuild, aFill, oneParts, allC, aBinS, yv, aCells, oneC, oneCL, treeC, treeL, aLit, aDst, aSrc, appTab, Value.cells, Value.oneCell', envOf, aResL, aOne, ↓reduceIte, reduceCtorEq, forall_const, Nat.reduceLT, Nat.reduceEqDiff, Nat.reduceAdd, Nat.reduceMul, Nat.reduceSub, Nat.reduceLeDiff, Nat.reduceBEq, eq_self, implies_true, ne_eq, dref, dref1, dref2, aExecS, aStoreB, aTakes, aTakeE, aElder, aFrom, aFresh, isLoad, aBuildSlice1, frzs, frz1, ownIds, AV.frz, AV.frzL, frzEnv, AV.shift, AV.shiftL, aFieldV, aSliceW, aSliceO, aSlice, aSliceR, aSliceS, aBd, aMax, frzAVs, frzAV, frzTab, AObj.frz, aMM, aNilS, aMay, aNil, tyA_51, tyS_51, tyZ_51, tyF_41_9, tyA_39, tyS_39, tyE_39, tyK_39, tyK_3, tyA_67, tyS_67, tyZ_67, tyA_41, tyS_41, row_at, hlt] | (with_reducible refine aIf_split (fun _ => ?_) (fun _ => ?_)) | (with_reducible refine aSel_split (fun _ => ?_) (fun _ => ?_)) | (with_reducible refine aGd_split (fun _ => ?_) (fun _ => ?_))))
    exact gives_tree (by simp only [AV.ren, AV.renL])
end
section
open Go.RowKit
theorem stOk (s : St) : (⟨.agg (eSt s), [], 0⟩ : Res).Ok := ⟨fun id o h => (by cases h), ⟨trivial, trivial, trivial, trivial, trivial, trivial⟩⟩
end
section
open Go.RowKit
def allN (f : Nat → Bool) : Nat → Bool
  | 0 => true
  | n + 1 => allN f n && f n
def anyN (f : Nat → Bool) : Nat → Bool
  | 0 => false
  | n + 1 => anyN f n || f n
theorem allN_iff (f : Nat → Bool) : ∀ n, allN f n = true ↔ ∀ i, i < n → f i = true
  | 0 => by simp [allN]
  | n + 1 => by
    rw [allN, Bool.and_eq_true, allN_iff f n]
    constructor
    · intro ⟨h1, h2⟩ i hi
      rcases Nat.lt_or_ge i n with h | h
      · exact h1 i h
      · obtain rfl : i = n := by omega
        exact h2
    · exact fun h => ⟨fun i hi => h i (by omega), h n (by omega)⟩
theorem anyN_iff (f : Nat → Bool) : ∀ n, anyN f n = true ↔ ∃ i, i < n ∧ f i = true
  | 0 => by simp [anyN]
  | n + 1 => by
    rw [anyN, Bool.or_eq_true, anyN_iff f n]
    constructor
    · rintro (⟨i, h1, h2⟩ | h)
      · exact ⟨i, by omega, h2⟩
      · exact ⟨n, by omega, h⟩
    · rintro ⟨i, h1, h2⟩
      rcases Nat.lt_or_ge i n with h | h
      · exact .inl ⟨i, h, h2⟩
      · obtain rfl : i = n := by omega
        exact .inr h2
theorem allN_no {f : Nat → Bool} {k n : Nat} (hk : k < n) (h : f k = false) : allN f n = false := by
  rw [Bool.eq_false_iff]
  intro h2
  rw [(allN_iff f n).1 h2 k hk] at h
  cases h
theorem anyN_yes {f : Nat → Bool} {k n : Nat} (hk : k < n) (h : f k = true) : anyN f n = true := (anyN_iff f n).2 ⟨k, hk, h⟩
theorem allN_step {f : Nat → Bool} {k : Nat} (h1 : allN f k = true) (h : f k = true) : allN f (k + 1) = true := by simp [allN, h1, h]
theorem anyN_step {f : Nat → Bool} {k : Nat} (h1 : anyN f k = false) (h : f k = false) : anyN f (k + 1) = false := by simp [anyN, h1, h]
/-- the set of so many -/
def firstI (n : Int) : Int := 2 ^ (max 0 (min n 31)).toNat - 1
theorem first_A (n : Int) : ADet Tryz.prog 74 [eI n] (val (.int .i64 (firstI n))) := by
  refine adet_of_code mixedT Tryz.func74 rfl (by decide) Tryz.ntmps74 Tryz.results74 rfl (val_ok _) ?_
  have h0 : ¬ (max 0 (min n 31) < 0) := by omega
  have h2 : (max 0 (min n 31)).toNat ≤ 31 := by omega
  have h1 : min (max 0 (min n 31)).toNat IntKind.i64.bits = (max 0 (min n 31)).toNat := by
    have : IntKind.i64.bits = 64 := rfl
    omega
  have hp : (1 : Int) ≤ 2 ^ (max 0 (min n 31)).toNat ∧ (2 : Int) ^ (max 0 (min n 31)).toNat ≤ 2147483648 := by
    have h3 : 2 ^ (max 0 (min n 31)).toNat ≤ 2 ^ 31 := Nat.pow_le_pow_right (by omega) h2
    have h4 : 1 ≤ 2 ^ (max 0 (min n 31)).toNat := Nat.one_le_two_pow
    have e : (2 : Int) ^ (max 0 (min n 31)).toNat = ((2 ^ (max 0 (min n 31)).toNat : Nat) : Int) := by simp
    rw [e]
    omega
  have w1 : IntKind.i64.wrap (1 * 2 ^ (max 0 (min n 31)).toNat) = 2 ^ (max 0 (min n 31)).toNat := by
    rw [Int.one_mul]
    exact wrap_in (by omega) (by omega)
  have w2 : IntKind.i64.wrap (2 ^ (max 0 (min n 31)).toNat - 1) = 2 ^ (max 0 (min n 31)).toNat - 1 := wrap_in (by omega) (by omega)
  unfold firstI
  (repeat' (first | simp (maxSteps := 5000000) (implicitDefEqProofs := false) only [ruA, ruB, aEv, aTake, aLoad, aField, aIndex, aLen, aBin, bin2, aUn, un1, aExtract, aConv, ASt.get, aget, ASt.put, aStore, aBox, aAppend, aBuildSlice, aMake, aBuild, aFill, oneParts, allC, aBinS, yv, aCells, oneC, oneCL, treeC, treeL, aLit, aDst, aSrc, appTab, Value.cells, Value.oneCell', envOf, aResL, aOne, ↓reduceIte, reduceCtorEq, forall_const, Nat.reduceLT, Nat.reduceEqDiff, Nat.reduceAdd, Nat.reduceMul, Nat.reduceSub, Nat.reduceLeDiff, Nat.reduceBEq, eq_self, implies_true, ne_eq, dref, dref1, dref2, aExecS, aStoreB, aTakes, aTakeE, aElder, aFrom, aFresh, isLoad, aBuildSlice1, frzs, frz1, ownIds, AV.frz, AV.frzL, frzEnv, AV.shift, AV.shiftL, aFieldV, aSliceW, aSliceO, aSlice, aSliceR, aSliceS, aBd, aMax, frzAVs, frzAV, frzTab, AObj.frz, aMM, aNilS, aMay, aNil, tyK_3, h0, h1, w1, w2] | (with_reducible refine aIf_split (fun _ => ?_) (fun _ => ?_)) | (with_reducible refine aSel_split (fun _ => ?_) (fun _ => ?_)) | (with_reducible refine aGd_split (fun _ => ?_) (fun _ => ?_))))
def ofB (s n : Int) : Bool := decide (0 ≤ s) && decide (s ≤ firstI n)
theorem of_A (s n : Int) : ADet Tryz.prog 51 [eI s, eI n] (val (.bool (ofB s n))) := by
  refine adet_of_code mixedT Tryz.func51 rfl (by decide) Tryz.ntmps51 Tryz.results51 rfl (val_ok _) ?_
  unfold ofB
  (repeat' (first | simp (maxSteps := 5000000) (implicitDefEqProofs := false) only [ruA, ruB, aEv, aTake, aLoad, aField, aIndex, aLen, aBin, bin2, aUn, un1, aExtract, aConv, ASt.get, aget, ASt.put, aStore, aBox, aAppend, aBuildSlice, aMake, aBuild, aFill, oneParts, allC, aBinS, yv, aCells, oneC, oneCL, treeC, treeL, aLit, aDst, aSrc, appTab, Value.cells, Value.oneCell', envOf, aResL, aOne, ↓reduceIte, reduceCtorEq, forall_const, Nat.reduceLT, Nat.reduceEqDiff, Nat.reduceAdd, Nat.reduceMul, Nat.reduceSub, Nat.reduceLeDiff, Nat.reduceBEq, eq_self, implies_true, ne_eq, dref, dref1, dref2, aExecS, aStoreB, aTakes, aTakeE, aElder, aFrom, aFresh, isLoad, aBuildSlice1, frzs, frz1, ownIds, AV.frz, AV.frzL, frzEnv, AV.shift, AV.shiftL, aFieldV, aSliceW, aSliceO, aSlice, aSliceR, aSliceS, aBd, aMax, frzAVs, frzAV, frzTab, AObj.frz, aMM, aNilS, aMay, aNil, tyK_3] | (with_reducible refine aIf_split (fun _ => ?_) (fun _ => ?_)) | (with_reducible refine aSel_split (fun _ => ?_) (fun _ => ?_)) | (with_reducible refine aGd_split (fun _ => ?_) (fun _ => ?_)) | (with_reducible refine aDraw_quiet (by kernel_rfl) ?_) | ((with_reducible apply callV (g := 74)); exact (first_A _)) | ((with_reducible apply callD (g := 74)); exact (first_A _))))
  all_goals simp [*]
def chkAt (m : Mod) (s : St) (i : Nat) : Bool := ofB (s.did.getD i 0) m.users.length && decide (0 ≤ s.cnt.getD i 0) && decide (s.cnt.getD i 0 ≤ (m.events[i]?.map (·.times)).getD 0)
def chkS (m : Mod) (s : St) : Bool := decide (s.vals.length = m.attrs.length) && decide (s.did.length = m.events.length) && decide (s.cnt.length = m.events.length) && ofB s.opn m.stages.length && ofB s.don m.miles.length && allN (chkAt m s) m.events.length
set_option maxRecDepth 100000 in
set_option maxHeartbeats 8000000 in
theorem checkS_A (m : Mod) (s : St) (hl : m.events.length ≤ 1000000) : ADet Tryz.prog 27 [.agg (eMod m), .agg (eSt s)] (val (.bool (chkS m s))) := by
  refine adet_of_code mixedT Tryz.func27 rfl (by decide) Tryz.ntmps27 Tryz.results27 rfl (val_ok _) ?_
  (repeat' (first | simp (maxSteps := 5000000) (implicitDefEqProofs := false) only [ruA, ruB, aEv, aTake, aLoad, aField, aIndex, aLen, aBin, bin2, aUn, un1, aExtract, aConv, ASt.get, aget, ASt.put, aStore, aBox, aAppend, aBuildSlice, aMake, aBuild, aFill, oneParts, allC, aBinS, yv, aCells, oneC, oneCL, treeC, treeL, aLit, aDst, aSrc, appTab, Value.cells, Value.oneCell', envOf, aResL, aOne, ↓reduceIte, reduceCtorEq, forall_const, Nat.reduceLT, Nat.reduceEqDiff, Nat.reduceAdd, Nat.reduceMul, Nat.reduceSub, Nat.reduceLeDiff, Nat.reduceBEq, eq_self, implies_true, ne_eq, dref, dref1, dref2, aExecS, aStoreB, aTakes, aTakeE, aElder, aFrom, aFresh, isLoad, aBuildSlice1, frzs, frz1, ownIds, AV.frz, AV.frzL, frzEnv, AV.shift, AV.shiftL, aFieldV, aSliceW, aSliceO, aSlice, aSliceR, aSliceS, aBd, aMax, frzAVs, frzAV, frzTab, AObj.frz, aMM, aNilS, aMay, aNil, tyF_41_5, tyA_35, tyS_35, tyE_35, tyK_35, tyF_51_0, tyA_32, tyS_32, tyE_32, tyK_32, tyF_41_0, tyA_31, tyS_31, tyE_31, tyK_31, tyK_3, tyF_51_3, tyA_49, tyS_49, tyE_49, tyK_49, tyF_51_4, tyF_51_1, tyA_3, tyS_3, tyF_41_4, tyA_34, tyS_34, tyE_34, tyK_34, tyF_51_2, tyF_41_7, tyA_37, tyS_37, tyE_37, tyK_37, tyA_71, tyS_71, tyZ_71, tyF_41_2, tyF_71_4] | (with_reducible refine aIf_split (fun _ => ?_) (fun _ => ?_)) | (with_reducible refine aSel_split (fun _ => ?_) (fun _ => ?_)) | (with_reducible refine aGd_split (fun _ => ?_) (fun _ => ?_)) | (with_reducible refine aDraw_quiet (by kernel_rfl) ?_) | ((with_reducible apply callV (g := 51)); exact (of_A _ _)) | ((with_reducible apply callD (g := 51)); exact (of_A _ _))))
  all_goals first
    | (symm; unfold chkS; grind)
    | skip
  rename_i h1 h2 h3 h4 h5
  have h2 : s.did.length = m.events.length := by simp at h2; omega
  have h3 : s.cnt.length = m.events.length := by simp at h3; omega
  have hall : chkS m s = allN (chkAt m s) m.events.length := by unfold chkS; grind
  rw [hall]
  refine aLoop_of (fun st => ∃ k : Nat, k ≤ m.events.length ∧ allN (chkAt m s) k = true ∧ st = ⟨87, [(2, .op 0 0 0), (3, .op 1 0 0), (51, .sl 5 (m.events.map eEv)), (52, eI (m.events.length : Int)), (53, eI (k : Int))], [(0, some (.box 41 (eMod m))), (1, some (.box 51 (eSt s)))], 2⟩) (fun st => m.events.length - slotN st 53) ⟨_, (weak_cut1 (by (first | ((simp only [envIn, tabIn, envLt, tabLt, AObj.lt, AV.lt, AV.ltL, ruW, ASt.get, aget, ASt.put, ↓reduceIte, reduceCtorEq, Nat.reduceLT, Nat.reduceEqDiff, Nat.reduceAdd, Nat.reduceLeDiff, eq_self, implies_true]) <;> (repeat' apply And.intro) <;> first | (rw [wrapK (by omega)]; done) | (simp; done) | omega) | fail))), 0, Nat.zero_le _, rfl, rfl⟩ ?_
  rintro _ ⟨k, hk, hI, rfl⟩
  by_cases hlt : k < m.events.length
  · have hd : k < s.did.length := by omega
    have hc : k < s.cnt.length := by omega
    have eF : chkAt m s k = (ofB s.did[k] m.users.length && decide (0 ≤ s.cnt[k]) && decide (s.cnt[k] ≤ m.events[k].times)) := by simp [chkAt, hd, hc, hlt]
    (repeat' (first | simp (maxSteps := 5000000) (implicitDefEqProofs := false) only [ruA, ruB, aEv, aTake, aLoad, aField, aIndex, aLen, aBin, bin2, aUn, un1, aExtract, aConv, ASt.get, aget, ASt.put, aStore, aBox, aAppend, aBuildSlice, aMake, aBuild, aFill, oneParts, allC, aBinS, yv, aCells, oneC, oneCL, treeC, treeL, aLit, aDst, aSrc, appTab, Value.cells, Value.oneCell', envOf, aResL, aOne, ↓reduceIte, reduceCtorEq, forall_const, Nat.reduceLT, Nat.reduceEqDiff, Nat.reduceAdd, Nat.reduceMul, Nat.reduceSub, Nat.reduceLeDiff, Nat.reduceBEq, eq_self, implies_true, ne_eq, dref, dref1, dref2, aExecS, aStoreB, aTakes, aTakeE, aElder, aFrom, aFresh, isLoad, aBuildSlice1, frzs, frz1, ownIds, AV.frz, AV.frzL, frzEnv, AV.shift, AV.shiftL, aFieldV, aSliceW, aSliceO, aSlice, aSliceR, aSliceS, aBd, aMax, frzAVs, frzAV, frzTab, AObj.frz, aMM, aNilS, aMay, aNil, tyF_41_5, tyA_35, tyS_35, tyE_35, tyK_35, tyF_51_0, tyA_32, tyS_32, tyE_32, tyK_32, tyF_41_0, tyA_31, tyS_31, tyE_31, tyK_31, tyK_3, tyF_51_3, tyA_49, tyS_49, tyE_49, tyK_49, tyF_51_4, tyF_51_1, tyA_3, tyS_3, tyF_41_4, tyA_34, tyS_34, tyE_34, tyK_34, tyF_51_2, tyF_41_7, tyA_37, tyS_37, tyE_37, tyK_37, tyA_71, tyS_71, tyZ_71, tyF_41_2, tyF_71_4, row_at, hlt, hd, hc] | (with_reducible refine aIf_split (fun _ => ?_) (fun _ => ?_)) | (with_reducible refine aSel_split (fun _ => ?_) (fun _ => ?_)) | (with_reducible refine aGd_split (fun _ => ?_) (fun _ => ?_)) | (with_reducible refine aDraw_quiet (by kernel_rfl) ?_) | ((with_reducible apply callV (g := 51)); exact (of_A _ _)) | ((with_reducible apply callD (g := 51)); exact (of_A _ _))))
    all_goals first
      | (symm; refine allN_no hlt ?_; rw [eF]; grind)
      | exact roundI (weak_cut1 (by (first | ((simp only [envIn, tabIn, envLt, tabLt, AObj.lt, AV.lt, AV.ltL, ruW, ASt.get, aget, ASt.put, ↓reduceIte, reduceCtorEq, Nat.reduceLT, Nat.reduceEqDiff, Nat.reduceAdd, Nat.reduceLeDiff, eq_self, implies_true]) <;> (repeat' apply And.intro) <;> first | (rw [wrapK (by omega)]; done) | (simp; done) | omega) | fail))) ⟨k + 1, by omega, allN_step hI (by rw [eF]; grind), rfl⟩ (by simp only [slotN, ruW, ASt.get, aget, ASt.put, ↓reduceIte, reduceCtorEq, Nat.reduceLT, Nat.reduceEqDiff, Nat.reduceAdd, Nat.reduceLeDiff, eq_self, implies_true]; omega)
  · obtain rfl : k = m.events.length := by omega
    (repeat' (first | simp (maxSteps := 5000000) (implicitDefEqProofs := false) only [ruA, ruB, aEv, aTake, aLoad, aField, aIndex, aLen, aBin, bin2, aUn, un1, aExtract, aConv, ASt.get, aget, ASt.put, aStore, aBox, aAppend, aBuildSlice, aMake, aBuild, aFill, oneParts, allC, aBinS, yv, aCells, oneC, oneCL, treeC, treeL, aLit, aDst, aSrc, appTab, Value.cells, Value.oneCell', envOf, aResL, aOne, ↓reduceIte, reduceCtorEq, forall_const, Nat.reduceLT, Nat.reduceEqDiff, Nat.reduceAdd, Nat.reduceMul, Nat.reduceSub, Nat.reduceLeDiff, Nat.reduceBEq, eq_self, implies_true, ne_eq, dref, dref1, dref2, aExecS, aStoreB, aTakes, aTakeE, aElder, aFrom, aFresh, isLoad, aBuildSlice1, frzs, frz1, ownIds, AV.frz, AV.frzL, frzEnv, AV.shift, AV.shiftL, aFieldV, aSliceW, aSliceO, aSlice, aSliceR, aSliceS, aBd, aMax, frzAVs, frzAV, frzTab, AObj.frz, aMM, aNilS, aMay, aNil, tyF_41_5, tyA_35, tyS_35, tyE_35, tyK_35, tyF_51_0, tyA_32, tyS_32, tyE_32, tyK_32, tyF_41_0, tyA_31, tyS_31, tyE_31, tyK_31, tyK_3, tyF_51_3, tyA_49, tyS_49, tyE_49, tyK_49, tyF_51_4, tyF_51_1, tyA_3, tyS_3, tyF_41_4, tyA_34, tyS_34, tyE_34, tyK_34, tyF_51_2, tyF_41_7, tyA_37, tyS_37, tyE_37, tyK_37, tyA_71, tyS_71, tyZ_71, tyF_41_2, tyF_71_4, hlt] | (with_reducible refine aIf_split (fun _ => ?_) (fun _ => ?_)) | (with_reducible refine aSel_split (fun _ => ?_) (fun _ => ?_)) | (with_reducible refine aGd_split (fun _ => ?_) (fun _ => ?_)) | (with_reducible refine aDraw_quiet (by kernel_rfl) ?_)))
    exact hI.symm
def completeAt (m : Mod) (s : St) (k : Nat) : Bool := (m.miles[k]?.map (·.final)).getD false && hasB s.don (k : Int)
def completeM (m : Mod) (s : St) : Bool := anyN (completeAt m s) m.miles.length
set_option maxRecDepth 100000 in
theorem complete_A (m : Mod) (s : St) (hl : m.miles.length ≤ 1000000) : ADet Tryz.prog 95 [.agg (eMod m), .agg (eSt s)] (val (.bool (completeM m s))) := by
  refine adet_of_code mixedT Tryz.func95 rfl (by decide) Tryz.ntmps95 Tryz.results95 rfl (val_ok _) ?_
  (repeat' (first | simp (maxSteps := 5000000) (implicitDefEqProofs := false) only [ruA, ruB, aEv, aTake, aLoad, aField, aIndex, aLen, aBin, bin2, aUn, un1, aExtract, aConv, ASt.get, aget, ASt.put, aStore, aBox, aAppend, aBuildSlice, aMake, aBuild, aFill, oneParts, allC, aBinS, yv, aCells, oneC, oneCL, treeC, treeL, aLit, aDst, aSrc, appTab, Value.cells, Value.oneCell', envOf, aResL, aOne, ↓reduceIte, reduceCtorEq, forall_const, Nat.reduceLT, Nat.reduceEqDiff, Nat.reduceAdd, Nat.reduceMul, Nat.reduceSub, Nat.reduceLeDiff, Nat.reduceBEq, eq_self, implies_true, ne_eq, dref, dref1, dref2, aExecS, aStoreB, aTakes, aTakeE, aElder, aFrom, aFresh, isLoad, aBuildSlice1, frzs, frz1, ownIds, AV.frz, AV.frzL, frzEnv, AV.shift, AV.shiftL, aFieldV, aSliceW, aSliceO, aSlice, aSliceR, aSliceS, aBd, aMax, frzAVs, frzAV, frzTab, AObj.frz, aMM, aNilS, aMay, aNil, tyF_41_7, tyA_37, tyS_37, tyE_37, tyK_37, tyK_3, tyA_91, tyS_91, tyZ_91, tyF_91_4, tyA_4, tyS_4, tyF_51_2, tyA_3, tyS_3] | (with_reducible refine aIf_split (fun _ => ?_) (fun _ => ?_)) | (with_reducible refine aSel_split (fun _ => ?_) (fun _ => ?_)) | (with_reducible refine aGd_split (fun _ => ?_) (fun _ => ?_)) | (with_reducible refine aDraw_quiet (by kernel_rfl) ?_)))
  unfold completeM
  refine aLoop_of (fun st => ∃ k : Nat, k ≤ m.miles.length ∧ anyN (completeAt m s) k = false ∧ st = ⟨24, [(2, .op 0 0 0), (3, .op 1 0 0), (8, .sl 5 (m.miles.map eMl)), (9, eI (m.miles.length : Int)), (10, eI (k : Int))], [(0, some (.box 41 (eMod m))), (1, some (.box 51 (eSt s)))], 2⟩) (fun st => m.miles.length - slotN st 10) ⟨_, (weak_cut1 (by (first | ((simp only [envIn, tabIn, envLt, tabLt, AObj.lt, AV.lt, AV.ltL, ruW, ASt.get, aget, ASt.put, ↓reduceIte, reduceCtorEq, Nat.reduceLT, Nat.reduceEqDiff, Nat.reduceAdd, Nat.reduceLeDiff, eq_self, implies_true]) <;> (repeat' apply And.intro) <;> first | (rw [wrapK (by omega)]; done) | (simp; done) | omega) | fail))), 0, Nat.zero_le _, rfl, rfl⟩ ?_
  rintro _ ⟨k, hk, hI, rfl⟩
  by_cases hlt : k < m.miles.length
  · have eF : completeAt m s k = (m.miles[k].final && hasB s.don (k : Int)) := by simp [completeAt, hlt]
    (repeat' (first | simp (maxSteps := 5000000) (implicitDefEqProofs := false) only [ruA, ruB, aEv, aTake, aLoad, aField, aIndex, aLen, aBin, bin2, aUn, un1, aExtract, aConv, ASt.get, aget, ASt.put, aStore, aBox, aAppend, aBuildSlice, aMake, aBuild, aFill, oneParts, allC, aBinS, yv, aCells, oneC, oneCL, treeC, treeL, aLit, aDst, aSrc, appTab, Value.cells, Value.oneCell', envOf, aResL, aOne, ↓reduceIte, reduceCtorEq, forall_const, Nat.reduceLT, Nat.reduceEqDiff, Nat.reduceAdd, Nat.reduceMul, Nat.reduceSub, Nat.reduceLeDiff, Nat.reduceBEq, eq_self, implies_true, ne_eq, dref, dref1, dref2, aExecS, aStoreB, aTakes, aTakeE, aElder, aFrom, aFresh, isLoad, aBuildSlice1, frzs, frz1, ownIds, AV.frz, AV.frzL, frzEnv, AV.shift, AV.shiftL, aFieldV, aSliceW, aSliceO, aSlice, aSliceR, aSliceS, aBd, aMax, frzAVs, frzAV, frzTab, AObj.frz, aMM, aNilS, aMay, aNil, tyF_41_7, tyA_37, tyS_37, tyE_37, tyK_37, tyK_3, tyA_91, tyS_91, tyZ_91, tyF_91_4, tyA_4, tyS_4, tyF_51_2, tyA_3, tyS_3, row_at, hlt] | (with_reducible refine aIf_split (fun _ => ?_) (fun _ => ?_)) | (with_reducible refine aSel_split (fun _ => ?_) (fun _ => ?_)) | (with_reducible refine aGd_split (fun _ => ?_) (fun _ => ?_)) | (with_reducible refine aDraw_quiet (by kernel_rfl) ?_) | ((with_reducible apply callV (g := 89)); exact (has_A _ _)) | ((with_reducible apply callD (g := 89)); exact (has_A _ _))))
    all_goals first
      | (symm; refine anyN_yes hlt ?_; rw [eF]; grind)
      | exact roundI (weak_cut1 (by (first | ((simp only [envIn, tabIn, envLt, tabLt, AObj.lt, AV.lt, AV.ltL, ruW, ASt.get, aget, ASt.put, ↓reduceIte, reduceCtorEq, Nat.reduceLT, Nat.reduceEqDiff, Nat.reduceAdd, Nat.reduceLeDiff, eq_self, implies_true]) <;> (repeat' apply And.intro) <;> first | (rw [wrapK (by omega)]; done) | (simp; done) | omega) | fail))) ⟨k + 1, by omega, anyN_step hI (by rw [eF]; grind), rfl⟩ (by simp only [slotN, ruW, ASt.get, aget, ASt.put, ↓reduceIte, reduceCtorEq, Nat.reduceLT, Nat.reduceEqDiff, Nat.reduceAdd, Nat.reduceLeDiff, eq_self, implies_true]; omega)
  · obtain rfl : k = m.miles.length := by omega
    (repeat' (first | simp (maxSteps := 5000000) (implicitDefEqProofs := false) only [ruA, ruB, aEv, aTake, aLoad, aField, aIndex, aLen, aBin, bin2, aUn, un1, aExtract, aConv, ASt.get, aget, ASt.put, aStore, aBox, aAppend, aBuildSlice, aMake, aBuild, aFill, oneParts, allC, aBinS, yv, aCells, oneC, oneCL, treeC, treeL, aLit, aDst, aSrc, appTab, Value.cells, Value.oneCell', envOf, aResL, aOne, ↓reduceIte, reduceCtorEq, forall_const, Nat.reduceLT, Nat.reduceEqDiff, Nat.reduceAdd, Nat.reduceMul, Nat.reduceSub, Nat.reduceLeDiff, Nat.reduceBEq, eq_self, implies_true, ne_eq, dref, dref1, dref2, aExecS, aStoreB, aTakes, aTakeE, aElder, aFrom, aFresh, isLoad, aBuildSlice1, frzs, frz1, ownIds, AV.frz, AV.frzL, frzEnv, AV.shift, AV.shiftL, aFieldV, aSliceW, aSliceO, aSlice, aSliceR, aSliceS, aBd, aMax, frzAVs, frzAV, frzTab, AObj.frz, aMM, aNilS, aMay, aNil, tyF_41_7, tyA_37, tyS_37, tyE_37, tyK_37, tyK_3, tyA_91, tyS_91, tyZ_91, tyF_91_4, tyA_4, tyS_4, tyF_51_2, tyA_3, tyS_3, hlt] | (with_reducible refine aIf_split (fun _ => ?_) (fun _ => ?_)) | (with_reducible refine aSel_split (fun _ => ?_) (fun _ => ?_)) | (with_reducible refine aGd_split (fun _ => ?_) (fun _ => ?_)) | (with_reducible refine aDraw_quiet (by kernel_rfl) ?_)))
    exact hI.symm
def atI (l : List Int) (i : Int) : Int := if 0 ≤ i ∧ i < (l.length : Int) then l.getD i.toNat 0 else 0
theorem at_A (l : List Int) (i : Int) : ADet Tryz.prog 97 [sI l, eI i] (val (.int .i64 (atI l i))) := by
  refine adet_of_code mixedT Tryz.func97 rfl (by decide) Tryz.ntmps97 Tryz.results97 rfl (val_ok _) ?_
  unfold atI
  by_cases h : 0 ≤ i ∧ i < (l.length : Int)
  · obtain ⟨k, rfl⟩ : ∃ k : Nat, i = (k : Int) := ⟨i.toNat, by omega⟩
    have hk : k < l.length := by omega
    rw [if_pos h]
    (repeat' (first | simp (maxSteps := 5000000) (implicitDefEqProofs := false) only [ruA, ruB, aEv, aTake, aLoad, aField, aIndex, aLen, aBin, bin2, aUn, un1, aExtract, aConv, ASt.get, aget, ASt.put, aStore, aBox, aAppend, aBuildSlice, aMake, aBuild, aFill, oneParts, allC, aBinS, yv, aCells, oneC, oneCL, treeC, treeL, aLit, aDst, aSrc, appTab, Value.cells, Value.oneCell', envOf, aResL, aOne, ↓reduceIte, reduceCtorEq, forall_const, Nat.reduceLT, Nat.reduceEqDiff, Nat.reduceAdd, Nat.reduceMul, Nat.reduceSub, Nat.reduceLeDiff, Nat.reduceBEq, eq_self, implies_true, ne_eq, dref, dref1, dref2, aExecS, aStoreB, aTakes, aTakeE, aElder, aFrom, aFresh, isLoad, aBuildSlice1, frzs, frz1, ownIds, AV.frz, AV.frzL, frzEnv, AV.shift, AV.shiftL, aFieldV, aSliceW, aSliceO, aSlice, aSliceR, aSliceS, aBd, aMax, frzAVs, frzAV, frzTab, AObj.frz, aMM, aNilS, aMay, aNil, tyK_3, tyE_49, tyK_49, tyA_3, tyS_3, row_at, hk] | (with_reducible refine aIf_split (fun _ => ?_) (fun _ => ?_)) | (with_reducible refine aSel_split (fun _ => ?_) (fun _ => ?_)) | (with_reducible refine aGd_split (fun _ => ?_) (fun _ => ?_))))
    all_goals grind
  · rw [if_neg h]
    (repeat' (first | simp (maxSteps := 5000000) (implicitDefEqProofs := false) only [ruA, ruB, aEv, aTake, aLoad, aField, aIndex, aLen, aBin, bin2, aUn, un1, aExtract, aConv, ASt.get, aget, ASt.put, aStore, aBox, aAppend, aBuildSlice, aMake, aBuild, aFill, oneParts, allC, aBinS, yv, aCells, oneC, oneCL, treeC, treeL, aLit, aDst, aSrc, appTab, Value.cells, Value.oneCell', envOf, aResL, aOne, ↓reduceIte, reduceCtorEq, forall_const, Nat.reduceLT, Nat.reduceEqDiff, Nat.reduceAdd, Nat.reduceMul, Nat.reduceSub, Nat.reduceLeDiff, Nat.reduceBEq, eq_self, implies_true, ne_eq, dref, dref1, dref2, aExecS, aStoreB, aTakes, aTakeE, aElder, aFrom, aFresh, isLoad, aBuildSlice1, frzs, frz1, ownIds, AV.frz, AV.frzL, frzEnv, AV.shift, AV.shiftL, aFieldV, aSliceW, aSliceO, aSlice, aSliceR, aSliceS, aBd, aMax, frzAVs, frzAV, frzTab, AObj.frz, aMM, aNilS, aMay, aNil, tyK_3, tyE_49, tyK_49, tyA_3, tyS_3] | (with_reducible refine aIf_split (fun _ => ?_) (fun _ => ?_)) | (with_reducible refine aSel_split (fun _ => ?_) (fun _ => ?_)) | (with_reducible refine aGd_split (fun _ => ?_) (fun _ => ?_))))
    rename_i h1 h2
    simp at h1 h2
    omega
def ofR (m : Mod) (role user : Int) : Bool := decide (0 ≤ role) && decide (role < (m.roles.length : Int)) && decide (0 ≤ user) && decide (user < (m.users.length : Int)) && ((m.roles[role.toNat]?).map (fun p => hasB p.2 user)).getD false
theorem ofR_A (m : Mod) (role user : Int) : ADet Tryz.prog 96 [.agg (eMod m), eI role, eI user] (val (.bool (ofR m role user))) := by
  refine adet_of_code mixedT Tryz.func96 rfl (by decide) Tryz.ntmps96 Tryz.results96 rfl (val_ok _) ?_
  by_cases h : 0 ≤ role ∧ role < (m.roles.length : Int)
  · obtain ⟨k, rfl⟩ : ∃ k : Nat, role = (k : Int) := ⟨role.toNat, by omega⟩
    have hk : k < m.roles.length := by omega
    have eR : ofR m k user = (decide (0 ≤ user) && decide (user < (m.users.length : Int)) && hasB m.roles[k].2 user) := by simp [ofR, hk]
    rw [eR]
    (repeat' (first | simp (maxSteps := 5000000) (implicitDefEqProofs := false) only [ruA, ruB, aEv, aTake, aLoad, aField, aIndex, aLen, aBin, bin2, aUn, un1, aExtract, aConv, ASt.get, aget, ASt.put, aStore, aBox, aAppend, aBuildSlice, aMake, aBuild, aFill, oneParts, allC, aBinS, yv, aCells, oneC, oneCL, treeC, treeL, aLit, aDst, aSrc, appTab, Value.cells, Value.oneCell', envOf, aResL, aOne, ↓reduceIte, reduceCtorEq, forall_const, Nat.reduceLT, Nat.reduceEqDiff, Nat.reduceAdd, Nat.reduceMul, Nat.reduceSub, Nat.reduceLeDiff, Nat.reduceBEq, eq_self, implies_true, ne_eq, dref, dref1, dref2, aExecS, aStoreB, aTakes, aTakeE, aElder, aFrom, aFresh, isLoad, aBuildSlice1, frzs, frz1, ownIds, AV.frz, AV.frzL, frzEnv, AV.shift, AV.shiftL, aFieldV, aSliceW, aSliceO, aSlice, aSliceR, aSliceS, aBd, aMax, frzAVs, frzAV, frzTab, AObj.frz, aMM, aNilS, aMay, aNil, tyK_3, tyF_41_3, tyA_33, tyS_33, tyE_33, tyK_33, tyF_41_2, tyA_31, tyS_31, tyE_31, tyK_31, tyF_81_1, tyA_3, tyS_3, row_at, hk] | (with_reducible refine aIf_split (fun _ => ?_) (fun _ => ?_)) | (with_reducible refine aSel_split (fun _ => ?_) (fun _ => ?_)) | (with_reducible refine aGd_split (fun _ => ?_) (fun _ => ?_)) | (with_reducible refine aDraw_quiet (by kernel_rfl) ?_) | ((with_reducible apply callV (g := 89)); exact (has_A _ _)) | ((with_reducible apply callD (g := 89)); exact (has_A _ _))))
    all_goals grind
  · have eR : ofR m role user = false := by
      have : (decide (0 ≤ role) && decide (role < (m.roles.length : Int))) = false := by
        rw [Bool.and_eq_false_iff]
        simp only [decide_eq_false_iff_not]
        omega
      simp [ofR, this]
    rw [eR]
    (repeat' (first | simp (maxSteps := 5000000) (implicitDefEqProofs := false) only [ruA, ruB, aEv, aTake, aLoad, aField, aIndex, aLen, aBin, bin2, aUn, un1, aExtract, aConv, ASt.get, aget, ASt.put, aStore, aBox, aAppend, aBuildSlice, aMake, aBuild, aFill, oneParts, allC, aBinS, yv, aCells, oneC, oneCL, treeC, treeL, aLit, aDst, aSrc, appTab, Value.cells, Value.oneCell', envOf, aResL, aOne, ↓reduceIte, reduceCtorEq, forall_const, Nat.reduceLT, Nat.reduceEqDiff, Nat.reduceAdd, Nat.reduceMul, Nat.reduceSub, Nat.reduceLeDiff, Nat.reduceBEq, eq_self, implies_true, ne_eq, dref, dref1, dref2, aExecS, aStoreB, aTakes, aTakeE, aElder, aFrom, aFresh, isLoad, aBuildSlice1, frzs, frz1, ownIds, AV.frz, AV.frzL, frzEnv, AV.shift, AV.shiftL, aFieldV, aSliceW, aSliceO, aSlice, aSliceR, aSliceS, aBd, aMax, frzAVs, frzAV, frzTab, AObj.frz, aMM, aNilS, aMay, aNil, tyK_3, tyF_41_3, tyA_33, tyS_33, tyE_33, tyK_33, tyF_41_2, tyA_31, tyS_31, tyE_31, tyK_31, tyF_81_1, tyA_3, tyS_3] | (with_reducible refine aIf_split (fun _ => ?_) (fun _ => ?_)) | (with_reducible refine aSel_split (fun _ => ?_) (fun _ => ?_)) | (with_reducible refine aGd_split (fun _ => ?_) (fun _ => ?_)) | (with_reducible refine aDraw_quiet (by kernel_rfl) ?_)))
    all_goals first
      | rfl
      | (exfalso; grind)
def apartAt (m : Mod) (s : St) (event user : Int) (k : Nat) : Bool := ((m.sods[k]?).map (fun x => ((x.1 == event) && hasB (atI s.did x.2) user) || ((x.2 == event) && hasB (atI s.did x.1) user))).getD false
def apartM (m : Mod) (s : St) (event user : Int) : Bool := anyN (apartAt m s event user) m.sods.length
set_option maxRecDepth 100000 in
set_option maxHeartbeats 8000000 in
theorem apart_A (m : Mod) (s : St) (event user : Int) (hl : m.sods.length ≤ 1000000) : ADet Tryz.prog 76 [.agg (eMod m), .agg (eSt s), eI event, eI user] (val (.bool (apartM m s event user))) := by
  refine adet_of_code mixedT Tryz.func76 rfl (by decide) Tryz.ntmps76 Tryz.results76 rfl (val_ok _) ?_
  (repeat' (first | simp (maxSteps := 5000000) (implicitDefEqProofs := false) only [ruA, ruB, aEv, aTake, aLoad, aField, aIndex, aLen, aBin, bin2, aUn, un1, aExtract, aConv, ASt.get, aget, ASt.put, aStore, aBox, aAppend, aBuildSlice, aMake, aBuild, aFill, oneParts, allC, aBinS, yv, aCells, oneC, oneCL, treeC, treeL, aLit, aDst, aSrc, appTab, Value.cells, Value.oneCell', envOf, aResL, aOne, ↓reduceIte, reduceCtorEq, forall_const, Nat.reduceLT, Nat.reduceEqDiff, Nat.reduceAdd, Nat.reduceMul, Nat.reduceSub, Nat.reduceLeDiff, Nat.reduceBEq, eq_self, implies_true, ne_eq, dref, dref1, dref2, aExecS, aStoreB, aTakes, aTakeE, aElder, aFrom, aFresh, isLoad, aBuildSlice1, frzs, frz1, ownIds, AV.frz, AV.frzL, frzEnv, AV.shift, AV.shiftL, aFieldV, aSliceW, aSliceO, aSlice, aSliceR, aSliceS, aBd, aMax, frzAVs, frzAV, frzTab, AObj.frz, aMM, aNilS, aMay, aNil, tyF_41_8, tyA_38, tyS_38, tyE_38, tyK_38, tyK_3, tyA_93, tyS_93, tyZ_93, tyF_93_0, tyA_3, tyS_3, tyF_51_3, tyA_49, tyS_49, tyF_93_1] | (with_reducible refine aIf_split (fun _ => ?_) (fun _ => ?_)) | (with_reducible refine aSel_split (fun _ => ?_) (fun _ => ?_)) | (with_reducible refine aGd_split (fun _ => ?_) (fun _ => ?_)) | (with_reducible refine aDraw_quiet (by kernel_rfl) ?_)))
  unfold apartM
  refine aLoop_of (fun st => ∃ k : Nat, k ≤ m.sods.length ∧ anyN (apartAt m s event user) k = false ∧ st = ⟨47, [(2, eI event), (3, eI user), (4, .op 0 0 0), (5, .op 1 0 0), (12, .sl 2 (m.sods.map eII)), (13, eI (m.sods.length : Int)), (14, eI (k : Int))], [(0, some (.box 41 (eMod m))), (1, some (.box 51 (eSt s)))], 2⟩) (fun st => m.sods.length - slotN st 14) ⟨_, (weak_cut1 (by (first | ((simp only [envIn, tabIn, envLt, tabLt, AObj.lt, AV.lt, AV.ltL, ruW, ASt.get, aget, ASt.put, ↓reduceIte, reduceCtorEq, Nat.reduceLT, Nat.reduceEqDiff, Nat.reduceAdd, Nat.reduceLeDiff, eq_self, implies_true]) <;> (repeat' apply And.intro) <;> first | (rw [wrapK (by omega)]; done) | (simp; done) | omega) | fail))), 0, Nat.zero_le _, rfl, rfl⟩ ?_
  rintro _ ⟨k, hk, hI, rfl⟩
  by_cases hlt : k < m.sods.length
  · obtain ⟨⟨a, b⟩, hx⟩ : ∃ x, m.sods[k] = x := ⟨_, rfl⟩
    have ex : eII m.sods[k] = [eI a, eI b] := by rw [hx]
    have eF : apartAt m s event user k = (((a == event) && hasB (atI s.did b) user) || ((b == event) && hasB (atI s.did a) user)) := by simp [apartAt, hlt, hx]
    (repeat' (first | simp (maxSteps := 5000000) (implicitDefEqProofs := false) only [ruA, ruB, aEv, aTake, aLoad, aField, aIndex, aLen, aBin, bin2, aUn, un1, aExtract, aConv, ASt.get, aget, ASt.put, aStore, aBox, aAppend, aBuildSlice, aMake, aBuild, aFill, oneParts, allC, aBinS, yv, aCells, oneC, oneCL, treeC, treeL, aLit, aDst, aSrc, appTab, Value.cells, Value.oneCell', envOf, aResL, aOne, ↓reduceIte, reduceCtorEq, forall_const, Nat.reduceLT, Nat.reduceEqDiff, Nat.reduceAdd, Nat.reduceMul, Nat.reduceSub, Nat.reduceLeDiff, Nat.reduceBEq, eq_self, implies_true, ne_eq, dref, dref1, dref2, aExecS, aStoreB, aTakes, aTakeE, aElder, aFrom, aFresh, isLoad, aBuildSlice1, frzs, frz1, ownIds, AV.frz, AV.frzL, frzEnv, AV.shift, AV.shiftL, aFieldV, aSliceW, aSliceO, aSlice, aSliceR, aSliceS, aBd, aMax, frzAVs, frzAV, frzTab, AObj.frz, aMM, aNilS, aMay, aNil, tyF_41_8, tyA_38, tyS_38, tyE_38, tyK_38, tyK_3, tyA_93, tyS_93, tyZ_93, tyF_93_0, tyA_3, tyS_3, tyF_51_3, tyA_49, tyS_49, tyF_93_1, row_at, hlt, ex] | (with_reducible refine aIf_split (fun _ => ?_) (fun _ => ?_)) | (with_reducible refine aSel_split (fun _ => ?_) (fun _ => ?_)) | (with_reducible refine aGd_split (fun _ => ?_) (fun _ => ?_)) | (with_reducible refine aDraw_quiet (by kernel_rfl) ?_) | ((with_reducible apply callV (g := 89)); exact (has_A _ _)) | ((with_reducible apply callD (g := 89)); exact (has_A _ _)) | ((with_reducible apply callV (g := 97)); exact (at_A _ _)) | ((with_reducible apply callD (g := 97)); exact (at_A _ _))))
    all_goals first
      | (symm; refine anyN_yes hlt ?_; rw [eF]; grind)
      | exact roundI (weak_cut1 (by (first | ((simp only [envIn, tabIn, envLt, tabLt, AObj.lt, AV.lt, AV.ltL, ruW, ASt.get, aget, ASt.put, ↓reduceIte, reduceCtorEq, Nat.reduceLT, Nat.reduceEqDiff, Nat.reduceAdd, Nat.reduceLeDiff, eq_self, implies_true]) <;> (repeat' apply And.intro) <;> first | (rw [wrapK (by omega)]; done) | (simp; done) | omega) | fail))) ⟨k + 1, by omega, anyN_step hI (by rw [eF]; grind), rfl⟩ (by simp only [slotN, ruW, ASt.get, aget, ASt.put, ↓reduceIte, reduceCtorEq, Nat.reduceLT, Nat.reduceEqDiff, Nat.reduceAdd, Nat.reduceLeDiff, eq_self, implies_true]; omega)
      | trace_state
  · obtain rfl : k = m.sods.length := by omega
    (repeat' (first | simp (maxSteps := 5000000) (implicitDefEqProofs := false) only [ruA, ruB, aEv, aTake, aLoad, aField, aIndex, aLen, aBin, bin2, aUn, un1, aExtract, aConv, ASt.get, aget, ASt.put, aStore, aBox, aAppend, aBuildSlice, aMake, aBuild, aFill, oneParts, allC, aBinS, yv, aCells, oneC, oneCL, treeC, treeL, aLit, aDst, aSrc, appTab, Value.cells, Value.oneCell', envOf, aResL, aOne, ↓reduceIte, reduceCtorEq, forall_const, Nat.reduceLT, Nat.reduceEqDiff, Nat.reduceAdd, Nat.reduceMul, Nat.reduceSub, Nat.reduceLeDiff, Nat.reduceBEq, eq_self, implies_true, ne_eq, dref, dref1, dref2, aExecS, aStoreB, aTakes, aTakeE, aElder, aFrom, aFresh, isLoad, aBuildSlice1, frzs, frz1, ownIds, AV.frz, AV.frzL, frzEnv, AV.shift, AV.shiftL, aFieldV, aSliceW, aSliceO, aSlice, aSliceR, aSliceS, aBd, aMax, frzAVs, frzAV, frzTab, AObj.frz, aMM, aNilS, aMay, aNil, tyF_41_8, tyA_38, tyS_38, tyE_38, tyK_38, tyK_3, tyA_93, tyS_93, tyZ_93, tyF_93_0, tyA_3, tyS_3, tyF_51_3, tyA_49, tyS_49, tyF_93_1, hlt] | (with_reducible refine aIf_split (fun _ => ?_) (fun _ => ?_)) | (with_reducible refine aSel_split (fun _ => ?_) (fun _ => ?_)) | (with_reducible refine aGd_split (fun _ => ?_) (fun _ => ?_)) | (with_reducible refine aDraw_quiet (by kernel_rfl) ?_)))
    exact hI.symm
noncomputable def evAt (m : Mod) (event : Int) : Option Ev := if 0 ≤ event then m.events[event.toNat]? else none
noncomputable def freeM (m : Mod) (s : St) (event user : Int) : Bool :=
  match evAt m event with
  | none => false
  | some x => !completeM m s && decide (x.stage < (m.stages.length : Int)) && hasB s.opn x.stage && ofR m x.role user && (decide (x.times ≤ 0) || decide (atI s.cnt event < x.times))
set_option maxRecDepth 100000 in
set_option maxHeartbeats 8000000 in
theorem free_A (m : Mod) (s : St) (event user : Int) (hl : m.miles.length ≤ 1000000) : ADet Tryz.prog 75 [.agg (eMod m), .agg (eSt s), eI event, eI user] (val (.bool (freeM m s event user))) := by
  refine adet_of_code mixedT Tryz.func75 rfl (by decide) Tryz.ntmps75 Tryz.results75 rfl (val_ok _) ?_
  by_cases h : 0 ≤ event ∧ event < (m.events.length : Int)
  · obtain ⟨k, rfl⟩ : ∃ k : Nat, event = (k : Int) := ⟨event.toNat, by omega⟩
    have hk : k < m.events.length := by omega
    obtain ⟨x, hx⟩ : ∃ x, m.events[k] = x := ⟨_, rfl⟩
    have ee : evAt m (k : Int) = some x := by simp [evAt, hk, hx]
    have eR : freeM m s k user = (!completeM m s && decide (x.stage < (m.stages.length : Int)) && hasB s.opn x.stage && ofR m x.role user && (decide (x.times ≤ 0) || decide (atI s.cnt k < x.times))) := by simp only [freeM, ee]
    rw [eR]
    (repeat' (first | simp (maxSteps := 5000000) (implicitDefEqProofs := false) only [ruA, ruB, aEv, aTake, aLoad, aField, aIndex, aLen, aBin, bin2, aUn, un1, aExtract, aConv, ASt.get, aget, ASt.put, aStore, aBox, aAppend, aBuildSlice, aMake, aBuild, aFill, oneParts, allC, aBinS, yv, aCells, oneC, oneCL, treeC, treeL, aLit, aDst, aSrc, appTab, Value.cells, Value.oneCell', envOf, aResL, aOne, ↓reduceIte, reduceCtorEq, forall_const, Nat.reduceLT, Nat.reduceEqDiff, Nat.reduceAdd, Nat.reduceMul, Nat.reduceSub, Nat.reduceLeDiff, Nat.reduceBEq, eq_self, implies_true, ne_eq, dref, dref1, dref2, aExecS, aStoreB, aTakes, aTakeE, aElder, aFrom, aFresh, isLoad, aBuildSlice1, frzs, frz1, ownIds, AV.frz, AV.frzL, frzEnv, AV.shift, AV.shiftL, aFieldV, aSliceW, aSliceO, aSlice, aSliceR, aSliceS, aBd, aMax, frzAVs, frzAV, frzTab, AObj.frz, aMM, aNilS, aMay, aNil, tyK_3, tyF_41_5, tyA_35, tyS_35, tyE_35, tyK_35, tyA_41, tyS_41, tyA_51, tyS_51, tyA_71, tyS_71, tyZ_71, tyF_71_2, tyA_3, tyS_3, tyF_41_4, tyA_34, tyS_34, tyE_34, tyK_34, tyF_51_1, tyF_71_1, tyF_71_4, tyF_51_4, tyA_49, tyS_49, row_at, hk, hx] | (with_reducible refine aIf_split (fun _ => ?_) (fun _ => ?_)) | (with_reducible refine aSel_split (fun _ => ?_) (fun _ => ?_)) | (with_reducible refine aGd_split (fun _ => ?_) (fun _ => ?_)) | (with_reducible refine aDraw_quiet (by kernel_rfl) ?_) | ((with_reducible apply callV (g := 89)); exact (has_A _ _)) | ((with_reducible apply callD (g := 89)); exact (has_A _ _)) | ((with_reducible apply callV (g := 95)); exact (complete_A _ _ hl)) | ((with_reducible apply callD (g := 95)); exact (complete_A _ _ hl)) | ((with_reducible apply callV (g := 96)); exact (ofR_A _ _ _)) | ((with_reducible apply callD (g := 96)); exact (ofR_A _ _ _)) | ((with_reducible apply callV (g := 97)); exact (at_A _ _)) | ((with_reducible apply callD (g := 97)); exact (at_A _ _))))
    all_goals first
      | grind
      | trace_state
  · have ee : evAt m event = none := by
      unfold evAt
      split
      · exact List.getElem?_eq_none (by omega)
      · rfl
    have eR : freeM m s event user = false := by simp only [freeM, ee]
    rw [eR]
    (repeat' (first | simp (maxSteps := 5000000) (implicitDefEqProofs := false) only [ruA, ruB, aEv, aTake, aLoad, aField, aIndex, aLen, aBin, bin2, aUn, un1, aExtract, aConv, ASt.get, aget, ASt.put, aStore, aBox, aAppend, aBuildSlice, aMake, aBuild, aFill, oneParts, allC, aBinS, yv, aCells, oneC, oneCL, treeC, treeL, aLit, aDst, aSrc, appTab, Value.cells, Value.oneCell', envOf, aResL, aOne, ↓reduceIte, reduceCtorEq, forall_const, Nat.reduceLT, Nat.reduceEqDiff, Nat.reduceAdd, Nat.reduceMul, Nat.reduceSub, Nat.reduceLeDiff, Nat.reduceBEq, eq_self, implies_true, ne_eq, dref, dref1, dref2, aExecS, aStoreB, aTakes, aTakeE, aElder, aFrom, aFresh, isLoad, aBuildSlice1, frzs, frz1, ownIds, AV.frz, AV.frzL, frzEnv, AV.shift, AV.shiftL, aFieldV, aSliceW, aSliceO, aSlice, aSliceR, aSliceS, aBd, aMax, frzAVs, frzAV, frzTab, AObj.frz, aMM, aNilS, aMay, aNil, tyK_3, tyF_41_5, tyA_35, tyS_35, tyE_35, tyK_35, tyA_41, tyS_41, tyA_51, tyS_51, tyA_71, tyS_71, tyZ_71, tyF_71_2, tyA_3, tyS_3, tyF_41_4, tyA_34, tyS_34, tyE_34, tyK_34, tyF_51_1, tyF_71_1, tyF_71_4, tyF_51_4, tyA_49, tyS_49] | (with_reducible refine aIf_split (fun _ => ?_) (fun _ => ?_)) | (with_reducible refine aSel_split (fun _ => ?_) (fun _ => ?_)) | (with_reducible refine aGd_split (fun _ => ?_) (fun _ => ?_)) | (with_reducible refine aDraw_quiet (by kernel_rfl) ?_) | ((with_reducible apply callV (g := 95)); exact (complete_A _ _ hl)) | ((with_reducible apply callD (g := 95)); exact (complete_A _ _ hl))))
    all_goals first
      | rfl
      | (exfalso; grind)
noncomputable def enabledM (m : Mod) (s : St) (event user : Int) : Bool := freeM m s event user && !apartM m s event user
set_option maxRecDepth 100000 in
theorem enabled_A (m : Mod) (s : St) (event user : Int) (hl : m.miles.length ≤ 1000000) (hl2 : m.sods.length ≤ 1000000) : ADet Tryz.prog 52 [.agg (eMod m), .agg (eSt s), eI event, eI user] (val (.bool (enabledM m s event user))) := by
  refine adet_of_code mixedT Tryz.func52 rfl (by decide) Tryz.ntmps52 Tryz.results52 rfl (val_ok _) ?_
  unfold enabledM
  (repeat' (first | simp (maxSteps := 5000000) (implicitDefEqProofs := false) only [ruA, ruB, aEv, aTake, aLoad, aField, aIndex, aLen, aBin, bin2, aUn, un1, aExtract, aConv, ASt.get, aget, ASt.put, aStore, aBox, aAppend, aBuildSlice, aMake, aBuild, aFill, oneParts, allC, aBinS, yv, aCells, oneC, oneCL, treeC, treeL, aLit, aDst, aSrc, appTab, Value.cells, Value.oneCell', envOf, aResL, aOne, ↓reduceIte, reduceCtorEq, forall_const, Nat.reduceLT, Nat.reduceEqDiff, Nat.reduceAdd, Nat.reduceMul, Nat.reduceSub, Nat.reduceLeDiff, Nat.reduceBEq, eq_self, implies_true, ne_eq, dref, dref1, dref2, aExecS, aStoreB, aTakes, aTakeE, aElder, aFrom, aFresh, isLoad, aBuildSlice1, frzs, frz1, ownIds, AV.frz, AV.frzL, frzEnv, AV.shift, AV.shiftL, aFieldV, aSliceW, aSliceO, aSlice, aSliceR, aSliceS, aBd, aMax, frzAVs, frzAV, frzTab, AObj.frz, aMM, aNilS, aMay, aNil, tyA_41, tyS_41, tyA_51, tyS_51] | (with_reducible refine aIf_split (fun _ => ?_) (fun _ => ?_)) | (with_reducible refine aSel_split (fun _ => ?_) (fun _ => ?_)) | (with_reducible refine aGd_split (fun _ => ?_) (fun _ => ?_)) | (with_reducible refine aDraw_quiet (by kernel_rfl) ?_) | ((with_reducible apply callV (g := 75)); exact (free_A _ _ _ _ hl)) | ((with_reducible apply callD (g := 75)); exact (free_A _ _ _ _ hl)) | ((with_reducible apply callV (g := 76)); exact (apart_A _ _ _ _ hl2)) | ((with_reducible apply callD (g := 76)); exact (apart_A _ _ _ _ hl2))))
  all_goals grind
end
section
open Go.RowKit
section
variable {P : Program} {f : FuncId} {args : List AV}
theorem res_frz {cx : Cx} {w' : World} {L : Nat → Value} {v : Value} {R : Res} (h5 : R.Ok) (h7 : Lay cx w' R.tab L) (h8 : RVx cx w' R.tab L v R.r) (id : Nat) : (R.frz id).Ok ∧ Lay cx w' (R.frz id).tab L ∧ RVx cx w' (R.frz id).tab L v (R.frz id).r := by
  unfold Res.frz
  split
  · rename_i e' sz rows hid
    obtain ⟨h9, h10⟩ := frz_core h7 (fun k o hk => (h5.young k o hk).2) hid
    refine ⟨⟨fun k o hk => ?_, frz_lt h5.lt⟩, h9, h10 v _ h8 h5.lt⟩
    simp only [ATab.get_cons, frzTab_get] at hk
    split at hk
    · cases hk
    · cases hg : R.tab.get k with
      | none => simp [hg] at hk
      | some o' =>
        simp [hg] at hk
        subst hk
        exact ⟨(h5.young k o' hg).1, frz_obj_lt (h5.young k o' hg).2⟩
  · exact ⟨h5, h7, h8⟩
theorem res_frzs {cx : Cx} {w' : World} {L : Nat → Value} {v : Value} : ∀ (ids : List Nat) {R : Res}, R.Ok → Lay cx w' R.tab L → RVx cx w' R.tab L v R.r → (R.frzs ids).Ok ∧ Lay cx w' (R.frzs ids).tab L ∧ RVx cx w' (R.frzs ids).tab L v (R.frzs ids).r
  | [], R, h1, h2, h3 => ⟨h1, h2, h3⟩
  | id :: ids, R, h1, h2, h3 => by
    obtain ⟨h4, h5, h6⟩ := res_frz h1 h2 h3 id
    exact res_frzs ids h4 h5 h6
inductive FitsT : AV → AV → Prop
  | one {a b : AV} (h : FitsA a b) : FitsT a b
  | tup {l l' : List AV} (h : FitsAs l l') : FitsT (.tup l) (.tup l')
theorem rt_of_rv {w : World} {S : Nat → Prop} {K : Nat → Option (Nat × Value)} {x : Value} {av : AV} (h : RV w S K x av) : av.lt 0 → RT w S x av := by
  induction h with
  | tree h => exact fun _ => h
  | osl x id h => exact fun h2 => by simp [AV.lt] at h2
  | op x id i j h => exact fun h2 => by simp [AV.lt] at h2
  | agg xs cs hn hr ih =>
    intro h2
    simp only [AV.lt] at h2
    exact .agg xs cs hn fun j x av h3 h4 => ih j x av h3 h4 (ltL_iff.1 h2 av (List.mem_of_getElem? h4))
  | tup xs cs hn hr ih =>
    intro h2
    simp only [AV.lt] at h2
    exact .tup xs cs hn fun j x av h3 h4 => ih j x av h3 h4 (ltL_iff.1 h2 av (List.mem_of_getElem? h4))
  | fn f xs cs hn hr ih =>
    intro h2
    simp only [AV.lt] at h2
    exact .fn f xs cs hn fun j x av h3 h4 => ih j x av h3 h4 (ltL_iff.1 h2 av (List.mem_of_getElem? h4))
  | bfn f xs cs hn hr ih =>
    intro h2
    simp only [AV.lt] at h2
    exact .bfn f xs cs hn fun j x av h3 h4 => ih j x av h3 h4 (ltL_iff.1 h2 av (List.mem_of_getElem? h4))
theorem RT.tup_inv {w : World} {S : Nat → Prop} {x : Value} {cs : List AV} (h : RT w S x (.tup cs)) : ∃ xs : Array Value, x = .tuple xs ∧ xs.size = cs.length ∧ ∀ (j : Nat) (x : Value) (av : AV), xs[j]? = some x → cs[j]? = some av → RT w S x av := by
  cases h with
  | tup xs _ hn hr => exact ⟨xs, rfl, hn, hr⟩
theorem FitsT.rt {w : World} {S : Nat → Prop} {v : Value} {a b : AV} (h : FitsT a b) (hr : RT w S v a) : RT w S v b := by
  cases h with
  | one h => exact h.rt hr
  | @tup l l' h =>
    obtain ⟨xs, rfl, hn, hx⟩ := hr.tup_inv
    obtain ⟨h1, h2⟩ := h.spec
    refine .tup xs l' (by omega) fun j x av h3 h4 => ?_
    have hj : j < l.length := by
      have := (List.getElem?_eq_some_iff.1 h4).1
      omega
    have h5 : l[j]? = some l[j] := List.getElem?_eq_getElem hj
    exact (h2 j _ av h5 h4).rt (hx j x _ h3 h5)
theorem tab_ok {R : Res} (h1 : tabLt R.n R.tab) (h2 : R.r.lt R.n) : R.Ok := by
  refine ⟨?_, h2⟩
  revert h1
  generalize R.tab = T
  induction T with
  | nil => exact fun _ id o h => by cases h
  | cons p T ih =>
    obtain ⟨k, ob⟩ := p
    intro h1 id o h
    rw [ATab.get_cons] at h
    cases ob with
    | none =>
      simp only [tabLt] at h1
      split at h
      · cases h
      · exact ih h1 id o h
    | some ob =>
      simp only [tabLt] at h1
      split at h
      · rename_i e
        cases h
        exact ⟨by rw [e]; exact h1.1.1, h1.1.2⟩
      · exact ih h1.2 id o h
/-- an answer that nobody writes any more -/
theorem ARel.tree {Post : Res → Prop} {r' : AV} (h : ARel P f args Post) (hl : r'.lt 0) (hp : ∀ R, Post R → ∃ ids, (R.frzs ids).r.lt 0 ∧ FitsT (R.frzs ids).r r') : ADet P f args ⟨r', [], 0⟩ :=
  ⟨h.1, fun S w vs h1 h2 h3 => (h.2 S w vs h1 h2 h3).mono fun e w' ⟨v, L, R, h4, h5, h6, h7, h8⟩ => by
    obtain ⟨ids, ha, hc⟩ := hp R h4
    obtain ⟨h9, h10, h11⟩ := res_frzs ids h5 h7 h8
    have hext : Ext (Cx.mk0 S w h1) w' (R.frzs ids).tab L 0 w' [] L := ⟨fun _ _ => rfl, fun b hb => ⟨hb.1, hb.2.1, fun k o hk => (by cases hk)⟩, fun k p _ hk => by simp [Kx, ATab.get] at hk⟩
    have h12 := rt_of_rv (hext.rv h11 ha) ha
    exact ⟨v, L, ⟨r', [], 0⟩, rfl, ⟨fun id o hk => (by cases hk), hl⟩, h6, ⟨h10.below, fun id o hk => (by cases hk), fun id id' o o' g hk => (by cases hk), fun b hb => hb.elim⟩, .tree (hc.rt h12)⟩⟩
end
/-- a slice of the call's own, or nil for nothing -/
theorem adet_own_nil {P : Program} {f : FuncId} {args : List AV} {e : TypeId} {sz : Nat} {rows : List (List AV)} (h : ARel P f args fun R => R = own e sz rows ∨ (R = val (.slice none 0 0) ∧ rows = [])) : ADet P f args ⟨.sl sz rows, [], 0⟩ :=
  h.tree (by simp [AV.lt]) fun R hR => by
    rcases hR with rfl | ⟨rfl, rfl⟩
    · refine ⟨[0], ?_⟩
      have e : ((own e sz rows).frzs [0]).r = .sl sz rows := by simp [Res.frzs, Res.frz, own, ATab.get_cons, AV.frz]
      rw [e]
      exact ⟨trivial, .one (.one (.refl _))⟩
    · exact ⟨[], trivial, .one (.one (.nil sz))⟩
theorem clone64_A (l : List Int) (hl : l.length ≤ 1000000) : ADet Tryz.prog 50 [sI l] ⟨sI l, [], 0⟩ := by
  refine adet_own_nil (e := 2) ?_
  refine arel_of_code mixedT Tryz.func50 rfl (by decide) Tryz.ntmps50 Tryz.results50 rfl ?_
  (repeat' (first | simp (maxSteps := 5000000) (implicitDefEqProofs := false) only [ruA, ruB, aEv, aTake, aLoad, aField, aIndex, aLen, aBin, bin2, aUn, un1, aExtract, aConv, ASt.get, aget, ASt.put, aStore, aBox, aAppend, aBuildSlice, aMake, aBuild, aFill, oneParts, allC, aBinS, yv, aCells, oneC, oneCL, treeC, treeL, aLit, aDst, aSrc, appTab, Value.cells, Value.oneCell', envOf, aResL, aOne, ↓reduceIte, reduceCtorEq, forall_const, Nat.reduceLT, Nat.reduceEqDiff, Nat.reduceAdd, Nat.reduceMul, Nat.reduceSub, Nat.reduceLeDiff, Nat.reduceBEq, eq_self, implies_true, ne_eq, dref, dref1, dref2, aExecS, aStoreB, aTakes, aTakeE, aElder, aFrom, aFresh, isLoad, aBuildSlice1, frzs, frz1, ownIds, AV.frz, AV.frzL, frzEnv, AV.shift, AV.shiftL, aFieldV, aSliceW, aSliceO, aSlice, aSliceR, aSliceS, aBd, aMax, frzAVs, frzAV, frzTab, AObj.frz, aMM, aNilS, aMay, aNil, tyK_32, tyR_32] | (with_reducible refine aIf_split (fun _ => ?_) (fun _ => ?_)) | (with_reducible refine aSel_split (fun _ => ?_) (fun _ => ?_)) | (with_reducible refine aGd_split (fun _ => ?_) (fun _ => ?_))))
  intro c hc
  cases c with
  | true =>
    (repeat' (first | simp (maxSteps := 5000000) (implicitDefEqProofs := false) only [ruA, ruB, aEv, aTake, aLoad, aField, aIndex, aLen, aBin, bin2, aUn, un1, aExtract, aConv, ASt.get, aget, ASt.put, aStore, aBox, aAppend, aBuildSlice, aMake, aBuild, aFill, oneParts, allC, aBinS, yv, aCells, oneC, oneCL, treeC, treeL, aLit, aDst, aSrc, appTab, Value.cells, Value.oneCell', envOf, aResL, aOne, ↓reduceIte, reduceCtorEq, forall_const, Nat.reduceLT, Nat.reduceEqDiff, Nat.reduceAdd, Nat.reduceMul, Nat.reduceSub, Nat.reduceLeDiff, Nat.reduceBEq, eq_self, implies_true, ne_eq, dref, dref1, dref2, aExecS, aStoreB, aTakes, aTakeE, aElder, aFrom, aFresh, isLoad, aBuildSlice1, frzs, frz1, ownIds, AV.frz, AV.frzL, frzEnv, AV.shift, AV.shiftL, aFieldV, aSliceW, aSliceO, aSlice, aSliceR, aSliceS, aBd, aMax, frzAVs, frzAV, frzTab, AObj.frz, aMM, aNilS, aMay, aNil, tyK_32, tyR_32] | (with_reducible refine aIf_split (fun _ => ?_) (fun _ => ?_)) | (with_reducible refine aSel_split (fun _ => ?_) (fun _ => ?_)) | (with_reducible refine aGd_split (fun _ => ?_) (fun _ => ?_))))
    exact retV (.inr ⟨rfl, hc rfl⟩)
  | false =>
    (repeat' (first | simp (maxSteps := 5000000) (implicitDefEqProofs := false) only [ruA, ruB, aEv, aTake, aLoad, aField, aIndex, aLen, aBin, bin2, aUn, un1, aExtract, aConv, ASt.get, aget, ASt.put, aStore, aBox, aAppend, aBuildSlice, aMake, aBuild, aFill, oneParts, allC, aBinS, yv, aCells, oneC, oneCL, treeC, treeL, aLit, aDst, aSrc, appTab, Value.cells, Value.oneCell', envOf, aResL, aOne, ↓reduceIte, reduceCtorEq, forall_const, Nat.reduceLT, Nat.reduceEqDiff, Nat.reduceAdd, Nat.reduceMul, Nat.reduceSub, Nat.reduceLeDiff, Nat.reduceBEq, eq_self, implies_true, ne_eq, dref, dref1, dref2, aExecS, aStoreB, aTakes, aTakeE, aElder, aFrom, aFresh, isLoad, aBuildSlice1, frzs, frz1, ownIds, AV.frz, AV.frzL, frzEnv, AV.shift, AV.shiftL, aFieldV, aSliceW, aSliceO, aSlice, aSliceR, aSliceS, aBd, aMax, frzAVs, frzAV, frzTab, AObj.frz, aMM, aNilS, aMay, aNil, tyK_32, tyR_32] | (with_reducible refine aIf_split (fun _ => ?_) (fun _ => ?_)) | (with_reducible refine aSel_split (fun _ => ?_) (fun _ => ?_)) | (with_reducible refine aGd_split (fun _ => ?_) (fun _ => ?_))))
    exact ⟨rfl, by omega, retO rfl (.inl rfl)⟩
theorem ownI_A (l : List Int) (hl : l.length ≤ 1000000) : ADet Tryz.prog 57 [sI l] (own 3 1 (l.map fun n => [eI n])) := by
  refine adet_of_code mixedT Tryz.func57 rfl (by decide) Tryz.ntmps57 Tryz.results57 rfl (own_ok _ _ _) ?_
  (repeat' (first | simp (maxSteps := 5000000) (implicitDefEqProofs := false) only [ruA, ruB, aEv, aTake, aLoad, aField, aIndex, aLen, aBin, bin2, aUn, un1, aExtract, aConv, ASt.get, aget, ASt.put, aStore, aBox, aAppend, aBuildSlice, aMake, aBuild, aFill, oneParts, allC, aBinS, yv, aCells, oneC, oneCL, treeC, treeL, aLit, aDst, aSrc, appTab, Value.cells, Value.oneCell', envOf, aResL, aOne, ↓reduceIte, reduceCtorEq, forall_const, Nat.reduceLT, Nat.reduceEqDiff, Nat.reduceAdd, Nat.reduceMul, Nat.reduceSub, Nat.reduceLeDiff, Nat.reduceBEq, eq_self, implies_true, ne_eq, dref, dref1, dref2, aExecS, aStoreB, aTakes, aTakeE, aElder, aFrom, aFresh, isLoad, aBuildSlice1, frzs, frz1, ownIds, AV.frz, AV.frzL, frzEnv, AV.shift, AV.shiftL, aFieldV, aSliceW, aSliceO, aSlice, aSliceR, aSliceS, aBd, aMax, frzAVs, frzAV, frzTab, AObj.frz, aMM, aNilS, aMay, aNil, tyR_49, tyE_49, tyK_49] | (with_reducible refine aIf_split (fun _ => ?_) (fun _ => ?_)) | (with_reducible refine aSel_split (fun _ => ?_) (fun _ => ?_)) | (with_reducible refine aGd_split (fun _ => ?_) (fun _ => ?_))))
  exact ⟨rfl, by omega, aGives_own (by simp [ATab.get_cons, List.take_of_length_le])⟩
theorem ownI64_A (l : List Int) (hl : l.length ≤ 1000000) : ADet Tryz.prog 56 [sI l] (own 2 1 (l.map fun n => [eI n])) := by
  refine adet_of_code mixedT Tryz.func56 rfl (by decide) Tryz.ntmps56 Tryz.results56 rfl (own_ok _ _ _) ?_
  (repeat' (first | simp (maxSteps := 5000000) (implicitDefEqProofs := false) only [ruA, ruB, aEv, aTake, aLoad, aField, aIndex, aLen, aBin, bin2, aUn, un1, aExtract, aConv, ASt.get, aget, ASt.put, aStore, aBox, aAppend, aBuildSlice, aMake, aBuild, aFill, oneParts, allC, aBinS, yv, aCells, oneC, oneCL, treeC, treeL, aLit, aDst, aSrc, appTab, Value.cells, Value.oneCell', envOf, aResL, aOne, ↓reduceIte, reduceCtorEq, forall_const, Nat.reduceLT, Nat.reduceEqDiff, Nat.reduceAdd, Nat.reduceMul, Nat.reduceSub, Nat.reduceLeDiff, Nat.reduceBEq, eq_self, implies_true, ne_eq, dref, dref1, dref2, aExecS, aStoreB, aTakes, aTakeE, aElder, aFrom, aFresh, isLoad, aBuildSlice1, frzs, frz1, ownIds, AV.frz, AV.frzL, frzEnv, AV.shift, AV.shiftL, aFieldV, aSliceW, aSliceO, aSlice, aSliceR, aSliceS, aBd, aMax, frzAVs, frzAV, frzTab, AObj.frz, aMM, aNilS, aMay, aNil, tyR_32, tyE_32, tyK_32] | (with_reducible refine aIf_split (fun _ => ?_) (fun _ => ?_)) | (with_reducible refine aSel_split (fun _ => ?_) (fun _ => ?_)) | (with_reducible refine aGd_split (fun _ => ?_) (fun _ => ?_))))
  exact ⟨rfl, by omega, aGives_own (by simp [ATab.get_cons, List.take_of_length_le])⟩
def startS (m : Mod) : St := ⟨m.inits, 0, 0, List.replicate m.events.length 0, List.replicate m.events.length 0⟩
def startR (m : Mod) : Res := ⟨.agg [sI m.inits, eI 0, eI 0, .osl 0, .osl 1], [(0, some (.row 3 1 ((List.replicate m.events.length 0).map fun n => [eI n]))), (1, some (.row 3 1 ((List.replicate m.events.length 0).map fun n => [eI n])))], 2⟩
theorem startR_ok (m : Mod) : (startR m).Ok := tab_ok (by simp [startR, tabLt, AObj.lt, AV.ltL, AV.lt]) (by simp [startR, AV.lt, AV.ltL])
set_option maxRecDepth 100000 in
theorem start_A (m : Mod) (hl : m.inits.length ≤ 1000000) (hl2 : m.events.length ≤ 1000000) : ADet Tryz.prog 26 [.agg (eMod m)] ⟨.agg (eSt (startS m)), [], 0⟩ := by
  refine ADet.still (R := startR m) [0, 1] ?_ ?_ (by simp [AV.lt, AV.ltL])
  · refine adet_of_code mixedT Tryz.func26 rfl (by decide) Tryz.ntmps26 Tryz.results26 rfl (startR_ok _) ?_
    (repeat' (first | simp (maxSteps := 5000000) (implicitDefEqProofs := false) only [ruA, ruB, aEv, aTake, aLoad, aField, aIndex, aLen, aBin, bin2, aUn, un1, aExtract, aConv, ASt.get, aget, ASt.put, aStore, aBox, aAppend, aBuildSlice, aMake, aBuild, aFill, oneParts, allC, aBinS, yv, aCells, oneC, oneCL, treeC, treeL, aLit, aDst, aSrc, appTab, Value.cells, Value.oneCell', envOf, aResL, aOne, ↓reduceIte, reduceCtorEq, forall_const, Nat.reduceLT, Nat.reduceEqDiff, Nat.reduceAdd, Nat.reduceMul, Nat.reduceSub, Nat.reduceLeDiff, Nat.reduceBEq, eq_self, implies_true, ne_eq, dref, dref1, dref2, aExecS, aStoreB, aTakes, aTakeE, aElder, aFrom, aFresh, isLoad, aBuildSlice1, frzs, frz1, ownIds, AV.frz, AV.frzL, frzEnv, AV.shift, AV.shiftL, aFieldV, aSliceW, aSliceO, aSlice, aSliceR, aSliceS, aBd, aMax, frzAVs, frzAV, frzTab, AObj.frz, aMM, aNilS, aMay, aNil, tyA_51, tyS_51, tyZ_51, tyF_41_1, tyA_32, tyS_32, tyF_41_5, tyA_35, tyS_35, tyE_35, tyK_35, tyR_49, tyZ_3, tyB_51] | (with_reducible refine aIf_split (fun _ => ?_) (fun _ => ?_)) | (with_reducible refine aSel_split (fun _ => ?_) (fun _ => ?_)) | (with_reducible refine aGd_split (fun _ => ?_) (fun _ => ?_))))
    refine aDraw_held [1] [0, 1, 3, 4, 5, 7, 8, 9] (.three 2 (.two 6 (.exec 10 (.take 11 (.exec 12 .done))) 10 (.exec 6 (.take 11 (.exec 12 .done)))) 6 (.two 2 (.exec 10 (.take 11 (.exec 12 .done))) 10 (.exec 2 (.take 11 (.exec 12 .done)))) 10 (.two 2 (.exec 6 (.take 11 (.exec 12 .done))) 6 (.exec 2 (.take 11 (.exec 12 .done))))) (by kernel_rfl) (by simp [ATab.get_cons]) ?_
    (repeat' (first | simp (maxSteps := 5000000) (implicitDefEqProofs := false) only [ruA, ruB, aEv, aTake, aLoad, aField, aIndex, aLen, aBin, bin2, aUn, un1, aExtract, aConv, ASt.get, aget, ASt.put, aStore, aBox, aAppend, aBuildSlice, aMake, aBuild, aFill, oneParts, allC, aBinS, yv, aCells, oneC, oneCL, treeC, treeL, aLit, aDst, aSrc, appTab, Value.cells, Value.oneCell', envOf, aResL, aOne, ↓reduceIte, reduceCtorEq, forall_const, Nat.reduceLT, Nat.reduceEqDiff, Nat.reduceAdd, Nat.reduceMul, Nat.reduceSub, Nat.reduceLeDiff, Nat.reduceBEq, eq_self, implies_true, ne_eq, dref, dref1, dref2, aExecS, aStoreB, aTakes, aTakeE, aElder, aFrom, aFresh, isLoad, aBuildSlice1, frzs, frz1, ownIds, AV.frz, AV.frzL, frzEnv, AV.shift, AV.shiftL, aFieldV, aSliceW, aSliceO, aSlice, aSliceR, aSliceS, aBd, aMax, frzAVs, frzAV, frzTab, AObj.frz, aMM, aNilS, aMay, aNil, tyA_51, tyS_51, tyZ_51, tyF_41_1, tyA_32, tyS_32, tyF_41_5, tyA_35, tyS_35, tyE_35, tyK_35, tyR_49, tyZ_3, tyB_51] | (with_reducible refine aIf_split (fun _ => ?_) (fun _ => ?_)) | (with_reducible refine aSel_split (fun _ => ?_) (fun _ => ?_)) | (with_reducible refine aGd_split (fun _ => ?_) (fun _ => ?_)) | (with_reducible refine aDraw_quiet (by kernel_rfl) ?_) | ((with_reducible apply callT (g := 50)); exact (clone64_A _ hl); exact (.inl (by simp [roL, roA, treeL, treeC]))) | (with_reducible apply And.intro)))
    all_goals first
      | omega
      | exact ⟨[2, 3], by decide, rfl, by simp [aTabs, startR, ATab.get_cons]⟩
      | exact ⟨[3, 2], by decide, rfl, by simp [aTabs, startR, ATab.get_cons]⟩
      | trace_state
  · simp [startR, startS, Res.frzs, Res.frz, ATab.get_cons, AV.frz, AV.frzL, frzTab, AObj.frz]
end
section
open Go.RowKit
structure Mv where
  event : Int
  user : Int
  vals : List Int
abbrev eMv (v : Mv) : List AV := [eI v.event, eI v.user, sI v.vals]
def idleM (v : Mv) : Bool := (v.event == -1) && (v.user == -1) && decide (v.vals.length = 0)
set_option maxRecDepth 100000 in
theorem idle_A (v : Mv) : ADet Tryz.prog 33 [.agg (eMv v)] (val (.bool (idleM v))) := by
  refine adet_of_code mixedT Tryz.func33 rfl (by decide) Tryz.ntmps33 Tryz.results33 rfl (val_ok _) ?_
  unfold idleM
  (repeat' (first | simp (maxSteps := 5000000) (implicitDefEqProofs := false) only [ruA, ruB, aEv, aTake, aLoad, aField, aIndex, aLen, aBin, bin2, aUn, un1, aExtract, aConv, ASt.get, aget, ASt.put, aStore, aBox, aAppend, aBuildSlice, aMake, aBuild, aFill, oneParts, allC, aBinS, yv, aCells, oneC, oneCL, treeC, treeL, aLit, aDst, aSrc, appTab, Value.cells, Value.oneCell', envOf, aResL, aOne, ↓reduceIte, reduceCtorEq, forall_const, Nat.reduceLT, Nat.reduceEqDiff, Nat.reduceAdd, Nat.reduceMul, Nat.reduceSub, Nat.reduceLeDiff, Nat.reduceBEq, eq_self, implies_true, ne_eq, dref, dref1, dref2, aExecS, aStoreB, aTakes, aTakeE, aElder, aFrom, aFresh, isLoad, aBuildSlice1, frzs, frz1, ownIds, AV.frz, AV.frzL, frzEnv, AV.shift, AV.shiftL, aFieldV, aSliceW, aSliceO, aSlice, aSliceR, aSliceS, aBd, aMax, frzAVs, frzAV, frzTab, AObj.frz, aMM, aNilS, aMay, aNil, tyF_43_0, tyA_3, tyS_3, tyK_3, tyF_43_1, tyF_43_2, tyA_32, tyS_32, tyE_32, tyK_32] | (with_reducible refine aIf_split (fun _ => ?_) (fun _ => ?_)) | (with_reducible refine aSel_split (fun _ => ?_) (fun _ => ?_)) | (with_reducible refine aGd_split (fun _ => ?_) (fun _ => ?_)) | (with_reducible refine aDraw_quiet (by kernel_rfl) ?_)))
  all_goals grind
def beginM (m : Mod) : St := passM m (-1) (startS m) m.order.length
set_option maxRecDepth 100000 in
theorem begin_A (m : Mod) (hf : Fit m) (hc : condOk m) (hp : ∀ p ∈ m.stages, ok64 p.2) (hi : ∀ x ∈ m.inits, ok64 x) : ADet Tryz.prog 12 [.agg (eMod m)] ⟨.agg (eSt (beginM m)), [], 0⟩ := by
  refine adet_of_code mixedT Tryz.func12 rfl (by decide) Tryz.ntmps12 Tryz.results12 rfl (stOk _) ?_
  obtain ⟨-, -, -, hel, -, -, -, -, -, hil⟩ := id hf.sizes
  (repeat' (first | simp (maxSteps := 5000000) (implicitDefEqProofs := false) only [ruA, ruB, aEv, aTake, aLoad, aField, aIndex, aLen, aBin, bin2, aUn, un1, aExtract, aConv, ASt.get, aget, ASt.put, aStore, aBox, aAppend, aBuildSlice, aMake, aBuild, aFill, oneParts, allC, aBinS, yv, aCells, oneC, oneCL, treeC, treeL, aLit, aDst, aSrc, appTab, Value.cells, Value.oneCell', envOf, aResL, aOne, ↓reduceIte, reduceCtorEq, forall_const, Nat.reduceLT, Nat.reduceEqDiff, Nat.reduceAdd, Nat.reduceMul, Nat.reduceSub, Nat.reduceLeDiff, Nat.reduceBEq, eq_self, implies_true, ne_eq, dref, dref1, dref2, aExecS, aStoreB, aTakes, aTakeE, aElder, aFrom, aFresh, isLoad, aBuildSlice1, frzs, frz1, ownIds, AV.frz, AV.frzL, frzEnv, AV.shift, AV.shiftL, aFieldV, aSliceW, aSliceO, aSlice, aSliceR, aSliceS, aBd, aMax, frzAVs, frzAV, frzTab, AObj.frz, aMM, aNilS, aMay, aNil, tyA_51, tyS_51, tyZ_51, tyA_41, tyS_41] | (with_reducible refine aIf_split (fun _ => ?_) (fun _ => ?_)) | (with_reducible refine aSel_split (fun _ => ?_) (fun _ => ?_)) | (with_reducible refine aGd_split (fun _ => ?_) (fun _ => ?_))))
  refine aDraw_held [1] [0, 1] (.exec 2 (.exec 3 (.exec 4 .done))) (by kernel_rfl) (by simp [ATab.get_cons]) ?_
  (repeat' (first | simp (maxSteps := 5000000) (implicitDefEqProofs := false) only [ruA, ruB, aEv, aTake, aLoad, aField, aIndex, aLen, aBin, bin2, aUn, un1, aExtract, aConv, ASt.get, aget, ASt.put, aStore, aBox, aAppend, aBuildSlice, aMake, aBuild, aFill, oneParts, allC, aBinS, yv, aCells, oneC, oneCL, treeC, treeL, aLit, aDst, aSrc, appTab, Value.cells, Value.oneCell', envOf, aResL, aOne, ↓reduceIte, reduceCtorEq, forall_const, Nat.reduceLT, Nat.reduceEqDiff, Nat.reduceAdd, Nat.reduceMul, Nat.reduceSub, Nat.reduceLeDiff, Nat.reduceBEq, eq_self, implies_true, ne_eq, dref, dref1, dref2, aExecS, aStoreB, aTakes, aTakeE, aElder, aFrom, aFresh, isLoad, aBuildSlice1, frzs, frz1, ownIds, AV.frz, AV.frzL, frzEnv, AV.shift, AV.shiftL, aFieldV, aSliceW, aSliceO, aSlice, aSliceR, aSliceS, aBd, aMax, frzAVs, frzAV, frzTab, AObj.frz, aMM, aNilS, aMay, aNil, tyA_51, tyS_51, tyZ_51, tyA_41, tyS_41] | (with_reducible refine aIf_split (fun _ => ?_) (fun _ => ?_)) | (with_reducible refine aSel_split (fun _ => ?_) (fun _ => ?_)) | (with_reducible refine aGd_split (fun _ => ?_) (fun _ => ?_)) | (with_reducible refine aDraw_quiet (by kernel_rfl) ?_) | ((with_reducible apply callT (g := 26)); exact (start_A _ (by omega) (by omega)); exact (.inl (by simp [roL, roA, treeL, treeC]))) | ((with_reducible apply callT (g := 25)); exact (pass_A m (startS m) (-1) hf hc hp hi); exact (.inl (by simp [roL, roA, treeL, treeC])))))
  exact gives_tree (by simp [AV.ren, AV.renL, beginM])
end
end Go.Proofs.YtmochnclbcbijaaGreat
