/-
  Chapter 19, parts: moves; the law of StepBegins. No condition but lengths.
-/
import Derived.Test.YtfocnmkbnccilaaDC
set_option linter.unusedVariables false
set_option linter.unusedSimpArgs false
namespace Go.Proofs.Ytfocnmkbnccilaa
section
open Go.RowKit
/-- what is put into numbers -/
def setVals (sets mv vals : List Int) : Nat → List Int
  | 0 => vals
  | k + 1 =>
    let v := setVals sets mv vals k
    let a := sets.getD k 0
    if 0 ≤ a ∧ a < (v.length : Int) then v.set a.toNat (mv.getD k 0) else v
theorem setVals_len (sets mv vals : List Int) : ∀ k, (setVals sets mv vals k).length = vals.length
  | 0 => rfl
  | k + 1 => by
    have := setVals_len sets mv vals k
    unfold setVals
    simp only
    split
    · simp [this]
    · exact this
noncomputable def takeM (m : Mod) (s : St) (v : Mv) : St :=
  match evAt m v.event with
  | none => s
  | some x => ⟨setVals x.sets v.vals s.vals x.sets.length, s.opn, s.don, s.did.set v.event.toNat (withB (s.did.getD v.event.toNat 0) v.user), if 0 < x.times then s.cnt.set v.event.toNat (s.cnt.getD v.event.toNat 0 + 1) else s.cnt⟩
set_option maxRecDepth 100000 in
set_option maxHeartbeats 8000000 in
theorem take_A (m : Mod) (s : St) (v : Mv) (e : Nat) (x : Ev) (he : v.event = (e : Int)) (hlt : e < m.events.length) (hx : m.events[e] = x) (hd : e < s.did.length) (hc : e < s.cnt.length) (hv : x.sets.length ≤ v.vals.length)
    (hl1 : s.vals.length ≤ 1000000) (hl2 : s.did.length ≤ 1000000) (hl3 : s.cnt.length ≤ 1000000) (hl4 : x.sets.length ≤ 1000000) (hw : 0 < x.times → -9223372036854775808 ≤ s.cnt[e] ∧ s.cnt[e] < 9223372036854775807) :
    ADet Try.prog 43 [.agg (eMod m), .agg (eSt s), .agg (eMv v)] ⟨.agg (eSt (takeM m s v)), [], 0⟩ := by
  obtain ⟨ve, vu, vv⟩ := v
  simp only at he hv
  subst he
  have ee : evAt m (e : Int) = some x := by simp [evAt, hlt, hx]
  have et : takeM m s ⟨(e : Int), vu, vv⟩ = ⟨setVals x.sets vv s.vals x.sets.length, s.opn, s.don, s.did.set e (withB s.did[e] vu), if 0 < x.times then s.cnt.set e (s.cnt[e] + 1) else s.cnt⟩ := by
    unfold takeM
    simp only [ee, Int.toNat_natCast, List.getD_eq_getElem?_getD, List.getElem?_eq_getElem hd, List.getElem?_eq_getElem hc, Option.getD_some]
  rw [et]
  refine ADet.still (R := ⟨.agg [.osl 0, eI s.opn, eI s.don, .osl 1, .osl 2], [(0, some (.row 2 1 ((setVals x.sets vv s.vals x.sets.length).map fun n => [eI n]))), (1, some (.row 3 1 ((s.did.set e (withB s.did[e] vu)).map fun n => [eI n]))), (2, some (.row 3 1 ((if 0 < x.times then s.cnt.set e (s.cnt[e] + 1) else s.cnt).map fun n => [eI n])))], 3⟩) [0, 1, 2] ?_ ?_ (by simp [AV.lt, AV.ltL])
  · refine adet_of_code mixedT Try.func43 rfl (by decide) Try.ntmps43 Try.results43 rfl (tab_ok (by simp [tabLt, AObj.lt, AV.ltL, AV.lt]) (by simp [AV.lt, AV.ltL])) ?_
    (repeat' (first | simp (maxSteps := 5000000) (implicitDefEqProofs := false) only [ruA, ruB, aEv, aTake, aLoad, aField, aIndex, aLen, aBin, bin2, aUn, un1, aExtract, aConv, ASt.get, aget, ASt.put, aStore, aBox, aAppend, aBuildSlice, aMake, aBuild, aFill, oneParts, allC, aBinS, yv, aCells, oneC, oneCL, treeC, treeL, aLit, aDst, aSrc, appTab, Value.cells, Value.oneCell', envOf, aResL, aOne, ↓reduceIte, reduceCtorEq, forall_const, Nat.reduceLT, Nat.reduceEqDiff, Nat.reduceAdd, Nat.reduceMul, Nat.reduceSub, Nat.reduceLeDiff, Nat.reduceBEq, eq_self, implies_true, ne_eq, dref, dref1, dref2, aExecS, aStoreB, aTakes, aTakeE, aElder, aFrom, aFresh, isLoad, aBuildSlice1, frzs, frz1, ownIds, AV.frz, AV.frzL, frzEnv, AV.shift, AV.shiftL, aFieldV, aSliceW, aSliceO, aSlice, aSliceR, aSliceS, aBd, aMax, frzAVs, frzAV, frzTab, AObj.frz, aMM, aNilS, tyA_38, tyS_38, tyZ_38, tyF_32_5, tyA_26, tyS_26, tyF_42_0, tyA_3, tyS_3, tyE_26, tyA_66, tyS_66, tyZ_66, tyF_38_0, tyA_23, tyS_23, tyF_38_3, tyA_36, tyS_36, tyF_38_4, tyF_66_3, tyE_36, tyK_36, tyK_3, tyE_23, tyK_23, tyF_42_2, tyA_2, tyS_2, tyF_42_1, tyF_66_4, row_at, hlt, hx] | (with_reducible refine aIf_split (fun _ => ?_) (fun _ => ?_)) | (with_reducible refine aSel_split (fun _ => ?_) (fun _ => ?_)) | (with_reducible refine aGd_split (fun _ => ?_) (fun _ => ?_))))

    refine aDraw_join (fun st' => st' = ⟨81, [(3, .op 0 0 0), (4, .op 1 0 0), (5, .op 2 0 0), (6, .op 3 0 0), (7, .op 4 0 0)], [(0, some (.box 32 (eMod m))), (1, some (.box 38 [.osl 5, eI s.opn, eI s.don, .osl 6, .osl 7])), (2, some (.box 42 [eI (e : Int), eI vu, sI vv])), (3, some (.box 38 [.c (.slice none 0 0), eI 0, eI 0, .c (.slice none 0 0), .c (.slice none 0 0)])), (4, some (.box 66 (eEv x))), (5, some (.row 2 1 (s.vals.map fun n => [eI n]))), (6, some (.row 3 1 (s.did.map fun n => [eI n]))), (7, some (.row 3 1 (s.cnt.map fun n => [eI n])))], 8⟩) [1] [0, 3, 6] (.three 1 (.three 2 (.two 4 (.two 5 (.exec 7 (.take 9 (.exec 8 (.exec 10 (.take 11 (.exec 12 (.take 13 (.exec 14 .done)))))))) 7 (.take 9 (.exec 5 (.exec 8 (.exec 10 (.take 11 (.exec 12 (.take 13 (.exec 14 .done))))))))) 7 (.exec 4 (.take 9 (.exec 5 (.exec 8 (.exec 10 (.take 11 (.exec 12 (.take 13 (.exec 14 .done)))))))))) 4 (.two 2 (.two 5 (.exec 7 (.take 9 (.exec 8 (.exec 10 (.take 11 (.exec 12 (.take 13 (.exec 14 .done)))))))) 7 (.take 9 (.exec 5 (.exec 8 (.exec 10 (.take 11 (.exec 12 (.take 13 (.exec 14 .done))))))))) 7 (.exec 2 (.take 9 (.exec 5 (.exec 8 (.exec 10 (.take 11 (.exec 12 (.take 13 (.exec 14 .done)))))))))) 7 (.two 2 (.exec 4 (.take 9 (.exec 5 (.exec 8 (.exec 10 (.take 11 (.exec 12 (.take 13 (.exec 14 .done))))))))) 4 (.exec 2 (.take 9 (.exec 5 (.exec 8 (.exec 10 (.take 11 (.exec 12 (.take 13 (.exec 14 .done))))))))))) 4 (.two 1 (.two 2 (.two 5 (.exec 7 (.take 9 (.exec 8 (.exec 10 (.take 11 (.exec 12 (.take 13 (.exec 14 .done)))))))) 7 (.take 9 (.exec 5 (.exec 8 (.exec 10 (.take 11 (.exec 12 (.take 13 (.exec 14 .done))))))))) 7 (.exec 2 (.take 9 (.exec 5 (.exec 8 (.exec 10 (.take 11 (.exec 12 (.take 13 (.exec 14 .done)))))))))) 7 (.exec 1 (.exec 2 (.take 9 (.exec 5 (.exec 8 (.exec 10 (.take 11 (.exec 12 (.take 13 (.exec 14 .done))))))))))) 7 (.two 1 (.two 2 (.exec 4 (.take 9 (.exec 5 (.exec 8 (.exec 10 (.take 11 (.exec 12 (.take 13 (.exec 14 .done))))))))) 4 (.exec 2 (.take 9 (.exec 5 (.exec 8 (.exec 10 (.take 11 (.exec 12 (.take 13 (.exec 14 .done)))))))))) 4 (.exec 1 (.exec 2 (.take 9 (.exec 5 (.exec 8 (.exec 10 (.take 11 (.exec 12 (.take 13 (.exec 14 .done)))))))))))) (by kernel_rfl) (by simp [ATab.get_cons]) ?_ ?_
    · (repeat' (first | simp (maxSteps := 5000000) (implicitDefEqProofs := false) only [ruA, ruB, aEv, aTake, aLoad, aField, aIndex, aLen, aBin, bin2, aUn, un1, aExtract, aConv, ASt.get, aget, ASt.put, aStore, aBox, aAppend, aBuildSlice, aMake, aBuild, aFill, oneParts, allC, aBinS, yv, aCells, oneC, oneCL, treeC, treeL, aLit, aDst, aSrc, appTab, Value.cells, Value.oneCell', envOf, aResL, aOne, ↓reduceIte, reduceCtorEq, forall_const, Nat.reduceLT, Nat.reduceEqDiff, Nat.reduceAdd, Nat.reduceMul, Nat.reduceSub, Nat.reduceLeDiff, Nat.reduceBEq, eq_self, implies_true, ne_eq, dref, dref1, dref2, aExecS, aStoreB, aTakes, aTakeE, aElder, aFrom, aFresh, isLoad, aBuildSlice1, frzs, frz1, ownIds, AV.frz, AV.frzL, frzEnv, AV.shift, AV.shiftL, aFieldV, aSliceW, aSliceO, aSlice, aSliceR, aSliceS, aBd, aMax, frzAVs, frzAV, frzTab, AObj.frz, aMM, aNilS, tyA_38, tyS_38, tyZ_38, tyF_32_5, tyA_26, tyS_26, tyF_42_0, tyA_3, tyS_3, tyE_26, tyA_66, tyS_66, tyZ_66, tyF_38_0, tyA_23, tyS_23, tyF_38_3, tyA_36, tyS_36, tyF_38_4, tyF_66_3, tyE_36, tyK_36, tyK_3, tyE_23, tyK_23, tyF_42_2, tyA_2, tyS_2, tyF_42_1, tyF_66_4] | (with_reducible refine aIf_split (fun _ => ?_) (fun _ => ?_)) | (with_reducible refine aSel_split (fun _ => ?_) (fun _ => ?_)) | (with_reducible refine aGd_split (fun _ => ?_) (fun _ => ?_)) | (with_reducible refine aDraw_quiet (by kernel_rfl) ?_) | ((with_reducible apply callO (g := 74)); exact (ownI64_A _ hl1); exact (.inr ints_plain)) | ((with_reducible apply callO (g := 75)); exact (ownI_A _ hl2); exact (.inr ints_plain)) | ((with_reducible apply callO (g := 75)); exact (ownI_A _ hl3); exact (.inr ints_plain)) | (with_reducible apply And.intro)))
      all_goals exact aTo_mk (weak_ren1 [0, 1, 2, 3, 4, 5, 6, 7] ⟨(by decide), (by (first | ((simp only [envInR, tabInR, envLt, tabLt, AObj.lt, AV.lt, AV.ltL, AV.ren, AV.renL, AObj.ren, List.getD_cons_zero, List.getD_cons_succ, List.length_cons, List.length_nil, ruW, ASt.get, aget, ASt.put, ↓reduceIte, reduceCtorEq, Nat.reduceLT, Nat.reduceEqDiff, Nat.reduceAdd, Nat.reduceLeDiff, eq_self, implies_true]) <;> (repeat' apply And.intro) <;> first | (rw [wrapK (by omega)]; done) | (simp; done) | omega) | fail))⟩) rfl
    · rintro _ rfl
      have es0 : setVals x.sets vv s.vals 0 = s.vals := rfl
      (repeat' (first | simp (maxSteps := 5000000) (implicitDefEqProofs := false) only [ruA, ruB, aEv, aTake, aLoad, aField, aIndex, aLen, aBin, bin2, aUn, un1, aExtract, aConv, ASt.get, aget, ASt.put, aStore, aBox, aAppend, aBuildSlice, aMake, aBuild, aFill, oneParts, allC, aBinS, yv, aCells, oneC, oneCL, treeC, treeL, aLit, aDst, aSrc, appTab, Value.cells, Value.oneCell', envOf, aResL, aOne, ↓reduceIte, reduceCtorEq, forall_const, Nat.reduceLT, Nat.reduceEqDiff, Nat.reduceAdd, Nat.reduceMul, Nat.reduceSub, Nat.reduceLeDiff, Nat.reduceBEq, eq_self, implies_true, ne_eq, dref, dref1, dref2, aExecS, aStoreB, aTakes, aTakeE, aElder, aFrom, aFresh, isLoad, aBuildSlice1, frzs, frz1, ownIds, AV.frz, AV.frzL, frzEnv, AV.shift, AV.shiftL, aFieldV, aSliceW, aSliceO, aSlice, aSliceR, aSliceS, aBd, aMax, frzAVs, frzAV, frzTab, AObj.frz, aMM, aNilS, tyA_38, tyS_38, tyZ_38, tyF_32_5, tyA_26, tyS_26, tyF_42_0, tyA_3, tyS_3, tyE_26, tyA_66, tyS_66, tyZ_66, tyF_38_0, tyA_23, tyS_23, tyF_38_3, tyA_36, tyS_36, tyF_38_4, tyF_66_3, tyE_36, tyK_36, tyK_3, tyE_23, tyK_23, tyF_42_2, tyA_2, tyS_2, tyF_42_1, tyF_66_4] | (with_reducible refine aIf_split (fun _ => ?_) (fun _ => ?_)) | (with_reducible refine aSel_split (fun _ => ?_) (fun _ => ?_)) | (with_reducible refine aGd_split (fun _ => ?_) (fun _ => ?_))))
      refine aLoop_of (fun st' => ∃ k : Nat, k ≤ x.sets.length ∧ st' = ⟨81, [(3, .op 0 0 0), (4, .op 1 0 0), (5, .op 2 0 0), (6, .op 3 0 0), (7, .op 4 0 0), (29, sI x.sets), (30, eI (x.sets.length : Int)), (31, eI (k : Int))], [(0, some (.box 32 (eMod m))), (1, some (.box 38 [.osl 5, eI s.opn, eI s.don, .osl 6, .osl 7])), (2, some (.box 42 [eI (e : Int), eI vu, sI vv])), (3, some (.box 38 [.c (.slice none 0 0), eI 0, eI 0, .c (.slice none 0 0), .c (.slice none 0 0)])), (4, some (.box 66 (eEv x))), (5, some (.row 2 1 ((setVals x.sets vv s.vals k).map fun n => [eI n]))), (6, some (.row 3 1 (s.did.map fun n => [eI n]))), (7, some (.row 3 1 (s.cnt.map fun n => [eI n])))], 8⟩) (fun st' => x.sets.length - slotN st' 31) ⟨_, (weak_cut1 (by (first | ((simp only [envIn, tabIn, envLt, tabLt, AObj.lt, AV.lt, AV.ltL, ruW, ASt.get, aget, ASt.put, ↓reduceIte, reduceCtorEq, Nat.reduceLT, Nat.reduceEqDiff, Nat.reduceAdd, Nat.reduceLeDiff, eq_self, implies_true, es0]) <;> (repeat' apply And.intro) <;> first | (rw [wrapK (by omega)]; done) | (simp; done) | omega) | fail))), 0, Nat.zero_le _, rfl⟩ ?_
      rintro _ ⟨k, hk, rfl⟩
      have hsl := setVals_len x.sets vv s.vals k
      by_cases hk2 : k < x.sets.length
      · have hkv : k < vv.length := by omega
        obtain ⟨a, ha⟩ : ∃ a, x.sets[k] = a := ⟨_, rfl⟩
        by_cases hin : 0 ≤ a ∧ a < ((setVals x.sets vv s.vals k).length : Int)
        · obtain ⟨q, rfl⟩ : ∃ q : Nat, a = (q : Int) := ⟨a.toNat, by omega⟩
          have hq : q < (setVals x.sets vv s.vals k).length := by omega
          have ev : setVals x.sets vv s.vals (k + 1) = (setVals x.sets vv s.vals k).set q vv[k] := by
            rw [setVals]
            simp only [List.getD_eq_getElem?_getD, List.getElem?_eq_getElem hk2, List.getElem?_eq_getElem hkv, Option.getD_some, ha]
            rw [if_pos (by omega)]
            rfl
          have es : ((setVals x.sets vv s.vals k).map fun n => [eI n]).set q [eI vv[k]] = (setVals x.sets vv s.vals (k + 1)).map fun n => [eI n] := by rw [ev, List.map_set]
          have hq1 : decide ((q : Int) < (((setVals x.sets vv s.vals k).length : Nat) : Int)) = true := by simp; omega
          (repeat' (first | simp (maxSteps := 5000000) (implicitDefEqProofs := false) only [ruA, ruB, aEv, aTake, aLoad, aField, aIndex, aLen, aBin, bin2, aUn, un1, aExtract, aConv, ASt.get, aget, ASt.put, aStore, aBox, aAppend, aBuildSlice, aMake, aBuild, aFill, oneParts, allC, aBinS, yv, aCells, oneC, oneCL, treeC, treeL, aLit, aDst, aSrc, appTab, Value.cells, Value.oneCell', envOf, aResL, aOne, ↓reduceIte, reduceCtorEq, forall_const, Nat.reduceLT, Nat.reduceEqDiff, Nat.reduceAdd, Nat.reduceMul, Nat.reduceSub, Nat.reduceLeDiff, Nat.reduceBEq, eq_self, implies_true, ne_eq, dref, dref1, dref2, aExecS, aStoreB, aTakes, aTakeE, aElder, aFrom, aFresh, isLoad, aBuildSlice1, frzs, frz1, ownIds, AV.frz, AV.frzL, frzEnv, AV.shift, AV.shiftL, aFieldV, aSliceW, aSliceO, aSlice, aSliceR, aSliceS, aBd, aMax, frzAVs, frzAV, frzTab, AObj.frz, aMM, aNilS, tyA_38, tyS_38, tyZ_38, tyF_32_5, tyA_26, tyS_26, tyF_42_0, tyA_3, tyS_3, tyE_26, tyA_66, tyS_66, tyZ_66, tyF_38_0, tyA_23, tyS_23, tyF_38_3, tyA_36, tyS_36, tyF_38_4, tyF_66_3, tyE_36, tyK_36, tyK_3, tyE_23, tyK_23, tyF_42_2, tyA_2, tyS_2, tyF_42_1, tyF_66_4, row_at, hk2, ha, hq1, hkv] | (with_reducible refine aIf_split (fun _ => ?_) (fun _ => ?_)) | (with_reducible refine aSel_split (fun _ => ?_) (fun _ => ?_)) | (with_reducible refine aGd_split (fun _ => ?_) (fun _ => ?_))))
          · refine aDraw_held [5] [0, 1, 2, 3, 4, 5, 6, 7, 8] (.exec 9 .done) (by kernel_rfl) (by simp [ATab.get_cons]) ?_
            (repeat' (first | simp (maxSteps := 5000000) (implicitDefEqProofs := false) only [ruA, ruB, aEv, aTake, aLoad, aField, aIndex, aLen, aBin, bin2, aUn, un1, aExtract, aConv, ASt.get, aget, ASt.put, aStore, aBox, aAppend, aBuildSlice, aMake, aBuild, aFill, oneParts, allC, aBinS, yv, aCells, oneC, oneCL, treeC, treeL, aLit, aDst, aSrc, appTab, Value.cells, Value.oneCell', envOf, aResL, aOne, ↓reduceIte, reduceCtorEq, forall_const, Nat.reduceLT, Nat.reduceEqDiff, Nat.reduceAdd, Nat.reduceMul, Nat.reduceSub, Nat.reduceLeDiff, Nat.reduceBEq, eq_self, implies_true, ne_eq, dref, dref1, dref2, aExecS, aStoreB, aTakes, aTakeE, aElder, aFrom, aFresh, isLoad, aBuildSlice1, frzs, frz1, ownIds, AV.frz, AV.frzL, frzEnv, AV.shift, AV.shiftL, aFieldV, aSliceW, aSliceO, aSlice, aSliceR, aSliceS, aBd, aMax, frzAVs, frzAV, frzTab, AObj.frz, aMM, aNilS, tyA_38, tyS_38, tyZ_38, tyF_32_5, tyA_26, tyS_26, tyF_42_0, tyA_3, tyS_3, tyE_26, tyA_66, tyS_66, tyZ_66, tyF_38_0, tyA_23, tyS_23, tyF_38_3, tyA_36, tyS_36, tyF_38_4, tyF_66_3, tyE_36, tyK_36, tyK_3, tyE_23, tyK_23, tyF_42_2, tyA_2, tyS_2, tyF_42_1, tyF_66_4, row_at, hk2, ha, hkv, hq] | (with_reducible refine aIf_split (fun _ => ?_) (fun _ => ?_)) | (with_reducible refine aSel_split (fun _ => ?_) (fun _ => ?_)) | (with_reducible refine aGd_split (fun _ => ?_) (fun _ => ?_))))
            exact roundI (weak_cut1 (by (first | ((simp only [envIn, tabIn, envLt, tabLt, AObj.lt, AV.lt, AV.ltL, ruW, ASt.get, aget, ASt.put, ↓reduceIte, reduceCtorEq, Nat.reduceLT, Nat.reduceEqDiff, Nat.reduceAdd, Nat.reduceLeDiff, eq_self, implies_true, es]) <;> (repeat' apply And.intro) <;> first | (rw [wrapK (by omega)]; done) | (simp; done) | omega) | fail))) ⟨k + 1, by omega, rfl⟩ (by simp only [slotN, ruW, ASt.get, aget, ASt.put, ↓reduceIte, reduceCtorEq, Nat.reduceLT, Nat.reduceEqDiff, Nat.reduceAdd, Nat.reduceLeDiff, eq_self, implies_true]; omega)
          · rename_i h
            simp at h
            omega
        · have ev : setVals x.sets vv s.vals (k + 1) = setVals x.sets vv s.vals k := by
            rw [setVals]
            simp only [List.getD_eq_getElem?_getD, List.getElem?_eq_getElem hk2, Option.getD_some, ha]
            rw [if_neg hin]
          (repeat' (first | simp (maxSteps := 5000000) (implicitDefEqProofs := false) only [ruA, ruB, aEv, aTake, aLoad, aField, aIndex, aLen, aBin, bin2, aUn, un1, aExtract, aConv, ASt.get, aget, ASt.put, aStore, aBox, aAppend, aBuildSlice, aMake, aBuild, aFill, oneParts, allC, aBinS, yv, aCells, oneC, oneCL, treeC, treeL, aLit, aDst, aSrc, appTab, Value.cells, Value.oneCell', envOf, aResL, aOne, ↓reduceIte, reduceCtorEq, forall_const, Nat.reduceLT, Nat.reduceEqDiff, Nat.reduceAdd, Nat.reduceMul, Nat.reduceSub, Nat.reduceLeDiff, Nat.reduceBEq, eq_self, implies_true, ne_eq, dref, dref1, dref2, aExecS, aStoreB, aTakes, aTakeE, aElder, aFrom, aFresh, isLoad, aBuildSlice1, frzs, frz1, ownIds, AV.frz, AV.frzL, frzEnv, AV.shift, AV.shiftL, aFieldV, aSliceW, aSliceO, aSlice, aSliceR, aSliceS, aBd, aMax, frzAVs, frzAV, frzTab, AObj.frz, aMM, aNilS, tyA_38, tyS_38, tyZ_38, tyF_32_5, tyA_26, tyS_26, tyF_42_0, tyA_3, tyS_3, tyE_26, tyA_66, tyS_66, tyZ_66, tyF_38_0, tyA_23, tyS_23, tyF_38_3, tyA_36, tyS_36, tyF_38_4, tyF_66_3, tyE_36, tyK_36, tyK_3, tyE_23, tyK_23, tyF_42_2, tyA_2, tyS_2, tyF_42_1, tyF_66_4, row_at, hk2, ha, hkv] | (with_reducible refine aIf_split (fun _ => ?_) (fun _ => ?_)) | (with_reducible refine aSel_split (fun _ => ?_) (fun _ => ?_)) | (with_reducible refine aGd_split (fun _ => ?_) (fun _ => ?_))))
          all_goals first
            | exact roundI (weak_cut1 (by (first | ((simp only [envIn, tabIn, envLt, tabLt, AObj.lt, AV.lt, AV.ltL, ruW, ASt.get, aget, ASt.put, ↓reduceIte, reduceCtorEq, Nat.reduceLT, Nat.reduceEqDiff, Nat.reduceAdd, Nat.reduceLeDiff, eq_self, implies_true, ev]) <;> (repeat' apply And.intro) <;> first | (rw [wrapK (by omega)]; done) | (simp; done) | omega) | fail))) ⟨k + 1, by omega, rfl⟩ (by simp only [slotN, ruW, ASt.get, aget, ASt.put, ↓reduceIte, reduceCtorEq, Nat.reduceLT, Nat.reduceEqDiff, Nat.reduceAdd, Nat.reduceLeDiff, eq_self, implies_true]; omega)
            | (exfalso; simp at *; omega)
      · obtain rfl : k = x.sets.length := by omega
        (repeat' (first | simp (maxSteps := 5000000) (implicitDefEqProofs := false) only [ruA, ruB, aEv, aTake, aLoad, aField, aIndex, aLen, aBin, bin2, aUn, un1, aExtract, aConv, ASt.get, aget, ASt.put, aStore, aBox, aAppend, aBuildSlice, aMake, aBuild, aFill, oneParts, allC, aBinS, yv, aCells, oneC, oneCL, treeC, treeL, aLit, aDst, aSrc, appTab, Value.cells, Value.oneCell', envOf, aResL, aOne, ↓reduceIte, reduceCtorEq, forall_const, Nat.reduceLT, Nat.reduceEqDiff, Nat.reduceAdd, Nat.reduceMul, Nat.reduceSub, Nat.reduceLeDiff, Nat.reduceBEq, eq_self, implies_true, ne_eq, dref, dref1, dref2, aExecS, aStoreB, aTakes, aTakeE, aElder, aFrom, aFresh, isLoad, aBuildSlice1, frzs, frz1, ownIds, AV.frz, AV.frzL, frzEnv, AV.shift, AV.shiftL, aFieldV, aSliceW, aSliceO, aSlice, aSliceR, aSliceS, aBd, aMax, frzAVs, frzAV, frzTab, AObj.frz, aMM, aNilS, tyA_38, tyS_38, tyZ_38, tyF_32_5, tyA_26, tyS_26, tyF_42_0, tyA_3, tyS_3, tyE_26, tyA_66, tyS_66, tyZ_66, tyF_38_0, tyA_23, tyS_23, tyF_38_3, tyA_36, tyS_36, tyF_38_4, tyF_66_3, tyE_36, tyK_36, tyK_3, tyE_23, tyK_23, tyF_42_2, tyA_2, tyS_2, tyF_42_1, tyF_66_4, hk2] | (with_reducible refine aIf_split (fun _ => ?_) (fun _ => ?_)) | (with_reducible refine aSel_split (fun _ => ?_) (fun _ => ?_)) | (with_reducible refine aGd_split (fun _ => ?_) (fun _ => ?_))))
        refine aDraw_held [6] [0, 1, 2, 3, 4, 5, 6, 7, 8, 10, 11] (.exec 9 (.exec 12 (.take 13 (.exec 14 .done)))) (by kernel_rfl) (by simp [ATab.get_cons]) ?_
        have eds : ((s.did.map fun n => [eI n]).set e [eI (withB s.did[e] vu)]) = (s.did.set e (withB s.did[e] vu)).map fun n => [eI n] := by rw [List.map_set]
        (repeat' (first | simp (maxSteps := 5000000) (implicitDefEqProofs := false) only [ruA, ruB, aEv, aTake, aLoad, aField, aIndex, aLen, aBin, bin2, aUn, un1, aExtract, aConv, ASt.get, aget, ASt.put, aStore, aBox, aAppend, aBuildSlice, aMake, aBuild, aFill, oneParts, allC, aBinS, yv, aCells, oneC, oneCL, treeC, treeL, aLit, aDst, aSrc, appTab, Value.cells, Value.oneCell', envOf, aResL, aOne, ↓reduceIte, reduceCtorEq, forall_const, Nat.reduceLT, Nat.reduceEqDiff, Nat.reduceAdd, Nat.reduceMul, Nat.reduceSub, Nat.reduceLeDiff, Nat.reduceBEq, eq_self, implies_true, ne_eq, dref, dref1, dref2, aExecS, aStoreB, aTakes, aTakeE, aElder, aFrom, aFresh, isLoad, aBuildSlice1, frzs, frz1, ownIds, AV.frz, AV.frzL, frzEnv, AV.shift, AV.shiftL, aFieldV, aSliceW, aSliceO, aSlice, aSliceR, aSliceS, aBd, aMax, frzAVs, frzAV, frzTab, AObj.frz, aMM, aNilS, tyA_38, tyS_38, tyZ_38, tyF_32_5, tyA_26, tyS_26, tyF_42_0, tyA_3, tyS_3, tyE_26, tyA_66, tyS_66, tyZ_66, tyF_38_0, tyA_23, tyS_23, tyF_38_3, tyA_36, tyS_36, tyF_38_4, tyF_66_3, tyE_36, tyK_36, tyK_3, tyE_23, tyK_23, tyF_42_2, tyA_2, tyS_2, tyF_42_1, tyF_66_4, row_at, hd] | (with_reducible refine aIf_split (fun _ => ?_) (fun _ => ?_)) | (with_reducible refine aSel_split (fun _ => ?_) (fun _ => ?_)) | (with_reducible refine aGd_split (fun _ => ?_) (fun _ => ?_)) | (with_reducible refine aDraw_quiet (by kernel_rfl) ?_) | ((with_reducible apply callV (g := 76)); exact (with_A _ _)) | ((with_reducible apply callD (g := 76)); exact (with_A _ _))))
        · rename_i ht
          have ht : 0 < x.times := by simpa using ht
          have hw' := hw ht
          have ew : IntKind.i64.wrap (s.cnt[e] + 1) = s.cnt[e] + 1 := wrap_in (by omega) (by omega)
          (repeat' (first | simp (maxSteps := 5000000) (implicitDefEqProofs := false) only [ruA, ruB, aEv, aTake, aLoad, aField, aIndex, aLen, aBin, bin2, aUn, un1, aExtract, aConv, ASt.get, aget, ASt.put, aStore, aBox, aAppend, aBuildSlice, aMake, aBuild, aFill, oneParts, allC, aBinS, yv, aCells, oneC, oneCL, treeC, treeL, aLit, aDst, aSrc, appTab, Value.cells, Value.oneCell', envOf, aResL, aOne, ↓reduceIte, reduceCtorEq, forall_const, Nat.reduceLT, Nat.reduceEqDiff, Nat.reduceAdd, Nat.reduceMul, Nat.reduceSub, Nat.reduceLeDiff, Nat.reduceBEq, eq_self, implies_true, ne_eq, dref, dref1, dref2, aExecS, aStoreB, aTakes, aTakeE, aElder, aFrom, aFresh, isLoad, aBuildSlice1, frzs, frz1, ownIds, AV.frz, AV.frzL, frzEnv, AV.shift, AV.shiftL, aFieldV, aSliceW, aSliceO, aSlice, aSliceR, aSliceS, aBd, aMax, frzAVs, frzAV, frzTab, AObj.frz, aMM, aNilS, tyA_38, tyS_38, tyZ_38, tyF_32_5, tyA_26, tyS_26, tyF_42_0, tyA_3, tyS_3, tyE_26, tyA_66, tyS_66, tyZ_66, tyF_38_0, tyA_23, tyS_23, tyF_38_3, tyA_36, tyS_36, tyF_38_4, tyF_66_3, tyE_36, tyK_36, tyK_3, tyE_23, tyK_23, tyF_42_2, tyA_2, tyS_2, tyF_42_1, tyF_66_4, row_at, hc, ew] | (with_reducible refine aIf_split (fun _ => ?_) (fun _ => ?_)) | (with_reducible refine aSel_split (fun _ => ?_) (fun _ => ?_)) | (with_reducible refine aGd_split (fun _ => ?_) (fun _ => ?_))))
          rw [if_pos ht]
          exact ⟨[5, 6, 7], by decide, rfl, by simp [aTabs, ATab.get_cons, List.map_set]⟩
        · rename_i ht
          have ht : ¬ 0 < x.times := by simp at ht; omega
          rw [if_neg ht]
          exact ⟨[5, 6, 7], by decide, rfl, by simp [aTabs, ATab.get_cons, List.map_set]⟩
  · simp [Res.frzs, Res.frz, ATab.get_cons, AV.frz, AV.frzL, frzTab, AObj.frz]
noncomputable def anyM (m : Mod) (s : St) : Bool := anyN (fun e => anyN (fun u => enabledM m s (e : Int) (u : Int)) m.users.length) m.events.length
def setsLen (m : Mod) (event : Int) : Nat := ((m.events[event.toNat]?).map (fun x => x.sets.length)).getD 0
noncomputable def mayM (m : Mod) (s : St) (v : Mv) : Int :=
  if chkS m s = false then 15 else if idleM v = true then (if anyM m s = true then 16 else 0) else if enabledM m s v.event v.user = false then 16 else if v.vals.length = setsLen m v.event then 0 else 17
theorem evAt_some {m : Mod} {s : St} {event user : Int} (h : enabledM m s event user = true) : ∃ k : Nat, event = (k : Int) ∧ ∃ h : k < m.events.length, evAt m event = some m.events[k] := by
  unfold enabledM freeM at h
  unfold evAt at h ⊢
  by_cases h0 : 0 ≤ event
  · rw [if_pos h0] at h ⊢
    cases hk : m.events[event.toNat]? with
    | none => rw [hk] at h; simp at h
    | some x =>
      obtain ⟨h1, h2⟩ := List.getElem?_eq_some_iff.1 hk
      exact ⟨event.toNat, by omega, h1, by rw [h2]⟩
  · rw [if_neg h0] at h
    simp at h
set_option maxRecDepth 100000 in
set_option maxHeartbeats 8000000 in
theorem may_A (m : Mod) (s : St) (v : Mv) (hf : Fit m) (hany : idleM v = true → ADet Try.prog 73 [.agg (eMod m), .agg (eSt s)] (val (.bool (anyM m s)))) : ADet Try.prog 41 [.agg (eMod m), .agg (eSt s), .agg (eMv v)] (val (.int .i64 (mayM m s v))) := by
  refine adet_of_code mixedT Try.func41 rfl (by decide) Try.ntmps41 Try.results41 rfl (val_ok _) ?_
  obtain ⟨hgl, hml, hsl, hel, hal, hul, hrl, hsol, hol, hil⟩ := id hf.sizes
  obtain ⟨ve, vu, vv⟩ := v
  cases hid : idleM ⟨ve, vu, vv⟩ with
  | true =>
    unfold mayM
    simp only [hid]
    (repeat' (first | simp (maxSteps := 5000000) (implicitDefEqProofs := false) only [ruA, ruB, aEv, aTake, aLoad, aField, aIndex, aLen, aBin, bin2, aUn, un1, aExtract, aConv, ASt.get, aget, ASt.put, aStore, aBox, aAppend, aBuildSlice, aMake, aBuild, aFill, oneParts, allC, aBinS, yv, aCells, oneC, oneCL, treeC, treeL, aLit, aDst, aSrc, appTab, Value.cells, Value.oneCell', envOf, aResL, aOne, ↓reduceIte, reduceCtorEq, forall_const, Nat.reduceLT, Nat.reduceEqDiff, Nat.reduceAdd, Nat.reduceMul, Nat.reduceSub, Nat.reduceLeDiff, Nat.reduceBEq, eq_self, implies_true, ne_eq, dref, dref1, dref2, aExecS, aStoreB, aTakes, aTakeE, aElder, aFrom, aFresh, isLoad, aBuildSlice1, frzs, frz1, ownIds, AV.frz, AV.frzL, frzEnv, AV.shift, AV.shiftL, aFieldV, aSliceW, aSliceO, aSlice, aSliceR, aSliceS, aBd, aMax, frzAVs, frzAV, frzTab, AObj.frz, aMM, aNilS, tyA_32, tyS_32, tyA_38, tyS_38, tyA_42, tyS_42, tyF_42_0, tyA_3, tyS_3, tyF_42_1, tyF_42_2, tyA_23, tyS_23, tyE_23, tyK_23, tyF_32_5, tyA_26, tyS_26, tyE_26, tyF_66_3, tyA_36, tyS_36, tyE_36, tyK_36, tyK_3, hid] | (with_reducible refine aIf_split (fun _ => ?_) (fun _ => ?_)) | (with_reducible refine aSel_split (fun _ => ?_) (fun _ => ?_)) | (with_reducible refine aGd_split (fun _ => ?_) (fun _ => ?_)) | (with_reducible refine aDraw_quiet (by kernel_rfl) ?_) | ((with_reducible apply callV (g := 39)); exact (checkS_A _ _ (by omega))) | ((with_reducible apply callD (g := 39)); exact (checkS_A _ _ (by omega))) | ((with_reducible apply callV (g := 42)); exact (idle_A ⟨ve, vu, vv⟩)) | ((with_reducible apply callD (g := 42)); exact (idle_A ⟨ve, vu, vv⟩)) | ((with_reducible apply callV); exact (hany hid)) | ((with_reducible apply callD); exact (hany hid))))
    all_goals grind
  | false =>
    cases hen : enabledM m s ve vu with
    | false =>
      unfold mayM
      simp only [hid, hen]
      (repeat' (first | simp (maxSteps := 5000000) (implicitDefEqProofs := false) only [ruA, ruB, aEv, aTake, aLoad, aField, aIndex, aLen, aBin, bin2, aUn, un1, aExtract, aConv, ASt.get, aget, ASt.put, aStore, aBox, aAppend, aBuildSlice, aMake, aBuild, aFill, oneParts, allC, aBinS, yv, aCells, oneC, oneCL, treeC, treeL, aLit, aDst, aSrc, appTab, Value.cells, Value.oneCell', envOf, aResL, aOne, ↓reduceIte, reduceCtorEq, forall_const, Nat.reduceLT, Nat.reduceEqDiff, Nat.reduceAdd, Nat.reduceMul, Nat.reduceSub, Nat.reduceLeDiff, Nat.reduceBEq, eq_self, implies_true, ne_eq, dref, dref1, dref2, aExecS, aStoreB, aTakes, aTakeE, aElder, aFrom, aFresh, isLoad, aBuildSlice1, frzs, frz1, ownIds, AV.frz, AV.frzL, frzEnv, AV.shift, AV.shiftL, aFieldV, aSliceW, aSliceO, aSlice, aSliceR, aSliceS, aBd, aMax, frzAVs, frzAV, frzTab, AObj.frz, aMM, aNilS, tyA_32, tyS_32, tyA_38, tyS_38, tyA_42, tyS_42, tyF_42_0, tyA_3, tyS_3, tyF_42_1, tyF_42_2, tyA_23, tyS_23, tyE_23, tyK_23, tyF_32_5, tyA_26, tyS_26, tyE_26, tyF_66_3, tyA_36, tyS_36, tyE_36, tyK_36, tyK_3, hid, hen] | (with_reducible refine aIf_split (fun _ => ?_) (fun _ => ?_)) | (with_reducible refine aSel_split (fun _ => ?_) (fun _ => ?_)) | (with_reducible refine aGd_split (fun _ => ?_) (fun _ => ?_)) | (with_reducible refine aDraw_quiet (by kernel_rfl) ?_) | ((with_reducible apply callV (g := 39)); exact (checkS_A _ _ (by omega))) | ((with_reducible apply callD (g := 39)); exact (checkS_A _ _ (by omega))) | ((with_reducible apply callV (g := 42)); exact (idle_A ⟨ve, vu, vv⟩)) | ((with_reducible apply callD (g := 42)); exact (idle_A ⟨ve, vu, vv⟩)) | ((with_reducible apply callV (g := 72)); exact (enabled_A m s ve vu (by omega) (by omega))) | ((with_reducible apply callD (g := 72)); exact (enabled_A m s ve vu (by omega) (by omega)))))
      all_goals grind
    | true =>
      obtain ⟨k, rfl, hk, hk2⟩ := evAt_some hen
      have hsl : setsLen m (k : Int) = m.events[k].sets.length := by simp [setsLen, hk]
      unfold mayM
      simp only [hid, hen, hsl]
      (repeat' (first | simp (maxSteps := 5000000) (implicitDefEqProofs := false) only [ruA, ruB, aEv, aTake, aLoad, aField, aIndex, aLen, aBin, bin2, aUn, un1, aExtract, aConv, ASt.get, aget, ASt.put, aStore, aBox, aAppend, aBuildSlice, aMake, aBuild, aFill, oneParts, allC, aBinS, yv, aCells, oneC, oneCL, treeC, treeL, aLit, aDst, aSrc, appTab, Value.cells, Value.oneCell', envOf, aResL, aOne, ↓reduceIte, reduceCtorEq, forall_const, Nat.reduceLT, Nat.reduceEqDiff, Nat.reduceAdd, Nat.reduceMul, Nat.reduceSub, Nat.reduceLeDiff, Nat.reduceBEq, eq_self, implies_true, ne_eq, dref, dref1, dref2, aExecS, aStoreB, aTakes, aTakeE, aElder, aFrom, aFresh, isLoad, aBuildSlice1, frzs, frz1, ownIds, AV.frz, AV.frzL, frzEnv, AV.shift, AV.shiftL, aFieldV, aSliceW, aSliceO, aSlice, aSliceR, aSliceS, aBd, aMax, frzAVs, frzAV, frzTab, AObj.frz, aMM, aNilS, tyA_32, tyS_32, tyA_38, tyS_38, tyA_42, tyS_42, tyF_42_0, tyA_3, tyS_3, tyF_42_1, tyF_42_2, tyA_23, tyS_23, tyE_23, tyK_23, tyF_32_5, tyA_26, tyS_26, tyE_26, tyF_66_3, tyA_36, tyS_36, tyE_36, tyK_36, tyK_3, hid, hen, row_at, hk] | (with_reducible refine aIf_split (fun _ => ?_) (fun _ => ?_)) | (with_reducible refine aSel_split (fun _ => ?_) (fun _ => ?_)) | (with_reducible refine aGd_split (fun _ => ?_) (fun _ => ?_)) | (with_reducible refine aDraw_quiet (by kernel_rfl) ?_) | ((with_reducible apply callV (g := 39)); exact (checkS_A _ _ (by omega))) | ((with_reducible apply callD (g := 39)); exact (checkS_A _ _ (by omega))) | ((with_reducible apply callV (g := 42)); exact (idle_A ⟨(k : Int), vu, vv⟩)) | ((with_reducible apply callD (g := 42)); exact (idle_A ⟨(k : Int), vu, vv⟩)) | ((with_reducible apply callV (g := 72)); exact (enabled_A m s (k : Int) vu (by omega) (by omega))) | ((with_reducible apply callD (g := 72)); exact (enabled_A m s (k : Int) vu (by omega) (by omega)))))
      all_goals grind
def stNil : St := ⟨[], 0, 0, [], []⟩
noncomputable def doM (m : Mod) (s : St) (v : Mv) : St × Int :=
  if mayM m s v = 0 then (if idleM v = true then s else passM m v.event (takeM m s v) m.order.length, 0) else (stNil, mayM m s v)
theorem retT {r' av : AV} {st : ASt} (hr : av.ren [] = av) (hl : av.lt 0) (hf : FitsT av r') : ∃ R : Res, (∃ ids, (R.frzs ids).r.lt 0 ∧ FitsT (R.frzs ids).r r') ∧ R.Ok ∧ aGives R st av := ⟨⟨av, [], 0⟩, ⟨[], hl, hf⟩, ⟨fun id o h => (by cases h), hl⟩, gives_tree hr⟩
theorem take_vals (m : Mod) (s : St) (v : Mv) (hs : ∀ x ∈ s.vals, ok64 x) (hv : ∀ x ∈ v.vals, ok64 x) : ∀ x ∈ (takeM m s v).vals, ok64 x := by
  unfold takeM
  split
  · exact hs
  · rename_i x hx
    simp only
    generalize x.sets.length = n
    induction n with
    | zero => exact hs
    | succ k ih =>
      unfold setVals
      simp only
      split
      · intro y hy
        rcases List.mem_or_eq_of_mem_set hy with h | h
        · exact ih y h
        · rw [h, List.getD_eq_getElem?_getD]
          by_cases hk : k < v.vals.length
          · rw [List.getElem?_eq_getElem hk]
            exact hv _ (List.getElem_mem hk)
          · rw [List.getElem?_eq_none (by omega)]
            unfold ok64
            simp
      · exact ih
set_option maxRecDepth 100000 in
set_option maxHeartbeats 8000000 in
theorem do_A (m : Mod) (s : St) (v : Mv) (hf : Fit m) (hfs : FitS s) (hvl : v.vals.length ≤ 1000000) (hc : condOk m) (hp : ∀ p ∈ m.stages, ok64 p.2) (hs : ∀ x ∈ s.vals, ok64 x) (hv : ∀ x ∈ v.vals, ok64 x) (ht : ∀ e ∈ m.events, ok64 e.times)
    (hany : idleM v = true → ADet Try.prog 73 [.agg (eMod m), .agg (eSt s)] (val (.bool (anyM m s)))) : ADet Try.prog 17 [.agg (eMod m), .agg (eSt s), .agg (eMv v)] ⟨.tup [.agg (eSt (doM m s v).1), eI (doM m s v).2], [], 0⟩ := by
  refine ARel.tree (Post := fun R => ∃ ids, (R.frzs ids).r.lt 0 ∧ FitsT (R.frzs ids).r (.tup [.agg (eSt (doM m s v).1), eI (doM m s v).2])) ?_ (by simp [AV.lt, AV.ltL]) fun R h => h
  refine arel_of_code mixedT Try.func17 rfl (by decide) Try.ntmps17 Try.results17 rfl ?_
  have hmay := may_A m s v hf hany
  have hnil : FitsT (.tup [.agg [.c (.slice none 0 0), eI 0, eI 0, .c (.slice none 0 0), .c (.slice none 0 0)], eI (mayM m s v)]) (.tup [.agg (eSt stNil), eI (mayM m s v)]) := .tup ⟨.agg ⟨.nil 1, .refl _, .refl _, .nil 1, .nil 1, trivial⟩, .one (.refl _), trivial⟩
  have hz : ((0 : Int) != 0) = false := by decide
  by_cases h0 : mayM m s v = 0
  · cases hid : idleM v with
    | true =>
      have ed : doM m s v = (s, 0) := by simp [doM, h0, hid]
      rw [ed]
      (repeat' (first | simp (maxSteps := 5000000) (implicitDefEqProofs := false) only [ruA, ruB, aEv, aTake, aLoad, aField, aIndex, aLen, aBin, bin2, aUn, un1, aExtract, aConv, ASt.get, aget, ASt.put, aStore, aBox, aAppend, aBuildSlice, aMake, aBuild, aFill, oneParts, allC, aBinS, yv, aCells, oneC, oneCL, treeC, treeL, aLit, aDst, aSrc, appTab, Value.cells, Value.oneCell', envOf, aResL, aOne, ↓reduceIte, reduceCtorEq, forall_const, Nat.reduceLT, Nat.reduceEqDiff, Nat.reduceAdd, Nat.reduceMul, Nat.reduceSub, Nat.reduceLeDiff, Nat.reduceBEq, eq_self, implies_true, ne_eq, dref, dref1, dref2, aExecS, aStoreB, aTakes, aTakeE, aElder, aFrom, aFresh, isLoad, aBuildSlice1, frzs, frz1, ownIds, AV.frz, AV.frzL, frzEnv, AV.shift, AV.shiftL, aFieldV, aSliceW, aSliceO, aSlice, aSliceR, aSliceS, aBd, aMax, frzAVs, frzAV, frzTab, AObj.frz, aMM, aNilS, tyA_38, tyS_38, tyZ_38, tyA_32, tyS_32, tyA_42, tyS_42, tyK_48, tyB_38, tyF_42_0, tyA_3, tyS_3, h0, hz, hid] | (with_reducible refine aIf_split (fun _ => ?_) (fun _ => ?_)) | (with_reducible refine aSel_split (fun _ => ?_) (fun _ => ?_)) | (with_reducible refine aGd_split (fun _ => ?_) (fun _ => ?_)) | (with_reducible refine aDraw_quiet (by kernel_rfl) ?_) | ((with_reducible apply callV); exact (hmay)) | ((with_reducible apply callD); exact (hmay)) | ((with_reducible apply callV (g := 42)); exact (idle_A v)) | ((with_reducible apply callD (g := 42)); exact (idle_A v))))
      all_goals first
        | exact retT (by simp [AV.ren, AV.renL]) (by simp [AV.lt, AV.ltL]) (.tup ⟨.one (.refl _), .one (.refl _), trivial⟩)
        | trace_state
    | false =>
      have ed : doM m s v = (passM m v.event (takeM m s v) m.order.length, 0) := by simp [doM, h0, hid]
      rw [ed]
      have hen : enabledM m s v.event v.user = true ∧ v.vals.length = setsLen m v.event ∧ chkS m s = true := by
        unfold mayM at h0
        grind
      obtain ⟨k, hke, hk, hk2⟩ := evAt_some hen.1
      have hsl : setsLen m v.event = m.events[k].sets.length := by simp [setsLen, hk, hke]
      obtain ⟨hl1, hl2, hl3⟩ := hfs
      have hck := hen.2.2
      unfold chkS at hck
      simp only [Bool.and_eq_true, decide_eq_true_eq] at hck
      obtain ⟨⟨⟨⟨⟨hc1, hc2⟩, hc3⟩, -⟩, -⟩, hall⟩ := hck
      have hd : k < s.did.length := by omega
      have hcn : k < s.cnt.length := by omega
      have hat := (allN_iff _ _).1 hall k hk
      simp only [chkAt, List.getD_eq_getElem?_getD, List.getElem?_eq_getElem hd, List.getElem?_eq_getElem hcn, List.getElem?_eq_getElem hk, Option.getD_some, Option.map_some, Bool.and_eq_true, decide_eq_true_eq] at hat
      have hfree : 0 < m.events[k].times → s.cnt[k] < m.events[k].times := fun h1 => by
        have h2 := hen.1
        unfold enabledM freeM at h2
        rw [hk2] at h2
        simp only [Bool.and_eq_true, Bool.or_eq_true, decide_eq_true_eq] at h2
        have h3 := h2.1.2
        unfold atI at h3
        rw [hke, if_pos (by omega)] at h3
        simp only [Int.toNat_natCast, List.getD_eq_getElem?_getD, List.getElem?_eq_getElem hcn, Option.getD_some] at h3
        omega
      have htm := ht _ (List.getElem_mem hk)
      unfold ok64 at htm
      have htk := take_A m s v k m.events[k] hke hk rfl hd hcn (by omega) (by omega) (by omega) (by omega) (by omega) (fun h1 => by have := hfree h1; omega)
      have hps := pass_A m (takeM m s v) v.event hf hc hp (take_vals m s v hs hv)
      (repeat' (first | simp (maxSteps := 5000000) (implicitDefEqProofs := false) only [ruA, ruB, aEv, aTake, aLoad, aField, aIndex, aLen, aBin, bin2, aUn, un1, aExtract, aConv, ASt.get, aget, ASt.put, aStore, aBox, aAppend, aBuildSlice, aMake, aBuild, aFill, oneParts, allC, aBinS, yv, aCells, oneC, oneCL, treeC, treeL, aLit, aDst, aSrc, appTab, Value.cells, Value.oneCell', envOf, aResL, aOne, ↓reduceIte, reduceCtorEq, forall_const, Nat.reduceLT, Nat.reduceEqDiff, Nat.reduceAdd, Nat.reduceMul, Nat.reduceSub, Nat.reduceLeDiff, Nat.reduceBEq, eq_self, implies_true, ne_eq, dref, dref1, dref2, aExecS, aStoreB, aTakes, aTakeE, aElder, aFrom, aFresh, isLoad, aBuildSlice1, frzs, frz1, ownIds, AV.frz, AV.frzL, frzEnv, AV.shift, AV.shiftL, aFieldV, aSliceW, aSliceO, aSlice, aSliceR, aSliceS, aBd, aMax, frzAVs, frzAV, frzTab, AObj.frz, aMM, aNilS, tyA_38, tyS_38, tyZ_38, tyA_32, tyS_32, tyA_42, tyS_42, tyK_48, tyB_38, tyF_42_0, tyA_3, tyS_3, h0, hz, hid] | (with_reducible refine aIf_split (fun _ => ?_) (fun _ => ?_)) | (with_reducible refine aSel_split (fun _ => ?_) (fun _ => ?_)) | (with_reducible refine aGd_split (fun _ => ?_) (fun _ => ?_))))
      refine callV hmay ?_
      (repeat' (first | simp (maxSteps := 5000000) (implicitDefEqProofs := false) only [ruA, ruB, aEv, aTake, aLoad, aField, aIndex, aLen, aBin, bin2, aUn, un1, aExtract, aConv, ASt.get, aget, ASt.put, aStore, aBox, aAppend, aBuildSlice, aMake, aBuild, aFill, oneParts, allC, aBinS, yv, aCells, oneC, oneCL, treeC, treeL, aLit, aDst, aSrc, appTab, Value.cells, Value.oneCell', envOf, aResL, aOne, ↓reduceIte, reduceCtorEq, forall_const, Nat.reduceLT, Nat.reduceEqDiff, Nat.reduceAdd, Nat.reduceMul, Nat.reduceSub, Nat.reduceLeDiff, Nat.reduceBEq, eq_self, implies_true, ne_eq, dref, dref1, dref2, aExecS, aStoreB, aTakes, aTakeE, aElder, aFrom, aFresh, isLoad, aBuildSlice1, frzs, frz1, ownIds, AV.frz, AV.frzL, frzEnv, AV.shift, AV.shiftL, aFieldV, aSliceW, aSliceO, aSlice, aSliceR, aSliceS, aBd, aMax, frzAVs, frzAV, frzTab, AObj.frz, aMM, aNilS, tyA_38, tyS_38, tyZ_38, tyA_32, tyS_32, tyA_42, tyS_42, tyK_48, tyB_38, tyF_42_0, tyA_3, tyS_3, h0, hz, hid] | (with_reducible refine aIf_split (fun _ => ?_) (fun _ => ?_)) | (with_reducible refine aSel_split (fun _ => ?_) (fun _ => ?_)) | (with_reducible refine aGd_split (fun _ => ?_) (fun _ => ?_))))
      refine callV (by exact idle_A v) ?_
      (repeat' (first | simp (maxSteps := 5000000) (implicitDefEqProofs := false) only [ruA, ruB, aEv, aTake, aLoad, aField, aIndex, aLen, aBin, bin2, aUn, un1, aExtract, aConv, ASt.get, aget, ASt.put, aStore, aBox, aAppend, aBuildSlice, aMake, aBuild, aFill, oneParts, allC, aBinS, yv, aCells, oneC, oneCL, treeC, treeL, aLit, aDst, aSrc, appTab, Value.cells, Value.oneCell', envOf, aResL, aOne, ↓reduceIte, reduceCtorEq, forall_const, Nat.reduceLT, Nat.reduceEqDiff, Nat.reduceAdd, Nat.reduceMul, Nat.reduceSub, Nat.reduceLeDiff, Nat.reduceBEq, eq_self, implies_true, ne_eq, dref, dref1, dref2, aExecS, aStoreB, aTakes, aTakeE, aElder, aFrom, aFresh, isLoad, aBuildSlice1, frzs, frz1, ownIds, AV.frz, AV.frzL, frzEnv, AV.shift, AV.shiftL, aFieldV, aSliceW, aSliceO, aSlice, aSliceR, aSliceS, aBd, aMax, frzAVs, frzAV, frzTab, AObj.frz, aMM, aNilS, tyA_38, tyS_38, tyZ_38, tyA_32, tyS_32, tyA_42, tyS_42, tyK_48, tyB_38, tyF_42_0, tyA_3, tyS_3, h0, hz, hid] | (with_reducible refine aIf_split (fun _ => ?_) (fun _ => ?_)) | (with_reducible refine aSel_split (fun _ => ?_) (fun _ => ?_)) | (with_reducible refine aGd_split (fun _ => ?_) (fun _ => ?_))))
      refine aDraw_held [3] [0, 1, 2, 3, 5, 6] (.exec 4 (.exec 7 (.exec 8 (.exec 9 .done)))) (by kernel_rfl) (by simp [ATab.get_cons]) ?_
      (repeat' (first | simp (maxSteps := 5000000) (implicitDefEqProofs := false) only [ruA, ruB, aEv, aTake, aLoad, aField, aIndex, aLen, aBin, bin2, aUn, un1, aExtract, aConv, ASt.get, aget, ASt.put, aStore, aBox, aAppend, aBuildSlice, aMake, aBuild, aFill, oneParts, allC, aBinS, yv, aCells, oneC, oneCL, treeC, treeL, aLit, aDst, aSrc, appTab, Value.cells, Value.oneCell', envOf, aResL, aOne, ↓reduceIte, reduceCtorEq, forall_const, Nat.reduceLT, Nat.reduceEqDiff, Nat.reduceAdd, Nat.reduceMul, Nat.reduceSub, Nat.reduceLeDiff, Nat.reduceBEq, eq_self, implies_true, ne_eq, dref, dref1, dref2, aExecS, aStoreB, aTakes, aTakeE, aElder, aFrom, aFresh, isLoad, aBuildSlice1, frzs, frz1, ownIds, AV.frz, AV.frzL, frzEnv, AV.shift, AV.shiftL, aFieldV, aSliceW, aSliceO, aSlice, aSliceR, aSliceS, aBd, aMax, frzAVs, frzAV, frzTab, AObj.frz, aMM, aNilS, tyA_38, tyS_38, tyZ_38, tyA_32, tyS_32, tyA_42, tyS_42, tyK_48, tyB_38, tyF_42_0, tyA_3, tyS_3, h0, hz, hid] | (with_reducible refine aIf_split (fun _ => ?_) (fun _ => ?_)) | (with_reducible refine aSel_split (fun _ => ?_) (fun _ => ?_)) | (with_reducible refine aGd_split (fun _ => ?_) (fun _ => ?_)) | (with_reducible refine aDraw_quiet (by kernel_rfl) ?_) | ((with_reducible apply callT); exact (htk); exact (.inl (by simp [roL, roA, treeL, treeC]))) | ((with_reducible apply callT); exact (hps); exact (.inl (by simp [roL, roA, treeL, treeC])))))
      all_goals first
        | exact retT (by simp [AV.ren, AV.renL]) (by simp [AV.lt, AV.ltL]) (.tup ⟨.one (.refl _), .one (.refl _), trivial⟩)
        | trace_state
  · have ed : doM m s v = (stNil, mayM m s v) := by simp [doM, h0]
    have h0' : (mayM m s v != 0) = true := by simp [h0]
    rw [ed]
    (repeat' (first | simp (maxSteps := 5000000) (implicitDefEqProofs := false) only [ruA, ruB, aEv, aTake, aLoad, aField, aIndex, aLen, aBin, bin2, aUn, un1, aExtract, aConv, ASt.get, aget, ASt.put, aStore, aBox, aAppend, aBuildSlice, aMake, aBuild, aFill, oneParts, allC, aBinS, yv, aCells, oneC, oneCL, treeC, treeL, aLit, aDst, aSrc, appTab, Value.cells, Value.oneCell', envOf, aResL, aOne, ↓reduceIte, reduceCtorEq, forall_const, Nat.reduceLT, Nat.reduceEqDiff, Nat.reduceAdd, Nat.reduceMul, Nat.reduceSub, Nat.reduceLeDiff, Nat.reduceBEq, eq_self, implies_true, ne_eq, dref, dref1, dref2, aExecS, aStoreB, aTakes, aTakeE, aElder, aFrom, aFresh, isLoad, aBuildSlice1, frzs, frz1, ownIds, AV.frz, AV.frzL, frzEnv, AV.shift, AV.shiftL, aFieldV, aSliceW, aSliceO, aSlice, aSliceR, aSliceS, aBd, aMax, frzAVs, frzAV, frzTab, AObj.frz, aMM, aNilS, tyA_38, tyS_38, tyZ_38, tyA_32, tyS_32, tyA_42, tyS_42, tyK_48, tyB_38, tyF_42_0, tyA_3, tyS_3, h0'] | (with_reducible refine aIf_split (fun _ => ?_) (fun _ => ?_)) | (with_reducible refine aSel_split (fun _ => ?_) (fun _ => ?_)) | (with_reducible refine aGd_split (fun _ => ?_) (fun _ => ?_)) | (with_reducible refine aDraw_quiet (by kernel_rfl) ?_) | ((with_reducible apply callV); exact (hmay)) | ((with_reducible apply callD); exact (hmay)) | ((with_reducible apply callV (g := 42)); exact (idle_A v)) | ((with_reducible apply callD (g := 42)); exact (idle_A v))))
    all_goals first
      | exact retT (by simp [AV.ren, AV.renL]) (by simp [AV.lt, AV.ltL]) hnil
      | trace_state
end
section
open Go.RowKit
def strA : ByteArray := { data := #[97] }
def strU : ByteArray := { data := #[117] }
def ex19M : Mod := ⟨[strA], [0], [strU], [(ByteArray.empty, 1)], [(ByteArray.empty, -1)], [⟨ByteArray.empty, 0, 0, [0], 1⟩], [], [], [], []⟩
def ex19S : St := ⟨[0], 1, 0, [0], [0]⟩
def ex19V : Mv := ⟨0, 0, [7]⟩
theorem ex19_evAt : evAt ex19M 0 = some ⟨ByteArray.empty, 0, 0, [0], 1⟩ := rfl
theorem ex19_has : hasB 1 0 = true := by decide
theorem ex19_en : enabledM ex19M ex19S 0 0 = true := by
  have h1 : freeM ex19M ex19S 0 0 = true := by
    unfold freeM
    rw [ex19_evAt]
    simp [completeM, ex19M, ex19S, anyN, ofR, atI, ex19_has]
  unfold enabledM
  rw [h1]
  simp [apartM, anyN, ex19M]
theorem ex19_may : mayM ex19M ex19S ex19V = 0 := by
  have h1 : chkS ex19M ex19S = true := by
    simp [chkS, ex19M, ex19S, allN, chkAt, ofB, firstI]
    decide
  have h2 : idleM ex19V = false := by simp [idleM, ex19V]
  have h3 : enabledM ex19M ex19S ex19V.event ex19V.user = true := ex19_en
  have h4 : ex19V.vals.length = setsLen ex19M ex19V.event := rfl
  unfold mayM
  rw [h1, h2, h3, if_pos h4]
  simp
theorem ex19_do : doM ex19M ex19S ex19V = (⟨[7], 1, 0, [1], [1]⟩, 0) := by
  have h2 : idleM ex19V = false := by simp [idleM, ex19V]
  have h3 : takeM ex19M ex19S ex19V = ⟨[7], 1, 0, [withB 0 0], [1]⟩ := by
    unfold takeM
    have : evAt ex19M ex19V.event = some ⟨ByteArray.empty, 0, 0, [0], 1⟩ := rfl
    rw [this]
    simp [setVals, ex19S, ex19V]
  have h4 : withB 0 0 = 1 := by decide
  unfold doM
  rw [if_pos ex19_may, h2, h3, h4]
  rfl
theorem ex19_fit : Fit ex19M := by
  refine ⟨by simp [greatS, ex19M], by simp [ex19M], by simp [ex19M], by simp [ex19M]⟩
theorem ex19_A : ADet Try.prog 17 [.agg (eMod ex19M), .agg (eSt ex19S), .agg (eMv ex19V)] ⟨.tup [.agg (eSt ⟨[7], 1, 0, [1], [1]⟩), eI 0], [], 0⟩ := by
  have h := do_A ex19M ex19S ex19V ex19_fit (by simp [FitS, ex19S]) (by simp [ex19V]) (by simp [condOk, ex19M]) (by simp [ex19M, ok64]) (by simp [ex19S, ok64]) (by simp [ex19V, ok64]) (by simp [ex19M, ok64]) (fun h => by simp [idleM, ex19V] at h)
  rw [ex19_do] at h
  exact h
theorem idleMv_A : ADet Try.prog 12 [] ⟨.agg [eI (-1), eI (-1), .c (.slice none 0 0)], [], 0⟩ := by
  refine adet_of_code mixedT Try.func12 rfl (by decide) Try.ntmps12 Try.results12 rfl (⟨fun id o h => (by cases h), by simp [AV.lt, AV.ltL]⟩) ?_
  (repeat' (first | simp (maxSteps := 5000000) (implicitDefEqProofs := false) only [ruA, ruB, aEv, aTake, aLoad, aField, aIndex, aLen, aBin, bin2, aUn, un1, aExtract, aConv, ASt.get, aget, ASt.put, aStore, aBox, aAppend, aBuildSlice, aMake, aBuild, aFill, oneParts, allC, aBinS, yv, aCells, oneC, oneCL, treeC, treeL, aLit, aDst, aSrc, appTab, Value.cells, Value.oneCell', envOf, aResL, aOne, ↓reduceIte, reduceCtorEq, forall_const, Nat.reduceLT, Nat.reduceEqDiff, Nat.reduceAdd, Nat.reduceMul, Nat.reduceSub, Nat.reduceLeDiff, Nat.reduceBEq, eq_self, implies_true, ne_eq, dref, dref1, dref2, aExecS, aStoreB, aTakes, aTakeE, aElder, aFrom, aFresh, isLoad, aBuildSlice1, frzs, frz1, ownIds, AV.frz, AV.frzL, frzEnv, AV.shift, AV.shiftL, aFieldV, aSliceW, aSliceO, aSlice, aSliceR, aSliceS, aBd, aMax, frzAVs, frzAV, frzTab, AObj.frz, aMM, aNilS, tyA_42, tyS_42, tyZ_42, tyB_42] | (with_reducible refine aIf_split (fun _ => ?_) (fun _ => ?_)) | (with_reducible refine aSel_split (fun _ => ?_) (fun _ => ?_)) | (with_reducible refine aGd_split (fun _ => ?_) (fun _ => ?_))))
  exact gives_tree (by simp [AV.ren, AV.renL])
set_option maxRecDepth 100000 in
set_option maxHeartbeats 8000000 in
theorem awake19_A : ADet Try.prog 7 [] (val (.bool true)) := by
  refine adet_of_code mixedT Try.func7 rfl (by decide) Try.ntmps7 Try.results7 rfl (val_ok _) ?_
  (repeat' (first | simp (maxSteps := 5000000) (implicitDefEqProofs := false) only [ruA, ruB, aEv, aTake, aLoad, aField, aIndex, aLen, aBin, bin2, aUn, un1, aExtract, aConv, ASt.get, aget, ASt.put, aStore, aBox, aAppend, aBuildSlice, aMake, aBuild, aFill, oneParts, allC, aBinS, yv, aCells, oneC, oneCL, treeC, treeL, aLit, aDst, aSrc, appTab, Value.cells, Value.oneCell', envOf, aResL, aOne, ↓reduceIte, reduceCtorEq, forall_const, Nat.reduceLT, Nat.reduceEqDiff, Nat.reduceAdd, Nat.reduceMul, Nat.reduceSub, Nat.reduceLeDiff, Nat.reduceBEq, eq_self, implies_true, ne_eq, dref, dref1, dref2, aExecS, aStoreB, aTakes, aTakeE, aElder, aFrom, aFresh, isLoad, aBuildSlice1, frzs, frz1, ownIds, AV.frz, AV.frzL, frzEnv, AV.shift, AV.shiftL, aFieldV, aSliceW, aSliceO, aSlice, aSliceR, aSliceS, aBd, aMax, frzAVs, frzAV, frzTab, AObj.frz, aMM, aNilS, tyR_22, tyR_23, tyB_68, tyR_24, tyB_70, tyR_25, tyR_36, tyB_66, tyR_26, tyB_32, tyZ_32, tyS_32, tyA_32, tyB_38, tyB_42, tyZ_38, tyS_38, tyK_48, tyF_38_0, tyA_23, tyS_23, tyE_23, tyK_23, tyK_3, tyA_2, tyS_2, tyK_2, tyF_38_4, tyA_36, tyS_36, tyE_36, tyA_3, tyS_3, tyF_38_3] | (with_reducible refine aIf_split (fun _ => ?_) (fun _ => ?_)) | (with_reducible refine aSel_split (fun _ => ?_) (fun _ => ?_)) | (with_reducible refine aGd_split (fun _ => ?_) (fun _ => ?_))))
  refine ⟨rfl, rfl, rfl, rfl, rfl, rfl, rfl, rfl, rfl, rfl, rfl, ?_⟩
  refine callZ [0, 1, 2, 3, 4, 6, 8, 9, 10, 11] (R := ⟨.tup [.agg (eSt ⟨[7], 1, 0, [1], [1]⟩), eI 0], [], 0⟩) ?_ ?_ ?_
  · simp (maxSteps := 5000000) (implicitDefEqProofs := false) only [ruA, ruB, aEv, aTake, aLoad, aField, aIndex, aLen, aBin, bin2, aUn, un1, aExtract, aConv, ASt.get, aget, ASt.put, aStore, aBox, aAppend, aBuildSlice, aMake, aBuild, aFill, oneParts, allC, aBinS, yv, aCells, oneC, oneCL, treeC, treeL, aLit, aDst, aSrc, appTab, Value.cells, Value.oneCell', envOf, aResL, aOne, ↓reduceIte, reduceCtorEq, forall_const, Nat.reduceLT, Nat.reduceEqDiff, Nat.reduceAdd, Nat.reduceMul, Nat.reduceSub, Nat.reduceLeDiff, Nat.reduceBEq, eq_self, implies_true, ne_eq, dref, dref1, dref2, aExecS, aStoreB, aTakes, aTakeE, aElder, aFrom, aFresh, isLoad, aBuildSlice1, frzs, frz1, ownIds, AV.frz, AV.frzL, frzEnv, AV.shift, AV.shiftL, aFieldV, aSliceW, aSliceO, aSlice, aSliceR, aSliceS, aBd, aMax, frzAVs, frzAV, frzTab, AObj.frz, aMM, aNilS, tyR_22, tyR_23, tyB_68, tyR_24, tyB_70, tyR_25, tyR_36, tyB_66, tyR_26, tyB_32, tyZ_32, tyS_32, tyA_32, tyB_38, tyB_42, tyZ_38, tyS_38, tyK_48, tyF_38_0, tyA_23, tyS_23, tyE_23, tyK_23, tyK_3, tyA_2, tyS_2, tyK_2, tyF_38_4, tyA_36, tyS_36, tyE_36, tyA_3, tyS_3, tyF_38_3]
    exact ex19_A.fits ⟨.agg ⟨.refl _, .refl _, .refl _, .refl _, .refl _, .refl _, .nil 3, .nil 5, .nil 2, .nil 2, trivial⟩, .one (.refl _), .one (.refl _), trivial⟩
  · simp (maxSteps := 5000000) (implicitDefEqProofs := false) only [ruA, ruB, aEv, aTake, aLoad, aField, aIndex, aLen, aBin, bin2, aUn, un1, aExtract, aConv, ASt.get, aget, ASt.put, aStore, aBox, aAppend, aBuildSlice, aMake, aBuild, aFill, oneParts, allC, aBinS, yv, aCells, oneC, oneCL, treeC, treeL, aLit, aDst, aSrc, appTab, Value.cells, Value.oneCell', envOf, aResL, aOne, ↓reduceIte, reduceCtorEq, forall_const, Nat.reduceLT, Nat.reduceEqDiff, Nat.reduceAdd, Nat.reduceMul, Nat.reduceSub, Nat.reduceLeDiff, Nat.reduceBEq, eq_self, implies_true, ne_eq, dref, dref1, dref2, aExecS, aStoreB, aTakes, aTakeE, aElder, aFrom, aFresh, isLoad, aBuildSlice1, frzs, frz1, ownIds, AV.frz, AV.frzL, frzEnv, AV.shift, AV.shiftL, aFieldV, aSliceW, aSliceO, aSlice, aSliceR, aSliceS, aBd, aMax, frzAVs, frzAV, frzTab, AObj.frz, aMM, aNilS, tyR_22, tyR_23, tyB_68, tyR_24, tyB_70, tyR_25, tyR_36, tyB_66, tyR_26, tyB_32, tyZ_32, tyS_32, tyA_32, tyB_38, tyB_42, tyZ_38, tyS_38, tyK_48, tyF_38_0, tyA_23, tyS_23, tyE_23, tyK_23, tyK_3, tyA_2, tyS_2, tyK_2, tyF_38_4, tyA_36, tyS_36, tyE_36, tyA_3, tyS_3, tyF_38_3]
    left
    simp [roL, roA, treeL, treeC]
  · have z1 : (0 : Int) < ((1 : Nat) : Int) := by decide
    have z2 : (((1 : Nat) : Int) == 1) = true := by decide
    (repeat' (first | simp (maxSteps := 5000000) (implicitDefEqProofs := false) only [ruA, ruB, aEv, aTake, aLoad, aField, aIndex, aLen, aBin, bin2, aUn, un1, aExtract, aConv, ASt.get, aget, ASt.put, aStore, aBox, aAppend, aBuildSlice, aMake, aBuild, aFill, oneParts, allC, aBinS, yv, aCells, oneC, oneCL, treeC, treeL, aLit, aDst, aSrc, appTab, Value.cells, Value.oneCell', envOf, aResL, aOne, ↓reduceIte, reduceCtorEq, forall_const, Nat.reduceLT, Nat.reduceEqDiff, Nat.reduceAdd, Nat.reduceMul, Nat.reduceSub, Nat.reduceLeDiff, Nat.reduceBEq, eq_self, implies_true, ne_eq, dref, dref1, dref2, aExecS, aStoreB, aTakes, aTakeE, aElder, aFrom, aFresh, isLoad, aBuildSlice1, frzs, frz1, ownIds, AV.frz, AV.frzL, frzEnv, AV.shift, AV.shiftL, aFieldV, aSliceW, aSliceO, aSlice, aSliceR, aSliceS, aBd, aMax, frzAVs, frzAV, frzTab, AObj.frz, aMM, aNilS, tyR_22, tyR_23, tyB_68, tyR_24, tyB_70, tyR_25, tyR_36, tyB_66, tyR_26, tyB_32, tyZ_32, tyS_32, tyA_32, tyB_38, tyB_42, tyZ_38, tyS_38, tyK_48, tyF_38_0, tyA_23, tyS_23, tyE_23, tyK_23, tyK_3, tyA_2, tyS_2, tyK_2, tyF_38_4, tyA_36, tyS_36, tyE_36, tyA_3, tyS_3, tyF_38_3, Int.toNat_zero, Int.reduceBEq, z1, z2, List.getElem?_cons_zero, Option.getD_some] | (with_reducible refine aIf_split (fun _ => ?_) (fun _ => ?_)) | (with_reducible refine aSel_split (fun _ => ?_) (fun _ => ?_)) | (with_reducible refine aGd_split (fun _ => ?_) (fun _ => ?_))))
set_option maxRecDepth 100000 in
set_option maxHeartbeats 8000000 in
theorem begins_A (m : Mod) (hc : condOk m) (hp : ∀ p ∈ m.stages, ok64 p.2) (hi : ∀ x ∈ m.inits, ok64 x) : ADet Try.prog 3 [.agg (eMod m)] (val (.bool true)) := by
  refine adet_of_code mixedT Try.func3 rfl (by decide) Try.ntmps3 Try.results3 rfl (val_ok _) ?_
  (repeat' (first | simp (maxSteps := 5000000) (implicitDefEqProofs := false) only [ruA, ruB, aEv, aTake, aLoad, aField, aIndex, aLen, aBin, bin2, aUn, un1, aExtract, aConv, ASt.get, aget, ASt.put, aStore, aBox, aAppend, aBuildSlice, aMake, aBuild, aFill, oneParts, allC, aBinS, yv, aCells, oneC, oneCL, treeC, treeL, aLit, aDst, aSrc, appTab, Value.cells, Value.oneCell', envOf, aResL, aOne, ↓reduceIte, reduceCtorEq, forall_const, Nat.reduceLT, Nat.reduceEqDiff, Nat.reduceAdd, Nat.reduceMul, Nat.reduceSub, Nat.reduceLeDiff, Nat.reduceBEq, eq_self, implies_true, ne_eq, dref, dref1, dref2, aExecS, aStoreB, aTakes, aTakeE, aElder, aFrom, aFresh, isLoad, aBuildSlice1, frzs, frz1, ownIds, AV.frz, AV.frzL, frzEnv, AV.shift, AV.shiftL, aFieldV, aSliceW, aSliceO, aSlice, aSliceR, aSliceS, aBd, aMax, frzAVs, frzAV, frzTab, AObj.frz, aMM, aNilS, tyA_32, tyS_32, tyR_44, tyB_42] | (with_reducible refine aIf_split (fun _ => ?_) (fun _ => ?_)) | (with_reducible refine aSel_split (fun _ => ?_) (fun _ => ?_)) | (with_reducible refine aGd_split (fun _ => ?_) (fun _ => ?_))))
  refine callPB (great12_A m) fun b hb => ?_
  cases b with
  | true =>
    (repeat' (first | simp (maxSteps := 5000000) (implicitDefEqProofs := false) only [ruA, ruB, aEv, aTake, aLoad, aField, aIndex, aLen, aBin, bin2, aUn, un1, aExtract, aConv, ASt.get, aget, ASt.put, aStore, aBox, aAppend, aBuildSlice, aMake, aBuild, aFill, oneParts, allC, aBinS, yv, aCells, oneC, oneCL, treeC, treeL, aLit, aDst, aSrc, appTab, Value.cells, Value.oneCell', envOf, aResL, aOne, ↓reduceIte, reduceCtorEq, forall_const, Nat.reduceLT, Nat.reduceEqDiff, Nat.reduceAdd, Nat.reduceMul, Nat.reduceSub, Nat.reduceLeDiff, Nat.reduceBEq, eq_self, implies_true, ne_eq, dref, dref1, dref2, aExecS, aStoreB, aTakes, aTakeE, aElder, aFrom, aFresh, isLoad, aBuildSlice1, frzs, frz1, ownIds, AV.frz, AV.frzL, frzEnv, AV.shift, AV.shiftL, aFieldV, aSliceW, aSliceO, aSlice, aSliceR, aSliceS, aBd, aMax, frzAVs, frzAV, frzTab, AObj.frz, aMM, aNilS, tyA_32, tyS_32, tyR_44, tyB_42] | (with_reducible refine aIf_split (fun _ => ?_) (fun _ => ?_)) | (with_reducible refine aSel_split (fun _ => ?_) (fun _ => ?_)) | (with_reducible refine aGd_split (fun _ => ?_) (fun _ => ?_)) | (with_reducible refine aDraw_quiet (by kernel_rfl) ?_) | ((with_reducible apply callV (g := 7)); exact (awake19_A)) | ((with_reducible apply callD (g := 7)); exact (awake19_A))))
  | false =>
    have hf := hb rfl
    (repeat' (first | simp (maxSteps := 5000000) (implicitDefEqProofs := false) only [ruA, ruB, aEv, aTake, aLoad, aField, aIndex, aLen, aBin, bin2, aUn, un1, aExtract, aConv, ASt.get, aget, ASt.put, aStore, aBox, aAppend, aBuildSlice, aMake, aBuild, aFill, oneParts, allC, aBinS, yv, aCells, oneC, oneCL, treeC, treeL, aLit, aDst, aSrc, appTab, Value.cells, Value.oneCell', envOf, aResL, aOne, ↓reduceIte, reduceCtorEq, forall_const, Nat.reduceLT, Nat.reduceEqDiff, Nat.reduceAdd, Nat.reduceMul, Nat.reduceSub, Nat.reduceLeDiff, Nat.reduceBEq, eq_self, implies_true, ne_eq, dref, dref1, dref2, aExecS, aStoreB, aTakes, aTakeE, aElder, aFrom, aFresh, isLoad, aBuildSlice1, frzs, frz1, ownIds, AV.frz, AV.frzL, frzEnv, AV.shift, AV.shiftL, aFieldV, aSliceW, aSliceO, aSlice, aSliceR, aSliceS, aBd, aMax, frzAVs, frzAV, frzTab, AObj.frz, aMM, aNilS, tyA_32, tyS_32, tyR_44, tyB_42] | (with_reducible refine aIf_split (fun _ => ?_) (fun _ => ?_)) | (with_reducible refine aSel_split (fun _ => ?_) (fun _ => ?_)) | (with_reducible refine aGd_split (fun _ => ?_) (fun _ => ?_))))
    have hso : FitS (beginM m) := by
      obtain ⟨h1, h2, h3⟩ := fold_vals m (-1) (m.order.take m.order.length) (startS m)
      obtain ⟨-, -, -, hel, -, -, -, -, -, hil⟩ := id hf.sizes
      unfold beginM passM FitS
      rw [h1, h2, h3]
      simp [startS]
      omega
    have hsm := sameS_A (beginM m) (beginM m) (by have := hso.1; omega) (by have := hso.2.1; omega) (by have := hso.2.2; omega)
    rw [sameB_self] at hsm
    have hmv := sameMvs_A [⟨-1, -1, []⟩] [⟨-1, -1, []⟩] (by simp) (by simp)
    have emv : sameMvs [⟨-1, -1, []⟩] [⟨-1, -1, []⟩] = true := by simp [sameMvs, allN, sameMvAt, sameMv]
    rw [emv] at hmv
    have hmv2 := hmv.fits (args := [.sl 3 [[eI (-1), eI (-1), .c (.slice none 0 0)]], .sl 3 [[eI (-1), eI (-1), .c (.slice none 0 0)]]]) ⟨.one (.rows ⟨⟨.refl _, .refl _, .nil 1, trivial⟩, trivial⟩), .one (.rows ⟨⟨.refl _, .refl _, .nil 1, trivial⟩, trivial⟩), trivial⟩
    refine aDraw_held [] [0, 2] (.exec 1 (.exec 3 (.exec 4 (.take 5 (.take 8 (.two 6 (.two 7 (.exec 9 (.exec 10 (.take 11 (.take 12 (.exec 13 (.take 14 (.exec 15 .done))))))) 9 (.exec 7 (.exec 10 (.take 11 (.take 12 (.exec 13 (.take 14 (.exec 15 .done)))))))) 9 (.exec 6 (.exec 7 (.exec 10 (.take 11 (.take 12 (.exec 13 (.take 14 (.exec 15 .done)))))))))))))) (by kernel_rfl) (by simp [ATab.get_cons]) ?_
    (repeat' (first | simp (maxSteps := 5000000) (implicitDefEqProofs := false) only [ruA, ruB, aEv, aTake, aLoad, aField, aIndex, aLen, aBin, bin2, aUn, un1, aExtract, aConv, ASt.get, aget, ASt.put, aStore, aBox, aAppend, aBuildSlice, aMake, aBuild, aFill, oneParts, allC, aBinS, yv, aCells, oneC, oneCL, treeC, treeL, aLit, aDst, aSrc, appTab, Value.cells, Value.oneCell', envOf, aResL, aOne, ↓reduceIte, reduceCtorEq, forall_const, Nat.reduceLT, Nat.reduceEqDiff, Nat.reduceAdd, Nat.reduceMul, Nat.reduceSub, Nat.reduceLeDiff, Nat.reduceBEq, eq_self, implies_true, ne_eq, dref, dref1, dref2, aExecS, aStoreB, aTakes, aTakeE, aElder, aFrom, aFresh, isLoad, aBuildSlice1, frzs, frz1, ownIds, AV.frz, AV.frzL, frzEnv, AV.shift, AV.shiftL, aFieldV, aSliceW, aSliceO, aSlice, aSliceR, aSliceS, aBd, aMax, frzAVs, frzAV, frzTab, AObj.frz, aMM, aNilS, tyA_32, tyS_32, tyR_44, tyB_42] | (with_reducible refine aIf_split (fun _ => ?_) (fun _ => ?_)) | (with_reducible refine aSel_split (fun _ => ?_) (fun _ => ?_)) | (with_reducible refine aGd_split (fun _ => ?_) (fun _ => ?_)) | (with_reducible refine aDraw_quiet (by kernel_rfl) ?_) | ((with_reducible apply callT (g := 9)); exact (begin_A m hf hc hp hi); exact (.inl (by simp [roL, roA, treeL, treeC]))) | ((with_reducible apply callT (g := 10)); exact (begin19_A m hf hp); exact (.inl (by simp [roL, roA, treeL, treeC]))) | ((with_reducible apply callV); exact (hsm)) | ((with_reducible apply callD); exact (hsm)) | ((with_reducible apply callT (g := 12)); exact (idleMv_A); exact (.inl (by simp [roL, roA, treeL, treeC]))) | ((with_reducible apply callV (g := 7)); exact (awake19_A)) | ((with_reducible apply callD (g := 7)); exact (awake19_A)) | ((with_reducible apply callV); exact (hmv2)) | ((with_reducible apply callD); exact (hmv2)) | (with_reducible apply And.intro)))
    all_goals first
      | rfl
      | trace_state
end
end Go.Proofs.Ytfocnmkbnccilaa
