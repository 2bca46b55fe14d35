/-
  Parts of the proof: SoO, ZC, ZD, ZE, EvOpen, CO.
-/
import Derived.Test.YtmcegfoaceilgaaZof8
import Derived.Test.YtmcegfoaceilgaaProg
set_option linter.unusedVariables false
set_option linter.unusedSimpArgs false
namespace Go.Proofs.Ytmcegfoaceilgaa
section
open Go.RowKit
theorem adet_iff {P : Program} {f : FuncId} {args : List AV} {Q : Prop} (h : ARel P f args fun R => ∃ b, R = val (.bool b) ∧ (b = true ↔ Q)) : ∃ t : Bool, (t = true ↔ Q) ∧ ADet P f args (val (.bool t)) := by
  by_cases hQ : Q
  · exact ⟨true, by simp [hQ], h.mono fun R ⟨b, h1, h2⟩ => by rw [h1, h2.2 hQ]⟩
  · exact ⟨false, by simp [hQ], h.mono fun R ⟨b, h1, h2⟩ => by
      cases b with
      | true => exact absurd (h2.1 rfl) hQ
      | false => exact h1⟩
def GappedP (z : Zn) (cap : Int) : Prop := (z.gaps.length : Int) = max ((z.cls.length : Int) - 1) 0 ∧ ∀ i (h : i < z.gaps.length), 0 ≤ z.gaps[i] ∧ z.gaps[i] ≤ cap
set_option maxRecDepth 100000 in
set_option maxHeartbeats 8000000 in
theorem gapped_A (z : Zn) (cap : Int) (h1 : z.cls.length ≤ 1000000) (h2 : z.gaps.length ≤ 1000000) : ARel Try.prog 37 [.agg (eZn z), eI cap] fun R => ∃ b, R = val (.bool b) ∧ (b = true ↔ GappedP z cap) := by
  refine arel_of_code mixedT Try.func37 rfl (by decide) Try.ntmps37 Try.results37 rfl ?_
  have e1 : IntKind.i64.wrap ((z.cls.length : Int) - 1) = (z.cls.length : Int) - 1 := wrap_in (by omega) (by omega)
  by_cases hl : (z.gaps.length : Int) = max ((z.cls.length : Int) - 1) 0
  · have d1 : ((z.gaps.length : Int) != max ((z.cls.length : Int) - 1) 0) = false := by simp [hl]
    (repeat' (first | simp (maxSteps := 5000000) (implicitDefEqProofs := false) only [ruA, ruB, aEv, aTake, aLoad, aField, aIndex, aLen, aBin, bin2, aUn, un1, aExtract, aConv, ASt.get, aget, ASt.put, aStore, aBox, aAppend, aBuildSlice, aMake, aBuild, aFill, oneParts, allC, aBinS, yv, aCells, oneC, oneCL, treeC, treeL, aLit, aDst, aSrc, appTab, Value.cells, Value.oneCell', envOf, aResL, aOne, ↓reduceIte, reduceCtorEq, forall_const, Nat.reduceLT, Nat.reduceEqDiff, Nat.reduceAdd, Nat.reduceMul, Nat.reduceSub, Nat.reduceLeDiff, Nat.reduceBEq, eq_self, implies_true, ne_eq, dref, dref1, dref2, aExecS, aStoreB, aTakes, aTakeE, aElder, aFrom, aFresh, isLoad, aBuildSlice1, frzs, frz1, ownIds, AV.frz, AV.frzL, frzEnv, AV.shift, AV.shiftL, aFieldV, aSliceW, aSliceO, aSlice, aSliceR, aSliceS, aBd, aMax, frzAVs, frzAV, frzTab, AObj.frz, aMM, aNilS, aMay, tyF_25_1, tyA_23, tyS_23, tyE_23, tyK_23, tyF_25_0, tyA_22, tyS_22, tyE_22, tyK_22, tyK_3, tyA_3, tyS_3, e1, d1, List.length_map] | (with_reducible refine aIf_split (fun _ => ?_) (fun _ => ?_)) | (with_reducible refine aSel_split (fun _ => ?_) (fun _ => ?_)) | (with_reducible refine aGd_split (fun _ => ?_) (fun _ => ?_)) | (with_reducible refine aDraw_quiet (by kernel_rfl) ?_)))
    refine aLoop_of (fun st => ∃ i : Nat, i ≤ z.gaps.length ∧ (∀ j (h : j < z.gaps.length), j < i → 0 ≤ z.gaps[j] ∧ z.gaps[j] ≤ cap) ∧ st = ⟨31, [(1, eI cap), (17, sI z.gaps), (18, eI (z.gaps.length : Int)), (19, eI (i : Int))], [], 0⟩) (fun st => z.gaps.length - slotN st 19) ⟨_, (weak_cut1 (by (first | ((simp only [envIn, tabIn, envLt, tabLt, AObj.lt, AV.lt, AV.ltL, ruW, ASt.get, aget, ASt.put, ↓reduceIte, reduceCtorEq, Nat.reduceLT, Nat.reduceEqDiff, Nat.reduceAdd, Nat.reduceLeDiff, eq_self, implies_true]) <;> (repeat' apply And.intro) <;> first | (rw [wrapK (by omega)]; done) | (simp; done) | omega) | fail))), 0, Nat.zero_le _, fun j _ h => by omega, rfl⟩ ?_
    rintro _ ⟨i, hi, hok, rfl⟩
    by_cases hlt : i < z.gaps.length
    · have hno : ¬ (0 ≤ z.gaps[i] ∧ z.gaps[i] ≤ cap) → ¬ GappedP z cap := fun h h2 => h (h2.2 i hlt)
      have hok2 : (0 ≤ z.gaps[i] ∧ z.gaps[i] ≤ cap) → ∀ j (h : j < z.gaps.length), j < i + 1 → 0 ≤ z.gaps[j] ∧ z.gaps[j] ≤ cap := fun h j hj hji => by
        rcases Nat.lt_or_ge j i with h2 | h2
        · exact hok j hj h2
        · obtain rfl : j = i := by omega
          exact h
      generalize hg : z.gaps[i] = g at *
      by_cases g1 : g < 0
      · have d2 : decide (g < 0) = true := by simpa using g1
        (repeat' (first | simp (maxSteps := 5000000) (implicitDefEqProofs := false) only [ruA, ruB, aEv, aTake, aLoad, aField, aIndex, aLen, aBin, bin2, aUn, un1, aExtract, aConv, ASt.get, aget, ASt.put, aStore, aBox, aAppend, aBuildSlice, aMake, aBuild, aFill, oneParts, allC, aBinS, yv, aCells, oneC, oneCL, treeC, treeL, aLit, aDst, aSrc, appTab, Value.cells, Value.oneCell', envOf, aResL, aOne, ↓reduceIte, reduceCtorEq, forall_const, Nat.reduceLT, Nat.reduceEqDiff, Nat.reduceAdd, Nat.reduceMul, Nat.reduceSub, Nat.reduceLeDiff, Nat.reduceBEq, eq_self, implies_true, ne_eq, dref, dref1, dref2, aExecS, aStoreB, aTakes, aTakeE, aElder, aFrom, aFresh, isLoad, aBuildSlice1, frzs, frz1, ownIds, AV.frz, AV.frzL, frzEnv, AV.shift, AV.shiftL, aFieldV, aSliceW, aSliceO, aSlice, aSliceR, aSliceS, aBd, aMax, frzAVs, frzAV, frzTab, AObj.frz, aMM, aNilS, aMay, tyF_25_1, tyA_23, tyS_23, tyE_23, tyK_23, tyF_25_0, tyA_22, tyS_22, tyE_22, tyK_22, tyK_3, tyA_3, tyS_3, row_at, hlt, hg, d2, List.length_map] | (with_reducible refine aIf_split (fun _ => ?_) (fun _ => ?_)) | (with_reducible refine aSel_split (fun _ => ?_) (fun _ => ?_)) | (with_reducible refine aGd_split (fun _ => ?_) (fun _ => ?_)) | (with_reducible refine aDraw_quiet (by kernel_rfl) ?_)))
        all_goals exact retV ⟨false, rfl, by simp; exact hno (by omega)⟩
      · have d2 : decide (g < 0) = false := by simpa using g1
        by_cases g2 : cap < g
        · have d3 : decide (cap < g) = true := by simpa using g2
          (repeat' (first | simp (maxSteps := 5000000) (implicitDefEqProofs := false) only [ruA, ruB, aEv, aTake, aLoad, aField, aIndex, aLen, aBin, bin2, aUn, un1, aExtract, aConv, ASt.get, aget, ASt.put, aStore, aBox, aAppend, aBuildSlice, aMake, aBuild, aFill, oneParts, allC, aBinS, yv, aCells, oneC, oneCL, treeC, treeL, aLit, aDst, aSrc, appTab, Value.cells, Value.oneCell', envOf, aResL, aOne, ↓reduceIte, reduceCtorEq, forall_const, Nat.reduceLT, Nat.reduceEqDiff, Nat.reduceAdd, Nat.reduceMul, Nat.reduceSub, Nat.reduceLeDiff, Nat.reduceBEq, eq_self, implies_true, ne_eq, dref, dref1, dref2, aExecS, aStoreB, aTakes, aTakeE, aElder, aFrom, aFresh, isLoad, aBuildSlice1, frzs, frz1, ownIds, AV.frz, AV.frzL, frzEnv, AV.shift, AV.shiftL, aFieldV, aSliceW, aSliceO, aSlice, aSliceR, aSliceS, aBd, aMax, frzAVs, frzAV, frzTab, AObj.frz, aMM, aNilS, aMay, tyF_25_1, tyA_23, tyS_23, tyE_23, tyK_23, tyF_25_0, tyA_22, tyS_22, tyE_22, tyK_22, tyK_3, tyA_3, tyS_3, row_at, hlt, hg, d2, d3, List.length_map] | (with_reducible refine aIf_split (fun _ => ?_) (fun _ => ?_)) | (with_reducible refine aSel_split (fun _ => ?_) (fun _ => ?_)) | (with_reducible refine aGd_split (fun _ => ?_) (fun _ => ?_)) | (with_reducible refine aDraw_quiet (by kernel_rfl) ?_)))
          all_goals exact retV ⟨false, rfl, by simp; exact hno (by omega)⟩
        · have d3 : decide (cap < g) = false := by simpa using g2
          (repeat' (first | simp (maxSteps := 5000000) (implicitDefEqProofs := false) only [ruA, ruB, aEv, aTake, aLoad, aField, aIndex, aLen, aBin, bin2, aUn, un1, aExtract, aConv, ASt.get, aget, ASt.put, aStore, aBox, aAppend, aBuildSlice, aMake, aBuild, aFill, oneParts, allC, aBinS, yv, aCells, oneC, oneCL, treeC, treeL, aLit, aDst, aSrc, appTab, Value.cells, Value.oneCell', envOf, aResL, aOne, ↓reduceIte, reduceCtorEq, forall_const, Nat.reduceLT, Nat.reduceEqDiff, Nat.reduceAdd, Nat.reduceMul, Nat.reduceSub, Nat.reduceLeDiff, Nat.reduceBEq, eq_self, implies_true, ne_eq, dref, dref1, dref2, aExecS, aStoreB, aTakes, aTakeE, aElder, aFrom, aFresh, isLoad, aBuildSlice1, frzs, frz1, ownIds, AV.frz, AV.frzL, frzEnv, AV.shift, AV.shiftL, aFieldV, aSliceW, aSliceO, aSlice, aSliceR, aSliceS, aBd, aMax, frzAVs, frzAV, frzTab, AObj.frz, aMM, aNilS, aMay, tyF_25_1, tyA_23, tyS_23, tyE_23, tyK_23, tyF_25_0, tyA_22, tyS_22, tyE_22, tyK_22, tyK_3, tyA_3, tyS_3, row_at, hlt, hg, d2, d3, List.length_map] | (with_reducible refine aIf_split (fun _ => ?_) (fun _ => ?_)) | (with_reducible refine aSel_split (fun _ => ?_) (fun _ => ?_)) | (with_reducible refine aGd_split (fun _ => ?_) (fun _ => ?_)) | (with_reducible refine aDraw_quiet (by kernel_rfl) ?_)))
          all_goals exact roundI (weak_cut1 (by (first | ((simp only [envIn, tabIn, envLt, tabLt, AObj.lt, AV.lt, AV.ltL, ruW, ASt.get, aget, ASt.put, ↓reduceIte, reduceCtorEq, Nat.reduceLT, Nat.reduceEqDiff, Nat.reduceAdd, Nat.reduceLeDiff, eq_self, implies_true]) <;> (repeat' apply And.intro) <;> first | (rw [wrapK (by omega)]; done) | (simp; done) | omega) | fail))) ⟨i + 1, by omega, hok2 ⟨by omega, by omega⟩, rfl⟩ (by simp only [slotN, ruW, ASt.get, aget, ASt.put, ↓reduceIte, reduceCtorEq, Nat.reduceLT, Nat.reduceEqDiff, Nat.reduceAdd, Nat.reduceLeDiff, eq_self, implies_true]; omega)
    · (repeat' (first | simp (maxSteps := 5000000) (implicitDefEqProofs := false) only [ruA, ruB, aEv, aTake, aLoad, aField, aIndex, aLen, aBin, bin2, aUn, un1, aExtract, aConv, ASt.get, aget, ASt.put, aStore, aBox, aAppend, aBuildSlice, aMake, aBuild, aFill, oneParts, allC, aBinS, yv, aCells, oneC, oneCL, treeC, treeL, aLit, aDst, aSrc, appTab, Value.cells, Value.oneCell', envOf, aResL, aOne, ↓reduceIte, reduceCtorEq, forall_const, Nat.reduceLT, Nat.reduceEqDiff, Nat.reduceAdd, Nat.reduceMul, Nat.reduceSub, Nat.reduceLeDiff, Nat.reduceBEq, eq_self, implies_true, ne_eq, dref, dref1, dref2, aExecS, aStoreB, aTakes, aTakeE, aElder, aFrom, aFresh, isLoad, aBuildSlice1, frzs, frz1, ownIds, AV.frz, AV.frzL, frzEnv, AV.shift, AV.shiftL, aFieldV, aSliceW, aSliceO, aSlice, aSliceR, aSliceS, aBd, aMax, frzAVs, frzAV, frzTab, AObj.frz, aMM, aNilS, aMay, tyF_25_1, tyA_23, tyS_23, tyE_23, tyK_23, tyF_25_0, tyA_22, tyS_22, tyE_22, tyK_22, tyK_3, tyA_3, tyS_3, hlt, List.length_map] | (with_reducible refine aIf_split (fun _ => ?_) (fun _ => ?_)) | (with_reducible refine aSel_split (fun _ => ?_) (fun _ => ?_)) | (with_reducible refine aGd_split (fun _ => ?_) (fun _ => ?_)) | (with_reducible refine aDraw_quiet (by kernel_rfl) ?_)))
      all_goals exact retV ⟨true, rfl, by simp; exact ⟨hl, fun j hj => hok j hj (by omega)⟩⟩
  · have d1 : ((z.gaps.length : Int) != max ((z.cls.length : Int) - 1) 0) = true := by simpa using hl
    (repeat' (first | simp (maxSteps := 5000000) (implicitDefEqProofs := false) only [ruA, ruB, aEv, aTake, aLoad, aField, aIndex, aLen, aBin, bin2, aUn, un1, aExtract, aConv, ASt.get, aget, ASt.put, aStore, aBox, aAppend, aBuildSlice, aMake, aBuild, aFill, oneParts, allC, aBinS, yv, aCells, oneC, oneCL, treeC, treeL, aLit, aDst, aSrc, appTab, Value.cells, Value.oneCell', envOf, aResL, aOne, ↓reduceIte, reduceCtorEq, forall_const, Nat.reduceLT, Nat.reduceEqDiff, Nat.reduceAdd, Nat.reduceMul, Nat.reduceSub, Nat.reduceLeDiff, Nat.reduceBEq, eq_self, implies_true, ne_eq, dref, dref1, dref2, aExecS, aStoreB, aTakes, aTakeE, aElder, aFrom, aFresh, isLoad, aBuildSlice1, frzs, frz1, ownIds, AV.frz, AV.frzL, frzEnv, AV.shift, AV.shiftL, aFieldV, aSliceW, aSliceO, aSlice, aSliceR, aSliceS, aBd, aMax, frzAVs, frzAV, frzTab, AObj.frz, aMM, aNilS, aMay, tyF_25_1, tyA_23, tyS_23, tyE_23, tyK_23, tyF_25_0, tyA_22, tyS_22, tyE_22, tyK_22, tyK_3, tyA_3, tyS_3, e1, d1, List.length_map] | (with_reducible refine aIf_split (fun _ => ?_) (fun _ => ?_)) | (with_reducible refine aSel_split (fun _ => ?_) (fun _ => ?_)) | (with_reducible refine aGd_split (fun _ => ?_) (fun _ => ?_)) | (with_reducible refine aDraw_quiet (by kernel_rfl) ?_)))
    all_goals exact retV ⟨false, rfl, by simp; exact fun h => hl h.1⟩
/-- the places of classes with constants -/
def fixI (l : List Cls) (k : Nat) : List Nat := (List.range k).filter fun i => decide (0 ≤ (l[i]?.map (·.const)).getD (-1))
theorem fixI_snoc (l : List Cls) {k : Nat} (hk : k < l.length) : fixI l (k + 1) = if 0 ≤ l[k].const then fixI l k ++ [k] else fixI l k := by
  unfold fixI
  rw [List.range_succ, List.filter_append]
  by_cases h : 0 ≤ l[k].const
  · rw [if_pos h]
    simp [List.getElem?_eq_getElem hk, h]
  · rw [if_neg h]
    simp [List.getElem?_eq_getElem hk]
    omega
theorem fixI_len (l : List Cls) (k : Nat) : (fixI l k).length ≤ k := by
  have := List.length_filter_le (fun i => decide (0 ≤ (l[i]?.map (·.const)).getD (-1))) (List.range k)
  unfold fixI
  simpa using this
set_option maxRecDepth 100000 in
set_option maxHeartbeats 8000000 in
theorem fixed_A (z : Zn) (h1 : z.cls.length ≤ 1000000) : ADet Try.prog 38 [.agg (eZn z)] (own 3 1 ((fixI z.cls z.cls.length).map fun n : Nat => [eI (n : Int)])) := by
  refine adet_of_code mixedT Try.func38 rfl (by decide) Try.ntmps38 Try.results38 rfl (own_ok _ _ _) ?_
  (repeat' (first | simp (maxSteps := 5000000) (implicitDefEqProofs := false) only [ruA, ruB, aEv, aTake, aLoad, aField, aIndex, aLen, aBin, bin2, aUn, un1, aExtract, aConv, ASt.get, aget, ASt.put, aStore, aBox, aAppend, aBuildSlice, aMake, aBuild, aFill, oneParts, allC, aBinS, yv, aCells, oneC, oneCL, treeC, treeL, aLit, aDst, aSrc, appTab, Value.cells, Value.oneCell', envOf, aResL, aOne, ↓reduceIte, reduceCtorEq, forall_const, Nat.reduceLT, Nat.reduceEqDiff, Nat.reduceAdd, Nat.reduceMul, Nat.reduceSub, Nat.reduceLeDiff, Nat.reduceBEq, eq_self, implies_true, ne_eq, dref, dref1, dref2, aExecS, aStoreB, aTakes, aTakeE, aElder, aFrom, aFresh, isLoad, aBuildSlice1, frzs, frz1, ownIds, AV.frz, AV.frzL, frzEnv, AV.shift, AV.shiftL, aFieldV, aSliceW, aSliceO, aSlice, aSliceR, aSliceS, aBd, aMax, frzAVs, frzAV, frzTab, AObj.frz, aMM, aNilS, aMay, tyF_25_0, tyA_22, tyS_22, tyE_22, tyK_22, tyK_3, tyA_50, tyS_50, tyZ_50, tyF_50_1, tyA_3, tyS_3, tyR_23] | (with_reducible refine aIf_split (fun _ => ?_) (fun _ => ?_)) | (with_reducible refine aSel_split (fun _ => ?_) (fun _ => ?_)) | (with_reducible refine aGd_split (fun _ => ?_) (fun _ => ?_))))
  refine aLoop_of (fun st => ∃ k : Nat, k ≤ z.cls.length ∧ st = ⟨23, [(3, .osl 0), (7, .sl 2 (z.cls.map eCls)), (8, eI (z.cls.length : Int)), (9, eI (k : Int))], [(0, some (.row 3 1 ((fixI z.cls k).map fun n : Nat => [eI (n : Int)])))], 1⟩) (fun st => z.cls.length - slotN st 9) ⟨_, ((weak_nil 3 3 1 (by simp only [ruW, ASt.get, aget, ASt.put, ↓reduceIte, reduceCtorEq, Nat.reduceLT, Nat.reduceEqDiff, Nat.reduceAdd, Nat.reduceLeDiff, eq_self, implies_true, fixI, List.range_zero, List.filter_nil, List.map_nil, List.length_map])).trans (weak_ren1 [1] ⟨(by decide), (by (first | ((simp only [envInR, tabInR, envLt, tabLt, AObj.lt, AV.lt, AV.ltL, AV.ren, AV.renL, AObj.ren, List.getD_cons_zero, List.getD_cons_succ, List.length_cons, List.length_nil, ruW, ASt.get, aget, ASt.put, ↓reduceIte, reduceCtorEq, Nat.reduceLT, Nat.reduceEqDiff, Nat.reduceAdd, Nat.reduceLeDiff, eq_self, implies_true, fixI, List.range_zero, List.filter_nil, List.map_nil, List.length_map]) <;> (repeat' apply And.intro) <;> first | (rw [wrapK (by omega)]; done) | (simp; done) | omega) | fail))⟩)), 0, Nat.zero_le _, rfl⟩ ?_
  rintro _ ⟨k, hk, rfl⟩
  by_cases hlt : k < z.cls.length
  · have hs := fixI_snoc z.cls hlt
    have hl := fixI_len z.cls k
    generalize hc : z.cls[k] = c at *
    by_cases h : 0 ≤ c.const
    · have d1 : decide (0 ≤ c.const) = true := by simpa using h
      rw [if_pos h] at hs
      have hsn : (fixI z.cls (k + 1)).map (fun n : Nat => [eI (n : Int)]) = (fixI z.cls k).map (fun n : Nat => [eI (n : Int)]) ++ [[eI (k : Int)]] := by rw [hs, List.map_append]; rfl
      (repeat' (first | simp (maxSteps := 5000000) (implicitDefEqProofs := false) only [ruA, ruB, aEv, aTake, aLoad, aField, aIndex, aLen, aBin, bin2, aUn, un1, aExtract, aConv, ASt.get, aget, ASt.put, aStore, aBox, aAppend, aBuildSlice, aMake, aBuild, aFill, oneParts, allC, aBinS, yv, aCells, oneC, oneCL, treeC, treeL, aLit, aDst, aSrc, appTab, Value.cells, Value.oneCell', envOf, aResL, aOne, ↓reduceIte, reduceCtorEq, forall_const, Nat.reduceLT, Nat.reduceEqDiff, Nat.reduceAdd, Nat.reduceMul, Nat.reduceSub, Nat.reduceLeDiff, Nat.reduceBEq, eq_self, implies_true, ne_eq, dref, dref1, dref2, aExecS, aStoreB, aTakes, aTakeE, aElder, aFrom, aFresh, isLoad, aBuildSlice1, frzs, frz1, ownIds, AV.frz, AV.frzL, frzEnv, AV.shift, AV.shiftL, aFieldV, aSliceW, aSliceO, aSlice, aSliceR, aSliceS, aBd, aMax, frzAVs, frzAV, frzTab, AObj.frz, aMM, aNilS, aMay, tyF_25_0, tyA_22, tyS_22, tyE_22, tyK_22, tyK_3, tyA_50, tyS_50, tyZ_50, tyF_50_1, tyA_3, tyS_3, tyR_23, row_at, hlt, hc, d1, List.length_map] | (with_reducible refine aIf_split (fun _ => ?_) (fun _ => ?_)) | (with_reducible refine aSel_split (fun _ => ?_) (fun _ => ?_)) | (with_reducible refine aGd_split (fun _ => ?_) (fun _ => ?_)) | (with_reducible refine aDraw_quiet (by kernel_rfl) ?_) | (with_reducible apply And.intro)))
      all_goals first
        | rfl
        | omega
        | exact roundI (weak_ren1 [3] ⟨(by decide), (by (first | ((simp only [envInR, tabInR, envLt, tabLt, AObj.lt, AV.lt, AV.ltL, AV.ren, AV.renL, AObj.ren, List.getD_cons_zero, List.getD_cons_succ, List.length_cons, List.length_nil, ruW, ASt.get, aget, ASt.put, ↓reduceIte, reduceCtorEq, Nat.reduceLT, Nat.reduceEqDiff, Nat.reduceAdd, Nat.reduceLeDiff, eq_self, implies_true, hsn]) <;> (repeat' apply And.intro) <;> first | (rw [wrapK (by omega)]; done) | (simp; done) | omega) | fail))⟩) ⟨k + 1, by omega, rfl⟩ (by simp only [slotN, ruW, ASt.get, aget, ASt.put, ↓reduceIte, reduceCtorEq, Nat.reduceLT, Nat.reduceEqDiff, Nat.reduceAdd, Nat.reduceLeDiff, eq_self, implies_true]; omega)
        | trace_state
    · have d1 : decide (0 ≤ c.const) = false := by simpa using h
      rw [if_neg h] at hs
      (repeat' (first | simp (maxSteps := 5000000) (implicitDefEqProofs := false) only [ruA, ruB, aEv, aTake, aLoad, aField, aIndex, aLen, aBin, bin2, aUn, un1, aExtract, aConv, ASt.get, aget, ASt.put, aStore, aBox, aAppend, aBuildSlice, aMake, aBuild, aFill, oneParts, allC, aBinS, yv, aCells, oneC, oneCL, treeC, treeL, aLit, aDst, aSrc, appTab, Value.cells, Value.oneCell', envOf, aResL, aOne, ↓reduceIte, reduceCtorEq, forall_const, Nat.reduceLT, Nat.reduceEqDiff, Nat.reduceAdd, Nat.reduceMul, Nat.reduceSub, Nat.reduceLeDiff, Nat.reduceBEq, eq_self, implies_true, ne_eq, dref, dref1, dref2, aExecS, aStoreB, aTakes, aTakeE, aElder, aFrom, aFresh, isLoad, aBuildSlice1, frzs, frz1, ownIds, AV.frz, AV.frzL, frzEnv, AV.shift, AV.shiftL, aFieldV, aSliceW, aSliceO, aSlice, aSliceR, aSliceS, aBd, aMax, frzAVs, frzAV, frzTab, AObj.frz, aMM, aNilS, aMay, tyF_25_0, tyA_22, tyS_22, tyE_22, tyK_22, tyK_3, tyA_50, tyS_50, tyZ_50, tyF_50_1, tyA_3, tyS_3, tyR_23, row_at, hlt, hc, d1, List.length_map] | (with_reducible refine aIf_split (fun _ => ?_) (fun _ => ?_)) | (with_reducible refine aSel_split (fun _ => ?_) (fun _ => ?_)) | (with_reducible refine aGd_split (fun _ => ?_) (fun _ => ?_)) | (with_reducible refine aDraw_quiet (by kernel_rfl) ?_) | (with_reducible apply And.intro)))
      all_goals first
        | exact roundI (weak_ren1 [0] ⟨(by decide), (by (first | ((simp only [envInR, tabInR, envLt, tabLt, AObj.lt, AV.lt, AV.ltL, AV.ren, AV.renL, AObj.ren, List.getD_cons_zero, List.getD_cons_succ, List.length_cons, List.length_nil, ruW, ASt.get, aget, ASt.put, ↓reduceIte, reduceCtorEq, Nat.reduceLT, Nat.reduceEqDiff, Nat.reduceAdd, Nat.reduceLeDiff, eq_self, implies_true, hs]) <;> (repeat' apply And.intro) <;> first | (rw [wrapK (by omega)]; done) | (simp; done) | omega) | fail))⟩) ⟨k + 1, by omega, rfl⟩ (by simp only [slotN, ruW, ASt.get, aget, ASt.put, ↓reduceIte, reduceCtorEq, Nat.reduceLT, Nat.reduceEqDiff, Nat.reduceAdd, Nat.reduceLeDiff, eq_self, implies_true]; omega)
        | trace_state
  · obtain rfl : k = z.cls.length := by omega
    (repeat' (first | simp (maxSteps := 5000000) (implicitDefEqProofs := false) only [ruA, ruB, aEv, aTake, aLoad, aField, aIndex, aLen, aBin, bin2, aUn, un1, aExtract, aConv, ASt.get, aget, ASt.put, aStore, aBox, aAppend, aBuildSlice, aMake, aBuild, aFill, oneParts, allC, aBinS, yv, aCells, oneC, oneCL, treeC, treeL, aLit, aDst, aSrc, appTab, Value.cells, Value.oneCell', envOf, aResL, aOne, ↓reduceIte, reduceCtorEq, forall_const, Nat.reduceLT, Nat.reduceEqDiff, Nat.reduceAdd, Nat.reduceMul, Nat.reduceSub, Nat.reduceLeDiff, Nat.reduceBEq, eq_self, implies_true, ne_eq, dref, dref1, dref2, aExecS, aStoreB, aTakes, aTakeE, aElder, aFrom, aFresh, isLoad, aBuildSlice1, frzs, frz1, ownIds, AV.frz, AV.frzL, frzEnv, AV.shift, AV.shiftL, aFieldV, aSliceW, aSliceO, aSlice, aSliceR, aSliceS, aBd, aMax, frzAVs, frzAV, frzTab, AObj.frz, aMM, aNilS, aMay, tyF_25_0, tyA_22, tyS_22, tyE_22, tyK_22, tyK_3, tyA_50, tyS_50, tyZ_50, tyF_50_1, tyA_3, tyS_3, tyR_23, hlt, List.length_map] | (with_reducible refine aIf_split (fun _ => ?_) (fun _ => ?_)) | (with_reducible refine aSel_split (fun _ => ?_) (fun _ => ?_)) | (with_reducible refine aGd_split (fun _ => ?_) (fun _ => ?_)) | (with_reducible refine aDraw_quiet (by kernel_rfl) ?_)))
    all_goals exact aGives_own (by simp [ATab.get_cons])
/-- the gaps from one class on, up to another -/
def gapsPQ (z : Zn) (p q : Nat) : List Int := (z.gaps.take q).drop p
def RoomP (z : Zn) (p q : Nat) (cap a b : Int) : Prop :=
  gapV a b ((q : Int) - p - 1 + (gapsPQ z p q).sum + 1) = (q : Int) - p - 1 + (gapsPQ z p q).sum ∨ ((∃ g ∈ gapsPQ z p q, g = cap) ∧ (q : Int) - p - 1 + (gapsPQ z p q).sum < gapV a b ((q : Int) - p - 1 + (gapsPQ z p q).sum + 1))
theorem sum_bd (cap : Int) (hc : 0 ≤ cap) : ∀ l : List Int, (∀ g ∈ l, 0 ≤ g ∧ g ≤ cap) → 0 ≤ l.sum ∧ l.sum ≤ cap * l.length
  | [], _ => by simp
  | g :: l, h => by
    have h1 := sum_bd cap hc l fun x hx => h x (List.mem_cons_of_mem _ hx)
    have h2 := h g (List.mem_cons_self ..)
    rw [List.sum_cons, List.length_cons, Int.natCast_add, Int.mul_add]
    omega
set_option maxRecDepth 100000 in
set_option maxHeartbeats 8000000 in
theorem room_A (z : Zn) (p q : Nat) (cap a b : Int) (hpq : p < q) (hq : q ≤ z.gaps.length) (h2 : z.gaps.length ≤ 1000000) (hg : ∀ i (h : i < z.gaps.length), 0 ≤ z.gaps[i] ∧ z.gaps[i] ≤ cap) (hcap : 0 ≤ cap ∧ cap ≤ 4294967296) (ha : ok64 a) (hb : ok64 b) :
    ARel Try.prog 39 [.agg (eZn z), eI (p : Int), eI (q : Int), eI cap, eI a, eI b] fun R => ∃ t, R = val (.bool t) ∧ (t = true ↔ RoomP z p q cap a b) := by
  refine arel_of_code mixedT Try.func39 rfl (by decide) Try.ntmps39 Try.results39 rfl ?_
  unfold RoomP
  have hgl : (gapsPQ z p q).length = q - p := by unfold gapsPQ; rw [List.length_drop, List.length_take]; omega
  have hgb : ∀ g ∈ gapsPQ z p q, 0 ≤ g ∧ g ≤ cap := fun g hgm => by
    obtain ⟨i, hi, rfl⟩ := List.getElem_of_mem (List.mem_of_mem_take (List.mem_of_mem_drop hgm))
    exact hg i hi
  have hrows : List.drop p (List.take q (z.gaps.map fun n => [eI n])) = (gapsPQ z p q).map fun n => [eI n] := by unfold gapsPQ; rw [List.map_drop, List.map_take]
  generalize gapsPQ z p q = G at *
  have hgl2 : G.length ≤ 1000000 := by omega
  have hsb : ∀ k, k ≤ G.length → 0 ≤ (G.take k).sum ∧ (G.take k).sum ≤ 4294967296000000 := fun k hk => by
    have h := sum_bd cap hcap.1 (G.take k) fun g hgm => hgb g (List.mem_of_mem_take hgm)
    have h5 : ((G.take k).length : Int) ≤ 1000000 := by rw [List.length_take]; omega
    have h6 : cap * ((G.take k).length : Int) ≤ 4294967296 * 1000000 := Int.mul_le_mul hcap.2 h5 (by omega) (by omega)
    omega
  have hL : (((G.map fun n => [eI n]).length : Nat) : Int) = (G.length : Int) := by rw [List.length_map]
  have e1 : IntKind.i64.wrap ((q : Int) - (p : Int)) = (q : Int) - p := wrap_in (by omega) (by omega)
  obtain ⟨B, hB⟩ : ∃ B, (q : Int) - p - 1 = B := ⟨_, rfl⟩
  have e2 : IntKind.i64.wrap ((q : Int) - (p : Int) - 1) = B := by rw [hB]; exact wrap_in (by omega) (by omega)
  rw [hB]
  have hB1 : 0 ≤ B ∧ B ≤ 1000000 := by omega
  (repeat' (first | simp (maxSteps := 5000000) (implicitDefEqProofs := false) only [ruA, ruB, aEv, aTake, aLoad, aField, aIndex, aLen, aBin, bin2, aUn, un1, aExtract, aConv, ASt.get, aget, ASt.put, aStore, aBox, aAppend, aBuildSlice, aMake, aBuild, aFill, oneParts, allC, aBinS, yv, aCells, oneC, oneCL, treeC, treeL, aLit, aDst, aSrc, appTab, Value.cells, Value.oneCell', envOf, aResL, aOne, ↓reduceIte, reduceCtorEq, forall_const, Nat.reduceLT, Nat.reduceEqDiff, Nat.reduceAdd, Nat.reduceMul, Nat.reduceSub, Nat.reduceLeDiff, Nat.reduceBEq, eq_self, implies_true, ne_eq, dref, dref1, dref2, aExecS, aStoreB, aTakes, aTakeE, aElder, aFrom, aFresh, isLoad, aBuildSlice1, frzs, frz1, ownIds, AV.frz, AV.frzL, frzEnv, AV.shift, AV.shiftL, aFieldV, aSliceW, aSliceO, aSlice, aSliceR, aSliceS, aBd, aMax, frzAVs, frzAV, frzTab, AObj.frz, aMM, aNilS, aMay, tyK_3, tyF_25_1, tyA_23, tyS_23, tyE_23, tyK_23, tyA_3, tyS_3, e1, e2, hrows, List.length_map] | (with_reducible refine aIf_split (fun _ => ?_) (fun _ => ?_)) | (with_reducible refine aSel_split (fun _ => ?_) (fun _ => ?_)) | (with_reducible refine aGd_split (fun _ => ?_) (fun _ => ?_))))
  refine ⟨⟨by omega, by omega⟩, ?_⟩
  clear hrows hg
  refine aLoop_of (fun st => ∃ (k : Nat) (s : Int) (w : Bool), k ≤ G.length ∧ s = B + (G.take k).sum ∧ (w = true ↔ ∃ g ∈ G.take k, g = cap) ∧ st = ⟨58, [(3, eI cap), (4, eI a), (5, eI b), (13, eI s), (14, .c (.bool w)), (26, sI G), (27, eI (G.length : Int)), (28, eI (k : Int))], [], 0⟩) (fun st => G.length - slotN st 28) ⟨_, (weak_cut1 (by (first | ((simp only [envIn, tabIn, envLt, tabLt, AObj.lt, AV.lt, AV.ltL, ruW, ASt.get, aget, ASt.put, ↓reduceIte, reduceCtorEq, Nat.reduceLT, Nat.reduceEqDiff, Nat.reduceAdd, Nat.reduceLeDiff, eq_self, implies_true, e1, e2, hL]) <;> (repeat' apply And.intro) <;> first | (rw [wrapK (by omega)]; done) | (simp; done) | omega) | fail))), 0, B, false, Nat.zero_le _, by simp, by simp, rfl⟩ ?_
  rintro _ ⟨k, s, w, hk, hs, hw, rfl⟩
  by_cases hlt : k < G.length
  · have htk : G.take (k + 1) = G.take k ++ [G[k]] := List.take_succ_eq_append_getElem hlt
    have h5 := hsb k (by omega)
    have h6 := hsb (k + 1) (by omega)
    rw [htk, List.sum_append, List.sum_singleton] at h6
    have es : IntKind.i64.wrap (s + G[k]) = s + G[k] := wrap_in (by omega) (by omega)
    have hs2 : s + G[k] = B + (G.take (k + 1)).sum := by rw [htk, List.sum_append, List.sum_singleton]; omega
    have hw2 : (w || G[k] == cap) = true ↔ ∃ g ∈ G.take (k + 1), g = cap := by
      rw [htk, Bool.or_eq_true, hw]
      simp only [List.mem_append, List.mem_singleton, beq_iff_eq]
      constructor
      · rintro (⟨g, h1, h2⟩ | h)
        · exact ⟨g, .inl h1, h2⟩
        · exact ⟨_, .inr rfl, h⟩
      · rintro ⟨g, h1 | rfl, h2⟩
        · exact .inl ⟨g, h1, h2⟩
        · exact .inr h2
    clear hw hs hsb htk
    generalize hgk : G[k] = g at *
    cases w with
    | true =>
      (repeat' (first | simp (maxSteps := 5000000) (implicitDefEqProofs := false) only [ruA, ruB, aEv, aTake, aLoad, aField, aIndex, aLen, aBin, bin2, aUn, un1, aExtract, aConv, ASt.get, aget, ASt.put, aStore, aBox, aAppend, aBuildSlice, aMake, aBuild, aFill, oneParts, allC, aBinS, yv, aCells, oneC, oneCL, treeC, treeL, aLit, aDst, aSrc, appTab, Value.cells, Value.oneCell', envOf, aResL, aOne, ↓reduceIte, reduceCtorEq, forall_const, Nat.reduceLT, Nat.reduceEqDiff, Nat.reduceAdd, Nat.reduceMul, Nat.reduceSub, Nat.reduceLeDiff, Nat.reduceBEq, eq_self, implies_true, ne_eq, dref, dref1, dref2, aExecS, aStoreB, aTakes, aTakeE, aElder, aFrom, aFresh, isLoad, aBuildSlice1, frzs, frz1, ownIds, AV.frz, AV.frzL, frzEnv, AV.shift, AV.shiftL, aFieldV, aSliceW, aSliceO, aSlice, aSliceR, aSliceS, aBd, aMax, frzAVs, frzAV, frzTab, AObj.frz, aMM, aNilS, aMay, tyK_3, tyF_25_1, tyA_23, tyS_23, tyE_23, tyK_23, tyA_3, tyS_3, row_at, hlt, hgk, es, List.length_map] | (with_reducible refine aIf_split (fun _ => ?_) (fun _ => ?_)) | (with_reducible refine aSel_split (fun _ => ?_) (fun _ => ?_)) | (with_reducible refine aGd_split (fun _ => ?_) (fun _ => ?_)) | (with_reducible refine aDraw_quiet (by kernel_rfl) ?_)))
      all_goals exact roundI (weak_cut1 (by (first | ((simp only [envIn, tabIn, envLt, tabLt, AObj.lt, AV.lt, AV.ltL, ruW, ASt.get, aget, ASt.put, ↓reduceIte, reduceCtorEq, Nat.reduceLT, Nat.reduceEqDiff, Nat.reduceAdd, Nat.reduceLeDiff, eq_self, implies_true, es]) <;> (repeat' apply And.intro) <;> first | (rw [wrapK (by omega)]; done) | (simp; done) | omega) | fail))) ⟨k + 1, s + g, true, by omega, hs2, by simpa using hw2, rfl⟩ (by simp only [slotN, ruW, ASt.get, aget, ASt.put, ↓reduceIte, reduceCtorEq, Nat.reduceLT, Nat.reduceEqDiff, Nat.reduceAdd, Nat.reduceLeDiff, eq_self, implies_true]; omega)
    | false =>
      by_cases hgc : g = cap
      · have d1 : (g == cap) = true := by simpa using hgc
        (repeat' (first | simp (maxSteps := 5000000) (implicitDefEqProofs := false) only [ruA, ruB, aEv, aTake, aLoad, aField, aIndex, aLen, aBin, bin2, aUn, un1, aExtract, aConv, ASt.get, aget, ASt.put, aStore, aBox, aAppend, aBuildSlice, aMake, aBuild, aFill, oneParts, allC, aBinS, yv, aCells, oneC, oneCL, treeC, treeL, aLit, aDst, aSrc, appTab, Value.cells, Value.oneCell', envOf, aResL, aOne, ↓reduceIte, reduceCtorEq, forall_const, Nat.reduceLT, Nat.reduceEqDiff, Nat.reduceAdd, Nat.reduceMul, Nat.reduceSub, Nat.reduceLeDiff, Nat.reduceBEq, eq_self, implies_true, ne_eq, dref, dref1, dref2, aExecS, aStoreB, aTakes, aTakeE, aElder, aFrom, aFresh, isLoad, aBuildSlice1, frzs, frz1, ownIds, AV.frz, AV.frzL, frzEnv, AV.shift, AV.shiftL, aFieldV, aSliceW, aSliceO, aSlice, aSliceR, aSliceS, aBd, aMax, frzAVs, frzAV, frzTab, AObj.frz, aMM, aNilS, aMay, tyK_3, tyF_25_1, tyA_23, tyS_23, tyE_23, tyK_23, tyA_3, tyS_3, row_at, hlt, hgk, es, d1, List.length_map] | (with_reducible refine aIf_split (fun _ => ?_) (fun _ => ?_)) | (with_reducible refine aSel_split (fun _ => ?_) (fun _ => ?_)) | (with_reducible refine aGd_split (fun _ => ?_) (fun _ => ?_)) | (with_reducible refine aDraw_quiet (by kernel_rfl) ?_)))
        all_goals exact roundI (weak_cut1 (by (first | ((simp only [envIn, tabIn, envLt, tabLt, AObj.lt, AV.lt, AV.ltL, ruW, ASt.get, aget, ASt.put, ↓reduceIte, reduceCtorEq, Nat.reduceLT, Nat.reduceEqDiff, Nat.reduceAdd, Nat.reduceLeDiff, eq_self, implies_true, es, d1]) <;> (repeat' apply And.intro) <;> first | (rw [wrapK (by omega)]; done) | (simp; done) | omega) | fail))) ⟨k + 1, s + g, true, by omega, hs2, by rw [← hw2, d1]; rfl, rfl⟩ (by simp only [slotN, ruW, ASt.get, aget, ASt.put, ↓reduceIte, reduceCtorEq, Nat.reduceLT, Nat.reduceEqDiff, Nat.reduceAdd, Nat.reduceLeDiff, eq_self, implies_true]; omega)
      · have d1 : (g == cap) = false := by simpa using hgc
        (repeat' (first | simp (maxSteps := 5000000) (implicitDefEqProofs := false) only [ruA, ruB, aEv, aTake, aLoad, aField, aIndex, aLen, aBin, bin2, aUn, un1, aExtract, aConv, ASt.get, aget, ASt.put, aStore, aBox, aAppend, aBuildSlice, aMake, aBuild, aFill, oneParts, allC, aBinS, yv, aCells, oneC, oneCL, treeC, treeL, aLit, aDst, aSrc, appTab, Value.cells, Value.oneCell', envOf, aResL, aOne, ↓reduceIte, reduceCtorEq, forall_const, Nat.reduceLT, Nat.reduceEqDiff, Nat.reduceAdd, Nat.reduceMul, Nat.reduceSub, Nat.reduceLeDiff, Nat.reduceBEq, eq_self, implies_true, ne_eq, dref, dref1, dref2, aExecS, aStoreB, aTakes, aTakeE, aElder, aFrom, aFresh, isLoad, aBuildSlice1, frzs, frz1, ownIds, AV.frz, AV.frzL, frzEnv, AV.shift, AV.shiftL, aFieldV, aSliceW, aSliceO, aSlice, aSliceR, aSliceS, aBd, aMax, frzAVs, frzAV, frzTab, AObj.frz, aMM, aNilS, aMay, tyK_3, tyF_25_1, tyA_23, tyS_23, tyE_23, tyK_23, tyA_3, tyS_3, row_at, hlt, hgk, es, d1, List.length_map] | (with_reducible refine aIf_split (fun _ => ?_) (fun _ => ?_)) | (with_reducible refine aSel_split (fun _ => ?_) (fun _ => ?_)) | (with_reducible refine aGd_split (fun _ => ?_) (fun _ => ?_)) | (with_reducible refine aDraw_quiet (by kernel_rfl) ?_)))
        all_goals exact roundI (weak_cut1 (by (first | ((simp only [envIn, tabIn, envLt, tabLt, AObj.lt, AV.lt, AV.ltL, ruW, ASt.get, aget, ASt.put, ↓reduceIte, reduceCtorEq, Nat.reduceLT, Nat.reduceEqDiff, Nat.reduceAdd, Nat.reduceLeDiff, eq_self, implies_true, es, d1]) <;> (repeat' apply And.intro) <;> first | (rw [wrapK (by omega)]; done) | (simp; done) | omega) | fail))) ⟨k + 1, s + g, false, by omega, hs2, by rw [← hw2, d1]; rfl, rfl⟩ (by simp only [slotN, ruW, ASt.get, aget, ASt.put, ↓reduceIte, reduceCtorEq, Nat.reduceLT, Nat.reduceEqDiff, Nat.reduceAdd, Nat.reduceLeDiff, eq_self, implies_true]; omega)
  · obtain rfl : k = G.length := by omega
    have h5 := hsb G.length (Nat.le_refl _)
    rw [List.take_length] at hs hw h5
    have es : IntKind.i64.wrap (s + 1) = s + 1 := wrap_in (by omega) (by omega)
    have hG := numGap_A a b (s + 1) ha hb (by unfold ok64; omega)
    rw [← hs]
    by_cases g1 : gapV a b (s + 1) = s
    · have d1 : (gapV a b (s + 1) == s) = true := by simpa using g1
      (repeat' (first | simp (maxSteps := 5000000) (implicitDefEqProofs := false) only [ruA, ruB, aEv, aTake, aLoad, aField, aIndex, aLen, aBin, bin2, aUn, un1, aExtract, aConv, ASt.get, aget, ASt.put, aStore, aBox, aAppend, aBuildSlice, aMake, aBuild, aFill, oneParts, allC, aBinS, yv, aCells, oneC, oneCL, treeC, treeL, aLit, aDst, aSrc, appTab, Value.cells, Value.oneCell', envOf, aResL, aOne, ↓reduceIte, reduceCtorEq, forall_const, Nat.reduceLT, Nat.reduceEqDiff, Nat.reduceAdd, Nat.reduceMul, Nat.reduceSub, Nat.reduceLeDiff, Nat.reduceBEq, eq_self, implies_true, ne_eq, dref, dref1, dref2, aExecS, aStoreB, aTakes, aTakeE, aElder, aFrom, aFresh, isLoad, aBuildSlice1, frzs, frz1, ownIds, AV.frz, AV.frzL, frzEnv, AV.shift, AV.shiftL, aFieldV, aSliceW, aSliceO, aSlice, aSliceR, aSliceS, aBd, aMax, frzAVs, frzAV, frzTab, AObj.frz, aMM, aNilS, aMay, tyK_3, tyF_25_1, tyA_23, tyS_23, tyE_23, tyK_23, tyA_3, tyS_3, hlt, es, d1, List.length_map] | (with_reducible refine aIf_split (fun _ => ?_) (fun _ => ?_)) | (with_reducible refine aSel_split (fun _ => ?_) (fun _ => ?_)) | (with_reducible refine aGd_split (fun _ => ?_) (fun _ => ?_)) | (with_reducible refine aDraw_quiet (by kernel_rfl) ?_) | ((with_reducible apply callV); exact (hG)) | ((with_reducible apply callD); exact (hG))))
      all_goals exact retV ⟨true, rfl, by simp [g1]⟩
    · have d1 : (gapV a b (s + 1) == s) = false := by simpa using g1
      cases w with
      | true =>
        (repeat' (first | simp (maxSteps := 5000000) (implicitDefEqProofs := false) only [ruA, ruB, aEv, aTake, aLoad, aField, aIndex, aLen, aBin, bin2, aUn, un1, aExtract, aConv, ASt.get, aget, ASt.put, aStore, aBox, aAppend, aBuildSlice, aMake, aBuild, aFill, oneParts, allC, aBinS, yv, aCells, oneC, oneCL, treeC, treeL, aLit, aDst, aSrc, appTab, Value.cells, Value.oneCell', envOf, aResL, aOne, ↓reduceIte, reduceCtorEq, forall_const, Nat.reduceLT, Nat.reduceEqDiff, Nat.reduceAdd, Nat.reduceMul, Nat.reduceSub, Nat.reduceLeDiff, Nat.reduceBEq, eq_self, implies_true, ne_eq, dref, dref1, dref2, aExecS, aStoreB, aTakes, aTakeE, aElder, aFrom, aFresh, isLoad, aBuildSlice1, frzs, frz1, ownIds, AV.frz, AV.frzL, frzEnv, AV.shift, AV.shiftL, aFieldV, aSliceW, aSliceO, aSlice, aSliceR, aSliceS, aBd, aMax, frzAVs, frzAV, frzTab, AObj.frz, aMM, aNilS, aMay, tyK_3, tyF_25_1, tyA_23, tyS_23, tyE_23, tyK_23, tyA_3, tyS_3, hlt, es, d1, List.length_map] | (with_reducible refine aIf_split (fun _ => ?_) (fun _ => ?_)) | (with_reducible refine aSel_split (fun _ => ?_) (fun _ => ?_)) | (with_reducible refine aGd_split (fun _ => ?_) (fun _ => ?_)) | (with_reducible refine aDraw_quiet (by kernel_rfl) ?_) | ((with_reducible apply callV); exact (hG)) | ((with_reducible apply callD); exact (hG))))
        all_goals exact retV ⟨_, rfl, by simp at hw; simp [g1, hw]⟩
      | false =>
        (repeat' (first | simp (maxSteps := 5000000) (implicitDefEqProofs := false) only [ruA, ruB, aEv, aTake, aLoad, aField, aIndex, aLen, aBin, bin2, aUn, un1, aExtract, aConv, ASt.get, aget, ASt.put, aStore, aBox, aAppend, aBuildSlice, aMake, aBuild, aFill, oneParts, allC, aBinS, yv, aCells, oneC, oneCL, treeC, treeL, aLit, aDst, aSrc, appTab, Value.cells, Value.oneCell', envOf, aResL, aOne, ↓reduceIte, reduceCtorEq, forall_const, Nat.reduceLT, Nat.reduceEqDiff, Nat.reduceAdd, Nat.reduceMul, Nat.reduceSub, Nat.reduceLeDiff, Nat.reduceBEq, eq_self, implies_true, ne_eq, dref, dref1, dref2, aExecS, aStoreB, aTakes, aTakeE, aElder, aFrom, aFresh, isLoad, aBuildSlice1, frzs, frz1, ownIds, AV.frz, AV.frzL, frzEnv, AV.shift, AV.shiftL, aFieldV, aSliceW, aSliceO, aSlice, aSliceR, aSliceS, aBd, aMax, frzAVs, frzAV, frzTab, AObj.frz, aMM, aNilS, aMay, tyK_3, tyF_25_1, tyA_23, tyS_23, tyE_23, tyK_23, tyA_3, tyS_3, hlt, es, d1, List.length_map] | (with_reducible refine aIf_split (fun _ => ?_) (fun _ => ?_)) | (with_reducible refine aSel_split (fun _ => ?_) (fun _ => ?_)) | (with_reducible refine aGd_split (fun _ => ?_) (fun _ => ?_)) | (with_reducible refine aDraw_quiet (by kernel_rfl) ?_) | ((with_reducible apply callV); exact (hG)) | ((with_reducible apply callD); exact (hG))))
        all_goals exact retV ⟨_, rfl, by simp at hw; simp [g1, hw]⟩
end
section
open Go.RowKit
theorem fixI_le (l : List Cls) : ∀ k, k ≤ l.length → (fixI l k).length ≤ nextN (l.take k)
  | 0, _ => by simp [fixI]
  | k + 1, h => by
    have ih := fixI_le l k (by omega)
    rw [fixI_snoc l (by omega), List.take_succ_eq_append_getElem (by omega), nextN_snoc]
    split
    · rw [List.length_append, List.length_singleton, if_neg (by omega)]
      omega
    · omega
theorem fixI_up (l : List Cls) (k : Nat) : (fixI l k).Pairwise (· < ·) := List.Pairwise.filter _ List.pairwise_lt_range
theorem fixI_mem (l : List Cls) (k : Nat) {i : Nat} (h : i ∈ fixI l k) : i < k := by
  unfold fixI at h
  simp at h
  exact h.1
def fixL (z : Zn) : List Nat := fixI z.cls z.cls.length
def CheckP (z : Zn) (n : Int) (c : List Int) (r : Int) : Prop :=
  ((0 ≤ n ∧ n ≤ 31) ∧ FormedP z.cls n ((sortR c).length : Int) ∧ GappedP z (capV r)) ∧ ∀ i, i + 1 < (fixL z).length → RoomP z ((fixL z).getD i 0) ((fixL z).getD (i + 1) 0) (capV r) ((sortR c).getD i 0) ((sortR c).getD (i + 1) 0)
set_option maxRecDepth 100000 in
set_option maxHeartbeats 16000000 in
theorem zoneCheck_A (z : Zn) (n : Int) (c : List Int) (r : Int) (h1 : z.cls.length ≤ 1000000) (h2 : z.gaps.length ≤ 1000000) (h3 : c.length ≤ 1000000) (hc : ∀ x ∈ c, ok64 x) : ARel Try.prog 18 [.agg (eZn z), eI n, sI c, eI r] fun R => ∃ b, R = val (.bool b) ∧ (b = true ↔ CheckP z n c r) := by
  refine arel_of_code mixedT Try.func18 rfl (by decide) Try.ntmps18 Try.results18 rfl ?_
  have hS := numSorted_A c h3
  have hCap := halveCap_A r
  have hcap0 := capV_0 r
  have hcap1 := capV_le r
  have hsl := sortR_len c
  have hso : ∀ x ∈ sortR c, ok64 x := fun x hx => hc x (((sortR_up c).2 x).1 hx)
  unfold CheckP
  generalize sortR c = sc at *
  generalize capV r = cap at *
  obtain ⟨t1, ht1, hF⟩ := adet_iff (formed_A z n (sc.length : Int) h1)
  obtain ⟨t2, ht2, hG⟩ := adet_iff (gapped_A z cap h1 h2)
  rw [← ht1, ← ht2]
  by_cases g1 : 0 ≤ n
  · have d1 : decide (n < 0) = false := by simpa using g1
    by_cases g2 : n ≤ 31
    · have d2 : decide (31 < n) = false := by simpa using g2
      cases t1 with
      | false =>
        (repeat' (first | simp (maxSteps := 5000000) (implicitDefEqProofs := false) only [ruA, ruB, aEv, aTake, aLoad, aField, aIndex, aLen, aBin, bin2, aUn, un1, aExtract, aConv, ASt.get, aget, ASt.put, aStore, aBox, aAppend, aBuildSlice, aMake, aBuild, aFill, oneParts, allC, aBinS, yv, aCells, oneC, oneCL, treeC, treeL, aLit, aDst, aSrc, appTab, Value.cells, Value.oneCell', envOf, aResL, aOne, ↓reduceIte, reduceCtorEq, forall_const, Nat.reduceLT, Nat.reduceEqDiff, Nat.reduceAdd, Nat.reduceMul, Nat.reduceSub, Nat.reduceLeDiff, Nat.reduceBEq, eq_self, implies_true, ne_eq, dref, dref1, dref2, aExecS, aStoreB, aTakes, aTakeE, aElder, aFrom, aFresh, isLoad, aBuildSlice1, frzs, frz1, ownIds, AV.frz, AV.frzL, frzEnv, AV.shift, AV.shiftL, aFieldV, aSliceW, aSliceO, aSlice, aSliceR, aSliceS, aBd, aMax, frzAVs, frzAV, frzTab, AObj.frz, aMM, aNilS, aMay, tyK_3, tyA_25, tyS_25, tyE_26, tyK_26, tyE_23, tyK_23, tyA_3, tyS_3, tyA_2, tyS_2, d1, d2, List.length_map] | (with_reducible refine aIf_split (fun _ => ?_) (fun _ => ?_)) | (with_reducible refine aSel_split (fun _ => ?_) (fun _ => ?_)) | (with_reducible refine aGd_split (fun _ => ?_) (fun _ => ?_)) | (with_reducible refine aDraw_quiet (by kernel_rfl) ?_) | ((with_reducible apply callT); exact (hS); exact (.inl (by simp [roL, roA, treeL, treeC]))) | ((with_reducible apply callV); exact (hF)) | ((with_reducible apply callD); exact (hF))))
        all_goals exact retV ⟨false, rfl, by simp⟩
      | true =>
        cases t2 with
        | false =>
          (repeat' (first | simp (maxSteps := 5000000) (implicitDefEqProofs := false) only [ruA, ruB, aEv, aTake, aLoad, aField, aIndex, aLen, aBin, bin2, aUn, un1, aExtract, aConv, ASt.get, aget, ASt.put, aStore, aBox, aAppend, aBuildSlice, aMake, aBuild, aFill, oneParts, allC, aBinS, yv, aCells, oneC, oneCL, treeC, treeL, aLit, aDst, aSrc, appTab, Value.cells, Value.oneCell', envOf, aResL, aOne, ↓reduceIte, reduceCtorEq, forall_const, Nat.reduceLT, Nat.reduceEqDiff, Nat.reduceAdd, Nat.reduceMul, Nat.reduceSub, Nat.reduceLeDiff, Nat.reduceBEq, eq_self, implies_true, ne_eq, dref, dref1, dref2, aExecS, aStoreB, aTakes, aTakeE, aElder, aFrom, aFresh, isLoad, aBuildSlice1, frzs, frz1, ownIds, AV.frz, AV.frzL, frzEnv, AV.shift, AV.shiftL, aFieldV, aSliceW, aSliceO, aSlice, aSliceR, aSliceS, aBd, aMax, frzAVs, frzAV, frzTab, AObj.frz, aMM, aNilS, aMay, tyK_3, tyA_25, tyS_25, tyE_26, tyK_26, tyE_23, tyK_23, tyA_3, tyS_3, tyA_2, tyS_2, d1, d2, List.length_map] | (with_reducible refine aIf_split (fun _ => ?_) (fun _ => ?_)) | (with_reducible refine aSel_split (fun _ => ?_) (fun _ => ?_)) | (with_reducible refine aGd_split (fun _ => ?_) (fun _ => ?_)) | (with_reducible refine aDraw_quiet (by kernel_rfl) ?_) | ((with_reducible apply callT); exact (hS); exact (.inl (by simp [roL, roA, treeL, treeC]))) | ((with_reducible apply callV); exact (hF)) | ((with_reducible apply callD); exact (hF)) | ((with_reducible apply callV); exact (hCap)) | ((with_reducible apply callD); exact (hCap)) | ((with_reducible apply callV); exact (hG)) | ((with_reducible apply callD); exact (hG))))
          all_goals exact retV ⟨false, rfl, by simp⟩
        | true =>
          have hfx : (fixL z).length ≤ sc.length := by
            have := fixI_le z.cls z.cls.length (Nat.le_refl _)
            rw [List.take_length] at this
            have h5 := (ht1.1 rfl).2.2
            unfold fixL
            omega
          have hup : (fixL z).Pairwise (· < ·) := fixI_up _ _
          have hlt2 : ∀ i ∈ fixL z, i < z.cls.length := fun i hi => fixI_mem _ _ hi
          have hgp := ht2.1 rfl
          have hX := fixed_A z h1
          have hXe : fixI z.cls z.cls.length = fixL z := rfl
          rw [hXe] at hX
          have hRoom : ∀ i, i + 1 < (fixL z).length → ∃ t : Bool, (t = true ↔ RoomP z ((fixL z).getD i 0) ((fixL z).getD (i + 1) 0) cap (sc.getD i 0) (sc.getD (i + 1) 0)) ∧ ADet Try.prog 39 [.agg (eZn z), eI (((fixL z).getD i 0 : Nat) : Int), eI (((fixL z).getD (i + 1) 0 : Nat) : Int), eI cap, eI (sc.getD i 0), eI (sc.getD (i + 1) 0)] (val (.bool t)) := fun i hi => by
            have e1 : (fixL z).getD i 0 = (fixL z)[i] := by rw [List.getD_eq_getElem?_getD, List.getElem?_eq_getElem (by omega)]; rfl
            have e2 : (fixL z).getD (i + 1) 0 = (fixL z)[i + 1] := by rw [List.getD_eq_getElem?_getD, List.getElem?_eq_getElem (by omega)]; rfl
            have e3 : sc.getD i 0 = sc[i] := by rw [List.getD_eq_getElem?_getD, List.getElem?_eq_getElem (by omega)]; rfl
            have e4 : sc.getD (i + 1) 0 = sc[i + 1] := by rw [List.getD_eq_getElem?_getD, List.getElem?_eq_getElem (by omega)]; rfl
            have h5 := List.pairwise_iff_getElem.1 hup i (i + 1) (by omega) hi (by omega)
            have h6 := hlt2 _ (List.getElem_mem hi)
            have h7 := hgp.1
            exact adet_iff (room_A z _ _ cap _ _ (by rw [e1, e2]; exact h5) (by rw [e2]; omega) h2 hgp.2 ⟨hcap0, hcap1⟩ (by rw [e3]; exact hso _ (List.getElem_mem _)) (by rw [e4]; exact hso _ (List.getElem_mem _)))
          have hal : (fixL z).length ≤ 1000000 := by
            have := fixI_len z.cls z.cls.length
            unfold fixL
            omega
          clear ht1 ht2 hup hlt2 hgp hXe
          generalize fixL z = at' at *
          (repeat' (first | simp (maxSteps := 5000000) (implicitDefEqProofs := false) only [ruA, ruB, aEv, aTake, aLoad, aField, aIndex, aLen, aBin, bin2, aUn, un1, aExtract, aConv, ASt.get, aget, ASt.put, aStore, aBox, aAppend, aBuildSlice, aMake, aBuild, aFill, oneParts, allC, aBinS, yv, aCells, oneC, oneCL, treeC, treeL, aLit, aDst, aSrc, appTab, Value.cells, Value.oneCell', envOf, aResL, aOne, ↓reduceIte, reduceCtorEq, forall_const, Nat.reduceLT, Nat.reduceEqDiff, Nat.reduceAdd, Nat.reduceMul, Nat.reduceSub, Nat.reduceLeDiff, Nat.reduceBEq, eq_self, implies_true, ne_eq, dref, dref1, dref2, aExecS, aStoreB, aTakes, aTakeE, aElder, aFrom, aFresh, isLoad, aBuildSlice1, frzs, frz1, ownIds, AV.frz, AV.frzL, frzEnv, AV.shift, AV.shiftL, aFieldV, aSliceW, aSliceO, aSlice, aSliceR, aSliceS, aBd, aMax, frzAVs, frzAV, frzTab, AObj.frz, aMM, aNilS, aMay, tyK_3, tyA_25, tyS_25, tyE_26, tyK_26, tyE_23, tyK_23, tyA_3, tyS_3, tyA_2, tyS_2, d1, d2, List.length_map] | (with_reducible refine aIf_split (fun _ => ?_) (fun _ => ?_)) | (with_reducible refine aSel_split (fun _ => ?_) (fun _ => ?_)) | (with_reducible refine aGd_split (fun _ => ?_) (fun _ => ?_)) | (with_reducible refine aDraw_quiet (by kernel_rfl) ?_) | ((with_reducible apply callT); exact (hS); exact (.inl (by simp [roL, roA, treeL, treeC]))) | ((with_reducible apply callV); exact (hF)) | ((with_reducible apply callD); exact (hF)) | ((with_reducible apply callV); exact (hCap)) | ((with_reducible apply callD); exact (hCap)) | ((with_reducible apply callV); exact (hG)) | ((with_reducible apply callD); exact (hG))))
          all_goals refine callO hX (.inr (fun row hr av ha => by
            obtain ⟨m, _, rfl⟩ := List.mem_map.1 hr
            simp at ha
            rw [ha]
            trivial)) ?_
          all_goals (repeat' (first | simp (maxSteps := 5000000) (implicitDefEqProofs := false) only [ruA, ruB, aEv, aTake, aLoad, aField, aIndex, aLen, aBin, bin2, aUn, un1, aExtract, aConv, ASt.get, aget, ASt.put, aStore, aBox, aAppend, aBuildSlice, aMake, aBuild, aFill, oneParts, allC, aBinS, yv, aCells, oneC, oneCL, treeC, treeL, aLit, aDst, aSrc, appTab, Value.cells, Value.oneCell', envOf, aResL, aOne, ↓reduceIte, reduceCtorEq, forall_const, Nat.reduceLT, Nat.reduceEqDiff, Nat.reduceAdd, Nat.reduceMul, Nat.reduceSub, Nat.reduceLeDiff, Nat.reduceBEq, eq_self, implies_true, ne_eq, dref, dref1, dref2, aExecS, aStoreB, aTakes, aTakeE, aElder, aFrom, aFresh, isLoad, aBuildSlice1, frzs, frz1, ownIds, AV.frz, AV.frzL, frzEnv, AV.shift, AV.shiftL, aFieldV, aSliceW, aSliceO, aSlice, aSliceR, aSliceS, aBd, aMax, frzAVs, frzAV, frzTab, AObj.frz, aMM, aNilS, aMay, tyK_3, tyA_25, tyS_25, tyE_26, tyK_26, tyE_23, tyK_23, tyA_3, tyS_3, tyA_2, tyS_2, List.length_map] | (with_reducible refine aIf_split (fun _ => ?_) (fun _ => ?_)) | (with_reducible refine aSel_split (fun _ => ?_) (fun _ => ?_)) | (with_reducible refine aGd_split (fun _ => ?_) (fun _ => ?_))))
          refine aLoop_of (fun st => ∃ k : Nat, (k = 0 ∨ k + 1 ≤ at'.length) ∧ (∀ i, i + 1 < at'.length → i < k → RoomP z (at'.getD i 0) (at'.getD (i + 1) 0) cap (sc.getD i 0) (sc.getD (i + 1) 0)) ∧ st = ⟨66, [(3, eI r), (4, .op 0 0 0), (9, sI sc), (10, .osl 1), (11, eI ((k + 1 : Nat) : Int))], [(0, some (.box 25 (eZn z))), (1, some (.row 3 1 (at'.map fun n : Nat => [eI (n : Int)])))], 2⟩) (fun st => at'.length - slotN st 11) ⟨_, (weak_cut1 (by (first | ((simp only [envIn, tabIn, envLt, tabLt, AObj.lt, AV.lt, AV.ltL, ruW, ASt.get, aget, ASt.put, ↓reduceIte, reduceCtorEq, Nat.reduceLT, Nat.reduceEqDiff, Nat.reduceAdd, Nat.reduceLeDiff, eq_self, implies_true]) <;> (repeat' apply And.intro) <;> first | (rw [wrapK (by omega)]; done) | (simp; done) | omega) | fail))), 0, .inl rfl, fun i _ h => by omega, rfl⟩ ?_
          rintro _ ⟨k, hk, hok, rfl⟩
          by_cases hlt : k + 1 < at'.length
          · have hlt0 : k < at'.length := by omega
            have hs0 : k < sc.length := by omega
            have hs1 : k + 1 < sc.length := by omega
            have e1 : at'.getD k 0 = at'[k] := by rw [List.getD_eq_getElem?_getD, List.getElem?_eq_getElem (by omega)]; rfl
            have e2 : at'.getD (k + 1) 0 = at'[k + 1] := by rw [List.getD_eq_getElem?_getD, List.getElem?_eq_getElem (by omega)]; rfl
            have e3 : sc.getD k 0 = sc[k] := by rw [List.getD_eq_getElem?_getD, List.getElem?_eq_getElem (by omega)]; rfl
            have e4 : sc.getD (k + 1) 0 = sc[k + 1] := by rw [List.getD_eq_getElem?_getD, List.getElem?_eq_getElem (by omega)]; rfl
            have e5 : IntKind.i64.wrap (((k + 1 : Nat) : Int) - 1) = (k : Int) := by rw [wrap_in (by omega) (by omega)]; omega
            obtain ⟨t, ht, hR⟩ := hRoom k hlt
            have hok2 : RoomP z (at'.getD k 0) (at'.getD (k + 1) 0) cap (sc.getD k 0) (sc.getD (k + 1) 0) → ∀ i, i + 1 < at'.length → i < k + 1 → RoomP z (at'.getD i 0) (at'.getD (i + 1) 0) cap (sc.getD i 0) (sc.getD (i + 1) 0) := fun h i h1 h2 => by
              rcases Nat.lt_or_ge i k with h3 | h3
              · exact hok i h1 h3
              · obtain rfl : i = k := by omega
                exact h
            have hno : ¬ RoomP z (at'.getD k 0) (at'.getD (k + 1) 0) cap (sc.getD k 0) (sc.getD (k + 1) 0) → ¬ ∀ i, i + 1 < at'.length → RoomP z (at'.getD i 0) (at'.getD (i + 1) 0) cap (sc.getD i 0) (sc.getD (i + 1) 0) := fun h h2 => h (h2 k hlt)
            rw [← ht] at hok2 hno
            rw [e1, e2, e3, e4] at hR
            have f1 : at'[k]? = some at'[k] := List.getElem?_eq_getElem hlt0
            have f2 : at'[k + 1]? = some at'[k + 1] := List.getElem?_eq_getElem hlt
            have f3 : sc[k]? = some sc[k] := List.getElem?_eq_getElem hs0
            have f4 : sc[k + 1]? = some sc[k + 1] := List.getElem?_eq_getElem hs1
            clear hRoom e1 e2 e3 e4 ht hok
            obtain ⟨x1, hx1⟩ : ∃ x, at'[k] = x := ⟨_, rfl⟩
            obtain ⟨x2, hx2⟩ : ∃ x, at'[k + 1] = x := ⟨_, rfl⟩
            obtain ⟨x3, hx3⟩ : ∃ x, sc[k] = x := ⟨_, rfl⟩
            obtain ⟨x4, hx4⟩ : ∃ x, sc[k + 1] = x := ⟨_, rfl⟩
            rw [hx1, hx2, hx3, hx4] at hR
            cases t with
            | true =>
              (repeat' (first | simp (maxSteps := 5000000) (implicitDefEqProofs := false) only [ruA, ruB, aEv, aTake, aLoad, aField, aIndex, aLen, aBin, bin2, aUn, un1, aExtract, aConv, ASt.get, aget, ASt.put, aStore, aBox, aAppend, aBuildSlice, aMake, aBuild, aFill, oneParts, allC, aBinS, yv, aCells, oneC, oneCL, treeC, treeL, aLit, aDst, aSrc, appTab, Value.cells, Value.oneCell', envOf, aResL, aOne, ↓reduceIte, reduceCtorEq, forall_const, Nat.reduceLT, Nat.reduceEqDiff, Nat.reduceAdd, Nat.reduceMul, Nat.reduceSub, Nat.reduceLeDiff, Nat.reduceBEq, eq_self, implies_true, ne_eq, dref, dref1, dref2, aExecS, aStoreB, aTakes, aTakeE, aElder, aFrom, aFresh, isLoad, aBuildSlice1, frzs, frz1, ownIds, AV.frz, AV.frzL, frzEnv, AV.shift, AV.shiftL, aFieldV, aSliceW, aSliceO, aSlice, aSliceR, aSliceS, aBd, aMax, frzAVs, frzAV, frzTab, AObj.frz, aMM, aNilS, aMay, tyK_3, tyA_25, tyS_25, tyE_26, tyK_26, tyE_23, tyK_23, tyA_3, tyS_3, tyA_2, tyS_2, row_at, hlt, hlt0, hs0, hs1, hx1, hx2, hx3, hx4, e5, List.length_map] | (with_reducible refine aIf_split (fun _ => ?_) (fun _ => ?_)) | (with_reducible refine aSel_split (fun _ => ?_) (fun _ => ?_)) | (with_reducible refine aGd_split (fun _ => ?_) (fun _ => ?_)) | (with_reducible refine aDraw_quiet (by kernel_rfl) ?_) | ((with_reducible apply callV); exact (hCap)) | ((with_reducible apply callD); exact (hCap)) | ((with_reducible apply callV); exact (hR)) | ((with_reducible apply callD); exact (hR))))
              all_goals exact roundI (weak_cut1 (by (first | ((simp only [envIn, tabIn, envLt, tabLt, AObj.lt, AV.lt, AV.ltL, ruW, ASt.get, aget, ASt.put, ↓reduceIte, reduceCtorEq, Nat.reduceLT, Nat.reduceEqDiff, Nat.reduceAdd, Nat.reduceLeDiff, eq_self, implies_true]) <;> (repeat' apply And.intro) <;> first | (rw [wrapK (by omega)]; done) | (simp; done) | omega) | fail))) ⟨k + 1, .inr (by omega), hok2 rfl, rfl⟩ (by simp only [slotN, ruW, ASt.get, aget, ASt.put, ↓reduceIte, reduceCtorEq, Nat.reduceLT, Nat.reduceEqDiff, Nat.reduceAdd, Nat.reduceLeDiff, eq_self, implies_true]; omega)
            | false =>
              (repeat' (first | simp (maxSteps := 5000000) (implicitDefEqProofs := false) only [ruA, ruB, aEv, aTake, aLoad, aField, aIndex, aLen, aBin, bin2, aUn, un1, aExtract, aConv, ASt.get, aget, ASt.put, aStore, aBox, aAppend, aBuildSlice, aMake, aBuild, aFill, oneParts, allC, aBinS, yv, aCells, oneC, oneCL, treeC, treeL, aLit, aDst, aSrc, appTab, Value.cells, Value.oneCell', envOf, aResL, aOne, ↓reduceIte, reduceCtorEq, forall_const, Nat.reduceLT, Nat.reduceEqDiff, Nat.reduceAdd, Nat.reduceMul, Nat.reduceSub, Nat.reduceLeDiff, Nat.reduceBEq, eq_self, implies_true, ne_eq, dref, dref1, dref2, aExecS, aStoreB, aTakes, aTakeE, aElder, aFrom, aFresh, isLoad, aBuildSlice1, frzs, frz1, ownIds, AV.frz, AV.frzL, frzEnv, AV.shift, AV.shiftL, aFieldV, aSliceW, aSliceO, aSlice, aSliceR, aSliceS, aBd, aMax, frzAVs, frzAV, frzTab, AObj.frz, aMM, aNilS, aMay, tyK_3, tyA_25, tyS_25, tyE_26, tyK_26, tyE_23, tyK_23, tyA_3, tyS_3, tyA_2, tyS_2, row_at, hlt, hlt0, hs0, hs1, hx1, hx2, hx3, hx4, e5, List.length_map] | (with_reducible refine aIf_split (fun _ => ?_) (fun _ => ?_)) | (with_reducible refine aSel_split (fun _ => ?_) (fun _ => ?_)) | (with_reducible refine aGd_split (fun _ => ?_) (fun _ => ?_)) | (with_reducible refine aDraw_quiet (by kernel_rfl) ?_) | ((with_reducible apply callV); exact (hCap)) | ((with_reducible apply callD); exact (hCap)) | ((with_reducible apply callV); exact (hR)) | ((with_reducible apply callD); exact (hR))))
              all_goals exact retV ⟨false, rfl, by simpa using fun _ _ => hno (by simp)⟩
          · (repeat' (first | simp (maxSteps := 5000000) (implicitDefEqProofs := false) only [ruA, ruB, aEv, aTake, aLoad, aField, aIndex, aLen, aBin, bin2, aUn, un1, aExtract, aConv, ASt.get, aget, ASt.put, aStore, aBox, aAppend, aBuildSlice, aMake, aBuild, aFill, oneParts, allC, aBinS, yv, aCells, oneC, oneCL, treeC, treeL, aLit, aDst, aSrc, appTab, Value.cells, Value.oneCell', envOf, aResL, aOne, ↓reduceIte, reduceCtorEq, forall_const, Nat.reduceLT, Nat.reduceEqDiff, Nat.reduceAdd, Nat.reduceMul, Nat.reduceSub, Nat.reduceLeDiff, Nat.reduceBEq, eq_self, implies_true, ne_eq, dref, dref1, dref2, aExecS, aStoreB, aTakes, aTakeE, aElder, aFrom, aFresh, isLoad, aBuildSlice1, frzs, frz1, ownIds, AV.frz, AV.frzL, frzEnv, AV.shift, AV.shiftL, aFieldV, aSliceW, aSliceO, aSlice, aSliceR, aSliceS, aBd, aMax, frzAVs, frzAV, frzTab, AObj.frz, aMM, aNilS, aMay, tyK_3, tyA_25, tyS_25, tyE_26, tyK_26, tyE_23, tyK_23, tyA_3, tyS_3, tyA_2, tyS_2, hlt, List.length_map] | (with_reducible refine aIf_split (fun _ => ?_) (fun _ => ?_)) | (with_reducible refine aSel_split (fun _ => ?_) (fun _ => ?_)) | (with_reducible refine aGd_split (fun _ => ?_) (fun _ => ?_)) | (with_reducible refine aDraw_quiet (by kernel_rfl) ?_)))
            all_goals exact retV ⟨true, rfl, by simp; exact ⟨⟨g1, g2⟩, fun i h => hok i h (by omega)⟩⟩
    · have d2 : decide (31 < n) = true := by simpa using g2
      (repeat' (first | simp (maxSteps := 5000000) (implicitDefEqProofs := false) only [ruA, ruB, aEv, aTake, aLoad, aField, aIndex, aLen, aBin, bin2, aUn, un1, aExtract, aConv, ASt.get, aget, ASt.put, aStore, aBox, aAppend, aBuildSlice, aMake, aBuild, aFill, oneParts, allC, aBinS, yv, aCells, oneC, oneCL, treeC, treeL, aLit, aDst, aSrc, appTab, Value.cells, Value.oneCell', envOf, aResL, aOne, ↓reduceIte, reduceCtorEq, forall_const, Nat.reduceLT, Nat.reduceEqDiff, Nat.reduceAdd, Nat.reduceMul, Nat.reduceSub, Nat.reduceLeDiff, Nat.reduceBEq, eq_self, implies_true, ne_eq, dref, dref1, dref2, aExecS, aStoreB, aTakes, aTakeE, aElder, aFrom, aFresh, isLoad, aBuildSlice1, frzs, frz1, ownIds, AV.frz, AV.frzL, frzEnv, AV.shift, AV.shiftL, aFieldV, aSliceW, aSliceO, aSlice, aSliceR, aSliceS, aBd, aMax, frzAVs, frzAV, frzTab, AObj.frz, aMM, aNilS, aMay, tyK_3, tyA_25, tyS_25, tyE_26, tyK_26, tyE_23, tyK_23, tyA_3, tyS_3, tyA_2, tyS_2, d1, d2, List.length_map] | (with_reducible refine aIf_split (fun _ => ?_) (fun _ => ?_)) | (with_reducible refine aSel_split (fun _ => ?_) (fun _ => ?_)) | (with_reducible refine aGd_split (fun _ => ?_) (fun _ => ?_)) | (with_reducible refine aDraw_quiet (by kernel_rfl) ?_) | ((with_reducible apply callT); exact (hS); exact (.inl (by simp [roL, roA, treeL, treeC])))))
      all_goals exact retV ⟨false, rfl, by simp; omega⟩
  · have d1 : decide (n < 0) = true := by simpa using g1
    (repeat' (first | simp (maxSteps := 5000000) (implicitDefEqProofs := false) only [ruA, ruB, aEv, aTake, aLoad, aField, aIndex, aLen, aBin, bin2, aUn, un1, aExtract, aConv, ASt.get, aget, ASt.put, aStore, aBox, aAppend, aBuildSlice, aMake, aBuild, aFill, oneParts, allC, aBinS, yv, aCells, oneC, oneCL, treeC, treeL, aLit, aDst, aSrc, appTab, Value.cells, Value.oneCell', envOf, aResL, aOne, ↓reduceIte, reduceCtorEq, forall_const, Nat.reduceLT, Nat.reduceEqDiff, Nat.reduceAdd, Nat.reduceMul, Nat.reduceSub, Nat.reduceLeDiff, Nat.reduceBEq, eq_self, implies_true, ne_eq, dref, dref1, dref2, aExecS, aStoreB, aTakes, aTakeE, aElder, aFrom, aFresh, isLoad, aBuildSlice1, frzs, frz1, ownIds, AV.frz, AV.frzL, frzEnv, AV.shift, AV.shiftL, aFieldV, aSliceW, aSliceO, aSlice, aSliceR, aSliceS, aBd, aMax, frzAVs, frzAV, frzTab, AObj.frz, aMM, aNilS, aMay, tyK_3, tyA_25, tyS_25, tyE_26, tyK_26, tyE_23, tyK_23, tyA_3, tyS_3, tyA_2, tyS_2, d1, List.length_map] | (with_reducible refine aIf_split (fun _ => ?_) (fun _ => ?_)) | (with_reducible refine aSel_split (fun _ => ?_) (fun _ => ?_)) | (with_reducible refine aGd_split (fun _ => ?_) (fun _ => ?_)) | (with_reducible refine aDraw_quiet (by kernel_rfl) ?_) | ((with_reducible apply callT); exact (hS); exact (.inl (by simp [roL, roA, treeL, treeC])))))
    all_goals exact retV ⟨false, rfl, by simp; omega⟩
end
section
open Go.RowKit
theorem fixI_map (vals c : List Int) (L : List Int) : ∀ k, k ≤ L.length → (fixI (L.map (clsOf vals c)) k).map (fun i => L.getD i 0) = (L.take k).filter fun x => decide (x ∈ sortR c)
  | 0, _ => by simp [fixI]
  | k + 1, h => by
    have ih := fixI_map vals c L k (by omega)
    have hk : k < L.length := by omega
    have hup := (sortR_up c).1
    rw [fixI_snoc _ (by rw [List.length_map]; omega), List.take_succ_eq_append_getElem hk, List.filter_append, ← ih, List.getElem_map]
    have e : L.getD k 0 = L[k] := by rw [List.getD_eq_getElem?_getD, List.getElem?_eq_getElem hk]; rfl
    have hc : (clsOf vals c L[k]).const = constN (sortR c) L[k] (sortR c).length := rfl
    rcases const_in hup L[k] with ⟨h1, h2⟩ | ⟨i, hi, h1, h2⟩
    · rw [if_neg (by rw [hc, h2]; omega)]
      simp [h1]
    · have hm : L[k] ∈ sortR c := h1 ▸ List.getElem_mem hi
      rw [if_pos (by rw [hc, h2]; omega), List.map_append]
      simp [hm, hk]
theorem fix_zone (vals c : List Int) (r : Int) : (fixL (zoneM vals c r)).map (fun i => (numsL vals c).getD i 0) = sortR c := by
  have hL : Up (numsL vals c) := (sortR_up (vals ++ c)).1
  have hm := (sortR_up (vals ++ c)).2
  have hsc := (sortR_up c).1
  have hscm := (sortR_up c).2
  have hin : ∀ x ∈ sortR c, x ∈ numsL vals c := fun x hx => (hm x).2 (List.mem_append_right _ ((hscm x).1 hx))
  have e : fixL (zoneM vals c r) = fixI ((numsL vals c).map (clsOf vals c)) (numsL vals c).length := by
    show fixI (clsL vals c) (clsL vals c).length = _
    unfold clsL
    rw [List.length_map]
  rw [e, fixI_map vals c _ _ (Nat.le_refl _), List.take_length]
  refine up_ext _ _ (List.Pairwise.filter _ hL) hsc fun z => ?_
  simp only [List.mem_filter, decide_eq_true_eq]
  exact ⟨fun h => h.2, fun h => ⟨hin z h, h⟩⟩
theorem gapsN_len (L : List Int) (r : Int) : (gapsN L r L.length).length = L.length - 1 := by simp [gapsN]
theorem gapsN_get (L : List Int) (r : Int) {i : Nat} (h : i + 1 < L.length) : (gapsN L r L.length)[i]? = some (gapV (L.getD i 0) (L.getD (i + 1) 0) (capV r)) := by
  unfold gapsN
  rw [List.getElem?_map, List.getElem?_range (by omega)]
  rfl
theorem gapsPQ_same (z : Zn) (p : Nat) : gapsPQ z p p = [] := by
  unfold gapsPQ
  rw [List.drop_eq_nil_iff, List.length_take]
  omega
theorem gapsPQ_snoc (z : Zn) {p q : Nat} {g : Int} (h : z.gaps[q]? = some g) (hpq : p ≤ q) : gapsPQ z p (q + 1) = gapsPQ z p q ++ [g] := by
  have hq : q < z.gaps.length := (List.getElem?_eq_some_iff.1 h).1
  unfold gapsPQ
  rw [List.take_add_one, h, List.drop_append_of_le_length (by rw [List.length_take]; omega)]
  rfl
theorem room_sum (vals c : List Int) (r : Int) (p : Nat) : ∀ d, p + d < (numsL vals c).length → 0 < d →
    ((d : Int) - 1 + (gapsPQ (zoneM vals c r) p (p + d)).sum ≤ (numsL vals c).getD (p + d) 0 - (numsL vals c).getD p 0 - 1 ∧ 0 ≤ (gapsPQ (zoneM vals c r) p (p + d)).sum) ∧
    ((∃ g ∈ gapsPQ (zoneM vals c r) p (p + d), g = capV r) ∨ (d : Int) - 1 + (gapsPQ (zoneM vals c r) p (p + d)).sum = (numsL vals c).getD (p + d) 0 - (numsL vals c).getD p 0 - 1)
  | 0, _, h => by omega
  | d + 1, hd, _ => by
    have hL : Up (numsL vals c) := (sortR_up (vals ++ c)).1
    have hg := gapsN_get (numsL vals c) r (i := p + d) (by omega)
    have hs := gapsPQ_snoc (zoneM vals c r) (p := p) (q := p + d) hg (by omega)
    have hlt := List.pairwise_iff_getElem.1 hL (p + d) (p + d + 1) (by omega) (by omega) (by omega)
    have e1 : (numsL vals c).getD (p + d) 0 = (numsL vals c)[p + d] := by rw [List.getD_eq_getElem?_getD, List.getElem?_eq_getElem (by omega)]; rfl
    have e2 : (numsL vals c).getD (p + d + 1) 0 = (numsL vals c)[p + d + 1] := by rw [List.getD_eq_getElem?_getD, List.getElem?_eq_getElem (by omega)]; rfl
    rw [← e1, ← e2] at hlt
    have hcap := capV_0 r
    have hgv : gapV ((numsL vals c).getD (p + d) 0) ((numsL vals c).getD (p + d + 1) 0) (capV r) = capV r ∨ gapV ((numsL vals c).getD (p + d) 0) ((numsL vals c).getD (p + d + 1) 0) (capV r) = (numsL vals c).getD (p + d + 1) 0 - (numsL vals c).getD (p + d) 0 - 1 := by
      unfold gapV
      omega
    have hgb : 0 ≤ gapV ((numsL vals c).getD (p + d) 0) ((numsL vals c).getD (p + d + 1) 0) (capV r) ∧ gapV ((numsL vals c).getD (p + d) 0) ((numsL vals c).getD (p + d + 1) 0) (capV r) ≤ (numsL vals c).getD (p + d + 1) 0 - (numsL vals c).getD (p + d) 0 - 1 := by
      unfold gapV
      omega
    generalize gapV ((numsL vals c).getD (p + d) 0) ((numsL vals c).getD (p + d + 1) 0) (capV r) = g at *
    show _ ∧ _
    rw [show p + (d + 1) = p + d + 1 from rfl, hs, List.sum_append, List.sum_singleton]
    have hpush : ((d + 1 : Nat) : Int) = (d : Int) + 1 := by omega
    rw [hpush]
    rcases Nat.eq_zero_or_pos d with rfl | hd0
    · rw [show p + 0 = p from rfl] at *
      rw [gapsPQ_same]
      simp only [List.sum_nil, List.nil_append, List.mem_singleton]
      clear hL hg hs
      refine ⟨by omega, ?_⟩
      rcases hgv with h | h
      · exact .inl ⟨g, rfl, h⟩
      · exact .inr (by omega)
    · obtain ⟨⟨h1, h0⟩, h2⟩ := room_sum vals c r p d (by omega) hd0
      clear hL hg hs
      refine ⟨by omega, ?_⟩
      rcases hgv with h | h
      · exact .inl ⟨g, List.mem_append_right _ (List.mem_singleton.2 rfl), h⟩
      · rcases h2 with ⟨x, hx, h3⟩ | h2
        · exact .inl ⟨x, List.mem_append_left _ hx, h3⟩
        · exact .inr (by omega)
theorem check_zone (vals c : List Int) (r : Int) (hv : vals.length ≤ 31) : CheckP (zoneM vals c r) (vals.length : Int) c r := by
  have hcap := capV_0 r
  have hcl : (zoneM vals c r).cls.length = (numsL vals c).length := by show (clsL vals c).length = _; unfold clsL; rw [List.length_map]
  have hgl : (zoneM vals c r).gaps.length = (numsL vals c).length - 1 := gapsN_len _ r
  refine ⟨⟨⟨by omega, by omega⟩, formed_zone vals c hv, by omega, fun i hi => ?_⟩, fun i hi => ?_⟩
  · rw [hgl] at hi
    have h := gapsN_get (numsL vals c) r (i := i) (by omega)
    have e : (zoneM vals c r).gaps[i] = gapV ((numsL vals c).getD i 0) ((numsL vals c).getD (i + 1) 0) (capV r) := by
      have h2 : (zoneM vals c r).gaps[i]? = some (zoneM vals c r).gaps[i] := List.getElem?_eq_getElem (by omega)
      exact Option.some.inj (h2.symm.trans h)
    rw [e]
    unfold gapV
    omega
  · have hf := fix_zone vals c r
    have hup : (fixL (zoneM vals c r)).Pairwise (· < ·) := fixI_up _ _
    have hlt2 : ∀ j ∈ fixL (zoneM vals c r), j < (zoneM vals c r).cls.length := fun j hj => fixI_mem _ _ hj
    have hval : ∀ j, j < (fixL (zoneM vals c r)).length → (numsL vals c).getD ((fixL (zoneM vals c r)).getD j 0) 0 = (sortR c).getD j 0 := fun j hj => by
      rw [← hf]
      simp [List.getD_eq_getElem?_getD, List.getElem?_map, List.getElem?_eq_getElem hj]
    have a1 := hval i (by omega)
    have a2 := hval (i + 1) hi
    have e1 : (fixL (zoneM vals c r)).getD i 0 = (fixL (zoneM vals c r))[i] := by rw [List.getD_eq_getElem?_getD, List.getElem?_eq_getElem (by omega)]; rfl
    have e2 : (fixL (zoneM vals c r)).getD (i + 1) 0 = (fixL (zoneM vals c r))[i + 1] := by rw [List.getD_eq_getElem?_getD, List.getElem?_eq_getElem (by omega)]; rfl
    have h5 := List.pairwise_iff_getElem.1 hup i (i + 1) (by omega) hi (by omega)
    have h6 := hlt2 _ (List.getElem_mem hi)
    rw [← e1, ← e2] at h5
    rw [← e2, hcl] at h6
    rw [← a1, ← a2]
    clear hf hup hlt2 hval a1 a2 e1 e2
    generalize (fixL (zoneM vals c r)).getD i 0 = p at *
    generalize (fixL (zoneM vals c r)).getD (i + 1) 0 = q at *
    obtain ⟨d, rfl⟩ : ∃ d, q = p + d := ⟨q - p, by omega⟩
    obtain ⟨⟨h1, h0⟩, h2⟩ := room_sum vals c r p d h6 (by omega)
    unfold RoomP
    have ed : ((p + d : Nat) : Int) - (p : Int) - 1 = (d : Int) - 1 := by omega
    rw [ed]
    generalize (gapsPQ (zoneM vals c r) p (p + d)).sum = S at *
    generalize (numsL vals c).getD (p + d) 0 = b at *
    generalize (numsL vals c).getD p 0 = a at *
    have hd : 0 < d := by omega
    by_cases hS : (d : Int) - 1 + S = b - a - 1
    · refine .inl ?_
      unfold gapV
      omega
    · rcases h2 with h2 | h2
      · refine .inr ⟨h2, ?_⟩
        unfold gapV
        omega
      · exact absurd h2 hS
end
section
open Go.RowKit
theorem zoneM_len (vals c : List Int) (r : Int) (hv : vals.length ≤ 31) (hc : c.length ≤ 31) : (zoneM vals c r).cls.length ≤ 1000000 ∧ (zoneM vals c r).gaps.length ≤ 1000000 := by
  have h := sortR_len (vals ++ c)
  have e : (zoneM vals c r).gaps.length = (numsL vals c).length - 1 := gapsN_len _ r
  have e2 : (zoneM vals c r).cls.length = (numsL vals c).length := by show (clsL vals c).length = _; unfold clsL; rw [List.length_map]
  rw [List.length_append] at h
  have h2 : (numsL vals c).length ≤ vals.length + c.length := h
  omega
theorem zoneCheckOf_A (vals c : List Int) (r : Int) (hv : vals.length ≤ 31) (hl : c.length ≤ 31) (hc : ∀ x ∈ c, ok64 x) : ADet Try.prog 18 [.agg (eZn (zoneM vals c r)), eI (vals.length : Int), sI c, eI r] (val (.bool true)) := by
  obtain ⟨h1, h2⟩ := zoneM_len vals c r hv hl
  exact (zoneCheck_A (zoneM vals c r) (vals.length : Int) c r h1 h2 (by omega) hc).mono fun R ⟨b, h3, h4⟩ => by rw [h3, h4.2 (check_zone vals c r hv)]
theorem sameZz_A (z : Zn) (h1 : z.cls.length ≤ 1000000) (h2 : z.gaps.length ≤ 1000000) : ADet Try.prog 16 [.agg (eZn z), .agg (eZn z)] (val (.bool true)) :=
  (sameZ_A z z h1 h2).mono fun R ⟨b, h3, h4⟩ => by rw [h3, h4.2 rfl]
set_option maxRecDepth 100000 in
set_option maxHeartbeats 8000000 in
theorem zoneOf22_A (vals c : List Int) (r : Int) (hv : ∀ x ∈ vals, ok64 x) (hc : ∀ x ∈ c, ok64 x) : ADet Try.prog 5 [sI vals, sI c, eI r] (val (.bool true)) := by
  refine adet_of_code mixedT Try.func5 rfl (by decide) Try.ntmps5 Try.results5 rfl (val_ok _) ?_
  by_cases hvl : vals.length ≤ 31
  · have d1 : decide (31 < (vals.length : Int)) = false := by simp only [decide_eq_false_iff_not]; omega
    by_cases hcl : c.length ≤ 31
    · have d2 : decide (31 < (c.length : Int)) = false := by simp only [decide_eq_false_iff_not]; omega
      by_cases hr : r ≤ 10
      · have d3 : decide (10 < r) = false := by simp only [decide_eq_false_iff_not]; omega
        have hO := zoneOfC_A vals c r hvl (by omega) hv hc
        have hR := zoneOf_A vals c r hvl (by omega) hv hc
        obtain ⟨h1, h2⟩ := zoneM_len vals c r hvl hcl
        have hS := sameZz_A (zoneM vals c r) h1 h2
        have hC := zoneCheckOf_A vals c r hvl hcl hc
        generalize zoneM vals c r = z at *
        (repeat' (first | simp (maxSteps := 5000000) (implicitDefEqProofs := false) only [ruA, ruB, aEv, aTake, aLoad, aField, aIndex, aLen, aBin, bin2, aUn, un1, aExtract, aConv, ASt.get, aget, ASt.put, aStore, aBox, aAppend, aBuildSlice, aMake, aBuild, aFill, oneParts, allC, aBinS, yv, aCells, oneC, oneCL, treeC, treeL, aLit, aDst, aSrc, appTab, Value.cells, Value.oneCell', envOf, aResL, aOne, ↓reduceIte, reduceCtorEq, forall_const, Nat.reduceLT, Nat.reduceEqDiff, Nat.reduceAdd, Nat.reduceMul, Nat.reduceSub, Nat.reduceLeDiff, Nat.reduceBEq, eq_self, implies_true, ne_eq, dref, dref1, dref2, aExecS, aStoreB, aTakes, aTakeE, aElder, aFrom, aFresh, isLoad, aBuildSlice1, frzs, frz1, ownIds, AV.frz, AV.frzL, frzEnv, AV.shift, AV.shiftL, aFieldV, aSliceW, aSliceO, aSlice, aSliceR, aSliceS, aBd, aMax, frzAVs, frzAV, frzTab, AObj.frz, aMM, aNilS, aMay, tyE_26, tyK_26, tyK_3, tyZ_25, tyS_25, tyA_25, d1, d2, d3] | (with_reducible refine aIf_split (fun _ => ?_) (fun _ => ?_)) | (with_reducible refine aSel_split (fun _ => ?_) (fun _ => ?_)) | (with_reducible refine aGd_split (fun _ => ?_) (fun _ => ?_))))
        refine callT hO (.inl (by simp [roL, roA, treeL, treeC])) ?_
        (repeat' (first | simp (maxSteps := 5000000) (implicitDefEqProofs := false) only [ruA, ruB, aEv, aTake, aLoad, aField, aIndex, aLen, aBin, bin2, aUn, un1, aExtract, aConv, ASt.get, aget, ASt.put, aStore, aBox, aAppend, aBuildSlice, aMake, aBuild, aFill, oneParts, allC, aBinS, yv, aCells, oneC, oneCL, treeC, treeL, aLit, aDst, aSrc, appTab, Value.cells, Value.oneCell', envOf, aResL, aOne, ↓reduceIte, reduceCtorEq, forall_const, Nat.reduceLT, Nat.reduceEqDiff, Nat.reduceAdd, Nat.reduceMul, Nat.reduceSub, Nat.reduceLeDiff, Nat.reduceBEq, eq_self, implies_true, ne_eq, dref, dref1, dref2, aExecS, aStoreB, aTakes, aTakeE, aElder, aFrom, aFresh, isLoad, aBuildSlice1, frzs, frz1, ownIds, AV.frz, AV.frzL, frzEnv, AV.shift, AV.shiftL, aFieldV, aSliceW, aSliceO, aSlice, aSliceR, aSliceS, aBd, aMax, frzAVs, frzAV, frzTab, AObj.frz, aMM, aNilS, aMay, tyE_26, tyK_26, tyK_3, tyZ_25, tyS_25, tyA_25] | (with_reducible refine aIf_split (fun _ => ?_) (fun _ => ?_)) | (with_reducible refine aSel_split (fun _ => ?_) (fun _ => ?_)) | (with_reducible refine aGd_split (fun _ => ?_) (fun _ => ?_))))
        refine aDraw_held [] [0, 1, 2, 3] (.exec 4 (.exec 5 (.take 6 (.take 7 (.take 8 (.take 9 (.take 10 (.take 11 (.exec 12 (.take 13 (.take 14 (.exec 15 (.take 16 (.exec 17 .done)))))))))))))) (by kernel_rfl) (by simp [ATab.get_cons]) ?_
        (repeat' (first | simp (maxSteps := 5000000) (implicitDefEqProofs := false) only [ruA, ruB, aEv, aTake, aLoad, aField, aIndex, aLen, aBin, bin2, aUn, un1, aExtract, aConv, ASt.get, aget, ASt.put, aStore, aBox, aAppend, aBuildSlice, aMake, aBuild, aFill, oneParts, allC, aBinS, yv, aCells, oneC, oneCL, treeC, treeL, aLit, aDst, aSrc, appTab, Value.cells, Value.oneCell', envOf, aResL, aOne, ↓reduceIte, reduceCtorEq, forall_const, Nat.reduceLT, Nat.reduceEqDiff, Nat.reduceAdd, Nat.reduceMul, Nat.reduceSub, Nat.reduceLeDiff, Nat.reduceBEq, eq_self, implies_true, ne_eq, dref, dref1, dref2, aExecS, aStoreB, aTakes, aTakeE, aElder, aFrom, aFresh, isLoad, aBuildSlice1, frzs, frz1, ownIds, AV.frz, AV.frzL, frzEnv, AV.shift, AV.shiftL, aFieldV, aSliceW, aSliceO, aSlice, aSliceR, aSliceS, aBd, aMax, frzAVs, frzAV, frzTab, AObj.frz, aMM, aNilS, aMay, tyE_26, tyK_26, tyK_3, tyZ_25, tyS_25, tyA_25, List.length_map] | (with_reducible refine aIf_split (fun _ => ?_) (fun _ => ?_)) | (with_reducible refine aSel_split (fun _ => ?_) (fun _ => ?_)) | (with_reducible refine aGd_split (fun _ => ?_) (fun _ => ?_)) | (with_reducible refine aDraw_quiet (by kernel_rfl) ?_) | ((with_reducible apply callT); exact (hR); exact (.inl (by simp [roL, roA, treeL, treeC]))) | ((with_reducible apply callV); exact (hS)) | ((with_reducible apply callD); exact (hS)) | ((with_reducible apply callV); exact (hC)) | ((with_reducible apply callD); exact (hC)) | ((with_reducible apply callV (g := 8)); exact (awake22_A)) | ((with_reducible apply callD (g := 8)); exact (awake22_A)) | (with_reducible apply And.intro)))
        all_goals trace_state
      · have d3 : decide (10 < r) = true := by simp only [decide_eq_true_eq]; omega
        (repeat' (first | simp (maxSteps := 5000000) (implicitDefEqProofs := false) only [ruA, ruB, aEv, aTake, aLoad, aField, aIndex, aLen, aBin, bin2, aUn, un1, aExtract, aConv, ASt.get, aget, ASt.put, aStore, aBox, aAppend, aBuildSlice, aMake, aBuild, aFill, oneParts, allC, aBinS, yv, aCells, oneC, oneCL, treeC, treeL, aLit, aDst, aSrc, appTab, Value.cells, Value.oneCell', envOf, aResL, aOne, ↓reduceIte, reduceCtorEq, forall_const, Nat.reduceLT, Nat.reduceEqDiff, Nat.reduceAdd, Nat.reduceMul, Nat.reduceSub, Nat.reduceLeDiff, Nat.reduceBEq, eq_self, implies_true, ne_eq, dref, dref1, dref2, aExecS, aStoreB, aTakes, aTakeE, aElder, aFrom, aFresh, isLoad, aBuildSlice1, frzs, frz1, ownIds, AV.frz, AV.frzL, frzEnv, AV.shift, AV.shiftL, aFieldV, aSliceW, aSliceO, aSlice, aSliceR, aSliceS, aBd, aMax, frzAVs, frzAV, frzTab, AObj.frz, aMM, aNilS, aMay, tyE_26, tyK_26, tyK_3, tyZ_25, tyS_25, tyA_25, d1, d2, d3] | (with_reducible refine aIf_split (fun _ => ?_) (fun _ => ?_)) | (with_reducible refine aSel_split (fun _ => ?_) (fun _ => ?_)) | (with_reducible refine aGd_split (fun _ => ?_) (fun _ => ?_)) | (with_reducible refine aDraw_quiet (by kernel_rfl) ?_) | ((with_reducible apply callV (g := 8)); exact (awake22_A)) | ((with_reducible apply callD (g := 8)); exact (awake22_A))))
    · have d2 : decide (31 < (c.length : Int)) = true := by simp only [decide_eq_true_eq]; omega
      (repeat' (first | simp (maxSteps := 5000000) (implicitDefEqProofs := false) only [ruA, ruB, aEv, aTake, aLoad, aField, aIndex, aLen, aBin, bin2, aUn, un1, aExtract, aConv, ASt.get, aget, ASt.put, aStore, aBox, aAppend, aBuildSlice, aMake, aBuild, aFill, oneParts, allC, aBinS, yv, aCells, oneC, oneCL, treeC, treeL, aLit, aDst, aSrc, appTab, Value.cells, Value.oneCell', envOf, aResL, aOne, ↓reduceIte, reduceCtorEq, forall_const, Nat.reduceLT, Nat.reduceEqDiff, Nat.reduceAdd, Nat.reduceMul, Nat.reduceSub, Nat.reduceLeDiff, Nat.reduceBEq, eq_self, implies_true, ne_eq, dref, dref1, dref2, aExecS, aStoreB, aTakes, aTakeE, aElder, aFrom, aFresh, isLoad, aBuildSlice1, frzs, frz1, ownIds, AV.frz, AV.frzL, frzEnv, AV.shift, AV.shiftL, aFieldV, aSliceW, aSliceO, aSlice, aSliceR, aSliceS, aBd, aMax, frzAVs, frzAV, frzTab, AObj.frz, aMM, aNilS, aMay, tyE_26, tyK_26, tyK_3, tyZ_25, tyS_25, tyA_25, d1, d2] | (with_reducible refine aIf_split (fun _ => ?_) (fun _ => ?_)) | (with_reducible refine aSel_split (fun _ => ?_) (fun _ => ?_)) | (with_reducible refine aGd_split (fun _ => ?_) (fun _ => ?_)) | (with_reducible refine aDraw_quiet (by kernel_rfl) ?_) | ((with_reducible apply callV (g := 8)); exact (awake22_A)) | ((with_reducible apply callD (g := 8)); exact (awake22_A))))
  · have d1 : decide (31 < (vals.length : Int)) = true := by simp only [decide_eq_true_eq]; omega
    (repeat' (first | simp (maxSteps := 5000000) (implicitDefEqProofs := false) only [ruA, ruB, aEv, aTake, aLoad, aField, aIndex, aLen, aBin, bin2, aUn, un1, aExtract, aConv, ASt.get, aget, ASt.put, aStore, aBox, aAppend, aBuildSlice, aMake, aBuild, aFill, oneParts, allC, aBinS, yv, aCells, oneC, oneCL, treeC, treeL, aLit, aDst, aSrc, appTab, Value.cells, Value.oneCell', envOf, aResL, aOne, ↓reduceIte, reduceCtorEq, forall_const, Nat.reduceLT, Nat.reduceEqDiff, Nat.reduceAdd, Nat.reduceMul, Nat.reduceSub, Nat.reduceLeDiff, Nat.reduceBEq, eq_self, implies_true, ne_eq, dref, dref1, dref2, aExecS, aStoreB, aTakes, aTakeE, aElder, aFrom, aFresh, isLoad, aBuildSlice1, frzs, frz1, ownIds, AV.frz, AV.frzL, frzEnv, AV.shift, AV.shiftL, aFieldV, aSliceW, aSliceO, aSlice, aSliceR, aSliceS, aBd, aMax, frzAVs, frzAV, frzTab, AObj.frz, aMM, aNilS, aMay, tyE_26, tyK_26, tyK_3, tyZ_25, tyS_25, tyA_25, d1] | (with_reducible refine aIf_split (fun _ => ?_) (fun _ => ?_)) | (with_reducible refine aSel_split (fun _ => ?_) (fun _ => ?_)) | (with_reducible refine aGd_split (fun _ => ?_) (fun _ => ?_)) | (with_reducible refine aDraw_quiet (by kernel_rfl) ?_) | ((with_reducible apply callV (g := 8)); exact (awake22_A)) | ((with_reducible apply callD (g := 8)); exact (awake22_A))))
end
section
open Go.RowKit

theorem opensI64 : Opens Try.prog 2 (intR .i64) := opens_int Try.underlying2
theorem opensI64s : Opens Try.prog 26 (sliceR (intR .i64)) := opens_slice Try.underlying26 (by kernel_rfl) (by decide) opensI64
end
section
open Go.RowKit
def Into {α : Type} (r : Rep α) (f : α → List AV) : Prop := ∀ (w : World) (S : Nat → Prop) (cs : List Value) (x : α), r.at_ w S cs x → (f x).length = r.size ∧ ∀ (j : Nat) (u : Value) (av : AV), cs[j]? = some u → (f x)[j]? = some av → RT w S u av ∧ u.oneCell' = true
theorem Into.slice {α : Type} {r : Rep α} {f : α → List AV} (h : Into r f) {w : World} {S : Nat → Prop} {v : Value} {l : List α} (hv : (sliceR r).one w S v l) : RT w S v (.sl r.size (l.map f)) := by
  obtain ⟨A, c, rfl, h1, h2⟩ := slice_form hv
  by_cases h0 : 0 < l.length
  · obtain ⟨b, o, rfl, hb, hrow⟩ := slice_some hv h0
    classical
    let cs : Nat → List Value := fun i => if hi : i < l.length then (hrow i hi).choose else []
    have hcs : ∀ i (hi : i < l.length), (∀ (j : Nat) (u : Value), (cs i)[j]? = some u → w.cell? ⟨b, o + i * r.size + j, none⟩ = some u) ∧ r.at_ w S (cs i) l[i] := fun i hi => by
      have := (hrow i hi).choose_spec
      simpa [cs, hi] using this
    have key : ∀ (i j : Nat) (row : List AV) (av : AV), (l.map f)[i]? = some row → row[j]? = some av → ∃ hi : i < l.length, (cs i)[j]? = some ((cs i).getD j undef) ∧ RT w S ((cs i).getD j undef) av ∧ ((cs i).getD j undef).oneCell' = true := fun i j row av h3 h4 => by
      have hi : i < l.length := by
        have := (List.getElem?_eq_some_iff.1 h3).1
        simpa using this
      have hf : row = f l[i] := by
        rw [List.getElem?_map, List.getElem?_eq_getElem hi] at h3
        exact (Option.some.inj h3).symm
      subst hf
      obtain ⟨h5, h6⟩ := h w S (cs i) l[i] (hcs i hi).2
      have hj : j < (cs i).length := by
        rw [r.len (hcs i hi).2, ← h5]
        exact (List.getElem?_eq_some_iff.1 h4).1
      have e : (cs i)[j]? = some ((cs i).getD j undef) := by
        rw [List.getD_eq_getElem?_getD, List.getElem?_eq_getElem hj]
        rfl
      exact ⟨hi, e, h6 j _ av e h4⟩
    refine .sl _ _ c r.size _ b o (fun i j => (cs i).getD j undef) (by simp) h1 h2 (fun _ => ⟨rfl, hb⟩) (fun row hr => ?_) (fun _ i j row av h3 h4 => ?_) (fun i j row av h3 h4 => (key i j row av h3 h4).elim fun _ h => h.2.2) (fun i j row av h3 h4 => (key i j row av h3 h4).elim fun _ h => h.2.1)
    · obtain ⟨i, hi, rfl⟩ := List.getElem_of_mem hr
      have hi : i < l.length := by simpa using hi
      simp only [List.getElem_map]
      exact (h w S (cs i) l[i] (hcs i hi).2).1
    · obtain ⟨hi, h5, _⟩ := key i j row av h3 h4
      exact (hcs i hi).1 j _ h5
  · have : l = [] := List.length_eq_zero_iff.1 (by omega)
    subst this
    exact .sl A 0 c r.size [] 0 0 (fun _ _ => undef) rfl h1 h2 (fun h => by omega) (by simp) (fun h => by omega) (by simp) (by simp)
theorem into_cells {α : Type} {r : Rep α} {f : α → List AV} (g : α → List Value) (hg : ∀ w S cs x, r.at_ w S cs x → cs = g x) (hs : ∀ x, (g x).length = r.size) (ho : ∀ x u, u ∈ g x → u.oneCell' = true) (hf : ∀ x, f x = (g x).map .c) : Into r f := fun w S cs x h => by
  obtain rfl := hg w S cs x h
  rw [hf]
  refine ⟨by simp [hs], fun j u av h1 h2 => ?_⟩
  rw [List.getElem?_map, h1] at h2
  cases h2
  exact ⟨.c u, ho x u (List.mem_of_getElem? h1)⟩
theorem into_int : Into (intR .i64) (fun n => [eI n]) := into_cells (fun n => [.int .i64 n]) (fun w S cs x h => h.1) (fun x => rfl) (fun x u h => by simp at h; subst h; rfl) (fun x => rfl)
/-- every thing of a slice is one that may be -/
theorem slice_all {α : Type} {r : Rep α} {w : World} {S : Nat → Prop} {v : Value} {l : List α} {Q : α → Prop} (h : (sliceR r).one w S v l) (hq : ∀ cs x, r.at_ w S cs x → Q x) : ∀ x ∈ l, Q x := fun x hx => by
  obtain ⟨i, hi, rfl⟩ := List.getElem_of_mem hx
  obtain ⟨A, c, rfl, _⟩ := slice_form h
  obtain ⟨b, o, rfl, _, hrow⟩ := slice_some h (by omega)
  obtain ⟨cs, _, h2⟩ := hrow i hi
  exact hq cs _ h2
end
end Go.Proofs.Ytmcegfoaceilgaa
