/-
  Parts of the proof: SoK, EvOpen, CO, ZO.
-/
import Derived.Test.YtmcegfoaceilgaaZpl7
import Derived.Test.YtmcegfoaceilgaaProg
set_option linter.unusedVariables false
set_option linter.unusedSimpArgs false
namespace Go.Proofs.Ytmcegfoaceilgaa
section
open Go.RowKit
theorem clsTy : (Try.prog.fieldsOf 50).toList.map (fun f => (f.name, f.type, f.offset)) = [("Attrs", 3, 0), ("Const", 3, 1)] := by kernel_rfl
theorem clsBin (op : BinOp) (hop : op = .eql ∨ op = .neq) (a b : Cls) : BinRun Try.prog op 50 (.agg #[.int .i64 a.attrs, .int .i64 a.const]) (.agg #[.int .i64 b.attrs, .int .i64 b.const]) (.bool (if op matches .eql then (a.attrs == b.attrs && a.const == b.const) else !(a.attrs == b.attrs && a.const == b.const))) := by
  have ht := clsTy
  obtain ⟨f, g, hfs⟩ : ∃ f g, (Try.prog.fieldsOf 50).toList = [f, g] := by
    generalize (Try.prog.fieldsOf 50).toList = l at ht ⊢
    cases l with
    | nil => simp at ht
    | cons f l => cases l with
      | nil => simp at ht
      | cons g l => cases l with
        | nil => exact ⟨f, g, rfl⟩
        | cons h l => simp at ht
  rw [hfs] at ht
  simp only [List.map_cons, List.map_nil, List.cons.injEq, Prod.mk.injEq, and_true] at ht
  obtain ⟨⟨h1, h2, h3⟩, h4, h5, h6⟩ := ht
  refine structRun [(.int .i64 a.attrs, .int .i64 b.attrs), (.int .i64 a.const, .int .i64 b.const)] (by kernel_rfl) (by kernel_rfl) (by kernel_rfl) (by rw [hfs]; rfl) (fun k f' p hk hp => ?_) (by simp [cellsEq, cellEq]) hop
  rw [hfs] at hk
  match k, hk, hp with
  | 0, hk, hp =>
    cases hk
    cases hp
    refine ⟨by rw [h1]; decide, ?_, by rw [h3]; rfl, by rw [h3]; rfl⟩
    rw [h2]
    kernel_rfl
  | 1, hk, hp =>
    cases hk
    cases hp
    refine ⟨by rw [h4]; decide, ?_, by rw [h6]; rfl, by rw [h6]; rfl⟩
    rw [h5]
    kernel_rfl
  | k + 2, hk, hp => simp at hk
instance : DecidableEq Cls := fun a b => decidable_of_iff (a.attrs = b.attrs ∧ a.const = b.const) (by cases a; cases b; simp)
theorem clsNe (x y : Cls) : BinRun Try.prog .neq 50 (.agg #[.int .i64 x.attrs, .int .i64 x.const]) (.agg #[.int .i64 y.attrs, .int .i64 y.const]) (.bool (decide (x ≠ y))) := by
  have h := clsBin .neq (.inr rfl) x y
  have e : decide (x ≠ y) = !(x.attrs == y.attrs && x.const == y.const) := by
    rw [Bool.eq_iff_iff]
    cases x
    cases y
    simp
  rw [e]
  exact h
theorem zn_ext {a b : Zn} (h1 : a.cls = b.cls) (h2 : a.gaps = b.gaps) : a = b := by
  cases a
  cases b
  simp at h1 h2
  rw [h1, h2]
theorem list_same {α : Type} {a b : List α} (hl : a.length = b.length) (h : ∀ i (h1 : i < a.length) (h2 : i < b.length), a[i] = b[i]) : a = b := List.ext_getElem hl h
set_option maxRecDepth 100000 in
set_option maxHeartbeats 8000000 in
theorem sameZ_A (a b : Zn) (h1 : a.cls.length ≤ 1000000) (h2 : a.gaps.length ≤ 1000000) : ARel Try.prog 16 [.agg (eZn a), .agg (eZn b)] fun R => ∃ t, R = val (.bool t) ∧ (t = true ↔ a = b) := by
  refine arel_of_code mixedT Try.func16 rfl (by decide) Try.ntmps16 Try.results16 rfl ?_
  have no1 : a.cls.length ≠ b.cls.length → ¬ a = b := fun h e => h (by rw [e])
  have no2 : a.gaps.length ≠ b.gaps.length → ¬ a = b := fun h e => h (by rw [e])
  by_cases hl1 : a.cls.length = b.cls.length
  · have d1 : ((a.cls.length : Int) != (b.cls.length : Int)) = false := by simp [hl1]
    by_cases hl2 : a.gaps.length = b.gaps.length
    · have d2 : ((a.gaps.length : Int) != (b.gaps.length : Int)) = false := by simp [hl2]
      (repeat' (first | simp (maxSteps := 5000000) (implicitDefEqProofs := false) only [ruA, ruB, aEv, aTake, aLoad, aField, aIndex, aLen, aBin, bin2, aUn, un1, aExtract, aConv, ASt.get, aget, ASt.put, aStore, aBox, aAppend, aBuildSlice, aMake, aBuild, aFill, oneParts, allC, aBinS, yv, aCells, oneC, oneCL, treeC, treeL, aLit, aDst, aSrc, appTab, Value.cells, Value.oneCell', envOf, aResL, aOne, ↓reduceIte, reduceCtorEq, forall_const, Nat.reduceLT, Nat.reduceEqDiff, Nat.reduceAdd, Nat.reduceMul, Nat.reduceSub, Nat.reduceLeDiff, Nat.reduceBEq, eq_self, implies_true, ne_eq, dref, dref1, dref2, aExecS, aStoreB, aTakes, aTakeE, aElder, aFrom, aFresh, isLoad, aBuildSlice1, frzs, frz1, ownIds, AV.frz, AV.frzL, frzEnv, AV.shift, AV.shiftL, aFieldV, aSliceW, aSliceO, aSlice, aSliceR, aSliceS, aBd, aMax, frzAVs, frzAV, frzTab, AObj.frz, aMM, aNilS, aMay, tyF_25_0, tyA_22, tyS_22, tyE_22, tyK_22, tyK_3, tyF_25_1, tyA_23, tyS_23, tyE_23, tyK_23, tyA_50, tyS_50, tyK_50, tyA_3, tyS_3, d1, d2, List.length_map] | (with_reducible refine aIf_split (fun _ => ?_) (fun _ => ?_)) | (with_reducible refine aSel_split (fun _ => ?_) (fun _ => ?_)) | (with_reducible refine aGd_split (fun _ => ?_) (fun _ => ?_)) | (with_reducible refine aDraw_quiet (by kernel_rfl) ?_)))
      refine aLoop_of (fun st => ∃ k : Nat, k ≤ a.cls.length ∧ (∀ i (h1 : i < a.cls.length) (h2 : i < b.cls.length), i < k → a.cls[i] = b.cls[i]) ∧ st = ⟨59, [(2, .op 0 0 0), (3, .op 1 0 0), (5, eI (k : Int))], [(0, some (.box 25 (eZn a))), (1, some (.box 25 (eZn b)))], 2⟩) (fun st => a.cls.length - slotN st 5) ⟨_, (weak_cut1 (by (first | ((simp only [envIn, tabIn, envLt, tabLt, AObj.lt, AV.lt, AV.ltL, ruW, ASt.get, aget, ASt.put, ↓reduceIte, reduceCtorEq, Nat.reduceLT, Nat.reduceEqDiff, Nat.reduceAdd, Nat.reduceLeDiff, eq_self, implies_true]) <;> (repeat' apply And.intro) <;> first | (rw [wrapK (by omega)]; done) | (simp; done) | omega) | fail))), 0, Nat.zero_le _, fun i _ _ h => by omega, rfl⟩ ?_
      rintro _ ⟨k, hk, hs, rfl⟩
      by_cases hlt : k < a.cls.length
      · have hlt2 : k < b.cls.length := by omega
        have hB := clsNe a.cls[k] b.cls[k]
        by_cases hxy : a.cls[k] = b.cls[k]
        · rw [decide_eq_false (by simpa using hxy)] at hB
          obtain ⟨x, hx⟩ : ∃ x, a.cls[k] = x := ⟨_, rfl⟩
          obtain ⟨y, hy⟩ : ∃ y, b.cls[k] = y := ⟨_, rfl⟩
          rw [hx, hy] at hB
          (repeat' (first | simp (maxSteps := 5000000) (implicitDefEqProofs := false) only [ruA, ruB, aEv, aTake, aLoad, aField, aIndex, aLen, aBin, bin2, aUn, un1, aExtract, aConv, ASt.get, aget, ASt.put, aStore, aBox, aAppend, aBuildSlice, aMake, aBuild, aFill, oneParts, allC, aBinS, yv, aCells, oneC, oneCL, treeC, treeL, aLit, aDst, aSrc, appTab, Value.cells, Value.oneCell', envOf, aResL, aOne, ↓reduceIte, reduceCtorEq, forall_const, Nat.reduceLT, Nat.reduceEqDiff, Nat.reduceAdd, Nat.reduceMul, Nat.reduceSub, Nat.reduceLeDiff, Nat.reduceBEq, eq_self, implies_true, ne_eq, dref, dref1, dref2, aExecS, aStoreB, aTakes, aTakeE, aElder, aFrom, aFresh, isLoad, aBuildSlice1, frzs, frz1, ownIds, AV.frz, AV.frzL, frzEnv, AV.shift, AV.shiftL, aFieldV, aSliceW, aSliceO, aSlice, aSliceR, aSliceS, aBd, aMax, frzAVs, frzAV, frzTab, AObj.frz, aMM, aNilS, aMay, tyF_25_0, tyA_22, tyS_22, tyE_22, tyK_22, tyK_3, tyF_25_1, tyA_23, tyS_23, tyE_23, tyK_23, tyA_50, tyS_50, tyK_50, tyA_3, tyS_3, row_at, hlt, hlt2, hx, hy, List.length_map] | (with_reducible refine aIf_split (fun _ => ?_) (fun _ => ?_)) | (with_reducible refine aSel_split (fun _ => ?_) (fun _ => ?_)) | (with_reducible refine aGd_split (fun _ => ?_) (fun _ => ?_)) | (with_reducible refine aDraw_quiet (by kernel_rfl) ?_)))
          all_goals refine ⟨_, hB, ?_⟩
          all_goals (repeat' (first | simp (maxSteps := 5000000) (implicitDefEqProofs := false) only [ruA, ruB, aEv, aTake, aLoad, aField, aIndex, aLen, aBin, bin2, aUn, un1, aExtract, aConv, ASt.get, aget, ASt.put, aStore, aBox, aAppend, aBuildSlice, aMake, aBuild, aFill, oneParts, allC, aBinS, yv, aCells, oneC, oneCL, treeC, treeL, aLit, aDst, aSrc, appTab, Value.cells, Value.oneCell', envOf, aResL, aOne, ↓reduceIte, reduceCtorEq, forall_const, Nat.reduceLT, Nat.reduceEqDiff, Nat.reduceAdd, Nat.reduceMul, Nat.reduceSub, Nat.reduceLeDiff, Nat.reduceBEq, eq_self, implies_true, ne_eq, dref, dref1, dref2, aExecS, aStoreB, aTakes, aTakeE, aElder, aFrom, aFresh, isLoad, aBuildSlice1, frzs, frz1, ownIds, AV.frz, AV.frzL, frzEnv, AV.shift, AV.shiftL, aFieldV, aSliceW, aSliceO, aSlice, aSliceR, aSliceS, aBd, aMax, frzAVs, frzAV, frzTab, AObj.frz, aMM, aNilS, aMay, tyF_25_0, tyA_22, tyS_22, tyE_22, tyK_22, tyK_3, tyF_25_1, tyA_23, tyS_23, tyE_23, tyK_23, tyA_50, tyS_50, tyK_50, tyA_3, tyS_3] | (with_reducible refine aIf_split (fun _ => ?_) (fun _ => ?_)) | (with_reducible refine aSel_split (fun _ => ?_) (fun _ => ?_)) | (with_reducible refine aGd_split (fun _ => ?_) (fun _ => ?_)) | (with_reducible refine aDraw_quiet (by kernel_rfl) ?_)))
          all_goals exact roundI (weak_cut1 (by (first | ((simp only [envIn, tabIn, envLt, tabLt, AObj.lt, AV.lt, AV.ltL, ruW, ASt.get, aget, ASt.put, ↓reduceIte, reduceCtorEq, Nat.reduceLT, Nat.reduceEqDiff, Nat.reduceAdd, Nat.reduceLeDiff, eq_self, implies_true]) <;> (repeat' apply And.intro) <;> first | (rw [wrapK (by omega)]; done) | (simp; done) | omega) | fail))) ⟨k + 1, by omega, fun i h1 h2 h3 => (by
            rcases Nat.lt_or_ge i k with h | h
            · exact hs i h1 h2 h
            · obtain rfl : i = k := by omega
              exact hxy), rfl⟩ (by simp only [slotN, ruW, ASt.get, aget, ASt.put, ↓reduceIte, reduceCtorEq, Nat.reduceLT, Nat.reduceEqDiff, Nat.reduceAdd, Nat.reduceLeDiff, eq_self, implies_true]; omega)
        · rw [decide_eq_true hxy] at hB
          have hno : ¬ a = b := fun e => hxy (by subst e; rfl)
          obtain ⟨x, hx⟩ : ∃ x, a.cls[k] = x := ⟨_, rfl⟩
          obtain ⟨y, hy⟩ : ∃ y, b.cls[k] = y := ⟨_, rfl⟩
          rw [hx, hy] at hB
          (repeat' (first | simp (maxSteps := 5000000) (implicitDefEqProofs := false) only [ruA, ruB, aEv, aTake, aLoad, aField, aIndex, aLen, aBin, bin2, aUn, un1, aExtract, aConv, ASt.get, aget, ASt.put, aStore, aBox, aAppend, aBuildSlice, aMake, aBuild, aFill, oneParts, allC, aBinS, yv, aCells, oneC, oneCL, treeC, treeL, aLit, aDst, aSrc, appTab, Value.cells, Value.oneCell', envOf, aResL, aOne, ↓reduceIte, reduceCtorEq, forall_const, Nat.reduceLT, Nat.reduceEqDiff, Nat.reduceAdd, Nat.reduceMul, Nat.reduceSub, Nat.reduceLeDiff, Nat.reduceBEq, eq_self, implies_true, ne_eq, dref, dref1, dref2, aExecS, aStoreB, aTakes, aTakeE, aElder, aFrom, aFresh, isLoad, aBuildSlice1, frzs, frz1, ownIds, AV.frz, AV.frzL, frzEnv, AV.shift, AV.shiftL, aFieldV, aSliceW, aSliceO, aSlice, aSliceR, aSliceS, aBd, aMax, frzAVs, frzAV, frzTab, AObj.frz, aMM, aNilS, aMay, tyF_25_0, tyA_22, tyS_22, tyE_22, tyK_22, tyK_3, tyF_25_1, tyA_23, tyS_23, tyE_23, tyK_23, tyA_50, tyS_50, tyK_50, tyA_3, tyS_3, row_at, hlt, hlt2, hx, hy, List.length_map] | (with_reducible refine aIf_split (fun _ => ?_) (fun _ => ?_)) | (with_reducible refine aSel_split (fun _ => ?_) (fun _ => ?_)) | (with_reducible refine aGd_split (fun _ => ?_) (fun _ => ?_)) | (with_reducible refine aDraw_quiet (by kernel_rfl) ?_)))
          all_goals refine ⟨_, hB, ?_⟩
          all_goals (repeat' (first | simp (maxSteps := 5000000) (implicitDefEqProofs := false) only [ruA, ruB, aEv, aTake, aLoad, aField, aIndex, aLen, aBin, bin2, aUn, un1, aExtract, aConv, ASt.get, aget, ASt.put, aStore, aBox, aAppend, aBuildSlice, aMake, aBuild, aFill, oneParts, allC, aBinS, yv, aCells, oneC, oneCL, treeC, treeL, aLit, aDst, aSrc, appTab, Value.cells, Value.oneCell', envOf, aResL, aOne, ↓reduceIte, reduceCtorEq, forall_const, Nat.reduceLT, Nat.reduceEqDiff, Nat.reduceAdd, Nat.reduceMul, Nat.reduceSub, Nat.reduceLeDiff, Nat.reduceBEq, eq_self, implies_true, ne_eq, dref, dref1, dref2, aExecS, aStoreB, aTakes, aTakeE, aElder, aFrom, aFresh, isLoad, aBuildSlice1, frzs, frz1, ownIds, AV.frz, AV.frzL, frzEnv, AV.shift, AV.shiftL, aFieldV, aSliceW, aSliceO, aSlice, aSliceR, aSliceS, aBd, aMax, frzAVs, frzAV, frzTab, AObj.frz, aMM, aNilS, aMay, tyF_25_0, tyA_22, tyS_22, tyE_22, tyK_22, tyK_3, tyF_25_1, tyA_23, tyS_23, tyE_23, tyK_23, tyA_50, tyS_50, tyK_50, tyA_3, tyS_3] | (with_reducible refine aIf_split (fun _ => ?_) (fun _ => ?_)) | (with_reducible refine aSel_split (fun _ => ?_) (fun _ => ?_)) | (with_reducible refine aGd_split (fun _ => ?_) (fun _ => ?_)) | (with_reducible refine aDraw_quiet (by kernel_rfl) ?_)))
          all_goals exact retV ⟨false, rfl, by simp; exact hno⟩
      · have hcls : a.cls = b.cls := list_same hl1 fun i h1 h2 => hs i h1 h2 (by omega)
        (repeat' (first | simp (maxSteps := 5000000) (implicitDefEqProofs := false) only [ruA, ruB, aEv, aTake, aLoad, aField, aIndex, aLen, aBin, bin2, aUn, un1, aExtract, aConv, ASt.get, aget, ASt.put, aStore, aBox, aAppend, aBuildSlice, aMake, aBuild, aFill, oneParts, allC, aBinS, yv, aCells, oneC, oneCL, treeC, treeL, aLit, aDst, aSrc, appTab, Value.cells, Value.oneCell', envOf, aResL, aOne, ↓reduceIte, reduceCtorEq, forall_const, Nat.reduceLT, Nat.reduceEqDiff, Nat.reduceAdd, Nat.reduceMul, Nat.reduceSub, Nat.reduceLeDiff, Nat.reduceBEq, eq_self, implies_true, ne_eq, dref, dref1, dref2, aExecS, aStoreB, aTakes, aTakeE, aElder, aFrom, aFresh, isLoad, aBuildSlice1, frzs, frz1, ownIds, AV.frz, AV.frzL, frzEnv, AV.shift, AV.shiftL, aFieldV, aSliceW, aSliceO, aSlice, aSliceR, aSliceS, aBd, aMax, frzAVs, frzAV, frzTab, AObj.frz, aMM, aNilS, aMay, tyF_25_0, tyA_22, tyS_22, tyE_22, tyK_22, tyK_3, tyF_25_1, tyA_23, tyS_23, tyE_23, tyK_23, tyA_50, tyS_50, tyK_50, tyA_3, tyS_3, hlt, List.length_map] | (with_reducible refine aIf_split (fun _ => ?_) (fun _ => ?_)) | (with_reducible refine aSel_split (fun _ => ?_) (fun _ => ?_)) | (with_reducible refine aGd_split (fun _ => ?_) (fun _ => ?_)) | (with_reducible refine aDraw_quiet (by kernel_rfl) ?_)))
        refine aLoop_of (fun st => ∃ k : Nat, k ≤ a.gaps.length ∧ (∀ i (h1 : i < a.gaps.length) (h2 : i < b.gaps.length), i < k → a.gaps[i] = b.gaps[i]) ∧ st = ⟨59, [(2, .op 0 0 0), (3, .op 1 0 0), (6, eI (k : Int))], [(0, some (.box 25 (eZn a))), (1, some (.box 25 (eZn b)))], 2⟩) (fun st => a.gaps.length - slotN st 6) ⟨_, (weak_cut1 (by (first | ((simp only [envIn, tabIn, envLt, tabLt, AObj.lt, AV.lt, AV.ltL, ruW, ASt.get, aget, ASt.put, ↓reduceIte, reduceCtorEq, Nat.reduceLT, Nat.reduceEqDiff, Nat.reduceAdd, Nat.reduceLeDiff, eq_self, implies_true]) <;> (repeat' apply And.intro) <;> first | (rw [wrapK (by omega)]; done) | (simp; done) | omega) | fail))), 0, Nat.zero_le _, fun i _ _ h => by omega, rfl⟩ ?_
        rintro _ ⟨k, hk, hs2, rfl⟩
        by_cases hlt2 : k < a.gaps.length
        · have hlt3 : k < b.gaps.length := by omega
          by_cases hxy : a.gaps[k] = b.gaps[k]
          · have d3 : (a.gaps[k] != b.gaps[k]) = false := by simpa using hxy
            (repeat' (first | simp (maxSteps := 5000000) (implicitDefEqProofs := false) only [ruA, ruB, aEv, aTake, aLoad, aField, aIndex, aLen, aBin, bin2, aUn, un1, aExtract, aConv, ASt.get, aget, ASt.put, aStore, aBox, aAppend, aBuildSlice, aMake, aBuild, aFill, oneParts, allC, aBinS, yv, aCells, oneC, oneCL, treeC, treeL, aLit, aDst, aSrc, appTab, Value.cells, Value.oneCell', envOf, aResL, aOne, ↓reduceIte, reduceCtorEq, forall_const, Nat.reduceLT, Nat.reduceEqDiff, Nat.reduceAdd, Nat.reduceMul, Nat.reduceSub, Nat.reduceLeDiff, Nat.reduceBEq, eq_self, implies_true, ne_eq, dref, dref1, dref2, aExecS, aStoreB, aTakes, aTakeE, aElder, aFrom, aFresh, isLoad, aBuildSlice1, frzs, frz1, ownIds, AV.frz, AV.frzL, frzEnv, AV.shift, AV.shiftL, aFieldV, aSliceW, aSliceO, aSlice, aSliceR, aSliceS, aBd, aMax, frzAVs, frzAV, frzTab, AObj.frz, aMM, aNilS, aMay, tyF_25_0, tyA_22, tyS_22, tyE_22, tyK_22, tyK_3, tyF_25_1, tyA_23, tyS_23, tyE_23, tyK_23, tyA_50, tyS_50, tyK_50, tyA_3, tyS_3, row_at, hlt2, hlt3, d3, List.length_map] | (with_reducible refine aIf_split (fun _ => ?_) (fun _ => ?_)) | (with_reducible refine aSel_split (fun _ => ?_) (fun _ => ?_)) | (with_reducible refine aGd_split (fun _ => ?_) (fun _ => ?_)) | (with_reducible refine aDraw_quiet (by kernel_rfl) ?_)))
            all_goals exact roundI (weak_cut1 (by (first | ((simp only [envIn, tabIn, envLt, tabLt, AObj.lt, AV.lt, AV.ltL, ruW, ASt.get, aget, ASt.put, ↓reduceIte, reduceCtorEq, Nat.reduceLT, Nat.reduceEqDiff, Nat.reduceAdd, Nat.reduceLeDiff, eq_self, implies_true]) <;> (repeat' apply And.intro) <;> first | (rw [wrapK (by omega)]; done) | (simp; done) | omega) | fail))) ⟨k + 1, by omega, fun i h1 h2 h3 => (by
              rcases Nat.lt_or_ge i k with h | h
              · exact hs2 i h1 h2 h
              · obtain rfl : i = k := by omega
                exact hxy), rfl⟩ (by simp only [slotN, ruW, ASt.get, aget, ASt.put, ↓reduceIte, reduceCtorEq, Nat.reduceLT, Nat.reduceEqDiff, Nat.reduceAdd, Nat.reduceLeDiff, eq_self, implies_true]; omega)
          · have d3 : (a.gaps[k] != b.gaps[k]) = true := by simpa using hxy
            have hno : ¬ a = b := fun e => hxy (by subst e; rfl)
            (repeat' (first | simp (maxSteps := 5000000) (implicitDefEqProofs := false) only [ruA, ruB, aEv, aTake, aLoad, aField, aIndex, aLen, aBin, bin2, aUn, un1, aExtract, aConv, ASt.get, aget, ASt.put, aStore, aBox, aAppend, aBuildSlice, aMake, aBuild, aFill, oneParts, allC, aBinS, yv, aCells, oneC, oneCL, treeC, treeL, aLit, aDst, aSrc, appTab, Value.cells, Value.oneCell', envOf, aResL, aOne, ↓reduceIte, reduceCtorEq, forall_const, Nat.reduceLT, Nat.reduceEqDiff, Nat.reduceAdd, Nat.reduceMul, Nat.reduceSub, Nat.reduceLeDiff, Nat.reduceBEq, eq_self, implies_true, ne_eq, dref, dref1, dref2, aExecS, aStoreB, aTakes, aTakeE, aElder, aFrom, aFresh, isLoad, aBuildSlice1, frzs, frz1, ownIds, AV.frz, AV.frzL, frzEnv, AV.shift, AV.shiftL, aFieldV, aSliceW, aSliceO, aSlice, aSliceR, aSliceS, aBd, aMax, frzAVs, frzAV, frzTab, AObj.frz, aMM, aNilS, aMay, tyF_25_0, tyA_22, tyS_22, tyE_22, tyK_22, tyK_3, tyF_25_1, tyA_23, tyS_23, tyE_23, tyK_23, tyA_50, tyS_50, tyK_50, tyA_3, tyS_3, row_at, hlt2, hlt3, d3, List.length_map] | (with_reducible refine aIf_split (fun _ => ?_) (fun _ => ?_)) | (with_reducible refine aSel_split (fun _ => ?_) (fun _ => ?_)) | (with_reducible refine aGd_split (fun _ => ?_) (fun _ => ?_)) | (with_reducible refine aDraw_quiet (by kernel_rfl) ?_)))
            all_goals exact retV ⟨false, rfl, by simp; exact hno⟩
        · have hgaps : a.gaps = b.gaps := list_same hl2 fun i h1 h2 => hs2 i h1 h2 (by omega)
          (repeat' (first | simp (maxSteps := 5000000) (implicitDefEqProofs := false) only [ruA, ruB, aEv, aTake, aLoad, aField, aIndex, aLen, aBin, bin2, aUn, un1, aExtract, aConv, ASt.get, aget, ASt.put, aStore, aBox, aAppend, aBuildSlice, aMake, aBuild, aFill, oneParts, allC, aBinS, yv, aCells, oneC, oneCL, treeC, treeL, aLit, aDst, aSrc, appTab, Value.cells, Value.oneCell', envOf, aResL, aOne, ↓reduceIte, reduceCtorEq, forall_const, Nat.reduceLT, Nat.reduceEqDiff, Nat.reduceAdd, Nat.reduceMul, Nat.reduceSub, Nat.reduceLeDiff, Nat.reduceBEq, eq_self, implies_true, ne_eq, dref, dref1, dref2, aExecS, aStoreB, aTakes, aTakeE, aElder, aFrom, aFresh, isLoad, aBuildSlice1, frzs, frz1, ownIds, AV.frz, AV.frzL, frzEnv, AV.shift, AV.shiftL, aFieldV, aSliceW, aSliceO, aSlice, aSliceR, aSliceS, aBd, aMax, frzAVs, frzAV, frzTab, AObj.frz, aMM, aNilS, aMay, tyF_25_0, tyA_22, tyS_22, tyE_22, tyK_22, tyK_3, tyF_25_1, tyA_23, tyS_23, tyE_23, tyK_23, tyA_50, tyS_50, tyK_50, tyA_3, tyS_3, hlt2, List.length_map] | (with_reducible refine aIf_split (fun _ => ?_) (fun _ => ?_)) | (with_reducible refine aSel_split (fun _ => ?_) (fun _ => ?_)) | (with_reducible refine aGd_split (fun _ => ?_) (fun _ => ?_)) | (with_reducible refine aDraw_quiet (by kernel_rfl) ?_)))
          all_goals exact retV ⟨true, rfl, by simp; exact zn_ext hcls hgaps⟩
    · have d2 : ((a.gaps.length : Int) != (b.gaps.length : Int)) = true := by simp; omega
      (repeat' (first | simp (maxSteps := 5000000) (implicitDefEqProofs := false) only [ruA, ruB, aEv, aTake, aLoad, aField, aIndex, aLen, aBin, bin2, aUn, un1, aExtract, aConv, ASt.get, aget, ASt.put, aStore, aBox, aAppend, aBuildSlice, aMake, aBuild, aFill, oneParts, allC, aBinS, yv, aCells, oneC, oneCL, treeC, treeL, aLit, aDst, aSrc, appTab, Value.cells, Value.oneCell', envOf, aResL, aOne, ↓reduceIte, reduceCtorEq, forall_const, Nat.reduceLT, Nat.reduceEqDiff, Nat.reduceAdd, Nat.reduceMul, Nat.reduceSub, Nat.reduceLeDiff, Nat.reduceBEq, eq_self, implies_true, ne_eq, dref, dref1, dref2, aExecS, aStoreB, aTakes, aTakeE, aElder, aFrom, aFresh, isLoad, aBuildSlice1, frzs, frz1, ownIds, AV.frz, AV.frzL, frzEnv, AV.shift, AV.shiftL, aFieldV, aSliceW, aSliceO, aSlice, aSliceR, aSliceS, aBd, aMax, frzAVs, frzAV, frzTab, AObj.frz, aMM, aNilS, aMay, tyF_25_0, tyA_22, tyS_22, tyE_22, tyK_22, tyK_3, tyF_25_1, tyA_23, tyS_23, tyE_23, tyK_23, tyA_50, tyS_50, tyK_50, tyA_3, tyS_3, d1, d2, List.length_map] | (with_reducible refine aIf_split (fun _ => ?_) (fun _ => ?_)) | (with_reducible refine aSel_split (fun _ => ?_) (fun _ => ?_)) | (with_reducible refine aGd_split (fun _ => ?_) (fun _ => ?_)) | (with_reducible refine aDraw_quiet (by kernel_rfl) ?_)))
      exact retV ⟨false, rfl, by simp; exact no2 hl2⟩
  · have d1 : ((a.cls.length : Int) != (b.cls.length : Int)) = true := by simp; omega
    (repeat' (first | simp (maxSteps := 5000000) (implicitDefEqProofs := false) only [ruA, ruB, aEv, aTake, aLoad, aField, aIndex, aLen, aBin, bin2, aUn, un1, aExtract, aConv, ASt.get, aget, ASt.put, aStore, aBox, aAppend, aBuildSlice, aMake, aBuild, aFill, oneParts, allC, aBinS, yv, aCells, oneC, oneCL, treeC, treeL, aLit, aDst, aSrc, appTab, Value.cells, Value.oneCell', envOf, aResL, aOne, ↓reduceIte, reduceCtorEq, forall_const, Nat.reduceLT, Nat.reduceEqDiff, Nat.reduceAdd, Nat.reduceMul, Nat.reduceSub, Nat.reduceLeDiff, Nat.reduceBEq, eq_self, implies_true, ne_eq, dref, dref1, dref2, aExecS, aStoreB, aTakes, aTakeE, aElder, aFrom, aFresh, isLoad, aBuildSlice1, frzs, frz1, ownIds, AV.frz, AV.frzL, frzEnv, AV.shift, AV.shiftL, aFieldV, aSliceW, aSliceO, aSlice, aSliceR, aSliceS, aBd, aMax, frzAVs, frzAV, frzTab, AObj.frz, aMM, aNilS, aMay, tyF_25_0, tyA_22, tyS_22, tyE_22, tyK_22, tyK_3, tyF_25_1, tyA_23, tyS_23, tyE_23, tyK_23, tyA_50, tyS_50, tyK_50, tyA_3, tyS_3, d1, List.length_map] | (with_reducible refine aIf_split (fun _ => ?_) (fun _ => ?_)) | (with_reducible refine aSel_split (fun _ => ?_) (fun _ => ?_)) | (with_reducible refine aGd_split (fun _ => ?_) (fun _ => ?_)) | (with_reducible refine aDraw_quiet (by kernel_rfl) ?_)))
    exact retV ⟨false, rfl, by simp; exact no1 hl1⟩
def ex22 : Zn := ⟨[⟨1, 0⟩, ⟨0, 1⟩, ⟨2, -1⟩], [1, 1]⟩
theorem ex22_zone : zoneM [5, 9] [5, 7] 2 = ex22 := by
  have h : (zoneM [5, 9] [5, 7] 2).cls.map (fun c => (c.attrs, c.const)) = ex22.cls.map (fun c => (c.attrs, c.const)) := by kernel_rfl
  have h2 : (zoneM [5, 9] [5, 7] 2).gaps = ex22.gaps := by kernel_rfl
  refine zn_ext ?_ h2
  have inj : ∀ l k : List Cls, l.map (fun c => (c.attrs, c.const)) = k.map (fun c => (c.attrs, c.const)) → l = k := fun l k h => by
    refine (List.map_inj_right fun x y h => ?_).1 h
    cases x
    cases y
    simpa using h
  exact inj _ _ h
set_option maxRecDepth 100000 in
set_option maxHeartbeats 8000000 in
theorem awake22_A : ADet Try.prog 8 [] (val (.bool true)) := by
  refine adet_of_code mixedT Try.func8 rfl (by decide) Try.ntmps8 Try.results8 rfl (val_ok _) ?_
  have hO := zoneOfC_A [5, 9] [5, 7] 2 (by simp) (by simp) (by simp [ok64]) (by simp [ok64])
  rw [ex22_zone] at hO
  have hS : ARel Try.prog 16 [.agg (eZn ex22), .agg (eZn ex22)] fun R => ∃ b, R = val (.bool b) ∧ b = true := (sameZ_A ex22 ex22 (by simp [ex22]) (by simp [ex22])).mono fun R ⟨b, h1, h2⟩ => ⟨b, h1, h2.2 rfl⟩
  (repeat' (first | simp (maxSteps := 5000000) (implicitDefEqProofs := false) only [ruA, ruB, aEv, aTake, aLoad, aField, aIndex, aLen, aBin, bin2, aUn, un1, aExtract, aConv, ASt.get, aget, ASt.put, aStore, aBox, aAppend, aBuildSlice, aMake, aBuild, aFill, oneParts, allC, aBinS, yv, aCells, oneC, oneCL, treeC, treeL, aLit, aDst, aSrc, appTab, Value.cells, Value.oneCell', envOf, aResL, aOne, ↓reduceIte, reduceCtorEq, forall_const, Nat.reduceLT, Nat.reduceEqDiff, Nat.reduceAdd, Nat.reduceMul, Nat.reduceSub, Nat.reduceLeDiff, Nat.reduceBEq, eq_self, implies_true, ne_eq, dref, dref1, dref2, aExecS, aStoreB, aTakes, aTakeE, aElder, aFrom, aFresh, isLoad, aBuildSlice1, frzs, frz1, ownIds, AV.frz, AV.frzL, frzEnv, AV.shift, AV.shiftL, aFieldV, aSliceW, aSliceO, aSlice, aSliceR, aSliceS, aBd, aMax, frzAVs, frzAV, frzTab, AObj.frz, aMM, aNilS, aMay, tyR_26, tyZ_25, tyS_25, tyA_25, tyB_50, tyR_22, tyR_23, tyB_25] | (with_reducible refine aIf_split (fun _ => ?_) (fun _ => ?_)) | (with_reducible refine aSel_split (fun _ => ?_) (fun _ => ?_)) | (with_reducible refine aGd_split (fun _ => ?_) (fun _ => ?_))))
  repeat (refine ⟨rfl, ?_⟩)
  refine callZ [0, 1] (R := ⟨.agg (eZn ex22), [], 0⟩) ?_ ?_ ?_
  · simp (maxSteps := 5000000) (implicitDefEqProofs := false) only [ruA, ruB, aEv, aTake, aLoad, aField, aIndex, aLen, aBin, bin2, aUn, un1, aExtract, aConv, ASt.get, aget, ASt.put, aStore, aBox, aAppend, aBuildSlice, aMake, aBuild, aFill, oneParts, allC, aBinS, yv, aCells, oneC, oneCL, treeC, treeL, aLit, aDst, aSrc, appTab, Value.cells, Value.oneCell', envOf, aResL, aOne, ↓reduceIte, reduceCtorEq, forall_const, Nat.reduceLT, Nat.reduceEqDiff, Nat.reduceAdd, Nat.reduceMul, Nat.reduceSub, Nat.reduceLeDiff, Nat.reduceBEq, eq_self, implies_true, ne_eq, dref, dref1, dref2, aExecS, aStoreB, aTakes, aTakeE, aElder, aFrom, aFresh, isLoad, aBuildSlice1, frzs, frz1, ownIds, AV.frz, AV.frzL, frzEnv, AV.shift, AV.shiftL, aFieldV, aSliceW, aSliceO, aSlice, aSliceR, aSliceS, aBd, aMax, frzAVs, frzAV, frzTab, AObj.frz, aMM, aNilS, aMay, tyR_26, tyZ_25, tyS_25, tyA_25, tyB_50, tyR_22, tyR_23, tyB_25]
    exact hO
  · simp (maxSteps := 5000000) (implicitDefEqProofs := false) only [ruA, ruB, aEv, aTake, aLoad, aField, aIndex, aLen, aBin, bin2, aUn, un1, aExtract, aConv, ASt.get, aget, ASt.put, aStore, aBox, aAppend, aBuildSlice, aMake, aBuild, aFill, oneParts, allC, aBinS, yv, aCells, oneC, oneCL, treeC, treeL, aLit, aDst, aSrc, appTab, Value.cells, Value.oneCell', envOf, aResL, aOne, ↓reduceIte, reduceCtorEq, forall_const, Nat.reduceLT, Nat.reduceEqDiff, Nat.reduceAdd, Nat.reduceMul, Nat.reduceSub, Nat.reduceLeDiff, Nat.reduceBEq, eq_self, implies_true, ne_eq, dref, dref1, dref2, aExecS, aStoreB, aTakes, aTakeE, aElder, aFrom, aFresh, isLoad, aBuildSlice1, frzs, frz1, ownIds, AV.frz, AV.frzL, frzEnv, AV.shift, AV.shiftL, aFieldV, aSliceW, aSliceO, aSlice, aSliceR, aSliceS, aBd, aMax, frzAVs, frzAV, frzTab, AObj.frz, aMM, aNilS, aMay, tyR_26, tyZ_25, tyS_25, tyA_25, tyB_50, tyR_22, tyR_23, tyB_25]
    left
    simp [roL, roA, treeL, treeC]
  · (repeat' (first | simp (maxSteps := 5000000) (implicitDefEqProofs := false) only [ruA, ruB, aEv, aTake, aLoad, aField, aIndex, aLen, aBin, bin2, aUn, un1, aExtract, aConv, ASt.get, aget, ASt.put, aStore, aBox, aAppend, aBuildSlice, aMake, aBuild, aFill, oneParts, allC, aBinS, yv, aCells, oneC, oneCL, treeC, treeL, aLit, aDst, aSrc, appTab, Value.cells, Value.oneCell', envOf, aResL, aOne, ↓reduceIte, reduceCtorEq, forall_const, Nat.reduceLT, Nat.reduceEqDiff, Nat.reduceAdd, Nat.reduceMul, Nat.reduceSub, Nat.reduceLeDiff, Nat.reduceBEq, eq_self, implies_true, ne_eq, dref, dref1, dref2, aExecS, aStoreB, aTakes, aTakeE, aElder, aFrom, aFresh, isLoad, aBuildSlice1, frzs, frz1, ownIds, AV.frz, AV.frzL, frzEnv, AV.shift, AV.shiftL, aFieldV, aSliceW, aSliceO, aSlice, aSliceR, aSliceS, aBd, aMax, frzAVs, frzAV, frzTab, AObj.frz, aMM, aNilS, aMay, tyR_26, tyZ_25, tyS_25, tyA_25, tyB_50, tyR_22, tyR_23, tyB_25, ex22, eCls] | (with_reducible refine aIf_split (fun _ => ?_) (fun _ => ?_)) | (with_reducible refine aSel_split (fun _ => ?_) (fun _ => ?_)) | (with_reducible refine aGd_split (fun _ => ?_) (fun _ => ?_)) | (with_reducible refine aDraw_quiet (by kernel_rfl) ?_) | (with_reducible apply And.intro)))
    all_goals first
      | rfl
      | skip
    refine callPB (Q := fun b => b = true) (by simp (maxSteps := 5000000) (implicitDefEqProofs := false) only [ruA, ruB, aEv, aTake, aLoad, aField, aIndex, aLen, aBin, bin2, aUn, un1, aExtract, aConv, ASt.get, aget, ASt.put, aStore, aBox, aAppend, aBuildSlice, aMake, aBuild, aFill, oneParts, allC, aBinS, yv, aCells, oneC, oneCL, treeC, treeL, aLit, aDst, aSrc, appTab, Value.cells, Value.oneCell', envOf, aResL, aOne, ↓reduceIte, reduceCtorEq, forall_const, Nat.reduceLT, Nat.reduceEqDiff, Nat.reduceAdd, Nat.reduceMul, Nat.reduceSub, Nat.reduceLeDiff, Nat.reduceBEq, eq_self, implies_true, ne_eq, dref, dref1, dref2, aExecS, aStoreB, aTakes, aTakeE, aElder, aFrom, aFresh, isLoad, aBuildSlice1, frzs, frz1, ownIds, AV.frz, AV.frzL, frzEnv, AV.shift, AV.shiftL, aFieldV, aSliceW, aSliceO, aSlice, aSliceR, aSliceS, aBd, aMax, frzAVs, frzAV, frzTab, AObj.frz, aMM, aNilS, aMay, tyR_26, tyZ_25, tyS_25, tyA_25, tyB_50, tyR_22, tyR_23, tyB_25]; exact hS) fun b hb => ?_
    subst hb
    (repeat' (first | simp (maxSteps := 5000000) (implicitDefEqProofs := false) only [ruA, ruB, aEv, aTake, aLoad, aField, aIndex, aLen, aBin, bin2, aUn, un1, aExtract, aConv, ASt.get, aget, ASt.put, aStore, aBox, aAppend, aBuildSlice, aMake, aBuild, aFill, oneParts, allC, aBinS, yv, aCells, oneC, oneCL, treeC, treeL, aLit, aDst, aSrc, appTab, Value.cells, Value.oneCell', envOf, aResL, aOne, ↓reduceIte, reduceCtorEq, forall_const, Nat.reduceLT, Nat.reduceEqDiff, Nat.reduceAdd, Nat.reduceMul, Nat.reduceSub, Nat.reduceLeDiff, Nat.reduceBEq, eq_self, implies_true, ne_eq, dref, dref1, dref2, aExecS, aStoreB, aTakes, aTakeE, aElder, aFrom, aFresh, isLoad, aBuildSlice1, frzs, frz1, ownIds, AV.frz, AV.frzL, frzEnv, AV.shift, AV.shiftL, aFieldV, aSliceW, aSliceO, aSlice, aSliceR, aSliceS, aBd, aMax, frzAVs, frzAV, frzTab, AObj.frz, aMM, aNilS, aMay, tyR_26, tyZ_25, tyS_25, tyA_25, tyB_50, tyR_22, tyR_23, tyB_25] | (with_reducible refine aIf_split (fun _ => ?_) (fun _ => ?_)) | (with_reducible refine aSel_split (fun _ => ?_) (fun _ => ?_)) | (with_reducible refine aGd_split (fun _ => ?_) (fun _ => ?_)) | (with_reducible refine aDraw_quiet (by kernel_rfl) ?_)))
set_option maxRecDepth 100000 in
theorem greatZ_A (z : Zn) : ARel Try.prog 7 [.agg (eZn z)] fun R => ∃ b, R = val (.bool b) ∧ (b = false → z.cls.length ≤ 40 ∧ z.gaps.length ≤ 40) := by
  refine arel_of_code mixedT Try.func7 rfl (by decide) Try.ntmps7 Try.results7 rfl ?_
  (repeat' (first | simp (maxSteps := 5000000) (implicitDefEqProofs := false) only [ruA, ruB, aEv, aTake, aLoad, aField, aIndex, aLen, aBin, bin2, aUn, un1, aExtract, aConv, ASt.get, aget, ASt.put, aStore, aBox, aAppend, aBuildSlice, aMake, aBuild, aFill, oneParts, allC, aBinS, yv, aCells, oneC, oneCL, treeC, treeL, aLit, aDst, aSrc, appTab, Value.cells, Value.oneCell', envOf, aResL, aOne, ↓reduceIte, reduceCtorEq, forall_const, Nat.reduceLT, Nat.reduceEqDiff, Nat.reduceAdd, Nat.reduceMul, Nat.reduceSub, Nat.reduceLeDiff, Nat.reduceBEq, eq_self, implies_true, ne_eq, dref, dref1, dref2, aExecS, aStoreB, aTakes, aTakeE, aElder, aFrom, aFresh, isLoad, aBuildSlice1, frzs, frz1, ownIds, AV.frz, AV.frzL, frzEnv, AV.shift, AV.shiftL, aFieldV, aSliceW, aSliceO, aSlice, aSliceR, aSliceS, aBd, aMax, frzAVs, frzAV, frzTab, AObj.frz, aMM, aNilS, aMay, tyF_25_0, tyA_22, tyS_22, tyE_22, tyK_22, tyK_3, tyF_25_1, tyA_23, tyS_23, tyE_23, tyK_23] | (with_reducible refine aIf_split (fun _ => ?_) (fun _ => ?_)) | (with_reducible refine aSel_split (fun _ => ?_) (fun _ => ?_)) | (with_reducible refine aGd_split (fun _ => ?_) (fun _ => ?_)) | (with_reducible refine aDraw_quiet (by kernel_rfl) ?_)))
  all_goals (rename_i h; simp at h)
  · exact retV ⟨true, rfl, by simp⟩
  · refine retV ⟨_, rfl, fun hb => ?_⟩
    simp at hb
    omega
set_option maxRecDepth 100000 in
set_option maxHeartbeats 8000000 in
theorem compareR_A (z : Zn) (consts : List Int) (la ln ra rn : Int) (h1 : z.cls.length ≤ 1000000) (h2 : consts.length ≤ 1000) (ho : ∀ x ∈ z.cls, ok64 x.attrs) : ADet Try.prog 12 [.agg (eZn z), sI consts, .agg [eI la, eI ln], .agg [eI ra, eI rn]] (val (.int .i64 (cmpZ z consts la ln ra rn))) := by
  refine adet_of_code mixedT Try.func12 rfl (by decide) Try.ntmps12 Try.results12 rfl (val_ok _) ?_
  unfold cmpZ
  have hp := placeR_A z consts la ln h1 h2 ho
  have hq := placeR_A z consts ra rn h1 h2 ho
  generalize placeM z consts la ln = p at *
  generalize placeM z consts ra rn = q at *
  (repeat' (first | simp (maxSteps := 5000000) (implicitDefEqProofs := false) only [ruA, ruB, aEv, aTake, aLoad, aField, aIndex, aLen, aBin, bin2, aUn, un1, aExtract, aConv, ASt.get, aget, ASt.put, aStore, aBox, aAppend, aBuildSlice, aMake, aBuild, aFill, oneParts, allC, aBinS, yv, aCells, oneC, oneCL, treeC, treeL, aLit, aDst, aSrc, appTab, Value.cells, Value.oneCell', envOf, aResL, aOne, ↓reduceIte, reduceCtorEq, forall_const, Nat.reduceLT, Nat.reduceEqDiff, Nat.reduceAdd, Nat.reduceMul, Nat.reduceSub, Nat.reduceLeDiff, Nat.reduceBEq, eq_self, implies_true, ne_eq, dref, dref1, dref2, aExecS, aStoreB, aTakes, aTakeE, aElder, aFrom, aFresh, isLoad, aBuildSlice1, frzs, frz1, ownIds, AV.frz, AV.frzL, frzEnv, AV.shift, AV.shiftL, aFieldV, aSliceW, aSliceO, aSlice, aSliceR, aSliceS, aBd, aMax, frzAVs, frzAV, frzTab, AObj.frz, aMM, aNilS, aMay, tyA_25, tyS_25, tyA_28, tyS_28, tyK_3] | (with_reducible refine aIf_split (fun _ => ?_) (fun _ => ?_)) | (with_reducible refine aSel_split (fun _ => ?_) (fun _ => ?_)) | (with_reducible refine aGd_split (fun _ => ?_) (fun _ => ?_)) | (with_reducible refine aDraw_quiet (by kernel_rfl) ?_) | ((with_reducible apply callV); exact (hp)) | ((with_reducible apply callD); exact (hp)) | ((with_reducible apply callV); exact (hq)) | ((with_reducible apply callD); exact (hq))))
  all_goals (simp only [cmpI]; simp_all; try omega)
theorem cmpZ_neg (z : Zn) (c : List Int) (la ln ra rn : Int) : cmpZ z c la ln ra rn = -cmpZ z c ra rn la ln := by
  unfold cmpZ
  generalize placeM z c la ln = p
  generalize placeM z c ra rn = q
  unfold cmpI
  split <;> split <;> (try split) <;> (try split) <;> (try split) <;> (try split) <;> omega
theorem cmpZ_bd (z : Zn) (c : List Int) (la ln ra rn : Int) : -1 ≤ cmpZ z c la ln ra rn ∧ cmpZ z c la ln ra rn ≤ 1 := by
  unfold cmpZ
  split
  · omega
  · exact cmpI_bd _ _
set_option maxRecDepth 100000 in
set_option maxHeartbeats 8000000 in
theorem zonePlaces_A (z : Zn) (c : List Int) (la ln ra rn : Int) (ho : ∀ x ∈ z.cls, ok64 x.attrs) : ADet Try.prog 3 [.agg (eZn z), sI c, .agg [eI la, eI ln, eI ra, eI rn]] (val (.bool true)) := by
  refine adet_of_code mixedT Try.func3 rfl (by decide) Try.ntmps3 Try.results3 rfl (val_ok _) ?_
  (repeat' (first | simp (maxSteps := 5000000) (implicitDefEqProofs := false) only [ruA, ruB, aEv, aTake, aLoad, aField, aIndex, aLen, aBin, bin2, aUn, un1, aExtract, aConv, ASt.get, aget, ASt.put, aStore, aBox, aAppend, aBuildSlice, aMake, aBuild, aFill, oneParts, allC, aBinS, yv, aCells, oneC, oneCL, treeC, treeL, aLit, aDst, aSrc, appTab, Value.cells, Value.oneCell', envOf, aResL, aOne, ↓reduceIte, reduceCtorEq, forall_const, Nat.reduceLT, Nat.reduceEqDiff, Nat.reduceAdd, Nat.reduceMul, Nat.reduceSub, Nat.reduceLeDiff, Nat.reduceBEq, eq_self, implies_true, ne_eq, dref, dref1, dref2, aExecS, aStoreB, aTakes, aTakeE, aElder, aFrom, aFresh, isLoad, aBuildSlice1, frzs, frz1, ownIds, AV.frz, AV.frzL, frzEnv, AV.shift, AV.shiftL, aFieldV, aSliceW, aSliceO, aSlice, aSliceR, aSliceS, aBd, aMax, frzAVs, frzAV, frzTab, AObj.frz, aMM, aNilS, aMay, tyA_25, tyS_25, tyE_26, tyK_26, tyK_3, tyE_29, tyY_29, tyA_28, tyS_28, tyZ_28] | (with_reducible refine aIf_split (fun _ => ?_) (fun _ => ?_)) | (with_reducible refine aSel_split (fun _ => ?_) (fun _ => ?_)) | (with_reducible refine aGd_split (fun _ => ?_) (fun _ => ?_))))
  refine callPB (greatZ_A z) fun b hb => ?_
  cases b with
  | true =>
    (repeat' (first | simp (maxSteps := 5000000) (implicitDefEqProofs := false) only [ruA, ruB, aEv, aTake, aLoad, aField, aIndex, aLen, aBin, bin2, aUn, un1, aExtract, aConv, ASt.get, aget, ASt.put, aStore, aBox, aAppend, aBuildSlice, aMake, aBuild, aFill, oneParts, allC, aBinS, yv, aCells, oneC, oneCL, treeC, treeL, aLit, aDst, aSrc, appTab, Value.cells, Value.oneCell', envOf, aResL, aOne, ↓reduceIte, reduceCtorEq, forall_const, Nat.reduceLT, Nat.reduceEqDiff, Nat.reduceAdd, Nat.reduceMul, Nat.reduceSub, Nat.reduceLeDiff, Nat.reduceBEq, eq_self, implies_true, ne_eq, dref, dref1, dref2, aExecS, aStoreB, aTakes, aTakeE, aElder, aFrom, aFresh, isLoad, aBuildSlice1, frzs, frz1, ownIds, AV.frz, AV.frzL, frzEnv, AV.shift, AV.shiftL, aFieldV, aSliceW, aSliceO, aSlice, aSliceR, aSliceS, aBd, aMax, frzAVs, frzAV, frzTab, AObj.frz, aMM, aNilS, aMay, tyA_25, tyS_25, tyE_26, tyK_26, tyK_3, tyE_29, tyY_29, tyA_28, tyS_28, tyZ_28] | (with_reducible refine aIf_split (fun _ => ?_) (fun _ => ?_)) | (with_reducible refine aSel_split (fun _ => ?_) (fun _ => ?_)) | (with_reducible refine aGd_split (fun _ => ?_) (fun _ => ?_)) | (with_reducible refine aDraw_quiet (by kernel_rfl) ?_) | ((with_reducible apply callV (g := 8)); exact (awake22_A)) | ((with_reducible apply callD (g := 8)); exact (awake22_A))))
  | false =>
    obtain ⟨g1, g2⟩ := hb rfl
    by_cases hc : c.length ≤ 31
    · have d1 : decide (31 < (c.length : Int)) = false := by simp only [decide_eq_false_iff_not]; omega
      have d2 : decide (31 < c.length) = false := by simp only [decide_eq_false_iff_not]; omega
      have hp := place_A z c la ln (by omega) (by omega)
      have hpR := placeR_A z c la ln (by omega) (by omega) ho
      have hC := compareZ_A z c la ln ra rn (by omega) (by omega)
      have hC2 := compareZ_A z c ra rn la ln (by omega) (by omega)
      have hR := compareR_A z c la ln ra rn (by omega) (by omega) ho
      have hbd := cmpZ_bd z c ra rn la ln
      have en : IntKind.i64.wrap (0 - cmpZ z c ra rn la ln) = -cmpZ z c ra rn la ln := by rw [wrap_in (by omega) (by omega)]; omega
      have x0 : Int.toNat 0 * 2 = 0 := rfl
      have x1 : Int.toNat 1 * 2 = 2 := rfl
      have x2 : (0 : Int) < ((2 : Nat) : Int) := by decide
      have x3 : (1 : Int) < ((2 : Nat) : Int) := by decide
      have x4 : (0 : Int) ≤ 1 := by decide
      have ee := cmpZ_neg z c la ln ra rn
      rw [ee] at hC hR
      generalize cmpZ z c ra rn la ln = k at *
      generalize placeM z c la ln = p at *
      have q1 : (p == p) = true := by simp
      have q2 : (-k == -k) = true := by simp
      (repeat' (first | simp (maxSteps := 5000000) (implicitDefEqProofs := false) only [ruA, ruB, aEv, aTake, aLoad, aField, aIndex, aLen, aBin, bin2, aUn, un1, aExtract, aConv, ASt.get, aget, ASt.put, aStore, aBox, aAppend, aBuildSlice, aMake, aBuild, aFill, oneParts, allC, aBinS, yv, aCells, oneC, oneCL, treeC, treeL, aLit, aDst, aSrc, appTab, Value.cells, Value.oneCell', envOf, aResL, aOne, ↓reduceIte, reduceCtorEq, forall_const, Nat.reduceLT, Nat.reduceEqDiff, Nat.reduceAdd, Nat.reduceMul, Nat.reduceSub, Nat.reduceLeDiff, Nat.reduceBEq, eq_self, implies_true, ne_eq, dref, dref1, dref2, aExecS, aStoreB, aTakes, aTakeE, aElder, aFrom, aFresh, isLoad, aBuildSlice1, frzs, frz1, ownIds, AV.frz, AV.frzL, frzEnv, AV.shift, AV.shiftL, aFieldV, aSliceW, aSliceO, aSlice, aSliceR, aSliceS, aBd, aMax, frzAVs, frzAV, frzTab, AObj.frz, aMM, aNilS, aMay, tyA_25, tyS_25, tyE_26, tyK_26, tyK_3, tyE_29, tyY_29, tyA_28, tyS_28, tyZ_28, d1, d2] | (with_reducible refine aIf_split (fun _ => ?_) (fun _ => ?_)) | (with_reducible refine aSel_split (fun _ => ?_) (fun _ => ?_)) | (with_reducible refine aGd_split (fun _ => ?_) (fun _ => ?_))))
      refine aDraw_join (fun st' => st' = ⟨60, [(1, sI c), (3, .op 0 0 0), (7, .op 2 0 0), (8, .op 3 0 0)], [(0, some (.box 25 (eZn z))), (2, some (.box 28 [eI la, eI ln])), (3, some (.box 28 [eI ra, eI rn]))], 4⟩) [] [0, 1, 2, 3] (.two 4 (.exec 5 (.exec 6 (.exec 7 .done))) 5 (.exec 4 (.exec 6 (.exec 7 .done)))) (by kernel_rfl) (by simp [ATab.get_cons]) ?_ ?_
      · (repeat' (first | simp (maxSteps := 5000000) (implicitDefEqProofs := false) only [ruA, ruB, aEv, aTake, aLoad, aField, aIndex, aLen, aBin, bin2, aUn, un1, aExtract, aConv, ASt.get, aget, ASt.put, aStore, aBox, aAppend, aBuildSlice, aMake, aBuild, aFill, oneParts, allC, aBinS, yv, aCells, oneC, oneCL, treeC, treeL, aLit, aDst, aSrc, appTab, Value.cells, Value.oneCell', envOf, aResL, aOne, ↓reduceIte, reduceCtorEq, forall_const, Nat.reduceLT, Nat.reduceEqDiff, Nat.reduceAdd, Nat.reduceMul, Nat.reduceSub, Nat.reduceLeDiff, Nat.reduceBEq, eq_self, implies_true, ne_eq, dref, dref1, dref2, aExecS, aStoreB, aTakes, aTakeE, aElder, aFrom, aFresh, isLoad, aBuildSlice1, frzs, frz1, ownIds, AV.frz, AV.frzL, frzEnv, AV.shift, AV.shiftL, aFieldV, aSliceW, aSliceO, aSlice, aSliceR, aSliceS, aBd, aMax, frzAVs, frzAV, frzTab, AObj.frz, aMM, aNilS, aMay, tyA_25, tyS_25, tyE_26, tyK_26, tyK_3, tyE_29, tyY_29, tyA_28, tyS_28, tyZ_28, x0, x1, x2, x3, x4] | (with_reducible refine aIf_split (fun _ => ?_) (fun _ => ?_)) | (with_reducible refine aSel_split (fun _ => ?_) (fun _ => ?_)) | (with_reducible refine aGd_split (fun _ => ?_) (fun _ => ?_)) | (with_reducible refine aDraw_quiet (by kernel_rfl) ?_) | (with_reducible apply And.intro)))
        all_goals first
          | exact aTo_mk (weak_ren1 [0, 1, 2, 3] ⟨(by decide), (by (first | ((simp only [envInR, tabInR, envLt, tabLt, AObj.lt, AV.lt, AV.ltL, AV.ren, AV.renL, AObj.ren, List.getD_cons_zero, List.getD_cons_succ, List.length_cons, List.length_nil, ruW, ASt.get, aget, ASt.put, ↓reduceIte, reduceCtorEq, Nat.reduceLT, Nat.reduceEqDiff, Nat.reduceAdd, Nat.reduceLeDiff, eq_self, implies_true]) <;> (repeat' apply And.intro) <;> first | (rw [wrapK (by omega)]; done) | (simp; done) | omega) | fail))⟩) rfl
          | exact aTo_mk (weak_ren1 [0, 1, 3, 2] ⟨(by decide), (by (first | ((simp only [envInR, tabInR, envLt, tabLt, AObj.lt, AV.lt, AV.ltL, AV.ren, AV.renL, AObj.ren, List.getD_cons_zero, List.getD_cons_succ, List.length_cons, List.length_nil, ruW, ASt.get, aget, ASt.put, ↓reduceIte, reduceCtorEq, Nat.reduceLT, Nat.reduceEqDiff, Nat.reduceAdd, Nat.reduceLeDiff, eq_self, implies_true]) <;> (repeat' apply And.intro) <;> first | (rw [wrapK (by omega)]; done) | (simp; done) | omega) | fail))⟩) rfl
          | trace_state
      · rintro _ rfl
        (repeat' (first | simp (maxSteps := 5000000) (implicitDefEqProofs := false) only [ruA, ruB, aEv, aTake, aLoad, aField, aIndex, aLen, aBin, bin2, aUn, un1, aExtract, aConv, ASt.get, aget, ASt.put, aStore, aBox, aAppend, aBuildSlice, aMake, aBuild, aFill, oneParts, allC, aBinS, yv, aCells, oneC, oneCL, treeC, treeL, aLit, aDst, aSrc, appTab, Value.cells, Value.oneCell', envOf, aResL, aOne, ↓reduceIte, reduceCtorEq, forall_const, Nat.reduceLT, Nat.reduceEqDiff, Nat.reduceAdd, Nat.reduceMul, Nat.reduceSub, Nat.reduceLeDiff, Nat.reduceBEq, eq_self, implies_true, ne_eq, dref, dref1, dref2, aExecS, aStoreB, aTakes, aTakeE, aElder, aFrom, aFresh, isLoad, aBuildSlice1, frzs, frz1, ownIds, AV.frz, AV.frzL, frzEnv, AV.shift, AV.shiftL, aFieldV, aSliceW, aSliceO, aSlice, aSliceR, aSliceS, aBd, aMax, frzAVs, frzAV, frzTab, AObj.frz, aMM, aNilS, aMay, tyA_25, tyS_25, tyE_26, tyK_26, tyK_3, tyE_29, tyY_29, tyA_28, tyS_28, tyZ_28, q1, q2, en] | (with_reducible refine aIf_split (fun _ => ?_) (fun _ => ?_)) | (with_reducible refine aSel_split (fun _ => ?_) (fun _ => ?_)) | (with_reducible refine aGd_split (fun _ => ?_) (fun _ => ?_)) | (with_reducible refine aDraw_quiet (by kernel_rfl) ?_) | ((with_reducible apply callV); exact (hp)) | ((with_reducible apply callD); exact (hp)) | ((with_reducible apply callV); exact (hpR)) | ((with_reducible apply callD); exact (hpR)) | ((with_reducible apply callV); exact (hC)) | ((with_reducible apply callD); exact (hC)) | ((with_reducible apply callV); exact (hC2)) | ((with_reducible apply callD); exact (hC2)) | ((with_reducible apply callV); exact (hR)) | ((with_reducible apply callD); exact (hR)) | ((with_reducible apply callV (g := 8)); exact (awake22_A)) | ((with_reducible apply callD (g := 8)); exact (awake22_A))))
    · have d1 : decide (31 < (c.length : Int)) = true := by simp only [decide_eq_true_eq]; omega
      have d2 : decide (31 < c.length) = true := by simp only [decide_eq_true_eq]; omega
      (repeat' (first | simp (maxSteps := 5000000) (implicitDefEqProofs := false) only [ruA, ruB, aEv, aTake, aLoad, aField, aIndex, aLen, aBin, bin2, aUn, un1, aExtract, aConv, ASt.get, aget, ASt.put, aStore, aBox, aAppend, aBuildSlice, aMake, aBuild, aFill, oneParts, allC, aBinS, yv, aCells, oneC, oneCL, treeC, treeL, aLit, aDst, aSrc, appTab, Value.cells, Value.oneCell', envOf, aResL, aOne, ↓reduceIte, reduceCtorEq, forall_const, Nat.reduceLT, Nat.reduceEqDiff, Nat.reduceAdd, Nat.reduceMul, Nat.reduceSub, Nat.reduceLeDiff, Nat.reduceBEq, eq_self, implies_true, ne_eq, dref, dref1, dref2, aExecS, aStoreB, aTakes, aTakeE, aElder, aFrom, aFresh, isLoad, aBuildSlice1, frzs, frz1, ownIds, AV.frz, AV.frzL, frzEnv, AV.shift, AV.shiftL, aFieldV, aSliceW, aSliceO, aSlice, aSliceR, aSliceS, aBd, aMax, frzAVs, frzAV, frzTab, AObj.frz, aMM, aNilS, aMay, tyA_25, tyS_25, tyE_26, tyK_26, tyK_3, tyE_29, tyY_29, tyA_28, tyS_28, tyZ_28, d1, d2] | (with_reducible refine aIf_split (fun _ => ?_) (fun _ => ?_)) | (with_reducible refine aSel_split (fun _ => ?_) (fun _ => ?_)) | (with_reducible refine aGd_split (fun _ => ?_) (fun _ => ?_)) | (with_reducible refine aDraw_quiet (by kernel_rfl) ?_) | ((with_reducible apply callV (g := 8)); exact (awake22_A)) | ((with_reducible apply callD (g := 8)); exact (awake22_A))))
end
section
open Go.RowKit

theorem opensInt : Opens Try.prog 3 (intR .i64) := opens_int Try.underlying3
theorem opensI64 : Opens Try.prog 2 (intR .i64) := opens_int Try.underlying2
theorem opensI64s : Opens Try.prog 26 (sliceR (intR .i64)) := opens_slice Try.underlying26 (by kernel_rfl) (by decide) opensI64
theorem opensIntsE : Opens Try.prog 23 (sliceR (intR .i64)) := opens_slice Try.underlying23 (by kernel_rfl) (by decide) opensInt
end
section
open Go.RowKit
def Into {α : Type} (r : Rep α) (f : α → List AV) : Prop := ∀ (w : World) (S : Nat → Prop) (cs : List Value) (x : α), r.at_ w S cs x → (f x).length = r.size ∧ ∀ (j : Nat) (u : Value) (av : AV), cs[j]? = some u → (f x)[j]? = some av → RT w S u av ∧ u.oneCell' = true
theorem Into.slice {α : Type} {r : Rep α} {f : α → List AV} (h : Into r f) {w : World} {S : Nat → Prop} {v : Value} {l : List α} (hv : (sliceR r).one w S v l) : RT w S v (.sl r.size (l.map f)) := by
  obtain ⟨A, c, rfl, h1, h2⟩ := slice_form hv
  by_cases h0 : 0 < l.length
  · obtain ⟨b, o, rfl, hb, hrow⟩ := slice_some hv h0
    classical
    let cs : Nat → List Value := fun i => if hi : i < l.length then (hrow i hi).choose else []
    have hcs : ∀ i (hi : i < l.length), (∀ (j : Nat) (u : Value), (cs i)[j]? = some u → w.cell? ⟨b, o + i * r.size + j, none⟩ = some u) ∧ r.at_ w S (cs i) l[i] := fun i hi => by
      have := (hrow i hi).choose_spec
      simpa [cs, hi] using this
    have key : ∀ (i j : Nat) (row : List AV) (av : AV), (l.map f)[i]? = some row → row[j]? = some av → ∃ hi : i < l.length, (cs i)[j]? = some ((cs i).getD j undef) ∧ RT w S ((cs i).getD j undef) av ∧ ((cs i).getD j undef).oneCell' = true := fun i j row av h3 h4 => by
      have hi : i < l.length := by
        have := (List.getElem?_eq_some_iff.1 h3).1
        simpa using this
      have hf : row = f l[i] := by
        rw [List.getElem?_map, List.getElem?_eq_getElem hi] at h3
        exact (Option.some.inj h3).symm
      subst hf
      obtain ⟨h5, h6⟩ := h w S (cs i) l[i] (hcs i hi).2
      have hj : j < (cs i).length := by
        rw [r.len (hcs i hi).2, ← h5]
        exact (List.getElem?_eq_some_iff.1 h4).1
      have e : (cs i)[j]? = some ((cs i).getD j undef) := by
        rw [List.getD_eq_getElem?_getD, List.getElem?_eq_getElem hj]
        rfl
      exact ⟨hi, e, h6 j _ av e h4⟩
    refine .sl _ _ c r.size _ b o (fun i j => (cs i).getD j undef) (by simp) h1 h2 (fun _ => ⟨rfl, hb⟩) (fun row hr => ?_) (fun _ i j row av h3 h4 => ?_) (fun i j row av h3 h4 => (key i j row av h3 h4).elim fun _ h => h.2.2) (fun i j row av h3 h4 => (key i j row av h3 h4).elim fun _ h => h.2.1)
    · obtain ⟨i, hi, rfl⟩ := List.getElem_of_mem hr
      have hi : i < l.length := by simpa using hi
      simp only [List.getElem_map]
      exact (h w S (cs i) l[i] (hcs i hi).2).1
    · obtain ⟨hi, h5, _⟩ := key i j row av h3 h4
      exact (hcs i hi).1 j _ h5
  · have : l = [] := List.length_eq_zero_iff.1 (by omega)
    subst this
    exact .sl A 0 c r.size [] 0 0 (fun _ _ => undef) rfl h1 h2 (fun h => by omega) (by simp) (fun h => by omega) (by simp) (by simp)
theorem into_cells {α : Type} {r : Rep α} {f : α → List AV} (g : α → List Value) (hg : ∀ w S cs x, r.at_ w S cs x → cs = g x) (hs : ∀ x, (g x).length = r.size) (ho : ∀ x u, u ∈ g x → u.oneCell' = true) (hf : ∀ x, f x = (g x).map .c) : Into r f := fun w S cs x h => by
  obtain rfl := hg w S cs x h
  rw [hf]
  refine ⟨by simp [hs], fun j u av h1 h2 => ?_⟩
  rw [List.getElem?_map, h1] at h2
  cases h2
  exact ⟨.c u, ho x u (List.mem_of_getElem? h1)⟩
theorem into_int : Into (intR .i64) (fun n => [eI n]) := into_cells (fun n => [.int .i64 n]) (fun w S cs x h => h.1) (fun x => rfl) (fun x u h => by simp at h; subst h; rfl) (fun x => rfl)
theorem slice_one {α : Type} {r : Rep α} {w : World} {S : Nat → Prop} {v : Value} {l : List α} (h : (sliceR r).one w S v l) : v.oneCell' = true := by
  obtain ⟨A, c, rfl, _⟩ := slice_form h
  rfl
/-- every thing of a slice is one that may be -/
theorem slice_all {α : Type} {r : Rep α} {w : World} {S : Nat → Prop} {v : Value} {l : List α} {Q : α → Prop} (h : (sliceR r).one w S v l) (hq : ∀ cs x, r.at_ w S cs x → Q x) : ∀ x ∈ l, Q x := fun x hx => by
  obtain ⟨i, hi, rfl⟩ := List.getElem_of_mem hx
  obtain ⟨A, c, rfl, _⟩ := slice_form h
  obtain ⟨b, o, rfl, _, hrow⟩ := slice_some h (by omega)
  obtain ⟨cs, _, h2⟩ := hrow i hi
  exact hq cs _ h2
end
section
open Go.ChangeShapes Go.WideShapes Go.ChangeAt Go.RowKit
def clsR : Rep Cls where
  size := 2
  at_ := fun w S cs g => cs = [.int .i64 g.attrs, .int .i64 g.const] ∧ ok64 g.attrs ∧ ok64 g.const
  len := fun h => by rw [h.1]; rfl
  keep := fun h _ => h
  mono := fun h _ => h
theorem opensCls : Opens Try.prog 50 clsR := opens_map (r := pairR (intR .i64) (pairR (intR .i64) nilR)) (opens_struct Try.underlying50 (by kernel_rfl) (opensF_cons (by kernel_rfl) (by kernel_rfl) opensInt (opensF_cons (by kernel_rfl) (by kernel_rfl) opensInt (opensF_nil _ _)))) (fun p => ⟨p.1, p.2.1⟩) (by
  rintro w S cs ⟨s, n, _⟩ h
  obtain ⟨c0, q0, e0, ⟨a0, h0⟩, h⟩ := pair_inv h
  obtain ⟨c1, q1, e1, ⟨a1, h1⟩, h⟩ := pair_inv h
  have h : q1 = [] := h
  exact ⟨by rw [e0, e1, a0, a1, h]; rfl, wf_i64 h0, wf_i64 h1⟩)
theorem into_cls : Into clsR eCls := into_cells (fun p => [.int .i64 p.attrs, .int .i64 p.const]) (fun w S cs x h => h.1) (fun x => rfl) (fun x u h => by simp at h; rcases h with rfl | rfl <;> rfl) (fun x => rfl)
def znR : Rep Zn where
  size := 2
  at_ := fun w S cs g => ∃ v1 v2, cs = [v1, v2] ∧ (sliceR clsR).one w S v1 g.cls ∧ (sliceR (intR .i64)).one w S v2 g.gaps
  len := fun ⟨_, _, h, _⟩ => by rw [h]; rfl
  keep := fun ⟨v1, v2, h, h1, h2⟩ hk => ⟨v1, v2, h, slice_keep h1 hk, slice_keep h2 hk⟩
  mono := fun ⟨v1, v2, h, h1, h2⟩ hB => ⟨v1, v2, h, slice_mono h1 hB, slice_mono h2 hB⟩
theorem opensZone : Opens Try.prog 25 znR := opens_map (r := pairR (sliceR clsR) (pairR (sliceR (intR .i64)) nilR)) (opens_struct Try.underlying25 (by kernel_rfl) (opensF_cons (by kernel_rfl) (by kernel_rfl) (opens_slice Try.underlying22 (by kernel_rfl) (by decide) opensCls) (opensF_cons (by kernel_rfl) (by kernel_rfl) opensIntsE (opensF_nil _ _)))) (fun p => ⟨p.1, p.2.1⟩) (by
  rintro w S cs ⟨cl, gp, _⟩ h
  obtain ⟨z0, p0, f0, g0, h⟩ := pair_inv h
  obtain ⟨z1, p1, f1, g1, h⟩ := pair_inv h
  have h : p1 = [] := h
  obtain ⟨v1, rfl, g0⟩ := one_inv (r := sliceR clsR) rfl g0
  obtain ⟨v2, rfl, g1⟩ := one_inv (r := sliceR (intR .i64)) rfl g1
  exact ⟨v1, v2, by rw [f0, f1, h]; rfl, g0, g1⟩)
theorem into_zn : Into znR eZn := fun w S cs x ⟨v1, v2, h1, h2, h3⟩ => by
  subst h1
  refine ⟨rfl, fun j u av h6 h7 => ?_⟩
  match j with
  | 0 => simp at h6 h7; subst h6; subst h7; exact ⟨into_cls.slice h2, slice_one h2⟩
  | 1 => simp at h6 h7; subst h6; subst h7; exact ⟨into_int.slice h3, slice_one h3⟩
  | j + 2 => simp at h6
theorem rt_at {α : Type} {r : Rep α} {f : α → List AV} (h : Into r f) {w : World} {S : Nat → Prop} {cs : Array Value} {x : α} (hx : r.at_ w S cs.toList x) : RT w S (.agg cs) (.agg (f x)) := by
  obtain ⟨h1, h2⟩ := h w S cs.toList x hx
  exact .agg cs (f x) (by have := r.len hx; simp at this; omega) fun j u av h3 h4 => (h2 j u av (by simpa using h3) h4).1
theorem zn_attrs {w : World} {S : Nat → Prop} {cs : List Value} {z : Zn} (h : znR.at_ w S cs z) : ∀ x ∈ z.cls, ok64 x.attrs ∧ ok64 x.const :=
  h.elim fun v1 ⟨v2, _, h1, _⟩ => slice_all h1 fun cs y h8 => ⟨h8.2.1, h8.2.2⟩
theorem opens_arr2 {α : Type} {P : Program} {t e : TypeId} {r : Rep α} (ht : P.underlying t = some (.array 2 e)) (hs : P.cellsOf e = r.size) (hc : P.cellsOf t = r.size + r.size) (ho : Opens P e r) : Opens P t (pairR r r) := by
  intro H enc w fuel cs x hx
  obtain ⟨xs, m, rfl, _, hl, hn, hi⟩ := DataW.trod_array ht hx
  have h0 := hi 0 (by omega)
  have h1 := hi 1 (by omega)
  rw [List.getElem?_eq_getElem (by omega)] at h0 h1
  obtain ⟨a, ha⟩ := ho H enc w m _ _ h0
  obtain ⟨b, hb⟩ := ho H enc w m _ _ h1
  refine ⟨(a, b), _, _, ?_, ha, hb⟩
  rw [hs, Nat.zero_mul, Nat.one_mul, List.drop_zero]
  rw [List.take_of_length_le (l := cs.drop r.size) (by rw [List.length_drop]; omega), List.take_append_drop]
theorem okWide_arr {P : Program} {W : World} {r : Reach} {b n : Nat} {t e : TypeId} {v : Value} (ht : P.underlying t = some (.array n e)) (h : Value.okWide P W r b t v) : ∃ cs, v = .agg cs := by
  simp only [Value.okWide, ht] at h
  obtain ⟨cs, h1, _⟩ := h
  exact ⟨cs, h1⟩
def valZ : Rep (Int × Int) where
  size := 2
  at_ := fun w S cs g => cs = [.int .i64 g.1, .int .i64 g.2] ∧ ok64 g.1 ∧ ok64 g.2
  len := fun h => by rw [h.1]; rfl
  keep := fun h _ => h
  mono := fun h _ => h
theorem opensValZ : Opens Try.prog 28 valZ := opens_map (r := pairR (intR .i64) (pairR (intR .i64) nilR)) (opens_struct Try.underlying28 (by kernel_rfl) (opensF_cons (by kernel_rfl) (by kernel_rfl) opensInt (opensF_cons (by kernel_rfl) (by kernel_rfl) opensI64 (opensF_nil _ _)))) (fun p => ⟨p.1, p.2.1⟩) (by
  rintro w S cs ⟨s, n, _⟩ h
  obtain ⟨c0, q0, e0, ⟨a0, h0⟩, h⟩ := pair_inv h
  obtain ⟨c1, q1, e1, ⟨a1, h1⟩, h⟩ := pair_inv h
  have h : q1 = [] := h
  exact ⟨by rw [e0, e1, a0, a1, h]; rfl, wf_i64 h0, wf_i64 h1⟩)
theorem opensVals2 : Opens Try.prog 29 (pairR valZ valZ) := opens_arr2 Try.underlying29 (by kernel_rfl) (by kernel_rfl) opensValZ
theorem rt_cells {w : World} {S : Nat → Prop} (vs : List Value) : RT w S (.agg vs.toArray) (.agg (vs.map .c)) := .agg _ _ (by simp) fun j u av h1 h2 => by
  rw [List.getElem?_map] at h2
  have h1' : vs[j]? = some u := by simpa using h1
  rw [h1'] at h2
  cases h2
  exact .c u
theorem vals2_inv {w : World} {S : Nat → Prop} {cs : Array Value} {p : (Int × Int) × Int × Int} (h : (pairR valZ valZ).at_ w S cs.toList p) : cs = [Value.int .i64 p.1.1, .int .i64 p.1.2, .int .i64 p.2.1, .int .i64 p.2.2].toArray := by
  obtain ⟨c0, c1, e, h0, h1⟩ := pair_inv h
  exact Array.ext' (by rw [e, h0.1, h1.1]; rfl)
end
end Go.Proofs.Ytmcegfoaceilgaa
