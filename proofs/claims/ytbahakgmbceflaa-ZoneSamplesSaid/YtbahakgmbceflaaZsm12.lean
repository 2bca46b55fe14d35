/-
  Parts of the proof: ZK, EvOpen, CO, ZO.
-/
import Derived.Test.YtbahakgmbceflaaZsm11
import Derived.Test.YtbahakgmbceflaaProg
set_option linter.unusedVariables false
set_option linter.unusedSimpArgs false
namespace Go.Proofs.Ytbahakgmbceflaa
section
open Go.RowKit
/-- what zone.Sample gives back, whatever the number of attributes -/
def SampleQ (z : Zn) (n : Int) (c : List Int) (r : Int) (R : Res) : Prop :=
  (¬ CheckP z n c r ∧ R = ⟨.tup [.c (.slice none 0 0), eB false], [], 0⟩) ∨ (CheckP z n c r ∧ ∃ v : List Int, R = ⟨.tup [.osl 0, eB true], [(0, some (.row 2 1 (v.map fun n => [eI n])))], 1⟩ ∧ (v.length : Int) = n ∧ zoneM v c r = z ∧ ∀ x ∈ v, ok64 x)
set_option maxRecDepth 100000 in
set_option maxHeartbeats 8000000 in
theorem sampleNo_A (z : Zn) (n : Int) (c : List Int) (r : Int) (h1 : z.cls.length ≤ 40) (h2 : z.gaps.length ≤ 40) (h3 : c.length ≤ 1000000) (hc : ∀ x ∈ c, ok64 x) (hno : ¬ CheckP z n c r) : ADet Try.prog 6 [.agg (eZn z), eI n, sI c, eI r] ⟨.tup [.c (.slice none 0 0), eB false], [], 0⟩ := by
  obtain ⟨t, ht, hCk⟩ := adet_iff (zoneCheck_A z n c r (by omega) (by omega) h3 hc)
  cases t with
  | true => exact (hno (ht.1 rfl)).elim
  | false =>
    have hok : (⟨.tup [.c (.slice none 0 0), eB false], [], 0⟩ : Res).Ok := ⟨fun id o h => (by cases h), ⟨trivial, trivial, trivial⟩⟩
    refine adet_of_code mixedT Try.func6 rfl (by decide) Try.ntmps6 Try.results6 rfl (hok) ?_
    (repeat' (first | simp (maxSteps := 5000000) (implicitDefEqProofs := false) only [ruA, ruB, aEv, aTake, aLoad, aField, aIndex, aLen, aBin, bin2, aUn, un1, aExtract, aConv, ASt.get, aget, ASt.put, aStore, aBox, aAppend, aBuildSlice, aMake, aBuild, aFill, oneParts, allC, aBinS, yv, aCells, oneC, oneCL, treeC, treeL, aLit, aDst, aSrc, appTab, Value.cells, Value.oneCell', envOf, aResL, aOne, ↓reduceIte, reduceCtorEq, forall_const, Nat.reduceLT, Nat.reduceEqDiff, Nat.reduceAdd, Nat.reduceMul, Nat.reduceSub, Nat.reduceLeDiff, Nat.reduceBEq, eq_self, implies_true, ne_eq, dref, dref1, dref2, aExecS, aStoreB, aTakes, aTakeE, aElder, aFrom, aFresh, isLoad, aBuildSlice1, frzs, frz1, ownIds, AV.frz, AV.frzL, frzEnv, AV.shift, AV.shiftL, aFieldV, aSliceW, aSliceO, aSlice, aSliceR, aSliceS, aBd, aMax, frzAVs, frzAV, frzTab, AObj.frz, aMM, aNilS, aMay, aNil, tyA_25, tyS_25, tyF_25_0, tyA_22, tyS_22, tyE_22, tyK_22, tyR_26, tyZ_2, tyB_41, tyE_23, tyK_23, tyK_3, tyA_3, tyS_3, tyF_41_2, tyA_26, tyS_26, tyE_26, tyA_2, tyS_2, tyF_41_3, tyA_4, tyS_4, tyA_37, tyS_37, tyZ_37, tyF_37_0] | (with_reducible refine aIf_split (fun _ => ?_) (fun _ => ?_)) | (with_reducible refine aSel_split (fun _ => ?_) (fun _ => ?_)) | (with_reducible refine aGd_split (fun _ => ?_) (fun _ => ?_)) | (with_reducible refine aDraw_quiet (by kernel_rfl) ?_) | ((with_reducible apply callV); exact (hCk)) | ((with_reducible apply callD); exact (hCk))))
    all_goals exact ⟨[], by simp, rfl, trivial⟩
theorem sampleQ_A (z : Zn) (n : Int) (c : List Int) (r : Int) (h1 : z.cls.length ≤ 40) (h2 : z.gaps.length ≤ 40) (h3 : c.length ≤ 1000000) (hc : ∀ x ∈ c, -1099511627776 ≤ x ∧ x ≤ 1099511627776) (hr : capV r ≤ 1048576) (hat : ∀ x ∈ z.cls, x.attrs < 9223372036854775808) :
    ARel Try.prog 6 [.agg (eZn z), eI n, sI c, eI r] (SampleQ z n c r) := by
  by_cases h : CheckP z n c r
  · have hn : 0 ≤ n ∧ n ≤ 31 := h.1.1
    obtain ⟨m, rfl⟩ : ∃ m : Nat, n = (m : Int) := ⟨n.toNat, by omega⟩
    refine (sample_A z m c r h1 h2 h3 (by omega) hc hr hat).mono fun R hR => ?_
    rcases hR with hR | ⟨h4, v, h5, h6, h7, h8⟩
    · exact .inl hR
    · exact .inr ⟨h4, v, h5, by omega, h7, h8⟩
  · exact (sampleNo_A z n c r h1 h2 h3 (fun x hx => by have := hc x hx; unfold ok64; omega) h).mono fun R hR => .inl ⟨h, hR⟩
theorem capV_10 {r : Int} (hr : r ≤ 10) : capV r ≤ 1048576 := by
  unfold capV
  have h1 : (2 : Nat) ^ (min r.toNat 20) ≤ 2 ^ 20 := Nat.pow_le_pow_right (by omega) (by omega)
  have h2 : ((2 ^ (min r.toNat 20) : Nat) : Int) = (2 : Int) ^ (min r.toNat 20) := by simp
  omega
set_option maxRecDepth 100000 in
set_option maxHeartbeats 16000000 in
theorem zoneSamples_A (z : Zn) (c : List Int) (n r : Int) (hc : ∀ x ∈ c, ok64 x) (hat : ∀ x ∈ z.cls, ok64 x.attrs) : ADet Try.prog 3 [.agg (eZn z), sI c, .agg [eI n, eI r]] (val (.bool true)) := by
  refine adet_of_sc Try.func3 rfl (by decide) Try.ntmps3 Try.results3 rfl (val_ok _) ?_
  have x0 : Int.toNat 0 * 1 = 0 := rfl
  have x1 : Int.toNat 1 * 1 = 1 := rfl
  have x2 : (0 : Int) < ((2 : Nat) : Int) := by decide
  have x3 : (1 : Int) < ((2 : Nat) : Int) := by decide
  have x4 : (0 : Int) ≤ 1 := by decide
  refine sc_cut (fun st => st = ⟨85, [(1, sI c), (3, .op 0 0 0), (5, .op 1 0 0)], [(0, some (.box 25 (eZn z))), (1, some (.box 27 [eI n, eI r]))], 2⟩) (sc_of mixedT ?_) ?_
  · (repeat' (first | simp (maxSteps := 5000000) (implicitDefEqProofs := false) only [ruA, ruB, aEv, aTake, aLoad, aField, aIndex, aLen, aBin, bin2, aUn, un1, aExtract, aConv, ASt.get, aget, ASt.put, aStore, aBox, aAppend, aBuildSlice, aMake, aBuild, aFill, oneParts, allC, aBinS, yv, aCells, oneC, oneCL, treeC, treeL, aLit, aDst, aSrc, appTab, Value.cells, Value.oneCell', envOf, aResL, aOne, ↓reduceIte, reduceCtorEq, forall_const, Nat.reduceLT, Nat.reduceEqDiff, Nat.reduceAdd, Nat.reduceMul, Nat.reduceSub, Nat.reduceLeDiff, Nat.reduceBEq, eq_self, implies_true, ne_eq, dref, dref1, dref2, aExecS, aStoreB, aTakes, aTakeE, aElder, aFrom, aFresh, isLoad, aBuildSlice1, frzs, frz1, ownIds, AV.frz, AV.frzL, frzEnv, AV.shift, AV.shiftL, aFieldV, aSliceW, aSliceO, aSlice, aSliceR, aSliceS, aBd, aMax, frzAVs, frzAV, frzTab, AObj.frz, aMM, aNilS, aMay, aNil, tyE_27, tyY_27, tyA_3, tyS_3, tyA_25, tyS_25, tyE_26, tyK_26, tyK_3, tyA_2, tyS_2, tyK_2, tyK_4] | (with_reducible refine aIf_split (fun _ => ?_) (fun _ => ?_)) | (with_reducible refine aSel_split (fun _ => ?_) (fun _ => ?_)) | (with_reducible refine aGd_split (fun _ => ?_) (fun _ => ?_)) | (with_reducible refine aDraw_quiet (by kernel_rfl) ?_)))
    all_goals exact aTo_mk (weak_cut1 (by (first | ((simp only [envIn, tabIn, envLt, tabLt, AObj.lt, AV.lt, AV.ltL, ruW, ASt.get, aget, ASt.put, ↓reduceIte, reduceCtorEq, Nat.reduceLT, Nat.reduceEqDiff, Nat.reduceAdd, Nat.reduceLeDiff, eq_self, implies_true]) <;> (repeat' apply And.intro) <;> first | (rw [wrapK (by omega)]; done) | (simp; done) | omega) | fail))) rfl
  rintro _ rfl
  refine sc_cut (fun st => st = ⟨85, [(1, sI c), (3, .op 0 0 0), (7, eI n), (8, eI r)], [(0, some (.box 25 (eZn z)))], 1⟩) (sc_of mixedT ?_) ?_
  · (repeat' (first | simp (maxSteps := 5000000) (implicitDefEqProofs := false) only [ruA, ruB, aEv, aTake, aLoad, aField, aIndex, aLen, aBin, bin2, aUn, un1, aExtract, aConv, ASt.get, aget, ASt.put, aStore, aBox, aAppend, aBuildSlice, aMake, aBuild, aFill, oneParts, allC, aBinS, yv, aCells, oneC, oneCL, treeC, treeL, aLit, aDst, aSrc, appTab, Value.cells, Value.oneCell', envOf, aResL, aOne, ↓reduceIte, reduceCtorEq, forall_const, Nat.reduceLT, Nat.reduceEqDiff, Nat.reduceAdd, Nat.reduceMul, Nat.reduceSub, Nat.reduceLeDiff, Nat.reduceBEq, eq_self, implies_true, ne_eq, dref, dref1, dref2, aExecS, aStoreB, aTakes, aTakeE, aElder, aFrom, aFresh, isLoad, aBuildSlice1, frzs, frz1, ownIds, AV.frz, AV.frzL, frzEnv, AV.shift, AV.shiftL, aFieldV, aSliceW, aSliceO, aSlice, aSliceR, aSliceS, aBd, aMax, frzAVs, frzAV, frzTab, AObj.frz, aMM, aNilS, aMay, aNil, tyE_27, tyY_27, tyA_3, tyS_3, tyA_25, tyS_25, tyE_26, tyK_26, tyK_3, tyA_2, tyS_2, tyK_2, tyK_4, x0, x1, x2, x3, x4] | (with_reducible refine aIf_split (fun _ => ?_) (fun _ => ?_)) | (with_reducible refine aSel_split (fun _ => ?_) (fun _ => ?_)) | (with_reducible refine aGd_split (fun _ => ?_) (fun _ => ?_)) | (with_reducible refine aDraw_quiet (by kernel_rfl) ?_) | (with_reducible apply And.intro)))
    all_goals first
      | exact aTo_mk (weak_ren1 [0] ⟨(by decide), (by (first | ((simp only [envInR, tabInR, envLt, tabLt, AObj.lt, AV.lt, AV.ltL, AV.ren, AV.renL, AObj.ren, List.getD_cons_zero, List.getD_cons_succ, List.length_cons, List.length_nil, ruW, ASt.get, aget, ASt.put, ↓reduceIte, reduceCtorEq, Nat.reduceLT, Nat.reduceEqDiff, Nat.reduceAdd, Nat.reduceLeDiff, eq_self, implies_true]) <;> (repeat' apply And.intro) <;> first | (rw [wrapK (by omega)]; done) | (simp; done) | omega) | fail))⟩) rfl
      | trace_state
  rintro _ rfl
  refine sc_cut (fun st => (c.length ≤ 31 ∧ r ≤ 10 ∧ z.cls.length ≤ 40 ∧ z.gaps.length ≤ 40) ∧ st = ⟨85, [(1, sI c), (3, .op 0 0 0), (7, eI n), (8, eI r)], [(0, some (.box 25 (eZn z)))], 1⟩) (sc_of mixedT ?_) ?_
  · (repeat' (first | simp (maxSteps := 5000000) (implicitDefEqProofs := false) only [ruA, ruB, aEv, aTake, aLoad, aField, aIndex, aLen, aBin, bin2, aUn, un1, aExtract, aConv, ASt.get, aget, ASt.put, aStore, aBox, aAppend, aBuildSlice, aMake, aBuild, aFill, oneParts, allC, aBinS, yv, aCells, oneC, oneCL, treeC, treeL, aLit, aDst, aSrc, appTab, Value.cells, Value.oneCell', envOf, aResL, aOne, ↓reduceIte, reduceCtorEq, forall_const, Nat.reduceLT, Nat.reduceEqDiff, Nat.reduceAdd, Nat.reduceMul, Nat.reduceSub, Nat.reduceLeDiff, Nat.reduceBEq, eq_self, implies_true, ne_eq, dref, dref1, dref2, aExecS, aStoreB, aTakes, aTakeE, aElder, aFrom, aFresh, isLoad, aBuildSlice1, frzs, frz1, ownIds, AV.frz, AV.frzL, frzEnv, AV.shift, AV.shiftL, aFieldV, aSliceW, aSliceO, aSlice, aSliceR, aSliceS, aBd, aMax, frzAVs, frzAV, frzTab, AObj.frz, aMM, aNilS, aMay, aNil, tyE_27, tyY_27, tyA_3, tyS_3, tyA_25, tyS_25, tyE_26, tyK_26, tyK_3, tyA_2, tyS_2, tyK_2, tyK_4] | (with_reducible refine aIf_split (fun _ => ?_) (fun _ => ?_)) | (with_reducible refine aSel_split (fun _ => ?_) (fun _ => ?_)) | (with_reducible refine aGd_split (fun _ => ?_) (fun _ => ?_))))
    refine callPB (greatZ_A z) fun b hb => ?_
    cases b with
    | true =>
      (repeat' (first | simp (maxSteps := 5000000) (implicitDefEqProofs := false) only [ruA, ruB, aEv, aTake, aLoad, aField, aIndex, aLen, aBin, bin2, aUn, un1, aExtract, aConv, ASt.get, aget, ASt.put, aStore, aBox, aAppend, aBuildSlice, aMake, aBuild, aFill, oneParts, allC, aBinS, yv, aCells, oneC, oneCL, treeC, treeL, aLit, aDst, aSrc, appTab, Value.cells, Value.oneCell', envOf, aResL, aOne, ↓reduceIte, reduceCtorEq, forall_const, Nat.reduceLT, Nat.reduceEqDiff, Nat.reduceAdd, Nat.reduceMul, Nat.reduceSub, Nat.reduceLeDiff, Nat.reduceBEq, eq_self, implies_true, ne_eq, dref, dref1, dref2, aExecS, aStoreB, aTakes, aTakeE, aElder, aFrom, aFresh, isLoad, aBuildSlice1, frzs, frz1, ownIds, AV.frz, AV.frzL, frzEnv, AV.shift, AV.shiftL, aFieldV, aSliceW, aSliceO, aSlice, aSliceR, aSliceS, aBd, aMax, frzAVs, frzAV, frzTab, AObj.frz, aMM, aNilS, aMay, aNil, tyE_27, tyY_27, tyA_3, tyS_3, tyA_25, tyS_25, tyE_26, tyK_26, tyK_3, tyA_2, tyS_2, tyK_2, tyK_4] | (with_reducible refine aIf_split (fun _ => ?_) (fun _ => ?_)) | (with_reducible refine aSel_split (fun _ => ?_) (fun _ => ?_)) | (with_reducible refine aGd_split (fun _ => ?_) (fun _ => ?_)) | (with_reducible refine aDraw_quiet (by kernel_rfl) ?_) | ((with_reducible apply callV (g := 5)); exact (awake22_A)) | ((with_reducible apply callD (g := 5)); exact (awake22_A))))
    | false =>
      obtain ⟨g1, g2⟩ := hb rfl
      by_cases hcl : c.length ≤ 31
      · have d1 : decide (31 < (c.length : Int)) = false := by simp only [decide_eq_false_iff_not]; omega
        have d2 : decide (31 < c.length) = false := by simp only [decide_eq_false_iff_not]; omega
        by_cases hr : r ≤ 10
        · have d3 : decide (10 < r) = false := by simp only [decide_eq_false_iff_not]; omega
          (repeat' (first | simp (maxSteps := 5000000) (implicitDefEqProofs := false) only [ruA, ruB, aEv, aTake, aLoad, aField, aIndex, aLen, aBin, bin2, aUn, un1, aExtract, aConv, ASt.get, aget, ASt.put, aStore, aBox, aAppend, aBuildSlice, aMake, aBuild, aFill, oneParts, allC, aBinS, yv, aCells, oneC, oneCL, treeC, treeL, aLit, aDst, aSrc, appTab, Value.cells, Value.oneCell', envOf, aResL, aOne, ↓reduceIte, reduceCtorEq, forall_const, Nat.reduceLT, Nat.reduceEqDiff, Nat.reduceAdd, Nat.reduceMul, Nat.reduceSub, Nat.reduceLeDiff, Nat.reduceBEq, eq_self, implies_true, ne_eq, dref, dref1, dref2, aExecS, aStoreB, aTakes, aTakeE, aElder, aFrom, aFresh, isLoad, aBuildSlice1, frzs, frz1, ownIds, AV.frz, AV.frzL, frzEnv, AV.shift, AV.shiftL, aFieldV, aSliceW, aSliceO, aSlice, aSliceR, aSliceS, aBd, aMax, frzAVs, frzAV, frzTab, AObj.frz, aMM, aNilS, aMay, aNil, tyE_27, tyY_27, tyA_3, tyS_3, tyA_25, tyS_25, tyE_26, tyK_26, tyK_3, tyA_2, tyS_2, tyK_2, tyK_4, d1, d2, d3] | (with_reducible refine aIf_split (fun _ => ?_) (fun _ => ?_)) | (with_reducible refine aSel_split (fun _ => ?_) (fun _ => ?_)) | (with_reducible refine aGd_split (fun _ => ?_) (fun _ => ?_)) | (with_reducible refine aDraw_quiet (by kernel_rfl) ?_)))
          all_goals exact aTo_mk (weak_cut1 (by (first | ((simp only [envIn, tabIn, envLt, tabLt, AObj.lt, AV.lt, AV.ltL, ruW, ASt.get, aget, ASt.put, ↓reduceIte, reduceCtorEq, Nat.reduceLT, Nat.reduceEqDiff, Nat.reduceAdd, Nat.reduceLeDiff, eq_self, implies_true]) <;> (repeat' apply And.intro) <;> first | (rw [wrapK (by omega)]; done) | (simp; done) | omega) | fail))) ⟨⟨hcl, hr, g1, g2⟩, rfl⟩
        · have d3 : decide (10 < r) = true := by simp only [decide_eq_true_eq]; omega
          (repeat' (first | simp (maxSteps := 5000000) (implicitDefEqProofs := false) only [ruA, ruB, aEv, aTake, aLoad, aField, aIndex, aLen, aBin, bin2, aUn, un1, aExtract, aConv, ASt.get, aget, ASt.put, aStore, aBox, aAppend, aBuildSlice, aMake, aBuild, aFill, oneParts, allC, aBinS, yv, aCells, oneC, oneCL, treeC, treeL, aLit, aDst, aSrc, appTab, Value.cells, Value.oneCell', envOf, aResL, aOne, ↓reduceIte, reduceCtorEq, forall_const, Nat.reduceLT, Nat.reduceEqDiff, Nat.reduceAdd, Nat.reduceMul, Nat.reduceSub, Nat.reduceLeDiff, Nat.reduceBEq, eq_self, implies_true, ne_eq, dref, dref1, dref2, aExecS, aStoreB, aTakes, aTakeE, aElder, aFrom, aFresh, isLoad, aBuildSlice1, frzs, frz1, ownIds, AV.frz, AV.frzL, frzEnv, AV.shift, AV.shiftL, aFieldV, aSliceW, aSliceO, aSlice, aSliceR, aSliceS, aBd, aMax, frzAVs, frzAV, frzTab, AObj.frz, aMM, aNilS, aMay, aNil, tyE_27, tyY_27, tyA_3, tyS_3, tyA_25, tyS_25, tyE_26, tyK_26, tyK_3, tyA_2, tyS_2, tyK_2, tyK_4, d1, d2, d3] | (with_reducible refine aIf_split (fun _ => ?_) (fun _ => ?_)) | (with_reducible refine aSel_split (fun _ => ?_) (fun _ => ?_)) | (with_reducible refine aGd_split (fun _ => ?_) (fun _ => ?_)) | (with_reducible refine aDraw_quiet (by kernel_rfl) ?_) | ((with_reducible apply callV (g := 5)); exact (awake22_A)) | ((with_reducible apply callD (g := 5)); exact (awake22_A))))
      · have d1 : decide (31 < (c.length : Int)) = true := by simp only [decide_eq_true_eq]; omega
        have d2 : decide (31 < c.length) = true := by simp only [decide_eq_true_eq]; omega
        (repeat' (first | simp (maxSteps := 5000000) (implicitDefEqProofs := false) only [ruA, ruB, aEv, aTake, aLoad, aField, aIndex, aLen, aBin, bin2, aUn, un1, aExtract, aConv, ASt.get, aget, ASt.put, aStore, aBox, aAppend, aBuildSlice, aMake, aBuild, aFill, oneParts, allC, aBinS, yv, aCells, oneC, oneCL, treeC, treeL, aLit, aDst, aSrc, appTab, Value.cells, Value.oneCell', envOf, aResL, aOne, ↓reduceIte, reduceCtorEq, forall_const, Nat.reduceLT, Nat.reduceEqDiff, Nat.reduceAdd, Nat.reduceMul, Nat.reduceSub, Nat.reduceLeDiff, Nat.reduceBEq, eq_self, implies_true, ne_eq, dref, dref1, dref2, aExecS, aStoreB, aTakes, aTakeE, aElder, aFrom, aFresh, isLoad, aBuildSlice1, frzs, frz1, ownIds, AV.frz, AV.frzL, frzEnv, AV.shift, AV.shiftL, aFieldV, aSliceW, aSliceO, aSlice, aSliceR, aSliceS, aBd, aMax, frzAVs, frzAV, frzTab, AObj.frz, aMM, aNilS, aMay, aNil, tyE_27, tyY_27, tyA_3, tyS_3, tyA_25, tyS_25, tyE_26, tyK_26, tyK_3, tyA_2, tyS_2, tyK_2, tyK_4, d1, d2] | (with_reducible refine aIf_split (fun _ => ?_) (fun _ => ?_)) | (with_reducible refine aSel_split (fun _ => ?_) (fun _ => ?_)) | (with_reducible refine aGd_split (fun _ => ?_) (fun _ => ?_)) | (with_reducible refine aDraw_quiet (by kernel_rfl) ?_) | ((with_reducible apply callV (g := 5)); exact (awake22_A)) | ((with_reducible apply callD (g := 5)); exact (awake22_A))))
  rintro _ ⟨⟨hcl, hr, g1, g2⟩, rfl⟩
  refine sc_cut (fun st => (∀ x ∈ c, -1099511627776 ≤ x ∧ x ≤ 1099511627776) ∧ st = ⟨85, [(1, sI c), (3, .op 0 0 0), (7, eI n), (8, eI r)], [(0, some (.box 25 (eZn z)))], 1⟩) (sc_of mixedT ?_) ?_
  · (repeat' (first | simp (maxSteps := 5000000) (implicitDefEqProofs := false) only [ruA, ruB, aEv, aTake, aLoad, aField, aIndex, aLen, aBin, bin2, aUn, un1, aExtract, aConv, ASt.get, aget, ASt.put, aStore, aBox, aAppend, aBuildSlice, aMake, aBuild, aFill, oneParts, allC, aBinS, yv, aCells, oneC, oneCL, treeC, treeL, aLit, aDst, aSrc, appTab, Value.cells, Value.oneCell', envOf, aResL, aOne, ↓reduceIte, reduceCtorEq, forall_const, Nat.reduceLT, Nat.reduceEqDiff, Nat.reduceAdd, Nat.reduceMul, Nat.reduceSub, Nat.reduceLeDiff, Nat.reduceBEq, eq_self, implies_true, ne_eq, dref, dref1, dref2, aExecS, aStoreB, aTakes, aTakeE, aElder, aFrom, aFresh, isLoad, aBuildSlice1, frzs, frz1, ownIds, AV.frz, AV.frzL, frzEnv, AV.shift, AV.shiftL, aFieldV, aSliceW, aSliceO, aSlice, aSliceR, aSliceS, aBd, aMax, frzAVs, frzAV, frzTab, AObj.frz, aMM, aNilS, aMay, aNil, tyE_27, tyY_27, tyA_3, tyS_3, tyA_25, tyS_25, tyE_26, tyK_26, tyK_3, tyA_2, tyS_2, tyK_2, tyK_4] | (with_reducible refine aIf_split (fun _ => ?_) (fun _ => ?_)) | (with_reducible refine aSel_split (fun _ => ?_) (fun _ => ?_)) | (with_reducible refine aGd_split (fun _ => ?_) (fun _ => ?_))))
    refine aLoop_of (fun st => ∃ k : Nat, k ≤ c.length ∧ (∀ j (h : j < c.length), j < k → -1099511627776 ≤ c[j] ∧ c[j] ≤ 1099511627776) ∧ st = ⟨85, [(1, sI c), (3, .op 0 0 0), (7, eI n), (8, eI r), (9, eI (k : Int))], [(0, some (.box 25 (eZn z)))], 1⟩) (fun st => c.length - slotN st 9) ⟨_, (weak_cut1 (by (first | ((simp only [envIn, tabIn, envLt, tabLt, AObj.lt, AV.lt, AV.ltL, ruW, ASt.get, aget, ASt.put, ↓reduceIte, reduceCtorEq, Nat.reduceLT, Nat.reduceEqDiff, Nat.reduceAdd, Nat.reduceLeDiff, eq_self, implies_true]) <;> (repeat' apply And.intro) <;> first | (rw [wrapK (by omega)]; done) | (simp; done) | omega) | fail))), 0, Nat.zero_le _, fun j _ h => by omega, rfl⟩ ?_
    rintro _ ⟨k, hk, hok, rfl⟩
    by_cases hlt : k < c.length
    · have hok2 : (-1099511627776 ≤ c[k] ∧ c[k] ≤ 1099511627776) → ∀ j (h : j < c.length), j < k + 1 → -1099511627776 ≤ c[j] ∧ c[j] ≤ 1099511627776 := fun h j hj hji => by
        rcases Nat.lt_or_ge j k with h2 | h2
        · exact hok j hj h2
        · obtain rfl : j = k := by omega
          exact h
      generalize hg : c[k] = g at *
      by_cases g4 : 1099511627776 < g
      · have d4 : decide (1099511627776 < g) = true := by simpa using g4
        (repeat' (first | simp (maxSteps := 5000000) (implicitDefEqProofs := false) only [ruA, ruB, aEv, aTake, aLoad, aField, aIndex, aLen, aBin, bin2, aUn, un1, aExtract, aConv, ASt.get, aget, ASt.put, aStore, aBox, aAppend, aBuildSlice, aMake, aBuild, aFill, oneParts, allC, aBinS, yv, aCells, oneC, oneCL, treeC, treeL, aLit, aDst, aSrc, appTab, Value.cells, Value.oneCell', envOf, aResL, aOne, ↓reduceIte, reduceCtorEq, forall_const, Nat.reduceLT, Nat.reduceEqDiff, Nat.reduceAdd, Nat.reduceMul, Nat.reduceSub, Nat.reduceLeDiff, Nat.reduceBEq, eq_self, implies_true, ne_eq, dref, dref1, dref2, aExecS, aStoreB, aTakes, aTakeE, aElder, aFrom, aFresh, isLoad, aBuildSlice1, frzs, frz1, ownIds, AV.frz, AV.frzL, frzEnv, AV.shift, AV.shiftL, aFieldV, aSliceW, aSliceO, aSlice, aSliceR, aSliceS, aBd, aMax, frzAVs, frzAV, frzTab, AObj.frz, aMM, aNilS, aMay, aNil, tyE_27, tyY_27, tyA_3, tyS_3, tyA_25, tyS_25, tyE_26, tyK_26, tyK_3, tyA_2, tyS_2, tyK_2, tyK_4, row_at, hlt, hg, d4, List.length_map] | (with_reducible refine aIf_split (fun _ => ?_) (fun _ => ?_)) | (with_reducible refine aSel_split (fun _ => ?_) (fun _ => ?_)) | (with_reducible refine aGd_split (fun _ => ?_) (fun _ => ?_)) | (with_reducible refine aDraw_quiet (by kernel_rfl) ?_) | ((with_reducible apply callV (g := 5)); exact (awake22_A)) | ((with_reducible apply callD (g := 5)); exact (awake22_A))))
      · have d4 : decide (1099511627776 < g) = false := by simpa using g4
        by_cases g5 : g < -1099511627776
        · have d5 : decide (g < -1099511627776) = true := by simpa using g5
          (repeat' (first | simp (maxSteps := 5000000) (implicitDefEqProofs := false) only [ruA, ruB, aEv, aTake, aLoad, aField, aIndex, aLen, aBin, bin2, aUn, un1, aExtract, aConv, ASt.get, aget, ASt.put, aStore, aBox, aAppend, aBuildSlice, aMake, aBuild, aFill, oneParts, allC, aBinS, yv, aCells, oneC, oneCL, treeC, treeL, aLit, aDst, aSrc, appTab, Value.cells, Value.oneCell', envOf, aResL, aOne, ↓reduceIte, reduceCtorEq, forall_const, Nat.reduceLT, Nat.reduceEqDiff, Nat.reduceAdd, Nat.reduceMul, Nat.reduceSub, Nat.reduceLeDiff, Nat.reduceBEq, eq_self, implies_true, ne_eq, dref, dref1, dref2, aExecS, aStoreB, aTakes, aTakeE, aElder, aFrom, aFresh, isLoad, aBuildSlice1, frzs, frz1, ownIds, AV.frz, AV.frzL, frzEnv, AV.shift, AV.shiftL, aFieldV, aSliceW, aSliceO, aSlice, aSliceR, aSliceS, aBd, aMax, frzAVs, frzAV, frzTab, AObj.frz, aMM, aNilS, aMay, aNil, tyE_27, tyY_27, tyA_3, tyS_3, tyA_25, tyS_25, tyE_26, tyK_26, tyK_3, tyA_2, tyS_2, tyK_2, tyK_4, row_at, hlt, hg, d4, d5, List.length_map] | (with_reducible refine aIf_split (fun _ => ?_) (fun _ => ?_)) | (with_reducible refine aSel_split (fun _ => ?_) (fun _ => ?_)) | (with_reducible refine aGd_split (fun _ => ?_) (fun _ => ?_)) | (with_reducible refine aDraw_quiet (by kernel_rfl) ?_) | ((with_reducible apply callV (g := 5)); exact (awake22_A)) | ((with_reducible apply callD (g := 5)); exact (awake22_A))))
        · have d5 : decide (g < -1099511627776) = false := by simpa using g5
          (repeat' (first | simp (maxSteps := 5000000) (implicitDefEqProofs := false) only [ruA, ruB, aEv, aTake, aLoad, aField, aIndex, aLen, aBin, bin2, aUn, un1, aExtract, aConv, ASt.get, aget, ASt.put, aStore, aBox, aAppend, aBuildSlice, aMake, aBuild, aFill, oneParts, allC, aBinS, yv, aCells, oneC, oneCL, treeC, treeL, aLit, aDst, aSrc, appTab, Value.cells, Value.oneCell', envOf, aResL, aOne, ↓reduceIte, reduceCtorEq, forall_const, Nat.reduceLT, Nat.reduceEqDiff, Nat.reduceAdd, Nat.reduceMul, Nat.reduceSub, Nat.reduceLeDiff, Nat.reduceBEq, eq_self, implies_true, ne_eq, dref, dref1, dref2, aExecS, aStoreB, aTakes, aTakeE, aElder, aFrom, aFresh, isLoad, aBuildSlice1, frzs, frz1, ownIds, AV.frz, AV.frzL, frzEnv, AV.shift, AV.shiftL, aFieldV, aSliceW, aSliceO, aSlice, aSliceR, aSliceS, aBd, aMax, frzAVs, frzAV, frzTab, AObj.frz, aMM, aNilS, aMay, aNil, tyE_27, tyY_27, tyA_3, tyS_3, tyA_25, tyS_25, tyE_26, tyK_26, tyK_3, tyA_2, tyS_2, tyK_2, tyK_4, row_at, hlt, hg, d4, d5, List.length_map] | (with_reducible refine aIf_split (fun _ => ?_) (fun _ => ?_)) | (with_reducible refine aSel_split (fun _ => ?_) (fun _ => ?_)) | (with_reducible refine aGd_split (fun _ => ?_) (fun _ => ?_)) | (with_reducible refine aDraw_quiet (by kernel_rfl) ?_) | ((with_reducible apply callV (g := 5)); exact (awake22_A)) | ((with_reducible apply callD (g := 5)); exact (awake22_A))))
          all_goals exact roundI (weak_cut1 (by (first | ((simp only [envIn, tabIn, envLt, tabLt, AObj.lt, AV.lt, AV.ltL, ruW, ASt.get, aget, ASt.put, ↓reduceIte, reduceCtorEq, Nat.reduceLT, Nat.reduceEqDiff, Nat.reduceAdd, Nat.reduceLeDiff, eq_self, implies_true]) <;> (repeat' apply And.intro) <;> first | (rw [wrapK (by omega)]; done) | (simp; done) | omega) | fail))) ⟨k + 1, by omega, hok2 ⟨by omega, by omega⟩, rfl⟩ (by simp only [slotN, ruW, ASt.get, aget, ASt.put, ↓reduceIte, reduceCtorEq, Nat.reduceLT, Nat.reduceEqDiff, Nat.reduceAdd, Nat.reduceLeDiff, eq_self, implies_true]; omega)
    · obtain rfl : k = c.length := by omega
      (repeat' (first | simp (maxSteps := 5000000) (implicitDefEqProofs := false) only [ruA, ruB, aEv, aTake, aLoad, aField, aIndex, aLen, aBin, bin2, aUn, un1, aExtract, aConv, ASt.get, aget, ASt.put, aStore, aBox, aAppend, aBuildSlice, aMake, aBuild, aFill, oneParts, allC, aBinS, yv, aCells, oneC, oneCL, treeC, treeL, aLit, aDst, aSrc, appTab, Value.cells, Value.oneCell', envOf, aResL, aOne, ↓reduceIte, reduceCtorEq, forall_const, Nat.reduceLT, Nat.reduceEqDiff, Nat.reduceAdd, Nat.reduceMul, Nat.reduceSub, Nat.reduceLeDiff, Nat.reduceBEq, eq_self, implies_true, ne_eq, dref, dref1, dref2, aExecS, aStoreB, aTakes, aTakeE, aElder, aFrom, aFresh, isLoad, aBuildSlice1, frzs, frz1, ownIds, AV.frz, AV.frzL, frzEnv, AV.shift, AV.shiftL, aFieldV, aSliceW, aSliceO, aSlice, aSliceR, aSliceS, aBd, aMax, frzAVs, frzAV, frzTab, AObj.frz, aMM, aNilS, aMay, aNil, tyE_27, tyY_27, tyA_3, tyS_3, tyA_25, tyS_25, tyE_26, tyK_26, tyK_3, tyA_2, tyS_2, tyK_2, tyK_4, hlt, List.length_map] | (with_reducible refine aIf_split (fun _ => ?_) (fun _ => ?_)) | (with_reducible refine aSel_split (fun _ => ?_) (fun _ => ?_)) | (with_reducible refine aGd_split (fun _ => ?_) (fun _ => ?_)) | (with_reducible refine aDraw_quiet (by kernel_rfl) ?_)))
      all_goals exact aTo_mk (weak_cut1 (by (first | ((simp only [envIn, tabIn, envLt, tabLt, AObj.lt, AV.lt, AV.ltL, ruW, ASt.get, aget, ASt.put, ↓reduceIte, reduceCtorEq, Nat.reduceLT, Nat.reduceEqDiff, Nat.reduceAdd, Nat.reduceLeDiff, eq_self, implies_true]) <;> (repeat' apply And.intro) <;> first | (rw [wrapK (by omega)]; done) | (simp; done) | omega) | fail))) ⟨fun x hx => by
        obtain ⟨j, hj, rfl⟩ := List.getElem_of_mem hx
        exact hok j hj hj, rfl⟩
  rintro _ ⟨hcb, rfl⟩
  have hS := sampleQ_A z n c r g1 g2 (by omega) hcb (capV_10 hr) fun x hx => by have := hat x hx; unfold ok64 at this; omega
  obtain ⟨t, ht, hCk⟩ := adet_iff (check22_A z n c r g1 g2 (by omega) hc (capV_10 hr) hat)
  refine sc_cut (fun st => (t = false ∧ st = ⟨85, [(1, sI c), (3, .op 0 0 0), (7, eI n), (8, eI r), (10, .c (.slice none 0 0)), (11, eB false)], [(0, some (.box 25 (eZn z)))], 1⟩) ∨ ∃ v : List Int, t = true ∧ (v.length : Int) = n ∧ zoneM v c r = z ∧ (∀ x ∈ v, ok64 x) ∧ st = ⟨85, [(1, sI c), (3, .op 0 0 0), (7, eI n), (8, eI r), (10, sI v), (11, eB true)], [(0, some (.box 25 (eZn z)))], 1⟩) (sc_of mixedT ?_) ?_
  · (repeat' (first | simp (maxSteps := 5000000) (implicitDefEqProofs := false) only [ruA, ruB, aEv, aTake, aLoad, aField, aIndex, aLen, aBin, bin2, aUn, un1, aExtract, aConv, ASt.get, aget, ASt.put, aStore, aBox, aAppend, aBuildSlice, aMake, aBuild, aFill, oneParts, allC, aBinS, yv, aCells, oneC, oneCL, treeC, treeL, aLit, aDst, aSrc, appTab, Value.cells, Value.oneCell', envOf, aResL, aOne, ↓reduceIte, reduceCtorEq, forall_const, Nat.reduceLT, Nat.reduceEqDiff, Nat.reduceAdd, Nat.reduceMul, Nat.reduceSub, Nat.reduceLeDiff, Nat.reduceBEq, eq_self, implies_true, ne_eq, dref, dref1, dref2, aExecS, aStoreB, aTakes, aTakeE, aElder, aFrom, aFresh, isLoad, aBuildSlice1, frzs, frz1, ownIds, AV.frz, AV.frzL, frzEnv, AV.shift, AV.shiftL, aFieldV, aSliceW, aSliceO, aSlice, aSliceR, aSliceS, aBd, aMax, frzAVs, frzAV, frzTab, AObj.frz, aMM, aNilS, aMay, aNil, tyE_27, tyY_27, tyA_3, tyS_3, tyA_25, tyS_25, tyE_26, tyK_26, tyK_3, tyA_2, tyS_2, tyK_2, tyK_4] | (with_reducible refine aIf_split (fun _ => ?_) (fun _ => ?_)) | (with_reducible refine aSel_split (fun _ => ?_) (fun _ => ?_)) | (with_reducible refine aGd_split (fun _ => ?_) (fun _ => ?_))))
    refine callP hS fun R hR => ?_
    rcases hR with ⟨h5, rfl⟩ | ⟨h5, v, rfl, h6, h7, h8⟩
    · have ht0 : t = false := by
        cases t with
        | false => rfl
        | true => exact (h5 (ht.1 rfl)).elim
      refine ⟨.inr (by simp [AV.plain, AV.plainL, ATab.plain]), ?_⟩
      (repeat' (first | simp (maxSteps := 5000000) (implicitDefEqProofs := false) only [ruA, ruB, aEv, aTake, aLoad, aField, aIndex, aLen, aBin, bin2, aUn, un1, aExtract, aConv, ASt.get, aget, ASt.put, aStore, aBox, aAppend, aBuildSlice, aMake, aBuild, aFill, oneParts, allC, aBinS, yv, aCells, oneC, oneCL, treeC, treeL, aLit, aDst, aSrc, appTab, Value.cells, Value.oneCell', envOf, aResL, aOne, ↓reduceIte, reduceCtorEq, forall_const, Nat.reduceLT, Nat.reduceEqDiff, Nat.reduceAdd, Nat.reduceMul, Nat.reduceSub, Nat.reduceLeDiff, Nat.reduceBEq, eq_self, implies_true, ne_eq, dref, dref1, dref2, aExecS, aStoreB, aTakes, aTakeE, aElder, aFrom, aFresh, isLoad, aBuildSlice1, frzs, frz1, ownIds, AV.frz, AV.frzL, frzEnv, AV.shift, AV.shiftL, aFieldV, aSliceW, aSliceO, aSlice, aSliceR, aSliceS, aBd, aMax, frzAVs, frzAV, frzTab, AObj.frz, aMM, aNilS, aMay, aNil, tyE_27, tyY_27, tyA_3, tyS_3, tyA_25, tyS_25, tyE_26, tyK_26, tyK_3, tyA_2, tyS_2, tyK_2, tyK_4, shiftT_nil, List.nil_append] | (with_reducible refine aIf_split (fun _ => ?_) (fun _ => ?_)) | (with_reducible refine aSel_split (fun _ => ?_) (fun _ => ?_)) | (with_reducible refine aGd_split (fun _ => ?_) (fun _ => ?_)) | (with_reducible refine aDraw_quiet (by kernel_rfl) ?_)))
      all_goals exact aTo_mk (weak_cut1 (by (first | ((simp only [envIn, tabIn, envLt, tabLt, AObj.lt, AV.lt, AV.ltL, ruW, ASt.get, aget, ASt.put, ↓reduceIte, reduceCtorEq, Nat.reduceLT, Nat.reduceEqDiff, Nat.reduceAdd, Nat.reduceLeDiff, eq_self, implies_true, shiftT_nil, List.nil_append]) <;> (repeat' apply And.intro) <;> first | (rw [wrapK (by omega)]; done) | (simp; done) | omega) | fail))) (.inl ⟨ht0, rfl⟩)
    · have ht0 : t = true := ht.2 h5
      have hpl : (AObj.row 2 1 (List.map (fun n => [eI n]) v)).plain := fun row hr av ha => by
        obtain ⟨m, _, rfl⟩ := List.mem_map.1 hr
        simp at ha
        rw [ha]
        trivial
      have eS : ATab.shift 1 [(0, some (.row 2 1 (List.map (fun n => [eI n]) v)))] = [(1, some (.row 2 1 (List.map (fun n => [eI n]) v)))] := by simp [ATab.shift, AObj.shift]
      refine ⟨.inr (by simp [AV.plain, AV.plainL, ATab.plain, hpl]), ?_⟩
      (repeat' (first | simp (maxSteps := 5000000) (implicitDefEqProofs := false) only [ruA, ruB, aEv, aTake, aLoad, aField, aIndex, aLen, aBin, bin2, aUn, un1, aExtract, aConv, ASt.get, aget, ASt.put, aStore, aBox, aAppend, aBuildSlice, aMake, aBuild, aFill, oneParts, allC, aBinS, yv, aCells, oneC, oneCL, treeC, treeL, aLit, aDst, aSrc, appTab, Value.cells, Value.oneCell', envOf, aResL, aOne, ↓reduceIte, reduceCtorEq, forall_const, Nat.reduceLT, Nat.reduceEqDiff, Nat.reduceAdd, Nat.reduceMul, Nat.reduceSub, Nat.reduceLeDiff, Nat.reduceBEq, eq_self, implies_true, ne_eq, dref, dref1, dref2, aExecS, aStoreB, aTakes, aTakeE, aElder, aFrom, aFresh, isLoad, aBuildSlice1, frzs, frz1, ownIds, AV.frz, AV.frzL, frzEnv, AV.shift, AV.shiftL, aFieldV, aSliceW, aSliceO, aSlice, aSliceR, aSliceS, aBd, aMax, frzAVs, frzAV, frzTab, AObj.frz, aMM, aNilS, aMay, aNil, tyE_27, tyY_27, tyA_3, tyS_3, tyA_25, tyS_25, tyE_26, tyK_26, tyK_3, tyA_2, tyS_2, tyK_2, tyK_4, eS, List.cons_append, List.nil_append] | (with_reducible refine aIf_split (fun _ => ?_) (fun _ => ?_)) | (with_reducible refine aSel_split (fun _ => ?_) (fun _ => ?_)) | (with_reducible refine aGd_split (fun _ => ?_) (fun _ => ?_)) | (with_reducible refine aDraw_quiet (by kernel_rfl) ?_)))
      all_goals refine aTo_mk ((weak_frz _ 1).trans ?_) (.inr ⟨v, ht0, h6, h7, h8, rfl⟩)
      all_goals simp [frz1, frzEnv, frzTab, ATab.get_cons, AObj.frz, AV.frz, AV.frzL, eS]
      all_goals exact (weak_cut1 (by (first | ((simp only [envIn, tabIn, envLt, tabLt, AObj.lt, AV.lt, AV.ltL, ruW, ASt.get, aget, ASt.put, ↓reduceIte, reduceCtorEq, Nat.reduceLT, Nat.reduceEqDiff, Nat.reduceAdd, Nat.reduceLeDiff, eq_self, implies_true]) <;> (repeat' apply And.intro) <;> first | (rw [wrapK (by omega)]; done) | (simp; done) | omega) | fail)))
  rintro _ (⟨rfl, rfl⟩ | ⟨v, rfl, hvl, hvz, hv64, rfl⟩)
  · refine sc_of mixedT ?_
    have q1 : (!false == false) = false := rfl
    have q2 : (((0 : Nat) : Int) == 0) = true := rfl
    (repeat' (first | simp (maxSteps := 5000000) (implicitDefEqProofs := false) only [ruA, ruB, aEv, aTake, aLoad, aField, aIndex, aLen, aBin, bin2, aUn, un1, aExtract, aConv, ASt.get, aget, ASt.put, aStore, aBox, aAppend, aBuildSlice, aMake, aBuild, aFill, oneParts, allC, aBinS, yv, aCells, oneC, oneCL, treeC, treeL, aLit, aDst, aSrc, appTab, Value.cells, Value.oneCell', envOf, aResL, aOne, ↓reduceIte, reduceCtorEq, forall_const, Nat.reduceLT, Nat.reduceEqDiff, Nat.reduceAdd, Nat.reduceMul, Nat.reduceSub, Nat.reduceLeDiff, Nat.reduceBEq, eq_self, implies_true, ne_eq, dref, dref1, dref2, aExecS, aStoreB, aTakes, aTakeE, aElder, aFrom, aFresh, isLoad, aBuildSlice1, frzs, frz1, ownIds, AV.frz, AV.frzL, frzEnv, AV.shift, AV.shiftL, aFieldV, aSliceW, aSliceO, aSlice, aSliceR, aSliceS, aBd, aMax, frzAVs, frzAV, frzTab, AObj.frz, aMM, aNilS, aMay, aNil, tyE_27, tyY_27, tyA_3, tyS_3, tyA_25, tyS_25, tyE_26, tyK_26, tyK_3, tyA_2, tyS_2, tyK_2, tyK_4, q1, q2] | (with_reducible refine aIf_split (fun _ => ?_) (fun _ => ?_)) | (with_reducible refine aSel_split (fun _ => ?_) (fun _ => ?_)) | (with_reducible refine aGd_split (fun _ => ?_) (fun _ => ?_)) | (with_reducible refine aDraw_quiet (by kernel_rfl) ?_) | ((with_reducible apply callV); exact (hCk)) | ((with_reducible apply callD); exact (hCk)) | ((with_reducible apply callV (g := 5)); exact (awake22_A)) | ((with_reducible apply callD (g := 5)); exact (awake22_A))))
  · refine sc_of mixedT ?_
    have hCP := ht.1 rfl
    have hn : n ≤ 31 := hCP.1.1.2
    have e1 : ((v.length : Int) == n) = true := by simpa using hvl
    have q1 : (!true == true) = false := rfl
    have q3 : (!true) = false := rfl
    have hR := zoneOf_A v c r (by omega) (by omega) (fun x hx => hv64 x hx) hc
    rw [hvz] at hR
    have hSm := sameZz_A z (by omega) (by omega)
    (repeat' (first | simp (maxSteps := 5000000) (implicitDefEqProofs := false) only [ruA, ruB, aEv, aTake, aLoad, aField, aIndex, aLen, aBin, bin2, aUn, un1, aExtract, aConv, ASt.get, aget, ASt.put, aStore, aBox, aAppend, aBuildSlice, aMake, aBuild, aFill, oneParts, allC, aBinS, yv, aCells, oneC, oneCL, treeC, treeL, aLit, aDst, aSrc, appTab, Value.cells, Value.oneCell', envOf, aResL, aOne, ↓reduceIte, reduceCtorEq, forall_const, Nat.reduceLT, Nat.reduceEqDiff, Nat.reduceAdd, Nat.reduceMul, Nat.reduceSub, Nat.reduceLeDiff, Nat.reduceBEq, eq_self, implies_true, ne_eq, dref, dref1, dref2, aExecS, aStoreB, aTakes, aTakeE, aElder, aFrom, aFresh, isLoad, aBuildSlice1, frzs, frz1, ownIds, AV.frz, AV.frzL, frzEnv, AV.shift, AV.shiftL, aFieldV, aSliceW, aSliceO, aSlice, aSliceR, aSliceS, aBd, aMax, frzAVs, frzAV, frzTab, AObj.frz, aMM, aNilS, aMay, aNil, tyE_27, tyY_27, tyA_3, tyS_3, tyA_25, tyS_25, tyE_26, tyK_26, tyK_3, tyA_2, tyS_2, tyK_2, tyK_4, q1, q3] | (with_reducible refine aIf_split (fun _ => ?_) (fun _ => ?_)) | (with_reducible refine aSel_split (fun _ => ?_) (fun _ => ?_)) | (with_reducible refine aGd_split (fun _ => ?_) (fun _ => ?_))))
    refine callV hCk ?_
    (repeat' (first | simp (maxSteps := 5000000) (implicitDefEqProofs := false) only [ruA, ruB, aEv, aTake, aLoad, aField, aIndex, aLen, aBin, bin2, aUn, un1, aExtract, aConv, ASt.get, aget, ASt.put, aStore, aBox, aAppend, aBuildSlice, aMake, aBuild, aFill, oneParts, allC, aBinS, yv, aCells, oneC, oneCL, treeC, treeL, aLit, aDst, aSrc, appTab, Value.cells, Value.oneCell', envOf, aResL, aOne, ↓reduceIte, reduceCtorEq, forall_const, Nat.reduceLT, Nat.reduceEqDiff, Nat.reduceAdd, Nat.reduceMul, Nat.reduceSub, Nat.reduceLeDiff, Nat.reduceBEq, eq_self, implies_true, ne_eq, dref, dref1, dref2, aExecS, aStoreB, aTakes, aTakeE, aElder, aFrom, aFresh, isLoad, aBuildSlice1, frzs, frz1, ownIds, AV.frz, AV.frzL, frzEnv, AV.shift, AV.shiftL, aFieldV, aSliceW, aSliceO, aSlice, aSliceR, aSliceS, aBd, aMax, frzAVs, frzAV, frzTab, AObj.frz, aMM, aNilS, aMay, aNil, tyE_27, tyY_27, tyA_3, tyS_3, tyA_25, tyS_25, tyE_26, tyK_26, tyK_3, tyA_2, tyS_2, tyK_2, tyK_4, q1, q3] | (with_reducible refine aIf_split (fun _ => ?_) (fun _ => ?_)) | (with_reducible refine aSel_split (fun _ => ?_) (fun _ => ?_)) | (with_reducible refine aGd_split (fun _ => ?_) (fun _ => ?_))))
    refine aDraw_held [] [0, 1, 2, 3, 4, 5, 6, 7, 9] (.exec 8 (.exec 10 (.take 11 (.take 12 (.exec 13 (.take 14 (.exec 15 .done))))))) (by kernel_rfl) (by simp [ATab.get_cons]) ?_
    (repeat' (first | simp (maxSteps := 5000000) (implicitDefEqProofs := false) only [ruA, ruB, aEv, aTake, aLoad, aField, aIndex, aLen, aBin, bin2, aUn, un1, aExtract, aConv, ASt.get, aget, ASt.put, aStore, aBox, aAppend, aBuildSlice, aMake, aBuild, aFill, oneParts, allC, aBinS, yv, aCells, oneC, oneCL, treeC, treeL, aLit, aDst, aSrc, appTab, Value.cells, Value.oneCell', envOf, aResL, aOne, ↓reduceIte, reduceCtorEq, forall_const, Nat.reduceLT, Nat.reduceEqDiff, Nat.reduceAdd, Nat.reduceMul, Nat.reduceSub, Nat.reduceLeDiff, Nat.reduceBEq, eq_self, implies_true, ne_eq, dref, dref1, dref2, aExecS, aStoreB, aTakes, aTakeE, aElder, aFrom, aFresh, isLoad, aBuildSlice1, frzs, frz1, ownIds, AV.frz, AV.frzL, frzEnv, AV.shift, AV.shiftL, aFieldV, aSliceW, aSliceO, aSlice, aSliceR, aSliceS, aBd, aMax, frzAVs, frzAV, frzTab, AObj.frz, aMM, aNilS, aMay, aNil, tyE_27, tyY_27, tyA_3, tyS_3, tyA_25, tyS_25, tyE_26, tyK_26, tyK_3, tyA_2, tyS_2, tyK_2, tyK_4, e1, List.length_map] | (with_reducible refine aIf_split (fun _ => ?_) (fun _ => ?_)) | (with_reducible refine aSel_split (fun _ => ?_) (fun _ => ?_)) | (with_reducible refine aGd_split (fun _ => ?_) (fun _ => ?_)) | (with_reducible refine aDraw_quiet (by kernel_rfl) ?_) | ((with_reducible apply callT); exact (hR); exact (.inl (by simp [roL, roA, treeL, treeC]))) | ((with_reducible apply callV); exact (hSm)) | ((with_reducible apply callD); exact (hSm)) | ((with_reducible apply callV (g := 5)); exact (awake22_A)) | ((with_reducible apply callD (g := 5)); exact (awake22_A)) | (with_reducible apply And.intro)))
    all_goals trace_state
end
section
open Go.RowKit

theorem opensInt : Opens Try.prog 3 (intR .i64) := opens_int Try.underlying3
theorem opensI64 : Opens Try.prog 2 (intR .i64) := opens_int Try.underlying2
theorem opensI64s : Opens Try.prog 26 (sliceR (intR .i64)) := opens_slice Try.underlying26 (by kernel_rfl) (by decide) opensI64
theorem opensIntsE : Opens Try.prog 23 (sliceR (intR .i64)) := opens_slice Try.underlying23 (by kernel_rfl) (by decide) opensInt
end
section
open Go.RowKit
def Into {α : Type} (r : Rep α) (f : α → List AV) : Prop := ∀ (w : World) (S : Nat → Prop) (cs : List Value) (x : α), r.at_ w S cs x → (f x).length = r.size ∧ ∀ (j : Nat) (u : Value) (av : AV), cs[j]? = some u → (f x)[j]? = some av → RT w S u av ∧ u.oneCell' = true
theorem Into.slice {α : Type} {r : Rep α} {f : α → List AV} (h : Into r f) {w : World} {S : Nat → Prop} {v : Value} {l : List α} (hv : (sliceR r).one w S v l) : RT w S v (.sl r.size (l.map f)) := by
  obtain ⟨A, c, rfl, h1, h2⟩ := slice_form hv
  by_cases h0 : 0 < l.length
  · obtain ⟨b, o, rfl, hb, hrow⟩ := slice_some hv h0
    classical
    let cs : Nat → List Value := fun i => if hi : i < l.length then (hrow i hi).choose else []
    have hcs : ∀ i (hi : i < l.length), (∀ (j : Nat) (u : Value), (cs i)[j]? = some u → w.cell? ⟨b, o + i * r.size + j, none⟩ = some u) ∧ r.at_ w S (cs i) l[i] := fun i hi => by
      have := (hrow i hi).choose_spec
      simpa [cs, hi] using this
    have key : ∀ (i j : Nat) (row : List AV) (av : AV), (l.map f)[i]? = some row → row[j]? = some av → ∃ hi : i < l.length, (cs i)[j]? = some ((cs i).getD j undef) ∧ RT w S ((cs i).getD j undef) av ∧ ((cs i).getD j undef).oneCell' = true := fun i j row av h3 h4 => by
      have hi : i < l.length := by
        have := (List.getElem?_eq_some_iff.1 h3).1
        simpa using this
      have hf : row = f l[i] := by
        rw [List.getElem?_map, List.getElem?_eq_getElem hi] at h3
        exact (Option.some.inj h3).symm
      subst hf
      obtain ⟨h5, h6⟩ := h w S (cs i) l[i] (hcs i hi).2
      have hj : j < (cs i).length := by
        rw [r.len (hcs i hi).2, ← h5]
        exact (List.getElem?_eq_some_iff.1 h4).1
      have e : (cs i)[j]? = some ((cs i).getD j undef) := by
        rw [List.getD_eq_getElem?_getD, List.getElem?_eq_getElem hj]
        rfl
      exact ⟨hi, e, h6 j _ av e h4⟩
    refine .sl _ _ c r.size _ b o (fun i j => (cs i).getD j undef) (by simp) h1 h2 (fun _ => ⟨rfl, hb⟩) (fun row hr => ?_) (fun _ i j row av h3 h4 => ?_) (fun i j row av h3 h4 => (key i j row av h3 h4).elim fun _ h => h.2.2) (fun i j row av h3 h4 => (key i j row av h3 h4).elim fun _ h => h.2.1)
    · obtain ⟨i, hi, rfl⟩ := List.getElem_of_mem hr
      have hi : i < l.length := by simpa using hi
      simp only [List.getElem_map]
      exact (h w S (cs i) l[i] (hcs i hi).2).1
    · obtain ⟨hi, h5, _⟩ := key i j row av h3 h4
      exact (hcs i hi).1 j _ h5
  · have : l = [] := List.length_eq_zero_iff.1 (by omega)
    subst this
    exact .sl A 0 c r.size [] 0 0 (fun _ _ => undef) rfl h1 h2 (fun h => by omega) (by simp) (fun h => by omega) (by simp) (by simp)
theorem into_cells {α : Type} {r : Rep α} {f : α → List AV} (g : α → List Value) (hg : ∀ w S cs x, r.at_ w S cs x → cs = g x) (hs : ∀ x, (g x).length = r.size) (ho : ∀ x u, u ∈ g x → u.oneCell' = true) (hf : ∀ x, f x = (g x).map .c) : Into r f := fun w S cs x h => by
  obtain rfl := hg w S cs x h
  rw [hf]
  refine ⟨by simp [hs], fun j u av h1 h2 => ?_⟩
  rw [List.getElem?_map, h1] at h2
  cases h2
  exact ⟨.c u, ho x u (List.mem_of_getElem? h1)⟩
theorem into_int : Into (intR .i64) (fun n => [eI n]) := into_cells (fun n => [.int .i64 n]) (fun w S cs x h => h.1) (fun x => rfl) (fun x u h => by simp at h; subst h; rfl) (fun x => rfl)
theorem slice_one {α : Type} {r : Rep α} {w : World} {S : Nat → Prop} {v : Value} {l : List α} (h : (sliceR r).one w S v l) : v.oneCell' = true := by
  obtain ⟨A, c, rfl, _⟩ := slice_form h
  rfl
/-- every thing of a slice is one that may be -/
theorem slice_all {α : Type} {r : Rep α} {w : World} {S : Nat → Prop} {v : Value} {l : List α} {Q : α → Prop} (h : (sliceR r).one w S v l) (hq : ∀ cs x, r.at_ w S cs x → Q x) : ∀ x ∈ l, Q x := fun x hx => by
  obtain ⟨i, hi, rfl⟩ := List.getElem_of_mem hx
  obtain ⟨A, c, rfl, _⟩ := slice_form h
  obtain ⟨b, o, rfl, _, hrow⟩ := slice_some h (by omega)
  obtain ⟨cs, _, h2⟩ := hrow i hi
  exact hq cs _ h2
end
section
open Go.ChangeShapes Go.WideShapes Go.ChangeAt Go.RowKit
def clsR : Rep Cls where
  size := 2
  at_ := fun w S cs g => cs = [.int .i64 g.attrs, .int .i64 g.const] ∧ ok64 g.attrs ∧ ok64 g.const
  len := fun h => by rw [h.1]; rfl
  keep := fun h _ => h
  mono := fun h _ => h
theorem opensCls : Opens Try.prog 37 clsR := opens_map (r := pairR (intR .i64) (pairR (intR .i64) nilR)) (opens_struct Try.underlying37 (by kernel_rfl) (opensF_cons (by kernel_rfl) (by kernel_rfl) opensInt (opensF_cons (by kernel_rfl) (by kernel_rfl) opensInt (opensF_nil _ _)))) (fun p => ⟨p.1, p.2.1⟩) (by
  rintro w S cs ⟨s, n, _⟩ h
  obtain ⟨c0, q0, e0, ⟨a0, h0⟩, h⟩ := pair_inv h
  obtain ⟨c1, q1, e1, ⟨a1, h1⟩, h⟩ := pair_inv h
  have h : q1 = [] := h
  exact ⟨by rw [e0, e1, a0, a1, h]; rfl, wf_i64 h0, wf_i64 h1⟩)
theorem into_cls : Into clsR eCls := into_cells (fun p => [.int .i64 p.attrs, .int .i64 p.const]) (fun w S cs x h => h.1) (fun x => rfl) (fun x u h => by simp at h; rcases h with rfl | rfl <;> rfl) (fun x => rfl)
def znR : Rep Zn where
  size := 2
  at_ := fun w S cs g => ∃ v1 v2, cs = [v1, v2] ∧ (sliceR clsR).one w S v1 g.cls ∧ (sliceR (intR .i64)).one w S v2 g.gaps
  len := fun ⟨_, _, h, _⟩ => by rw [h]; rfl
  keep := fun ⟨v1, v2, h, h1, h2⟩ hk => ⟨v1, v2, h, slice_keep h1 hk, slice_keep h2 hk⟩
  mono := fun ⟨v1, v2, h, h1, h2⟩ hB => ⟨v1, v2, h, slice_mono h1 hB, slice_mono h2 hB⟩
theorem opensZone : Opens Try.prog 25 znR := opens_map (r := pairR (sliceR clsR) (pairR (sliceR (intR .i64)) nilR)) (opens_struct Try.underlying25 (by kernel_rfl) (opensF_cons (by kernel_rfl) (by kernel_rfl) (opens_slice Try.underlying22 (by kernel_rfl) (by decide) opensCls) (opensF_cons (by kernel_rfl) (by kernel_rfl) opensIntsE (opensF_nil _ _)))) (fun p => ⟨p.1, p.2.1⟩) (by
  rintro w S cs ⟨cl, gp, _⟩ h
  obtain ⟨z0, p0, f0, g0, h⟩ := pair_inv h
  obtain ⟨z1, p1, f1, g1, h⟩ := pair_inv h
  have h : p1 = [] := h
  obtain ⟨v1, rfl, g0⟩ := one_inv (r := sliceR clsR) rfl g0
  obtain ⟨v2, rfl, g1⟩ := one_inv (r := sliceR (intR .i64)) rfl g1
  exact ⟨v1, v2, by rw [f0, f1, h]; rfl, g0, g1⟩)
theorem into_zn : Into znR eZn := fun w S cs x ⟨v1, v2, h1, h2, h3⟩ => by
  subst h1
  refine ⟨rfl, fun j u av h6 h7 => ?_⟩
  match j with
  | 0 => simp at h6 h7; subst h6; subst h7; exact ⟨into_cls.slice h2, slice_one h2⟩
  | 1 => simp at h6 h7; subst h6; subst h7; exact ⟨into_int.slice h3, slice_one h3⟩
  | j + 2 => simp at h6
theorem rt_at {α : Type} {r : Rep α} {f : α → List AV} (h : Into r f) {w : World} {S : Nat → Prop} {cs : Array Value} {x : α} (hx : r.at_ w S cs.toList x) : RT w S (.agg cs) (.agg (f x)) := by
  obtain ⟨h1, h2⟩ := h w S cs.toList x hx
  exact .agg cs (f x) (by have := r.len hx; simp at this; omega) fun j u av h3 h4 => (h2 j u av (by simpa using h3) h4).1
theorem zn_attrs {w : World} {S : Nat → Prop} {cs : List Value} {z : Zn} (h : znR.at_ w S cs z) : ∀ x ∈ z.cls, ok64 x.attrs ∧ ok64 x.const :=
  h.elim fun v1 ⟨v2, _, h1, _⟩ => slice_all h1 fun cs y h8 => ⟨h8.2.1, h8.2.2⟩
theorem opens_arr2 {α : Type} {P : Program} {t e : TypeId} {r : Rep α} (ht : P.underlying t = some (.array 2 e)) (hs : P.cellsOf e = r.size) (hc : P.cellsOf t = r.size + r.size) (ho : Opens P e r) : Opens P t (pairR r r) := by
  intro H enc w fuel cs x hx
  obtain ⟨xs, m, rfl, _, hl, hn, hi⟩ := DataW.trod_array ht hx
  have h0 := hi 0 (by omega)
  have h1 := hi 1 (by omega)
  rw [List.getElem?_eq_getElem (by omega)] at h0 h1
  obtain ⟨a, ha⟩ := ho H enc w m _ _ h0
  obtain ⟨b, hb⟩ := ho H enc w m _ _ h1
  refine ⟨(a, b), _, _, ?_, ha, hb⟩
  rw [hs, Nat.zero_mul, Nat.one_mul, List.drop_zero]
  rw [List.take_of_length_le (l := cs.drop r.size) (by rw [List.length_drop]; omega), List.take_append_drop]
theorem okWide_arr {P : Program} {W : World} {r : Reach} {b n : Nat} {t e : TypeId} {v : Value} (ht : P.underlying t = some (.array n e)) (h : Value.okWide P W r b t v) : ∃ cs, v = .agg cs := by
  simp only [Value.okWide, ht] at h
  obtain ⟨cs, h1, _⟩ := h
  exact ⟨cs, h1⟩
theorem opensInts2 : Opens Try.prog 27 (pairR (intR .i64) (intR .i64)) := opens_arr2 Try.underlying27 (by kernel_rfl) (by kernel_rfl) opensInt
theorem rt_cells {w : World} {S : Nat → Prop} (vs : List Value) : RT w S (.agg vs.toArray) (.agg (vs.map .c)) := .agg _ _ (by simp) fun j u av h1 h2 => by
  rw [List.getElem?_map] at h2
  have h1' : vs[j]? = some u := by simpa using h1
  rw [h1'] at h2
  cases h2
  exact .c u
theorem ints2_inv {w : World} {S : Nat → Prop} {cs : Array Value} {p : Int × Int} (h : (pairR (intR .i64) (intR .i64)).at_ w S cs.toList p) : cs = [Value.int .i64 p.1, .int .i64 p.2].toArray ∧ ok64 p.1 ∧ ok64 p.2 := by
  obtain ⟨c0, c1, e, ⟨h0, k0⟩, ⟨h1, k1⟩⟩ := pair_inv h
  exact ⟨Array.ext' (by rw [e, h0, h1]; rfl), wf_i64 k0, wf_i64 k1⟩
end
end Go.Proofs.Ytbahakgmbceflaa
