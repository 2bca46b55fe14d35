/-
  bstep's Pass. No condition but lengths.
-/
import Derived.Test.YtfocnmkbnccilaaC4
set_option linter.unusedVariables false
set_option linter.unusedSimpArgs false
namespace Go.Proofs.Ytfocnmkbnccilaa
open Go.RowKit

def turnM (m : Mod) (event : Int) (s : St) (x : Bool × Int) : St := if firesM m s x event = true then fireM m s x else s
def passM (m : Mod) (event : Int) (s : St) (k : Nat) : St := (m.order.take k).foldl (turnM m event) s
theorem fireM_vals (m : Mod) (s : St) (x : Bool × Int) : (fireM m s x).vals = s.vals ∧ (fireM m s x).did = s.did ∧ (fireM m s x).cnt = s.cnt := by
  unfold fireM
  split
  · split
    · split <;> simp
    · simp
  · simp
theorem turnM_vals (m : Mod) (event : Int) (s : St) (x : Bool × Int) : (turnM m event s x).vals = s.vals ∧ (turnM m event s x).did = s.did ∧ (turnM m event s x).cnt = s.cnt := by
  unfold turnM
  split
  · exact fireM_vals m s x
  · simp
theorem fold_vals (m : Mod) (event : Int) : ∀ (l : List (Bool × Int)) (s : St), (l.foldl (turnM m event) s).vals = s.vals ∧ (l.foldl (turnM m event) s).did = s.did ∧ (l.foldl (turnM m event) s).cnt = s.cnt
  | [], s => by simp
  | x :: l, s => by
    have h := fold_vals m event l (turnM m event s x)
    have h2 := turnM_vals m event s x
    simp [h, h2]
set_option maxRecDepth 100000 in
set_option maxHeartbeats 4000000 in
theorem pass_A (m : Mod) (s : St) (event : Int) (hf : Fit m) (hc : condOk m) (hp : ∀ p ∈ m.stages, ok64 p.2) (hs : ∀ x ∈ s.vals, ok64 x) : ADet Try.prog 27 [.agg (eMod m), .agg (eSt s), eI event] ⟨.agg (eSt (passM m event s m.order.length)), [], 0⟩ := by
  refine adet_of_code mixedT Try.func27 rfl (by decide) Try.ntmps27 Try.results27 rfl (⟨fun id o h => (by cases h), ⟨trivial, trivial, trivial, trivial, trivial, trivial⟩⟩) ?_
  (repeat' (first | simp (maxSteps := 5000000) (implicitDefEqProofs := false) only [ruA, ruB, aEv, aTake, aLoad, aField, aIndex, aLen, aBin, bin2, aUn, un1, aExtract, aConv, ASt.get, aget, ASt.put, aStore, aBox, aAppend, aBuildSlice, aMake, aBuild, aFill, oneParts, allC, aBinS, yv, aCells, oneC, oneCL, treeC, treeL, aLit, aDst, aSrc, appTab, Value.cells, Value.oneCell', envOf, aResL, aOne, ↓reduceIte, reduceCtorEq, forall_const, Nat.reduceLT, Nat.reduceEqDiff, Nat.reduceAdd, Nat.reduceMul, Nat.reduceSub, Nat.reduceLeDiff, Nat.reduceBEq, eq_self, implies_true, ne_eq, dref, dref1, dref2, aExecS, aStoreB, aTakes, aTakeE, aElder, aFrom, aFresh, isLoad, aBuildSlice1, frzs, frz1, ownIds, AV.frz, AV.frzL, frzEnv, AV.shift, AV.shiftL, aFieldV, aSliceW, aSliceO, aSlice, aSliceR, aSliceS, aBd, aMax, frzAVs, frzAV, frzTab, AObj.frz, aMM, aNilS, tyA_38, tyS_38, tyZ_38, tyF_32_9, tyA_30, tyS_30, tyE_30, tyK_30, tyK_3, tyA_57, tyS_57, tyZ_57, tyA_32, tyS_32] | (with_reducible refine aIf_split (fun _ => ?_) (fun _ => ?_)) | (with_reducible refine aSel_split (fun _ => ?_) (fun _ => ?_)) | (with_reducible refine aGd_split (fun _ => ?_) (fun _ => ?_))))
  have hol : m.order.length ≤ 40 := hf.sizes.2.2.2.2.2.2.2.2.1
  have e0 : passM m event s 0 = s := rfl
  refine aLoop_of (fun s' => ∃ k : Nat, k ≤ m.order.length ∧ s' = ⟨31, [(2, eI event), (3, .op 0 0 0), (4, .op 1 0 0), (6, .op 2 0 0), (11, eI (m.order.length : Int)), (12, eI (k : Int))], [(0, some (.box 32 (eMod m))), (1, some (.box 38 (eSt (passM m event s k)))), (2, some (.box 38 [.c (.slice none 0 0), eI 0, eI 0, .c (.slice none 0 0), .c (.slice none 0 0)]))], 3⟩) (fun st => m.order.length - slotN st 12) ⟨_, (weak_cut1 (by (first | ((simp only [envIn, tabIn, envLt, tabLt, AObj.lt, AV.lt, AV.ltL, ruW, ASt.get, aget, ASt.put, ↓reduceIte, reduceCtorEq, Nat.reduceLT, Nat.reduceEqDiff, Nat.reduceAdd, Nat.reduceLeDiff, eq_self, implies_true, e0]) <;> (repeat' apply And.intro) <;> first | (rw [wrapK (by omega)]; done) | (simp; done) | omega) | fail))), 0, Nat.zero_le _, rfl⟩ ?_
  rintro _ ⟨k, hk, rfl⟩
  by_cases hlt : k < m.order.length
  · have ef : passM m event s (k + 1) = turnM m event (passM m event s k) m.order[k] := fold_snoc _ _ _ hlt
    have hv := fold_vals m event (m.order.take k) s
    have hs' : ∀ x ∈ (passM m event s k).vals, ok64 x := by
      unfold passM
      rw [hv.1]
      exact hs
    (repeat' (first | simp (maxSteps := 5000000) (implicitDefEqProofs := false) only [ruA, ruB, aEv, aTake, aLoad, aField, aIndex, aLen, aBin, bin2, aUn, un1, aExtract, aConv, ASt.get, aget, ASt.put, aStore, aBox, aAppend, aBuildSlice, aMake, aBuild, aFill, oneParts, allC, aBinS, yv, aCells, oneC, oneCL, treeC, treeL, aLit, aDst, aSrc, appTab, Value.cells, Value.oneCell', envOf, aResL, aOne, ↓reduceIte, reduceCtorEq, forall_const, Nat.reduceLT, Nat.reduceEqDiff, Nat.reduceAdd, Nat.reduceMul, Nat.reduceSub, Nat.reduceLeDiff, Nat.reduceBEq, eq_self, implies_true, ne_eq, dref, dref1, dref2, aExecS, aStoreB, aTakes, aTakeE, aElder, aFrom, aFresh, isLoad, aBuildSlice1, frzs, frz1, ownIds, AV.frz, AV.frzL, frzEnv, AV.shift, AV.shiftL, aFieldV, aSliceW, aSliceO, aSlice, aSliceR, aSliceS, aBd, aMax, frzAVs, frzAV, frzTab, AObj.frz, aMM, aNilS, tyA_38, tyS_38, tyZ_38, tyF_32_9, tyA_30, tyS_30, tyE_30, tyK_30, tyK_3, tyA_57, tyS_57, tyZ_57, tyA_32, tyS_32, row_at, hlt] | (with_reducible refine aIf_split (fun _ => ?_) (fun _ => ?_)) | (with_reducible refine aSel_split (fun _ => ?_) (fun _ => ?_)) | (with_reducible refine aGd_split (fun _ => ?_) (fun _ => ?_))))
    generalize passM m event s k = t at ef hs' ⊢
    generalize m.order[k] = x at ef ⊢
    refine callV (fires_A m t x.1 x.2 event hf hc hs') ?_
    (repeat' (first | simp (maxSteps := 5000000) (implicitDefEqProofs := false) only [ruA, ruB, aEv, aTake, aLoad, aField, aIndex, aLen, aBin, bin2, aUn, un1, aExtract, aConv, ASt.get, aget, ASt.put, aStore, aBox, aAppend, aBuildSlice, aMake, aBuild, aFill, oneParts, allC, aBinS, yv, aCells, oneC, oneCL, treeC, treeL, aLit, aDst, aSrc, appTab, Value.cells, Value.oneCell', envOf, aResL, aOne, ↓reduceIte, reduceCtorEq, forall_const, Nat.reduceLT, Nat.reduceEqDiff, Nat.reduceAdd, Nat.reduceMul, Nat.reduceSub, Nat.reduceLeDiff, Nat.reduceBEq, eq_self, implies_true, ne_eq, dref, dref1, dref2, aExecS, aStoreB, aTakes, aTakeE, aElder, aFrom, aFresh, isLoad, aBuildSlice1, frzs, frz1, ownIds, AV.frz, AV.frzL, frzEnv, AV.shift, AV.shiftL, aFieldV, aSliceW, aSliceO, aSlice, aSliceR, aSliceS, aBd, aMax, frzAVs, frzAV, frzTab, AObj.frz, aMM, aNilS, tyA_38, tyS_38, tyZ_38, tyF_32_9, tyA_30, tyS_30, tyE_30, tyK_30, tyK_3, tyA_57, tyS_57, tyZ_57, tyA_32, tyS_32] | (with_reducible refine aIf_split (fun _ => ?_) (fun _ => ?_)) | (with_reducible refine aSel_split (fun _ => ?_) (fun _ => ?_)) | (with_reducible refine aGd_split (fun _ => ?_) (fun _ => ?_))))
    · rename_i h
      have e1 : turnM m event t x = fireM m t x := if_pos h
      rw [e1] at ef
      refine callT (fire_A m t x.1 x.2 hf hp) (.inl (by simp [roL, roA, treeL, treeC])) ?_
      (repeat' (first | simp (maxSteps := 5000000) (implicitDefEqProofs := false) only [ruA, ruB, aEv, aTake, aLoad, aField, aIndex, aLen, aBin, bin2, aUn, un1, aExtract, aConv, ASt.get, aget, ASt.put, aStore, aBox, aAppend, aBuildSlice, aMake, aBuild, aFill, oneParts, allC, aBinS, yv, aCells, oneC, oneCL, treeC, treeL, aLit, aDst, aSrc, appTab, Value.cells, Value.oneCell', envOf, aResL, aOne, ↓reduceIte, reduceCtorEq, forall_const, Nat.reduceLT, Nat.reduceEqDiff, Nat.reduceAdd, Nat.reduceMul, Nat.reduceSub, Nat.reduceLeDiff, Nat.reduceBEq, eq_self, implies_true, ne_eq, dref, dref1, dref2, aExecS, aStoreB, aTakes, aTakeE, aElder, aFrom, aFresh, isLoad, aBuildSlice1, frzs, frz1, ownIds, AV.frz, AV.frzL, frzEnv, AV.shift, AV.shiftL, aFieldV, aSliceW, aSliceO, aSlice, aSliceR, aSliceS, aBd, aMax, frzAVs, frzAV, frzTab, AObj.frz, aMM, aNilS, tyA_38, tyS_38, tyZ_38, tyF_32_9, tyA_30, tyS_30, tyE_30, tyK_30, tyK_3, tyA_57, tyS_57, tyZ_57, tyA_32, tyS_32] | (with_reducible refine aIf_split (fun _ => ?_) (fun _ => ?_)) | (with_reducible refine aSel_split (fun _ => ?_) (fun _ => ?_)) | (with_reducible refine aGd_split (fun _ => ?_) (fun _ => ?_))))
      exact roundI (weak_cut1 (by (first | ((simp only [envIn, tabIn, envLt, tabLt, AObj.lt, AV.lt, AV.ltL, ruW, ASt.get, aget, ASt.put, ↓reduceIte, reduceCtorEq, Nat.reduceLT, Nat.reduceEqDiff, Nat.reduceAdd, Nat.reduceLeDiff, eq_self, implies_true, ef]) <;> (repeat' apply And.intro) <;> first | (rw [wrapK (by omega)]; done) | (simp; done) | omega) | fail))) ⟨k + 1, by omega, rfl⟩ (by simp only [slotN, ruW, ASt.get, aget, ASt.put, ↓reduceIte, reduceCtorEq, Nat.reduceLT, Nat.reduceEqDiff, Nat.reduceAdd, Nat.reduceLeDiff, eq_self, implies_true]; omega)
    · rename_i h
      have e1 : turnM m event t x = t := if_neg (by rw [show (x : Bool × Int) = (x.1, x.2) from rfl, h]; simp)
      rw [e1] at ef
      exact roundI (weak_cut1 (by (first | ((simp only [envIn, tabIn, envLt, tabLt, AObj.lt, AV.lt, AV.ltL, ruW, ASt.get, aget, ASt.put, ↓reduceIte, reduceCtorEq, Nat.reduceLT, Nat.reduceEqDiff, Nat.reduceAdd, Nat.reduceLeDiff, eq_self, implies_true, ef]) <;> (repeat' apply And.intro) <;> first | (rw [wrapK (by omega)]; done) | (simp; done) | omega) | fail))) ⟨k + 1, by omega, rfl⟩ (by simp only [slotN, ruW, ASt.get, aget, ASt.put, ↓reduceIte, reduceCtorEq, Nat.reduceLT, Nat.reduceEqDiff, Nat.reduceAdd, Nat.reduceLeDiff, eq_self, implies_true]; omega)
  · obtain rfl : k = m.order.length := by omega
    (repeat' (first | simp (maxSteps := 5000000) (implicitDefEqProofs := false) only [ruA, ruB, aEv, aTake, aLoad, aField, aIndex, aLen, aBin, bin2, aUn, un1, aExtract, aConv, ASt.get, aget, ASt.put, aStore, aBox, aAppend, aBuildSlice, aMake, aBuild, aFill, oneParts, allC, aBinS, yv, aCells, oneC, oneCL, treeC, treeL, aLit, aDst, aSrc, appTab, Value.cells, Value.oneCell', envOf, aResL, aOne, ↓reduceIte, reduceCtorEq, forall_const, Nat.reduceLT, Nat.reduceEqDiff, Nat.reduceAdd, Nat.reduceMul, Nat.reduceSub, Nat.reduceLeDiff, Nat.reduceBEq, eq_self, implies_true, ne_eq, dref, dref1, dref2, aExecS, aStoreB, aTakes, aTakeE, aElder, aFrom, aFresh, isLoad, aBuildSlice1, frzs, frz1, ownIds, AV.frz, AV.frzL, frzEnv, AV.shift, AV.shiftL, aFieldV, aSliceW, aSliceO, aSlice, aSliceR, aSliceS, aBd, aMax, frzAVs, frzAV, frzTab, AObj.frz, aMM, aNilS, tyA_38, tyS_38, tyZ_38, tyF_32_9, tyA_30, tyS_30, tyE_30, tyK_30, tyK_3, tyA_57, tyS_57, tyZ_57, tyA_32, tyS_32, row_at, hlt] | (with_reducible refine aIf_split (fun _ => ?_) (fun _ => ?_)) | (with_reducible refine aSel_split (fun _ => ?_) (fun _ => ?_)) | (with_reducible refine aGd_split (fun _ => ?_) (fun _ => ?_))))
    exact gives_tree (by simp only [AV.ren, AV.renL])
end Go.Proofs.Ytfocnmkbnccilaa
