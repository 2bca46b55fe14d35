/-
  Parts of the proof: Z4, EvOpen, ModOpen, CO, Z5.
-/
import Derived.Test.YtfeclebkaambhaaGreatAta10
import Derived.Test.YtfeclebkaambhaaGreatProg
set_option linter.unusedVariables false
set_option linter.unusedSimpArgs false
namespace Go.Proofs.YtfeclebkaambhaaGreat
section
open Go.RowKit
structure Nd where
  z : Zn
  opn : Int
  don : Int
  did : List Int
  cnt : List Int
abbrev eNd (n : Nd) : List AV := [.sl 2 (n.z.cls.map eCls), sI n.z.gaps, eI n.opn, eI n.don, sI n.did, sI n.cnt]
abbrev sNds (l : List Nd) : AV := .sl 6 (l.map eNd)
def statM (n : Nd) : St := ⟨[], n.opn, n.don, n.did, n.cnt⟩
noncomputable def atM (m : Mod) (c : List Int) (n : Nd) (x : Inst) : Bool := (askedM m (statM n) x).getD (optB (zholdsO [x] n.z c (statM n)))
theorem asked_cmp {m : Mod} {s : St} {x : Inst} (h : isCmp x = true) : askedM m s x = none := by
  have h3 : 3 ≤ x.op ∧ x.op ≤ 8 := by simpa [isCmp] using h
  unfold askedM
  simp only [show x.op ≠ 1 by omega, show x.op ≠ 2 by omega, show x.op ≠ 9 by omega, show x.op ≠ 10 by omega, show x.op ≠ 11 by omega, show x.op ≠ 12 by omega, show x.op ≠ 13 by omega, show x.op ≠ 14 by omega, if_false]
theorem asked_none {m : Mod} {s : St} {x : Inst} (h : isCmp x = false) (ha : askedM m s x = none) : ¬ (1 ≤ x.op ∧ x.op ≤ 14) := by
  rintro ⟨h1, h2⟩
  have h3 : ¬ (3 ≤ x.op ∧ x.op ≤ 8) := by
    intro h3
    have : isCmp x = true := by simp [isCmp, h3]
    rw [h] at this
    cases this
  unfold askedM at ha
  rcases (by omega : x.op = 1 ∨ x.op = 2 ∨ x.op = 9 ∨ x.op = 10 ∨ x.op = 11 ∨ x.op = 12 ∨ x.op = 13 ∨ x.op = 14) with e | e | e | e | e | e | e | e <;> rw [e] at ha <;> simp at ha
theorem zholds_none (x : Inst) (z : Zn) (c : List Int) (s : St) (h : ¬ (1 ≤ x.op ∧ x.op ≤ 14)) : optB (zholdsO [x] z c s) = false := by
  have h1 : arity x.op ≠ 0 := by
    unfold arity
    rw [if_neg h]
    split
    · decide
    · split <;> decide
  have h2 : pushN 0 x.op = none := by
    unfold pushN
    rw [if_neg h1, if_neg (by omega), if_neg (by omega)]
  have h3 : checkE ([x].map Inst.op) ≠ 0 := by
    simp [checkE, rowN, h2]
  unfold zholdsO holdsG
  rw [if_pos h3]
  split <;> rfl
theorem zholds_st (x : Inst) (z : Zn) (c : List Int) (s t : St) (h : isCmp x = true) : zholdsO [x] z c s = zholdsO [x] z c t := by
  have h3 : 3 ≤ x.op ∧ x.op ≤ 8 := by simpa [isCmp] using h
  unfold zholdsO holdsG
  simp only [runG]
  have : ∀ o d : Int, stepG (fun x => some (cmpZ z c x.la x.ln x.ra x.rn)) o d x [] = some [soB x.op (cmpZ z c x.la x.ln x.ra x.rn)] := fun o d => by
    unfold stepG
    simp only [show ¬ (x.op = 1 ∨ x.op = 2) by omega, if_false, h3, and_self, if_true]
  rw [this, this]
theorem at_ref (m : Mod) (c : List Int) (n : Nd) (x : Inst) : (if 3 ≤ x.op ∧ x.op ≤ 8 then optB (zholdsO [x] n.z c ⟨[], 0, 0, [], []⟩) else plainM m (statM n) x) = atM m c n x := by
  unfold atM plainM
  by_cases h : 3 ≤ x.op ∧ x.op ≤ 8
  · have hc : isCmp x = true := by simp [isCmp, h]
    rw [if_pos h, asked_cmp hc, zholds_st x n.z c ⟨[], 0, 0, [], []⟩ (statM n) hc]
    rfl
  · have hc : isCmp x = false := by
      cases hb : isCmp x
      · rfl
      · exact absurd (by simpa [isCmp] using hb) h
    rw [if_neg h]
    cases ha : askedM m (statM n) x with
    | some b => rfl
    | none =>
      rw [zholds_none x n.z c (statM n) (asked_none hc ha)]
set_option maxRecDepth 100000 in
set_option maxHeartbeats 8000000 in
theorem at_A33 (m : Mod) (c : List Int) (n : Nd) (x : Inst) (hl : m.events.length ≤ 1000000) (hl2 : m.users.length ≤ 1000000) (hl3 : m.miles.length ≤ 1000000) (hl4 : m.sods.length ≤ 1000000) (hx : x.ok) (h1 : n.z.cls.length ≤ 1000000) (h2 : c.length ≤ 1000000) (h3 : n.did.length ≤ 1000000) (h4 : n.cnt.length ≤ 1000000) :
    ADet Tryz.prog 9 [.agg (eMod m), sI c, .agg (eNd n), .agg (eInst x)] (val (.bool (atM m c n x))) := by
  refine adet_of_code mixedT Tryz.func9 rfl (by decide) Tryz.ntmps9 Tryz.results9 rfl (val_ok _) ?_
  have hS := status_A (n.z.cls.map eCls) (n.z.gaps.map fun n => [eI n]) n.opn n.don n.did n.cnt h3 h4
  have hA := asked_A m (statM n) x hl hl2 hl3 hl4
  have hA2 := hA.fits (args := [.agg (eMod m), .agg [.c (.slice none 0 0), eI n.opn, eI n.don, sI n.did, sI n.cnt], .agg (eInst x)]) ⟨.one (.refl _), .agg ⟨.nil 1, .refl _, .refl _, .refl _, .refl _, trivial⟩, .one (.refl _), trivial⟩
  cases ha : askedM m (statM n) x with
  | some b =>
    rw [ha] at hA2
    have hv : atM m c n x = b := by unfold atM; rw [ha]; rfl
    rw [hv]
    (repeat' (first | simp (maxSteps := 5000000) (implicitDefEqProofs := false) only [ruA, ruB, aEv, aTake, aLoad, aField, aIndex, aLen, aBin, bin2, aUn, un1, aExtract, aConv, ASt.get, aget, ASt.put, aStore, aBox, aAppend, aBuildSlice, aMake, aBuild, aFill, oneParts, allC, aBinS, yv, aCells, oneC, oneCL, treeC, treeL, aLit, aDst, aSrc, appTab, Value.cells, Value.oneCell', envOf, aResL, aOne, ↓reduceIte, reduceCtorEq, forall_const, Nat.reduceLT, Nat.reduceEqDiff, Nat.reduceAdd, Nat.reduceMul, Nat.reduceSub, Nat.reduceLeDiff, Nat.reduceBEq, eq_self, implies_true, ne_eq, dref, dref1, dref2, aExecS, aStoreB, aTakes, aTakeE, aElder, aFrom, aFresh, isLoad, aBuildSlice1, frzs, frz1, ownIds, AV.frz, AV.frzL, frzEnv, AV.shift, AV.shiftL, aFieldV, aSliceW, aSliceO, aSlice, aSliceR, aSliceS, aBd, aMax, frzAVs, frzAV, frzTab, AObj.frz, aMM, aNilS, aMay, tyA_48, tyS_48, tyZ_62, tyS_62, tyA_32, tyS_32, tyA_62, tyA_37, tyS_37, tyR_53, tyF_48_0, tyA_46, tyS_46, Option.isSome_some] | (with_reducible refine aIf_split (fun _ => ?_) (fun _ => ?_)) | (with_reducible refine aSel_split (fun _ => ?_) (fun _ => ?_)) | (with_reducible refine aGd_split (fun _ => ?_) (fun _ => ?_)) | (with_reducible refine aDraw_quiet (by kernel_rfl) ?_) | ((with_reducible apply callT); exact (hS); exact (.inl (by simp [roL, roA, treeL, treeC]))) | ((with_reducible apply callT); exact (hA2); exact (.inl (by simp [roL, roA, treeL, treeC])))))
    all_goals rfl
  | none =>
    rw [ha] at hA2
    have hv : atM m c n x = optB (zholdsO [x] n.z c (statM n)) := by unfold atM; rw [ha]; rfl
    rw [hv]
    have hZ := zholds_A [x] n.z c (statM n) (by simp) (by simpa using hx) h1 h2
    have hZ2 := hZ.fits (args := [sInsts [x], .agg (eZn n.z), sI c, .agg [.c (.slice none 0 0), eI n.opn, eI n.don, sI n.did, sI n.cnt]]) ⟨.one (.refl _), .one (.refl _), .one (.refl _), .agg ⟨.nil 1, .refl _, .refl _, .refl _, .refl _, trivial⟩, trivial⟩
    (repeat' (first | simp (maxSteps := 5000000) (implicitDefEqProofs := false) only [ruA, ruB, aEv, aTake, aLoad, aField, aIndex, aLen, aBin, bin2, aUn, un1, aExtract, aConv, ASt.get, aget, ASt.put, aStore, aBox, aAppend, aBuildSlice, aMake, aBuild, aFill, oneParts, allC, aBinS, yv, aCells, oneC, oneCL, treeC, treeL, aLit, aDst, aSrc, appTab, Value.cells, Value.oneCell', envOf, aResL, aOne, ↓reduceIte, reduceCtorEq, forall_const, Nat.reduceLT, Nat.reduceEqDiff, Nat.reduceAdd, Nat.reduceMul, Nat.reduceSub, Nat.reduceLeDiff, Nat.reduceBEq, eq_self, implies_true, ne_eq, dref, dref1, dref2, aExecS, aStoreB, aTakes, aTakeE, aElder, aFrom, aFresh, isLoad, aBuildSlice1, frzs, frz1, ownIds, AV.frz, AV.frzL, frzEnv, AV.shift, AV.shiftL, aFieldV, aSliceW, aSliceO, aSlice, aSliceR, aSliceS, aBd, aMax, frzAVs, frzAV, frzTab, AObj.frz, aMM, aNilS, aMay, tyA_48, tyS_48, tyZ_62, tyS_62, tyA_32, tyS_32, tyA_62, tyA_37, tyS_37, tyR_53, tyF_48_0, tyA_46, tyS_46, Option.isSome_none] | (with_reducible refine aIf_split (fun _ => ?_) (fun _ => ?_)) | (with_reducible refine aSel_split (fun _ => ?_) (fun _ => ?_)) | (with_reducible refine aGd_split (fun _ => ?_) (fun _ => ?_)) | (with_reducible refine aDraw_quiet (by kernel_rfl) ?_) | ((with_reducible apply callT); exact (hS); exact (.inl (by simp [roL, roA, treeL, treeC]))) | ((with_reducible apply callT); exact (hA2); exact (.inl (by simp [roL, roA, treeL, treeC])))))
    refine ⟨rfl, ?_⟩
    refine callZ [4] (R := ⟨.tup [eB (optB (zholdsO [x] n.z c (statM n))), eI (optE (zholdsO [x] n.z c (statM n)))], [], 0⟩) ?_ ?_ ?_
    · simp (maxSteps := 5000000) (implicitDefEqProofs := false) only [ruA, ruB, aEv, aTake, aLoad, aField, aIndex, aLen, aBin, bin2, aUn, un1, aExtract, aConv, ASt.get, aget, ASt.put, aStore, aBox, aAppend, aBuildSlice, aMake, aBuild, aFill, oneParts, allC, aBinS, yv, aCells, oneC, oneCL, treeC, treeL, aLit, aDst, aSrc, appTab, Value.cells, Value.oneCell', envOf, aResL, aOne, ↓reduceIte, reduceCtorEq, forall_const, Nat.reduceLT, Nat.reduceEqDiff, Nat.reduceAdd, Nat.reduceMul, Nat.reduceSub, Nat.reduceLeDiff, Nat.reduceBEq, eq_self, implies_true, ne_eq, dref, dref1, dref2, aExecS, aStoreB, aTakes, aTakeE, aElder, aFrom, aFresh, isLoad, aBuildSlice1, frzs, frz1, ownIds, AV.frz, AV.frzL, frzEnv, AV.shift, AV.shiftL, aFieldV, aSliceW, aSliceO, aSlice, aSliceR, aSliceS, aBd, aMax, frzAVs, frzAV, frzTab, AObj.frz, aMM, aNilS, aMay, tyA_48, tyS_48, tyZ_62, tyS_62, tyA_32, tyS_32, tyA_62, tyA_37, tyS_37, tyR_53, tyF_48_0, tyA_46, tyS_46]
      exact hZ2
    · simp (maxSteps := 5000000) (implicitDefEqProofs := false) only [ruA, ruB, aEv, aTake, aLoad, aField, aIndex, aLen, aBin, bin2, aUn, un1, aExtract, aConv, ASt.get, aget, ASt.put, aStore, aBox, aAppend, aBuildSlice, aMake, aBuild, aFill, oneParts, allC, aBinS, yv, aCells, oneC, oneCL, treeC, treeL, aLit, aDst, aSrc, appTab, Value.cells, Value.oneCell', envOf, aResL, aOne, ↓reduceIte, reduceCtorEq, forall_const, Nat.reduceLT, Nat.reduceEqDiff, Nat.reduceAdd, Nat.reduceMul, Nat.reduceSub, Nat.reduceLeDiff, Nat.reduceBEq, eq_self, implies_true, ne_eq, dref, dref1, dref2, aExecS, aStoreB, aTakes, aTakeE, aElder, aFrom, aFresh, isLoad, aBuildSlice1, frzs, frz1, ownIds, AV.frz, AV.frzL, frzEnv, AV.shift, AV.shiftL, aFieldV, aSliceW, aSliceO, aSlice, aSliceR, aSliceS, aBd, aMax, frzAVs, frzAV, frzTab, AObj.frz, aMM, aNilS, aMay, tyA_48, tyS_48, tyZ_62, tyS_62, tyA_32, tyS_32, tyA_62, tyA_37, tyS_37, tyR_53, tyF_48_0, tyA_46, tyS_46]
      left
      simp [roL, roA, treeL, treeC]
    · (repeat' (first | simp (maxSteps := 5000000) (implicitDefEqProofs := false) only [ruA, ruB, aEv, aTake, aLoad, aField, aIndex, aLen, aBin, bin2, aUn, un1, aExtract, aConv, ASt.get, aget, ASt.put, aStore, aBox, aAppend, aBuildSlice, aMake, aBuild, aFill, oneParts, allC, aBinS, yv, aCells, oneC, oneCL, treeC, treeL, aLit, aDst, aSrc, appTab, Value.cells, Value.oneCell', envOf, aResL, aOne, ↓reduceIte, reduceCtorEq, forall_const, Nat.reduceLT, Nat.reduceEqDiff, Nat.reduceAdd, Nat.reduceMul, Nat.reduceSub, Nat.reduceLeDiff, Nat.reduceBEq, eq_self, implies_true, ne_eq, dref, dref1, dref2, aExecS, aStoreB, aTakes, aTakeE, aElder, aFrom, aFresh, isLoad, aBuildSlice1, frzs, frz1, ownIds, AV.frz, AV.frzL, frzEnv, AV.shift, AV.shiftL, aFieldV, aSliceW, aSliceO, aSlice, aSliceR, aSliceS, aBd, aMax, frzAVs, frzAV, frzTab, AObj.frz, aMM, aNilS, aMay, tyA_48, tyS_48, tyZ_62, tyS_62, tyA_32, tyS_32, tyA_62, tyA_37, tyS_37, tyR_53, tyF_48_0, tyA_46, tyS_46] | (with_reducible refine aIf_split (fun _ => ?_) (fun _ => ?_)) | (with_reducible refine aSel_split (fun _ => ?_) (fun _ => ?_)) | (with_reducible refine aGd_split (fun _ => ?_) (fun _ => ?_)) | (with_reducible refine aDraw_quiet (by kernel_rfl) ?_)))
set_option maxRecDepth 100000 in
set_option maxHeartbeats 8000000 in
theorem statusR_A (n : Nd) (h1 : n.did.length ≤ 1000000) (h2 : n.cnt.length ≤ 1000000) : ADet Tryz.prog 15 [.agg (eNd n)] ⟨.agg [.c (.slice none 0 0), eI n.opn, eI n.don, sI n.did, sI n.cnt], [], 0⟩ := by
  refine ADet.still (R := ⟨.agg [.c (.slice none 0 0), eI n.opn, eI n.don, .osl 0, .osl 1], [(0, some (.row 3 1 (n.did.map fun n => [eI n]))), (1, some (.row 3 1 (n.cnt.map fun n => [eI n])))], 2⟩) [0, 1] ?_ (by simp [Res.frzs, Res.frz, ATab.get_cons, AV.frz, AV.frzL, frzTab, AObj.frz]) (by simp [AV.lt, AV.ltL])
  refine adet_of_code mixedT Tryz.func15 rfl (by decide) Tryz.ntmps15 Tryz.results15 rfl (tab_ok (by simp [tabLt, AObj.lt, AV.ltL, AV.lt]) (by simp [AV.lt, AV.ltL])) ?_
  (repeat' (first | simp (maxSteps := 5000000) (implicitDefEqProofs := false) only [ruA, ruB, aEv, aTake, aLoad, aField, aIndex, aLen, aBin, bin2, aUn, un1, aExtract, aConv, ASt.get, aget, ASt.put, aStore, aBox, aAppend, aBuildSlice, aMake, aBuild, aFill, oneParts, allC, aBinS, yv, aCells, oneC, oneCL, treeC, treeL, aLit, aDst, aSrc, appTab, Value.cells, Value.oneCell', envOf, aResL, aOne, ↓reduceIte, reduceCtorEq, forall_const, Nat.reduceLT, Nat.reduceEqDiff, Nat.reduceAdd, Nat.reduceMul, Nat.reduceSub, Nat.reduceLeDiff, Nat.reduceBEq, eq_self, implies_true, ne_eq, dref, dref1, dref2, aExecS, aStoreB, aTakes, aTakeE, aElder, aFrom, aFresh, isLoad, aBuildSlice1, frzs, frz1, ownIds, AV.frz, AV.frzL, frzEnv, AV.shift, AV.shiftL, aFieldV, aSliceW, aSliceO, aSlice, aSliceR, aSliceS, aBd, aMax, frzAVs, frzAV, frzTab, AObj.frz, aMM, aNilS, aMay, tyA_62, tyS_62, tyZ_62, tyF_48_1, tyA_3, tyS_3, tyF_48_2, tyR_44, tyF_48_3, tyA_44, tyS_44, tyF_48_4, tyB_62] | (with_reducible refine aIf_split (fun _ => ?_) (fun _ => ?_)) | (with_reducible refine aSel_split (fun _ => ?_) (fun _ => ?_)) | (with_reducible refine aGd_split (fun _ => ?_) (fun _ => ?_))))
  refine aDraw_held [1] [0, 1, 2, 3, 5, 6, 9, 10] (.two 4 (.two 7 (.exec 8 (.exec 11 (.take 12 (.exec 13 .done)))) 8 (.exec 7 (.exec 11 (.take 12 (.exec 13 .done))))) 8 (.exec 4 (.exec 7 (.exec 11 (.take 12 (.exec 13 .done)))))) (by kernel_rfl) (by simp [ATab.get_cons]) ?_
  (repeat' (first | simp (maxSteps := 5000000) (implicitDefEqProofs := false) only [ruA, ruB, aEv, aTake, aLoad, aField, aIndex, aLen, aBin, bin2, aUn, un1, aExtract, aConv, ASt.get, aget, ASt.put, aStore, aBox, aAppend, aBuildSlice, aMake, aBuild, aFill, oneParts, allC, aBinS, yv, aCells, oneC, oneCL, treeC, treeL, aLit, aDst, aSrc, appTab, Value.cells, Value.oneCell', envOf, aResL, aOne, ↓reduceIte, reduceCtorEq, forall_const, Nat.reduceLT, Nat.reduceEqDiff, Nat.reduceAdd, Nat.reduceMul, Nat.reduceSub, Nat.reduceLeDiff, Nat.reduceBEq, eq_self, implies_true, ne_eq, dref, dref1, dref2, aExecS, aStoreB, aTakes, aTakeE, aElder, aFrom, aFresh, isLoad, aBuildSlice1, frzs, frz1, ownIds, AV.frz, AV.frzL, frzEnv, AV.shift, AV.shiftL, aFieldV, aSliceW, aSliceO, aSlice, aSliceR, aSliceS, aBd, aMax, frzAVs, frzAV, frzTab, AObj.frz, aMM, aNilS, aMay, tyA_62, tyS_62, tyZ_62, tyF_48_1, tyA_3, tyS_3, tyF_48_2, tyR_44, tyF_48_3, tyA_44, tyS_44, tyF_48_4, tyB_62] | (with_reducible refine aIf_split (fun _ => ?_) (fun _ => ?_)) | (with_reducible refine aSel_split (fun _ => ?_) (fun _ => ?_)) | (with_reducible refine aGd_split (fun _ => ?_) (fun _ => ?_)) | (with_reducible refine aDraw_quiet (by kernel_rfl) ?_) | (with_reducible apply And.intro)))
  all_goals first
    | omega
    | rfl
    | exact ⟨[3, 5], by decide, rfl, by simp [aTabs, ATab.get_cons]⟩
    | exact ⟨[4, 5], by decide, rfl, by simp [aTabs, ATab.get_cons]⟩
    | exact ⟨[5, 4], by decide, rfl, by simp [aTabs, ATab.get_cons]⟩
    | exact ⟨[5, 3], by decide, rfl, by simp [aTabs, ATab.get_cons]⟩
    | trace_state
set_option maxRecDepth 100000 in
set_option maxHeartbeats 8000000 in
theorem atR_A (m : Mod) (c : List Int) (n : Nd) (x : Inst) (hst : m.stages.length ≤ 1000000) (hle : m.events.length ≤ 1000000) (hl : m.miles.length ≤ 1000000) (hl2 : m.sods.length ≤ 1000000) (hl3 : m.users.length ≤ 1000000) (hr : ∀ p ∈ m.roles, ok64 p.2)
    (h1 : n.z.cls.length ≤ 1000000) (h2 : c.length ≤ 1000) (h3 : n.did.length ≤ 1000000) (h4 : n.cnt.length ≤ 1000000) (hz : ∀ x ∈ n.z.cls, ok64 x.attrs) (ho : ok64 n.opn) (hd : ok64 n.don) (hdid : ∀ x ∈ n.did, ok64 x) :
    ADet Tryz.prog 8 [.agg (eMod m), sI c, .agg (eNd n), .agg (eInst x)] (val (.bool (atM m c n x))) := by
  refine adet_of_code mixedT Tryz.func8 rfl (by decide) Tryz.ntmps8 Tryz.results8 rfl (val_ok _) ?_
  rw [← at_ref]
  by_cases h : 3 ≤ x.op ∧ x.op ≤ 8
  · have hc : (decide (3 ≤ x.op) && decide (x.op ≤ 8)) = true := by simp [h]
    have hcc := compares33_A x
    rw [hc] at hcc
    rw [if_pos h]
    have hZ := zholdsR_A [x] n.z c ⟨[], 0, 0, [], []⟩ (by simp) h1 h2 hz (by simp [ok64]) (by simp [ok64])
    have hZ2 := hZ.fits (args := [sInsts [x], .agg (eZn n.z), sI c, .agg [.c (.slice none 0 0), eI 0, eI 0, .c (.slice none 0 0), .c (.slice none 0 0)]]) ⟨.one (.refl _), .one (.refl _), .one (.refl _), .agg ⟨.nil 1, .refl _, .refl _, .nil 1, .nil 1, trivial⟩, trivial⟩
    (repeat' (first | simp (maxSteps := 5000000) (implicitDefEqProofs := false) only [ruA, ruB, aEv, aTake, aLoad, aField, aIndex, aLen, aBin, bin2, aUn, un1, aExtract, aConv, ASt.get, aget, ASt.put, aStore, aBox, aAppend, aBuildSlice, aMake, aBuild, aFill, oneParts, allC, aBinS, yv, aCells, oneC, oneCL, treeC, treeL, aLit, aDst, aSrc, appTab, Value.cells, Value.oneCell', envOf, aResL, aOne, ↓reduceIte, reduceCtorEq, forall_const, Nat.reduceLT, Nat.reduceEqDiff, Nat.reduceAdd, Nat.reduceMul, Nat.reduceSub, Nat.reduceLeDiff, Nat.reduceBEq, eq_self, implies_true, ne_eq, dref, dref1, dref2, aExecS, aStoreB, aTakes, aTakeE, aElder, aFrom, aFresh, isLoad, aBuildSlice1, frzs, frz1, ownIds, AV.frz, AV.frzL, frzEnv, AV.shift, AV.shiftL, aFieldV, aSliceW, aSliceO, aSlice, aSliceR, aSliceS, aBd, aMax, frzAVs, frzAV, frzTab, AObj.frz, aMM, aNilS, aMay, tyA_37, tyS_37, tyR_53, tyF_48_0, tyA_46, tyS_46, tyB_62, tyA_32, tyS_32, tyA_48, tyS_48] | (with_reducible refine aIf_split (fun _ => ?_) (fun _ => ?_)) | (with_reducible refine aSel_split (fun _ => ?_) (fun _ => ?_)) | (with_reducible refine aGd_split (fun _ => ?_) (fun _ => ?_)) | (with_reducible refine aDraw_quiet (by kernel_rfl) ?_) | ((with_reducible apply callV); exact (hcc)) | ((with_reducible apply callD); exact (hcc))))
    refine ⟨rfl, ?_⟩
    refine callZ [3] (R := ⟨.tup [eB (optB (zholdsO [x] n.z c ⟨[], 0, 0, [], []⟩)), eI (optE (zholdsO [x] n.z c ⟨[], 0, 0, [], []⟩))], [], 0⟩) ?_ ?_ ?_
    · simp (maxSteps := 5000000) (implicitDefEqProofs := false) only [ruA, ruB, aEv, aTake, aLoad, aField, aIndex, aLen, aBin, bin2, aUn, un1, aExtract, aConv, ASt.get, aget, ASt.put, aStore, aBox, aAppend, aBuildSlice, aMake, aBuild, aFill, oneParts, allC, aBinS, yv, aCells, oneC, oneCL, treeC, treeL, aLit, aDst, aSrc, appTab, Value.cells, Value.oneCell', envOf, aResL, aOne, ↓reduceIte, reduceCtorEq, forall_const, Nat.reduceLT, Nat.reduceEqDiff, Nat.reduceAdd, Nat.reduceMul, Nat.reduceSub, Nat.reduceLeDiff, Nat.reduceBEq, eq_self, implies_true, ne_eq, dref, dref1, dref2, aExecS, aStoreB, aTakes, aTakeE, aElder, aFrom, aFresh, isLoad, aBuildSlice1, frzs, frz1, ownIds, AV.frz, AV.frzL, frzEnv, AV.shift, AV.shiftL, aFieldV, aSliceW, aSliceO, aSlice, aSliceR, aSliceS, aBd, aMax, frzAVs, frzAV, frzTab, AObj.frz, aMM, aNilS, aMay, tyA_37, tyS_37, tyR_53, tyF_48_0, tyA_46, tyS_46, tyB_62, tyA_32, tyS_32, tyA_48, tyS_48]
      exact hZ2
    · simp (maxSteps := 5000000) (implicitDefEqProofs := false) only [ruA, ruB, aEv, aTake, aLoad, aField, aIndex, aLen, aBin, bin2, aUn, un1, aExtract, aConv, ASt.get, aget, ASt.put, aStore, aBox, aAppend, aBuildSlice, aMake, aBuild, aFill, oneParts, allC, aBinS, yv, aCells, oneC, oneCL, treeC, treeL, aLit, aDst, aSrc, appTab, Value.cells, Value.oneCell', envOf, aResL, aOne, ↓reduceIte, reduceCtorEq, forall_const, Nat.reduceLT, Nat.reduceEqDiff, Nat.reduceAdd, Nat.reduceMul, Nat.reduceSub, Nat.reduceLeDiff, Nat.reduceBEq, eq_self, implies_true, ne_eq, dref, dref1, dref2, aExecS, aStoreB, aTakes, aTakeE, aElder, aFrom, aFresh, isLoad, aBuildSlice1, frzs, frz1, ownIds, AV.frz, AV.frzL, frzEnv, AV.shift, AV.shiftL, aFieldV, aSliceW, aSliceO, aSlice, aSliceR, aSliceS, aBd, aMax, frzAVs, frzAV, frzTab, AObj.frz, aMM, aNilS, aMay, tyA_37, tyS_37, tyR_53, tyF_48_0, tyA_46, tyS_46, tyB_62, tyA_32, tyS_32, tyA_48, tyS_48]
      left
      simp [roL, roA, treeL, treeC]
    · (repeat' (first | simp (maxSteps := 5000000) (implicitDefEqProofs := false) only [ruA, ruB, aEv, aTake, aLoad, aField, aIndex, aLen, aBin, bin2, aUn, un1, aExtract, aConv, ASt.get, aget, ASt.put, aStore, aBox, aAppend, aBuildSlice, aMake, aBuild, aFill, oneParts, allC, aBinS, yv, aCells, oneC, oneCL, treeC, treeL, aLit, aDst, aSrc, appTab, Value.cells, Value.oneCell', envOf, aResL, aOne, ↓reduceIte, reduceCtorEq, forall_const, Nat.reduceLT, Nat.reduceEqDiff, Nat.reduceAdd, Nat.reduceMul, Nat.reduceSub, Nat.reduceLeDiff, Nat.reduceBEq, eq_self, implies_true, ne_eq, dref, dref1, dref2, aExecS, aStoreB, aTakes, aTakeE, aElder, aFrom, aFresh, isLoad, aBuildSlice1, frzs, frz1, ownIds, AV.frz, AV.frzL, frzEnv, AV.shift, AV.shiftL, aFieldV, aSliceW, aSliceO, aSlice, aSliceR, aSliceS, aBd, aMax, frzAVs, frzAV, frzTab, AObj.frz, aMM, aNilS, aMay, tyA_37, tyS_37, tyR_53, tyF_48_0, tyA_46, tyS_46, tyB_62, tyA_32, tyS_32, tyA_48, tyS_48] | (with_reducible refine aIf_split (fun _ => ?_) (fun _ => ?_)) | (with_reducible refine aSel_split (fun _ => ?_) (fun _ => ?_)) | (with_reducible refine aGd_split (fun _ => ?_) (fun _ => ?_)) | (with_reducible refine aDraw_quiet (by kernel_rfl) ?_)))
  · have hc : (decide (3 ≤ x.op) && decide (x.op ≤ 8)) = false := by
      cases hb : (decide (3 ≤ x.op) && decide (x.op ≤ 8))
      · rfl
      · exact absurd (by simpa using hb) h
    have hcc := compares33_A x
    rw [hc] at hcc
    rw [if_neg h]
    have hS := statusR_A n h3 h4
    have hP := plain33_A m (statM n) x hst hle hl hl2 hl3 ho hd hr hdid
    have hP2 := hP.fits (args := [.agg (eMod m), .agg [.c (.slice none 0 0), eI n.opn, eI n.don, sI n.did, sI n.cnt], .agg (eInst x)]) ⟨.one (.refl _), .agg ⟨.nil 1, .refl _, .refl _, .refl _, .refl _, trivial⟩, .one (.refl _), trivial⟩
    (repeat' (first | simp (maxSteps := 5000000) (implicitDefEqProofs := false) only [ruA, ruB, aEv, aTake, aLoad, aField, aIndex, aLen, aBin, bin2, aUn, un1, aExtract, aConv, ASt.get, aget, ASt.put, aStore, aBox, aAppend, aBuildSlice, aMake, aBuild, aFill, oneParts, allC, aBinS, yv, aCells, oneC, oneCL, treeC, treeL, aLit, aDst, aSrc, appTab, Value.cells, Value.oneCell', envOf, aResL, aOne, ↓reduceIte, reduceCtorEq, forall_const, Nat.reduceLT, Nat.reduceEqDiff, Nat.reduceAdd, Nat.reduceMul, Nat.reduceSub, Nat.reduceLeDiff, Nat.reduceBEq, eq_self, implies_true, ne_eq, dref, dref1, dref2, aExecS, aStoreB, aTakes, aTakeE, aElder, aFrom, aFresh, isLoad, aBuildSlice1, frzs, frz1, ownIds, AV.frz, AV.frzL, frzEnv, AV.shift, AV.shiftL, aFieldV, aSliceW, aSliceO, aSlice, aSliceR, aSliceS, aBd, aMax, frzAVs, frzAV, frzTab, AObj.frz, aMM, aNilS, aMay, tyA_37, tyS_37, tyR_53, tyF_48_0, tyA_46, tyS_46, tyB_62, tyA_32, tyS_32, tyA_48, tyS_48] | (with_reducible refine aIf_split (fun _ => ?_) (fun _ => ?_)) | (with_reducible refine aSel_split (fun _ => ?_) (fun _ => ?_)) | (with_reducible refine aGd_split (fun _ => ?_) (fun _ => ?_))))
    refine callV hcc ?_
    (repeat' (first | simp (maxSteps := 5000000) (implicitDefEqProofs := false) only [ruA, ruB, aEv, aTake, aLoad, aField, aIndex, aLen, aBin, bin2, aUn, un1, aExtract, aConv, ASt.get, aget, ASt.put, aStore, aBox, aAppend, aBuildSlice, aMake, aBuild, aFill, oneParts, allC, aBinS, yv, aCells, oneC, oneCL, treeC, treeL, aLit, aDst, aSrc, appTab, Value.cells, Value.oneCell', envOf, aResL, aOne, ↓reduceIte, reduceCtorEq, forall_const, Nat.reduceLT, Nat.reduceEqDiff, Nat.reduceAdd, Nat.reduceMul, Nat.reduceSub, Nat.reduceLeDiff, Nat.reduceBEq, eq_self, implies_true, ne_eq, dref, dref1, dref2, aExecS, aStoreB, aTakes, aTakeE, aElder, aFrom, aFresh, isLoad, aBuildSlice1, frzs, frz1, ownIds, AV.frz, AV.frzL, frzEnv, AV.shift, AV.shiftL, aFieldV, aSliceW, aSliceO, aSlice, aSliceR, aSliceS, aBd, aMax, frzAVs, frzAV, frzTab, AObj.frz, aMM, aNilS, aMay, tyA_37, tyS_37, tyR_53, tyF_48_0, tyA_46, tyS_46, tyB_62, tyA_32, tyS_32, tyA_48, tyS_48] | (with_reducible refine aIf_split (fun _ => ?_) (fun _ => ?_)) | (with_reducible refine aSel_split (fun _ => ?_) (fun _ => ?_)) | (with_reducible refine aGd_split (fun _ => ?_) (fun _ => ?_))))
    refine aDraw_held [] [0, 1, 3] (.exec 2 (.exec 4 (.exec 5 .done))) (by kernel_rfl) (by simp [ATab.get_cons]) ?_
    (repeat' (first | simp (maxSteps := 5000000) (implicitDefEqProofs := false) only [ruA, ruB, aEv, aTake, aLoad, aField, aIndex, aLen, aBin, bin2, aUn, un1, aExtract, aConv, ASt.get, aget, ASt.put, aStore, aBox, aAppend, aBuildSlice, aMake, aBuild, aFill, oneParts, allC, aBinS, yv, aCells, oneC, oneCL, treeC, treeL, aLit, aDst, aSrc, appTab, Value.cells, Value.oneCell', envOf, aResL, aOne, ↓reduceIte, reduceCtorEq, forall_const, Nat.reduceLT, Nat.reduceEqDiff, Nat.reduceAdd, Nat.reduceMul, Nat.reduceSub, Nat.reduceLeDiff, Nat.reduceBEq, eq_self, implies_true, ne_eq, dref, dref1, dref2, aExecS, aStoreB, aTakes, aTakeE, aElder, aFrom, aFresh, isLoad, aBuildSlice1, frzs, frz1, ownIds, AV.frz, AV.frzL, frzEnv, AV.shift, AV.shiftL, aFieldV, aSliceW, aSliceO, aSlice, aSliceR, aSliceS, aBd, aMax, frzAVs, frzAV, frzTab, AObj.frz, aMM, aNilS, aMay, tyA_37, tyS_37, tyR_53, tyF_48_0, tyA_46, tyS_46, tyB_62, tyA_32, tyS_32, tyA_48, tyS_48] | (with_reducible refine aIf_split (fun _ => ?_) (fun _ => ?_)) | (with_reducible refine aSel_split (fun _ => ?_) (fun _ => ?_)) | (with_reducible refine aGd_split (fun _ => ?_) (fun _ => ?_)) | (with_reducible refine aDraw_quiet (by kernel_rfl) ?_) | ((with_reducible apply callT); exact (hS); exact (.inl (by simp [roL, roA, treeL, treeC]))) | ((with_reducible apply callV); exact (hP2)) | ((with_reducible apply callD); exact (hP2))))
set_option maxRecDepth 100000 in
set_option maxHeartbeats 8000000 in
theorem label33_A (m : Mod) (c : List Int) (l : List Nd) (x : Inst) (hl : m.events.length ≤ 1000000) (hl2 : m.users.length ≤ 1000000) (hl3 : m.miles.length ≤ 1000000) (hl4 : m.sods.length ≤ 1000000) (hx : x.ok) (h2 : c.length ≤ 1000000)
    (hll : l.length ≤ 1000000) (h1 : ∀ n ∈ l, n.z.cls.length ≤ 1000000 ∧ n.did.length ≤ 1000000 ∧ n.cnt.length ≤ 1000000) :
    ADet Tryz.prog 7 [.agg (eMod m), sI c, sNds l, .agg (eInst x)] (own 4 1 (l.map fun n => [eB (atM m c n x)])) := by
  refine adet_of_code mixedT Tryz.func7 rfl (by decide) Tryz.ntmps7 Tryz.results7 rfl (own_ok _ _ _) ?_
  (repeat' (first | simp (maxSteps := 5000000) (implicitDefEqProofs := false) only [ruA, ruB, aEv, aTake, aLoad, aField, aIndex, aLen, aBin, bin2, aUn, un1, aExtract, aConv, ASt.get, aget, ASt.put, aStore, aBox, aAppend, aBuildSlice, aMake, aBuild, aFill, oneParts, allC, aBinS, yv, aCells, oneC, oneCL, treeC, treeL, aLit, aDst, aSrc, appTab, Value.cells, Value.oneCell', envOf, aResL, aOne, ↓reduceIte, reduceCtorEq, forall_const, Nat.reduceLT, Nat.reduceEqDiff, Nat.reduceAdd, Nat.reduceMul, Nat.reduceSub, Nat.reduceLeDiff, Nat.reduceBEq, eq_self, implies_true, ne_eq, dref, dref1, dref2, aExecS, aStoreB, aTakes, aTakeE, aElder, aFrom, aFresh, isLoad, aBuildSlice1, frzs, frz1, ownIds, AV.frz, AV.frzL, frzEnv, AV.shift, AV.shiftL, aFieldV, aSliceW, aSliceO, aSlice, aSliceR, aSliceS, aBd, aMax, frzAVs, frzAV, frzTab, AObj.frz, aMM, aNilS, aMay, tyE_33, tyK_33, tyK_3, tyA_48, tyS_48, tyZ_48, tyA_32, tyS_32, tyA_37, tyS_37, tyR_49] | (with_reducible refine aIf_split (fun _ => ?_) (fun _ => ?_)) | (with_reducible refine aSel_split (fun _ => ?_) (fun _ => ?_)) | (with_reducible refine aGd_split (fun _ => ?_) (fun _ => ?_))))
  refine aLoop_of (fun st => ∃ k : Nat, k ≤ l.length ∧ st = ⟨28, [(1, sI c), (4, .op 0 0 0), (7, .op 1 0 0), (9, .osl 2), (12, sNds l), (13, eI (l.length : Int)), (14, eI (k : Int))], [(0, some (.box 32 (eMod m))), (1, some (.box 37 (eInst x))), (2, some (.row 4 1 ((l.take k).map fun n => [eB (atM m c n x)])))], 3⟩) (fun st => l.length - slotN st 14) ⟨_, ((weak_nil 9 4 1 (by simp only [ruW, ASt.get, aget, ASt.put, ↓reduceIte, reduceCtorEq, Nat.reduceLT, Nat.reduceEqDiff, Nat.reduceAdd, Nat.reduceLeDiff, eq_self, implies_true, List.take_zero, List.map_nil])).trans (weak_ren1 [0, 1, 2] ⟨(by decide), (by (first | ((simp only [envInR, tabInR, envLt, tabLt, AObj.lt, AV.lt, AV.ltL, AV.ren, AV.renL, AObj.ren, List.getD_cons_zero, List.getD_cons_succ, List.length_cons, List.length_nil, ruW, ASt.get, aget, ASt.put, ↓reduceIte, reduceCtorEq, Nat.reduceLT, Nat.reduceEqDiff, Nat.reduceAdd, Nat.reduceLeDiff, eq_self, implies_true, List.take_zero, List.map_nil]) <;> (repeat' apply And.intro) <;> first | (rw [wrapK (by omega)]; done) | (simp; done) | omega) | fail))⟩)), 0, Nat.zero_le _, rfl⟩ ?_
  rintro _ ⟨k, hk, rfl⟩
  by_cases hlt : k < l.length
  · obtain ⟨n, hn⟩ : ∃ n, l[k] = n := ⟨_, rfl⟩
    obtain ⟨g1, g2, g3⟩ := h1 n (hn ▸ List.getElem_mem hlt)
    have hA := at_A33 m c n x hl hl2 hl3 hl4 hx g1 h2 g2 g3
    have hsn : (l.take (k + 1)).map (fun n => [eB (atM m c n x)]) = (l.take k).map (fun n => [eB (atM m c n x)]) ++ [[eB (atM m c n x)]] := by rw [take_snoc _ l hlt, hn]
    have htl : (l.take k).length ≤ 1000000 := by rw [List.length_take]; omega
    (repeat' (first | simp (maxSteps := 5000000) (implicitDefEqProofs := false) only [ruA, ruB, aEv, aTake, aLoad, aField, aIndex, aLen, aBin, bin2, aUn, un1, aExtract, aConv, ASt.get, aget, ASt.put, aStore, aBox, aAppend, aBuildSlice, aMake, aBuild, aFill, oneParts, allC, aBinS, yv, aCells, oneC, oneCL, treeC, treeL, aLit, aDst, aSrc, appTab, Value.cells, Value.oneCell', envOf, aResL, aOne, ↓reduceIte, reduceCtorEq, forall_const, Nat.reduceLT, Nat.reduceEqDiff, Nat.reduceAdd, Nat.reduceMul, Nat.reduceSub, Nat.reduceLeDiff, Nat.reduceBEq, eq_self, implies_true, ne_eq, dref, dref1, dref2, aExecS, aStoreB, aTakes, aTakeE, aElder, aFrom, aFresh, isLoad, aBuildSlice1, frzs, frz1, ownIds, AV.frz, AV.frzL, frzEnv, AV.shift, AV.shiftL, aFieldV, aSliceW, aSliceO, aSlice, aSliceR, aSliceS, aBd, aMax, frzAVs, frzAV, frzTab, AObj.frz, aMM, aNilS, aMay, tyE_33, tyK_33, tyK_3, tyA_48, tyS_48, tyZ_48, tyA_32, tyS_32, tyA_37, tyS_37, tyR_49, row_at, hlt, hn] | (with_reducible refine aIf_split (fun _ => ?_) (fun _ => ?_)) | (with_reducible refine aSel_split (fun _ => ?_) (fun _ => ?_)) | (with_reducible refine aGd_split (fun _ => ?_) (fun _ => ?_)) | (with_reducible refine aDraw_quiet (by kernel_rfl) ?_) | ((with_reducible apply callV); exact (hA)) | ((with_reducible apply callD); exact (hA)) | (with_reducible apply And.intro)))
    all_goals first
      | rfl
      | omega
      | exact roundI (weak_ren1 [0, 1, 5] ⟨(by decide), (by (first | ((simp only [envInR, tabInR, envLt, tabLt, AObj.lt, AV.lt, AV.ltL, AV.ren, AV.renL, AObj.ren, List.getD_cons_zero, List.getD_cons_succ, List.length_cons, List.length_nil, ruW, ASt.get, aget, ASt.put, ↓reduceIte, reduceCtorEq, Nat.reduceLT, Nat.reduceEqDiff, Nat.reduceAdd, Nat.reduceLeDiff, eq_self, implies_true, hsn]) <;> (repeat' apply And.intro) <;> first | (rw [wrapK (by omega)]; done) | (simp; done) | omega) | fail))⟩) ⟨k + 1, by omega, rfl⟩ (by simp only [slotN, ruW, ASt.get, aget, ASt.put, ↓reduceIte, reduceCtorEq, Nat.reduceLT, Nat.reduceEqDiff, Nat.reduceAdd, Nat.reduceLeDiff, eq_self, implies_true]; omega)
      | trace_state
  · obtain rfl : k = l.length := by omega
    (repeat' (first | simp (maxSteps := 5000000) (implicitDefEqProofs := false) only [ruA, ruB, aEv, aTake, aLoad, aField, aIndex, aLen, aBin, bin2, aUn, un1, aExtract, aConv, ASt.get, aget, ASt.put, aStore, aBox, aAppend, aBuildSlice, aMake, aBuild, aFill, oneParts, allC, aBinS, yv, aCells, oneC, oneCL, treeC, treeL, aLit, aDst, aSrc, appTab, Value.cells, Value.oneCell', envOf, aResL, aOne, ↓reduceIte, reduceCtorEq, forall_const, Nat.reduceLT, Nat.reduceEqDiff, Nat.reduceAdd, Nat.reduceMul, Nat.reduceSub, Nat.reduceLeDiff, Nat.reduceBEq, eq_self, implies_true, ne_eq, dref, dref1, dref2, aExecS, aStoreB, aTakes, aTakeE, aElder, aFrom, aFresh, isLoad, aBuildSlice1, frzs, frz1, ownIds, AV.frz, AV.frzL, frzEnv, AV.shift, AV.shiftL, aFieldV, aSliceW, aSliceO, aSlice, aSliceR, aSliceS, aBd, aMax, frzAVs, frzAV, frzTab, AObj.frz, aMM, aNilS, aMay, tyE_33, tyK_33, tyK_3, tyA_48, tyS_48, tyZ_48, tyA_32, tyS_32, tyA_37, tyS_37, tyR_49, hlt, List.take_length] | (with_reducible refine aIf_split (fun _ => ?_) (fun _ => ?_)) | (with_reducible refine aSel_split (fun _ => ?_) (fun _ => ?_)) | (with_reducible refine aGd_split (fun _ => ?_) (fun _ => ?_)) | (with_reducible refine aDraw_quiet (by kernel_rfl) ?_)))
    all_goals exact aGives_own (by simp [ATab.get_cons])
set_option maxRecDepth 100000 in
theorem great22_A (z : Zn) : ARel Tryz.prog 11 [.agg (eZn z)] fun R => ∃ b, R = val (.bool b) ∧ (b = false → z.cls.length ≤ 40 ∧ z.gaps.length ≤ 40) := by
  refine arel_of_code mixedT Tryz.func11 rfl (by decide) Tryz.ntmps11 Tryz.results11 rfl ?_
  (repeat' (first | simp (maxSteps := 5000000) (implicitDefEqProofs := false) only [ruA, ruB, aEv, aTake, aLoad, aField, aIndex, aLen, aBin, bin2, aUn, un1, aExtract, aConv, ASt.get, aget, ASt.put, aStore, aBox, aAppend, aBuildSlice, aMake, aBuild, aFill, oneParts, allC, aBinS, yv, aCells, oneC, oneCL, treeC, treeL, aLit, aDst, aSrc, appTab, Value.cells, Value.oneCell', envOf, aResL, aOne, ↓reduceIte, reduceCtorEq, forall_const, Nat.reduceLT, Nat.reduceEqDiff, Nat.reduceAdd, Nat.reduceMul, Nat.reduceSub, Nat.reduceLeDiff, Nat.reduceBEq, eq_self, implies_true, ne_eq, dref, dref1, dref2, aExecS, aStoreB, aTakes, aTakeE, aElder, aFrom, aFresh, isLoad, aBuildSlice1, frzs, frz1, ownIds, AV.frz, AV.frzL, frzEnv, AV.shift, AV.shiftL, aFieldV, aSliceW, aSliceO, aSlice, aSliceR, aSliceS, aBd, aMax, frzAVs, frzAV, frzTab, AObj.frz, aMM, aNilS, aMay, tyF_46_0, tyA_43, tyS_43, tyE_43, tyK_43, tyK_3, tyF_46_1, tyA_44, tyS_44, tyE_44, tyK_44] | (with_reducible refine aIf_split (fun _ => ?_) (fun _ => ?_)) | (with_reducible refine aSel_split (fun _ => ?_) (fun _ => ?_)) | (with_reducible refine aGd_split (fun _ => ?_) (fun _ => ?_)) | (with_reducible refine aDraw_quiet (by kernel_rfl) ?_)))
  all_goals (rename_i h; simp at h)
  · exact retV ⟨true, rfl, by simp⟩
  · refine retV ⟨_, rfl, fun hb => ?_⟩
    simp at hb
    omega
set_option maxRecDepth 100000 in
theorem great27_A (n : Nd) : ARel Tryz.prog 6 [.agg (eNd n)] fun R => ∃ b, R = val (.bool b) ∧ (b = false → n.z.cls.length ≤ 40 ∧ n.did.length ≤ 20 ∧ n.cnt.length ≤ 20) := by
  refine arel_of_code mixedT Tryz.func6 rfl (by decide) Tryz.ntmps6 Tryz.results6 rfl ?_
  (repeat' (first | simp (maxSteps := 5000000) (implicitDefEqProofs := false) only [ruA, ruB, aEv, aTake, aLoad, aField, aIndex, aLen, aBin, bin2, aUn, un1, aExtract, aConv, ASt.get, aget, ASt.put, aStore, aBox, aAppend, aBuildSlice, aMake, aBuild, aFill, oneParts, allC, aBinS, yv, aCells, oneC, oneCL, treeC, treeL, aLit, aDst, aSrc, appTab, Value.cells, Value.oneCell', envOf, aResL, aOne, ↓reduceIte, reduceCtorEq, forall_const, Nat.reduceLT, Nat.reduceEqDiff, Nat.reduceAdd, Nat.reduceMul, Nat.reduceSub, Nat.reduceLeDiff, Nat.reduceBEq, eq_self, implies_true, ne_eq, dref, dref1, dref2, aExecS, aStoreB, aTakes, aTakeE, aElder, aFrom, aFresh, isLoad, aBuildSlice1, frzs, frz1, ownIds, AV.frz, AV.frzL, frzEnv, AV.shift, AV.shiftL, aFieldV, aSliceW, aSliceO, aSlice, aSliceR, aSliceS, aBd, aMax, frzAVs, frzAV, frzTab, AObj.frz, aMM, aNilS, aMay, tyF_48_0, tyA_46, tyS_46, tyF_48_3, tyA_44, tyS_44, tyE_44, tyK_44, tyK_3, tyF_48_4] | (with_reducible refine aIf_split (fun _ => ?_) (fun _ => ?_)) | (with_reducible refine aSel_split (fun _ => ?_) (fun _ => ?_)) | (with_reducible refine aGd_split (fun _ => ?_) (fun _ => ?_))))
  refine callPB (great22_A n.z) fun b hb => ?_
  cases b with
  | true =>
    (repeat' (first | simp (maxSteps := 5000000) (implicitDefEqProofs := false) only [ruA, ruB, aEv, aTake, aLoad, aField, aIndex, aLen, aBin, bin2, aUn, un1, aExtract, aConv, ASt.get, aget, ASt.put, aStore, aBox, aAppend, aBuildSlice, aMake, aBuild, aFill, oneParts, allC, aBinS, yv, aCells, oneC, oneCL, treeC, treeL, aLit, aDst, aSrc, appTab, Value.cells, Value.oneCell', envOf, aResL, aOne, ↓reduceIte, reduceCtorEq, forall_const, Nat.reduceLT, Nat.reduceEqDiff, Nat.reduceAdd, Nat.reduceMul, Nat.reduceSub, Nat.reduceLeDiff, Nat.reduceBEq, eq_self, implies_true, ne_eq, dref, dref1, dref2, aExecS, aStoreB, aTakes, aTakeE, aElder, aFrom, aFresh, isLoad, aBuildSlice1, frzs, frz1, ownIds, AV.frz, AV.frzL, frzEnv, AV.shift, AV.shiftL, aFieldV, aSliceW, aSliceO, aSlice, aSliceR, aSliceS, aBd, aMax, frzAVs, frzAV, frzTab, AObj.frz, aMM, aNilS, aMay, tyF_48_0, tyA_46, tyS_46, tyF_48_3, tyA_44, tyS_44, tyE_44, tyK_44, tyK_3, tyF_48_4] | (with_reducible refine aIf_split (fun _ => ?_) (fun _ => ?_)) | (with_reducible refine aSel_split (fun _ => ?_) (fun _ => ?_)) | (with_reducible refine aGd_split (fun _ => ?_) (fun _ => ?_)) | (with_reducible refine aDraw_quiet (by kernel_rfl) ?_)))
    all_goals exact retV ⟨true, rfl, by simp⟩
  | false =>
    obtain ⟨g1, g2⟩ := hb rfl
    (repeat' (first | simp (maxSteps := 5000000) (implicitDefEqProofs := false) only [ruA, ruB, aEv, aTake, aLoad, aField, aIndex, aLen, aBin, bin2, aUn, un1, aExtract, aConv, ASt.get, aget, ASt.put, aStore, aBox, aAppend, aBuildSlice, aMake, aBuild, aFill, oneParts, allC, aBinS, yv, aCells, oneC, oneCL, treeC, treeL, aLit, aDst, aSrc, appTab, Value.cells, Value.oneCell', envOf, aResL, aOne, ↓reduceIte, reduceCtorEq, forall_const, Nat.reduceLT, Nat.reduceEqDiff, Nat.reduceAdd, Nat.reduceMul, Nat.reduceSub, Nat.reduceLeDiff, Nat.reduceBEq, eq_self, implies_true, ne_eq, dref, dref1, dref2, aExecS, aStoreB, aTakes, aTakeE, aElder, aFrom, aFresh, isLoad, aBuildSlice1, frzs, frz1, ownIds, AV.frz, AV.frzL, frzEnv, AV.shift, AV.shiftL, aFieldV, aSliceW, aSliceO, aSlice, aSliceR, aSliceS, aBd, aMax, frzAVs, frzAV, frzTab, AObj.frz, aMM, aNilS, aMay, tyF_48_0, tyA_46, tyS_46, tyF_48_3, tyA_44, tyS_44, tyE_44, tyK_44, tyK_3, tyF_48_4] | (with_reducible refine aIf_split (fun _ => ?_) (fun _ => ?_)) | (with_reducible refine aSel_split (fun _ => ?_) (fun _ => ?_)) | (with_reducible refine aGd_split (fun _ => ?_) (fun _ => ?_)) | (with_reducible refine aDraw_quiet (by kernel_rfl) ?_)))
    all_goals with_reducible refine retV ⟨_, rfl, fun h => ?_⟩
    all_goals first | (cases h; done) | (simp_all; omega)
set_option maxRecDepth 100000 in
set_option maxHeartbeats 8000000 in
theorem atomsAt_A (m : Mod) (c : List Int) (l : List Nd) (x : Inst) (hr : ∀ p ∈ m.roles, ok64 p.2) (hx : x.ok) (hz : ∀ n ∈ l, (∀ y ∈ n.z.cls, ok64 y.attrs) ∧ ok64 n.opn ∧ ok64 n.don ∧ ∀ y ∈ n.did, ok64 y) :
    ADet Tryz.prog 3 [.agg (eMod m), sI c, .agg (sNds l :: eInst x)] (val (.bool true)) := by
  refine adet_of_code mixedT Tryz.func3 rfl (by decide) Tryz.ntmps3 Tryz.results3 rfl (val_ok _) ?_
  (repeat' (first | simp (maxSteps := 5000000) (implicitDefEqProofs := false) only [ruA, ruB, aEv, aTake, aLoad, aField, aIndex, aLen, aBin, bin2, aUn, un1, aExtract, aConv, ASt.get, aget, ASt.put, aStore, aBox, aAppend, aBuildSlice, aMake, aBuild, aFill, oneParts, allC, aBinS, yv, aCells, oneC, oneCL, treeC, treeL, aLit, aDst, aSrc, appTab, Value.cells, Value.oneCell', envOf, aResL, aOne, ↓reduceIte, reduceCtorEq, forall_const, Nat.reduceLT, Nat.reduceEqDiff, Nat.reduceAdd, Nat.reduceMul, Nat.reduceSub, Nat.reduceLeDiff, Nat.reduceBEq, eq_self, implies_true, ne_eq, dref, dref1, dref2, aExecS, aStoreB, aTakes, aTakeE, aElder, aFrom, aFresh, isLoad, aBuildSlice1, frzs, frz1, ownIds, AV.frz, AV.frzL, frzEnv, AV.shift, AV.shiftL, aFieldV, aSliceW, aSliceO, aSlice, aSliceR, aSliceS, aBd, aMax, frzAVs, frzAV, frzTab, AObj.frz, aMM, aNilS, aMay, tyA_32, tyS_32, tyE_23, tyK_23, tyK_3, tyF_39_0, tyA_33, tyS_33, tyE_33, tyK_33, tyA_48, tyS_48, tyF_39_1, tyA_37, tyS_37, tyE_49, tyK_49, tyA_4, tyS_4, tyK_4] | (with_reducible refine aIf_split (fun _ => ?_) (fun _ => ?_)) | (with_reducible refine aSel_split (fun _ => ?_) (fun _ => ?_)) | (with_reducible refine aGd_split (fun _ => ?_) (fun _ => ?_))))
  refine callPB (great12_A m) fun b hb => ?_
  cases b with
  | true =>
    (repeat' (first | simp (maxSteps := 5000000) (implicitDefEqProofs := false) only [ruA, ruB, aEv, aTake, aLoad, aField, aIndex, aLen, aBin, bin2, aUn, un1, aExtract, aConv, ASt.get, aget, ASt.put, aStore, aBox, aAppend, aBuildSlice, aMake, aBuild, aFill, oneParts, allC, aBinS, yv, aCells, oneC, oneCL, treeC, treeL, aLit, aDst, aSrc, appTab, Value.cells, Value.oneCell', envOf, aResL, aOne, ↓reduceIte, reduceCtorEq, forall_const, Nat.reduceLT, Nat.reduceEqDiff, Nat.reduceAdd, Nat.reduceMul, Nat.reduceSub, Nat.reduceLeDiff, Nat.reduceBEq, eq_self, implies_true, ne_eq, dref, dref1, dref2, aExecS, aStoreB, aTakes, aTakeE, aElder, aFrom, aFresh, isLoad, aBuildSlice1, frzs, frz1, ownIds, AV.frz, AV.frzL, frzEnv, AV.shift, AV.shiftL, aFieldV, aSliceW, aSliceO, aSlice, aSliceR, aSliceS, aBd, aMax, frzAVs, frzAV, frzTab, AObj.frz, aMM, aNilS, aMay, tyA_32, tyS_32, tyE_23, tyK_23, tyK_3, tyF_39_0, tyA_33, tyS_33, tyE_33, tyK_33, tyA_48, tyS_48, tyF_39_1, tyA_37, tyS_37, tyE_49, tyK_49, tyA_4, tyS_4, tyK_4] | (with_reducible refine aIf_split (fun _ => ?_) (fun _ => ?_)) | (with_reducible refine aSel_split (fun _ => ?_) (fun _ => ?_)) | (with_reducible refine aGd_split (fun _ => ?_) (fun _ => ?_)) | (with_reducible refine aDraw_quiet (by kernel_rfl) ?_) | ((with_reducible apply callV (g := 5)); exact (awake33_A)) | ((with_reducible apply callD (g := 5)); exact (awake33_A))))
  | false =>
    have hf := hb rfl
    obtain ⟨hgl, hml, hsl, hel, hal, hul, hrl, hsol, hol, hil⟩ := id hf.sizes
    by_cases hc : c.length ≤ 20
    · by_cases hll : l.length ≤ 20
      · have hc1 : decide (20 < (c.length : Int)) = false := by simp only [decide_eq_false_iff_not]; omega
        have hl1 : decide (20 < (l.length : Int)) = false := by simp only [decide_eq_false_iff_not]; omega
        have hc2 : decide (20 < c.length) = false := by simp only [decide_eq_false_iff_not]; omega
        have hl2 : decide (20 < l.length) = false := by simp only [decide_eq_false_iff_not]; omega
        (repeat' (first | simp (maxSteps := 5000000) (implicitDefEqProofs := false) only [ruA, ruB, aEv, aTake, aLoad, aField, aIndex, aLen, aBin, bin2, aUn, un1, aExtract, aConv, ASt.get, aget, ASt.put, aStore, aBox, aAppend, aBuildSlice, aMake, aBuild, aFill, oneParts, allC, aBinS, yv, aCells, oneC, oneCL, treeC, treeL, aLit, aDst, aSrc, appTab, Value.cells, Value.oneCell', envOf, aResL, aOne, ↓reduceIte, reduceCtorEq, forall_const, Nat.reduceLT, Nat.reduceEqDiff, Nat.reduceAdd, Nat.reduceMul, Nat.reduceSub, Nat.reduceLeDiff, Nat.reduceBEq, eq_self, implies_true, ne_eq, dref, dref1, dref2, aExecS, aStoreB, aTakes, aTakeE, aElder, aFrom, aFresh, isLoad, aBuildSlice1, frzs, frz1, ownIds, AV.frz, AV.frzL, frzEnv, AV.shift, AV.shiftL, aFieldV, aSliceW, aSliceO, aSlice, aSliceR, aSliceS, aBd, aMax, frzAVs, frzAV, frzTab, AObj.frz, aMM, aNilS, aMay, tyA_32, tyS_32, tyE_23, tyK_23, tyK_3, tyF_39_0, tyA_33, tyS_33, tyE_33, tyK_33, tyA_48, tyS_48, tyF_39_1, tyA_37, tyS_37, tyE_49, tyK_49, tyA_4, tyS_4, tyK_4, hc1, hl1, hc2, hl2] | (with_reducible refine aIf_split (fun _ => ?_) (fun _ => ?_)) | (with_reducible refine aSel_split (fun _ => ?_) (fun _ => ?_)) | (with_reducible refine aGd_split (fun _ => ?_) (fun _ => ?_)) | (with_reducible refine aDraw_quiet (by kernel_rfl) ?_)))
        refine aLoop_of (fun st => ∃ k : Nat, k ≤ l.length ∧ (∀ i (h : i < l.length), i < k → l[i].z.cls.length ≤ 40 ∧ l[i].did.length ≤ 20 ∧ l[i].cnt.length ≤ 20) ∧ st = ⟨90, [(1, sI c), (3, .op 0 0 0), (5, .op 1 0 0), (7, eI (k : Int))], [(0, some (.box 32 (eMod m))), (1, some (.box 39 (sNds l :: eInst x)))], 2⟩) (fun st => l.length - slotN st 7) ⟨_, (weak_cut1 (by (first | ((simp only [envIn, tabIn, envLt, tabLt, AObj.lt, AV.lt, AV.ltL, ruW, ASt.get, aget, ASt.put, ↓reduceIte, reduceCtorEq, Nat.reduceLT, Nat.reduceEqDiff, Nat.reduceAdd, Nat.reduceLeDiff, eq_self, implies_true]) <;> (repeat' apply And.intro) <;> first | (rw [wrapK (by omega)]; done) | (simp; done) | omega) | fail))), 0, Nat.zero_le _, fun i _ h => by omega, rfl⟩ ?_
        rintro _ ⟨k, hk, hn, rfl⟩
        by_cases hlt : k < l.length
        · (repeat' (first | simp (maxSteps := 5000000) (implicitDefEqProofs := false) only [ruA, ruB, aEv, aTake, aLoad, aField, aIndex, aLen, aBin, bin2, aUn, un1, aExtract, aConv, ASt.get, aget, ASt.put, aStore, aBox, aAppend, aBuildSlice, aMake, aBuild, aFill, oneParts, allC, aBinS, yv, aCells, oneC, oneCL, treeC, treeL, aLit, aDst, aSrc, appTab, Value.cells, Value.oneCell', envOf, aResL, aOne, ↓reduceIte, reduceCtorEq, forall_const, Nat.reduceLT, Nat.reduceEqDiff, Nat.reduceAdd, Nat.reduceMul, Nat.reduceSub, Nat.reduceLeDiff, Nat.reduceBEq, eq_self, implies_true, ne_eq, dref, dref1, dref2, aExecS, aStoreB, aTakes, aTakeE, aElder, aFrom, aFresh, isLoad, aBuildSlice1, frzs, frz1, ownIds, AV.frz, AV.frzL, frzEnv, AV.shift, AV.shiftL, aFieldV, aSliceW, aSliceO, aSlice, aSliceR, aSliceS, aBd, aMax, frzAVs, frzAV, frzTab, AObj.frz, aMM, aNilS, aMay, tyA_32, tyS_32, tyE_23, tyK_23, tyK_3, tyF_39_0, tyA_33, tyS_33, tyE_33, tyK_33, tyA_48, tyS_48, tyF_39_1, tyA_37, tyS_37, tyE_49, tyK_49, tyA_4, tyS_4, tyK_4, row_at, hlt] | (with_reducible refine aIf_split (fun _ => ?_) (fun _ => ?_)) | (with_reducible refine aSel_split (fun _ => ?_) (fun _ => ?_)) | (with_reducible refine aGd_split (fun _ => ?_) (fun _ => ?_))))
          refine callPB (great27_A l[k]) fun b2 hb2 => ?_
          cases b2 with
          | true =>
            (repeat' (first | simp (maxSteps := 5000000) (implicitDefEqProofs := false) only [ruA, ruB, aEv, aTake, aLoad, aField, aIndex, aLen, aBin, bin2, aUn, un1, aExtract, aConv, ASt.get, aget, ASt.put, aStore, aBox, aAppend, aBuildSlice, aMake, aBuild, aFill, oneParts, allC, aBinS, yv, aCells, oneC, oneCL, treeC, treeL, aLit, aDst, aSrc, appTab, Value.cells, Value.oneCell', envOf, aResL, aOne, ↓reduceIte, reduceCtorEq, forall_const, Nat.reduceLT, Nat.reduceEqDiff, Nat.reduceAdd, Nat.reduceMul, Nat.reduceSub, Nat.reduceLeDiff, Nat.reduceBEq, eq_self, implies_true, ne_eq, dref, dref1, dref2, aExecS, aStoreB, aTakes, aTakeE, aElder, aFrom, aFresh, isLoad, aBuildSlice1, frzs, frz1, ownIds, AV.frz, AV.frzL, frzEnv, AV.shift, AV.shiftL, aFieldV, aSliceW, aSliceO, aSlice, aSliceR, aSliceS, aBd, aMax, frzAVs, frzAV, frzTab, AObj.frz, aMM, aNilS, aMay, tyA_32, tyS_32, tyE_23, tyK_23, tyK_3, tyF_39_0, tyA_33, tyS_33, tyE_33, tyK_33, tyA_48, tyS_48, tyF_39_1, tyA_37, tyS_37, tyE_49, tyK_49, tyA_4, tyS_4, tyK_4] | (with_reducible refine aIf_split (fun _ => ?_) (fun _ => ?_)) | (with_reducible refine aSel_split (fun _ => ?_) (fun _ => ?_)) | (with_reducible refine aGd_split (fun _ => ?_) (fun _ => ?_)) | (with_reducible refine aDraw_quiet (by kernel_rfl) ?_) | ((with_reducible apply callV (g := 5)); exact (awake33_A)) | ((with_reducible apply callD (g := 5)); exact (awake33_A))))
          | false =>
            have h27 := hb2 rfl
            (repeat' (first | simp (maxSteps := 5000000) (implicitDefEqProofs := false) only [ruA, ruB, aEv, aTake, aLoad, aField, aIndex, aLen, aBin, bin2, aUn, un1, aExtract, aConv, ASt.get, aget, ASt.put, aStore, aBox, aAppend, aBuildSlice, aMake, aBuild, aFill, oneParts, allC, aBinS, yv, aCells, oneC, oneCL, treeC, treeL, aLit, aDst, aSrc, appTab, Value.cells, Value.oneCell', envOf, aResL, aOne, ↓reduceIte, reduceCtorEq, forall_const, Nat.reduceLT, Nat.reduceEqDiff, Nat.reduceAdd, Nat.reduceMul, Nat.reduceSub, Nat.reduceLeDiff, Nat.reduceBEq, eq_self, implies_true, ne_eq, dref, dref1, dref2, aExecS, aStoreB, aTakes, aTakeE, aElder, aFrom, aFresh, isLoad, aBuildSlice1, frzs, frz1, ownIds, AV.frz, AV.frzL, frzEnv, AV.shift, AV.shiftL, aFieldV, aSliceW, aSliceO, aSlice, aSliceR, aSliceS, aBd, aMax, frzAVs, frzAV, frzTab, AObj.frz, aMM, aNilS, aMay, tyA_32, tyS_32, tyE_23, tyK_23, tyK_3, tyF_39_0, tyA_33, tyS_33, tyE_33, tyK_33, tyA_48, tyS_48, tyF_39_1, tyA_37, tyS_37, tyE_49, tyK_49, tyA_4, tyS_4, tyK_4] | (with_reducible refine aIf_split (fun _ => ?_) (fun _ => ?_)) | (with_reducible refine aSel_split (fun _ => ?_) (fun _ => ?_)) | (with_reducible refine aGd_split (fun _ => ?_) (fun _ => ?_)) | (with_reducible refine aDraw_quiet (by kernel_rfl) ?_)))
            refine roundI (weak_cut1 (by (first | ((simp only [envIn, tabIn, envLt, tabLt, AObj.lt, AV.lt, AV.ltL, ruW, ASt.get, aget, ASt.put, ↓reduceIte, reduceCtorEq, Nat.reduceLT, Nat.reduceEqDiff, Nat.reduceAdd, Nat.reduceLeDiff, eq_self, implies_true]) <;> (repeat' apply And.intro) <;> first | (rw [wrapK (by omega)]; done) | (simp; done) | omega) | fail))) ⟨k + 1, by omega, fun i hi h2 => ?_, rfl⟩ (by simp only [slotN, ruW, ASt.get, aget, ASt.put, ↓reduceIte, reduceCtorEq, Nat.reduceLT, Nat.reduceEqDiff, Nat.reduceAdd, Nat.reduceLeDiff, eq_self, implies_true]; omega)
            rcases Nat.lt_or_ge i k with h3 | h3
            · exact hn i hi h3
            · obtain rfl : i = k := by omega
              exact h27
        · obtain rfl : k = l.length := by omega
          have hn2 : ∀ n ∈ l, n.z.cls.length ≤ 40 ∧ n.did.length ≤ 20 ∧ n.cnt.length ≤ 20 := fun n h => by
            obtain ⟨i, hi, rfl⟩ := List.getElem_of_mem h
            exact hn i hi hi
          have hL := label33_A m c l x (by omega) (by omega) (by omega) (by omega) hx (by omega) (by omega) (fun n h => by have := hn2 n h; omega)
          have hne : (((l.length : Nat) : Int) != ((l.length : Nat) : Int)) = false := by simp
          (repeat' (first | simp (maxSteps := 5000000) (implicitDefEqProofs := false) only [ruA, ruB, aEv, aTake, aLoad, aField, aIndex, aLen, aBin, bin2, aUn, un1, aExtract, aConv, ASt.get, aget, ASt.put, aStore, aBox, aAppend, aBuildSlice, aMake, aBuild, aFill, oneParts, allC, aBinS, yv, aCells, oneC, oneCL, treeC, treeL, aLit, aDst, aSrc, appTab, Value.cells, Value.oneCell', envOf, aResL, aOne, ↓reduceIte, reduceCtorEq, forall_const, Nat.reduceLT, Nat.reduceEqDiff, Nat.reduceAdd, Nat.reduceMul, Nat.reduceSub, Nat.reduceLeDiff, Nat.reduceBEq, eq_self, implies_true, ne_eq, dref, dref1, dref2, aExecS, aStoreB, aTakes, aTakeE, aElder, aFrom, aFresh, isLoad, aBuildSlice1, frzs, frz1, ownIds, AV.frz, AV.frzL, frzEnv, AV.shift, AV.shiftL, aFieldV, aSliceW, aSliceO, aSlice, aSliceR, aSliceS, aBd, aMax, frzAVs, frzAV, frzTab, AObj.frz, aMM, aNilS, aMay, tyA_32, tyS_32, tyE_23, tyK_23, tyK_3, tyF_39_0, tyA_33, tyS_33, tyE_33, tyK_33, tyA_48, tyS_48, tyF_39_1, tyA_37, tyS_37, tyE_49, tyK_49, tyA_4, tyS_4, tyK_4, hlt] | (with_reducible refine aIf_split (fun _ => ?_) (fun _ => ?_)) | (with_reducible refine aSel_split (fun _ => ?_) (fun _ => ?_)) | (with_reducible refine aGd_split (fun _ => ?_) (fun _ => ?_))))
          refine callO hL (.inr ?_) ?_
          · intro row hrow av hav
            obtain ⟨n, _, rfl⟩ := List.mem_map.1 hrow
            simp at hav
            subst hav
            simp [AV.plain]
          (repeat' (first | simp (maxSteps := 5000000) (implicitDefEqProofs := false) only [ruA, ruB, aEv, aTake, aLoad, aField, aIndex, aLen, aBin, bin2, aUn, un1, aExtract, aConv, ASt.get, aget, ASt.put, aStore, aBox, aAppend, aBuildSlice, aMake, aBuild, aFill, oneParts, allC, aBinS, yv, aCells, oneC, oneCL, treeC, treeL, aLit, aDst, aSrc, appTab, Value.cells, Value.oneCell', envOf, aResL, aOne, ↓reduceIte, reduceCtorEq, forall_const, Nat.reduceLT, Nat.reduceEqDiff, Nat.reduceAdd, Nat.reduceMul, Nat.reduceSub, Nat.reduceLeDiff, Nat.reduceBEq, eq_self, implies_true, ne_eq, dref, dref1, dref2, aExecS, aStoreB, aTakes, aTakeE, aElder, aFrom, aFresh, isLoad, aBuildSlice1, frzs, frz1, ownIds, AV.frz, AV.frzL, frzEnv, AV.shift, AV.shiftL, aFieldV, aSliceW, aSliceO, aSlice, aSliceR, aSliceS, aBd, aMax, frzAVs, frzAV, frzTab, AObj.frz, aMM, aNilS, aMay, tyA_32, tyS_32, tyE_23, tyK_23, tyK_3, tyF_39_0, tyA_33, tyS_33, tyE_33, tyK_33, tyA_48, tyS_48, tyF_39_1, tyA_37, tyS_37, tyE_49, tyK_49, tyA_4, tyS_4, tyK_4, hne, List.length_map] | (with_reducible refine aIf_split (fun _ => ?_) (fun _ => ?_)) | (with_reducible refine aSel_split (fun _ => ?_) (fun _ => ?_)) | (with_reducible refine aGd_split (fun _ => ?_) (fun _ => ?_)) | (with_reducible refine aDraw_quiet (by kernel_rfl) ?_)))
          refine aLoop_of (fun st => ∃ k : Nat, k ≤ l.length ∧ st = ⟨90, [(1, sI c), (3, .op 0 0 0), (5, .op 1 0 0), (8, .osl 2), (9, eI (k : Int))], [(0, some (.box 32 (eMod m))), (1, some (.box 39 (sNds l :: eInst x))), (2, some (.row 4 1 (l.map fun n => [eB (atM m c n x)])))], 3⟩) (fun st => l.length - slotN st 9) ⟨_, (weak_cut1 (by (first | ((simp only [envIn, tabIn, envLt, tabLt, AObj.lt, AV.lt, AV.ltL, ruW, ASt.get, aget, ASt.put, ↓reduceIte, reduceCtorEq, Nat.reduceLT, Nat.reduceEqDiff, Nat.reduceAdd, Nat.reduceLeDiff, eq_self, implies_true]) <;> (repeat' apply And.intro) <;> first | (rw [wrapK (by omega)]; done) | (simp; done) | omega) | fail))), 0, Nat.zero_le _, rfl⟩ ?_
          rintro _ ⟨k, hk, rfl⟩
          by_cases hlt2 : k < l.length
          · obtain ⟨n, hn3⟩ : ∃ n, l[k] = n := ⟨_, rfl⟩
            have hmem : n ∈ l := hn3 ▸ List.getElem_mem hlt2
            obtain ⟨g1, g2, g3⟩ := hn2 n hmem
            obtain ⟨z1, z2, z3, z4⟩ := hz n hmem
            have hA := at_A33 m c n x (by omega) (by omega) (by omega) (by omega) hx (by omega) (by omega) (by omega) (by omega)
            have hR := atR_A m c n x (by omega) (by omega) (by omega) (by omega) (by omega) hr (by omega) (by omega) (by omega) (by omega) z1 z2 z3 z4
            have hz0 : (!(atM m c n x == atM m c n x)) = false := by simp
            have hz1 : (atM m c n x != atM m c n x) = false := by simp
            (repeat' (first | simp (maxSteps := 5000000) (implicitDefEqProofs := false) only [ruA, ruB, aEv, aTake, aLoad, aField, aIndex, aLen, aBin, bin2, aUn, un1, aExtract, aConv, ASt.get, aget, ASt.put, aStore, aBox, aAppend, aBuildSlice, aMake, aBuild, aFill, oneParts, allC, aBinS, yv, aCells, oneC, oneCL, treeC, treeL, aLit, aDst, aSrc, appTab, Value.cells, Value.oneCell', envOf, aResL, aOne, ↓reduceIte, reduceCtorEq, forall_const, Nat.reduceLT, Nat.reduceEqDiff, Nat.reduceAdd, Nat.reduceMul, Nat.reduceSub, Nat.reduceLeDiff, Nat.reduceBEq, eq_self, implies_true, ne_eq, dref, dref1, dref2, aExecS, aStoreB, aTakes, aTakeE, aElder, aFrom, aFresh, isLoad, aBuildSlice1, frzs, frz1, ownIds, AV.frz, AV.frzL, frzEnv, AV.shift, AV.shiftL, aFieldV, aSliceW, aSliceO, aSlice, aSliceR, aSliceS, aBd, aMax, frzAVs, frzAV, frzTab, AObj.frz, aMM, aNilS, aMay, tyA_32, tyS_32, tyE_23, tyK_23, tyK_3, tyF_39_0, tyA_33, tyS_33, tyE_33, tyK_33, tyA_48, tyS_48, tyF_39_1, tyA_37, tyS_37, tyE_49, tyK_49, tyA_4, tyS_4, tyK_4, row_at, hlt2, hn3, hz0, hz1] | (with_reducible refine aIf_split (fun _ => ?_) (fun _ => ?_)) | (with_reducible refine aSel_split (fun _ => ?_) (fun _ => ?_)) | (with_reducible refine aGd_split (fun _ => ?_) (fun _ => ?_)) | (with_reducible refine aDraw_quiet (by kernel_rfl) ?_) | ((with_reducible apply callV); exact (hA)) | ((with_reducible apply callD); exact (hA)) | ((with_reducible apply callV); exact (hR)) | ((with_reducible apply callD); exact (hR))))
            exact roundI (weak_cut1 (by (first | ((simp only [envIn, tabIn, envLt, tabLt, AObj.lt, AV.lt, AV.ltL, ruW, ASt.get, aget, ASt.put, ↓reduceIte, reduceCtorEq, Nat.reduceLT, Nat.reduceEqDiff, Nat.reduceAdd, Nat.reduceLeDiff, eq_self, implies_true]) <;> (repeat' apply And.intro) <;> first | (rw [wrapK (by omega)]; done) | (simp; done) | omega) | fail))) ⟨k + 1, by omega, rfl⟩ (by simp only [slotN, ruW, ASt.get, aget, ASt.put, ↓reduceIte, reduceCtorEq, Nat.reduceLT, Nat.reduceEqDiff, Nat.reduceAdd, Nat.reduceLeDiff, eq_self, implies_true]; omega)
          · obtain rfl : k = l.length := by omega
            (repeat' (first | simp (maxSteps := 5000000) (implicitDefEqProofs := false) only [ruA, ruB, aEv, aTake, aLoad, aField, aIndex, aLen, aBin, bin2, aUn, un1, aExtract, aConv, ASt.get, aget, ASt.put, aStore, aBox, aAppend, aBuildSlice, aMake, aBuild, aFill, oneParts, allC, aBinS, yv, aCells, oneC, oneCL, treeC, treeL, aLit, aDst, aSrc, appTab, Value.cells, Value.oneCell', envOf, aResL, aOne, ↓reduceIte, reduceCtorEq, forall_const, Nat.reduceLT, Nat.reduceEqDiff, Nat.reduceAdd, Nat.reduceMul, Nat.reduceSub, Nat.reduceLeDiff, Nat.reduceBEq, eq_self, implies_true, ne_eq, dref, dref1, dref2, aExecS, aStoreB, aTakes, aTakeE, aElder, aFrom, aFresh, isLoad, aBuildSlice1, frzs, frz1, ownIds, AV.frz, AV.frzL, frzEnv, AV.shift, AV.shiftL, aFieldV, aSliceW, aSliceO, aSlice, aSliceR, aSliceS, aBd, aMax, frzAVs, frzAV, frzTab, AObj.frz, aMM, aNilS, aMay, tyA_32, tyS_32, tyE_23, tyK_23, tyK_3, tyF_39_0, tyA_33, tyS_33, tyE_33, tyK_33, tyA_48, tyS_48, tyF_39_1, tyA_37, tyS_37, tyE_49, tyK_49, tyA_4, tyS_4, tyK_4, hlt2, List.length_map] | (with_reducible refine aIf_split (fun _ => ?_) (fun _ => ?_)) | (with_reducible refine aSel_split (fun _ => ?_) (fun _ => ?_)) | (with_reducible refine aGd_split (fun _ => ?_) (fun _ => ?_)) | (with_reducible refine aDraw_quiet (by kernel_rfl) ?_) | ((with_reducible apply callV (g := 5)); exact (awake33_A)) | ((with_reducible apply callD (g := 5)); exact (awake33_A))))
      · have hc2 : decide (20 < c.length) = false := by simp only [decide_eq_false_iff_not]; omega
        have hl2 : decide (20 < l.length) = true := by simp only [decide_eq_true_eq]; omega
        have hc1 : decide (20 < (c.length : Int)) = false := by simp only [decide_eq_false_iff_not]; omega
        have hl1 : decide (20 < (l.length : Int)) = true := by simp only [decide_eq_true_eq]; omega
        (repeat' (first | simp (maxSteps := 5000000) (implicitDefEqProofs := false) only [ruA, ruB, aEv, aTake, aLoad, aField, aIndex, aLen, aBin, bin2, aUn, un1, aExtract, aConv, ASt.get, aget, ASt.put, aStore, aBox, aAppend, aBuildSlice, aMake, aBuild, aFill, oneParts, allC, aBinS, yv, aCells, oneC, oneCL, treeC, treeL, aLit, aDst, aSrc, appTab, Value.cells, Value.oneCell', envOf, aResL, aOne, ↓reduceIte, reduceCtorEq, forall_const, Nat.reduceLT, Nat.reduceEqDiff, Nat.reduceAdd, Nat.reduceMul, Nat.reduceSub, Nat.reduceLeDiff, Nat.reduceBEq, eq_self, implies_true, ne_eq, dref, dref1, dref2, aExecS, aStoreB, aTakes, aTakeE, aElder, aFrom, aFresh, isLoad, aBuildSlice1, frzs, frz1, ownIds, AV.frz, AV.frzL, frzEnv, AV.shift, AV.shiftL, aFieldV, aSliceW, aSliceO, aSlice, aSliceR, aSliceS, aBd, aMax, frzAVs, frzAV, frzTab, AObj.frz, aMM, aNilS, aMay, tyA_32, tyS_32, tyE_23, tyK_23, tyK_3, tyF_39_0, tyA_33, tyS_33, tyE_33, tyK_33, tyA_48, tyS_48, tyF_39_1, tyA_37, tyS_37, tyE_49, tyK_49, tyA_4, tyS_4, tyK_4, hc1, hl1, hc2, hl2] | (with_reducible refine aIf_split (fun _ => ?_) (fun _ => ?_)) | (with_reducible refine aSel_split (fun _ => ?_) (fun _ => ?_)) | (with_reducible refine aGd_split (fun _ => ?_) (fun _ => ?_)) | (with_reducible refine aDraw_quiet (by kernel_rfl) ?_) | ((with_reducible apply callV (g := 5)); exact (awake33_A)) | ((with_reducible apply callD (g := 5)); exact (awake33_A))))
    · have hc2 : decide (20 < c.length) = true := by simp only [decide_eq_true_eq]; omega
      have hc1 : decide (20 < (c.length : Int)) = true := by simp only [decide_eq_true_eq]; omega
      (repeat' (first | simp (maxSteps := 5000000) (implicitDefEqProofs := false) only [ruA, ruB, aEv, aTake, aLoad, aField, aIndex, aLen, aBin, bin2, aUn, un1, aExtract, aConv, ASt.get, aget, ASt.put, aStore, aBox, aAppend, aBuildSlice, aMake, aBuild, aFill, oneParts, allC, aBinS, yv, aCells, oneC, oneCL, treeC, treeL, aLit, aDst, aSrc, appTab, Value.cells, Value.oneCell', envOf, aResL, aOne, ↓reduceIte, reduceCtorEq, forall_const, Nat.reduceLT, Nat.reduceEqDiff, Nat.reduceAdd, Nat.reduceMul, Nat.reduceSub, Nat.reduceLeDiff, Nat.reduceBEq, eq_self, implies_true, ne_eq, dref, dref1, dref2, aExecS, aStoreB, aTakes, aTakeE, aElder, aFrom, aFresh, isLoad, aBuildSlice1, frzs, frz1, ownIds, AV.frz, AV.frzL, frzEnv, AV.shift, AV.shiftL, aFieldV, aSliceW, aSliceO, aSlice, aSliceR, aSliceS, aBd, aMax, frzAVs, frzAV, frzTab, AObj.frz, aMM, aNilS, aMay, tyA_32, tyS_32, tyE_23, tyK_23, tyK_3, tyF_39_0, tyA_33, tyS_33, tyE_33, tyK_33, tyA_48, tyS_48, tyF_39_1, tyA_37, tyS_37, tyE_49, tyK_49, tyA_4, tyS_4, tyK_4, hc1, hc2] | (with_reducible refine aIf_split (fun _ => ?_) (fun _ => ?_)) | (with_reducible refine aSel_split (fun _ => ?_) (fun _ => ?_)) | (with_reducible refine aGd_split (fun _ => ?_) (fun _ => ?_)) | (with_reducible refine aDraw_quiet (by kernel_rfl) ?_) | ((with_reducible apply callV (g := 5)); exact (awake33_A)) | ((with_reducible apply callD (g := 5)); exact (awake33_A))))
end
section
open Go.RowKit

theorem opensInt : Opens Tryz.prog 3 (intR .i64) := opens_int Tryz.underlying3
theorem opensI64 : Opens Tryz.prog 2 (intR .i64) := opens_int Tryz.underlying2
def valR : Rep (Int × Int × Unit) := pairR (intR .i64) (pairR (intR .i64) nilR)
theorem opensVal : Opens Tryz.prog 35 valR :=
  opens_struct Tryz.underlying35 (by kernel_rfl) (opensF_cons (by kernel_rfl) (by kernel_rfl) opensInt (opensF_cons (by kernel_rfl) (by kernel_rfl) opensI64 (opensF_nil _ _)))
def instP : Rep (Int × (Int × Int × Unit) × (Int × Int × Unit) × Int × Int × Unit) := pairR (intR .i64) (pairR valR (pairR valR (pairR (intR .i64) (pairR (intR .i64) nilR))))
theorem opensInstP : Opens Tryz.prog 37 instP :=
  opens_struct Tryz.underlying37 (by kernel_rfl) (opensF_cons (by kernel_rfl) (by kernel_rfl) opensInt (opensF_cons (by kernel_rfl) (by kernel_rfl) opensVal (opensF_cons (by kernel_rfl) (by kernel_rfl) opensVal (opensF_cons (by kernel_rfl) (by kernel_rfl) opensInt (opensF_cons (by kernel_rfl) (by kernel_rfl) opensInt (opensF_nil _ _))))))
theorem opensInst : Opens Tryz.prog 37 instR := opens_map opensInstP (fun p => ⟨p.1, p.2.1.1, p.2.1.2.1, p.2.2.1.1, p.2.2.1.2.1, p.2.2.2.1, p.2.2.2.2.1⟩) (by
  rintro w S cs ⟨op, ⟨la, ln, _⟩, ⟨ra, rn, _⟩, n, u, _⟩ h
  obtain ⟨c0, q0, e0, ⟨a0, h0⟩, h'⟩ := pair_inv h
  obtain ⟨c1, q1, e1, h1, h''⟩ := pair_inv h'
  obtain ⟨c2, q2, e2, h2, h3⟩ := pair_inv h''
  obtain ⟨c3, q3, e3, ⟨a3, h3'⟩, h4⟩ := pair_inv h3
  obtain ⟨c4, q4, e4, ⟨a4, h4'⟩, h5⟩ := pair_inv h4
  have h5 : q4 = [] := h5
  obtain ⟨d0, k0, f0, ⟨b0, g0⟩, m0⟩ := pair_inv h1
  obtain ⟨d1, k1, f1, ⟨b1, g1⟩, m1⟩ := pair_inv m0
  have m1 : k1 = [] := m1
  obtain ⟨d2, k2, f2, ⟨b2, g2⟩, m2⟩ := pair_inv h2
  obtain ⟨d3, k3, f3, ⟨b3, g3⟩, m3⟩ := pair_inv m2
  have m3 : k3 = [] := m3
  refine ⟨?_, wf_i64 h0, wf_i64 g0, wf_i64 g1, wf_i64 g2, wf_i64 g3, wf_i64 h3', wf_i64 h4'⟩
  rw [e0, e1, e2, e3, e4, h5, a0, f0, f1, m1, b0, b1, f2, f3, m3, b2, b3, a3, a4]
  rfl)
theorem opensInsts : Opens Tryz.prog 53 (sliceR instR) := opens_slice Tryz.underlying53 (by kernel_rfl) (by decide) opensInst
theorem opensI64s : Opens Tryz.prog 23 (sliceR (intR .i64)) := opens_slice Tryz.underlying23 (by kernel_rfl) (by decide) opensI64
theorem opensIntsE : Opens Tryz.prog 44 (sliceR (intR .i64)) := opens_slice Tryz.underlying44 (by kernel_rfl) (by decide) opensInt
end
section
open Go.RowKit

theorem opensStr : Opens Tryz.prog 9 strR := opens_string Tryz.underlying9
theorem opensBoolM : Opens Tryz.prog 4 boolR := opens_bool Tryz.underlying4
theorem opensNameInt {t : TypeId} (h : Opens Tryz.prog t (pairR strR (pairR (intR .i64) nilR))) : Opens Tryz.prog t nameIntR := opens_map h (fun p => (p.1, p.2.1)) (by
  rintro w S cs ⟨s, n, _⟩ h
  obtain ⟨c0, q0, e0, ⟨a0, h0⟩, h⟩ := pair_inv h
  obtain ⟨c1, q1, e1, ⟨a1, h1⟩, h⟩ := pair_inv h
  have h : q1 = [] := h
  exact ⟨by rw [e0, e1, a0, a1, h]; rfl, h0, wf_i64 h1⟩)
theorem opensStage : Opens Tryz.prog 190 nameIntR := opensNameInt (opens_struct Tryz.underlying190 (by kernel_rfl) (opensF_cons (by kernel_rfl) (by kernel_rfl) opensStr (opensF_cons (by kernel_rfl) (by kernel_rfl) opensInt (opensF_nil _ _))))
theorem opensRole : Opens Tryz.prog 124 nameIntR := opensNameInt (opens_struct Tryz.underlying124 (by kernel_rfl) (opensF_cons (by kernel_rfl) (by kernel_rfl) opensStr (opensF_cons (by kernel_rfl) (by kernel_rfl) opensInt (opensF_nil _ _))))
theorem opensSod : Opens Tryz.prog 122 intIntR := opens_map (r := pairR (intR .i64) (pairR (intR .i64) nilR)) (opens_struct Tryz.underlying122 (by kernel_rfl) (opensF_cons (by kernel_rfl) (by kernel_rfl) opensInt (opensF_cons (by kernel_rfl) (by kernel_rfl) opensInt (opensF_nil _ _)))) (fun p => (p.1, p.2.1)) (by
  rintro w S cs ⟨s, n, _⟩ h
  obtain ⟨c0, q0, e0, ⟨a0, h0⟩, h⟩ := pair_inv h
  obtain ⟨c1, q1, e1, ⟨a1, h1⟩, h⟩ := pair_inv h
  have h : q1 = [] := h
  exact ⟨by rw [e0, e1, a0, a1, h]; rfl, wf_i64 h0, wf_i64 h1⟩)
theorem opensSentry : Opens Tryz.prog 192 sentryR := opens_map (r := pairR boolR (pairR (intR .i64) nilR)) (opens_struct Tryz.underlying192 (by kernel_rfl) (opensF_cons (by kernel_rfl) (by kernel_rfl) opensBoolM (opensF_cons (by kernel_rfl) (by kernel_rfl) opensInt (opensF_nil _ _)))) (fun p => (p.1, p.2.1)) (by
  rintro w S cs ⟨s, n, _⟩ h
  obtain ⟨c0, q0, e0, a0, h⟩ := pair_inv h
  have a0 : c0 = [.bool s] := a0
  obtain ⟨c1, q1, e1, ⟨a1, h1⟩, h⟩ := pair_inv h
  have h : q1 = [] := h
  exact ⟨by rw [e0, e1, a0, a1, h]; rfl, wf_i64 h1⟩)
theorem opensGuard : Opens Tryz.prog 55 gdR := opens_map (r := pairR (intR .i64) (pairR (intR .i64) (pairR (sliceR instR) nilR))) (opens_struct Tryz.underlying55 (by kernel_rfl) (opensF_cons (by kernel_rfl) (by kernel_rfl) opensInt (opensF_cons (by kernel_rfl) (by kernel_rfl) opensInt (opensF_cons (by kernel_rfl) (by kernel_rfl) opensInsts (opensF_nil _ _))))) (fun p => ⟨p.1, p.2.1, p.2.2.1⟩) (by
  rintro w S cs ⟨s, n, l, _⟩ h
  obtain ⟨c0, q0, e0, ⟨a0, h0⟩, h⟩ := pair_inv h
  obtain ⟨c1, q1, e1, ⟨a1, h1⟩, h⟩ := pair_inv h
  obtain ⟨c2, q2, e2, h2, h⟩ := pair_inv h
  have h : q2 = [] := h
  obtain ⟨cv, rfl, h2⟩ := one_inv (r := sliceR instR) rfl h2
  exact ⟨cv, by rw [e0, e1, e2, a0, a1, h]; rfl, h2, wf_i64 h0, wf_i64 h1⟩)
theorem opensMile : Opens Tryz.prog 57 mlR := opens_map (r := pairR strR (pairR (intR .i64) (pairR (intR .i64) (pairR (sliceR instR) (pairR boolR nilR))))) (opens_struct Tryz.underlying57 (by kernel_rfl) (opensF_cons (by kernel_rfl) (by kernel_rfl) opensStr (opensF_cons (by kernel_rfl) (by kernel_rfl) opensInt (opensF_cons (by kernel_rfl) (by kernel_rfl) opensInt (opensF_cons (by kernel_rfl) (by kernel_rfl) opensInsts (opensF_cons (by kernel_rfl) (by kernel_rfl) opensBoolM (opensF_nil _ _))))))) (fun p => ⟨p.1, p.2.1, p.2.2.1, p.2.2.2.1, p.2.2.2.2.1⟩) (by
  rintro w S cs ⟨nm, s, n, l, b, _⟩ h
  obtain ⟨c9, q9, e9, ⟨a9, h9⟩, h⟩ := pair_inv h
  obtain ⟨c0, q0, e0, ⟨a0, h0⟩, h⟩ := pair_inv h
  obtain ⟨c1, q1, e1, ⟨a1, h1⟩, h⟩ := pair_inv h
  obtain ⟨c2, q2, e2, h2, h⟩ := pair_inv h
  obtain ⟨c3, q3, e3, a3, h⟩ := pair_inv h
  have a3 : c3 = [.bool b] := a3
  have h : q3 = [] := h
  obtain ⟨cv, rfl, h2⟩ := one_inv (r := sliceR instR) rfl h2
  exact ⟨cv, by rw [e9, e0, e1, e2, e3, a9, a0, a1, a3, h]; rfl, h2, wf_i64 h0, wf_i64 h1, h9⟩)
theorem opensEvent : Opens Tryz.prog 59 evR := opens_map (r := pairR strR (pairR (intR .i64) (pairR (intR .i64) (pairR (sliceR (intR .i64)) (pairR (intR .i64) nilR))))) (opens_struct Tryz.underlying59 (by kernel_rfl) (opensF_cons (by kernel_rfl) (by kernel_rfl) opensStr (opensF_cons (by kernel_rfl) (by kernel_rfl) opensInt (opensF_cons (by kernel_rfl) (by kernel_rfl) opensInt (opensF_cons (by kernel_rfl) (by kernel_rfl) opensIntsE (opensF_cons (by kernel_rfl) (by kernel_rfl) opensInt (opensF_nil _ _))))))) (fun p => ⟨p.1, p.2.1, p.2.2.1, p.2.2.2.1, p.2.2.2.2.1⟩) (by
  rintro w S cs ⟨nm, s, n, l, b, _⟩ h
  obtain ⟨c9, q9, e9, ⟨a9, h9⟩, h⟩ := pair_inv h
  obtain ⟨c0, q0, e0, ⟨a0, h0⟩, h⟩ := pair_inv h
  obtain ⟨c1, q1, e1, ⟨a1, h1⟩, h⟩ := pair_inv h
  obtain ⟨c2, q2, e2, h2, h⟩ := pair_inv h
  obtain ⟨c3, q3, e3, ⟨a3, h3⟩, h⟩ := pair_inv h
  have h : q3 = [] := h
  obtain ⟨cv, rfl, h2⟩ := one_inv (r := sliceR (intR .i64)) rfl h2
  exact ⟨cv, by rw [e9, e0, e1, e2, e3, a9, a0, a1, a3, h]; rfl, h2, wf_i64 h0, wf_i64 h1, wf_i64 h3, h9⟩)
abbrev modP := pairR (sliceR strR) (pairR (sliceR (intR .i64)) (pairR (sliceR strR) (pairR (sliceR nameIntR) (pairR (sliceR nameIntR) (pairR (sliceR evR) (pairR (sliceR gdR) (pairR (sliceR mlR) (pairR (sliceR intIntR) (pairR (sliceR sentryR) nilR)))))))))
set_option maxRecDepth 100000 in
theorem opensModP : Opens Tryz.prog 32 modP := opens_struct Tryz.underlying32 (by kernel_rfl) (opensF_cons (by kernel_rfl) (by kernel_rfl) (opens_slice Tryz.underlying22 (by kernel_rfl) (by decide) opensStr) (opensF_cons (by kernel_rfl) (by kernel_rfl) (opens_slice Tryz.underlying23 (by kernel_rfl) (by decide) opensI64) (opensF_cons (by kernel_rfl) (by kernel_rfl) (opens_slice Tryz.underlying22 (by kernel_rfl) (by decide) opensStr) (opensF_cons (by kernel_rfl) (by kernel_rfl) (opens_slice Tryz.underlying24 (by kernel_rfl) (by decide) opensRole) (opensF_cons (by kernel_rfl) (by kernel_rfl) (opens_slice Tryz.underlying25 (by kernel_rfl) (by decide) opensStage) (opensF_cons (by kernel_rfl) (by kernel_rfl) (opens_slice Tryz.underlying26 (by kernel_rfl) (by decide) opensEvent) (opensF_cons (by kernel_rfl) (by kernel_rfl) (opens_slice Tryz.underlying27 (by kernel_rfl) (by decide) opensGuard) (opensF_cons (by kernel_rfl) (by kernel_rfl) (opens_slice Tryz.underlying28 (by kernel_rfl) (by decide) opensMile) (opensF_cons (by kernel_rfl) (by kernel_rfl) (opens_slice Tryz.underlying29 (by kernel_rfl) (by decide) opensSod) (opensF_cons (by kernel_rfl) (by kernel_rfl) (opens_slice Tryz.underlying30 (by kernel_rfl) (by decide) opensSentry) (opensF_nil _ _)))))))))))
theorem open_mod {H : Type} {enc : TypeId × Value → H} {w : World} {fuel : Nat} {cs : Array Value} {x : DataW H × List MemPlace} (h : DataW.trod enc Tryz.prog w 0 (fun _ => true) true fuel 32 cs.toList = some x) :
    ∃ (V : MV) (m : Mod), cs = V.cells ∧ ModI w V m := by
  obtain ⟨⟨attrs, inits, users, roles, stages, events, guards, miles, sods, order, _⟩, h⟩ := opensModP H enc w fuel _ _ h
  obtain ⟨c0, q0, e0, h0, h⟩ := pair_inv h
  obtain ⟨c1, q1, e1, h1, h⟩ := pair_inv h
  obtain ⟨c2, q2, e2, h2, h⟩ := pair_inv h
  obtain ⟨c3, q3, e3, h3, h⟩ := pair_inv h
  obtain ⟨c4, q4, e4, h4, h⟩ := pair_inv h
  obtain ⟨c5, q5, e5, h5, h⟩ := pair_inv h
  obtain ⟨c6, q6, e6, h6, h⟩ := pair_inv h
  obtain ⟨c7, q7, e7, h7, h⟩ := pair_inv h
  obtain ⟨c8, q8, e8, h8, h⟩ := pair_inv h
  obtain ⟨c9, q9, e9, h9, h⟩ := pair_inv h
  obtain rfl : q9 = [] := h
  obtain ⟨v0, rfl, h0⟩ := one_inv (r := sliceR strR) rfl h0
  obtain ⟨v1, rfl, h1⟩ := one_inv (r := sliceR (intR .i64)) rfl h1
  obtain ⟨v2, rfl, h2⟩ := one_inv (r := sliceR strR) rfl h2
  obtain ⟨v3, rfl, h3⟩ := one_inv (r := sliceR nameIntR) rfl h3
  obtain ⟨v4, rfl, h4⟩ := one_inv (r := sliceR nameIntR) rfl h4
  obtain ⟨v5, rfl, h5⟩ := one_inv (r := sliceR evR) rfl h5
  obtain ⟨v6, rfl, h6⟩ := one_inv (r := sliceR gdR) rfl h6
  obtain ⟨v7, rfl, h7⟩ := one_inv (r := sliceR mlR) rfl h7
  obtain ⟨v8, rfl, h8⟩ := one_inv (r := sliceR intIntR) rfl h8
  obtain ⟨v9, rfl, h9⟩ := one_inv (r := sliceR sentryR) rfl h9
  refine ⟨⟨v0, v1, v2, v3, v4, v5, v6, v7, v8, v9⟩, ⟨attrs, inits, users, roles, stages, events, guards, miles, sods, order⟩, ?_, ⟨h0, h1, h2, h3, h4, h5, h6, h7, h8, h9⟩⟩
  apply Array.ext'
  rw [e0, e1, e2, e3, e4, e5, e6, e7, e8, e9]
  rfl
end
section
open Go.RowKit
def Into {α : Type} (r : Rep α) (f : α → List AV) : Prop := ∀ (w : World) (S : Nat → Prop) (cs : List Value) (x : α), r.at_ w S cs x → (f x).length = r.size ∧ ∀ (j : Nat) (u : Value) (av : AV), cs[j]? = some u → (f x)[j]? = some av → RT w S u av ∧ u.oneCell' = true
theorem Into.slice {α : Type} {r : Rep α} {f : α → List AV} (h : Into r f) {w : World} {S : Nat → Prop} {v : Value} {l : List α} (hv : (sliceR r).one w S v l) : RT w S v (.sl r.size (l.map f)) := by
  obtain ⟨A, c, rfl, h1, h2⟩ := slice_form hv
  by_cases h0 : 0 < l.length
  · obtain ⟨b, o, rfl, hb, hrow⟩ := slice_some hv h0
    classical
    let cs : Nat → List Value := fun i => if hi : i < l.length then (hrow i hi).choose else []
    have hcs : ∀ i (hi : i < l.length), (∀ (j : Nat) (u : Value), (cs i)[j]? = some u → w.cell? ⟨b, o + i * r.size + j, none⟩ = some u) ∧ r.at_ w S (cs i) l[i] := fun i hi => by
      have := (hrow i hi).choose_spec
      simpa [cs, hi] using this
    have key : ∀ (i j : Nat) (row : List AV) (av : AV), (l.map f)[i]? = some row → row[j]? = some av → ∃ hi : i < l.length, (cs i)[j]? = some ((cs i).getD j undef) ∧ RT w S ((cs i).getD j undef) av ∧ ((cs i).getD j undef).oneCell' = true := fun i j row av h3 h4 => by
      have hi : i < l.length := by
        have := (List.getElem?_eq_some_iff.1 h3).1
        simpa using this
      have hf : row = f l[i] := by
        rw [List.getElem?_map, List.getElem?_eq_getElem hi] at h3
        exact (Option.some.inj h3).symm
      subst hf
      obtain ⟨h5, h6⟩ := h w S (cs i) l[i] (hcs i hi).2
      have hj : j < (cs i).length := by
        rw [r.len (hcs i hi).2, ← h5]
        exact (List.getElem?_eq_some_iff.1 h4).1
      have e : (cs i)[j]? = some ((cs i).getD j undef) := by
        rw [List.getD_eq_getElem?_getD, List.getElem?_eq_getElem hj]
        rfl
      exact ⟨hi, e, h6 j _ av e h4⟩
    refine .sl _ _ c r.size _ b o (fun i j => (cs i).getD j undef) (by simp) h1 h2 (fun _ => ⟨rfl, hb⟩) (fun row hr => ?_) (fun _ i j row av h3 h4 => ?_) (fun i j row av h3 h4 => (key i j row av h3 h4).elim fun _ h => h.2.2) (fun i j row av h3 h4 => (key i j row av h3 h4).elim fun _ h => h.2.1)
    · obtain ⟨i, hi, rfl⟩ := List.getElem_of_mem hr
      have hi : i < l.length := by simpa using hi
      simp only [List.getElem_map]
      exact (h w S (cs i) l[i] (hcs i hi).2).1
    · obtain ⟨hi, h5, _⟩ := key i j row av h3 h4
      exact (hcs i hi).1 j _ h5
  · have : l = [] := List.length_eq_zero_iff.1 (by omega)
    subst this
    exact .sl A 0 c r.size [] 0 0 (fun _ _ => undef) rfl h1 h2 (fun h => by omega) (by simp) (fun h => by omega) (by simp) (by simp)
theorem into_cells {α : Type} {r : Rep α} {f : α → List AV} (g : α → List Value) (hg : ∀ w S cs x, r.at_ w S cs x → cs = g x) (hs : ∀ x, (g x).length = r.size) (ho : ∀ x u, u ∈ g x → u.oneCell' = true) (hf : ∀ x, f x = (g x).map .c) : Into r f := fun w S cs x h => by
  obtain rfl := hg w S cs x h
  rw [hf]
  refine ⟨by simp [hs], fun j u av h1 h2 => ?_⟩
  rw [List.getElem?_map, h1] at h2
  cases h2
  exact ⟨.c u, ho x u (List.mem_of_getElem? h1)⟩
theorem into_str : Into strR (fun s => [eS s]) := into_cells (fun s => [.string s]) (fun w S cs x h => h.1) (fun x => rfl) (fun x u h => by simp at h; subst h; rfl) (fun x => rfl)
theorem into_int : Into (intR .i64) (fun n => [eI n]) := into_cells (fun n => [.int .i64 n]) (fun w S cs x h => h.1) (fun x => rfl) (fun x u h => by simp at h; subst h; rfl) (fun x => rfl)
theorem into_ni : Into nameIntR eNI := into_cells (fun p => [.string p.1, .int .i64 p.2]) (fun w S cs x h => h.1) (fun x => rfl) (fun x u h => by simp at h; rcases h with rfl | rfl <;> rfl) (fun x => rfl)
theorem into_ii : Into intIntR eII := into_cells (fun p => [.int .i64 p.1, .int .i64 p.2]) (fun w S cs x h => h.1) (fun x => rfl) (fun x u h => by simp at h; rcases h with rfl | rfl <;> rfl) (fun x => rfl)
theorem into_bi : Into sentryR eBI := into_cells (fun p => [.bool p.1, .int .i64 p.2]) (fun w S cs x h => h.1) (fun x => rfl) (fun x u h => by simp at h; rcases h with rfl | rfl <;> rfl) (fun x => rfl)
theorem into_inst : Into instR eInst := into_cells Inst.cells (fun w S cs x h => h.1) (fun x => rfl) (fun x u h => by simp [Inst.cells] at h; rcases h with rfl | rfl | rfl | rfl | rfl | rfl | rfl <;> rfl) (fun x => rfl)
theorem slice_one {α : Type} {r : Rep α} {w : World} {S : Nat → Prop} {v : Value} {l : List α} (h : (sliceR r).one w S v l) : v.oneCell' = true := by
  obtain ⟨A, c, rfl, _⟩ := slice_form h
  rfl
theorem into_gd : Into gdR eGd := fun w S cs x ⟨cv, h1, h2, _⟩ => by
  subst h1
  refine ⟨rfl, fun j u av h3 h4 => ?_⟩
  match j with
  | 0 => simp at h3 h4; subst h3; subst h4; exact ⟨.c _, rfl⟩
  | 1 => simp at h3 h4; subst h3; subst h4; exact ⟨.c _, rfl⟩
  | 2 => simp at h3 h4; subst h3; subst h4; exact ⟨into_inst.slice h2, slice_one h2⟩
  | j + 3 => simp at h3
theorem into_ml : Into mlR eMl := fun w S cs x ⟨cv, h1, h2, _⟩ => by
  subst h1
  refine ⟨rfl, fun j u av h3 h4 => ?_⟩
  match j with
  | 0 => simp at h3 h4; subst h3; subst h4; exact ⟨.c _, rfl⟩
  | 1 => simp at h3 h4; subst h3; subst h4; exact ⟨.c _, rfl⟩
  | 2 => simp at h3 h4; subst h3; subst h4; exact ⟨.c _, rfl⟩
  | 3 => simp at h3 h4; subst h3; subst h4; exact ⟨into_inst.slice h2, slice_one h2⟩
  | 4 => simp at h3 h4; subst h3; subst h4; exact ⟨.c _, rfl⟩
  | j + 5 => simp at h3
theorem into_ev : Into evR eEv := fun w S cs x ⟨cv, h1, h2, _⟩ => by
  subst h1
  refine ⟨rfl, fun j u av h3 h4 => ?_⟩
  match j with
  | 0 => simp at h3 h4; subst h3; subst h4; exact ⟨.c _, rfl⟩
  | 1 => simp at h3 h4; subst h3; subst h4; exact ⟨.c _, rfl⟩
  | 2 => simp at h3 h4; subst h3; subst h4; exact ⟨.c _, rfl⟩
  | 3 => simp at h3 h4; subst h3; subst h4; exact ⟨into_int.slice h2, slice_one h2⟩
  | 4 => simp at h3 h4; subst h3; subst h4; exact ⟨.c _, rfl⟩
  | j + 5 => simp at h3
theorem rt_mod {w : World} {V : MV} {m : Mod} (h : ModI w V m) : RT w (fun b => b < w.heap.size) (.agg V.cells) (.agg (eMod m)) := by
  refine .agg _ _ rfl fun j u av h1 h2 => ?_
  match j with
  | 0 => simp [MV.cells] at h1 h2; subst h1; subst h2; exact into_str.slice h.attrs
  | 1 => simp [MV.cells] at h1 h2; subst h1; subst h2; exact into_int.slice h.inits
  | 2 => simp [MV.cells] at h1 h2; subst h1; subst h2; exact into_str.slice h.users
  | 3 => simp [MV.cells] at h1 h2; subst h1; subst h2; exact into_ni.slice h.roles
  | 4 => simp [MV.cells] at h1 h2; subst h1; subst h2; exact into_ni.slice h.stages
  | 5 => simp [MV.cells] at h1 h2; subst h1; subst h2; exact into_ev.slice h.events
  | 6 => simp [MV.cells] at h1 h2; subst h1; subst h2; exact into_gd.slice h.guards
  | 7 => simp [MV.cells] at h1 h2; subst h1; subst h2; exact into_ml.slice h.miles
  | 8 => simp [MV.cells] at h1 h2; subst h1; subst h2; exact into_ii.slice h.sods
  | 9 => simp [MV.cells] at h1 h2; subst h1; subst h2; exact into_bi.slice h.order
  | j + 10 => simp at h2
/-- every thing of a slice is one that may be -/
theorem slice_all {α : Type} {r : Rep α} {w : World} {S : Nat → Prop} {v : Value} {l : List α} {Q : α → Prop} (h : (sliceR r).one w S v l) (hq : ∀ cs x, r.at_ w S cs x → Q x) : ∀ x ∈ l, Q x := fun x hx => by
  obtain ⟨i, hi, rfl⟩ := List.getElem_of_mem hx
  obtain ⟨A, c, rfl, _⟩ := slice_form h
  obtain ⟨b, o, rfl, _, hrow⟩ := slice_some h (by omega)
  obtain ⟨cs, _, h2⟩ := hrow i hi
  exact hq cs _ h2
end
section
open Go.ChangeShapes Go.WideShapes Go.ChangeAt Go.RowKit
def clsR : Rep Cls where
  size := 2
  at_ := fun w S cs g => cs = [.int .i64 g.attrs, .int .i64 g.const] ∧ ok64 g.attrs ∧ ok64 g.const
  len := fun h => by rw [h.1]; rfl
  keep := fun h _ => h
  mono := fun h _ => h
theorem opensCls : Opens Tryz.prog 87 clsR := opens_map (r := pairR (intR .i64) (pairR (intR .i64) nilR)) (opens_struct Tryz.underlying87 (by kernel_rfl) (opensF_cons (by kernel_rfl) (by kernel_rfl) opensInt (opensF_cons (by kernel_rfl) (by kernel_rfl) opensInt (opensF_nil _ _)))) (fun p => ⟨p.1, p.2.1⟩) (by
  rintro w S cs ⟨s, n, _⟩ h
  obtain ⟨c0, q0, e0, ⟨a0, h0⟩, h⟩ := pair_inv h
  obtain ⟨c1, q1, e1, ⟨a1, h1⟩, h⟩ := pair_inv h
  have h : q1 = [] := h
  exact ⟨by rw [e0, e1, a0, a1, h]; rfl, wf_i64 h0, wf_i64 h1⟩)
theorem into_cls : Into clsR eCls := into_cells (fun p => [.int .i64 p.attrs, .int .i64 p.const]) (fun w S cs x h => h.1) (fun x => rfl) (fun x u h => by simp at h; rcases h with rfl | rfl <;> rfl) (fun x => rfl)
def ndR : Rep Nd where
  size := 6
  at_ := fun w S cs g => ∃ v1 v2 v3 v4, cs = [v1, v2, .int .i64 g.opn, .int .i64 g.don, v3, v4] ∧ (sliceR clsR).one w S v1 g.z.cls ∧ (sliceR (intR .i64)).one w S v2 g.z.gaps ∧ (sliceR (intR .i64)).one w S v3 g.did ∧ (sliceR (intR .i64)).one w S v4 g.cnt ∧ ok64 g.opn ∧ ok64 g.don
  len := fun ⟨_, _, _, _, h, _⟩ => by rw [h]; rfl
  keep := fun ⟨v1, v2, v3, v4, h, h1, h2, h3, h4, h5⟩ hk => ⟨v1, v2, v3, v4, h, slice_keep h1 hk, slice_keep h2 hk, slice_keep h3 hk, slice_keep h4 hk, h5⟩
  mono := fun ⟨v1, v2, v3, v4, h, h1, h2, h3, h4, h5⟩ hB => ⟨v1, v2, v3, v4, h, slice_mono h1 hB, slice_mono h2 hB, slice_mono h3 hB, slice_mono h4 hB, h5⟩
def znP : Rep (List Cls × List Int × Unit) := pairR (sliceR clsR) (pairR (sliceR (intR .i64)) nilR)
theorem opensZn : Opens Tryz.prog 46 znP := opens_struct Tryz.underlying46 (by kernel_rfl) (opensF_cons (by kernel_rfl) (by kernel_rfl) (opens_slice Tryz.underlying43 (by kernel_rfl) (by decide) opensCls) (opensF_cons (by kernel_rfl) (by kernel_rfl) opensIntsE (opensF_nil _ _)))
theorem opensNd : Opens Tryz.prog 48 ndR := opens_map (r := pairR znP (pairR (intR .i64) (pairR (intR .i64) (pairR (sliceR (intR .i64)) (pairR (sliceR (intR .i64)) nilR))))) (opens_struct Tryz.underlying48 (by kernel_rfl) (opensF_cons (by kernel_rfl) (by kernel_rfl) opensZn (opensF_cons (by kernel_rfl) (by kernel_rfl) opensInt (opensF_cons (by kernel_rfl) (by kernel_rfl) opensInt (opensF_cons (by kernel_rfl) (by kernel_rfl) opensIntsE (opensF_cons (by kernel_rfl) (by kernel_rfl) opensIntsE (opensF_nil _ _))))))) (fun p => ⟨⟨p.1.1, p.1.2.1⟩, p.2.1, p.2.2.1, p.2.2.2.1, p.2.2.2.2.1⟩) (by
  rintro w S cs ⟨⟨cl, gp, _⟩, o, d, di, cn, _⟩ h
  obtain ⟨c0, q0, e0, hz, h⟩ := pair_inv h
  obtain ⟨c1, q1, e1, ⟨a1, h1⟩, h⟩ := pair_inv h
  obtain ⟨c2, q2, e2, ⟨a2, h2⟩, h⟩ := pair_inv h
  obtain ⟨c3, q3, e3, h3, h⟩ := pair_inv h
  obtain ⟨c4, q4, e4, h4, h⟩ := pair_inv h
  have h : q4 = [] := h
  obtain ⟨z0, p0, f0, g0, hz⟩ := pair_inv hz
  obtain ⟨z1, p1, f1, g1, hz⟩ := pair_inv hz
  have hz : p1 = [] := hz
  obtain ⟨v1, rfl, g0⟩ := one_inv (r := sliceR clsR) rfl g0
  obtain ⟨v2, rfl, g1⟩ := one_inv (r := sliceR (intR .i64)) rfl g1
  obtain ⟨v3, rfl, h3⟩ := one_inv (r := sliceR (intR .i64)) rfl h3
  obtain ⟨v4, rfl, h4⟩ := one_inv (r := sliceR (intR .i64)) rfl h4
  exact ⟨v1, v2, v3, v4, by rw [e0, e1, e2, e3, e4, f0, f1, hz, a1, a2, h]; rfl, g0, g1, h3, h4, wf_i64 h1, wf_i64 h2⟩)
theorem into_nd : Into ndR eNd := fun w S cs x ⟨v1, v2, v3, v4, h1, h2, h3, h4, h5, _⟩ => by
  subst h1
  refine ⟨rfl, fun j u av h6 h7 => ?_⟩
  match j with
  | 0 => simp at h6 h7; subst h6; subst h7; exact ⟨into_cls.slice h2, slice_one h2⟩
  | 1 => simp at h6 h7; subst h6; subst h7; exact ⟨into_int.slice h3, slice_one h3⟩
  | 2 => simp at h6 h7; subst h6; subst h7; exact ⟨.c _, rfl⟩
  | 3 => simp at h6 h7; subst h6; subst h7; exact ⟨.c _, rfl⟩
  | 4 => simp at h6 h7; subst h6; subst h7; exact ⟨into_int.slice h4, slice_one h4⟩
  | 5 => simp at h6 h7; subst h6; subst h7; exact ⟨into_int.slice h5, slice_one h5⟩
  | j + 6 => simp at h6
def askP : Rep (List Nd × Inst × Unit) := pairR (sliceR ndR) (pairR instR nilR)
theorem opensAsk33 : Opens Tryz.prog 39 askP := opens_struct Tryz.underlying39 (by kernel_rfl) (opensF_cons (by kernel_rfl) (by kernel_rfl) (opens_slice Tryz.underlying33 (by kernel_rfl) (by decide) opensNd) (opensF_cons (by kernel_rfl) (by kernel_rfl) opensInst (opensF_nil _ _)))
theorem nds_ok {w : World} {S : Nat → Prop} {v : Value} {l : List Nd} (h : (sliceR ndR).one w S v l) : ∀ n ∈ l, (∀ y ∈ n.z.cls, ok64 y.attrs) ∧ ok64 n.opn ∧ ok64 n.don ∧ ∀ y ∈ n.did, ok64 y :=
  slice_all h fun cs x ⟨v1, v2, v3, v4, _, h2, h3, h4, h5, h6, h7⟩ => ⟨slice_all h2 fun cs y h8 => h8.2.1, h6, h7, slice_all h4 fun cs y h8 => wf_i64 h8.2⟩
end
end Go.Proofs.YtfeclebkaambhaaGreat
