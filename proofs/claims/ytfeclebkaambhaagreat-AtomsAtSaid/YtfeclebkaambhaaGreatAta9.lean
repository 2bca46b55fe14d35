/-
  Parts of the proof: F1, F2, F3, NumSpec, NumSortA, ZSortA, NumSortP, ZSortB, NumSortC, ZSortD.
-/
import Derived.Test.YtfeclebkaambhaaGreatAta8
import Derived.WalkKit
import Derived.WalkLawsBesides
import Derived.Test.YtfeclebkaambhaaGreatSortShelf
import Derived.Deep.LoopGhost
import Derived.Deep.Draws
import Derived.Deep.QuietTactic
import Derived.OpenShut
import Derived.ProofKit
import Derived.Lib.SlicesCompact
import Derived.Deep.AppendLies
import Derived.Deep.DeepCutAuto
import Derived.Sort.OwnSortedInts
set_option linter.unusedVariables false
set_option linter.unusedSimpArgs false
namespace Go.Proofs.YtfeclebkaambhaaGreat
section
open Go.RowKit
theorem can_A (m : Mod) (s : St) (event : Int) (hl : m.miles.length ≤ 1000000) (hl2 : m.sods.length ≤ 1000000) (hl3 : m.users.length ≤ 1000000) : ADet Tryz.prog 30 [.agg (eMod m), .agg (eSt s), eI event] (val (.bool (decide (0 < ((whoM m s event).length : Int))))) := by
  refine adet_of_code mixedT Tryz.func30 rfl (by decide) Tryz.ntmps30 Tryz.results30 rfl (val_ok _) ?_
  (repeat' (first | simp (maxSteps := 5000000) (implicitDefEqProofs := false) only [ruA, ruB, aEv, aTake, aLoad, aField, aIndex, aLen, aBin, bin2, aUn, un1, aExtract, aConv, ASt.get, aget, ASt.put, aStore, aBox, aAppend, aBuildSlice, aMake, aBuild, aFill, oneParts, allC, aBinS, yv, aCells, oneC, oneCL, treeC, treeL, aLit, aDst, aSrc, appTab, Value.cells, Value.oneCell', envOf, aResL, aOne, ↓reduceIte, reduceCtorEq, forall_const, Nat.reduceLT, Nat.reduceEqDiff, Nat.reduceAdd, Nat.reduceMul, Nat.reduceSub, Nat.reduceLeDiff, Nat.reduceBEq, eq_self, implies_true, ne_eq, dref, dref1, dref2, aExecS, aStoreB, aTakes, aTakeE, aElder, aFrom, aFresh, isLoad, aBuildSlice1, frzs, frz1, ownIds, AV.frz, AV.frzL, frzEnv, AV.shift, AV.shiftL, aFieldV, aSliceW, aSliceO, aSlice, aSliceR, aSliceS, aBd, aMax, frzAVs, frzAV, frzTab, AObj.frz, aMM, aNilS, aMay, tyA_32, tyS_32, tyA_62, tyS_62, tyE_44, tyK_44, tyK_3, List.length_map] | (with_reducible refine aIf_split (fun _ => ?_) (fun _ => ?_)) | (with_reducible refine aSel_split (fun _ => ?_) (fun _ => ?_)) | (with_reducible refine aGd_split (fun _ => ?_) (fun _ => ?_)) | (with_reducible refine aDraw_quiet (by kernel_rfl) ?_) | ((with_reducible apply callO (g := 49)); exact (who_A m s event hl hl2 hl3); exact (.inr ints_plain))))
noncomputable def openM (m : Mod) (s : St) : Bool := anyN (fun i => hasB s.opn (i : Int)) m.stages.length
noncomputable def freeAny (m : Mod) (s : St) : Bool := anyN (fun e => anyN (fun u => freeM m s (e : Int) (u : Int)) m.users.length) m.events.length
noncomputable def stuckM (m : Mod) (s : St) : Bool := openM m s && freeAny m s && !anyM m s
theorem and_nat (a : Int) (b : Nat) (hb : b < 2147483648) : bits .and .i64 a (b : Int) = ((low a &&& b : Nat) : Int) := by
  show IntKind.i64.wrap ((BitVec.ofInt 64 a &&& BitVec.ofInt 64 (b : Int)).toNat : Int) = _
  have hbb : b &&& (2 ^ 31 - 1) = b := by rw [Nat.and_two_pow_sub_one_eq_mod]; omega
  have h : (BitVec.ofInt 64 a &&& BitVec.ofInt 64 (b : Int)).toNat = low a &&& b := by
    rw [BitVec.toNat_and, ofInt_nat64 b (by omega), BitVec.toNat_ofInt]
    have e : low a = (a % ((2 ^ 64 : Nat) : Int)).toNat &&& (2 ^ 31 - 1) := by
      rw [Nat.and_two_pow_sub_one_eq_mod]
      unfold low
      omega
    rw [e, Nat.and_assoc, Nat.and_comm (2 ^ 31 - 1) b, hbb]
  rw [h]
  exact wrap_nat _ (Nat.lt_of_le_of_lt Nat.and_le_right (by omega))
theorem open_and (m : Mod) (s : St) : (bits .and .i64 s.opn (firstI (m.stages.length : Int)) == 0) = !openM m s := by
  rw [firstI_nat, and_nat _ _ (by have := firstI_31 m.stages.length; rw [firstI_nat] at this; omega)]
  rw [Bool.eq_iff_iff]
  have key : (low s.opn &&& (2 ^ min m.stages.length 31 - 1) = 0) ↔ ¬ openM m s = true := by
    unfold openM
    rw [anyN_iff]
    constructor
    · rintro h ⟨i, hi, hh⟩
      by_cases h31 : i < 31
      · rw [hasB_low _ _ h31] at hh
        have : (low s.opn &&& (2 ^ min m.stages.length 31 - 1)).testBit i = true := by
          rw [Nat.testBit_and, hh, Nat.testBit_two_pow_sub_one]
          simp
          omega
        rw [h] at this
        simp at this
      · rw [hasB_out _ _ (by omega)] at hh
        cases hh
    · intro h
      apply Nat.eq_of_testBit_eq
      intro i
      rw [Nat.testBit_and, Nat.testBit_two_pow_sub_one, Nat.zero_testBit]
      by_cases hi : i < min m.stages.length 31
      · cases hb : (low s.opn).testBit i
        · rfl
        · exact absurd ⟨i, by omega, by rw [hasB_low _ _ (by omega), hb]⟩ h
      · simp [hi]
  rw [beq_iff_eq, Bool.not_eq_true', ← Bool.not_eq_true, ← key]
  omega
theorem free_done (m : Mod) (s : St) (h : freeAny m s = true) : completeM m s = false := by
  unfold freeAny at h
  obtain ⟨e, he, h⟩ := (anyN_iff _ _).1 h
  obtain ⟨u, hu, h⟩ := (anyN_iff _ _).1 h
  unfold freeM at h
  cases hc : completeM m s
  · rfl
  · rw [hc] at h
    simp at h
    split at h <;> cases h
set_option maxRecDepth 100000 in
set_option maxHeartbeats 8000000 in
theorem stuck_A (m : Mod) (s : St) (hl : m.events.length ≤ 1000000) (hl2 : m.users.length ≤ 1000000) (hl3 : m.miles.length ≤ 1000000) (hl4 : m.sods.length ≤ 1000000) : ADet Tryz.prog 32 [.agg (eMod m), .agg (eSt s)] (val (.bool (stuckM m s))) := by
  refine adet_of_code mixedT Tryz.func32 rfl (by decide) Tryz.ntmps32 Tryz.results32 rfl (val_ok _) ?_
  have ho := open_and m s
  by_cases h1 : openM m s = true
  · have hn : (!openM m s) = false := by rw [h1]; rfl
    by_cases h2 : anyM m s = true
    · have hv : stuckM m s = false := by unfold stuckM; rw [h2]; simp
      have ha := any_A m s hl hl2 hl3 hl4
      rw [h2] at ha
      (repeat' (first | simp (maxSteps := 5000000) (implicitDefEqProofs := false) only [ruA, ruB, aEv, aTake, aLoad, aField, aIndex, aLen, aBin, bin2, aUn, un1, aExtract, aConv, ASt.get, aget, ASt.put, aStore, aBox, aAppend, aBuildSlice, aMake, aBuild, aFill, oneParts, allC, aBinS, yv, aCells, oneC, oneCL, treeC, treeL, aLit, aDst, aSrc, appTab, Value.cells, Value.oneCell', envOf, aResL, aOne, ↓reduceIte, reduceCtorEq, forall_const, Nat.reduceLT, Nat.reduceEqDiff, Nat.reduceAdd, Nat.reduceMul, Nat.reduceSub, Nat.reduceLeDiff, Nat.reduceBEq, eq_self, implies_true, ne_eq, dref, dref1, dref2, aExecS, aStoreB, aTakes, aTakeE, aElder, aFrom, aFresh, isLoad, aBuildSlice1, frzs, frz1, ownIds, AV.frz, AV.frzL, frzEnv, AV.shift, AV.shiftL, aFieldV, aSliceW, aSliceO, aSlice, aSliceR, aSliceS, aBd, aMax, frzAVs, frzAV, frzTab, AObj.frz, aMM, aNilS, aMay, tyA_4, tyS_4, tyZ_4, tyF_62_1, tyA_3, tyS_3, tyF_32_4, tyA_25, tyS_25, tyE_25, tyK_25, tyK_3, tyA_32, tyS_32, tyA_62, tyS_62, ho, hn, hv] | (with_reducible refine aIf_split (fun _ => ?_) (fun _ => ?_)) | (with_reducible refine aSel_split (fun _ => ?_) (fun _ => ?_)) | (with_reducible refine aGd_split (fun _ => ?_) (fun _ => ?_)) | (with_reducible refine aDraw_quiet (by kernel_rfl) ?_) | ((with_reducible apply callV (g := 50)); exact (first_A (m.stages.length : Int))) | ((with_reducible apply callD (g := 50)); exact (first_A (m.stages.length : Int))) | ((with_reducible apply callV); exact (ha)) | ((with_reducible apply callD); exact (ha))))
    · have h2 : anyM m s = false := by simpa using h2
      have hv : stuckM m s = freeAny m s := by unfold stuckM; rw [h1, h2]; simp
      have ha := any_A m s hl hl2 hl3 hl4
      rw [h2] at ha
      rw [hv]
      (repeat' (first | simp (maxSteps := 5000000) (implicitDefEqProofs := false) only [ruA, ruB, aEv, aTake, aLoad, aField, aIndex, aLen, aBin, bin2, aUn, un1, aExtract, aConv, ASt.get, aget, ASt.put, aStore, aBox, aAppend, aBuildSlice, aMake, aBuild, aFill, oneParts, allC, aBinS, yv, aCells, oneC, oneCL, treeC, treeL, aLit, aDst, aSrc, appTab, Value.cells, Value.oneCell', envOf, aResL, aOne, ↓reduceIte, reduceCtorEq, forall_const, Nat.reduceLT, Nat.reduceEqDiff, Nat.reduceAdd, Nat.reduceMul, Nat.reduceSub, Nat.reduceLeDiff, Nat.reduceBEq, eq_self, implies_true, ne_eq, dref, dref1, dref2, aExecS, aStoreB, aTakes, aTakeE, aElder, aFrom, aFresh, isLoad, aBuildSlice1, frzs, frz1, ownIds, AV.frz, AV.frzL, frzEnv, AV.shift, AV.shiftL, aFieldV, aSliceW, aSliceO, aSlice, aSliceR, aSliceS, aBd, aMax, frzAVs, frzAV, frzTab, AObj.frz, aMM, aNilS, aMay, tyA_4, tyS_4, tyZ_4, tyF_62_1, tyA_3, tyS_3, tyF_32_4, tyA_25, tyS_25, tyE_25, tyK_25, tyK_3, tyA_32, tyS_32, tyA_62, tyS_62, ho, hn] | (with_reducible refine aIf_split (fun _ => ?_) (fun _ => ?_)) | (with_reducible refine aSel_split (fun _ => ?_) (fun _ => ?_)) | (with_reducible refine aGd_split (fun _ => ?_) (fun _ => ?_)) | (with_reducible refine aDraw_quiet (by kernel_rfl) ?_) | ((with_reducible apply callV (g := 50)); exact (first_A (m.stages.length : Int))) | ((with_reducible apply callD (g := 50)); exact (first_A (m.stages.length : Int))) | ((with_reducible apply callV); exact (ha)) | ((with_reducible apply callD); exact (ha)) | ((with_reducible apply callT (g := 52)); exact (pairs_A m); exact (.inl (by simp [roL, roA, treeL, treeC])))))
      refine range_ok mixedT (fun pre st => (∀ e u : Nat, [eI (e : Int), eI (u : Int)] ∈ pre → freeM m s (e : Int) (u : Int) = false) ∧ st = ⟨29, [(2, .op 0 0 0), (3, .op 1 0 0), (4, .op 2 0 0)], [(0, some (.box 32 (eMod m))), (1, some (.box 62 (eSt s))), (2, some (.box 4 [eB false]))], 3⟩)
        (fun c pre st => c = .ret ∧ freeAny m s = true ∧ st = ⟨29, [(4, .op 2 0 0)], [(2, some (.box 4 [eB true]))], 3⟩) (by simp (maxSteps := 5000000) (implicitDefEqProofs := false) only [ruA, ruB, aEv, aTake, aLoad, aField, aIndex, aLen, aBin, bin2, aUn, un1, aExtract, aConv, ASt.get, aget, ASt.put, aStore, aBox, aAppend, aBuildSlice, aMake, aBuild, aFill, oneParts, allC, aBinS, yv, aCells, oneC, oneCL, treeC, treeL, aLit, aDst, aSrc, appTab, Value.cells, Value.oneCell', envOf, aResL, aOne, ↓reduceIte, reduceCtorEq, forall_const, Nat.reduceLT, Nat.reduceEqDiff, Nat.reduceAdd, Nat.reduceMul, Nat.reduceSub, Nat.reduceLeDiff, Nat.reduceBEq, eq_self, implies_true, ne_eq, dref, dref1, dref2, aExecS, aStoreB, aTakes, aTakeE, aElder, aFrom, aFresh, isLoad, aBuildSlice1, frzs, frz1, ownIds, AV.frz, AV.frzL, frzEnv, AV.shift, AV.shiftL, aFieldV, aSliceW, aSliceO, aSlice, aSliceR, aSliceS, aBd, aMax, frzAVs, frzAV, frzTab, AObj.frz, aMM, aNilS, aMay, tyA_4, tyS_4, tyZ_4, tyF_62_1, tyA_3, tyS_3, tyF_32_4, tyA_25, tyS_25, tyE_25, tyK_25, tyK_3, tyA_32, tyS_32, tyA_62, tyS_62]) (by simp [treeL, treeC]) (pairs1_A m hl hl2) (fun x hx => by obtain ⟨e, u, _, _, rfl⟩ := pairsL_mem.1 hx; rfl) (by kernel_rfl) (by kernel_rfl) (aTo_mk (weak_cut1 (by (first | ((simp only [envIn, tabIn, envLt, tabLt, AObj.lt, AV.lt, AV.ltL, ruW, ASt.get, aget, ASt.put, ↓reduceIte, reduceCtorEq, Nat.reduceLT, Nat.reduceEqDiff, Nat.reduceAdd, Nat.reduceLeDiff, eq_self, implies_true]) <;> (repeat' apply And.intro) <;> first | (rw [wrapK (by omega)]; done) | (simp; done) | omega) | fail))) ⟨by simp, rfl⟩) ?_ ?_ ?_
      · rintro pre x _ hp ⟨hpre, rfl⟩
        obtain ⟨e, u, he, hu, rfl⟩ := pairsL_mem.1 (hp.subset (show x ∈ pre ++ [x] by simp))
        (repeat' (first | simp (maxSteps := 5000000) (implicitDefEqProofs := false) only [ruA, ruB, aEv, aTake, aLoad, aField, aIndex, aLen, aBin, bin2, aUn, un1, aExtract, aConv, ASt.get, aget, ASt.put, aStore, aBox, aAppend, aBuildSlice, aMake, aBuild, aFill, oneParts, allC, aBinS, yv, aCells, oneC, oneCL, treeC, treeL, aLit, aDst, aSrc, appTab, Value.cells, Value.oneCell', envOf, aResL, aOne, ↓reduceIte, reduceCtorEq, forall_const, Nat.reduceLT, Nat.reduceEqDiff, Nat.reduceAdd, Nat.reduceMul, Nat.reduceSub, Nat.reduceLeDiff, Nat.reduceBEq, eq_self, implies_true, ne_eq, dref, dref1, dref2, aExecS, aStoreB, aTakes, aTakeE, aElder, aFrom, aFresh, isLoad, aBuildSlice1, frzs, frz1, ownIds, AV.frz, AV.frzL, frzEnv, AV.shift, AV.shiftL, aFieldV, aSliceW, aSliceO, aSlice, aSliceR, aSliceS, aBd, aMax, frzAVs, frzAV, frzTab, AObj.frz, aMM, aNilS, aMay, tyA_4, tyS_4, tyZ_4, tyF_62_1, tyA_3, tyS_3, tyF_32_4, tyA_25, tyS_25, tyE_25, tyK_25, tyK_3, tyA_32, tyS_32, tyA_62, tyS_62, ruL] | (with_reducible refine aIf_split (fun _ => ?_) (fun _ => ?_)) | (with_reducible refine aSel_split (fun _ => ?_) (fun _ => ?_)) | (with_reducible refine aGd_split (fun _ => ?_) (fun _ => ?_)) | (with_reducible refine aDraw_quiet (by kernel_rfl) ?_) | ((with_reducible apply callV (g := 53)); exact (free_A m s (e : Int) (u : Int) hl3)) | ((with_reducible apply callD (g := 53)); exact (free_A m s (e : Int) (u : Int) hl3))))
        · rename_i hen
          exact aTo_mk (weak_cut1 (by (first | ((simp only [envIn, tabIn, envLt, tabLt, AObj.lt, AV.lt, AV.ltL, ruW, ASt.get, aget, ASt.put, ↓reduceIte, reduceCtorEq, Nat.reduceLT, Nat.reduceEqDiff, Nat.reduceAdd, Nat.reduceLeDiff, eq_self, implies_true]) <;> (repeat' apply And.intro) <;> first | (rw [wrapK (by omega)]; done) | (simp; done) | omega) | fail))) ⟨(anyN_iff _ _).2 ⟨e, he, (anyN_iff _ _).2 ⟨u, hu, hen⟩⟩, rfl⟩
        · rename_i hen
          refine aTo_mk (weak_cut1 (by (first | ((simp only [envIn, tabIn, envLt, tabLt, AObj.lt, AV.lt, AV.ltL, ruW, ASt.get, aget, ASt.put, ↓reduceIte, reduceCtorEq, Nat.reduceLT, Nat.reduceEqDiff, Nat.reduceAdd, Nat.reduceLeDiff, eq_self, implies_true]) <;> (repeat' apply And.intro) <;> first | (rw [wrapK (by omega)]; done) | (simp; done) | omega) | fail))) ⟨fun e' u' hm => ?_, rfl⟩
          rcases List.mem_append.1 hm with hm | hm
          · exact hpre e' u' hm
          · simp at hm
            obtain ⟨h1, h2⟩ := hm
            rw [h1, h2]
            exact hen
      · rintro _ ⟨hpre, rfl⟩
        (repeat' (first | simp (maxSteps := 5000000) (implicitDefEqProofs := false) only [ruA, ruB, aEv, aTake, aLoad, aField, aIndex, aLen, aBin, bin2, aUn, un1, aExtract, aConv, ASt.get, aget, ASt.put, aStore, aBox, aAppend, aBuildSlice, aMake, aBuild, aFill, oneParts, allC, aBinS, yv, aCells, oneC, oneCL, treeC, treeL, aLit, aDst, aSrc, appTab, Value.cells, Value.oneCell', envOf, aResL, aOne, ↓reduceIte, reduceCtorEq, forall_const, Nat.reduceLT, Nat.reduceEqDiff, Nat.reduceAdd, Nat.reduceMul, Nat.reduceSub, Nat.reduceLeDiff, Nat.reduceBEq, eq_self, implies_true, ne_eq, dref, dref1, dref2, aExecS, aStoreB, aTakes, aTakeE, aElder, aFrom, aFresh, isLoad, aBuildSlice1, frzs, frz1, ownIds, AV.frz, AV.frzL, frzEnv, AV.shift, AV.shiftL, aFieldV, aSliceW, aSliceO, aSlice, aSliceR, aSliceS, aBd, aMax, frzAVs, frzAV, frzTab, AObj.frz, aMM, aNilS, aMay, tyA_4, tyS_4, tyZ_4, tyF_62_1, tyA_3, tyS_3, tyF_32_4, tyA_25, tyS_25, tyE_25, tyK_25, tyK_3, tyA_32, tyS_32, tyA_62, tyS_62, ruL] | (with_reducible refine aIf_split (fun _ => ?_) (fun _ => ?_)) | (with_reducible refine aSel_split (fun _ => ?_) (fun _ => ?_)) | (with_reducible refine aGd_split (fun _ => ?_) (fun _ => ?_)) | (with_reducible refine aDraw_quiet (by kernel_rfl) ?_)))
        symm
        rw [Bool.eq_false_iff]
        intro ha
        obtain ⟨e, he, ha⟩ := (anyN_iff _ _).1 ha
        obtain ⟨u, hu, ha⟩ := (anyN_iff _ _).1 ha
        rw [hpre e u (pairsL_mem.2 ⟨e, u, he, hu, rfl⟩)] at ha
        cases ha
      · rintro _ pre _ hp ⟨rfl, ha, rfl⟩
        (repeat' (first | simp (maxSteps := 5000000) (implicitDefEqProofs := false) only [ruA, ruB, aEv, aTake, aLoad, aField, aIndex, aLen, aBin, bin2, aUn, un1, aExtract, aConv, ASt.get, aget, ASt.put, aStore, aBox, aAppend, aBuildSlice, aMake, aBuild, aFill, oneParts, allC, aBinS, yv, aCells, oneC, oneCL, treeC, treeL, aLit, aDst, aSrc, appTab, Value.cells, Value.oneCell', envOf, aResL, aOne, ↓reduceIte, reduceCtorEq, forall_const, Nat.reduceLT, Nat.reduceEqDiff, Nat.reduceAdd, Nat.reduceMul, Nat.reduceSub, Nat.reduceLeDiff, Nat.reduceBEq, eq_self, implies_true, ne_eq, dref, dref1, dref2, aExecS, aStoreB, aTakes, aTakeE, aElder, aFrom, aFresh, isLoad, aBuildSlice1, frzs, frz1, ownIds, AV.frz, AV.frzL, frzEnv, AV.shift, AV.shiftL, aFieldV, aSliceW, aSliceO, aSlice, aSliceR, aSliceS, aBd, aMax, frzAVs, frzAV, frzTab, AObj.frz, aMM, aNilS, aMay, tyA_4, tyS_4, tyZ_4, tyF_62_1, tyA_3, tyS_3, tyF_32_4, tyA_25, tyS_25, tyE_25, tyK_25, tyK_3, tyA_32, tyS_32, tyA_62, tyS_62, ruL] | (with_reducible refine aIf_split (fun _ => ?_) (fun _ => ?_)) | (with_reducible refine aSel_split (fun _ => ?_) (fun _ => ?_)) | (with_reducible refine aGd_split (fun _ => ?_) (fun _ => ?_)) | (with_reducible refine aDraw_quiet (by kernel_rfl) ?_)))
        exact ha.symm
  · have h1 : openM m s = false := by simpa using h1
    have hn : (!openM m s) = true := by rw [h1]; rfl
    have hv : stuckM m s = false := by unfold stuckM; rw [h1]; simp
    (repeat' (first | simp (maxSteps := 5000000) (implicitDefEqProofs := false) only [ruA, ruB, aEv, aTake, aLoad, aField, aIndex, aLen, aBin, bin2, aUn, un1, aExtract, aConv, ASt.get, aget, ASt.put, aStore, aBox, aAppend, aBuildSlice, aMake, aBuild, aFill, oneParts, allC, aBinS, yv, aCells, oneC, oneCL, treeC, treeL, aLit, aDst, aSrc, appTab, Value.cells, Value.oneCell', envOf, aResL, aOne, ↓reduceIte, reduceCtorEq, forall_const, Nat.reduceLT, Nat.reduceEqDiff, Nat.reduceAdd, Nat.reduceMul, Nat.reduceSub, Nat.reduceLeDiff, Nat.reduceBEq, eq_self, implies_true, ne_eq, dref, dref1, dref2, aExecS, aStoreB, aTakes, aTakeE, aElder, aFrom, aFresh, isLoad, aBuildSlice1, frzs, frz1, ownIds, AV.frz, AV.frzL, frzEnv, AV.shift, AV.shiftL, aFieldV, aSliceW, aSliceO, aSlice, aSliceR, aSliceS, aBd, aMax, frzAVs, frzAV, frzTab, AObj.frz, aMM, aNilS, aMay, tyA_4, tyS_4, tyZ_4, tyF_62_1, tyA_3, tyS_3, tyF_32_4, tyA_25, tyS_25, tyE_25, tyK_25, tyK_3, tyA_32, tyS_32, tyA_62, tyS_62, ho, hn, hv] | (with_reducible refine aIf_split (fun _ => ?_) (fun _ => ?_)) | (with_reducible refine aSel_split (fun _ => ?_) (fun _ => ?_)) | (with_reducible refine aGd_split (fun _ => ?_) (fun _ => ?_)) | (with_reducible refine aDraw_quiet (by kernel_rfl) ?_) | ((with_reducible apply callV (g := 50)); exact (first_A (m.stages.length : Int))) | ((with_reducible apply callD (g := 50)); exact (first_A (m.stages.length : Int)))))
set_option maxRecDepth 100000 in
set_option maxHeartbeats 8000000 in
theorem stuckR_A (m : Mod) (s : St) (hst : m.stages.length ≤ 1000000) (hle : m.events.length ≤ 1000000) (hl : m.miles.length ≤ 1000000) (hl2 : m.sods.length ≤ 1000000) (hl3 : m.users.length ≤ 1000000) (ho : ok64 s.opn) (hd : ok64 s.don) (hr : ∀ p ∈ m.roles, ok64 p.2) (hdid : ∀ x ∈ s.did, ok64 x) : ADet Tryz.prog 27 [.agg (eMod m), .agg (eSt s)] (val (.bool (stuckM m s))) := by
  refine adet_of_code mixedT Tryz.func27 rfl (by decide) Tryz.ntmps27 Tryz.results27 rfl (val_ok _) ?_
  obtain ⟨f1, hf1⟩ : ∃ f : Nat → Bool, f = fun (i : Nat) => hasB s.opn (i : Int) := ⟨_, rfl⟩
  obtain ⟨f2, hf2⟩ : ∃ f : Nat → Nat → Bool, f = fun (e u : Nat) => freeM m s (e : Int) (u : Int) := ⟨_, rfl⟩
  obtain ⟨f3, hf3⟩ : ∃ f : Nat → Bool, f = fun e => anyN (f2 e) m.users.length := ⟨_, rfl⟩
  have ho1 : openM m s = anyN f1 m.stages.length := by rw [hf1]; rfl
  have hfr : freeAny m s = anyN f3 m.events.length := by rw [hf3, hf2]; rfl
  (repeat' (first | simp (maxSteps := 5000000) (implicitDefEqProofs := false) only [ruA, ruB, aEv, aTake, aLoad, aField, aIndex, aLen, aBin, bin2, aUn, un1, aExtract, aConv, ASt.get, aget, ASt.put, aStore, aBox, aAppend, aBuildSlice, aMake, aBuild, aFill, oneParts, allC, aBinS, yv, aCells, oneC, oneCL, treeC, treeL, aLit, aDst, aSrc, appTab, Value.cells, Value.oneCell', envOf, aResL, aOne, ↓reduceIte, reduceCtorEq, forall_const, Nat.reduceLT, Nat.reduceEqDiff, Nat.reduceAdd, Nat.reduceMul, Nat.reduceSub, Nat.reduceLeDiff, Nat.reduceBEq, eq_self, implies_true, ne_eq, dref, dref1, dref2, aExecS, aStoreB, aTakes, aTakeE, aElder, aFrom, aFresh, isLoad, aBuildSlice1, frzs, frz1, ownIds, AV.frz, AV.frzL, frzEnv, AV.shift, AV.shiftL, aFieldV, aSliceW, aSliceO, aSlice, aSliceR, aSliceS, aBd, aMax, frzAVs, frzAV, frzTab, AObj.frz, aMM, aNilS, aMay, tyF_32_4, tyA_25, tyS_25, tyE_25, tyK_25, tyK_3, tyF_62_1, tyA_3, tyS_3, tyF_32_5, tyA_26, tyS_26, tyE_26, tyK_26, tyF_32_2, tyA_22, tyS_22, tyE_22, tyK_22, tyA_32, tyS_32, tyA_62, tyS_62] | (with_reducible refine aIf_split (fun _ => ?_) (fun _ => ?_)) | (with_reducible refine aSel_split (fun _ => ?_) (fun _ => ?_)) | (with_reducible refine aGd_split (fun _ => ?_) (fun _ => ?_)) | (with_reducible refine aDraw_quiet (by kernel_rfl) ?_)))
  refine aLoop_of (fun st => ∃ (k : Nat) (b : Bool), k ≤ m.stages.length ∧ b = anyN f1 k ∧ st = ⟨62, [(2, .op 0 0 0), (3, .op 1 0 0), (5, eB b), (6, eB false), (7, eI (k : Int))], [(0, some (.box 32 (eMod m))), (1, some (.box 62 (eSt s)))], 2⟩) (fun st => m.stages.length - slotN st 7) ⟨_, (weak_cut1 (by (first | ((simp only [envIn, tabIn, envLt, tabLt, AObj.lt, AV.lt, AV.ltL, ruW, ASt.get, aget, ASt.put, ↓reduceIte, reduceCtorEq, Nat.reduceLT, Nat.reduceEqDiff, Nat.reduceAdd, Nat.reduceLeDiff, eq_self, implies_true]) <;> (repeat' apply And.intro) <;> first | (rw [wrapK (by omega)]; done) | (simp; done) | omega) | fail))), 0, false, Nat.zero_le _, rfl, rfl⟩ ?_
  rintro _ ⟨k, b, hk, hb, rfl⟩
  by_cases hlt : k < m.stages.length
  · cases b with
    | true =>
      (repeat' (first | simp (maxSteps := 5000000) (implicitDefEqProofs := false) only [ruA, ruB, aEv, aTake, aLoad, aField, aIndex, aLen, aBin, bin2, aUn, un1, aExtract, aConv, ASt.get, aget, ASt.put, aStore, aBox, aAppend, aBuildSlice, aMake, aBuild, aFill, oneParts, allC, aBinS, yv, aCells, oneC, oneCL, treeC, treeL, aLit, aDst, aSrc, appTab, Value.cells, Value.oneCell', envOf, aResL, aOne, ↓reduceIte, reduceCtorEq, forall_const, Nat.reduceLT, Nat.reduceEqDiff, Nat.reduceAdd, Nat.reduceMul, Nat.reduceSub, Nat.reduceLeDiff, Nat.reduceBEq, eq_self, implies_true, ne_eq, dref, dref1, dref2, aExecS, aStoreB, aTakes, aTakeE, aElder, aFrom, aFresh, isLoad, aBuildSlice1, frzs, frz1, ownIds, AV.frz, AV.frzL, frzEnv, AV.shift, AV.shiftL, aFieldV, aSliceW, aSliceO, aSlice, aSliceR, aSliceS, aBd, aMax, frzAVs, frzAV, frzTab, AObj.frz, aMM, aNilS, aMay, tyF_32_4, tyA_25, tyS_25, tyE_25, tyK_25, tyK_3, tyF_62_1, tyA_3, tyS_3, tyF_32_5, tyA_26, tyS_26, tyE_26, tyK_26, tyF_32_2, tyA_22, tyS_22, tyE_22, tyK_22, tyA_32, tyS_32, tyA_62, tyS_62, hlt] | (with_reducible refine aIf_split (fun _ => ?_) (fun _ => ?_)) | (with_reducible refine aSel_split (fun _ => ?_) (fun _ => ?_)) | (with_reducible refine aGd_split (fun _ => ?_) (fun _ => ?_)) | (with_reducible refine aDraw_quiet (by kernel_rfl) ?_)))
      exact roundI (weak_cut1 (by (first | ((simp only [envIn, tabIn, envLt, tabLt, AObj.lt, AV.lt, AV.ltL, ruW, ASt.get, aget, ASt.put, ↓reduceIte, reduceCtorEq, Nat.reduceLT, Nat.reduceEqDiff, Nat.reduceAdd, Nat.reduceLeDiff, eq_self, implies_true]) <;> (repeat' apply And.intro) <;> first | (rw [wrapK (by omega)]; done) | (simp; done) | omega) | fail))) ⟨k + 1, true, by omega, by simp [anyN, ← hb], rfl⟩ (by simp only [slotN, ruW, ASt.get, aget, ASt.put, ↓reduceIte, reduceCtorEq, Nat.reduceLT, Nat.reduceEqDiff, Nat.reduceAdd, Nat.reduceLeDiff, eq_self, implies_true]; omega)
    | false =>
      have hh := hasR_A s.opn (k : Int) ho
      (repeat' (first | simp (maxSteps := 5000000) (implicitDefEqProofs := false) only [ruA, ruB, aEv, aTake, aLoad, aField, aIndex, aLen, aBin, bin2, aUn, un1, aExtract, aConv, ASt.get, aget, ASt.put, aStore, aBox, aAppend, aBuildSlice, aMake, aBuild, aFill, oneParts, allC, aBinS, yv, aCells, oneC, oneCL, treeC, treeL, aLit, aDst, aSrc, appTab, Value.cells, Value.oneCell', envOf, aResL, aOne, ↓reduceIte, reduceCtorEq, forall_const, Nat.reduceLT, Nat.reduceEqDiff, Nat.reduceAdd, Nat.reduceMul, Nat.reduceSub, Nat.reduceLeDiff, Nat.reduceBEq, eq_self, implies_true, ne_eq, dref, dref1, dref2, aExecS, aStoreB, aTakes, aTakeE, aElder, aFrom, aFresh, isLoad, aBuildSlice1, frzs, frz1, ownIds, AV.frz, AV.frzL, frzEnv, AV.shift, AV.shiftL, aFieldV, aSliceW, aSliceO, aSlice, aSliceR, aSliceS, aBd, aMax, frzAVs, frzAV, frzTab, AObj.frz, aMM, aNilS, aMay, tyF_32_4, tyA_25, tyS_25, tyE_25, tyK_25, tyK_3, tyF_62_1, tyA_3, tyS_3, tyF_32_5, tyA_26, tyS_26, tyE_26, tyK_26, tyF_32_2, tyA_22, tyS_22, tyE_22, tyK_22, tyA_32, tyS_32, tyA_62, tyS_62, hlt] | (with_reducible refine aIf_split (fun _ => ?_) (fun _ => ?_)) | (with_reducible refine aSel_split (fun _ => ?_) (fun _ => ?_)) | (with_reducible refine aGd_split (fun _ => ?_) (fun _ => ?_)) | (with_reducible refine aDraw_quiet (by kernel_rfl) ?_) | ((with_reducible apply callV); exact (hh)) | ((with_reducible apply callD); exact (hh))))
      exact roundI (weak_cut1 (by (first | ((simp only [envIn, tabIn, envLt, tabLt, AObj.lt, AV.lt, AV.ltL, ruW, ASt.get, aget, ASt.put, ↓reduceIte, reduceCtorEq, Nat.reduceLT, Nat.reduceEqDiff, Nat.reduceAdd, Nat.reduceLeDiff, eq_self, implies_true]) <;> (repeat' apply And.intro) <;> first | (rw [wrapK (by omega)]; done) | (simp; done) | omega) | fail))) ⟨k + 1, hasB s.opn (k : Int), by omega, by rw [anyN, ← hb, Bool.false_or, hf1], rfl⟩ (by simp only [slotN, ruW, ASt.get, aget, ASt.put, ↓reduceIte, reduceCtorEq, Nat.reduceLT, Nat.reduceEqDiff, Nat.reduceAdd, Nat.reduceLeDiff, eq_self, implies_true]; omega)
  · obtain rfl : k = m.stages.length := by omega
    rw [← ho1] at hb
    (repeat' (first | simp (maxSteps := 5000000) (implicitDefEqProofs := false) only [ruA, ruB, aEv, aTake, aLoad, aField, aIndex, aLen, aBin, bin2, aUn, un1, aExtract, aConv, ASt.get, aget, ASt.put, aStore, aBox, aAppend, aBuildSlice, aMake, aBuild, aFill, oneParts, allC, aBinS, yv, aCells, oneC, oneCL, treeC, treeL, aLit, aDst, aSrc, appTab, Value.cells, Value.oneCell', envOf, aResL, aOne, ↓reduceIte, reduceCtorEq, forall_const, Nat.reduceLT, Nat.reduceEqDiff, Nat.reduceAdd, Nat.reduceMul, Nat.reduceSub, Nat.reduceLeDiff, Nat.reduceBEq, eq_self, implies_true, ne_eq, dref, dref1, dref2, aExecS, aStoreB, aTakes, aTakeE, aElder, aFrom, aFresh, isLoad, aBuildSlice1, frzs, frz1, ownIds, AV.frz, AV.frzL, frzEnv, AV.shift, AV.shiftL, aFieldV, aSliceW, aSliceO, aSlice, aSliceR, aSliceS, aBd, aMax, frzAVs, frzAV, frzTab, AObj.frz, aMM, aNilS, aMay, tyF_32_4, tyA_25, tyS_25, tyE_25, tyK_25, tyK_3, tyF_62_1, tyA_3, tyS_3, tyF_32_5, tyA_26, tyS_26, tyE_26, tyK_26, tyF_32_2, tyA_22, tyS_22, tyE_22, tyK_22, tyA_32, tyS_32, tyA_62, tyS_62, hlt] | (with_reducible refine aIf_split (fun _ => ?_) (fun _ => ?_)) | (with_reducible refine aSel_split (fun _ => ?_) (fun _ => ?_)) | (with_reducible refine aGd_split (fun _ => ?_) (fun _ => ?_)) | (with_reducible refine aDraw_quiet (by kernel_rfl) ?_)))
    refine aLoop_of (fun st => ∃ (e : Nat) (c : Bool), e ≤ m.events.length ∧ c = anyN f3 e ∧ st = ⟨62, [(2, .op 0 0 0), (3, .op 1 0 0), (5, eB b), (6, eB c), (8, eI (e : Int))], [(0, some (.box 32 (eMod m))), (1, some (.box 62 (eSt s)))], 2⟩) (fun st => m.events.length - slotN st 8) ⟨_, (weak_cut1 (by (first | ((simp only [envIn, tabIn, envLt, tabLt, AObj.lt, AV.lt, AV.ltL, ruW, ASt.get, aget, ASt.put, ↓reduceIte, reduceCtorEq, Nat.reduceLT, Nat.reduceEqDiff, Nat.reduceAdd, Nat.reduceLeDiff, eq_self, implies_true]) <;> (repeat' apply And.intro) <;> first | (rw [wrapK (by omega)]; done) | (simp; done) | omega) | fail))), 0, false, Nat.zero_le _, rfl, rfl⟩ ?_
    rintro _ ⟨e, c, he, hc, rfl⟩
    by_cases hle2 : e < m.events.length
    · (repeat' (first | simp (maxSteps := 5000000) (implicitDefEqProofs := false) only [ruA, ruB, aEv, aTake, aLoad, aField, aIndex, aLen, aBin, bin2, aUn, un1, aExtract, aConv, ASt.get, aget, ASt.put, aStore, aBox, aAppend, aBuildSlice, aMake, aBuild, aFill, oneParts, allC, aBinS, yv, aCells, oneC, oneCL, treeC, treeL, aLit, aDst, aSrc, appTab, Value.cells, Value.oneCell', envOf, aResL, aOne, ↓reduceIte, reduceCtorEq, forall_const, Nat.reduceLT, Nat.reduceEqDiff, Nat.reduceAdd, Nat.reduceMul, Nat.reduceSub, Nat.reduceLeDiff, Nat.reduceBEq, eq_self, implies_true, ne_eq, dref, dref1, dref2, aExecS, aStoreB, aTakes, aTakeE, aElder, aFrom, aFresh, isLoad, aBuildSlice1, frzs, frz1, ownIds, AV.frz, AV.frzL, frzEnv, AV.shift, AV.shiftL, aFieldV, aSliceW, aSliceO, aSlice, aSliceR, aSliceS, aBd, aMax, frzAVs, frzAV, frzTab, AObj.frz, aMM, aNilS, aMay, tyF_32_4, tyA_25, tyS_25, tyE_25, tyK_25, tyK_3, tyF_62_1, tyA_3, tyS_3, tyF_32_5, tyA_26, tyS_26, tyE_26, tyK_26, tyF_32_2, tyA_22, tyS_22, tyE_22, tyK_22, tyA_32, tyS_32, tyA_62, tyS_62, hle2] | (with_reducible refine aIf_split (fun _ => ?_) (fun _ => ?_)) | (with_reducible refine aSel_split (fun _ => ?_) (fun _ => ?_)) | (with_reducible refine aGd_split (fun _ => ?_) (fun _ => ?_)) | (with_reducible refine aDraw_quiet (by kernel_rfl) ?_)))
      refine aLoop_of (fun st => ∃ (u : Nat) (d : Bool), u ≤ m.users.length ∧ d = (anyN f3 e || anyN (f2 e) u) ∧ st = ⟨62, [(2, .op 0 0 0), (3, .op 1 0 0), (5, eB b), (6, eB d), (8, eI (e : Int)), (9, eI (u : Int))], [(0, some (.box 32 (eMod m))), (1, some (.box 62 (eSt s)))], 2⟩) (fun st => m.users.length - slotN st 9) ⟨_, (weak_cut1 (by (first | ((simp only [envIn, tabIn, envLt, tabLt, AObj.lt, AV.lt, AV.ltL, ruW, ASt.get, aget, ASt.put, ↓reduceIte, reduceCtorEq, Nat.reduceLT, Nat.reduceEqDiff, Nat.reduceAdd, Nat.reduceLeDiff, eq_self, implies_true]) <;> (repeat' apply And.intro) <;> first | (rw [wrapK (by omega)]; done) | (simp; done) | omega) | fail))), 0, c, Nat.zero_le _, by simp [anyN, hc], rfl⟩ ?_
      rintro _ ⟨u, d, hu, hd2, rfl⟩
      by_cases hlu : u < m.users.length
      · cases d with
        | true =>
          (repeat' (first | simp (maxSteps := 5000000) (implicitDefEqProofs := false) only [ruA, ruB, aEv, aTake, aLoad, aField, aIndex, aLen, aBin, bin2, aUn, un1, aExtract, aConv, ASt.get, aget, ASt.put, aStore, aBox, aAppend, aBuildSlice, aMake, aBuild, aFill, oneParts, allC, aBinS, yv, aCells, oneC, oneCL, treeC, treeL, aLit, aDst, aSrc, appTab, Value.cells, Value.oneCell', envOf, aResL, aOne, ↓reduceIte, reduceCtorEq, forall_const, Nat.reduceLT, Nat.reduceEqDiff, Nat.reduceAdd, Nat.reduceMul, Nat.reduceSub, Nat.reduceLeDiff, Nat.reduceBEq, eq_self, implies_true, ne_eq, dref, dref1, dref2, aExecS, aStoreB, aTakes, aTakeE, aElder, aFrom, aFresh, isLoad, aBuildSlice1, frzs, frz1, ownIds, AV.frz, AV.frzL, frzEnv, AV.shift, AV.shiftL, aFieldV, aSliceW, aSliceO, aSlice, aSliceR, aSliceS, aBd, aMax, frzAVs, frzAV, frzTab, AObj.frz, aMM, aNilS, aMay, tyF_32_4, tyA_25, tyS_25, tyE_25, tyK_25, tyK_3, tyF_62_1, tyA_3, tyS_3, tyF_32_5, tyA_26, tyS_26, tyE_26, tyK_26, tyF_32_2, tyA_22, tyS_22, tyE_22, tyK_22, tyA_32, tyS_32, tyA_62, tyS_62, hlu] | (with_reducible refine aIf_split (fun _ => ?_) (fun _ => ?_)) | (with_reducible refine aSel_split (fun _ => ?_) (fun _ => ?_)) | (with_reducible refine aGd_split (fun _ => ?_) (fun _ => ?_)) | (with_reducible refine aDraw_quiet (by kernel_rfl) ?_)))
          exact roundI (weak_cut1 (by (first | ((simp only [envIn, tabIn, envLt, tabLt, AObj.lt, AV.lt, AV.ltL, ruW, ASt.get, aget, ASt.put, ↓reduceIte, reduceCtorEq, Nat.reduceLT, Nat.reduceEqDiff, Nat.reduceAdd, Nat.reduceLeDiff, eq_self, implies_true]) <;> (repeat' apply And.intro) <;> first | (rw [wrapK (by omega)]; done) | (simp; done) | omega) | fail))) ⟨u + 1, true, by omega, by simp only [anyN, ← Bool.or_assoc, ← hd2, Bool.true_or], rfl⟩ (by simp only [slotN, ruW, ASt.get, aget, ASt.put, ↓reduceIte, reduceCtorEq, Nat.reduceLT, Nat.reduceEqDiff, Nat.reduceAdd, Nat.reduceLeDiff, eq_self, implies_true]; omega)
        | false =>
          have hh := freeR_A m s (e : Int) (u : Int) hl ho hd hr
          (repeat' (first | simp (maxSteps := 5000000) (implicitDefEqProofs := false) only [ruA, ruB, aEv, aTake, aLoad, aField, aIndex, aLen, aBin, bin2, aUn, un1, aExtract, aConv, ASt.get, aget, ASt.put, aStore, aBox, aAppend, aBuildSlice, aMake, aBuild, aFill, oneParts, allC, aBinS, yv, aCells, oneC, oneCL, treeC, treeL, aLit, aDst, aSrc, appTab, Value.cells, Value.oneCell', envOf, aResL, aOne, ↓reduceIte, reduceCtorEq, forall_const, Nat.reduceLT, Nat.reduceEqDiff, Nat.reduceAdd, Nat.reduceMul, Nat.reduceSub, Nat.reduceLeDiff, Nat.reduceBEq, eq_self, implies_true, ne_eq, dref, dref1, dref2, aExecS, aStoreB, aTakes, aTakeE, aElder, aFrom, aFresh, isLoad, aBuildSlice1, frzs, frz1, ownIds, AV.frz, AV.frzL, frzEnv, AV.shift, AV.shiftL, aFieldV, aSliceW, aSliceO, aSlice, aSliceR, aSliceS, aBd, aMax, frzAVs, frzAV, frzTab, AObj.frz, aMM, aNilS, aMay, tyF_32_4, tyA_25, tyS_25, tyE_25, tyK_25, tyK_3, tyF_62_1, tyA_3, tyS_3, tyF_32_5, tyA_26, tyS_26, tyE_26, tyK_26, tyF_32_2, tyA_22, tyS_22, tyE_22, tyK_22, tyA_32, tyS_32, tyA_62, tyS_62, hlu] | (with_reducible refine aIf_split (fun _ => ?_) (fun _ => ?_)) | (with_reducible refine aSel_split (fun _ => ?_) (fun _ => ?_)) | (with_reducible refine aGd_split (fun _ => ?_) (fun _ => ?_)) | (with_reducible refine aDraw_quiet (by kernel_rfl) ?_) | ((with_reducible apply callV); exact (hh)) | ((with_reducible apply callD); exact (hh))))
          exact roundI (weak_cut1 (by (first | ((simp only [envIn, tabIn, envLt, tabLt, AObj.lt, AV.lt, AV.ltL, ruW, ASt.get, aget, ASt.put, ↓reduceIte, reduceCtorEq, Nat.reduceLT, Nat.reduceEqDiff, Nat.reduceAdd, Nat.reduceLeDiff, eq_self, implies_true]) <;> (repeat' apply And.intro) <;> first | (rw [wrapK (by omega)]; done) | (simp; done) | omega) | fail))) ⟨u + 1, freeM m s (e : Int) (u : Int), by omega, by rw [anyN, ← Bool.or_assoc, ← hd2, Bool.false_or, hf2], rfl⟩ (by simp only [slotN, ruW, ASt.get, aget, ASt.put, ↓reduceIte, reduceCtorEq, Nat.reduceLT, Nat.reduceEqDiff, Nat.reduceAdd, Nat.reduceLeDiff, eq_self, implies_true]; omega)
      · obtain rfl : u = m.users.length := by omega
        (repeat' (first | simp (maxSteps := 5000000) (implicitDefEqProofs := false) only [ruA, ruB, aEv, aTake, aLoad, aField, aIndex, aLen, aBin, bin2, aUn, un1, aExtract, aConv, ASt.get, aget, ASt.put, aStore, aBox, aAppend, aBuildSlice, aMake, aBuild, aFill, oneParts, allC, aBinS, yv, aCells, oneC, oneCL, treeC, treeL, aLit, aDst, aSrc, appTab, Value.cells, Value.oneCell', envOf, aResL, aOne, ↓reduceIte, reduceCtorEq, forall_const, Nat.reduceLT, Nat.reduceEqDiff, Nat.reduceAdd, Nat.reduceMul, Nat.reduceSub, Nat.reduceLeDiff, Nat.reduceBEq, eq_self, implies_true, ne_eq, dref, dref1, dref2, aExecS, aStoreB, aTakes, aTakeE, aElder, aFrom, aFresh, isLoad, aBuildSlice1, frzs, frz1, ownIds, AV.frz, AV.frzL, frzEnv, AV.shift, AV.shiftL, aFieldV, aSliceW, aSliceO, aSlice, aSliceR, aSliceS, aBd, aMax, frzAVs, frzAV, frzTab, AObj.frz, aMM, aNilS, aMay, tyF_32_4, tyA_25, tyS_25, tyE_25, tyK_25, tyK_3, tyF_62_1, tyA_3, tyS_3, tyF_32_5, tyA_26, tyS_26, tyE_26, tyK_26, tyF_32_2, tyA_22, tyS_22, tyE_22, tyK_22, tyA_32, tyS_32, tyA_62, tyS_62, hlu] | (with_reducible refine aIf_split (fun _ => ?_) (fun _ => ?_)) | (with_reducible refine aSel_split (fun _ => ?_) (fun _ => ?_)) | (with_reducible refine aGd_split (fun _ => ?_) (fun _ => ?_)) | (with_reducible refine aDraw_quiet (by kernel_rfl) ?_)))
        exact roundI (weak_cut1 (by (first | ((simp only [envIn, tabIn, envLt, tabLt, AObj.lt, AV.lt, AV.ltL, ruW, ASt.get, aget, ASt.put, ↓reduceIte, reduceCtorEq, Nat.reduceLT, Nat.reduceEqDiff, Nat.reduceAdd, Nat.reduceLeDiff, eq_self, implies_true]) <;> (repeat' apply And.intro) <;> first | (rw [wrapK (by omega)]; done) | (simp; done) | omega) | fail))) ⟨e + 1, d, by omega, by rw [hd2]; simp [anyN, hf3], rfl⟩ (by simp only [slotN, ruW, ASt.get, aget, ASt.put, ↓reduceIte, reduceCtorEq, Nat.reduceLT, Nat.reduceEqDiff, Nat.reduceAdd, Nat.reduceLeDiff, eq_self, implies_true]; omega)
    · obtain rfl : e = m.events.length := by omega
      rw [← hfr] at hc
      have hsk : stuckM m s = (b && c && !anyM m s) := by unfold stuckM; rw [hb, hc]
      rw [hsk]
      cases b with
      | false => (repeat' (first | simp (maxSteps := 5000000) (implicitDefEqProofs := false) only [ruA, ruB, aEv, aTake, aLoad, aField, aIndex, aLen, aBin, bin2, aUn, un1, aExtract, aConv, ASt.get, aget, ASt.put, aStore, aBox, aAppend, aBuildSlice, aMake, aBuild, aFill, oneParts, allC, aBinS, yv, aCells, oneC, oneCL, treeC, treeL, aLit, aDst, aSrc, appTab, Value.cells, Value.oneCell', envOf, aResL, aOne, ↓reduceIte, reduceCtorEq, forall_const, Nat.reduceLT, Nat.reduceEqDiff, Nat.reduceAdd, Nat.reduceMul, Nat.reduceSub, Nat.reduceLeDiff, Nat.reduceBEq, eq_self, implies_true, ne_eq, dref, dref1, dref2, aExecS, aStoreB, aTakes, aTakeE, aElder, aFrom, aFresh, isLoad, aBuildSlice1, frzs, frz1, ownIds, AV.frz, AV.frzL, frzEnv, AV.shift, AV.shiftL, aFieldV, aSliceW, aSliceO, aSlice, aSliceR, aSliceS, aBd, aMax, frzAVs, frzAV, frzTab, AObj.frz, aMM, aNilS, aMay, tyF_32_4, tyA_25, tyS_25, tyE_25, tyK_25, tyK_3, tyF_62_1, tyA_3, tyS_3, tyF_32_5, tyA_26, tyS_26, tyE_26, tyK_26, tyF_32_2, tyA_22, tyS_22, tyE_22, tyK_22, tyA_32, tyS_32, tyA_62, tyS_62, hle2, Bool.false_and] | (with_reducible refine aIf_split (fun _ => ?_) (fun _ => ?_)) | (with_reducible refine aSel_split (fun _ => ?_) (fun _ => ?_)) | (with_reducible refine aGd_split (fun _ => ?_) (fun _ => ?_)) | (with_reducible refine aDraw_quiet (by kernel_rfl) ?_)))
      | true =>
        cases c with
        | false => (repeat' (first | simp (maxSteps := 5000000) (implicitDefEqProofs := false) only [ruA, ruB, aEv, aTake, aLoad, aField, aIndex, aLen, aBin, bin2, aUn, un1, aExtract, aConv, ASt.get, aget, ASt.put, aStore, aBox, aAppend, aBuildSlice, aMake, aBuild, aFill, oneParts, allC, aBinS, yv, aCells, oneC, oneCL, treeC, treeL, aLit, aDst, aSrc, appTab, Value.cells, Value.oneCell', envOf, aResL, aOne, ↓reduceIte, reduceCtorEq, forall_const, Nat.reduceLT, Nat.reduceEqDiff, Nat.reduceAdd, Nat.reduceMul, Nat.reduceSub, Nat.reduceLeDiff, Nat.reduceBEq, eq_self, implies_true, ne_eq, dref, dref1, dref2, aExecS, aStoreB, aTakes, aTakeE, aElder, aFrom, aFresh, isLoad, aBuildSlice1, frzs, frz1, ownIds, AV.frz, AV.frzL, frzEnv, AV.shift, AV.shiftL, aFieldV, aSliceW, aSliceO, aSlice, aSliceR, aSliceS, aBd, aMax, frzAVs, frzAV, frzTab, AObj.frz, aMM, aNilS, aMay, tyF_32_4, tyA_25, tyS_25, tyE_25, tyK_25, tyK_3, tyF_62_1, tyA_3, tyS_3, tyF_32_5, tyA_26, tyS_26, tyE_26, tyK_26, tyF_32_2, tyA_22, tyS_22, tyE_22, tyK_22, tyA_32, tyS_32, tyA_62, tyS_62, hle2, Bool.false_and, Bool.true_and] | (with_reducible refine aIf_split (fun _ => ?_) (fun _ => ?_)) | (with_reducible refine aSel_split (fun _ => ?_) (fun _ => ?_)) | (with_reducible refine aGd_split (fun _ => ?_) (fun _ => ?_)) | (with_reducible refine aDraw_quiet (by kernel_rfl) ?_)))
        | true =>
          have hco := free_done m s hc.symm
          have h1 := completeR_A m s hl hd
          rw [hco] at h1
          have h2 := anyR_A m s hle hl hl2 hl3 ho hd hr hdid
          (repeat' (first | simp (maxSteps := 5000000) (implicitDefEqProofs := false) only [ruA, ruB, aEv, aTake, aLoad, aField, aIndex, aLen, aBin, bin2, aUn, un1, aExtract, aConv, ASt.get, aget, ASt.put, aStore, aBox, aAppend, aBuildSlice, aMake, aBuild, aFill, oneParts, allC, aBinS, yv, aCells, oneC, oneCL, treeC, treeL, aLit, aDst, aSrc, appTab, Value.cells, Value.oneCell', envOf, aResL, aOne, ↓reduceIte, reduceCtorEq, forall_const, Nat.reduceLT, Nat.reduceEqDiff, Nat.reduceAdd, Nat.reduceMul, Nat.reduceSub, Nat.reduceLeDiff, Nat.reduceBEq, eq_self, implies_true, ne_eq, dref, dref1, dref2, aExecS, aStoreB, aTakes, aTakeE, aElder, aFrom, aFresh, isLoad, aBuildSlice1, frzs, frz1, ownIds, AV.frz, AV.frzL, frzEnv, AV.shift, AV.shiftL, aFieldV, aSliceW, aSliceO, aSlice, aSliceR, aSliceS, aBd, aMax, frzAVs, frzAV, frzTab, AObj.frz, aMM, aNilS, aMay, tyF_32_4, tyA_25, tyS_25, tyE_25, tyK_25, tyK_3, tyF_62_1, tyA_3, tyS_3, tyF_32_5, tyA_26, tyS_26, tyE_26, tyK_26, tyF_32_2, tyA_22, tyS_22, tyE_22, tyK_22, tyA_32, tyS_32, tyA_62, tyS_62, hle2, Bool.true_and] | (with_reducible refine aIf_split (fun _ => ?_) (fun _ => ?_)) | (with_reducible refine aSel_split (fun _ => ?_) (fun _ => ?_)) | (with_reducible refine aGd_split (fun _ => ?_) (fun _ => ?_)) | (with_reducible refine aDraw_quiet (by kernel_rfl) ?_) | ((with_reducible apply callV); exact (h1)) | ((with_reducible apply callD); exact (h1)) | ((with_reducible apply callV); exact (h2)) | ((with_reducible apply callD); exact (h2))))
end
section
open Go.RowKit
noncomputable def askedM (m : Mod) (s : St) (x : Inst) : Option Bool :=
  if x.op = 1 then some true else if x.op = 2 then some false else if x.op = 9 then some (hasB s.opn x.n) else if x.op = 10 then some (hasB s.don x.n)
  else if x.op = 11 then some (decide (0 < ((whoM m s x.n).length : Int))) else if x.op = 12 then some (hasB (atI s.did x.n) x.u)
  else if x.op = 13 then some (completeM m s) else if x.op = 14 then some (stuckM m s) else none
noncomputable def onM (m : Mod) (s : St) (x : Inst) : Bool := (askedM m s x).getD (optB (holdsO [x] s))
noncomputable def plainM (m : Mod) (s : St) (x : Inst) : Bool := (askedM m s x).getD false
set_option maxRecDepth 100000 in
set_option maxHeartbeats 8000000 in
theorem asked_A (m : Mod) (s : St) (x : Inst) (hl : m.events.length ≤ 1000000) (hl2 : m.users.length ≤ 1000000) (hl3 : m.miles.length ≤ 1000000) (hl4 : m.sods.length ≤ 1000000) : ADet Tryz.prog 17 [.agg (eMod m), .agg (eSt s), .agg (eInst x)] ⟨.tup [eB (optB (askedM m s x)), eB (askedM m s x).isSome], [], 0⟩ := by
  have hok : (⟨.tup [eB (optB (askedM m s x)), eB (askedM m s x).isSome], [], 0⟩ : Res).Ok := ⟨fun id o h => (by cases h), by simp [AV.lt, AV.ltL]⟩
  refine adet_of_code mixedT Tryz.func17 rfl (by decide) Tryz.ntmps17 Tryz.results17 rfl (hok) ?_
  obtain ⟨op, la, ln, ra, rn, n, u⟩ := x
  by_cases h12 : 0 ≤ n ∧ n < (s.did.length : Int)
  · obtain ⟨q, rfl⟩ : ∃ q : Nat, n = (q : Int) := ⟨n.toNat, by omega⟩
    have hq : q < s.did.length := by omega
    have hat : atI s.did (q : Int) = s.did[q] := by
      unfold atI
      rw [if_pos h12]
      simp [hq]
    (repeat' (first | simp (maxSteps := 5000000) (implicitDefEqProofs := false) only [ruA, ruB, aEv, aTake, aLoad, aField, aIndex, aLen, aBin, bin2, aUn, un1, aExtract, aConv, ASt.get, aget, ASt.put, aStore, aBox, aAppend, aBuildSlice, aMake, aBuild, aFill, oneParts, allC, aBinS, yv, aCells, oneC, oneCL, treeC, treeL, aLit, aDst, aSrc, appTab, Value.cells, Value.oneCell', envOf, aResL, aOne, ↓reduceIte, reduceCtorEq, forall_const, Nat.reduceLT, Nat.reduceEqDiff, Nat.reduceAdd, Nat.reduceMul, Nat.reduceSub, Nat.reduceLeDiff, Nat.reduceBEq, eq_self, implies_true, ne_eq, dref, dref1, dref2, aExecS, aStoreB, aTakes, aTakeE, aElder, aFrom, aFresh, isLoad, aBuildSlice1, frzs, frz1, ownIds, AV.frz, AV.frzL, frzEnv, AV.shift, AV.shiftL, aFieldV, aSliceW, aSliceO, aSlice, aSliceR, aSliceS, aBd, aMax, frzAVs, frzAV, frzTab, AObj.frz, aMM, aNilS, aMay, tyF_37_0, tyA_3, tyS_3, tyK_3, tyF_62_1, tyF_37_3, tyF_62_2, tyA_32, tyS_32, tyA_62, tyS_62, tyF_62_3, tyA_44, tyS_44, tyE_44, tyK_44, tyF_37_4, row_at, hq] | (with_reducible refine aIf_split (fun _ => ?_) (fun _ => ?_)) | (with_reducible refine aSel_split (fun _ => ?_) (fun _ => ?_)) | (with_reducible refine aGd_split (fun _ => ?_) (fun _ => ?_)) | (with_reducible refine aDraw_quiet (by kernel_rfl) ?_) | ((with_reducible apply callV (g := 30)); exact (can_A m s q hl3 hl4 hl2)) | ((with_reducible apply callD (g := 30)); exact (can_A m s q hl3 hl4 hl2)) | ((with_reducible apply callV (g := 31)); exact (complete_A m s hl3)) | ((with_reducible apply callD (g := 31)); exact (complete_A m s hl3)) | ((with_reducible apply callV (g := 32)); exact (stuck_A m s hl hl2 hl3 hl4)) | ((with_reducible apply callD (g := 32)); exact (stuck_A m s hl hl2 hl3 hl4)) | ((with_reducible apply callV (g := 29)); exact (has_A s.opn q)) | ((with_reducible apply callD (g := 29)); exact (has_A s.opn q)) | ((with_reducible apply callV (g := 29)); exact (has_A s.don q)) | ((with_reducible apply callD (g := 29)); exact (has_A s.don q)) | ((with_reducible apply callV (g := 29)); exact (has_A s.did[q] u)) | ((with_reducible apply callD (g := 29)); exact (has_A s.did[q] u))))
    all_goals first
      | (refine gives_tree ?_; simp_all [askedM, AV.ren, AV.renL, optB]; done)
      | (refine gives_tree ?_; simp_all [askedM, AV.ren, AV.renL, optB]; omega)
  · have hat : hasB (atI s.did n) u = false := by
      unfold atI
      rw [if_neg h12]
      simp [hasB]
    (repeat' (first | simp (maxSteps := 5000000) (implicitDefEqProofs := false) only [ruA, ruB, aEv, aTake, aLoad, aField, aIndex, aLen, aBin, bin2, aUn, un1, aExtract, aConv, ASt.get, aget, ASt.put, aStore, aBox, aAppend, aBuildSlice, aMake, aBuild, aFill, oneParts, allC, aBinS, yv, aCells, oneC, oneCL, treeC, treeL, aLit, aDst, aSrc, appTab, Value.cells, Value.oneCell', envOf, aResL, aOne, ↓reduceIte, reduceCtorEq, forall_const, Nat.reduceLT, Nat.reduceEqDiff, Nat.reduceAdd, Nat.reduceMul, Nat.reduceSub, Nat.reduceLeDiff, Nat.reduceBEq, eq_self, implies_true, ne_eq, dref, dref1, dref2, aExecS, aStoreB, aTakes, aTakeE, aElder, aFrom, aFresh, isLoad, aBuildSlice1, frzs, frz1, ownIds, AV.frz, AV.frzL, frzEnv, AV.shift, AV.shiftL, aFieldV, aSliceW, aSliceO, aSlice, aSliceR, aSliceS, aBd, aMax, frzAVs, frzAV, frzTab, AObj.frz, aMM, aNilS, aMay, tyF_37_0, tyA_3, tyS_3, tyK_3, tyF_62_1, tyF_37_3, tyF_62_2, tyA_32, tyS_32, tyA_62, tyS_62, tyF_62_3, tyA_44, tyS_44, tyE_44, tyK_44, tyF_37_4] | (with_reducible refine aIf_split (fun _ => ?_) (fun _ => ?_)) | (with_reducible refine aSel_split (fun _ => ?_) (fun _ => ?_)) | (with_reducible refine aGd_split (fun _ => ?_) (fun _ => ?_)) | (with_reducible refine aDraw_quiet (by kernel_rfl) ?_) | ((with_reducible apply callV (g := 30)); exact (can_A m s n hl3 hl4 hl2)) | ((with_reducible apply callD (g := 30)); exact (can_A m s n hl3 hl4 hl2)) | ((with_reducible apply callV (g := 31)); exact (complete_A m s hl3)) | ((with_reducible apply callD (g := 31)); exact (complete_A m s hl3)) | ((with_reducible apply callV (g := 32)); exact (stuck_A m s hl hl2 hl3 hl4)) | ((with_reducible apply callD (g := 32)); exact (stuck_A m s hl hl2 hl3 hl4)) | ((with_reducible apply callV (g := 29)); exact (has_A s.opn n)) | ((with_reducible apply callD (g := 29)); exact (has_A s.opn n)) | ((with_reducible apply callV (g := 29)); exact (has_A s.don n)) | ((with_reducible apply callD (g := 29)); exact (has_A s.don n))))
    all_goals first
      | (refine gives_tree ?_; simp_all [askedM, AV.ren, AV.renL, optB]; done)
      | (exfalso; simp at *; omega)
set_option maxRecDepth 100000 in
set_option maxHeartbeats 8000000 in
theorem on_A (m : Mod) (s : St) (x : Inst) (hl : m.events.length ≤ 1000000) (hl2 : m.users.length ≤ 1000000) (hl3 : m.miles.length ≤ 1000000) (hl4 : m.sods.length ≤ 1000000) (hx : x.ok) (hs : ∀ n ∈ s.vals, ok64 n) : ADet Tryz.prog 10 [.agg (eMod m), .agg (eSt s), .agg (eInst x)] (val (.bool (onM m s x))) := by
  refine adet_of_code mixedT Tryz.func10 rfl (by decide) Tryz.ntmps10 Tryz.results10 rfl (val_ok _) ?_
  cases ha : askedM m s x with
  | some b =>
    have hA := asked_A m s x hl hl2 hl3 hl4
    rw [ha] at hA
    have hv : onM m s x = b := by unfold onM; rw [ha]; rfl
    rw [hv]
    (repeat' (first | simp (maxSteps := 5000000) (implicitDefEqProofs := false) only [ruA, ruB, aEv, aTake, aLoad, aField, aIndex, aLen, aBin, bin2, aUn, un1, aExtract, aConv, ASt.get, aget, ASt.put, aStore, aBox, aAppend, aBuildSlice, aMake, aBuild, aFill, oneParts, allC, aBinS, yv, aCells, oneC, oneCL, treeC, treeL, aLit, aDst, aSrc, appTab, Value.cells, Value.oneCell', envOf, aResL, aOne, ↓reduceIte, reduceCtorEq, forall_const, Nat.reduceLT, Nat.reduceEqDiff, Nat.reduceAdd, Nat.reduceMul, Nat.reduceSub, Nat.reduceLeDiff, Nat.reduceBEq, eq_self, implies_true, ne_eq, dref, dref1, dref2, aExecS, aStoreB, aTakes, aTakeE, aElder, aFrom, aFresh, isLoad, aBuildSlice1, frzs, frz1, ownIds, AV.frz, AV.frzL, frzEnv, AV.shift, AV.shiftL, aFieldV, aSliceW, aSliceO, aSlice, aSliceR, aSliceS, aBd, aMax, frzAVs, frzAV, frzTab, AObj.frz, aMM, aNilS, aMay, tyA_32, tyS_32, tyA_62, tyS_62, tyA_37, tyS_37, tyR_53, Option.isSome_some] | (with_reducible refine aIf_split (fun _ => ?_) (fun _ => ?_)) | (with_reducible refine aSel_split (fun _ => ?_) (fun _ => ?_)) | (with_reducible refine aGd_split (fun _ => ?_) (fun _ => ?_)) | (with_reducible refine aDraw_quiet (by kernel_rfl) ?_) | ((with_reducible apply callT); exact (hA); exact (.inl (by simp [roL, roA, treeL, treeC])))))
    all_goals rfl
  | none =>
    have hA := asked_A m s x hl hl2 hl3 hl4
    rw [ha] at hA
    have hv : onM m s x = optB (holdsO [x] s) := by unfold onM; rw [ha]; rfl
    rw [hv]
    (repeat' (first | simp (maxSteps := 5000000) (implicitDefEqProofs := false) only [ruA, ruB, aEv, aTake, aLoad, aField, aIndex, aLen, aBin, bin2, aUn, un1, aExtract, aConv, ASt.get, aget, ASt.put, aStore, aBox, aAppend, aBuildSlice, aMake, aBuild, aFill, oneParts, allC, aBinS, yv, aCells, oneC, oneCL, treeC, treeL, aLit, aDst, aSrc, appTab, Value.cells, Value.oneCell', envOf, aResL, aOne, ↓reduceIte, reduceCtorEq, forall_const, Nat.reduceLT, Nat.reduceEqDiff, Nat.reduceAdd, Nat.reduceMul, Nat.reduceSub, Nat.reduceLeDiff, Nat.reduceBEq, eq_self, implies_true, ne_eq, dref, dref1, dref2, aExecS, aStoreB, aTakes, aTakeE, aElder, aFrom, aFresh, isLoad, aBuildSlice1, frzs, frz1, ownIds, AV.frz, AV.frzL, frzEnv, AV.shift, AV.shiftL, aFieldV, aSliceW, aSliceO, aSlice, aSliceR, aSliceS, aBd, aMax, frzAVs, frzAV, frzTab, AObj.frz, aMM, aNilS, aMay, tyA_32, tyS_32, tyA_62, tyS_62, tyA_37, tyS_37, tyR_53, Option.isSome_none] | (with_reducible refine aIf_split (fun _ => ?_) (fun _ => ?_)) | (with_reducible refine aSel_split (fun _ => ?_) (fun _ => ?_)) | (with_reducible refine aGd_split (fun _ => ?_) (fun _ => ?_)) | (with_reducible refine aDraw_quiet (by kernel_rfl) ?_) | ((with_reducible apply callT); exact (hA); exact (.inl (by simp [roL, roA, treeL, treeC])))))
    refine ⟨rfl, ?_⟩
    refine callZ [3] (R := ⟨.tup [eB (optB (holdsO [x] s)), eI (optE (holdsO [x] s))], [], 0⟩) ?_ ?_ ?_
    · simp (maxSteps := 5000000) (implicitDefEqProofs := false) only [ruA, ruB, aEv, aTake, aLoad, aField, aIndex, aLen, aBin, bin2, aUn, un1, aExtract, aConv, ASt.get, aget, ASt.put, aStore, aBox, aAppend, aBuildSlice, aMake, aBuild, aFill, oneParts, allC, aBinS, yv, aCells, oneC, oneCL, treeC, treeL, aLit, aDst, aSrc, appTab, Value.cells, Value.oneCell', envOf, aResL, aOne, ↓reduceIte, reduceCtorEq, forall_const, Nat.reduceLT, Nat.reduceEqDiff, Nat.reduceAdd, Nat.reduceMul, Nat.reduceSub, Nat.reduceLeDiff, Nat.reduceBEq, eq_self, implies_true, ne_eq, dref, dref1, dref2, aExecS, aStoreB, aTakes, aTakeE, aElder, aFrom, aFresh, isLoad, aBuildSlice1, frzs, frz1, ownIds, AV.frz, AV.frzL, frzEnv, AV.shift, AV.shiftL, aFieldV, aSliceW, aSliceO, aSlice, aSliceR, aSliceS, aBd, aMax, frzAVs, frzAV, frzTab, AObj.frz, aMM, aNilS, aMay, tyA_32, tyS_32, tyA_62, tyS_62, tyA_37, tyS_37, tyR_53]
      exact holds_A [x] s (by simp) (by simpa using hx) hs
    · simp (maxSteps := 5000000) (implicitDefEqProofs := false) only [ruA, ruB, aEv, aTake, aLoad, aField, aIndex, aLen, aBin, bin2, aUn, un1, aExtract, aConv, ASt.get, aget, ASt.put, aStore, aBox, aAppend, aBuildSlice, aMake, aBuild, aFill, oneParts, allC, aBinS, yv, aCells, oneC, oneCL, treeC, treeL, aLit, aDst, aSrc, appTab, Value.cells, Value.oneCell', envOf, aResL, aOne, ↓reduceIte, reduceCtorEq, forall_const, Nat.reduceLT, Nat.reduceEqDiff, Nat.reduceAdd, Nat.reduceMul, Nat.reduceSub, Nat.reduceLeDiff, Nat.reduceBEq, eq_self, implies_true, ne_eq, dref, dref1, dref2, aExecS, aStoreB, aTakes, aTakeE, aElder, aFrom, aFresh, isLoad, aBuildSlice1, frzs, frz1, ownIds, AV.frz, AV.frzL, frzEnv, AV.shift, AV.shiftL, aFieldV, aSliceW, aSliceO, aSlice, aSliceR, aSliceS, aBd, aMax, frzAVs, frzAV, frzTab, AObj.frz, aMM, aNilS, aMay, tyA_32, tyS_32, tyA_62, tyS_62, tyA_37, tyS_37, tyR_53]
      left
      simp [roL, roA, treeL, treeC]
    · (repeat' (first | simp (maxSteps := 5000000) (implicitDefEqProofs := false) only [ruA, ruB, aEv, aTake, aLoad, aField, aIndex, aLen, aBin, bin2, aUn, un1, aExtract, aConv, ASt.get, aget, ASt.put, aStore, aBox, aAppend, aBuildSlice, aMake, aBuild, aFill, oneParts, allC, aBinS, yv, aCells, oneC, oneCL, treeC, treeL, aLit, aDst, aSrc, appTab, Value.cells, Value.oneCell', envOf, aResL, aOne, ↓reduceIte, reduceCtorEq, forall_const, Nat.reduceLT, Nat.reduceEqDiff, Nat.reduceAdd, Nat.reduceMul, Nat.reduceSub, Nat.reduceLeDiff, Nat.reduceBEq, eq_self, implies_true, ne_eq, dref, dref1, dref2, aExecS, aStoreB, aTakes, aTakeE, aElder, aFrom, aFresh, isLoad, aBuildSlice1, frzs, frz1, ownIds, AV.frz, AV.frzL, frzEnv, AV.shift, AV.shiftL, aFieldV, aSliceW, aSliceO, aSlice, aSliceR, aSliceS, aBd, aMax, frzAVs, frzAV, frzTab, AObj.frz, aMM, aNilS, aMay, tyA_32, tyS_32, tyA_62, tyS_62, tyA_37, tyS_37, tyR_53] | (with_reducible refine aIf_split (fun _ => ?_) (fun _ => ?_)) | (with_reducible refine aSel_split (fun _ => ?_) (fun _ => ?_)) | (with_reducible refine aGd_split (fun _ => ?_) (fun _ => ?_)) | (with_reducible refine aDraw_quiet (by kernel_rfl) ?_)))
theorem compares33_A (x : Inst) : ADet Tryz.prog 12 [.agg (eInst x)] (val (.bool (decide (3 ≤ x.op) && decide (x.op ≤ 8)))) := by
  refine adet_of_code mixedT Tryz.func12 rfl (by decide) Tryz.ntmps12 Tryz.results12 rfl (val_ok _) ?_
  (repeat' (first | simp (maxSteps := 5000000) (implicitDefEqProofs := false) only [ruA, ruB, aEv, aTake, aLoad, aField, aIndex, aLen, aBin, bin2, aUn, un1, aExtract, aConv, ASt.get, aget, ASt.put, aStore, aBox, aAppend, aBuildSlice, aMake, aBuild, aFill, oneParts, allC, aBinS, yv, aCells, oneC, oneCL, treeC, treeL, aLit, aDst, aSrc, appTab, Value.cells, Value.oneCell', envOf, aResL, aOne, ↓reduceIte, reduceCtorEq, forall_const, Nat.reduceLT, Nat.reduceEqDiff, Nat.reduceAdd, Nat.reduceMul, Nat.reduceSub, Nat.reduceLeDiff, Nat.reduceBEq, eq_self, implies_true, ne_eq, dref, dref1, dref2, aExecS, aStoreB, aTakes, aTakeE, aElder, aFrom, aFresh, isLoad, aBuildSlice1, frzs, frz1, ownIds, AV.frz, AV.frzL, frzEnv, AV.shift, AV.shiftL, aFieldV, aSliceW, aSliceO, aSlice, aSliceR, aSliceS, aBd, aMax, frzAVs, frzAV, frzTab, AObj.frz, aMM, aNilS, aMay, tyF_37_0, tyA_3, tyS_3, tyK_3] | (with_reducible refine aIf_split (fun _ => ?_) (fun _ => ?_)) | (with_reducible refine aSel_split (fun _ => ?_) (fun _ => ?_)) | (with_reducible refine aGd_split (fun _ => ?_) (fun _ => ?_)) | (with_reducible refine aDraw_quiet (by kernel_rfl) ?_)))
  all_goals grind
set_option maxRecDepth 100000 in
set_option maxHeartbeats 8000000 in
theorem plain33_A (m : Mod) (s : St) (x : Inst) (hst : m.stages.length ≤ 1000000) (hle : m.events.length ≤ 1000000) (hl : m.miles.length ≤ 1000000) (hl2 : m.sods.length ≤ 1000000) (hl3 : m.users.length ≤ 1000000) (ho : ok64 s.opn) (hd : ok64 s.don) (hr : ∀ p ∈ m.roles, ok64 p.2) (hdid : ∀ x ∈ s.did, ok64 x) : ADet Tryz.prog 14 [.agg (eMod m), .agg (eSt s), .agg (eInst x)] (val (.bool (plainM m s x))) := by
  refine adet_of_code mixedT Tryz.func14 rfl (by decide) Tryz.ntmps14 Tryz.results14 rfl (val_ok _) ?_
  (repeat' (first | simp (maxSteps := 5000000) (implicitDefEqProofs := false) only [ruA, ruB, aEv, aTake, aLoad, aField, aIndex, aLen, aBin, bin2, aUn, un1, aExtract, aConv, ASt.get, aget, ASt.put, aStore, aBox, aAppend, aBuildSlice, aMake, aBuild, aFill, oneParts, allC, aBinS, yv, aCells, oneC, oneCL, treeC, treeL, aLit, aDst, aSrc, appTab, Value.cells, Value.oneCell', envOf, aResL, aOne, ↓reduceIte, reduceCtorEq, forall_const, Nat.reduceLT, Nat.reduceEqDiff, Nat.reduceAdd, Nat.reduceMul, Nat.reduceSub, Nat.reduceLeDiff, Nat.reduceBEq, eq_self, implies_true, ne_eq, dref, dref1, dref2, aExecS, aStoreB, aTakes, aTakeE, aElder, aFrom, aFresh, isLoad, aBuildSlice1, frzs, frz1, ownIds, AV.frz, AV.frzL, frzEnv, AV.shift, AV.shiftL, aFieldV, aSliceW, aSliceO, aSlice, aSliceR, aSliceS, aBd, aMax, frzAVs, frzAV, frzTab, AObj.frz, aMM, aNilS, aMay, tyF_37_0, tyA_3, tyS_3, tyK_3, tyF_62_1, tyF_37_3, tyF_62_2, tyA_32, tyS_32, tyA_62, tyS_62, tyE_44, tyK_44, tyF_37_4] | (with_reducible refine aIf_split (fun _ => ?_) (fun _ => ?_)) | (with_reducible refine aSel_split (fun _ => ?_) (fun _ => ?_)) | (with_reducible refine aGd_split (fun _ => ?_) (fun _ => ?_)) | (with_reducible refine aDraw_quiet (by kernel_rfl) ?_) | ((with_reducible apply callO (g := 24)); exact (whoR_A m s x.n hl hl2 hl3 ho hd hr hdid); exact (.inr ints_plain)) | ((with_reducible apply callV (g := 25)); exact (hadR_A s x.n x.u hdid)) | ((with_reducible apply callD (g := 25)); exact (hadR_A s x.n x.u hdid)) | ((with_reducible apply callV (g := 26)); exact (completeR_A m s hl hd)) | ((with_reducible apply callD (g := 26)); exact (completeR_A m s hl hd)) | ((with_reducible apply callV (g := 27)); exact (stuckR_A m s hst hle hl hl2 hl3 ho hd hr hdid)) | ((with_reducible apply callD (g := 27)); exact (stuckR_A m s hst hle hl hl2 hl3 ho hd hr hdid)) | ((with_reducible apply callV (g := 23)); exact (hasR_A s.opn x.n ho)) | ((with_reducible apply callD (g := 23)); exact (hasR_A s.opn x.n ho)) | ((with_reducible apply callV (g := 23)); exact (hasR_A s.don x.n hd)) | ((with_reducible apply callD (g := 23)); exact (hasR_A s.don x.n hd))))
  all_goals first
    | (simp_all [plainM, askedM]; done)
    | (by_cases h2 : x.op = 2 <;> simp_all [plainM, askedM])
end
section
open Go.RowKit
theorem cloneI_A (l : List Int) (hl : l.length ≤ 1000000) : ADet Tryz.prog 28 [sI l] ⟨sI l, [], 0⟩ := by
  refine adet_own_nil (e := 3) ?_
  refine arel_of_code mixedT Tryz.func28 rfl (by decide) Tryz.ntmps28 Tryz.results28 rfl ?_
  (repeat' (first | simp (maxSteps := 5000000) (implicitDefEqProofs := false) only [ruA, ruB, aEv, aTake, aLoad, aField, aIndex, aLen, aBin, bin2, aUn, un1, aExtract, aConv, ASt.get, aget, ASt.put, aStore, aBox, aAppend, aBuildSlice, aMake, aBuild, aFill, oneParts, allC, aBinS, yv, aCells, oneC, oneCL, treeC, treeL, aLit, aDst, aSrc, appTab, Value.cells, Value.oneCell', envOf, aResL, aOne, ↓reduceIte, reduceCtorEq, forall_const, Nat.reduceLT, Nat.reduceEqDiff, Nat.reduceAdd, Nat.reduceMul, Nat.reduceSub, Nat.reduceLeDiff, Nat.reduceBEq, eq_self, implies_true, ne_eq, dref, dref1, dref2, aExecS, aStoreB, aTakes, aTakeE, aElder, aFrom, aFresh, isLoad, aBuildSlice1, frzs, frz1, ownIds, AV.frz, AV.frzL, frzEnv, AV.shift, AV.shiftL, aFieldV, aSliceW, aSliceO, aSlice, aSliceR, aSliceS, aBd, aMax, frzAVs, frzAV, frzTab, AObj.frz, aMM, aNilS, aMay, tyK_44, tyR_44] | (with_reducible refine aIf_split (fun _ => ?_) (fun _ => ?_)) | (with_reducible refine aSel_split (fun _ => ?_) (fun _ => ?_)) | (with_reducible refine aGd_split (fun _ => ?_) (fun _ => ?_))))
  intro c hc
  cases c with
  | true =>
    (repeat' (first | simp (maxSteps := 5000000) (implicitDefEqProofs := false) only [ruA, ruB, aEv, aTake, aLoad, aField, aIndex, aLen, aBin, bin2, aUn, un1, aExtract, aConv, ASt.get, aget, ASt.put, aStore, aBox, aAppend, aBuildSlice, aMake, aBuild, aFill, oneParts, allC, aBinS, yv, aCells, oneC, oneCL, treeC, treeL, aLit, aDst, aSrc, appTab, Value.cells, Value.oneCell', envOf, aResL, aOne, ↓reduceIte, reduceCtorEq, forall_const, Nat.reduceLT, Nat.reduceEqDiff, Nat.reduceAdd, Nat.reduceMul, Nat.reduceSub, Nat.reduceLeDiff, Nat.reduceBEq, eq_self, implies_true, ne_eq, dref, dref1, dref2, aExecS, aStoreB, aTakes, aTakeE, aElder, aFrom, aFresh, isLoad, aBuildSlice1, frzs, frz1, ownIds, AV.frz, AV.frzL, frzEnv, AV.shift, AV.shiftL, aFieldV, aSliceW, aSliceO, aSlice, aSliceR, aSliceS, aBd, aMax, frzAVs, frzAV, frzTab, AObj.frz, aMM, aNilS, aMay, tyK_44, tyR_44] | (with_reducible refine aIf_split (fun _ => ?_) (fun _ => ?_)) | (with_reducible refine aSel_split (fun _ => ?_) (fun _ => ?_)) | (with_reducible refine aGd_split (fun _ => ?_) (fun _ => ?_))))
    exact retV (.inr ⟨rfl, hc rfl⟩)
  | false =>
    (repeat' (first | simp (maxSteps := 5000000) (implicitDefEqProofs := false) only [ruA, ruB, aEv, aTake, aLoad, aField, aIndex, aLen, aBin, bin2, aUn, un1, aExtract, aConv, ASt.get, aget, ASt.put, aStore, aBox, aAppend, aBuildSlice, aMake, aBuild, aFill, oneParts, allC, aBinS, yv, aCells, oneC, oneCL, treeC, treeL, aLit, aDst, aSrc, appTab, Value.cells, Value.oneCell', envOf, aResL, aOne, ↓reduceIte, reduceCtorEq, forall_const, Nat.reduceLT, Nat.reduceEqDiff, Nat.reduceAdd, Nat.reduceMul, Nat.reduceSub, Nat.reduceLeDiff, Nat.reduceBEq, eq_self, implies_true, ne_eq, dref, dref1, dref2, aExecS, aStoreB, aTakes, aTakeE, aElder, aFrom, aFresh, isLoad, aBuildSlice1, frzs, frz1, ownIds, AV.frz, AV.frzL, frzEnv, AV.shift, AV.shiftL, aFieldV, aSliceW, aSliceO, aSlice, aSliceR, aSliceS, aBd, aMax, frzAVs, frzAV, frzTab, AObj.frz, aMM, aNilS, aMay, tyK_44, tyR_44] | (with_reducible refine aIf_split (fun _ => ?_) (fun _ => ?_)) | (with_reducible refine aSel_split (fun _ => ?_) (fun _ => ?_)) | (with_reducible refine aGd_split (fun _ => ?_) (fun _ => ?_))))
    exact ⟨rfl, by omega, retO rfl (.inl rfl)⟩
set_option maxRecDepth 100000 in
set_option maxHeartbeats 8000000 in
theorem status_A (zc zg : List (List AV)) (o d : Int) (did cnt : List Int) (h1 : did.length ≤ 1000000) (h2 : cnt.length ≤ 1000000) : ADet Tryz.prog 16 [.agg [.sl 2 zc, .sl 1 zg, eI o, eI d, sI did, sI cnt]] ⟨.agg [.c (.slice none 0 0), eI o, eI d, sI did, sI cnt], [], 0⟩ := by
  have hok : (⟨.agg [.c (.slice none 0 0), eI o, eI d, sI did, sI cnt], [], 0⟩ : Res).Ok := ⟨fun id o h => (by cases h), by simp [AV.lt, AV.ltL]⟩
  refine adet_of_code mixedT Tryz.func16 rfl (by decide) Tryz.ntmps16 Tryz.results16 rfl (hok) ?_
  (repeat' (first | simp (maxSteps := 5000000) (implicitDefEqProofs := false) only [ruA, ruB, aEv, aTake, aLoad, aField, aIndex, aLen, aBin, bin2, aUn, un1, aExtract, aConv, ASt.get, aget, ASt.put, aStore, aBox, aAppend, aBuildSlice, aMake, aBuild, aFill, oneParts, allC, aBinS, yv, aCells, oneC, oneCL, treeC, treeL, aLit, aDst, aSrc, appTab, Value.cells, Value.oneCell', envOf, aResL, aOne, ↓reduceIte, reduceCtorEq, forall_const, Nat.reduceLT, Nat.reduceEqDiff, Nat.reduceAdd, Nat.reduceMul, Nat.reduceSub, Nat.reduceLeDiff, Nat.reduceBEq, eq_self, implies_true, ne_eq, dref, dref1, dref2, aExecS, aStoreB, aTakes, aTakeE, aElder, aFrom, aFresh, isLoad, aBuildSlice1, frzs, frz1, ownIds, AV.frz, AV.frzL, frzEnv, AV.shift, AV.shiftL, aFieldV, aSliceW, aSliceO, aSlice, aSliceR, aSliceS, aBd, aMax, frzAVs, frzAV, frzTab, AObj.frz, aMM, aNilS, aMay, tyA_62, tyS_62, tyZ_62, tyF_48_1, tyA_3, tyS_3, tyF_48_2, tyF_48_3, tyA_44, tyS_44, tyF_48_4, tyB_62] | (with_reducible refine aIf_split (fun _ => ?_) (fun _ => ?_)) | (with_reducible refine aSel_split (fun _ => ?_) (fun _ => ?_)) | (with_reducible refine aGd_split (fun _ => ?_) (fun _ => ?_))))
  refine aDraw_held [1] [0, 1, 2, 3, 4, 5, 7, 8] (.exec 6 (.exec 9 (.take 10 (.exec 11 .done)))) (by kernel_rfl) (by simp [ATab.get_cons]) ?_
  (repeat' (first | simp (maxSteps := 5000000) (implicitDefEqProofs := false) only [ruA, ruB, aEv, aTake, aLoad, aField, aIndex, aLen, aBin, bin2, aUn, un1, aExtract, aConv, ASt.get, aget, ASt.put, aStore, aBox, aAppend, aBuildSlice, aMake, aBuild, aFill, oneParts, allC, aBinS, yv, aCells, oneC, oneCL, treeC, treeL, aLit, aDst, aSrc, appTab, Value.cells, Value.oneCell', envOf, aResL, aOne, ↓reduceIte, reduceCtorEq, forall_const, Nat.reduceLT, Nat.reduceEqDiff, Nat.reduceAdd, Nat.reduceMul, Nat.reduceSub, Nat.reduceLeDiff, Nat.reduceBEq, eq_self, implies_true, ne_eq, dref, dref1, dref2, aExecS, aStoreB, aTakes, aTakeE, aElder, aFrom, aFresh, isLoad, aBuildSlice1, frzs, frz1, ownIds, AV.frz, AV.frzL, frzEnv, AV.shift, AV.shiftL, aFieldV, aSliceW, aSliceO, aSlice, aSliceR, aSliceS, aBd, aMax, frzAVs, frzAV, frzTab, AObj.frz, aMM, aNilS, aMay, tyA_62, tyS_62, tyZ_62, tyF_48_1, tyA_3, tyS_3, tyF_48_2, tyF_48_3, tyA_44, tyS_44, tyF_48_4, tyB_62] | (with_reducible refine aIf_split (fun _ => ?_) (fun _ => ?_)) | (with_reducible refine aSel_split (fun _ => ?_) (fun _ => ?_)) | (with_reducible refine aGd_split (fun _ => ?_) (fun _ => ?_)) | (with_reducible refine aDraw_quiet (by kernel_rfl) ?_) | ((with_reducible apply callT (g := 28)); exact (cloneI_A did h1); exact (.inl (by simp [roL, roA, treeL, treeC]))) | ((with_reducible apply callT (g := 28)); exact (cloneI_A cnt h2); exact (.inl (by simp [roL, roA, treeL, treeC]))) | (with_reducible apply And.intro)))
  all_goals exact gives_tree (by first | rfl | simp [AV.ren, AV.renL])
def exM0 : Mod := ⟨[], [], [], [], [], [], [], [], [], []⟩
def exS33 : St := ⟨[], 0, 0, [1], []⟩
def exX33 : Inst := ⟨12, 0, 0, 0, 0, 0, 0⟩
theorem ex33_asked : askedM exM0 exS33 exX33 = some true := by
  unfold askedM
  simp [exX33]
  decide
theorem ex33_on : onM exM0 exS33 exX33 = true := by
  unfold onM
  rw [ex33_asked]
  rfl
set_option maxRecDepth 100000 in
set_option maxHeartbeats 8000000 in
theorem at33_A : ADet Tryz.prog 9 [.agg [.c (.slice none 0 0), .c (.slice none 0 0), .c (.slice none 0 0), .c (.slice none 0 0), .c (.slice none 0 0), .c (.slice none 0 0), .c (.slice none 0 0), .c (.slice none 0 0), .c (.slice none 0 0), .c (.slice none 0 0)], .c (.slice none 0 0), .agg [.c (.slice none 0 0), .c (.slice none 0 0), eI 0, eI 0, sI [1], .c (.slice none 0 0)], .agg (eInst exX33)] (val (.bool true)) := by
  refine adet_of_code mixedT Tryz.func9 rfl (by decide) Tryz.ntmps9 Tryz.results9 rfl (val_ok _) ?_
  have hS := (status_A [] [] 0 0 [1] [] (by simp) (by simp)).fits (args := [.agg [.c (.slice none 0 0), .c (.slice none 0 0), eI 0, eI 0, sI [1], .c (.slice none 0 0)]]) ⟨.agg ⟨.nil 2, .nil 1, .refl _, .refl _, .refl _, .nil 1, trivial⟩, trivial⟩
  have hA := asked_A exM0 exS33 exX33 (by simp [exM0]) (by simp [exM0]) (by simp [exM0]) (by simp [exM0])
  rw [ex33_asked] at hA
  have hA2 := hA.fits (args := [.agg [.c (.slice none 0 0), .c (.slice none 0 0), .c (.slice none 0 0), .c (.slice none 0 0), .c (.slice none 0 0), .c (.slice none 0 0), .c (.slice none 0 0), .c (.slice none 0 0), .c (.slice none 0 0), .c (.slice none 0 0)], .agg [.c (.slice none 0 0), eI 0, eI 0, sI [1], sI []], .agg (eInst exX33)]) ⟨.agg ⟨.nil 1, .nil 1, .nil 1, .nil 2, .nil 2, .nil 5, .nil 3, .nil 5, .nil 2, .nil 2, trivial⟩, .agg ⟨.nil 1, .refl _, .refl _, .refl _, .refl _, trivial⟩, .one (.refl _), trivial⟩
  (repeat' (first | simp (maxSteps := 5000000) (implicitDefEqProofs := false) only [ruA, ruB, aEv, aTake, aLoad, aField, aIndex, aLen, aBin, bin2, aUn, un1, aExtract, aConv, ASt.get, aget, ASt.put, aStore, aBox, aAppend, aBuildSlice, aMake, aBuild, aFill, oneParts, allC, aBinS, yv, aCells, oneC, oneCL, treeC, treeL, aLit, aDst, aSrc, appTab, Value.cells, Value.oneCell', envOf, aResL, aOne, ↓reduceIte, reduceCtorEq, forall_const, Nat.reduceLT, Nat.reduceEqDiff, Nat.reduceAdd, Nat.reduceMul, Nat.reduceSub, Nat.reduceLeDiff, Nat.reduceBEq, eq_self, implies_true, ne_eq, dref, dref1, dref2, aExecS, aStoreB, aTakes, aTakeE, aElder, aFrom, aFresh, isLoad, aBuildSlice1, frzs, frz1, ownIds, AV.frz, AV.frzL, frzEnv, AV.shift, AV.shiftL, aFieldV, aSliceW, aSliceO, aSlice, aSliceR, aSliceS, aBd, aMax, frzAVs, frzAV, frzTab, AObj.frz, aMM, aNilS, aMay, tyA_48, tyS_48, tyZ_62, tyS_62, tyA_32, tyS_32, tyA_62, tyA_37, tyS_37, tyR_53, tyF_48_0, tyA_46, tyS_46, Option.isSome_some] | (with_reducible refine aIf_split (fun _ => ?_) (fun _ => ?_)) | (with_reducible refine aSel_split (fun _ => ?_) (fun _ => ?_)) | (with_reducible refine aGd_split (fun _ => ?_) (fun _ => ?_)) | (with_reducible refine aDraw_quiet (by kernel_rfl) ?_) | ((with_reducible apply callT); exact (hS); exact (.inl (by simp [roL, roA, treeL, treeC]))) | ((with_reducible apply callT); exact (hA2); exact (.inl (by simp [roL, roA, treeL, treeC])))))
  all_goals rfl
set_option maxRecDepth 100000 in
set_option maxHeartbeats 8000000 in
theorem awake33_A : ADet Tryz.prog 5 [] (val (.bool true)) := by
  refine adet_of_code mixedT Tryz.func5 rfl (by decide) Tryz.ntmps5 Tryz.results5 rfl (val_ok _) ?_
  have hO := on_A exM0 exS33 exX33 (by simp [exM0]) (by simp [exM0]) (by simp [exM0]) (by simp [exM0]) (by simp [exX33, Inst.ok, ok64]) (by simp [exS33])
  rw [ex33_on] at hO
  have hO2 := hO.fits (args := [.agg [.c (.slice none 0 0), .c (.slice none 0 0), .c (.slice none 0 0), .c (.slice none 0 0), .c (.slice none 0 0), .c (.slice none 0 0), .c (.slice none 0 0), .c (.slice none 0 0), .c (.slice none 0 0), .c (.slice none 0 0)], .agg [.c (.slice none 0 0), eI 0, eI 0, sI [1], .c (.slice none 0 0)], .agg (eInst exX33)]) ⟨.agg ⟨.nil 1, .nil 1, .nil 1, .nil 2, .nil 2, .nil 5, .nil 3, .nil 5, .nil 2, .nil 2, trivial⟩, .agg ⟨.nil 1, .refl _, .refl _, .refl _, .nil 1, trivial⟩, .one (.refl _), trivial⟩
  (repeat' (first | simp (maxSteps := 5000000) (implicitDefEqProofs := false) only [ruA, ruB, aEv, aTake, aLoad, aField, aIndex, aLen, aBin, bin2, aUn, un1, aExtract, aConv, ASt.get, aget, ASt.put, aStore, aBox, aAppend, aBuildSlice, aMake, aBuild, aFill, oneParts, allC, aBinS, yv, aCells, oneC, oneCL, treeC, treeL, aLit, aDst, aSrc, appTab, Value.cells, Value.oneCell', envOf, aResL, aOne, ↓reduceIte, reduceCtorEq, forall_const, Nat.reduceLT, Nat.reduceEqDiff, Nat.reduceAdd, Nat.reduceMul, Nat.reduceSub, Nat.reduceLeDiff, Nat.reduceBEq, eq_self, implies_true, ne_eq, dref, dref1, dref2, aExecS, aStoreB, aTakes, aTakeE, aElder, aFrom, aFresh, isLoad, aBuildSlice1, frzs, frz1, ownIds, AV.frz, AV.frzL, frzEnv, AV.shift, AV.shiftL, aFieldV, aSliceW, aSliceO, aSlice, aSliceR, aSliceS, aBd, aMax, frzAVs, frzAV, frzTab, AObj.frz, aMM, aNilS, aMay, tyB_32, tyR_44, tyB_62, tyB_37, tyB_48] | (with_reducible refine aIf_split (fun _ => ?_) (fun _ => ?_)) | (with_reducible refine aSel_split (fun _ => ?_) (fun _ => ?_)) | (with_reducible refine aGd_split (fun _ => ?_) (fun _ => ?_))))
  refine ⟨rfl, ?_⟩
  refine callZ [0] (R := ⟨.c (.bool true), [], 0⟩) ?_ ?_ ?_
  · simp (maxSteps := 5000000) (implicitDefEqProofs := false) only [ruA, ruB, aEv, aTake, aLoad, aField, aIndex, aLen, aBin, bin2, aUn, un1, aExtract, aConv, ASt.get, aget, ASt.put, aStore, aBox, aAppend, aBuildSlice, aMake, aBuild, aFill, oneParts, allC, aBinS, yv, aCells, oneC, oneCL, treeC, treeL, aLit, aDst, aSrc, appTab, Value.cells, Value.oneCell', envOf, aResL, aOne, ↓reduceIte, reduceCtorEq, forall_const, Nat.reduceLT, Nat.reduceEqDiff, Nat.reduceAdd, Nat.reduceMul, Nat.reduceSub, Nat.reduceLeDiff, Nat.reduceBEq, eq_self, implies_true, ne_eq, dref, dref1, dref2, aExecS, aStoreB, aTakes, aTakeE, aElder, aFrom, aFresh, isLoad, aBuildSlice1, frzs, frz1, ownIds, AV.frz, AV.frzL, frzEnv, AV.shift, AV.shiftL, aFieldV, aSliceW, aSliceO, aSlice, aSliceR, aSliceS, aBd, aMax, frzAVs, frzAV, frzTab, AObj.frz, aMM, aNilS, aMay, tyB_32, tyR_44, tyB_62, tyB_37, tyB_48]
    exact hO2
  · simp (maxSteps := 5000000) (implicitDefEqProofs := false) only [ruA, ruB, aEv, aTake, aLoad, aField, aIndex, aLen, aBin, bin2, aUn, un1, aExtract, aConv, ASt.get, aget, ASt.put, aStore, aBox, aAppend, aBuildSlice, aMake, aBuild, aFill, oneParts, allC, aBinS, yv, aCells, oneC, oneCL, treeC, treeL, aLit, aDst, aSrc, appTab, Value.cells, Value.oneCell', envOf, aResL, aOne, ↓reduceIte, reduceCtorEq, forall_const, Nat.reduceLT, Nat.reduceEqDiff, Nat.reduceAdd, Nat.reduceMul, Nat.reduceSub, Nat.reduceLeDiff, Nat.reduceBEq, eq_self, implies_true, ne_eq, dref, dref1, dref2, aExecS, aStoreB, aTakes, aTakeE, aElder, aFrom, aFresh, isLoad, aBuildSlice1, frzs, frz1, ownIds, AV.frz, AV.frzL, frzEnv, AV.shift, AV.shiftL, aFieldV, aSliceW, aSliceO, aSlice, aSliceR, aSliceS, aBd, aMax, frzAVs, frzAV, frzTab, AObj.frz, aMM, aNilS, aMay, tyB_32, tyR_44, tyB_62, tyB_37, tyB_48]
    left
    simp [roL, roA, treeL, treeC]
  · (repeat' (first | simp (maxSteps := 5000000) (implicitDefEqProofs := false) only [ruA, ruB, aEv, aTake, aLoad, aField, aIndex, aLen, aBin, bin2, aUn, un1, aExtract, aConv, ASt.get, aget, ASt.put, aStore, aBox, aAppend, aBuildSlice, aMake, aBuild, aFill, oneParts, allC, aBinS, yv, aCells, oneC, oneCL, treeC, treeL, aLit, aDst, aSrc, appTab, Value.cells, Value.oneCell', envOf, aResL, aOne, ↓reduceIte, reduceCtorEq, forall_const, Nat.reduceLT, Nat.reduceEqDiff, Nat.reduceAdd, Nat.reduceMul, Nat.reduceSub, Nat.reduceLeDiff, Nat.reduceBEq, eq_self, implies_true, ne_eq, dref, dref1, dref2, aExecS, aStoreB, aTakes, aTakeE, aElder, aFrom, aFresh, isLoad, aBuildSlice1, frzs, frz1, ownIds, AV.frz, AV.frzL, frzEnv, AV.shift, AV.shiftL, aFieldV, aSliceW, aSliceO, aSlice, aSliceR, aSliceS, aBd, aMax, frzAVs, frzAV, frzTab, AObj.frz, aMM, aNilS, aMay, tyB_32, tyR_44, tyB_62, tyB_37, tyB_48] | (with_reducible refine aIf_split (fun _ => ?_) (fun _ => ?_)) | (with_reducible refine aSel_split (fun _ => ?_) (fun _ => ?_)) | (with_reducible refine aGd_split (fun _ => ?_) (fun _ => ?_))))
    refine ⟨rfl, ?_⟩
    refine callZ [1] (R := ⟨.c (.bool true), [], 0⟩) ?_ ?_ ?_
    · simp (maxSteps := 5000000) (implicitDefEqProofs := false) only [ruA, ruB, aEv, aTake, aLoad, aField, aIndex, aLen, aBin, bin2, aUn, un1, aExtract, aConv, ASt.get, aget, ASt.put, aStore, aBox, aAppend, aBuildSlice, aMake, aBuild, aFill, oneParts, allC, aBinS, yv, aCells, oneC, oneCL, treeC, treeL, aLit, aDst, aSrc, appTab, Value.cells, Value.oneCell', envOf, aResL, aOne, ↓reduceIte, reduceCtorEq, forall_const, Nat.reduceLT, Nat.reduceEqDiff, Nat.reduceAdd, Nat.reduceMul, Nat.reduceSub, Nat.reduceLeDiff, Nat.reduceBEq, eq_self, implies_true, ne_eq, dref, dref1, dref2, aExecS, aStoreB, aTakes, aTakeE, aElder, aFrom, aFresh, isLoad, aBuildSlice1, frzs, frz1, ownIds, AV.frz, AV.frzL, frzEnv, AV.shift, AV.shiftL, aFieldV, aSliceW, aSliceO, aSlice, aSliceR, aSliceS, aBd, aMax, frzAVs, frzAV, frzTab, AObj.frz, aMM, aNilS, aMay, tyB_32, tyR_44, tyB_62, tyB_37, tyB_48]
      exact at33_A
    · simp (maxSteps := 5000000) (implicitDefEqProofs := false) only [ruA, ruB, aEv, aTake, aLoad, aField, aIndex, aLen, aBin, bin2, aUn, un1, aExtract, aConv, ASt.get, aget, ASt.put, aStore, aBox, aAppend, aBuildSlice, aMake, aBuild, aFill, oneParts, allC, aBinS, yv, aCells, oneC, oneCL, treeC, treeL, aLit, aDst, aSrc, appTab, Value.cells, Value.oneCell', envOf, aResL, aOne, ↓reduceIte, reduceCtorEq, forall_const, Nat.reduceLT, Nat.reduceEqDiff, Nat.reduceAdd, Nat.reduceMul, Nat.reduceSub, Nat.reduceLeDiff, Nat.reduceBEq, eq_self, implies_true, ne_eq, dref, dref1, dref2, aExecS, aStoreB, aTakes, aTakeE, aElder, aFrom, aFresh, isLoad, aBuildSlice1, frzs, frz1, ownIds, AV.frz, AV.frzL, frzEnv, AV.shift, AV.shiftL, aFieldV, aSliceW, aSliceO, aSlice, aSliceR, aSliceS, aBd, aMax, frzAVs, frzAV, frzTab, AObj.frz, aMM, aNilS, aMay, tyB_32, tyR_44, tyB_62, tyB_37, tyB_48]
      left
      simp [roL, roA, treeL, treeC]
    · (repeat' (first | simp (maxSteps := 5000000) (implicitDefEqProofs := false) only [ruA, ruB, aEv, aTake, aLoad, aField, aIndex, aLen, aBin, bin2, aUn, un1, aExtract, aConv, ASt.get, aget, ASt.put, aStore, aBox, aAppend, aBuildSlice, aMake, aBuild, aFill, oneParts, allC, aBinS, yv, aCells, oneC, oneCL, treeC, treeL, aLit, aDst, aSrc, appTab, Value.cells, Value.oneCell', envOf, aResL, aOne, ↓reduceIte, reduceCtorEq, forall_const, Nat.reduceLT, Nat.reduceEqDiff, Nat.reduceAdd, Nat.reduceMul, Nat.reduceSub, Nat.reduceLeDiff, Nat.reduceBEq, eq_self, implies_true, ne_eq, dref, dref1, dref2, aExecS, aStoreB, aTakes, aTakeE, aElder, aFrom, aFresh, isLoad, aBuildSlice1, frzs, frz1, ownIds, AV.frz, AV.frzL, frzEnv, AV.shift, AV.shiftL, aFieldV, aSliceW, aSliceO, aSlice, aSliceR, aSliceS, aBd, aMax, frzAVs, frzAV, frzTab, AObj.frz, aMM, aNilS, aMay, tyB_32, tyR_44, tyB_62, tyB_37, tyB_48] | (with_reducible refine aIf_split (fun _ => ?_) (fun _ => ?_)) | (with_reducible refine aSel_split (fun _ => ?_) (fun _ => ?_)) | (with_reducible refine aGd_split (fun _ => ?_) (fun _ => ?_))))
end
section
def isD (b : Nat) : Bool := decide (48 ≤ b) && decide (b ≤ 57)
def valL (l : List Nat) : Nat := l.foldl (fun n b => n * 10 + (b - 48)) 0
def formedL (l : List Nat) : Bool := !l.isEmpty && l.all isD
/-- the number, and the error's number -/
def signed (neg : Bool) (l : List Nat) : Int × Int :=
  if formedL l = false then (0, 17) else if (if neg = true then 9223372036854775808 else 9223372036854775807) < valL l then (0, 2) else (if neg = true then -(valL l : Int) else (valL l : Int), 0)
end
section
open Go.RowKit

/-- v holds the numbers l -/
def LI (w : World) (v : Value) (l : List Int) : Prop :=
  ∃ A c, v = .slice A l.length c ∧ l.length ≤ c ∧ (0 < l.length → ∃ b o, A = some ⟨b, o, none⟩ ∧ b < w.heap.size ∧ ∀ i (h : i < l.length), w.cell? ⟨b, o + i, none⟩ = some (.int .i64 l[i]))
theorem LI.below {w w' : World} {v : Value} {l : List Int} (h : LI w v l) (hb : Below w.heap.size w w') : LI w' v l := by
  obtain ⟨A, c, rfl, hc, hr⟩ := h
  refine ⟨A, c, rfl, hc, fun hp => ?_⟩
  obtain ⟨b, o, hA, hb1, hcell⟩ := hr hp
  exact ⟨b, o, hA, Nat.lt_of_lt_of_le hb1 hb.size, fun i hi => (hb.cell hb1).trans (hcell i hi)⟩
theorem LI.some_ {w : World} {v : Value} {l : List Int} (h : LI w v l) (hp : 0 < l.length) : ∃ b o c, v = .slice (some ⟨b, o, none⟩) l.length c ∧ l.length ≤ c ∧ b < w.heap.size ∧ ∀ i (h : i < l.length), w.cell? ⟨b, o + i, none⟩ = some (.int .i64 l[i]) := by
  obtain ⟨A, c, rfl, hc, hr⟩ := h
  obtain ⟨b, o, rfl, hb, hcell⟩ := hr hp
  exact ⟨b, o, c, rfl, hc, hb, hcell⟩
theorem LI.at_ {w : World} {A : Option Addr} {c : Nat} {l : List Int} (h : LI w (.slice A l.length c) l) {i : Nat} (hi : i < l.length) : ∃ b o, A = some ⟨b, o, none⟩ ∧ b < w.heap.size ∧ w.cell? ⟨b, o + i, none⟩ = some (.int .i64 l[i]) := by
  obtain ⟨A', c', e, hc, hr⟩ := h
  obtain ⟨rfl, _, rfl⟩ : A = A' ∧ l.length = l.length ∧ c = c' := by simpa using e
  obtain ⟨b, o, rfl, hb, hcell⟩ := hr (by omega)
  exact ⟨b, o, rfl, hb, hcell i hi⟩
theorem LI.of_own {w : World} {base n : Nat} {v : Value} {l : List Int} (h : w.ownsRow base 2 1 v n (l.map (Value.int .i64))) (hn : n = l.length) : LI w v l := by
  subst hn
  obtain ⟨A, c, rfl, hc⟩ := own_form h
  refine ⟨A, c, rfl, hc, fun hp => ?_⟩
  obtain ⟨g, c', e, _, _, hg⟩ := own_some h hp
  obtain ⟨rfl, _, rfl⟩ : A = some ⟨g, 0, none⟩ ∧ l.length = l.length ∧ c = c' := by simpa using e
  exact ⟨g, 0, rfl, hg, fun i hi => by rw [Nat.zero_add]; exact own_cell h rfl (by simp [hi])⟩

theorem below_drewN' {B : Nat} {w w' : World} (h : Below B w w') (n : Nat) : Below B w (w'.drewN n) := h.trans ⟨rfl, rfl, rfl, Nat.le_refl _, fun _ _ => rfl⟩
end
section
open Go.RowKit
def LN (B : Nat) (w : World) (v : Value) (l : List Int) : Prop :=
  ∃ A c, v = .slice A l.length c ∧ l.length ≤ c ∧ c ≤ 9223372036854775807 ∧ (0 < l.length → ∃ b o, A = some ⟨b, o, none⟩ ∧ B ≤ b ∧ b < w.heap.size ∧ ∀ i (h : i < l.length), w.cell? ⟨b, o + i, none⟩ = some (.int .i64 l[i]))
theorem LN.of_own {w : World} {base n : Nat} {v : Value} {l : List Int} (h : w.ownsRow base 2 1 v n (l.map (Value.int .i64))) (hn : n = l.length) : LN base w v l := by
  subst hn
  have h0 := h
  rcases h0.2 with ⟨rfl, h1⟩ | ⟨g, cap, cur, rfl, hb, hg, h2, h3, _⟩
  · exact ⟨none, 0, by rw [h1], by omega, by omega, fun hp => by omega⟩
  · refine ⟨_, cap, rfl, h2, by unfold maxLen at h3; omega, fun hp => ⟨g, 0, rfl, hb, (Array.getElem?_eq_some_iff.1 hg).1, fun i hi => ?_⟩⟩
    rw [Nat.zero_add]
    exact own_cell h rfl (by simp [hi])
theorem LN.rt {B : Nat} {w : World} {S : Nat → Prop} {v : Value} {l : List Int} (h : LN B w v l) (hS : ∀ b, B ≤ b → b < w.heap.size → S b) : RT w S v (sI l) := by
  obtain ⟨A, c, rfl, h1, h2, h3⟩ := h
  have key : ∀ (i j : Nat) (row : List AV) (av : AV), (l.map fun n => [eI n])[i]? = some row → row[j]? = some av → ∃ hi : i < l.length, j = 0 ∧ av = eI l[i] := fun i j row av h4 h5 => by
    have hi : i < l.length := by
      have := (List.getElem?_eq_some_iff.1 h4).1
      simpa using this
    rw [List.getElem?_map, List.getElem?_eq_getElem hi] at h4
    cases h4
    match j with
    | 0 => exact ⟨hi, rfl, by simpa using h5.symm⟩
    | j + 1 => simp at h5
  by_cases h0 : 0 < l.length
  · obtain ⟨b, o, rfl, hb, hbs, hcell⟩ := h3 h0
    refine .sl _ _ c 1 _ b o (fun i _ => .int .i64 (l.getD i 0)) (by simp) h1 h2 (fun _ => ⟨rfl, hS b hb hbs⟩) (fun row hr => by obtain ⟨n, _, rfl⟩ := List.mem_map.1 hr; rfl) (fun _ i j row av h4 h5 => ?_) (fun _ _ _ _ _ _ => rfl) (fun i j row av h4 h5 => ?_)
    · obtain ⟨hi, rfl, _⟩ := key i j row av h4 h5
      rw [Nat.mul_one, Nat.add_zero, hcell i hi, List.getD_eq_getElem?_getD, List.getElem?_eq_getElem hi]
      rfl
    · obtain ⟨hi, rfl, rfl⟩ := key i j row av h4 h5
      rw [List.getD_eq_getElem?_getD, List.getElem?_eq_getElem hi]
      exact .c _
  · have : l = [] := List.length_eq_zero_iff.1 (by omega)
    subst this
    exact .sl A 0 c 1 [] 0 0 (fun _ _ => undef) rfl h1 h2 (fun h => by omega) (by simp) (fun h => by omega) (by simp) (by simp)
theorem LI.of_rt {w : World} {S : Nat → Prop} {v : Value} {l : List Int} (h : RT w S v (sI l)) (hS : ∀ b, S b → b < w.heap.size) : LI w v l := by
  obtain ⟨A, cap, rfl, hc, hm, _, hA⟩ := h.sl_inv
  refine ⟨A, cap, by simp, by simpa using hc, fun h0 => ?_⟩
  obtain ⟨b, o, rfl, hb, U, hcell, hr, _⟩ := hA (by simpa using h0)
  refine ⟨b, o, rfl, hS b hb, fun i hi => ?_⟩
  have h1 : (l.map fun n => [eI n])[i]? = some [eI l[i]] := by simp [hi]
  have h2 := hcell i 0 _ _ h1 rfl
  have h3 := rtc (hr i 0 _ _ h1 rfl)
  rw [h3] at h2
  simpa using h2
theorem adet_of_sl {P : Program} {f : FuncId} {args : List AV} {sz : Nat} {rows : List (List AV)} (he : Enters P f)
    (h : ∀ (S : Nat → Prop) (w : World) (vs : Array Value), (∀ b, S b → b < w.heap.size) → vs.size = args.length → (∀ (j : Nat) (v : Value) (av : AV), vs[j]? = some v → args[j]? = some av → RT w S v av) →
      Calls P f vs w fun e w' => ∃ v, e = .returned v ∧ (∀ S', (∀ b, w.heap.size ≤ b → b < w'.heap.size → S' b) → RT w' S' v (.sl sz rows)) ∧ Below w.heap.size w w') : ADet P f args ⟨.sl sz rows, [], 0⟩ :=
  ⟨he, fun S w vs h1 h2 h3 => (h S w vs h1 h2 h3).mono fun e w' ⟨v, h4, h5, h6⟩ => ⟨v, fun _ => undef, ⟨.sl sz rows, [], 0⟩, rfl, ⟨fun id o h => (by cases h), by simp [AV.lt]⟩, h4, ⟨belowX h6, fun id o h => (by cases h), fun id id' o o' g h => (by cases h), fun b hb => hb.elim⟩, .tree (h5 _ fun b hb hb2 => ⟨hb2, ⟨.inr hb, fun hX => hX⟩, fun id o h => (by cases h)⟩)⟩⟩
end
section
def insS (x : Int) (st : List Int × Bool) (y : Int) : List Int × Bool :=
  ((st.1 ++ (if st.2 = false ∧ x ≤ y then [x] else [])) ++ (if y ≠ x then [y] else []), st.2 || decide (x ≤ y))
def insR (x : Int) (l : List Int) : List Int × Bool := l.foldl (insS x) ([], false)
def insP (x : Int) (out : List Int) : List Int := if (insR x out).2 then (insR x out).1 else (insR x out).1 ++ [x]
def sortR (l : List Int) : List Int := l.foldl (fun out x => insP x out) []

theorem insR_snoc (x : Int) (l : List Int) (y : Int) : insR x (l ++ [y]) = insS x (insR x l) y := by simp [insR]
theorem insR_take (x : Int) (l : List Int) (k : Nat) (h : k < l.length) : insR x (l.take (k + 1)) = insS x (insR x (l.take k)) l[k] := by
  rw [List.take_succ_eq_append_getElem h, insR_snoc]
theorem sortR_snoc (l : List Int) (x : Int) : sortR (l ++ [x]) = insP x (sortR l) := by simp [sortR]
theorem sortR_take (l : List Int) (k : Nat) (h : k < l.length) : sortR (l.take (k + 1)) = insP l[k] (sortR (l.take k)) := by
  rw [List.take_succ_eq_append_getElem h, sortR_snoc]
theorem snoc_ind {p : List Int → Prop} (h0 : p []) (h1 : ∀ l x, p l → p (l ++ [x])) (l : List Int) : p l := by
  rw [← List.reverse_reverse l]
  induction l.reverse with
  | nil => exact h0
  | cons x r ih => rw [List.reverse_cons]; exact h1 _ _ ih
theorem insR_len (x : Int) (l : List Int) : (insR x l).1.length ≤ l.length + (if (insR x l).2 then 1 else 0) := by
  induction l using snoc_ind with
  | h0 => simp [insR]
  | h1 l y ih =>
    rw [insR_snoc]
    generalize insR x l = st at *
    obtain ⟨n, b⟩ := st
    cases b <;> by_cases h1 : x ≤ y <;> by_cases h2 : y = x <;> simp [insS, h1, h2] at ih ⊢ <;> omega
theorem insP_len (x : Int) (l : List Int) : (insP x l).length ≤ l.length + 1 := by
  have := insR_len x l
  unfold insP
  split <;> rename_i h <;> simp [h] at this ⊢ <;> omega
theorem sortR_len (l : List Int) : (sortR l).length ≤ l.length := by
  induction l using snoc_ind with
  | h0 => simp [sortR]
  | h1 l y ih => rw [sortR_snoc]; have := insP_len y (sortR l); simp; omega

/-- strictly rising -/
def Up (l : List Int) : Prop := l.Pairwise (· < ·)
theorem insR_up (x : Int) (l : List Int) (h : Up l) :
    Up (insR x l).1 ∧ (∀ z, z ∈ (insR x l).1 ↔ z ∈ l ∨ ((insR x l).2 = true ∧ z = x)) ∧ ((insR x l).2 = true ↔ ∃ z ∈ l, x ≤ z) ∧ ((insR x l).2 = true → x ∈ (insR x l).1) := by
  induction l using snoc_ind with
  | h0 => simp [insR, Up]
  | h1 l y ih =>
    have hl : Up l := (List.pairwise_append.1 h).1
    have hy : ∀ z ∈ l, z < y := fun z hz => (List.pairwise_append.1 h).2.2 z hz y (by simp)
    obtain ⟨i1, i2, i3, i4⟩ := ih hl
    rw [insR_snoc]
    generalize insR x l = st at *
    obtain ⟨n, b⟩ := st
    simp only at i1 i2 i3 i4
    cases b with
    | true =>
      obtain ⟨z, hz, hxz⟩ := i3.1 rfl
      have hxy : x < y := by have := hy z hz; omega
      have hne : y ≠ x := by omega
      simp only [insS, Bool.true_or, Bool.true_eq_false, false_and, if_false, List.append_nil, if_pos hne]
      refine ⟨List.pairwise_append.2 ⟨i1, by simp, ?_⟩, ?_, ?_, ?_⟩
      · intro a ha c hc
        rw [List.mem_singleton] at hc; subst hc
        rcases (i2 a).1 ha with h | ⟨_, rfl⟩
        · exact hy a h
        · exact hxy
      · intro a; simp only [List.mem_append, List.mem_singleton, i2]; constructor
        · rintro ((h | h) | h)
          · exact .inl (.inl h)
          · exact .inr h
          · exact .inl (.inr h)
        · rintro ((h | h) | h)
          · exact .inl (.inl h)
          · exact .inr h
          · exact .inl (.inr h)
      · exact ⟨fun _ => ⟨z, by simp [hz], hxz⟩, fun _ => trivial⟩
      · intro _; simp [i4 rfl]
    | false =>
      have hlow : ∀ z ∈ l, z < x := fun z hz => by
        rcases Int.lt_or_le z x with h | h
        · exact h
        · exact absurd (i3.2 ⟨z, hz, h⟩) (by simp)
      have hn : ∀ z, z ∈ n ↔ z ∈ l := fun z => by rw [i2]; simp
      by_cases hxy : x ≤ y
      · by_cases hne : y = x
        · subst hne
          simp only [insS, Int.le_refl, and_self, if_true, ne_eq, not_true, if_false, List.append_nil, decide_true, Bool.or_true]
          refine ⟨List.pairwise_append.2 ⟨i1, by simp, ?_⟩, ?_, ?_, ?_⟩
          · intro a ha c hc
            rw [List.mem_singleton] at hc; subst hc
            exact hy a ((hn a).1 ha)
          · intro a; simp only [List.mem_append, List.mem_singleton, hn]; constructor
            · rintro (h | h)
              · exact .inl (.inl h)
              · exact .inl (.inr h)
            · rintro (h | ⟨_, h⟩)
              · exact h
              · exact .inr h
          · exact ⟨fun _ => ⟨y, by simp, Int.le_refl _⟩, fun _ => trivial⟩
          · intro _; simp
        · simp only [insS, hxy, and_self, if_true, ne_eq, hne, not_false_eq_true, decide_true, Bool.or_true]
          refine ⟨?_, ?_, ?_, ?_⟩
          · unfold Up
            rw [List.append_assoc]
            refine List.pairwise_append.2 ⟨i1, by simp; omega, ?_⟩
            intro a ha c hc
            have hal := (hn a).1 ha
            have h1 := hlow a hal
            have h2 := hy a hal
            simp at hc
            rcases hc with rfl | rfl
            · exact h1
            · exact h2
          · intro a; simp only [List.mem_append, List.mem_singleton, hn]; constructor
            · rintro ((h | h) | h)
              · exact .inl (.inl h)
              · exact .inr ⟨by simp, h⟩
              · exact .inl (.inr h)
            · rintro ((h | h) | ⟨_, h⟩)
              · exact .inl (.inl h)
              · exact .inr h
              · exact .inl (.inr h)
          · exact ⟨fun _ => ⟨y, by simp, hxy⟩, fun _ => trivial⟩
          · intro _; simp
      · have hne : y ≠ x := by omega
        have hd : decide (x ≤ y) = false := decide_eq_false hxy
        simp only [insS, hxy, and_false, if_false, List.append_nil, if_pos hne, hd, Bool.or_false]
        refine ⟨List.pairwise_append.2 ⟨i1, by simp, ?_⟩, ?_, ?_, ?_⟩
        · intro a ha c hc
          rw [List.mem_singleton] at hc; subst hc
          exact hy a ((hn a).1 ha)
        · intro a; simp only [List.mem_append, List.mem_singleton, hn]; simp
        · constructor
          · intro h; cases h
          · rintro ⟨z, hz, hxz⟩
            rcases List.mem_append.1 hz with h | h
            · have := hlow z h; omega
            · rw [List.mem_singleton] at h; subst h; exact absurd hxz hxy
        · intro h; cases h
theorem insP_up (x : Int) (l : List Int) (h : Up l) : Up (insP x l) ∧ ∀ z, z ∈ insP x l ↔ z ∈ l ∨ z = x := by
  obtain ⟨i1, i2, i3, i4⟩ := insR_up x l h
  unfold insP
  split
  · rename_i hb
    refine ⟨i1, fun z => ?_⟩
    rw [i2]; simp [hb]
  · rename_i hb
    have hlow : ∀ z ∈ l, z < x := fun z hz => by
      rcases Int.lt_or_le z x with h | h
      · exact h
      · exact absurd (i3.2 ⟨z, hz, h⟩) hb
    have hn : ∀ z, z ∈ (insR x l).1 ↔ z ∈ l := fun z => by rw [i2]; simp [hb]
    refine ⟨List.pairwise_append.2 ⟨i1, by simp, ?_⟩, fun z => ?_⟩
    · intro a ha c hc
      rw [List.mem_singleton] at hc; subst hc
      exact hlow a ((hn a).1 ha)
    · simp [hn]
theorem sortR_up (l : List Int) : Up (sortR l) ∧ ∀ z, z ∈ sortR l ↔ z ∈ l := by
  induction l using snoc_ind with
  | h0 => simp [sortR, Up]
  | h1 l x ih =>
    obtain ⟨h1, h2⟩ := insP_up x _ ih.1
    rw [sortR_snoc]
    exact ⟨h1, fun z => by rw [h2, ih.2]; simp⟩
theorem up_ext : ∀ (a b : List Int), Up a → Up b → (∀ z, z ∈ a ↔ z ∈ b) → a = b
  | [], [], _, _, _ => rfl
  | [], y :: b, _, _, h => by have := (h y).2 (by simp); simp at this
  | x :: a, [], _, _, h => by have := (h x).1 (by simp); simp at this
  | x :: a, y :: b, ha, hb, h => by
    have ha' := List.pairwise_cons.1 ha
    have hb' := List.pairwise_cons.1 hb
    have hxy : x = y := by
      rcases List.mem_cons.1 ((h x).1 (by simp)) with h1 | h1
      · exact h1
      · rcases List.mem_cons.1 ((h y).2 (by simp)) with h2 | h2
        · exact h2.symm
        · have := hb'.1 x h1; have := ha'.1 y h2; omega
    subst hxy
    rw [up_ext a b ha'.2 hb'.2 (fun z => ?_)]
    constructor
    · intro hz
      rcases List.mem_cons.1 ((h z).1 (by simp [hz])) with h1 | h1
      · subst h1; have := ha'.1 z hz; omega
      · exact h1
    · intro hz
      rcases List.mem_cons.1 ((h z).2 (by simp [hz])) with h1 | h1
      · subst h1; have := hb'.1 z hz; omega
      · exact h1

/-- the library's way -/
theorem compact_up (d : Array Int) (hs : ∀ i j, i < j → j < d.size → d[i]! ≤ d[j]!) (m : Nat) (hm : m ≤ d.size) :
    Up (Lib.compactUpTo d m) ∧ (∀ z, z ∈ Lib.compactUpTo d m ↔ ∃ i, i < m ∧ d[i]! = z) := by
  induction m with
  | zero => simp [Lib.compactUpTo, Up]
  | succ m ih =>
    obtain ⟨h1, h2⟩ := ih (by omega)
    rw [Lib.compactUpTo_succ]
    by_cases hk : Lib.keeps d m = true
    · rw [if_pos hk]
      refine ⟨List.pairwise_append.2 ⟨h1, by simp, ?_⟩, fun z => ?_⟩
      · intro a ha c hc
        rw [List.mem_singleton] at hc; subst hc
        obtain ⟨i, hi, rfl⟩ := (h2 a).1 ha
        simp only [Lib.keeps, decide_eq_true_eq] at hk
        have h3 := hs (m - 1) m (by omega) (by omega)
        have h4 : d[i]! ≤ d[m - 1]! := by
          rcases Nat.lt_or_ge i (m - 1) with h | h
          · exact hs i (m - 1) h (by omega)
          · rw [show i = m - 1 by omega]; exact Int.le_refl _
        rcases hk with h | h
        · omega
        · have : d[m]! ≠ d[m - 1]! := h
          omega
      · simp only [List.mem_append, List.mem_singleton, h2]
        constructor
        · rintro (⟨i, hi, rfl⟩ | rfl)
          · exact ⟨i, by omega, rfl⟩
          · exact ⟨m, by omega, rfl⟩
        · rintro ⟨i, hi, rfl⟩
          rcases Nat.lt_or_ge i m with h | h
          · exact .inl ⟨i, h, rfl⟩
          · exact .inr (by rw [show i = m by omega])
    · rw [if_neg hk, List.append_nil]
      refine ⟨h1, fun z => ?_⟩
      rw [h2]
      simp only [Lib.keeps, decide_eq_true_eq, not_or, ne_eq, Decidable.not_not] at hk
      constructor
      · rintro ⟨i, hi, rfl⟩; exact ⟨i, by omega, rfl⟩
      · rintro ⟨i, hi, rfl⟩
        rcases Nat.lt_or_ge i m with h | h
        · exact ⟨i, h, rfl⟩
        · exact ⟨m - 1, by omega, by rw [← hk.2, show i = m by omega]⟩
def sortL (l : List Int) : List Int := Lib.compact (l.mergeSort fun x y => decide (x ≤ y))
theorem sortL_eq (l : List Int) : sortL l = sortR l := by
  have hp : (l.mergeSort fun x y => decide (x ≤ y)).Pairwise (fun a b => decide (a ≤ b) = true) := List.pairwise_mergeSort (le := fun x y => decide (x ≤ y)) (fun a b c h1 h2 => by simp at *; omega) (fun a b => by simp; omega) l
  have hm : ∀ z, z ∈ (l.mergeSort fun x y => decide (x ≤ y)) ↔ z ∈ l := fun z => List.mem_mergeSort
  unfold sortL Lib.compact
  generalize (l.mergeSort fun x y => decide (x ≤ y)) = s at *
  have hs : ∀ i j, i < j → j < s.toArray.size → s.toArray[i]! ≤ s.toArray[j]! := by
    intro i j hij hj
    have hj' : j < s.length := by simpa using hj
    have h1 := List.pairwise_iff_getElem.1 hp i j (by omega) hj' hij
    rw [getElem!_pos _ i (by simp; omega), getElem!_pos _ j hj]
    simpa using h1
  obtain ⟨h1, h2⟩ := compact_up s.toArray hs s.length (by simp)
  refine up_ext _ _ h1 (sortR_up l).1 (fun z => ?_)
  rw [h2, (sortR_up l).2, ← hm]
  constructor
  · rintro ⟨i, hi, rfl⟩
    rw [getElem!_pos _ i (by simpa using hi)]
    simp
  · intro hz
    obtain ⟨i, hi, rfl⟩ := List.getElem_of_mem hz
    exact ⟨i, hi, by rw [getElem!_pos _ i (by simpa using hi)]; simp⟩

/-- where a search ends in a strictly rising list -/
theorem search_up (s : List Int) (n : Int) (h : Up s) (r : Nat) (hr : r ≤ s.length) (hlo : ∀ (h0 : 0 < r), s[r - 1]'(by omega) < n) (hhi : ∀ (h1 : r < s.length), n ≤ s[r]) :
    s.countP (fun x => decide (x < n)) = r ∧ (decide (r < s.length) && (s[r]? == some n)) = decide (n ∈ s) := by
  have hp := List.pairwise_iff_getElem.1 h
  have hlow : ∀ i (hi : i < r), s[i]'(by omega) < n := fun i hi => by
    have h1 := hlo (by omega)
    rcases Nat.lt_or_ge i (r - 1) with h2 | h2
    · have := hp i (r - 1) (by omega) (by omega) h2; omega
    · have e : i = r - 1 := by omega
      subst e; exact h1
  have hhigh : ∀ i (hi : r ≤ i) (hi2 : i < s.length), n ≤ s[i] := fun i hi hi2 => by
    have h1 := hhi (by omega)
    rcases Nat.lt_or_ge r i with h2 | h2
    · have := hp r i (by omega) hi2 h2; omega
    · have e : i = r := by omega
      subst e; exact h1
  constructor
  · rw [← List.take_append_drop r s, List.countP_append]
    have e1 : (s.take r).countP (fun x => decide (x < n)) = (s.take r).length := List.countP_eq_length.2 (fun a ha => by
      obtain ⟨i, hi, rfl⟩ := List.getElem_of_mem ha
      rw [List.length_take] at hi
      rw [List.getElem_take]
      exact decide_eq_true (hlow i (by omega)))
    have e2 : (s.drop r).countP (fun x => decide (x < n)) = 0 := List.countP_eq_zero.2 (fun a ha => by
      obtain ⟨i, hi, rfl⟩ := List.getElem_of_mem ha
      rw [List.length_drop] at hi
      rw [List.getElem_drop]
      have := hhigh (r + i) (by omega) (by omega)
      simp; omega)
    rw [e1, e2, List.length_take]; omega
  · by_cases hm : n ∈ s
    · obtain ⟨i, hi, he⟩ := List.getElem_of_mem hm
      have h1 : ¬ i < r := fun h => by have := hlow i h; omega
      have h2 := hhi (by omega)
      have h3 : i = r := by
        rcases Nat.lt_or_ge r i with h4 | h4
        · have := hp r i (by omega) hi h4; omega
        · omega
      subst h3
      simp [hm, hi, he]
    · have : ¬ (r < s.length ∧ s[r]? = some n) := fun ⟨h1, h2⟩ => hm (List.mem_of_getElem? h2)
      simp only [hm, decide_false]
      rw [Bool.eq_false_iff]
      intro hc
      simp only [Bool.and_eq_true, decide_eq_true_eq, beq_iff_eq] at hc
      exact this hc
end
section
open Go.RowKit

theorem i64InfoZ : (Tryz.prog.info? 2).map (fun i => (i.zero, i.size, i.bytes)) = some (some (.int .i64 0), 1, 8) := by kernel_rfl
theorem one_oneZ (n : Int) : ∀ u ∈ [Value.int .i64 n], u.oneCell' = true := by intro u hu; simp at hu; subst hu; rfl
theorem cells_at_newZ (w : World) (t : TypeId) (a : Value) : ∀ (j : Nat) (u : Value), [a][j]? = some u → (w.alloc (.cells #[a] t)).cell? ((⟨w.heap.size, 0, none⟩ : Addr).add j) = some u := fun j u h => cells_new w [a] t j u h
theorem insS_tf (x y : Int) (n : List Int) (h : y = x) : insS x (n, true) y = (n, true) := by simp [insS, h]
theorem insS_tn (x y : Int) (n : List Int) (h : y ≠ x) : insS x (n, true) y = (n ++ [y], true) := by simp [insS, h]
theorem insS_fy (x y : Int) (n : List Int) (h1 : x ≤ y) (h : y = x) : insS x (n, false) y = (n ++ [x], true) := by simp [insS, h]
theorem insS_fyn (x y : Int) (n : List Int) (h1 : x ≤ y) (h : y ≠ x) : insS x (n, false) y = ((n ++ [x]) ++ [y], true) := by simp [insS, h, h1]
theorem insS_fn (x y : Int) (n : List Int) (h1 : ¬ x ≤ y) : insS x (n, false) y = (n ++ [y], false) := by
  have : y ≠ x := by omega
  simp [insS, h1, this]

set_option maxRecDepth 100000 in
set_option maxHeartbeats 4000000 in
theorem refSorted_any (l : List Int) (v : Value) (w : World) (hl : l.length ≤ 1000) (h : LI w v l) :
    Calls Tryz.prog 40 #[v] w fun e w' => ∃ v', e = .returned v' ∧ LN w.heap.size w' v' (sortR l) ∧ Below w.heap.size w w' := by
  obtain ⟨i0, hi0, hz0, hz1, hz2⟩ := info_parts i64InfoZ
  have h0 := h
  obtain ⟨A, ca, rfl, hca, hr0⟩ := h0
  have H := hide h
  clear h hr0
  go_enter Tryz.func40, Tryz.ntmps40
  go_wp2_with fail
  go_loopw [3, 4] (fun ov iv wr => ∃ (k : Nat) (out : List Int), out = sortR (l.take k) ∧ k ≤ l.length ∧ iv = .int .i64 (k : Int) ∧ out.length ≤ k ∧ wr.ownsRow w.heap.size 2 1 ov out.length (out.map (Value.int .i64)) ∧ Below w.heap.size w wr)
    (fun ov iv wr => l.length - (intOf iv).toNat)
  case atStart => exact ⟨0, [], by simp [sortR], Nat.zero_le _, rfl, Nat.le_refl _, World.ownsRow_nil _ _ _ _, Below.refl _ _⟩
  case round =>
    obtain ⟨k, out, hout, hk, rfl, holen, hown, hbl⟩ := hrel
    obtain ⟨O, co, rfl, hco⟩ := own_form hown
    by_cases hlt : k < l.length
    · obtain ⟨b1, o1, rfl, _, hcell⟩ := (H.out.below hbl).at_ hlt
      have hlow : b1 < wr.heap.size := by
        obtain ⟨b2, o2, e, hb2, _⟩ := (H.out.below hbl).at_ hlt
        cases e; exact hb2
      have hi : (k : Int) < (l.length : Int) := by omega
      have hst := sortR_take l k hlt
      rw [← hout] at hst
      have Hst := hide hst
      have LO := hide (LI.of_own hown rfl)
      clear hst hout
      generalize l[k] = x at *
      have Hown := hide hown
      clear hown
      go_wp2_with fail
      have hBs : w.heap.size ≤ wr.heap.size := hbl.size
      have hlenX : Hid (∀ m, (insR x (out.take m)).1.length ≤ m + 1) := hide (fun m => by have := insR_len x (out.take m); have h2 := List.length_take_le m out; split at this <;> omega)
      obtain ⟨W1, hW1⟩ : ∃ W, W = wr := ⟨wr, rfl⟩
      subst hW1
      generalize hB : W1.heap.size = B at *
      go_loopw [5, 6, 7] (fun nv bv jv wr => ∃ (m : Nat) (nx : List Int) (fl : Bool), insR x (out.take m) = (nx, fl) ∧ m ≤ out.length ∧ jv = .int .i64 (m : Int) ∧ bv = .bool fl ∧ nx.length ≤ m + 1 ∧ wr.ownsRow B 2 1 nv nx.length (nx.map (Value.int .i64)) ∧ Below B W1 wr)
        (fun nv bv jv wr => out.length - (intOf jv).toNat)
      case atStart => exact ⟨0, [], false, rfl, Nat.zero_le _, rfl, rfl, Nat.zero_le _, World.ownsRow_nil _ _ _ _, by rw [← hB]; exact Below.refl _ _⟩
      case round =>
        obtain ⟨m, nx, fl, hir, hm, rfl, rfl, hnl, hownn, hbli⟩ := hrel
        have hsz0 : B ≤ wr.heap.size := by have := hbli.size; rw [hB] at this; exact this
        have hcx0 : wr.cell? ⟨b1, o1 + k, none⟩ = some (.int .i64 x) := (hbli.cell (by omega)).trans hcell
        have Hownn := hide hownn
        clear hownn
        by_cases hmlt : m < out.length
        · obtain ⟨b2, o2, rfl, hb2l, hcell2⟩ := LO.out.at_ hmlt
          rw [hB] at hb2l
          have hmi : (m : Int) < (out.length : Int) := by omega
          have ht := insR_take x out m hmlt
          rw [hir] at ht
          generalize out[m] = y at *
          have hcy0 : wr.cell? ⟨b2, o2 + m, none⟩ = some (.int .i64 y) := (hbli.cell (by omega)).trans hcell2
          have hlx := hlenX.out (m + 1)
          rw [ht] at hlx
          clear hir
          by_cases hyx : y = x
          · have h1 : (y != x) = false := by simp [hyx]
            cases fl with
            | true =>
              rw [insS_tf x y nx hyx] at ht hlx
              clear hyx
              have Ht := hide ht
              have hlx2 := hide hlx
              clear ht hlx
              go_wp2_with fail
              go_quiet (fail)
              have Hownq1 := hide (own_below' Hownn.out (below_drewN (Below.refl _ _) nq))
              have hblq1 := below_drewN hbli nq
              generalize wr.drewN nq = W2 at *
              have hsz1 : B ≤ W2.heap.size := by have := hblq1.size; rw [hB] at this; exact this
              have hcx1 : W2.cell? ⟨b1, o1 + k, none⟩ = some (.int .i64 x) := (hblq1.cell (by omega)).trans hcell
              have hcy1 : W2.cell? ⟨b2, o2 + m, none⟩ = some (.int .i64 y) := (hblq1.cell (by omega)).trans hcell2
              go_wp2_with fail
              go_quiet (fail)
              have Hownq2 := hide (own_below' Hownq1.out (below_drewN (Below.refl _ _) nq))
              have hblq2 := below_drewN hblq1 nq
              generalize W2.drewN nq = W3 at *
              have hsz2 : B ≤ W3.heap.size := by have := hblq2.size; rw [hB] at this; exact this
              have hcx2 : W3.cell? ⟨b1, o1 + k, none⟩ = some (.int .i64 x) := (hblq2.cell (by omega)).trans hcell
              have hcy2 : W3.cell? ⟨b2, o2 + m, none⟩ = some (.int .i64 y) := (hblq2.cell (by omega)).trans hcell2
              go_wp2_with fail
              go_roundw
              case rel => exact ⟨m + 1, _, _, Ht.out, by omega, by go_num, rfl, hlx2.out, Hownq2.out, hblq2⟩
              case measure => simp [intOf]; omega
            | false =>
              have h2 : decide (x ≤ y) = true := decide_eq_true (by omega)
              rw [insS_fy x y nx (by omega) hyx] at ht hlx
              clear hyx
              have Ht := hide ht
              have hlx2 := hide hlx
              clear ht hlx
              go_wp2_with fail
              go_quiet (fail)
              have Hownq1 := hide (own_below' Hownn.out (below_drewN (Below.refl _ _) nq))
              have hblq1 := below_drewN hbli nq
              generalize wr.drewN nq = W2 at *
              have hsz1 : B ≤ W2.heap.size := by have := hblq1.size; rw [hB] at this; exact this
              have hcx1 : W2.cell? ⟨b1, o1 + k, none⟩ = some (.int .i64 x) := (hblq1.cell (by omega)).trans hcell
              have hcy1 : W2.cell? ⟨b2, o2 + m, none⟩ = some (.int .i64 y) := (hblq1.cell (by omega)).trans hcell2
              go_wp2_with (at_builtin; refine wpList_append_own _ rfl _ _ 23 rfl B 2 i0 (.int .i64 0) 1 8 Tryz.underlying23 hi0 hz0 hz1 hz2 rfl (by decide) _ _ _ rfl (Hownq1.out.alloc _) ⟨W2.heap.size, 0, none⟩ 1 1 [.int .i64 x] rfl rfl (cells_at_newZ _ _ _) (one_oneZ _) (by unfold maxLen; first | omega | (simp; omega)) (by first | omega | (simp; omega)) (by simp; omega) ?_; intro v2 w2 hown2 hg2 _)
              have hbl2 : Below B W1 w2 := (hblq1.alloc hsz1 _).grown hg2 (by simp; omega) (fun j hj => (World.ownsRow.lt Hownq1.out j hj).1)
              have hcx2 : w2.cell? ⟨b1, o1 + k, none⟩ = some (.int .i64 x) := (hbl2.cell (by omega)).trans hcell
              have hcy2 : w2.cell? ⟨b2, o2 + m, none⟩ = some (.int .i64 y) := (hbl2.cell (by omega)).trans hcell2
              have hsz2 : B ≤ w2.heap.size := (by have := hbl2.size; rw [hB] at this; exact this)
              rw [show (nx).map (Value.int .i64) ++ [Value.int .i64 x] = (nx ++ [x]).map (Value.int .i64) by simp, show (nx).length + 1 = (nx ++ [x]).length by simp] at hown2
              have Hown2 := hide hown2
              clear hown2 hg2
              go_quiet (fail)
              have Hownq3 := hide (own_below' Hown2.out (below_drewN (Below.refl _ _) nq))
              have hblq3 := below_drewN hbl2 nq
              generalize w2.drewN nq = W4 at *
              have hsz3 : B ≤ W4.heap.size := by have := hblq3.size; rw [hB] at this; exact this
              have hcx3 : W4.cell? ⟨b1, o1 + k, none⟩ = some (.int .i64 x) := (hblq3.cell (by omega)).trans hcell
              have hcy3 : W4.cell? ⟨b2, o2 + m, none⟩ = some (.int .i64 y) := (hblq3.cell (by omega)).trans hcell2
              go_wp2_with fail
              go_roundw
              case rel => exact ⟨m + 1, _, _, Ht.out, by omega, by go_num, rfl, hlx2.out, Hownq3.out, hblq3⟩
              case measure => simp [intOf]; omega
          · have h1 : (y != x) = true := by simp [hyx]
            cases fl with
            | true =>
              rw [insS_tn x y nx hyx] at ht hlx
              clear hyx
              have Ht := hide ht
              have hlx2 := hide hlx
              clear ht hlx
              go_wp2_with fail
              go_quiet (fail)
              have Hownq1 := hide (own_below' Hownn.out (below_drewN (Below.refl _ _) nq))
              have hblq1 := below_drewN hbli nq
              generalize wr.drewN nq = W2 at *
              have hsz1 : B ≤ W2.heap.size := by have := hblq1.size; rw [hB] at this; exact this
              have hcx1 : W2.cell? ⟨b1, o1 + k, none⟩ = some (.int .i64 x) := (hblq1.cell (by omega)).trans hcell
              have hcy1 : W2.cell? ⟨b2, o2 + m, none⟩ = some (.int .i64 y) := (hblq1.cell (by omega)).trans hcell2
              go_wp2_with fail
              go_quiet (fail)
              have Hownq2 := hide (own_below' Hownq1.out (below_drewN (Below.refl _ _) nq))
              have hblq2 := below_drewN hblq1 nq
              generalize W2.drewN nq = W3 at *
              have hsz2 : B ≤ W3.heap.size := by have := hblq2.size; rw [hB] at this; exact this
              have hcx2 : W3.cell? ⟨b1, o1 + k, none⟩ = some (.int .i64 x) := (hblq2.cell (by omega)).trans hcell
              have hcy2 : W3.cell? ⟨b2, o2 + m, none⟩ = some (.int .i64 y) := (hblq2.cell (by omega)).trans hcell2
              go_wp2_with (at_builtin; refine wpList_append_own _ rfl _ _ 23 rfl B 2 i0 (.int .i64 0) 1 8 Tryz.underlying23 hi0 hz0 hz1 hz2 rfl (by decide) _ _ _ rfl (Hownq2.out.alloc _) ⟨W3.heap.size, 0, none⟩ 1 1 [.int .i64 y] rfl rfl (cells_at_newZ _ _ _) (one_oneZ _) (by unfold maxLen; first | omega | (simp; omega)) (by first | omega | (simp; omega)) (by simp; omega) ?_; intro v3 w3 hown3 hg3 _)
              have hbl3 : Below B W1 w3 := (hblq2.alloc hsz2 _).grown hg3 (by simp; omega) (fun j hj => (World.ownsRow.lt Hownq2.out j hj).1)
              have hcx3 : w3.cell? ⟨b1, o1 + k, none⟩ = some (.int .i64 x) := (hbl3.cell (by omega)).trans hcell
              have hcy3 : w3.cell? ⟨b2, o2 + m, none⟩ = some (.int .i64 y) := (hbl3.cell (by omega)).trans hcell2
              have hsz3 : B ≤ w3.heap.size := (by have := hbl3.size; rw [hB] at this; exact this)
              rw [show (nx).map (Value.int .i64) ++ [Value.int .i64 y] = (nx ++ [y]).map (Value.int .i64) by simp, show (nx).length + 1 = (nx ++ [y]).length by simp] at hown3
              have Hown3 := hide hown3
              clear hown3 hg3
              go_roundw
              case rel => exact ⟨m + 1, _, _, Ht.out, by omega, by go_num, rfl, hlx2.out, Hown3.out, hbl3⟩
              case measure => simp [intOf]; omega
            | false =>
              by_cases hxy : x ≤ y
              · have h2 : decide (x ≤ y) = true := decide_eq_true hxy
                rw [insS_fyn x y nx hxy hyx] at ht hlx
                clear hyx hxy
                have Ht := hide ht
                have hlx2 := hide hlx
                clear ht hlx
                go_wp2_with fail
                go_quiet (fail)
                have Hownq1 := hide (own_below' Hownn.out (below_drewN (Below.refl _ _) nq))
                have hblq1 := below_drewN hbli nq
                generalize wr.drewN nq = W2 at *
                have hsz1 : B ≤ W2.heap.size := by have := hblq1.size; rw [hB] at this; exact this
                have hcx1 : W2.cell? ⟨b1, o1 + k, none⟩ = some (.int .i64 x) := (hblq1.cell (by omega)).trans hcell
                have hcy1 : W2.cell? ⟨b2, o2 + m, none⟩ = some (.int .i64 y) := (hblq1.cell (by omega)).trans hcell2
                go_wp2_with (at_builtin; refine wpList_append_own _ rfl _ _ 23 rfl B 2 i0 (.int .i64 0) 1 8 Tryz.underlying23 hi0 hz0 hz1 hz2 rfl (by decide) _ _ _ rfl (Hownq1.out.alloc _) ⟨W2.heap.size, 0, none⟩ 1 1 [.int .i64 x] rfl rfl (cells_at_newZ _ _ _) (one_oneZ _) (by unfold maxLen; first | omega | (simp; omega)) (by first | omega | (simp; omega)) (by simp; omega) ?_; intro v2 w2 hown2 hg2 _)
                have hbl2 : Below B W1 w2 := (hblq1.alloc hsz1 _).grown hg2 (by simp; omega) (fun j hj => (World.ownsRow.lt Hownq1.out j hj).1)
                have hcx2 : w2.cell? ⟨b1, o1 + k, none⟩ = some (.int .i64 x) := (hbl2.cell (by omega)).trans hcell
                have hcy2 : w2.cell? ⟨b2, o2 + m, none⟩ = some (.int .i64 y) := (hbl2.cell (by omega)).trans hcell2
                have hsz2 : B ≤ w2.heap.size := (by have := hbl2.size; rw [hB] at this; exact this)
                rw [show (nx).map (Value.int .i64) ++ [Value.int .i64 x] = (nx ++ [x]).map (Value.int .i64) by simp, show (nx).length + 1 = (nx ++ [x]).length by simp] at hown2
                have Hown2 := hide hown2
                clear hown2 hg2
                go_quiet (fail)
                have Hownq3 := hide (own_below' Hown2.out (below_drewN (Below.refl _ _) nq))
                have hblq3 := below_drewN hbl2 nq
                generalize w2.drewN nq = W4 at *
                have hsz3 : B ≤ W4.heap.size := by have := hblq3.size; rw [hB] at this; exact this
                have hcx3 : W4.cell? ⟨b1, o1 + k, none⟩ = some (.int .i64 x) := (hblq3.cell (by omega)).trans hcell
                have hcy3 : W4.cell? ⟨b2, o2 + m, none⟩ = some (.int .i64 y) := (hblq3.cell (by omega)).trans hcell2
                go_wp2_with (at_builtin; refine wpList_append_own _ rfl _ _ 23 rfl B 2 i0 (.int .i64 0) 1 8 Tryz.underlying23 hi0 hz0 hz1 hz2 rfl (by decide) _ _ _ rfl (Hownq3.out.alloc _) ⟨W4.heap.size, 0, none⟩ 1 1 [.int .i64 y] rfl rfl (cells_at_newZ _ _ _) (one_oneZ _) (by unfold maxLen; first | omega | (simp; omega)) (by first | omega | (simp; omega)) (by simp; omega) ?_; intro v4 w4 hown4 hg4 _)
                have hbl4 : Below B W1 w4 := (hblq3.alloc hsz3 _).grown hg4 (by simp; omega) (fun j hj => (World.ownsRow.lt Hownq3.out j hj).1)
                have hcx4 : w4.cell? ⟨b1, o1 + k, none⟩ = some (.int .i64 x) := (hbl4.cell (by omega)).trans hcell
                have hcy4 : w4.cell? ⟨b2, o2 + m, none⟩ = some (.int .i64 y) := (hbl4.cell (by omega)).trans hcell2
                have hsz4 : B ≤ w4.heap.size := (by have := hbl4.size; rw [hB] at this; exact this)
                rw [show (nx ++ [x]).map (Value.int .i64) ++ [Value.int .i64 y] = (nx ++ [x] ++ [y]).map (Value.int .i64) by simp, show (nx ++ [x]).length + 1 = (nx ++ [x] ++ [y]).length by simp] at hown4
                have Hown4 := hide hown4
                clear hown4 hg4
                go_roundw
                case rel => exact ⟨m + 1, _, _, Ht.out, by omega, by go_num, rfl, hlx2.out, Hown4.out, hbl4⟩
                case measure => simp [intOf]; omega
              · have h2 : decide (x ≤ y) = false := decide_eq_false hxy
                rw [insS_fn x y nx hxy] at ht hlx
                clear hyx hxy
                have Ht := hide ht
                have hlx2 := hide hlx
                clear ht hlx
                go_wp2_with fail
                go_quiet (fail)
                have Hownq1 := hide (own_below' Hownn.out (below_drewN (Below.refl _ _) nq))
                have hblq1 := below_drewN hbli nq
                generalize wr.drewN nq = W2 at *
                have hsz1 : B ≤ W2.heap.size := by have := hblq1.size; rw [hB] at this; exact this
                have hcx1 : W2.cell? ⟨b1, o1 + k, none⟩ = some (.int .i64 x) := (hblq1.cell (by omega)).trans hcell
                have hcy1 : W2.cell? ⟨b2, o2 + m, none⟩ = some (.int .i64 y) := (hblq1.cell (by omega)).trans hcell2
                go_wp2_with fail
                go_quiet (fail)
                have Hownq2 := hide (own_below' Hownq1.out (below_drewN (Below.refl _ _) nq))
                have hblq2 := below_drewN hblq1 nq
                generalize W2.drewN nq = W3 at *
                have hsz2 : B ≤ W3.heap.size := by have := hblq2.size; rw [hB] at this; exact this
                have hcx2 : W3.cell? ⟨b1, o1 + k, none⟩ = some (.int .i64 x) := (hblq2.cell (by omega)).trans hcell
                have hcy2 : W3.cell? ⟨b2, o2 + m, none⟩ = some (.int .i64 y) := (hblq2.cell (by omega)).trans hcell2
                go_wp2_with (at_builtin; refine wpList_append_own _ rfl _ _ 23 rfl B 2 i0 (.int .i64 0) 1 8 Tryz.underlying23 hi0 hz0 hz1 hz2 rfl (by decide) _ _ _ rfl (Hownq2.out.alloc _) ⟨W3.heap.size, 0, none⟩ 1 1 [.int .i64 y] rfl rfl (cells_at_newZ _ _ _) (one_oneZ _) (by unfold maxLen; first | omega | (simp; omega)) (by first | omega | (simp; omega)) (by simp; omega) ?_; intro v3 w3 hown3 hg3 _)
                have hbl3 : Below B W1 w3 := (hblq2.alloc hsz2 _).grown hg3 (by simp; omega) (fun j hj => (World.ownsRow.lt Hownq2.out j hj).1)
                have hcx3 : w3.cell? ⟨b1, o1 + k, none⟩ = some (.int .i64 x) := (hbl3.cell (by omega)).trans hcell
                have hcy3 : w3.cell? ⟨b2, o2 + m, none⟩ = some (.int .i64 y) := (hbl3.cell (by omega)).trans hcell2
                have hsz3 : B ≤ w3.heap.size := (by have := hbl3.size; rw [hB] at this; exact this)
                rw [show (nx).map (Value.int .i64) ++ [Value.int .i64 y] = (nx ++ [y]).map (Value.int .i64) by simp, show (nx).length + 1 = (nx ++ [y]).length by simp] at hown3
                have Hown3 := hide hown3
                clear hown3 hg3
                go_roundw
                case rel => exact ⟨m + 1, _, _, Ht.out, by omega, by go_num, rfl, hlx2.out, Hown3.out, hbl3⟩
                case measure => simp [intOf]; omega
        · obtain rfl : m = out.length := by omega
          rw [List.take_length] at hir
          have hil := insP_len x out
          cases fl with
          | true =>
            have hP : insP x out = nx := by unfold insP; rw [hir]; rfl
            rw [hP] at Hst hil
            have hol2 := hide (show nx.length ≤ k + 1 by omega)
            clear hir hP hil
            go_wp2_with fail
            go_roundw
            case rel => exact ⟨k + 1, _, Hst.out.symm, by omega, by go_num, hol2.out, own_base Hownn.out hBs, (hbl.trans (hbli.mono hBs))⟩
            case measure => simp [intOf]; omega
          | false =>
            have hP : insP x out = nx ++ [x] := by unfold insP; rw [hir]; rfl
            rw [hP] at Hst hil
            have hol2 := hide (show (nx ++ [x]).length ≤ k + 1 by omega)
            clear hir hP hil
            go_wp2_with (at_builtin; refine wpList_append_own _ rfl _ _ 23 rfl B 2 i0 (.int .i64 0) 1 8 Tryz.underlying23 hi0 hz0 hz1 hz2 rfl (by decide) _ _ _ rfl (Hownn.out.alloc _) ⟨wr.heap.size, 0, none⟩ 1 1 [.int .i64 x] rfl rfl (cells_at_newZ _ _ _) (one_oneZ _) (by unfold maxLen; first | omega | (simp; omega)) (by first | omega | (simp; omega)) (by simp; omega) ?_; intro v1 w1 hown1 hg1 _)
            have hbl1 : Below B W1 w1 := (hbli.alloc hsz0 _).grown hg1 (by simp; omega) (fun j hj => (World.ownsRow.lt Hownn.out j hj).1)
            have hcx1 : w1.cell? ⟨b1, o1 + k, none⟩ = some (.int .i64 x) := (hbl1.cell (by omega)).trans hcell
            have hsz1 : B ≤ w1.heap.size := (by have := hbl1.size; rw [hB] at this; exact this)
            rw [show (nx).map (Value.int .i64) ++ [Value.int .i64 x] = (nx ++ [x]).map (Value.int .i64) by simp, show (nx).length + 1 = (nx ++ [x]).length by simp] at hown1
            have Hown1 := hide hown1
            clear hown1 hg1
            go_roundw
            case rel => exact ⟨k + 1, _, Hst.out.symm, by omega, by go_num, hol2.out, own_base Hown1.out hBs, (hbl.trans (hbl1.mono hBs))⟩
            case measure => simp [intOf]; omega
    · obtain rfl : k = l.length := by omega
      rw [List.take_length] at hout
      have Ho := hide hout
      have Hown := hide hown
      clear hown hout
      go_wp2_with fail
      go_ret
      rw [← Ho.out]
      exact ⟨_, rfl, LN.of_own Hown.out rfl, hbl⟩
end
section
open Go.RowKit Go.Sort

theorem i64Info : (Tryz.prog.info? 2).map (fun i => (i.zero, i.size, i.bytes)) = some (some (.int .i64 0), 1, 8) := by kernel_rfl

/-- the closure of Find: l and n in their boxes -/
theorem findC_any (ba bn b o c : Nat) (l : List Int) (n : Int) (i : Nat) (W : World) (hi : i < l.length)
    (ha : W.cell? ⟨ba, 0, none⟩ = some (.slice (some ⟨b, o, none⟩) l.length c)) (hn : W.cell? ⟨bn, 0, none⟩ = some (.int .i64 n)) (hc : W.cell? ⟨b, o + i, none⟩ = some (.int .i64 l[i])) :
    Calls Tryz.prog 88 (#[.int .i64 (i : Int)] ++ #[.pointer (some ⟨ba, 0, none⟩), .pointer (some ⟨bn, 0, none⟩)]) W fun e w' => e = .returned (.bool (decide (n ≤ l[i]))) ∧ ∃ q, w' = W.drewN q := by
  generalize l[i] = y at *
  have hiz : (i : Int) < (l.length : Int) := by omega
  go_enter Tryz.func88, Tryz.ntmps88
  go_wp2_with fail
  go_quiet (fail)
  go_wp2_with fail
  go_ret
  exact ⟨rfl, _, rfl⟩

/-- the library's Search with Find's closure -/
theorem search_any (g : FuncId) (cb : Array Value) (n : Nat) (p : Nat → Bool) (w : World) (eg : ∀ args w, (callFunc g args).run Tryz.prog w = .ok (.enter g args) w) (hsz : n < 4611686018427387904)
    (hf : ∀ (m : Nat) (i : Nat), i < n → Calls Tryz.prog g (#[.int .i64 i] ++ cb) (w.drewN m) fun e w' => e = .returned (.bool (p i)) ∧ ∃ q, w' = (w.drewN m).drewN q) :
    Calls Tryz.prog 87 #[.int .i64 n, .func (.func g) #[] cb] w fun e w' => ∃ r : Nat, e = .returned (.int .i64 (r : Int)) ∧ r ≤ n ∧ (0 < r → p (r - 1) = false) ∧ (r < n → p r = true) ∧ ∃ q, w' = w.drewN q := by
  have HF := hide hf
  clear hf
  go_enter Tryz.func87, Tryz.ntmps87
  go_wp2_with fail
  go_loopw [5, 6] (fun s5 s6 wr => ∃ (lo hi q : Nat), s5 = .int .i64 (lo : Int) ∧ s6 = .int .i64 (hi : Int) ∧ lo ≤ hi ∧ hi ≤ n ∧ Hid ((0 < lo → p (lo - 1) = false) ∧ (hi < n → p hi = true)) ∧ wr = w.drewN q) (fun s5 s6 wr => (intOf s6).toNat - (intOf s5).toNat)
  case atStart => exact ⟨0, n, 0, rfl, rfl, Nat.zero_le _, Nat.le_refl _, hide ⟨fun h => absurd h (Nat.lt_irrefl _), fun h => absurd h (Nat.lt_irrefl _)⟩, rfl⟩
  case round =>
    obtain ⟨lo, hi, q, rfl, rfl, hlh, hin, I, rfl⟩ := hrel
    by_cases hlt : lo < hi
    · have hc := HF.out q ((lo + hi) / 2) (by omega)
      rw [show (((lo + hi) / 2 : Nat) : Int) = ((lo : Int) + (hi : Int)) / 2 by omega] at hc
      cases hp : p ((lo + hi) / 2) <;> rw [hp] at hc
      · have HP := hide hp
        clear hp
        go_wp2_with (go_at_fn g; refine hc.mono ?_; rintro e w' ⟨rfl, nq, rfl⟩)
        go_roundw
        case rel => exact ⟨(lo + hi) / 2 + 1, hi, q + nq, by rw [show ((lo : Int) + (hi : Int)) / 2 + 1 = (((lo + hi) / 2 + 1 : Nat) : Int) by omega], rfl, by omega, hin, hide ⟨fun _ => by rw [Nat.add_sub_cancel]; exact HP.out, I.out.2⟩, rfl⟩
        case measure => simp [intOf]; omega
      · have HP := hide hp
        clear hp
        go_wp2_with (go_at_fn g; refine hc.mono ?_; rintro e w' ⟨rfl, nq, rfl⟩)
        go_roundw
        case rel => exact ⟨lo, (lo + hi) / 2, q + nq, rfl, by rw [show ((lo : Int) + (hi : Int)) / 2 = (((lo + hi) / 2 : Nat) : Int) by omega], by omega, by omega, hide ⟨I.out.1, fun _ => HP.out⟩, rfl⟩
        case measure => simp [intOf]; omega
    · obtain rfl : hi = lo := by omega
      go_wp2_with fail
      go_ret
      exact ⟨hi, rfl, hin, I.out.1, I.out.2, q, rfl⟩

/-- where Find ends -/
structure Fd (l : List Int) (n : Int) (r : Nat) : Prop where
  le : r ≤ l.length
  lo : ∀ (h0 : 0 < r) (h1 : r - 1 < l.length), l[r - 1] < n
  hi : ∀ (h1 : r < l.length), n ≤ l[r]
theorem cell_new' (W : World) (v : Value) (t : TypeId) : (W.alloc (.cells #[v] t)).cell? ⟨W.heap.size, 0, none⟩ = some v := by
  rw [World.cell?_alloc_at _ _ _ _ (by simp)]; rfl
set_option maxHeartbeats 2000000 in
theorem find_any (l : List Int) (n : Int) (v : Value) (w : World) (hl : l.length ≤ 1000000) (h : LI w v l) :
    Calls Tryz.prog 76 #[v, .int .i64 n] w fun e w' => (∃ r : Nat, e = .returned (.tuple #[.int .i64 (r : Int), .bool (decide (r < l.length) && (l[r]? == some n))]) ∧ Fd l n r) ∧ Below w.heap.size w w' := by
  have hcf : ∀ args w, (callFunc 88 args).run Tryz.prog w = .ok (.enter 88 args) w := by intro args w; simp [go_sem, Tryz.func88]
  have h0 := h
  obtain ⟨A, c, rfl, hc, hr⟩ := h0
  generalize hW : (w.alloc (.cells #[.slice A l.length c] 23)).alloc (.cells #[.int .i64 n] 2) = W
  have hWl : W.cell? ⟨w.heap.size, 0, none⟩ = some (.slice A l.length c) := by
    rw [← hW]
    exact (Below.cell ((Below.refl (w.heap.size + 1) (w.alloc (.cells #[.slice A l.length c] 23))).alloc (by simp) _) (by simp)).trans (cell_new' w _ _)
  have hWn : W.cell? ⟨w.heap.size + 1, 0, none⟩ = some (.int .i64 n) := by
    rw [← hW]
    have := cell_new' (w.alloc (.cells #[.slice A l.length c] 23)) (.int .i64 n) 2
    rwa [show (w.alloc (.cells #[.slice A l.length c] 23)).heap.size = w.heap.size + 1 by simp] at this
  have hbW : Below w.heap.size w W := by rw [← hW]; exact ((Below.refl _ _).alloc (Nat.le_refl _) _).alloc (by simp) _
  have hLW := LI.below h hbW
  have hse := search_any 88 #[.pointer (some ⟨w.heap.size, 0, none⟩), .pointer (some ⟨w.heap.size + 1, 0, none⟩)] l.length (fun i => decide (n ≤ l.getD i 0)) W hcf (by omega) (fun m i hi => by
    obtain ⟨b, o, rfl, hb, hcell⟩ := hLW.at_ hi
    have := findC_any w.heap.size (w.heap.size + 1) b o c l n i (W.drewN m) hi hWl hWn hcell
    rw [show l.getD i 0 = l[i] by simp [List.getD, hi]]
    exact this)
  have Hse := hide hse
  have HbW := hide hbW
  have HLW := hide hLW
  clear hse hbW hLW h hr
  go_enter Tryz.func76, Tryz.ntmps76
  go_wp2_with fail
  refine Hse.out.mono ?_
  rintro e w2 ⟨r, rfl, hrl, hlo, hhi, q, rfl⟩
  have hF : Fd l n r := ⟨hrl, fun h0 h1 => by
      have := hlo h0
      rw [show l.getD (r - 1) 0 = l[r - 1] by simp [List.getD, h1]] at this
      have := of_decide_eq_false this
      omega, fun h1 => by
      have := hhi h1
      rw [show l.getD r 0 = l[r] by simp [List.getD, h1]] at this
      exact of_decide_eq_true this⟩
  have HF := hide hF
  clear Hse hF hlo hhi hW
  have hb2 := hide (below_drewN' HbW.out q)
  by_cases hlt : r < l.length
  · obtain ⟨b, o, rfl, _, hcell⟩ := HLW.out.at_ hlt
    have hri : (r : Int) < (l.length : Int) := by omega
    have E := hide (show (decide (r < l.length) && (l[r]? == some n)) = (l[r] == n) by simp [hlt])
    generalize l[r] = y at *
    have hyn : ∃ B, B = (y == n) := ⟨_, rfl⟩
    obtain ⟨B, hB⟩ := hyn
    rw [← hB] at E
    have hB2 := hB.symm
    clear hB
    go_wp2_with fail
    go_quiet (fail)
    go_wp2_with fail
    go_ret2
    exact ⟨⟨r, by rw [E.out]; rfl, HF.out⟩, below_drewN' hb2.out _⟩
  · obtain rfl : r = l.length := by omega
    have E := hide (show (decide (l.length < l.length) && (l[l.length]? == some n)) = false by simp)
    go_wp2_with fail
    go_quiet (fail)
    go_wp2_with fail
    go_ret2
    exact ⟨⟨l.length, by rw [E.out]; rfl, HF.out⟩, below_drewN' hb2.out _⟩
end
section
open Go.RowKit Go.Sort

theorem compact_len (S : List Int) : (Lib.compact S).length ≤ S.length := by
  unfold Lib.compact Lib.compactUpTo
  rw [List.length_map]
  have := List.length_filter_le (Lib.keeps S.toArray) (List.range S.length)
  simpa using this

/-- the empty ways -/
theorem clone0_any (A : Option Addr) (c : Nat) (w : World) :
    Calls Tryz.prog 89 #[.slice A 0 c] w fun e w' => (∃ A' c', e = .returned (.slice A' 0 c') ∧ c' ≤ 9223372036854775807) ∧ Below w.heap.size w w' := by
  cases A with
  | none => exact (Tryz.slices_Clone_nil 0 c w).mono (by rintro e w' ⟨rfl, rfl⟩; exact ⟨⟨_, _, rfl, by decide⟩, Below.refl _ _⟩)
  | some a =>
    obtain ⟨i0, hi0, hz0, hz1, hz2⟩ := info_parts i64Info
    have q22 : ∀ (w : World) (a : Option Addr) (n c n' c' : Nat), (binOp .eql 23 (.slice a n c) (.slice none n' c')).run Tryz.prog w = .ok (.bool a.isNone) w := fun w a n c n' c' => Lib.run_eql_slice_nil w _ _ a n c n' c' Tryz.underlying23
    go_enter Tryz.func89, Tryz.ntmps89
    go_wp2_with fail
    go_ret
    exact ⟨⟨_, _, rfl, by decide⟩, (Below.refl _ _).alloc (Nat.le_refl _) _⟩
theorem ins0_any (A : Option Addr) (c : Nat) (w : World) :
    Calls Tryz.prog 96 #[.slice A 0 c, .int .i64 0, .int .i64 0] w fun e w' => e = .returned (.tuple #[]) ∧ Below w.heap.size w w' := by
  go_enter Tryz.func96, Tryz.ntmps96
  go_wp2_with fail
  go_loopw [6] (fun i wr => i = .int .i64 1 ∧ Below w.heap.size w wr) (fun i wr => 0)
  case atStart => exact ⟨rfl, Below.refl _ _⟩
  case round =>
    obtain ⟨rfl, hbl⟩ := hrel
    go_wp2_with fail
    go_end0
    exact ⟨rfl, hbl⟩
theorem pdq0_any (A : Option Addr) (c : Nat) (L : Int) (w : World) :
    Calls Tryz.prog 93 #[.slice A 0 c, .int .i64 0, .int .i64 0, .int .i64 L] w fun e w' => e = .returned (.tuple #[]) ∧ Below w.heap.size w w' := by
  go_enter Tryz.func93, Tryz.ntmps93
  go_wp2_with fail
  go_loopw [1, 2] (fun a b wr => a = .int .i64 0 ∧ b = .int .i64 0 ∧ Below w.heap.size w wr) (fun a b wr => 0)
  case atStart => exact ⟨rfl, rfl, Below.refl _ _⟩
  case round =>
    obtain ⟨rfl, rfl, hbl⟩ := hrel
    have h := ins0_any A c wr
    go_wp2_with fail
    refine h.mono ?_
    rintro e w2 ⟨rfl, hb2⟩
    go_wp2_with fail
    refine bodyPost_ret (results_none rfl _ _ _) rfl ?_
    exact ⟨rfl, hbl.trans (hb2.mono hbl.size)⟩
theorem sort0_any (A : Option Addr) (c : Nat) (w : World) :
    Calls Tryz.prog 90 #[.slice A 0 c] w fun e w' => e = .returned (.tuple #[]) ∧ Below w.heap.size w w' := by
  have h1 := Tryz.bits_Len 0 w (by decide) (by decide)
  generalize Lib.bitLen (0 : Int).toNat = L at *
  have h2 := pdq0_any A c L w
  go_enter Tryz.func90, Tryz.ntmps90
  go_wp2_with fail
  refine h1.mono ?_
  rintro e w2 ⟨rfl, rfl⟩
  go_wp2_with fail
  refine h2.mono ?_
  rintro e w3 ⟨rfl, hb⟩
  go_wp2_with fail
  go_end0
  exact ⟨rfl, hb⟩
theorem numSorted0_any (v : Value) (w : World) (h : LI w v []) :
    Calls Tryz.prog 77 #[v] w fun e w' => ∃ v', e = .returned v' ∧ LN w.heap.size w' v' (sortL []) ∧ Below w.heap.size w w' := by
  obtain ⟨A, c, rfl, hc, _⟩ := h
  have h1 := clone0_any A c w
  simp only [List.length_nil]
  go_enter Tryz.func77, Tryz.ntmps77
  go_wp2_with fail
  refine h1.mono ?_
  rintro e w2 ⟨⟨A', c', rfl, hc9⟩, hb2⟩
  have h2 := sort0_any A' c' w2
  go_wp2_with fail
  refine h2.mono ?_
  rintro e w3 ⟨rfl, hb3⟩
  have h3 := Tryz.slices_Compact_int_empty A' c' w3
  go_wp2_with fail
  refine h3.mono ?_
  rintro e w4 ⟨rfl, rfl⟩
  go_wp2_with fail
  go_ret
  rw [show sortL [] = [] by simp [sortL, Lib.compact, Lib.compactUpTo]]
  exact ⟨_, rfl, ⟨A', c', rfl, Nat.zero_le _, hc9, fun h => absurd h (by simp)⟩, hb2.trans (hb3.mono hb2.size)⟩
end
end Go.Proofs.YtfeclebkaambhaaGreat
