/-
  Parts of the proof: P2, P1, NumSpec, NumSortA, NumSortP, NumSortC, NestSpec, Law, Nest, CL, NestB, NestC, NestD, EvTree, EvTree2.
-/
import Derived.Test.YtmochnclbcbijaaGreatSpk5
import Derived.WalkKit
import Derived.WalkLawsBesides
import Derived.Test.YtmochnclbcbijaaGreatSortShelf
import Derived.Deep.LoopGhost
import Derived.Deep.Draws
import Derived.Deep.QuietTactic
import Derived.OpenShut
import Derived.ProofKit
import Derived.Lib.SlicesCompact
import Derived.Test.YtmochnclbcbijaaGreatRows
import Derived.SizedLaws
import Derived.WalkSpells
import Derived.ScopeJumps
import Derived.WalkMore
import Derived.Handy
import Derived.Deep.DeepCutAuto
import Derived.Deep.CutBlock
import Derived.BigQuiet
import Derived.Deep.AppendLies
import Derived.Deep.RegionLaw
import Derived.IntWalk
set_option linter.unusedVariables false
set_option linter.unusedSimpArgs false
namespace Go.Proofs.YtmochnclbcbijaaGreat
section
open Go.RowKit
abbrev eU (n : Int) : AV := .c (.int .u64 n)
def okU (n : Int) : Prop := 0 ≤ n ∧ n < 18446744073709551616
theorem wrap_u64 (n : Int) : IntKind.u64.wrap n = n % 18446744073709551616 := by simp [IntKind.wrap, IntKind.bits, IntKind.signed]
theorem wrap_uin {n : Int} (h : okU n) : IntKind.u64.wrap n = n := by
  unfold okU at h
  rw [wrap_u64]
  omega
theorem aLoop_zero {P : Program} {x : Code} {Q : Exit → ASt → Prop} {st : ASt} (h : aCode P x (aThen (aRound (fun s => s = st) (fun _ => 0) 0) Q) st) : aLoop P x Q st :=
  aLoop_of (fun s => s = st) (fun _ => 0) ⟨st, Weak.reflH st, rfl⟩ fun s e => by
    subst e
    exact h
def nextU (c : Int) : Int := IntKind.u64.wrap (IntKind.u64.wrap (c * 6364136223846793005) + 1442695040888963407)
theorem nextU_ok (c : Int) : okU (nextU c) := by
  unfold nextU okU
  rw [wrap_u64]
  omega
set_option maxRecDepth 100000 in
theorem next_A (c : Int) : ADet Tryz.prog 4 [eU c] (val (.int .u64 (nextU c))) := by
  refine adet_of_code mixedT Tryz.func4 rfl (by decide) Tryz.ntmps4 Tryz.results4 rfl (val_ok _) ?_
  (repeat' (first | simp (maxSteps := 5000000) (implicitDefEqProofs := false) only [ruA, ruB, aEv, aTake, aLoad, aField, aIndex, aLen, aBin, bin2, aUn, un1, aExtract, aConv, ASt.get, aget, ASt.put, aStore, aBox, aAppend, aBuildSlice, aMake, aBuild, aFill, oneParts, allC, aBinS, yv, aCells, oneC, oneCL, treeC, treeL, aLit, aDst, aSrc, appTab, Value.cells, Value.oneCell', envOf, aResL, aOne, ↓reduceIte, reduceCtorEq, forall_const, Nat.reduceLT, Nat.reduceEqDiff, Nat.reduceAdd, Nat.reduceMul, Nat.reduceSub, Nat.reduceLeDiff, Nat.reduceBEq, eq_self, implies_true, ne_eq, dref, dref1, dref2, aExecS, aStoreB, aTakes, aTakeE, aElder, aFrom, aFresh, isLoad, aBuildSlice1, frzs, frz1, ownIds, AV.frz, AV.frzL, frzEnv, AV.shift, AV.shiftL, aFieldV, aSliceW, aSliceO, aSlice, aSliceR, aSliceS, aBd, aMax, frzAVs, frzAV, frzTab, AObj.frz, aMM, aNilS, aMay, aNil, tyK_22] | (with_reducible refine aIf_split (fun _ => ?_) (fun _ => ?_)) | (with_reducible refine aSel_split (fun _ => ?_) (fun _ => ?_)) | (with_reducible refine aGd_split (fun _ => ?_) (fun _ => ?_)) | (with_reducible refine aDraw_quiet (by kernel_rfl) ?_)))
  all_goals rfl
/-- the next chance, by doubling and adding: behind so many rounds -/
theorem next_step (c by_ : Nat) (out ch : Nat) (k : Nat) (h : (out + ch * by_) % 18446744073709551616 = (1442695040888963407 + c * 6364136223846793005) % 18446744073709551616) :
    ((if by_ % 2 = 1 then (out + ch) % 18446744073709551616 else out) + ((ch + ch) % 18446744073709551616) * (by_ / 2)) % 18446744073709551616 = (1442695040888963407 + c * 6364136223846793005) % 18446744073709551616 := by
  rw [← h]
  have e : by_ = 2 * (by_ / 2) + by_ % 2 := (Nat.div_add_mod by_ 2).symm
  generalize hq : by_ / 2 = q at *
  rw [Nat.add_mod, Nat.mul_mod, Nat.mod_mod, ← Nat.mul_mod, ← Nat.add_mod]
  have e2 : ch * by_ = (ch + ch) * q + ch * (by_ % 2) := by
    conv => lhs; rw [e]
    rw [Nat.mul_add, ← Nat.mul_assoc, Nat.mul_two]
  rw [e2]
  rcases Nat.mod_two_eq_zero_or_one by_ with h2 | h2
  · rw [h2, if_neg (by omega), Nat.mul_zero, Nat.add_zero]
  · rw [h2, if_pos rfl, Nat.mul_one, Nat.add_mod, Nat.mod_mod, ← Nat.add_mod]
    congr 1
    omega
set_option maxRecDepth 100000 in
set_option maxHeartbeats 4000000 in
theorem refNext_A (c : Int) (hc : okU c) : ADet Tryz.prog 5 [eU c] (val (.int .u64 (nextU c))) := by
  refine adet_of_code mixedT Tryz.func5 rfl (by decide) Tryz.ntmps5 Tryz.results5 rfl (val_ok _) ?_
  unfold okU at hc
  obtain ⟨n, rfl⟩ : ∃ n : Nat, c = (n : Int) := ⟨c.toNat, by omega⟩
  have hres : nextU (n : Int) = (((1442695040888963407 + n * 6364136223846793005) % 18446744073709551616 : Nat) : Int) := by
    unfold nextU
    rw [wrap_u64, wrap_u64]
    omega
  rw [hres]
  (repeat' (first | simp (maxSteps := 5000000) (implicitDefEqProofs := false) only [ruA, ruB, aEv, aTake, aLoad, aField, aIndex, aLen, aBin, bin2, aUn, un1, aExtract, aConv, ASt.get, aget, ASt.put, aStore, aBox, aAppend, aBuildSlice, aMake, aBuild, aFill, oneParts, allC, aBinS, yv, aCells, oneC, oneCL, treeC, treeL, aLit, aDst, aSrc, appTab, Value.cells, Value.oneCell', envOf, aResL, aOne, ↓reduceIte, reduceCtorEq, forall_const, Nat.reduceLT, Nat.reduceEqDiff, Nat.reduceAdd, Nat.reduceMul, Nat.reduceSub, Nat.reduceLeDiff, Nat.reduceBEq, eq_self, implies_true, ne_eq, dref, dref1, dref2, aExecS, aStoreB, aTakes, aTakeE, aElder, aFrom, aFresh, isLoad, aBuildSlice1, frzs, frz1, ownIds, AV.frz, AV.frzL, frzEnv, AV.shift, AV.shiftL, aFieldV, aSliceW, aSliceO, aSlice, aSliceR, aSliceS, aBd, aMax, frzAVs, frzAV, frzTab, AObj.frz, aMM, aNilS, aMay, aNil, tyK_22] | (with_reducible refine aIf_split (fun _ => ?_) (fun _ => ?_)) | (with_reducible refine aSel_split (fun _ => ?_) (fun _ => ?_)) | (with_reducible refine aGd_split (fun _ => ?_) (fun _ => ?_))))
  refine aLoop_of (fun st => ∃ b o h : Nat, b ≤ 6364136223846793005 ∧ o < 18446744073709551616 ∧ h < 18446744073709551616 ∧ (o + h * b) % 18446744073709551616 = (1442695040888963407 + n * 6364136223846793005) % 18446744073709551616 ∧ st = ⟨19, [(0, eU (h : Int)), (3, eU (o : Int)), (4, eU (b : Int))], [], 0⟩) (fun st => slotN st 4) ⟨_, (weak_cut1 (by (first | ((simp only [envIn, tabIn, envLt, tabLt, AObj.lt, AV.lt, AV.ltL, ruW, ASt.get, aget, ASt.put, ↓reduceIte, reduceCtorEq, Nat.reduceLT, Nat.reduceEqDiff, Nat.reduceAdd, Nat.reduceLeDiff, eq_self, implies_true]) <;> (repeat' apply And.intro) <;> first | (rw [wrapK (by omega)]; done) | (simp; done) | omega) | fail))), 6364136223846793005, 1442695040888963407, n, by omega, by omega, by omega, rfl, rfl⟩ ?_
  rintro _ ⟨b, o, h, hb, ho, hh, hinv, rfl⟩
  have e2 : ((b : Nat) : Int).tmod 2 = ((b % 2 : Nat) : Int) := by rw [Int.tmod_eq_emod_of_nonneg (by omega)]; omega
  have e3 : IntKind.u64.wrap (((b : Nat) : Int).tdiv 2) = ((b / 2 : Nat) : Int) := by rw [wrap_u64, Int.tdiv_eq_ediv_of_nonneg (by omega)]; omega
  have e4 : IntKind.u64.wrap ((h : Int) + (h : Int)) = (((h + h) % 18446744073709551616 : Nat) : Int) := by rw [wrap_u64]; omega
  have e5 : IntKind.u64.wrap ((o : Int) + (h : Int)) = (((o + h) % 18446744073709551616 : Nat) : Int) := by rw [wrap_u64]; omega
  have q2 : ((2 : Int) = 0) = False := by simp
  by_cases g : 0 < b
  · have hst := next_step n b o h 0 hinv
    have d0 : decide (0 < (b : Int)) = true := by simp; omega
    have d0' : decide (0 < b) = true := by simp; omega
    by_cases g2 : b % 2 = 1
    · rw [if_pos g2] at hst
      have d1 : (((b % 2 : Nat) : Int) == 1) = true := by rw [g2]; rfl
      (repeat' (first | simp (maxSteps := 5000000) (implicitDefEqProofs := false) only [ruA, ruB, aEv, aTake, aLoad, aField, aIndex, aLen, aBin, bin2, aUn, un1, aExtract, aConv, ASt.get, aget, ASt.put, aStore, aBox, aAppend, aBuildSlice, aMake, aBuild, aFill, oneParts, allC, aBinS, yv, aCells, oneC, oneCL, treeC, treeL, aLit, aDst, aSrc, appTab, Value.cells, Value.oneCell', envOf, aResL, aOne, ↓reduceIte, reduceCtorEq, forall_const, Nat.reduceLT, Nat.reduceEqDiff, Nat.reduceAdd, Nat.reduceMul, Nat.reduceSub, Nat.reduceLeDiff, Nat.reduceBEq, eq_self, implies_true, ne_eq, dref, dref1, dref2, aExecS, aStoreB, aTakes, aTakeE, aElder, aFrom, aFresh, isLoad, aBuildSlice1, frzs, frz1, ownIds, AV.frz, AV.frzL, frzEnv, AV.shift, AV.shiftL, aFieldV, aSliceW, aSliceO, aSlice, aSliceR, aSliceS, aBd, aMax, frzAVs, frzAV, frzTab, AObj.frz, aMM, aNilS, aMay, aNil, tyK_22, d0, d0', q2, e2, e3, e4, e5, d1] | (with_reducible refine aIf_split (fun _ => ?_) (fun _ => ?_)) | (with_reducible refine aSel_split (fun _ => ?_) (fun _ => ?_)) | (with_reducible refine aGd_split (fun _ => ?_) (fun _ => ?_)) | (with_reducible refine aDraw_quiet (by kernel_rfl) ?_)))
      all_goals exact roundI (weak_cut1 (by (first | ((simp only [envIn, tabIn, envLt, tabLt, AObj.lt, AV.lt, AV.ltL, ruW, ASt.get, aget, ASt.put, ↓reduceIte, reduceCtorEq, Nat.reduceLT, Nat.reduceEqDiff, Nat.reduceAdd, Nat.reduceLeDiff, eq_self, implies_true, e3, e4, e5]) <;> (repeat' apply And.intro) <;> first | (rw [wrapK (by omega)]; done) | (simp; done) | omega) | fail))) ⟨b / 2, (o + h) % 18446744073709551616, (h + h) % 18446744073709551616, by omega, by omega, by omega, hst, rfl⟩ (by simp only [slotN, ruW, ASt.get, aget, ASt.put, ↓reduceIte, reduceCtorEq, Nat.reduceLT, Nat.reduceEqDiff, Nat.reduceAdd, Nat.reduceLeDiff, eq_self, implies_true]; omega)
    · rw [if_neg g2] at hst
      have d1 : (((b % 2 : Nat) : Int) == 1) = false := by simp; omega
      (repeat' (first | simp (maxSteps := 5000000) (implicitDefEqProofs := false) only [ruA, ruB, aEv, aTake, aLoad, aField, aIndex, aLen, aBin, bin2, aUn, un1, aExtract, aConv, ASt.get, aget, ASt.put, aStore, aBox, aAppend, aBuildSlice, aMake, aBuild, aFill, oneParts, allC, aBinS, yv, aCells, oneC, oneCL, treeC, treeL, aLit, aDst, aSrc, appTab, Value.cells, Value.oneCell', envOf, aResL, aOne, ↓reduceIte, reduceCtorEq, forall_const, Nat.reduceLT, Nat.reduceEqDiff, Nat.reduceAdd, Nat.reduceMul, Nat.reduceSub, Nat.reduceLeDiff, Nat.reduceBEq, eq_self, implies_true, ne_eq, dref, dref1, dref2, aExecS, aStoreB, aTakes, aTakeE, aElder, aFrom, aFresh, isLoad, aBuildSlice1, frzs, frz1, ownIds, AV.frz, AV.frzL, frzEnv, AV.shift, AV.shiftL, aFieldV, aSliceW, aSliceO, aSlice, aSliceR, aSliceS, aBd, aMax, frzAVs, frzAV, frzTab, AObj.frz, aMM, aNilS, aMay, aNil, tyK_22, d0, d0', q2, e2, e3, e4, e5, d1] | (with_reducible refine aIf_split (fun _ => ?_) (fun _ => ?_)) | (with_reducible refine aSel_split (fun _ => ?_) (fun _ => ?_)) | (with_reducible refine aGd_split (fun _ => ?_) (fun _ => ?_)) | (with_reducible refine aDraw_quiet (by kernel_rfl) ?_)))
      all_goals exact roundI (weak_cut1 (by (first | ((simp only [envIn, tabIn, envLt, tabLt, AObj.lt, AV.lt, AV.ltL, ruW, ASt.get, aget, ASt.put, ↓reduceIte, reduceCtorEq, Nat.reduceLT, Nat.reduceEqDiff, Nat.reduceAdd, Nat.reduceLeDiff, eq_self, implies_true, e3, e4, e5]) <;> (repeat' apply And.intro) <;> first | (rw [wrapK (by omega)]; done) | (simp; done) | omega) | fail))) ⟨b / 2, o, (h + h) % 18446744073709551616, by omega, by omega, by omega, hst, rfl⟩ (by simp only [slotN, ruW, ASt.get, aget, ASt.put, ↓reduceIte, reduceCtorEq, Nat.reduceLT, Nat.reduceEqDiff, Nat.reduceAdd, Nat.reduceLeDiff, eq_self, implies_true]; omega)
  · obtain rfl : b = 0 := by omega
    have d0 : decide (0 < ((0 : Nat) : Int)) = false := rfl
    (repeat' (first | simp (maxSteps := 5000000) (implicitDefEqProofs := false) only [ruA, ruB, aEv, aTake, aLoad, aField, aIndex, aLen, aBin, bin2, aUn, un1, aExtract, aConv, ASt.get, aget, ASt.put, aStore, aBox, aAppend, aBuildSlice, aMake, aBuild, aFill, oneParts, allC, aBinS, yv, aCells, oneC, oneCL, treeC, treeL, aLit, aDst, aSrc, appTab, Value.cells, Value.oneCell', envOf, aResL, aOne, ↓reduceIte, reduceCtorEq, forall_const, Nat.reduceLT, Nat.reduceEqDiff, Nat.reduceAdd, Nat.reduceMul, Nat.reduceSub, Nat.reduceLeDiff, Nat.reduceBEq, eq_self, implies_true, ne_eq, dref, dref1, dref2, aExecS, aStoreB, aTakes, aTakeE, aElder, aFrom, aFresh, isLoad, aBuildSlice1, frzs, frz1, ownIds, AV.frz, AV.frzL, frzEnv, AV.shift, AV.shiftL, aFieldV, aSliceW, aSliceO, aSlice, aSliceR, aSliceS, aBd, aMax, frzAVs, frzAV, frzTab, AObj.frz, aMM, aNilS, aMay, aNil, tyK_22, d0] | (with_reducible refine aIf_split (fun _ => ?_) (fun _ => ?_)) | (with_reducible refine aSel_split (fun _ => ?_) (fun _ => ?_)) | (with_reducible refine aGd_split (fun _ => ?_) (fun _ => ?_)) | (with_reducible refine aDraw_quiet (by kernel_rfl) ?_)))
    all_goals (rw [Nat.mul_zero, Nat.add_zero] at hinv; rw [← hinv, Nat.mod_eq_of_lt ho])
theorem q33 : ((33 : Int) < 0) = False := by simp
theorem qz : ((8589934592 : Int) = 0) = False := by simp
theorem shr33 {c : Int} (h : okU c) : c.fdiv (2 ^ min (Int.toNat 33) IntKind.u64.bits) = c / 8589934592 := by
  rw [Int.fdiv_eq_ediv_of_nonneg _ (by decide)]
  rfl
theorem quo33 {c : Int} (h : okU c) : IntKind.u64.wrap (c.tdiv 8589934592) = c / 8589934592 := by
  unfold okU at h
  rw [Int.tdiv_eq_ediv_of_nonneg h.1, wrap_u64]
  omega
set_option maxRecDepth 100000 in
theorem pick_A (c n : Int) (hc : okU c) (hn : ok64 n) : ADet Tryz.prog 6 [eU c, eI n] (val (.int .i64 (if n < 1 then 0 else c / 8589934592 % n))) := by
  refine adet_of_code mixedT Tryz.func6 rfl (by decide) Tryz.ntmps6 Tryz.results6 rfl (val_ok _) ?_
  by_cases g : n < 1
  · have d1 : decide (n < 1) = true := decide_eq_true g
    rw [if_pos g]
    (repeat' (first | simp (maxSteps := 5000000) (implicitDefEqProofs := false) only [ruA, ruB, aEv, aTake, aLoad, aField, aIndex, aLen, aBin, bin2, aUn, un1, aExtract, aConv, ASt.get, aget, ASt.put, aStore, aBox, aAppend, aBuildSlice, aMake, aBuild, aFill, oneParts, allC, aBinS, yv, aCells, oneC, oneCL, treeC, treeL, aLit, aDst, aSrc, appTab, Value.cells, Value.oneCell', envOf, aResL, aOne, ↓reduceIte, reduceCtorEq, forall_const, Nat.reduceLT, Nat.reduceEqDiff, Nat.reduceAdd, Nat.reduceMul, Nat.reduceSub, Nat.reduceLeDiff, Nat.reduceBEq, eq_self, implies_true, ne_eq, dref, dref1, dref2, aExecS, aStoreB, aTakes, aTakeE, aElder, aFrom, aFresh, isLoad, aBuildSlice1, frzs, frz1, ownIds, AV.frz, AV.frzL, frzEnv, AV.shift, AV.shiftL, aFieldV, aSliceW, aSliceO, aSlice, aSliceR, aSliceS, aBd, aMax, frzAVs, frzAV, frzTab, AObj.frz, aMM, aNilS, aMay, aNil, tyK_3, tyK_22, tyI_3, tyI_22, d1] | (with_reducible refine aIf_split (fun _ => ?_) (fun _ => ?_)) | (with_reducible refine aSel_split (fun _ => ?_) (fun _ => ?_)) | (with_reducible refine aGd_split (fun _ => ?_) (fun _ => ?_)) | (with_reducible refine aDraw_quiet (by kernel_rfl) ?_)))
  · have d1 : decide (n < 1) = false := decide_eq_false g
    rw [if_neg g]
    have f1 := shr33 hc
    unfold ok64 at hn
    unfold okU at hc
    have f2 : IntKind.u64.wrap n = n := wrap_uin ⟨by omega, by omega⟩
    have f3 : (n = 0) = False := by simp; omega
    have f4 : (c / 8589934592).tmod n = c / 8589934592 % n := Int.tmod_eq_emod_of_nonneg (by omega)
    have f5 : IntKind.i64.wrap (c / 8589934592 % n) = c / 8589934592 % n := by
      have h1 := Int.emod_nonneg (c / 8589934592) (show n ≠ 0 by omega)
      have h2 := Int.emod_lt_of_pos (c / 8589934592) (show 0 < n by omega)
      exact wrap_in (by omega) (by omega)
    (repeat' (first | simp (maxSteps := 5000000) (implicitDefEqProofs := false) only [ruA, ruB, aEv, aTake, aLoad, aField, aIndex, aLen, aBin, bin2, aUn, un1, aExtract, aConv, ASt.get, aget, ASt.put, aStore, aBox, aAppend, aBuildSlice, aMake, aBuild, aFill, oneParts, allC, aBinS, yv, aCells, oneC, oneCL, treeC, treeL, aLit, aDst, aSrc, appTab, Value.cells, Value.oneCell', envOf, aResL, aOne, ↓reduceIte, reduceCtorEq, forall_const, Nat.reduceLT, Nat.reduceEqDiff, Nat.reduceAdd, Nat.reduceMul, Nat.reduceSub, Nat.reduceLeDiff, Nat.reduceBEq, eq_self, implies_true, ne_eq, dref, dref1, dref2, aExecS, aStoreB, aTakes, aTakeE, aElder, aFrom, aFresh, isLoad, aBuildSlice1, frzs, frz1, ownIds, AV.frz, AV.frzL, frzEnv, AV.shift, AV.shiftL, aFieldV, aSliceW, aSliceO, aSlice, aSliceR, aSliceS, aBd, aMax, frzAVs, frzAV, frzTab, AObj.frz, aMM, aNilS, aMay, aNil, tyK_3, tyK_22, tyI_3, tyI_22, d1, q33, f1, f2, f3, f4, f5] | (with_reducible refine aIf_split (fun _ => ?_) (fun _ => ?_)) | (with_reducible refine aSel_split (fun _ => ?_) (fun _ => ?_)) | (with_reducible refine aGd_split (fun _ => ?_) (fun _ => ?_)) | (with_reducible refine aDraw_quiet (by kernel_rfl) ?_)))
set_option maxRecDepth 100000 in
theorem refPick_A (c n : Int) (hc : okU c) (hn : ok64 n) : ADet Tryz.prog 7 [eU c, eI n] (val (.int .i64 (if n < 1 then 0 else c / 8589934592 % n))) := by
  refine adet_of_code mixedT Tryz.func7 rfl (by decide) Tryz.ntmps7 Tryz.results7 rfl (val_ok _) ?_
  by_cases g : n < 1
  · have d1 : decide (n < 1) = true := decide_eq_true g
    rw [if_pos g]
    (repeat' (first | simp (maxSteps := 5000000) (implicitDefEqProofs := false) only [ruA, ruB, aEv, aTake, aLoad, aField, aIndex, aLen, aBin, bin2, aUn, un1, aExtract, aConv, ASt.get, aget, ASt.put, aStore, aBox, aAppend, aBuildSlice, aMake, aBuild, aFill, oneParts, allC, aBinS, yv, aCells, oneC, oneCL, treeC, treeL, aLit, aDst, aSrc, appTab, Value.cells, Value.oneCell', envOf, aResL, aOne, ↓reduceIte, reduceCtorEq, forall_const, Nat.reduceLT, Nat.reduceEqDiff, Nat.reduceAdd, Nat.reduceMul, Nat.reduceSub, Nat.reduceLeDiff, Nat.reduceBEq, eq_self, implies_true, ne_eq, dref, dref1, dref2, aExecS, aStoreB, aTakes, aTakeE, aElder, aFrom, aFresh, isLoad, aBuildSlice1, frzs, frz1, ownIds, AV.frz, AV.frzL, frzEnv, AV.shift, AV.shiftL, aFieldV, aSliceW, aSliceO, aSlice, aSliceR, aSliceS, aBd, aMax, frzAVs, frzAV, frzTab, AObj.frz, aMM, aNilS, aMay, aNil, tyK_3, tyK_22, tyI_3, tyI_22, d1] | (with_reducible refine aIf_split (fun _ => ?_) (fun _ => ?_)) | (with_reducible refine aSel_split (fun _ => ?_) (fun _ => ?_)) | (with_reducible refine aGd_split (fun _ => ?_) (fun _ => ?_)) | (with_reducible refine aDraw_quiet (by kernel_rfl) ?_)))
  · have d1 : decide (n < 1) = false := decide_eq_false g
    rw [if_neg g]
    have f1 := quo33 hc
    unfold ok64 at hn
    unfold okU at hc
    have f2 : IntKind.u64.wrap n = n := wrap_uin ⟨by omega, by omega⟩
    have f3 : (n = 0) = False := by simp; omega
    have f4 : (c / 8589934592).tmod n = c / 8589934592 % n := Int.tmod_eq_emod_of_nonneg (by omega)
    have f5 : IntKind.i64.wrap (c / 8589934592 % n) = c / 8589934592 % n := by
      have h1 := Int.emod_nonneg (c / 8589934592) (show n ≠ 0 by omega)
      have h2 := Int.emod_lt_of_pos (c / 8589934592) (show 0 < n by omega)
      exact wrap_in (by omega) (by omega)
    (repeat' (first | simp (maxSteps := 5000000) (implicitDefEqProofs := false) only [ruA, ruB, aEv, aTake, aLoad, aField, aIndex, aLen, aBin, bin2, aUn, un1, aExtract, aConv, ASt.get, aget, ASt.put, aStore, aBox, aAppend, aBuildSlice, aMake, aBuild, aFill, oneParts, allC, aBinS, yv, aCells, oneC, oneCL, treeC, treeL, aLit, aDst, aSrc, appTab, Value.cells, Value.oneCell', envOf, aResL, aOne, ↓reduceIte, reduceCtorEq, forall_const, Nat.reduceLT, Nat.reduceEqDiff, Nat.reduceAdd, Nat.reduceMul, Nat.reduceSub, Nat.reduceLeDiff, Nat.reduceBEq, eq_self, implies_true, ne_eq, dref, dref1, dref2, aExecS, aStoreB, aTakes, aTakeE, aElder, aFrom, aFresh, isLoad, aBuildSlice1, frzs, frz1, ownIds, AV.frz, AV.frzL, frzEnv, AV.shift, AV.shiftL, aFieldV, aSliceW, aSliceO, aSlice, aSliceR, aSliceS, aBd, aMax, frzAVs, frzAV, frzTab, AObj.frz, aMM, aNilS, aMay, aNil, tyK_3, tyK_22, tyI_3, tyI_22, d1, qz, f1, f2, f3, f4, f5] | (with_reducible refine aIf_split (fun _ => ?_) (fun _ => ?_)) | (with_reducible refine aSel_split (fun _ => ?_) (fun _ => ?_)) | (with_reducible refine aGd_split (fun _ => ?_) (fun _ => ?_)) | (with_reducible refine aDraw_quiet (by kernel_rfl) ?_)))
end
section
open Go.RowKit
def mod0 : Mod := ⟨[], [], [], [], [], [], [], [], [], []⟩
theorem i00 : decide (((0 : Nat) : Int) < ((0 : Nat) : Int)) = false := rfl
theorem i01 : decide ((0 : Int) < ((0 : Nat) : Int)) = false := rfl
theorem n00 : decide ((0 : Nat) < 0) = false := rfl
set_option maxRecDepth 100000 in
theorem few0_A : ADet Tryz.prog 17 [.agg (eMod mod0)] (val (.bool true)) := by
  refine adet_of_code mixedT Tryz.func17 rfl (by decide) Tryz.ntmps17 Tryz.results17 rfl (val_ok _) ?_
  have q5 : decide (((0 : Nat) : Int) ≤ 5) = true := rfl
  have q4 : decide (((0 : Nat) : Int) ≤ 4) = true := rfl
  have q8 : decide (((0 : Nat) : Int) ≤ 8) = true := rfl
  have q6 : decide (((0 : Nat) : Int) ≤ 6) = true := rfl
  have q12 : decide (((0 : Nat) : Int) ≤ 12) = true := rfl
  have q0 : (((0 : Nat) : Int) == ((0 : Nat) : Int)) = true := rfl
  (repeat' (first | simp (maxSteps := 5000000) (implicitDefEqProofs := false) only [ruA, ruB, aEv, aTake, aLoad, aField, aIndex, aLen, aBin, bin2, aUn, un1, aExtract, aConv, ASt.get, aget, ASt.put, aStore, aBox, aAppend, aBuildSlice, aMake, aBuild, aFill, oneParts, allC, aBinS, yv, aCells, oneC, oneCL, treeC, treeL, aLit, aDst, aSrc, appTab, Value.cells, Value.oneCell', envOf, aResL, aOne, ↓reduceIte, reduceCtorEq, forall_const, Nat.reduceLT, Nat.reduceEqDiff, Nat.reduceAdd, Nat.reduceMul, Nat.reduceSub, Nat.reduceLeDiff, Nat.reduceBEq, eq_self, implies_true, ne_eq, dref, dref1, dref2, aExecS, aStoreB, aTakes, aTakeE, aElder, aFrom, aFresh, isLoad, aBuildSlice1, frzs, frz1, ownIds, AV.frz, AV.frzL, frzEnv, AV.shift, AV.shiftL, aFieldV, aSliceW, aSliceO, aSlice, aSliceR, aSliceS, aBd, aMax, frzAVs, frzAV, frzTab, AObj.frz, aMM, aNilS, aMay, aNil, tyF_41_0, tyA_31, tyS_31, tyE_31, tyK_31, tyK_3, tyF_41_1, tyA_32, tyS_32, tyE_32, tyK_32, tyF_41_2, tyF_41_3, tyA_33, tyS_33, tyE_33, tyK_33, tyF_41_4, tyA_34, tyS_34, tyE_34, tyK_34, tyF_41_5, tyA_35, tyS_35, tyE_35, tyK_35, tyF_41_6, tyA_36, tyS_36, tyE_36, tyK_36, tyF_41_7, tyA_37, tyS_37, tyE_37, tyK_37, tyF_41_8, tyA_38, tyS_38, tyE_38, tyK_38, mod0, q4, q5, q6, q8, q12, q0, List.map_nil, List.length_nil] | (with_reducible refine aIf_split (fun _ => ?_) (fun _ => ?_)) | (with_reducible refine aSel_split (fun _ => ?_) (fun _ => ?_)) | (with_reducible refine aGd_split (fun _ => ?_) (fun _ => ?_)) | (with_reducible refine aDraw_quiet (by kernel_rfl) ?_)))
set_option maxRecDepth 100000 in
theorem bound0_A : ADet Tryz.prog 19 [.sl 5 []] (val (.bool true)) := by
  refine adet_of_code mixedT Tryz.func19 rfl (by decide) Tryz.ntmps19 Tryz.results19 rfl (val_ok _) ?_
  (repeat' (first | simp (maxSteps := 5000000) (implicitDefEqProofs := false) only [ruA, ruB, aEv, aTake, aLoad, aField, aIndex, aLen, aBin, bin2, aUn, un1, aExtract, aConv, ASt.get, aget, ASt.put, aStore, aBox, aAppend, aBuildSlice, aMake, aBuild, aFill, oneParts, allC, aBinS, yv, aCells, oneC, oneCL, treeC, treeL, aLit, aDst, aSrc, appTab, Value.cells, Value.oneCell', envOf, aResL, aOne, ↓reduceIte, reduceCtorEq, forall_const, Nat.reduceLT, Nat.reduceEqDiff, Nat.reduceAdd, Nat.reduceMul, Nat.reduceSub, Nat.reduceLeDiff, Nat.reduceBEq, eq_self, implies_true, ne_eq, dref, dref1, dref2, aExecS, aStoreB, aTakes, aTakeE, aElder, aFrom, aFresh, isLoad, aBuildSlice1, frzs, frz1, ownIds, AV.frz, AV.frzL, frzEnv, AV.shift, AV.shiftL, aFieldV, aSliceW, aSliceO, aSlice, aSliceR, aSliceS, aBd, aMax, frzAVs, frzAV, frzTab, AObj.frz, aMM, aNilS, aMay, aNil, tyE_35, tyK_35, tyK_3, tyA_71, tyS_71, tyZ_71, tyF_71_4, tyA_3, tyS_3, tyF_71_3, tyA_49, tyS_49, tyE_49, tyK_49, List.length_nil] | (with_reducible refine aIf_split (fun _ => ?_) (fun _ => ?_)) | (with_reducible refine aSel_split (fun _ => ?_) (fun _ => ?_)) | (with_reducible refine aGd_split (fun _ => ?_) (fun _ => ?_))))
  refine aLoop_zero ?_
  have q4 : decide ((0 : Int) ≤ 4) = true := rfl
  (repeat' (first | simp (maxSteps := 5000000) (implicitDefEqProofs := false) only [ruA, ruB, aEv, aTake, aLoad, aField, aIndex, aLen, aBin, bin2, aUn, un1, aExtract, aConv, ASt.get, aget, ASt.put, aStore, aBox, aAppend, aBuildSlice, aMake, aBuild, aFill, oneParts, allC, aBinS, yv, aCells, oneC, oneCL, treeC, treeL, aLit, aDst, aSrc, appTab, Value.cells, Value.oneCell', envOf, aResL, aOne, ↓reduceIte, reduceCtorEq, forall_const, Nat.reduceLT, Nat.reduceEqDiff, Nat.reduceAdd, Nat.reduceMul, Nat.reduceSub, Nat.reduceLeDiff, Nat.reduceBEq, eq_self, implies_true, ne_eq, dref, dref1, dref2, aExecS, aStoreB, aTakes, aTakeE, aElder, aFrom, aFresh, isLoad, aBuildSlice1, frzs, frz1, ownIds, AV.frz, AV.frzL, frzEnv, AV.shift, AV.shiftL, aFieldV, aSliceW, aSliceO, aSlice, aSliceR, aSliceS, aBd, aMax, frzAVs, frzAV, frzTab, AObj.frz, aMM, aNilS, aMay, aNil, tyE_35, tyK_35, tyK_3, tyA_71, tyS_71, tyZ_71, tyF_71_4, tyA_3, tyS_3, tyF_71_3, tyA_49, tyS_49, tyE_49, tyK_49, List.length_nil, i00, i01, n00, q4] | (with_reducible refine aIf_split (fun _ => ?_) (fun _ => ?_)) | (with_reducible refine aSel_split (fun _ => ?_) (fun _ => ?_)) | (with_reducible refine aGd_split (fun _ => ?_) (fun _ => ?_)) | (with_reducible refine aDraw_quiet (by kernel_rfl) ?_)))
set_option maxRecDepth 100000 in
theorem parents0_A : ADet Tryz.prog 21 [.agg (eMod mod0)] ⟨.c (.slice none 0 0), [], 0⟩ := by
  refine adet_of_code mixedT Tryz.func21 rfl (by decide) Tryz.ntmps21 Tryz.results21 rfl (val_ok _) ?_
  (repeat' (first | simp (maxSteps := 5000000) (implicitDefEqProofs := false) only [ruA, ruB, aEv, aTake, aLoad, aField, aIndex, aLen, aBin, bin2, aUn, un1, aExtract, aConv, ASt.get, aget, ASt.put, aStore, aBox, aAppend, aBuildSlice, aMake, aBuild, aFill, oneParts, allC, aBinS, yv, aCells, oneC, oneCL, treeC, treeL, aLit, aDst, aSrc, appTab, Value.cells, Value.oneCell', envOf, aResL, aOne, ↓reduceIte, reduceCtorEq, forall_const, Nat.reduceLT, Nat.reduceEqDiff, Nat.reduceAdd, Nat.reduceMul, Nat.reduceSub, Nat.reduceLeDiff, Nat.reduceBEq, eq_self, implies_true, ne_eq, dref, dref1, dref2, aExecS, aStoreB, aTakes, aTakeE, aElder, aFrom, aFresh, isLoad, aBuildSlice1, frzs, frz1, ownIds, AV.frz, AV.frzL, frzEnv, AV.shift, AV.shiftL, aFieldV, aSliceW, aSliceO, aSlice, aSliceR, aSliceS, aBd, aMax, frzAVs, frzAV, frzTab, AObj.frz, aMM, aNilS, aMay, aNil, tyF_41_4, tyA_34, tyS_34, tyE_34, tyK_34, tyK_3, tyA_83, tyS_83, tyZ_83, tyF_83_1, tyA_3, tyS_3, tyR_49, mod0, List.map_nil, List.length_nil] | (with_reducible refine aIf_split (fun _ => ?_) (fun _ => ?_)) | (with_reducible refine aSel_split (fun _ => ?_) (fun _ => ?_)) | (with_reducible refine aGd_split (fun _ => ?_) (fun _ => ?_))))
  refine aLoop_zero ?_
  (repeat' (first | simp (maxSteps := 5000000) (implicitDefEqProofs := false) only [ruA, ruB, aEv, aTake, aLoad, aField, aIndex, aLen, aBin, bin2, aUn, un1, aExtract, aConv, ASt.get, aget, ASt.put, aStore, aBox, aAppend, aBuildSlice, aMake, aBuild, aFill, oneParts, allC, aBinS, yv, aCells, oneC, oneCL, treeC, treeL, aLit, aDst, aSrc, appTab, Value.cells, Value.oneCell', envOf, aResL, aOne, ↓reduceIte, reduceCtorEq, forall_const, Nat.reduceLT, Nat.reduceEqDiff, Nat.reduceAdd, Nat.reduceMul, Nat.reduceSub, Nat.reduceLeDiff, Nat.reduceBEq, eq_self, implies_true, ne_eq, dref, dref1, dref2, aExecS, aStoreB, aTakes, aTakeE, aElder, aFrom, aFresh, isLoad, aBuildSlice1, frzs, frz1, ownIds, AV.frz, AV.frzL, frzEnv, AV.shift, AV.shiftL, aFieldV, aSliceW, aSliceO, aSlice, aSliceR, aSliceS, aBd, aMax, frzAVs, frzAV, frzTab, AObj.frz, aMM, aNilS, aMay, aNil, tyF_41_4, tyA_34, tyS_34, tyE_34, tyK_34, tyK_3, tyA_83, tyS_83, tyZ_83, tyF_83_1, tyA_3, tyS_3, tyR_49, mod0, List.map_nil, List.length_nil, i00, i01, n00] | (with_reducible refine aIf_split (fun _ => ?_) (fun _ => ?_)) | (with_reducible refine aSel_split (fun _ => ?_) (fun _ => ?_)) | (with_reducible refine aGd_split (fun _ => ?_) (fun _ => ?_)) | (with_reducible refine aDraw_quiet (by kernel_rfl) ?_)))
  all_goals exact gives_val rfl
set_option maxRecDepth 100000 in
theorem circle0_A : ADet Tryz.prog 20 [.c (.slice none 0 0)] (val (.int .i64 (-1))) := by
  refine adet_of_code mixedT Tryz.func20 rfl (by decide) Tryz.ntmps20 Tryz.results20 rfl (val_ok _) ?_
  (repeat' (first | simp (maxSteps := 5000000) (implicitDefEqProofs := false) only [ruA, ruB, aEv, aTake, aLoad, aField, aIndex, aLen, aBin, bin2, aUn, un1, aExtract, aConv, ASt.get, aget, ASt.put, aStore, aBox, aAppend, aBuildSlice, aMake, aBuild, aFill, oneParts, allC, aBinS, yv, aCells, oneC, oneCL, treeC, treeL, aLit, aDst, aSrc, appTab, Value.cells, Value.oneCell', envOf, aResL, aOne, ↓reduceIte, reduceCtorEq, forall_const, Nat.reduceLT, Nat.reduceEqDiff, Nat.reduceAdd, Nat.reduceMul, Nat.reduceSub, Nat.reduceLeDiff, Nat.reduceBEq, eq_self, implies_true, ne_eq, dref, dref1, dref2, aExecS, aStoreB, aTakes, aTakeE, aElder, aFrom, aFresh, isLoad, aBuildSlice1, frzs, frz1, ownIds, AV.frz, AV.frzL, frzEnv, AV.shift, AV.shiftL, aFieldV, aSliceW, aSliceO, aSlice, aSliceR, aSliceS, aBd, aMax, frzAVs, frzAV, frzTab, AObj.frz, aMM, aNilS, aMay, aNil, tyE_49, tyK_49, tyK_3, tyA_3, tyS_3, List.length_nil] | (with_reducible refine aIf_split (fun _ => ?_) (fun _ => ?_)) | (with_reducible refine aSel_split (fun _ => ?_) (fun _ => ?_)) | (with_reducible refine aGd_split (fun _ => ?_) (fun _ => ?_))))
  refine aLoop_zero ?_
  (repeat' (first | simp (maxSteps := 5000000) (implicitDefEqProofs := false) only [ruA, ruB, aEv, aTake, aLoad, aField, aIndex, aLen, aBin, bin2, aUn, un1, aExtract, aConv, ASt.get, aget, ASt.put, aStore, aBox, aAppend, aBuildSlice, aMake, aBuild, aFill, oneParts, allC, aBinS, yv, aCells, oneC, oneCL, treeC, treeL, aLit, aDst, aSrc, appTab, Value.cells, Value.oneCell', envOf, aResL, aOne, ↓reduceIte, reduceCtorEq, forall_const, Nat.reduceLT, Nat.reduceEqDiff, Nat.reduceAdd, Nat.reduceMul, Nat.reduceSub, Nat.reduceLeDiff, Nat.reduceBEq, eq_self, implies_true, ne_eq, dref, dref1, dref2, aExecS, aStoreB, aTakes, aTakeE, aElder, aFrom, aFresh, isLoad, aBuildSlice1, frzs, frz1, ownIds, AV.frz, AV.frzL, frzEnv, AV.shift, AV.shiftL, aFieldV, aSliceW, aSliceO, aSlice, aSliceR, aSliceS, aBd, aMax, frzAVs, frzAV, frzTab, AObj.frz, aMM, aNilS, aMay, aNil, tyE_49, tyK_49, tyK_3, tyA_3, tyS_3, List.length_nil, i00, i01, n00] | (with_reducible refine aIf_split (fun _ => ?_) (fun _ => ?_)) | (with_reducible refine aSel_split (fun _ => ?_) (fun _ => ?_)) | (with_reducible refine aGd_split (fun _ => ?_) (fun _ => ?_)) | (with_reducible refine aDraw_quiet (by kernel_rfl) ?_)))
set_option maxRecDepth 100000 in
theorem vals0_A : ADet Tryz.prog 61 [.c (.slice none 0 0)] ⟨.c (.slice none 0 0), [], 0⟩ := by
  refine adet_of_code mixedT Tryz.func61 rfl (by decide) Tryz.ntmps61 Tryz.results61 rfl (val_ok _) ?_
  (repeat' (first | simp (maxSteps := 5000000) (implicitDefEqProofs := false) only [ruA, ruB, aEv, aTake, aLoad, aField, aIndex, aLen, aBin, bin2, aUn, un1, aExtract, aConv, ASt.get, aget, ASt.put, aStore, aBox, aAppend, aBuildSlice, aMake, aBuild, aFill, oneParts, allC, aBinS, yv, aCells, oneC, oneCL, treeC, treeL, aLit, aDst, aSrc, appTab, Value.cells, Value.oneCell', envOf, aResL, aOne, ↓reduceIte, reduceCtorEq, forall_const, Nat.reduceLT, Nat.reduceEqDiff, Nat.reduceAdd, Nat.reduceMul, Nat.reduceSub, Nat.reduceLeDiff, Nat.reduceBEq, eq_self, implies_true, ne_eq, dref, dref1, dref2, aExecS, aStoreB, aTakes, aTakeE, aElder, aFrom, aFresh, isLoad, aBuildSlice1, frzs, frz1, ownIds, AV.frz, AV.frzL, frzEnv, AV.shift, AV.shiftL, aFieldV, aSliceW, aSliceO, aSlice, aSliceR, aSliceS, aBd, aMax, frzAVs, frzAV, frzTab, AObj.frz, aMM, aNilS, aMay, aNil, tyE_86, tyK_86, tyK_3, tyA_119, tyS_119, tyZ_119, tyF_119_0, tyA_3, tyS_3, tyF_119_1, tyA_115, tyS_115, tyF_119_2, tyR_112, List.length_nil] | (with_reducible refine aIf_split (fun _ => ?_) (fun _ => ?_)) | (with_reducible refine aSel_split (fun _ => ?_) (fun _ => ?_)) | (with_reducible refine aGd_split (fun _ => ?_) (fun _ => ?_))))
  refine aLoop_zero ?_
  (repeat' (first | simp (maxSteps := 5000000) (implicitDefEqProofs := false) only [ruA, ruB, aEv, aTake, aLoad, aField, aIndex, aLen, aBin, bin2, aUn, un1, aExtract, aConv, ASt.get, aget, ASt.put, aStore, aBox, aAppend, aBuildSlice, aMake, aBuild, aFill, oneParts, allC, aBinS, yv, aCells, oneC, oneCL, treeC, treeL, aLit, aDst, aSrc, appTab, Value.cells, Value.oneCell', envOf, aResL, aOne, ↓reduceIte, reduceCtorEq, forall_const, Nat.reduceLT, Nat.reduceEqDiff, Nat.reduceAdd, Nat.reduceMul, Nat.reduceSub, Nat.reduceLeDiff, Nat.reduceBEq, eq_self, implies_true, ne_eq, dref, dref1, dref2, aExecS, aStoreB, aTakes, aTakeE, aElder, aFrom, aFresh, isLoad, aBuildSlice1, frzs, frz1, ownIds, AV.frz, AV.frzL, frzEnv, AV.shift, AV.shiftL, aFieldV, aSliceW, aSliceO, aSlice, aSliceR, aSliceS, aBd, aMax, frzAVs, frzAV, frzTab, AObj.frz, aMM, aNilS, aMay, aNil, tyE_86, tyK_86, tyK_3, tyA_119, tyS_119, tyZ_119, tyF_119_0, tyA_3, tyS_3, tyF_119_1, tyA_115, tyS_115, tyF_119_2, tyR_112, List.length_nil, i00, i01, n00] | (with_reducible refine aIf_split (fun _ => ?_) (fun _ => ?_)) | (with_reducible refine aSel_split (fun _ => ?_) (fun _ => ?_)) | (with_reducible refine aGd_split (fun _ => ?_) (fun _ => ?_)) | (with_reducible refine aDraw_quiet (by kernel_rfl) ?_)))
  all_goals exact gives_val rfl
set_option maxRecDepth 100000 in
theorem all0_A : ADet Tryz.prog 41 [.agg (eMod mod0)] ⟨.c (.slice none 0 0), [], 0⟩ := by
  refine adet_of_code mixedT Tryz.func41 rfl (by decide) Tryz.ntmps41 Tryz.results41 rfl (val_ok _) ?_
  (repeat' (first | simp (maxSteps := 5000000) (implicitDefEqProofs := false) only [ruA, ruB, aEv, aTake, aLoad, aField, aIndex, aLen, aBin, bin2, aUn, un1, aExtract, aConv, ASt.get, aget, ASt.put, aStore, aBox, aAppend, aBuildSlice, aMake, aBuild, aFill, oneParts, allC, aBinS, yv, aCells, oneC, oneCL, treeC, treeL, aLit, aDst, aSrc, appTab, Value.cells, Value.oneCell', envOf, aResL, aOne, ↓reduceIte, reduceCtorEq, forall_const, Nat.reduceLT, Nat.reduceEqDiff, Nat.reduceAdd, Nat.reduceMul, Nat.reduceSub, Nat.reduceLeDiff, Nat.reduceBEq, eq_self, implies_true, ne_eq, dref, dref1, dref2, aExecS, aStoreB, aTakes, aTakeE, aElder, aFrom, aFresh, isLoad, aBuildSlice1, frzs, frz1, ownIds, AV.frz, AV.frzL, frzEnv, AV.shift, AV.shiftL, aFieldV, aSliceW, aSliceO, aSlice, aSliceR, aSliceS, aBd, aMax, frzAVs, frzAV, frzTab, AObj.frz, aMM, aNilS, aMay, aNil, tyF_41_6, tyA_36, tyS_36, tyE_36, tyK_36, tyK_3, tyB_67, tyR_39, tyF_41_7, tyA_37, tyS_37, tyE_37, tyK_37, mod0, List.map_nil, List.length_nil] | (with_reducible refine aIf_split (fun _ => ?_) (fun _ => ?_)) | (with_reducible refine aSel_split (fun _ => ?_) (fun _ => ?_)) | (with_reducible refine aGd_split (fun _ => ?_) (fun _ => ?_))))
  refine aLoop_zero ?_
  (repeat' (first | simp (maxSteps := 5000000) (implicitDefEqProofs := false) only [ruA, ruB, aEv, aTake, aLoad, aField, aIndex, aLen, aBin, bin2, aUn, un1, aExtract, aConv, ASt.get, aget, ASt.put, aStore, aBox, aAppend, aBuildSlice, aMake, aBuild, aFill, oneParts, allC, aBinS, yv, aCells, oneC, oneCL, treeC, treeL, aLit, aDst, aSrc, appTab, Value.cells, Value.oneCell', envOf, aResL, aOne, ↓reduceIte, reduceCtorEq, forall_const, Nat.reduceLT, Nat.reduceEqDiff, Nat.reduceAdd, Nat.reduceMul, Nat.reduceSub, Nat.reduceLeDiff, Nat.reduceBEq, eq_self, implies_true, ne_eq, dref, dref1, dref2, aExecS, aStoreB, aTakes, aTakeE, aElder, aFrom, aFresh, isLoad, aBuildSlice1, frzs, frz1, ownIds, AV.frz, AV.frzL, frzEnv, AV.shift, AV.shiftL, aFieldV, aSliceW, aSliceO, aSlice, aSliceR, aSliceS, aBd, aMax, frzAVs, frzAV, frzTab, AObj.frz, aMM, aNilS, aMay, aNil, tyF_41_6, tyA_36, tyS_36, tyE_36, tyK_36, tyK_3, tyB_67, tyR_39, tyF_41_7, tyA_37, tyS_37, tyE_37, tyK_37, mod0, List.map_nil, List.length_nil, i00, i01, n00] | (with_reducible refine aIf_split (fun _ => ?_) (fun _ => ?_)) | (with_reducible refine aSel_split (fun _ => ?_) (fun _ => ?_)) | (with_reducible refine aGd_split (fun _ => ?_) (fun _ => ?_))))
  refine aLoop_zero ?_
  (repeat' (first | simp (maxSteps := 5000000) (implicitDefEqProofs := false) only [ruA, ruB, aEv, aTake, aLoad, aField, aIndex, aLen, aBin, bin2, aUn, un1, aExtract, aConv, ASt.get, aget, ASt.put, aStore, aBox, aAppend, aBuildSlice, aMake, aBuild, aFill, oneParts, allC, aBinS, yv, aCells, oneC, oneCL, treeC, treeL, aLit, aDst, aSrc, appTab, Value.cells, Value.oneCell', envOf, aResL, aOne, ↓reduceIte, reduceCtorEq, forall_const, Nat.reduceLT, Nat.reduceEqDiff, Nat.reduceAdd, Nat.reduceMul, Nat.reduceSub, Nat.reduceLeDiff, Nat.reduceBEq, eq_self, implies_true, ne_eq, dref, dref1, dref2, aExecS, aStoreB, aTakes, aTakeE, aElder, aFrom, aFresh, isLoad, aBuildSlice1, frzs, frz1, ownIds, AV.frz, AV.frzL, frzEnv, AV.shift, AV.shiftL, aFieldV, aSliceW, aSliceO, aSlice, aSliceR, aSliceS, aBd, aMax, frzAVs, frzAV, frzTab, AObj.frz, aMM, aNilS, aMay, aNil, tyF_41_6, tyA_36, tyS_36, tyE_36, tyK_36, tyK_3, tyB_67, tyR_39, tyF_41_7, tyA_37, tyS_37, tyE_37, tyK_37, mod0, List.map_nil, List.length_nil, i00, i01, n00] | (with_reducible refine aIf_split (fun _ => ?_) (fun _ => ?_)) | (with_reducible refine aSel_split (fun _ => ?_) (fun _ => ?_)) | (with_reducible refine aGd_split (fun _ => ?_) (fun _ => ?_)) | (with_reducible refine aDraw_quiet (by kernel_rfl) ?_)))
  all_goals exact gives_val rfl
set_option maxRecDepth 100000 in
theorem parts0_A : ADet Tryz.prog 18 [.agg (eMod mod0)] (val (.bool true)) := by
  refine adet_of_code mixedT Tryz.func18 rfl (by decide) Tryz.ntmps18 Tryz.results18 rfl (val_ok _) ?_
  (repeat' (first | simp (maxSteps := 5000000) (implicitDefEqProofs := false) only [ruA, ruB, aEv, aTake, aLoad, aField, aIndex, aLen, aBin, bin2, aUn, un1, aExtract, aConv, ASt.get, aget, ASt.put, aStore, aBox, aAppend, aBuildSlice, aMake, aBuild, aFill, oneParts, allC, aBinS, yv, aCells, oneC, oneCL, treeC, treeL, aLit, aDst, aSrc, appTab, Value.cells, Value.oneCell', envOf, aResL, aOne, ↓reduceIte, reduceCtorEq, forall_const, Nat.reduceLT, Nat.reduceEqDiff, Nat.reduceAdd, Nat.reduceMul, Nat.reduceSub, Nat.reduceLeDiff, Nat.reduceBEq, eq_self, implies_true, ne_eq, dref, dref1, dref2, aExecS, aStoreB, aTakes, aTakeE, aElder, aFrom, aFresh, isLoad, aBuildSlice1, frzs, frz1, ownIds, AV.frz, AV.frzL, frzEnv, AV.shift, AV.shiftL, aFieldV, aSliceW, aSliceO, aSlice, aSliceR, aSliceS, aBd, aMax, frzAVs, frzAV, frzTab, AObj.frz, aMM, aNilS, aMay, aNil, tyF_41_3, tyA_33, tyS_33, tyE_33, tyK_33, tyK_3, tyA_81, tyS_81, tyZ_81, tyF_81_1, tyA_3, tyS_3, tyF_41_2, tyA_31, tyS_31, tyE_31, tyK_31, tyF_41_4, tyA_34, tyS_34, tyE_34, tyK_34, tyA_83, tyS_83, tyZ_83, tyF_83_1, tyF_41_5, tyA_35, tyS_35, tyE_35, tyK_35, tyA_71, tyS_71, tyZ_71, tyA_41, tyS_41, tyF_41_6, tyA_36, tyS_36, tyE_36, tyK_36, tyA_88, tyS_88, tyZ_88, tyF_88_0, tyF_88_1, tyF_88_2, tyA_86, tyS_86, tyF_41_7, tyA_37, tyS_37, tyE_37, tyK_37, tyA_91, tyS_91, tyZ_91, tyF_91_1, tyF_91_2, tyF_91_3, tyF_41_8, tyA_38, tyS_38, tyE_38, tyK_38, tyA_93, tyS_93, tyZ_93, tyF_93_0, tyF_93_1, mod0, List.map_nil, List.length_nil] | (with_reducible refine aIf_split (fun _ => ?_) (fun _ => ?_)) | (with_reducible refine aSel_split (fun _ => ?_) (fun _ => ?_)) | (with_reducible refine aGd_split (fun _ => ?_) (fun _ => ?_))))
  refine aLoop_zero ?_
  (repeat' (first | simp (maxSteps := 5000000) (implicitDefEqProofs := false) only [ruA, ruB, aEv, aTake, aLoad, aField, aIndex, aLen, aBin, bin2, aUn, un1, aExtract, aConv, ASt.get, aget, ASt.put, aStore, aBox, aAppend, aBuildSlice, aMake, aBuild, aFill, oneParts, allC, aBinS, yv, aCells, oneC, oneCL, treeC, treeL, aLit, aDst, aSrc, appTab, Value.cells, Value.oneCell', envOf, aResL, aOne, ↓reduceIte, reduceCtorEq, forall_const, Nat.reduceLT, Nat.reduceEqDiff, Nat.reduceAdd, Nat.reduceMul, Nat.reduceSub, Nat.reduceLeDiff, Nat.reduceBEq, eq_self, implies_true, ne_eq, dref, dref1, dref2, aExecS, aStoreB, aTakes, aTakeE, aElder, aFrom, aFresh, isLoad, aBuildSlice1, frzs, frz1, ownIds, AV.frz, AV.frzL, frzEnv, AV.shift, AV.shiftL, aFieldV, aSliceW, aSliceO, aSlice, aSliceR, aSliceS, aBd, aMax, frzAVs, frzAV, frzTab, AObj.frz, aMM, aNilS, aMay, aNil, tyF_41_3, tyA_33, tyS_33, tyE_33, tyK_33, tyK_3, tyA_81, tyS_81, tyZ_81, tyF_81_1, tyA_3, tyS_3, tyF_41_2, tyA_31, tyS_31, tyE_31, tyK_31, tyF_41_4, tyA_34, tyS_34, tyE_34, tyK_34, tyA_83, tyS_83, tyZ_83, tyF_83_1, tyF_41_5, tyA_35, tyS_35, tyE_35, tyK_35, tyA_71, tyS_71, tyZ_71, tyA_41, tyS_41, tyF_41_6, tyA_36, tyS_36, tyE_36, tyK_36, tyA_88, tyS_88, tyZ_88, tyF_88_0, tyF_88_1, tyF_88_2, tyA_86, tyS_86, tyF_41_7, tyA_37, tyS_37, tyE_37, tyK_37, tyA_91, tyS_91, tyZ_91, tyF_91_1, tyF_91_2, tyF_91_3, tyF_41_8, tyA_38, tyS_38, tyE_38, tyK_38, tyA_93, tyS_93, tyZ_93, tyF_93_0, tyF_93_1, mod0, List.map_nil, List.length_nil, i00, i01, n00] | (with_reducible refine aIf_split (fun _ => ?_) (fun _ => ?_)) | (with_reducible refine aSel_split (fun _ => ?_) (fun _ => ?_)) | (with_reducible refine aGd_split (fun _ => ?_) (fun _ => ?_))))
  refine aLoop_zero ?_
  (repeat' (first | simp (maxSteps := 5000000) (implicitDefEqProofs := false) only [ruA, ruB, aEv, aTake, aLoad, aField, aIndex, aLen, aBin, bin2, aUn, un1, aExtract, aConv, ASt.get, aget, ASt.put, aStore, aBox, aAppend, aBuildSlice, aMake, aBuild, aFill, oneParts, allC, aBinS, yv, aCells, oneC, oneCL, treeC, treeL, aLit, aDst, aSrc, appTab, Value.cells, Value.oneCell', envOf, aResL, aOne, ↓reduceIte, reduceCtorEq, forall_const, Nat.reduceLT, Nat.reduceEqDiff, Nat.reduceAdd, Nat.reduceMul, Nat.reduceSub, Nat.reduceLeDiff, Nat.reduceBEq, eq_self, implies_true, ne_eq, dref, dref1, dref2, aExecS, aStoreB, aTakes, aTakeE, aElder, aFrom, aFresh, isLoad, aBuildSlice1, frzs, frz1, ownIds, AV.frz, AV.frzL, frzEnv, AV.shift, AV.shiftL, aFieldV, aSliceW, aSliceO, aSlice, aSliceR, aSliceS, aBd, aMax, frzAVs, frzAV, frzTab, AObj.frz, aMM, aNilS, aMay, aNil, tyF_41_3, tyA_33, tyS_33, tyE_33, tyK_33, tyK_3, tyA_81, tyS_81, tyZ_81, tyF_81_1, tyA_3, tyS_3, tyF_41_2, tyA_31, tyS_31, tyE_31, tyK_31, tyF_41_4, tyA_34, tyS_34, tyE_34, tyK_34, tyA_83, tyS_83, tyZ_83, tyF_83_1, tyF_41_5, tyA_35, tyS_35, tyE_35, tyK_35, tyA_71, tyS_71, tyZ_71, tyA_41, tyS_41, tyF_41_6, tyA_36, tyS_36, tyE_36, tyK_36, tyA_88, tyS_88, tyZ_88, tyF_88_0, tyF_88_1, tyF_88_2, tyA_86, tyS_86, tyF_41_7, tyA_37, tyS_37, tyE_37, tyK_37, tyA_91, tyS_91, tyZ_91, tyF_91_1, tyF_91_2, tyF_91_3, tyF_41_8, tyA_38, tyS_38, tyE_38, tyK_38, tyA_93, tyS_93, tyZ_93, tyF_93_0, tyF_93_1, mod0, List.map_nil, List.length_nil, i00, i01, n00] | (with_reducible refine aIf_split (fun _ => ?_) (fun _ => ?_)) | (with_reducible refine aSel_split (fun _ => ?_) (fun _ => ?_)) | (with_reducible refine aGd_split (fun _ => ?_) (fun _ => ?_))))
  refine aLoop_zero ?_
  (repeat' (first | simp (maxSteps := 5000000) (implicitDefEqProofs := false) only [ruA, ruB, aEv, aTake, aLoad, aField, aIndex, aLen, aBin, bin2, aUn, un1, aExtract, aConv, ASt.get, aget, ASt.put, aStore, aBox, aAppend, aBuildSlice, aMake, aBuild, aFill, oneParts, allC, aBinS, yv, aCells, oneC, oneCL, treeC, treeL, aLit, aDst, aSrc, appTab, Value.cells, Value.oneCell', envOf, aResL, aOne, ↓reduceIte, reduceCtorEq, forall_const, Nat.reduceLT, Nat.reduceEqDiff, Nat.reduceAdd, Nat.reduceMul, Nat.reduceSub, Nat.reduceLeDiff, Nat.reduceBEq, eq_self, implies_true, ne_eq, dref, dref1, dref2, aExecS, aStoreB, aTakes, aTakeE, aElder, aFrom, aFresh, isLoad, aBuildSlice1, frzs, frz1, ownIds, AV.frz, AV.frzL, frzEnv, AV.shift, AV.shiftL, aFieldV, aSliceW, aSliceO, aSlice, aSliceR, aSliceS, aBd, aMax, frzAVs, frzAV, frzTab, AObj.frz, aMM, aNilS, aMay, aNil, tyF_41_3, tyA_33, tyS_33, tyE_33, tyK_33, tyK_3, tyA_81, tyS_81, tyZ_81, tyF_81_1, tyA_3, tyS_3, tyF_41_2, tyA_31, tyS_31, tyE_31, tyK_31, tyF_41_4, tyA_34, tyS_34, tyE_34, tyK_34, tyA_83, tyS_83, tyZ_83, tyF_83_1, tyF_41_5, tyA_35, tyS_35, tyE_35, tyK_35, tyA_71, tyS_71, tyZ_71, tyA_41, tyS_41, tyF_41_6, tyA_36, tyS_36, tyE_36, tyK_36, tyA_88, tyS_88, tyZ_88, tyF_88_0, tyF_88_1, tyF_88_2, tyA_86, tyS_86, tyF_41_7, tyA_37, tyS_37, tyE_37, tyK_37, tyA_91, tyS_91, tyZ_91, tyF_91_1, tyF_91_2, tyF_91_3, tyF_41_8, tyA_38, tyS_38, tyE_38, tyK_38, tyA_93, tyS_93, tyZ_93, tyF_93_0, tyF_93_1, mod0, List.map_nil, List.length_nil, i00, i01, n00] | (with_reducible refine aIf_split (fun _ => ?_) (fun _ => ?_)) | (with_reducible refine aSel_split (fun _ => ?_) (fun _ => ?_)) | (with_reducible refine aGd_split (fun _ => ?_) (fun _ => ?_))))
  refine aLoop_zero ?_
  (repeat' (first | simp (maxSteps := 5000000) (implicitDefEqProofs := false) only [ruA, ruB, aEv, aTake, aLoad, aField, aIndex, aLen, aBin, bin2, aUn, un1, aExtract, aConv, ASt.get, aget, ASt.put, aStore, aBox, aAppend, aBuildSlice, aMake, aBuild, aFill, oneParts, allC, aBinS, yv, aCells, oneC, oneCL, treeC, treeL, aLit, aDst, aSrc, appTab, Value.cells, Value.oneCell', envOf, aResL, aOne, ↓reduceIte, reduceCtorEq, forall_const, Nat.reduceLT, Nat.reduceEqDiff, Nat.reduceAdd, Nat.reduceMul, Nat.reduceSub, Nat.reduceLeDiff, Nat.reduceBEq, eq_self, implies_true, ne_eq, dref, dref1, dref2, aExecS, aStoreB, aTakes, aTakeE, aElder, aFrom, aFresh, isLoad, aBuildSlice1, frzs, frz1, ownIds, AV.frz, AV.frzL, frzEnv, AV.shift, AV.shiftL, aFieldV, aSliceW, aSliceO, aSlice, aSliceR, aSliceS, aBd, aMax, frzAVs, frzAV, frzTab, AObj.frz, aMM, aNilS, aMay, aNil, tyF_41_3, tyA_33, tyS_33, tyE_33, tyK_33, tyK_3, tyA_81, tyS_81, tyZ_81, tyF_81_1, tyA_3, tyS_3, tyF_41_2, tyA_31, tyS_31, tyE_31, tyK_31, tyF_41_4, tyA_34, tyS_34, tyE_34, tyK_34, tyA_83, tyS_83, tyZ_83, tyF_83_1, tyF_41_5, tyA_35, tyS_35, tyE_35, tyK_35, tyA_71, tyS_71, tyZ_71, tyA_41, tyS_41, tyF_41_6, tyA_36, tyS_36, tyE_36, tyK_36, tyA_88, tyS_88, tyZ_88, tyF_88_0, tyF_88_1, tyF_88_2, tyA_86, tyS_86, tyF_41_7, tyA_37, tyS_37, tyE_37, tyK_37, tyA_91, tyS_91, tyZ_91, tyF_91_1, tyF_91_2, tyF_91_3, tyF_41_8, tyA_38, tyS_38, tyE_38, tyK_38, tyA_93, tyS_93, tyZ_93, tyF_93_0, tyF_93_1, mod0, List.map_nil, List.length_nil, i00, i01, n00] | (with_reducible refine aIf_split (fun _ => ?_) (fun _ => ?_)) | (with_reducible refine aSel_split (fun _ => ?_) (fun _ => ?_)) | (with_reducible refine aGd_split (fun _ => ?_) (fun _ => ?_))))
  refine aLoop_zero ?_
  (repeat' (first | simp (maxSteps := 5000000) (implicitDefEqProofs := false) only [ruA, ruB, aEv, aTake, aLoad, aField, aIndex, aLen, aBin, bin2, aUn, un1, aExtract, aConv, ASt.get, aget, ASt.put, aStore, aBox, aAppend, aBuildSlice, aMake, aBuild, aFill, oneParts, allC, aBinS, yv, aCells, oneC, oneCL, treeC, treeL, aLit, aDst, aSrc, appTab, Value.cells, Value.oneCell', envOf, aResL, aOne, ↓reduceIte, reduceCtorEq, forall_const, Nat.reduceLT, Nat.reduceEqDiff, Nat.reduceAdd, Nat.reduceMul, Nat.reduceSub, Nat.reduceLeDiff, Nat.reduceBEq, eq_self, implies_true, ne_eq, dref, dref1, dref2, aExecS, aStoreB, aTakes, aTakeE, aElder, aFrom, aFresh, isLoad, aBuildSlice1, frzs, frz1, ownIds, AV.frz, AV.frzL, frzEnv, AV.shift, AV.shiftL, aFieldV, aSliceW, aSliceO, aSlice, aSliceR, aSliceS, aBd, aMax, frzAVs, frzAV, frzTab, AObj.frz, aMM, aNilS, aMay, aNil, tyF_41_3, tyA_33, tyS_33, tyE_33, tyK_33, tyK_3, tyA_81, tyS_81, tyZ_81, tyF_81_1, tyA_3, tyS_3, tyF_41_2, tyA_31, tyS_31, tyE_31, tyK_31, tyF_41_4, tyA_34, tyS_34, tyE_34, tyK_34, tyA_83, tyS_83, tyZ_83, tyF_83_1, tyF_41_5, tyA_35, tyS_35, tyE_35, tyK_35, tyA_71, tyS_71, tyZ_71, tyA_41, tyS_41, tyF_41_6, tyA_36, tyS_36, tyE_36, tyK_36, tyA_88, tyS_88, tyZ_88, tyF_88_0, tyF_88_1, tyF_88_2, tyA_86, tyS_86, tyF_41_7, tyA_37, tyS_37, tyE_37, tyK_37, tyA_91, tyS_91, tyZ_91, tyF_91_1, tyF_91_2, tyF_91_3, tyF_41_8, tyA_38, tyS_38, tyE_38, tyK_38, tyA_93, tyS_93, tyZ_93, tyF_93_0, tyF_93_1, mod0, List.map_nil, List.length_nil, i00, i01, n00] | (with_reducible refine aIf_split (fun _ => ?_) (fun _ => ?_)) | (with_reducible refine aSel_split (fun _ => ?_) (fun _ => ?_)) | (with_reducible refine aGd_split (fun _ => ?_) (fun _ => ?_))))
  refine aLoop_zero ?_
  (repeat' (first | simp (maxSteps := 5000000) (implicitDefEqProofs := false) only [ruA, ruB, aEv, aTake, aLoad, aField, aIndex, aLen, aBin, bin2, aUn, un1, aExtract, aConv, ASt.get, aget, ASt.put, aStore, aBox, aAppend, aBuildSlice, aMake, aBuild, aFill, oneParts, allC, aBinS, yv, aCells, oneC, oneCL, treeC, treeL, aLit, aDst, aSrc, appTab, Value.cells, Value.oneCell', envOf, aResL, aOne, ↓reduceIte, reduceCtorEq, forall_const, Nat.reduceLT, Nat.reduceEqDiff, Nat.reduceAdd, Nat.reduceMul, Nat.reduceSub, Nat.reduceLeDiff, Nat.reduceBEq, eq_self, implies_true, ne_eq, dref, dref1, dref2, aExecS, aStoreB, aTakes, aTakeE, aElder, aFrom, aFresh, isLoad, aBuildSlice1, frzs, frz1, ownIds, AV.frz, AV.frzL, frzEnv, AV.shift, AV.shiftL, aFieldV, aSliceW, aSliceO, aSlice, aSliceR, aSliceS, aBd, aMax, frzAVs, frzAV, frzTab, AObj.frz, aMM, aNilS, aMay, aNil, tyF_41_3, tyA_33, tyS_33, tyE_33, tyK_33, tyK_3, tyA_81, tyS_81, tyZ_81, tyF_81_1, tyA_3, tyS_3, tyF_41_2, tyA_31, tyS_31, tyE_31, tyK_31, tyF_41_4, tyA_34, tyS_34, tyE_34, tyK_34, tyA_83, tyS_83, tyZ_83, tyF_83_1, tyF_41_5, tyA_35, tyS_35, tyE_35, tyK_35, tyA_71, tyS_71, tyZ_71, tyA_41, tyS_41, tyF_41_6, tyA_36, tyS_36, tyE_36, tyK_36, tyA_88, tyS_88, tyZ_88, tyF_88_0, tyF_88_1, tyF_88_2, tyA_86, tyS_86, tyF_41_7, tyA_37, tyS_37, tyE_37, tyK_37, tyA_91, tyS_91, tyZ_91, tyF_91_1, tyF_91_2, tyF_91_3, tyF_41_8, tyA_38, tyS_38, tyE_38, tyK_38, tyA_93, tyS_93, tyZ_93, tyF_93_0, tyF_93_1, mod0, List.map_nil, List.length_nil, i00, i01, n00] | (with_reducible refine aIf_split (fun _ => ?_) (fun _ => ?_)) | (with_reducible refine aSel_split (fun _ => ?_) (fun _ => ?_)) | (with_reducible refine aGd_split (fun _ => ?_) (fun _ => ?_)) | (with_reducible refine aDraw_quiet (by kernel_rfl) ?_)))
end
section
def isD (b : Nat) : Bool := decide (48 ≤ b) && decide (b ≤ 57)
def valL (l : List Nat) : Nat := l.foldl (fun n b => n * 10 + (b - 48)) 0
def formedL (l : List Nat) : Bool := !l.isEmpty && l.all isD
/-- the number, and the error's number -/
def signed (neg : Bool) (l : List Nat) : Int × Int :=
  if formedL l = false then (0, 17) else if (if neg = true then 9223372036854775808 else 9223372036854775807) < valL l then (0, 2) else (if neg = true then -(valL l : Int) else (valL l : Int), 0)
end
section
open Go.RowKit

/-- v holds the numbers l -/
def LI (w : World) (v : Value) (l : List Int) : Prop :=
  ∃ A c, v = .slice A l.length c ∧ l.length ≤ c ∧ (0 < l.length → ∃ b o, A = some ⟨b, o, none⟩ ∧ b < w.heap.size ∧ ∀ i (h : i < l.length), w.cell? ⟨b, o + i, none⟩ = some (.int .i64 l[i]))
theorem LI.below {w w' : World} {v : Value} {l : List Int} (h : LI w v l) (hb : Below w.heap.size w w') : LI w' v l := by
  obtain ⟨A, c, rfl, hc, hr⟩ := h
  refine ⟨A, c, rfl, hc, fun hp => ?_⟩
  obtain ⟨b, o, hA, hb1, hcell⟩ := hr hp
  exact ⟨b, o, hA, Nat.lt_of_lt_of_le hb1 hb.size, fun i hi => (hb.cell hb1).trans (hcell i hi)⟩
theorem LI.some_ {w : World} {v : Value} {l : List Int} (h : LI w v l) (hp : 0 < l.length) : ∃ b o c, v = .slice (some ⟨b, o, none⟩) l.length c ∧ l.length ≤ c ∧ b < w.heap.size ∧ ∀ i (h : i < l.length), w.cell? ⟨b, o + i, none⟩ = some (.int .i64 l[i]) := by
  obtain ⟨A, c, rfl, hc, hr⟩ := h
  obtain ⟨b, o, rfl, hb, hcell⟩ := hr hp
  exact ⟨b, o, c, rfl, hc, hb, hcell⟩
theorem LI.at_ {w : World} {A : Option Addr} {c : Nat} {l : List Int} (h : LI w (.slice A l.length c) l) {i : Nat} (hi : i < l.length) : ∃ b o, A = some ⟨b, o, none⟩ ∧ b < w.heap.size ∧ w.cell? ⟨b, o + i, none⟩ = some (.int .i64 l[i]) := by
  obtain ⟨A', c', e, hc, hr⟩ := h
  obtain ⟨rfl, _, rfl⟩ : A = A' ∧ l.length = l.length ∧ c = c' := by simpa using e
  obtain ⟨b, o, rfl, hb, hcell⟩ := hr (by omega)
  exact ⟨b, o, rfl, hb, hcell i hi⟩
end
section
def insS (x : Int) (st : List Int × Bool) (y : Int) : List Int × Bool :=
  ((st.1 ++ (if st.2 = false ∧ x ≤ y then [x] else [])) ++ (if y ≠ x then [y] else []), st.2 || decide (x ≤ y))
def insR (x : Int) (l : List Int) : List Int × Bool := l.foldl (insS x) ([], false)
def insP (x : Int) (out : List Int) : List Int := if (insR x out).2 then (insR x out).1 else (insR x out).1 ++ [x]
def sortR (l : List Int) : List Int := l.foldl (fun out x => insP x out) []

theorem insR_snoc (x : Int) (l : List Int) (y : Int) : insR x (l ++ [y]) = insS x (insR x l) y := by simp [insR]
theorem sortR_snoc (l : List Int) (x : Int) : sortR (l ++ [x]) = insP x (sortR l) := by simp [sortR]
theorem snoc_ind {p : List Int → Prop} (h0 : p []) (h1 : ∀ l x, p l → p (l ++ [x])) (l : List Int) : p l := by
  rw [← List.reverse_reverse l]
  induction l.reverse with
  | nil => exact h0
  | cons x r ih => rw [List.reverse_cons]; exact h1 _ _ ih
/-- strictly rising -/
def Up (l : List Int) : Prop := l.Pairwise (· < ·)
theorem insR_up (x : Int) (l : List Int) (h : Up l) :
    Up (insR x l).1 ∧ (∀ z, z ∈ (insR x l).1 ↔ z ∈ l ∨ ((insR x l).2 = true ∧ z = x)) ∧ ((insR x l).2 = true ↔ ∃ z ∈ l, x ≤ z) ∧ ((insR x l).2 = true → x ∈ (insR x l).1) := by
  induction l using snoc_ind with
  | h0 => simp [insR, Up]
  | h1 l y ih =>
    have hl : Up l := (List.pairwise_append.1 h).1
    have hy : ∀ z ∈ l, z < y := fun z hz => (List.pairwise_append.1 h).2.2 z hz y (by simp)
    obtain ⟨i1, i2, i3, i4⟩ := ih hl
    rw [insR_snoc]
    generalize insR x l = st at *
    obtain ⟨n, b⟩ := st
    simp only at i1 i2 i3 i4
    cases b with
    | true =>
      obtain ⟨z, hz, hxz⟩ := i3.1 rfl
      have hxy : x < y := by have := hy z hz; omega
      have hne : y ≠ x := by omega
      simp only [insS, Bool.true_or, Bool.true_eq_false, false_and, if_false, List.append_nil, if_pos hne]
      refine ⟨List.pairwise_append.2 ⟨i1, by simp, ?_⟩, ?_, ?_, ?_⟩
      · intro a ha c hc
        rw [List.mem_singleton] at hc; subst hc
        rcases (i2 a).1 ha with h | ⟨_, rfl⟩
        · exact hy a h
        · exact hxy
      · intro a; simp only [List.mem_append, List.mem_singleton, i2]; constructor
        · rintro ((h | h) | h)
          · exact .inl (.inl h)
          · exact .inr h
          · exact .inl (.inr h)
        · rintro ((h | h) | h)
          · exact .inl (.inl h)
          · exact .inr h
          · exact .inl (.inr h)
      · exact ⟨fun _ => ⟨z, by simp [hz], hxz⟩, fun _ => trivial⟩
      · intro _; simp [i4 rfl]
    | false =>
      have hlow : ∀ z ∈ l, z < x := fun z hz => by
        rcases Int.lt_or_le z x with h | h
        · exact h
        · exact absurd (i3.2 ⟨z, hz, h⟩) (by simp)
      have hn : ∀ z, z ∈ n ↔ z ∈ l := fun z => by rw [i2]; simp
      by_cases hxy : x ≤ y
      · by_cases hne : y = x
        · subst hne
          simp only [insS, Int.le_refl, and_self, if_true, ne_eq, not_true, if_false, List.append_nil, decide_true, Bool.or_true]
          refine ⟨List.pairwise_append.2 ⟨i1, by simp, ?_⟩, ?_, ?_, ?_⟩
          · intro a ha c hc
            rw [List.mem_singleton] at hc; subst hc
            exact hy a ((hn a).1 ha)
          · intro a; simp only [List.mem_append, List.mem_singleton, hn]; constructor
            · rintro (h | h)
              · exact .inl (.inl h)
              · exact .inl (.inr h)
            · rintro (h | ⟨_, h⟩)
              · exact h
              · exact .inr h
          · exact ⟨fun _ => ⟨y, by simp, Int.le_refl _⟩, fun _ => trivial⟩
          · intro _; simp
        · simp only [insS, hxy, and_self, if_true, ne_eq, hne, not_false_eq_true, decide_true, Bool.or_true]
          refine ⟨?_, ?_, ?_, ?_⟩
          · unfold Up
            rw [List.append_assoc]
            refine List.pairwise_append.2 ⟨i1, by simp; omega, ?_⟩
            intro a ha c hc
            have hal := (hn a).1 ha
            have h1 := hlow a hal
            have h2 := hy a hal
            simp at hc
            rcases hc with rfl | rfl
            · exact h1
            · exact h2
          · intro a; simp only [List.mem_append, List.mem_singleton, hn]; constructor
            · rintro ((h | h) | h)
              · exact .inl (.inl h)
              · exact .inr ⟨by simp, h⟩
              · exact .inl (.inr h)
            · rintro ((h | h) | ⟨_, h⟩)
              · exact .inl (.inl h)
              · exact .inr h
              · exact .inl (.inr h)
          · exact ⟨fun _ => ⟨y, by simp, hxy⟩, fun _ => trivial⟩
          · intro _; simp
      · have hne : y ≠ x := by omega
        have hd : decide (x ≤ y) = false := decide_eq_false hxy
        simp only [insS, hxy, and_false, if_false, List.append_nil, if_pos hne, hd, Bool.or_false]
        refine ⟨List.pairwise_append.2 ⟨i1, by simp, ?_⟩, ?_, ?_, ?_⟩
        · intro a ha c hc
          rw [List.mem_singleton] at hc; subst hc
          exact hy a ((hn a).1 ha)
        · intro a; simp only [List.mem_append, List.mem_singleton, hn]; simp
        · constructor
          · intro h; cases h
          · rintro ⟨z, hz, hxz⟩
            rcases List.mem_append.1 hz with h | h
            · have := hlow z h; omega
            · rw [List.mem_singleton] at h; subst h; exact absurd hxz hxy
        · intro h; cases h
theorem insP_up (x : Int) (l : List Int) (h : Up l) : Up (insP x l) ∧ ∀ z, z ∈ insP x l ↔ z ∈ l ∨ z = x := by
  obtain ⟨i1, i2, i3, i4⟩ := insR_up x l h
  unfold insP
  split
  · rename_i hb
    refine ⟨i1, fun z => ?_⟩
    rw [i2]; simp [hb]
  · rename_i hb
    have hlow : ∀ z ∈ l, z < x := fun z hz => by
      rcases Int.lt_or_le z x with h | h
      · exact h
      · exact absurd (i3.2 ⟨z, hz, h⟩) hb
    have hn : ∀ z, z ∈ (insR x l).1 ↔ z ∈ l := fun z => by rw [i2]; simp [hb]
    refine ⟨List.pairwise_append.2 ⟨i1, by simp, ?_⟩, fun z => ?_⟩
    · intro a ha c hc
      rw [List.mem_singleton] at hc; subst hc
      exact hlow a ((hn a).1 ha)
    · simp [hn]
theorem sortR_up (l : List Int) : Up (sortR l) ∧ ∀ z, z ∈ sortR l ↔ z ∈ l := by
  induction l using snoc_ind with
  | h0 => simp [sortR, Up]
  | h1 l x ih =>
    obtain ⟨h1, h2⟩ := insP_up x _ ih.1
    rw [sortR_snoc]
    exact ⟨h1, fun z => by rw [h2, ih.2]; simp⟩
theorem up_ext : ∀ (a b : List Int), Up a → Up b → (∀ z, z ∈ a ↔ z ∈ b) → a = b
  | [], [], _, _, _ => rfl
  | [], y :: b, _, _, h => by have := (h y).2 (by simp); simp at this
  | x :: a, [], _, _, h => by have := (h x).1 (by simp); simp at this
  | x :: a, y :: b, ha, hb, h => by
    have ha' := List.pairwise_cons.1 ha
    have hb' := List.pairwise_cons.1 hb
    have hxy : x = y := by
      rcases List.mem_cons.1 ((h x).1 (by simp)) with h1 | h1
      · exact h1
      · rcases List.mem_cons.1 ((h y).2 (by simp)) with h2 | h2
        · exact h2.symm
        · have := hb'.1 x h1; have := ha'.1 y h2; omega
    subst hxy
    rw [up_ext a b ha'.2 hb'.2 (fun z => ?_)]
    constructor
    · intro hz
      rcases List.mem_cons.1 ((h z).1 (by simp [hz])) with h1 | h1
      · subst h1; have := ha'.1 z hz; omega
      · exact h1
    · intro hz
      rcases List.mem_cons.1 ((h z).2 (by simp [hz])) with h1 | h1
      · subst h1; have := hb'.1 z hz; omega
      · exact h1

/-- the library's way -/
theorem compact_up (d : Array Int) (hs : ∀ i j, i < j → j < d.size → d[i]! ≤ d[j]!) (m : Nat) (hm : m ≤ d.size) :
    Up (Lib.compactUpTo d m) ∧ (∀ z, z ∈ Lib.compactUpTo d m ↔ ∃ i, i < m ∧ d[i]! = z) := by
  induction m with
  | zero => simp [Lib.compactUpTo, Up]
  | succ m ih =>
    obtain ⟨h1, h2⟩ := ih (by omega)
    rw [Lib.compactUpTo_succ]
    by_cases hk : Lib.keeps d m = true
    · rw [if_pos hk]
      refine ⟨List.pairwise_append.2 ⟨h1, by simp, ?_⟩, fun z => ?_⟩
      · intro a ha c hc
        rw [List.mem_singleton] at hc; subst hc
        obtain ⟨i, hi, rfl⟩ := (h2 a).1 ha
        simp only [Lib.keeps, decide_eq_true_eq] at hk
        have h3 := hs (m - 1) m (by omega) (by omega)
        have h4 : d[i]! ≤ d[m - 1]! := by
          rcases Nat.lt_or_ge i (m - 1) with h | h
          · exact hs i (m - 1) h (by omega)
          · rw [show i = m - 1 by omega]; exact Int.le_refl _
        rcases hk with h | h
        · omega
        · have : d[m]! ≠ d[m - 1]! := h
          omega
      · simp only [List.mem_append, List.mem_singleton, h2]
        constructor
        · rintro (⟨i, hi, rfl⟩ | rfl)
          · exact ⟨i, by omega, rfl⟩
          · exact ⟨m, by omega, rfl⟩
        · rintro ⟨i, hi, rfl⟩
          rcases Nat.lt_or_ge i m with h | h
          · exact .inl ⟨i, h, rfl⟩
          · exact .inr (by rw [show i = m by omega])
    · rw [if_neg hk, List.append_nil]
      refine ⟨h1, fun z => ?_⟩
      rw [h2]
      simp only [Lib.keeps, decide_eq_true_eq, not_or, ne_eq, Decidable.not_not] at hk
      constructor
      · rintro ⟨i, hi, rfl⟩; exact ⟨i, by omega, rfl⟩
      · rintro ⟨i, hi, rfl⟩
        rcases Nat.lt_or_ge i m with h | h
        · exact ⟨i, h, rfl⟩
        · exact ⟨m - 1, by omega, by rw [← hk.2, show i = m by omega]⟩
def sortL (l : List Int) : List Int := Lib.compact (l.mergeSort fun x y => decide (x ≤ y))
theorem sortL_eq (l : List Int) : sortL l = sortR l := by
  have hp : (l.mergeSort fun x y => decide (x ≤ y)).Pairwise (fun a b => decide (a ≤ b) = true) := List.pairwise_mergeSort (le := fun x y => decide (x ≤ y)) (fun a b c h1 h2 => by simp at *; omega) (fun a b => by simp; omega) l
  have hm : ∀ z, z ∈ (l.mergeSort fun x y => decide (x ≤ y)) ↔ z ∈ l := fun z => List.mem_mergeSort
  unfold sortL Lib.compact
  generalize (l.mergeSort fun x y => decide (x ≤ y)) = s at *
  have hs : ∀ i j, i < j → j < s.toArray.size → s.toArray[i]! ≤ s.toArray[j]! := by
    intro i j hij hj
    have hj' : j < s.length := by simpa using hj
    have h1 := List.pairwise_iff_getElem.1 hp i j (by omega) hj' hij
    rw [getElem!_pos _ i (by simp; omega), getElem!_pos _ j hj]
    simpa using h1
  obtain ⟨h1, h2⟩ := compact_up s.toArray hs s.length (by simp)
  refine up_ext _ _ h1 (sortR_up l).1 (fun z => ?_)
  rw [h2, (sortR_up l).2, ← hm]
  constructor
  · rintro ⟨i, hi, rfl⟩
    rw [getElem!_pos _ i (by simpa using hi)]
    simp
  · intro hz
    obtain ⟨i, hi, rfl⟩ := List.getElem_of_mem hz
    exact ⟨i, hi, by rw [getElem!_pos _ i (by simpa using hi)]; simp⟩
end
section
open Go.RowKit Go.Sort

theorem i64Info : (Tryz.prog.info? 2).map (fun i => (i.zero, i.size, i.bytes)) = some (some (.int .i64 0), 1, 8) := by kernel_rfl
end
section
theorem nodup_len : ∀ (n : Nat) (l : List Int), l.Nodup → (∀ x ∈ l, 0 ≤ x ∧ x < (n : Int)) → l.length ≤ n := by
  intro n
  induction n with
  | zero =>
    intro l _ h
    cases l with
    | nil => simp
    | cons x l => have := h x (by simp); omega
  | succ n ih =>
    intro l hn h
    by_cases hm : (n : Int) ∈ l
    · have h1 := ih (l.erase (n : Int)) (hn.erase _) (fun x hx => by
        have := (hn.mem_erase_iff).1 hx
        have := h x this.2
        omega)
      rw [List.length_erase_of_mem hm] at h1
      omega
    · have := ih l hn (fun x hx => by
        have h2 := h x hx
        have : x ≠ (n : Int) := fun e => hm (e ▸ hx)
        omega)
      omega

/-- is it a place? -/
def isAt (l : List Int) (i : Int) : Prop := 0 ≤ i ∧ i < (l.length : Int)
instance (l : List Int) (i : Int) : Decidable (isAt l i) := by unfold isAt; infer_instance
/-- the place itself; -1: it is none -/
def norm (l : List Int) (i : Int) : Int := if isAt l i then i else -1
/-- the place that a place lies in; -1: none -/
def par (l : List Int) (i : Int) : Int := if isAt l i then norm l (l.getD i.toNat 0) else -1
def upN (l : List Int) (i : Int) : Nat → Int
  | 0 => norm l i
  | k + 1 => par l (upN l i k)
/-- the places above, so many at the most -/
def goUp (l : List Int) (i : Int) : Nat → Int → List Int → List Int
  | 0, _, out => out
  | f + 1, p, out => if par l p = -1 ∨ par l p = i ∨ par l p ∈ out then out else goUp l i f (par l p) (out ++ [par l p])
def aboveL (l : List Int) (i : Int) : List Int := goUp l i l.length i []

theorem norm_cases (l : List Int) (i : Int) : (isAt l i ∧ norm l i = i) ∨ (¬ isAt l i ∧ norm l i = -1) := by
  unfold norm; split <;> simp [*]
theorem norm_at (l : List Int) (i : Int) : norm l i = -1 ∨ isAt l (norm l i) := by
  rcases norm_cases l i with ⟨h, e⟩ | ⟨_, e⟩ <;> rw [e]
  · exact .inr h
  · exact .inl rfl
theorem par_at (l : List Int) (i : Int) : par l i = -1 ∨ isAt l (par l i) := by
  unfold par; split
  · exact norm_at _ _
  · exact .inl rfl
theorem par_norm (l : List Int) (i : Int) : par l (norm l i) = par l i := by
  rcases norm_cases l i with ⟨h, e⟩ | ⟨h, e⟩
  · rw [e]
  · rw [e]; unfold par; rw [if_neg h, if_neg (by simp [isAt])]
theorem upN_one (l : List Int) (i : Int) : upN l i 1 = par l i := par_norm l i

/-- the state of the way up: so many places told, all unlike, none the first one -/
structure UpAt (l : List Int) (i : Int) (m : Nat) (p : Int) (out : List Int) : Prop where
  len : out.length = m
  eq : ∀ j, j < m → out[j]? = some (upN l i (j + 1))
  cur : par l p = upN l i (m + 1)
  nodup : out.Nodup
  at_ : ∀ x ∈ out, isAt l x
  not : i ∉ out
  room : m ≤ l.length
  rest : goUp l i (l.length - m) p out = aboveL l i
theorem UpAt.start (l : List Int) (i : Int) : UpAt l i 0 i [] :=
  ⟨rfl, fun j h => by omega, (upN_one l i).symm, List.nodup_nil, fun x h => by simp at h, by simp, by omega, rfl⟩
def stops (l : List Int) (i : Int) (p : Int) (out : List Int) : Prop := par l p = -1 ∨ par l p = i ∨ par l p ∈ out
instance (l : List Int) (i p : Int) (out : List Int) : Decidable (stops l i p out) := by unfold stops; infer_instance
theorem UpAt.stop {l : List Int} {i : Int} {m : Nat} {p : Int} {out : List Int} (h : UpAt l i m p out) (hs : stops l i p out) : out = aboveL l i := by
  rw [← h.rest]
  cases l.length - m with
  | zero => rfl
  | succ f => rw [goUp]; exact (if_pos hs).symm
theorem UpAt.next {l : List Int} {i : Int} {m : Nat} {p : Int} {out : List Int} (h : UpAt l i m p out) (hs : ¬ stops l i p out) : UpAt l i (m + 1) (par l p) (out ++ [par l p]) ∧ m + 1 ≤ l.length := by
  unfold stops at hs
  simp only [not_or] at hs
  have hat : isAt l (par l p) := (par_at l p).resolve_left hs.1
  have hnd : (out ++ [par l p]).Nodup := by
    rw [List.nodup_append]
    refine ⟨h.nodup, by simp, fun a ha b hb e => ?_⟩
    simp at hb
    subst hb; subst e
    exact hs.2.2 ha
  have hall : ∀ x ∈ out ++ [par l p], isAt l x := by
    intro x hx
    rcases List.mem_append.1 hx with hx | hx
    · exact h.at_ x hx
    · simp at hx; subst hx; exact hat
  have hlen : m + 1 ≤ l.length := by
    have := nodup_len l.length _ hnd hall
    simp [h.len] at this
    exact this
  refine ⟨⟨by simp [h.len], fun j hj => ?_, by rw [show upN l i (m + 1 + 1) = par l (upN l i (m + 1)) from rfl, h.cur], hnd, hall, ?_, hlen, ?_⟩, hlen⟩
  · by_cases hjm : j < m
    · rw [List.getElem?_append_left (by rw [h.len]; exact hjm)]; exact h.eq j hjm
    · have : j = m := by omega
      subst this
      rw [List.getElem?_append_right (by rw [h.len]; omega), h.len, Nat.sub_self]
      simp [h.cur]
  · intro hi
    rcases List.mem_append.1 hi with hi | hi
    · exact h.not hi
    · simp at hi; exact hs.2.1 hi.symm
  · have := h.rest
    rw [show l.length - m = (l.length - (m + 1)) + 1 from by omega, goUp, if_neg (by simp only [not_or]; exact hs)] at this
    exact this
/-- the way up ends -/
theorem up_end (l : List Int) (i : Int) : ∃ m p, UpAt l i m p (aboveL l i) ∧ stops l i p (aboveL l i) := by
  have key : ∀ (f m : Nat) (p : Int) (out : List Int), UpAt l i m p out → l.length + 1 - m ≤ f → ∃ m p, UpAt l i m p (aboveL l i) ∧ stops l i p (aboveL l i) := by
    intro f
    induction f with
    | zero => intro m p out h hf; have := h.room; omega
    | succ f ih =>
      intro m p out h hf
      by_cases hs : stops l i p out
      · have e := h.stop hs
        rw [e] at h hs
        exact ⟨m, p, h, hs⟩
      · have := (h.next hs).1
        exact ih _ _ _ this (by omega)
  exact key _ 0 i [] (UpAt.start l i) (Nat.le_refl _)

/-- does the way up come back to where it began? -/
def circ (l : List Int) (i : Int) : Prop := isAt l i ∧ par l (((aboveL l i).getLast?).getD i) = i
instance (l : List Int) (i : Int) : Decidable (circ l i) := by unfold circ; infer_instance
def belowL (l : List Int) (i : Int) : List Int := if isAt l i then (((List.range l.length).filter fun (k : Nat) => decide ((k : Int) ≠ i ∧ i ∈ aboveL l (k : Int))).map fun (k : Nat) => (k : Int)) else []
def isL (l : List Int) (a i : Int) : Prop := ∃ j, 1 ≤ j ∧ j ≤ l.length ∧ 0 ≤ a ∧ upN l i j = a
end
section
open Go.ChangeShapes Go.WideShapes Go.ChangeAt Go.RowKit

theorem lawOwn : ownKnob Tryz.prog.godebug = none := by kernel_rfl
theorem lawLaid : laidOutB Tryz.prog = true := by kernel_rfl
theorem lawBool : Tryz.prog.underlying 4 = some .bool := Tryz.underlying4

theorem trodAll_below {H : Type} {enc : TypeId × Value → H} {P : Program} (hl : laidOutB P = true) {W W' : World} (hb : Below W.heap.size W W') (sp : Nat → Bool) :
    ∀ {ts : List TypeId} {vs : List Value} {ds : List (DataW H)} {ps : List MemPlace}, (ts.all fun t => P.readableRec t && decide (t < P.types.size)) = true →
      DataW.TrodAll enc P W 0 (fun _ => true) true ts vs ds ps → (∀ x ∈ ps, x.block < W.heap.size) → (∀ p ∈ ps, sp p.block = true) → DataW.TrodAll enc P W' 0 sp true ts vs ds ps
  | [], [], [], _, _, h, _, _ => h
  | t :: ts, v :: vs, d :: ds, ps, ht, h, hlt, hs => by
    obtain ⟨p, q, h1, h2, rfl⟩ := h
    simp only [List.all_cons, Bool.and_eq_true, decide_eq_true_eq] at ht
    refine ⟨p, q, WideElems.Trod_stays hl ht.1.1 ht.1.2 h1 (fun x hx => hb.same (hlt x (List.mem_append.2 (.inl hx)))) (fun x hx => hs x (List.mem_append.2 (.inl hx))), ?_, rfl⟩
    exact trodAll_below hl hb sp (by simpa using ht.2) h2 (fun x hx => hlt x (List.mem_append.2 (.inr hx))) (fun x hx => hs x (List.mem_append.2 (.inr hx)))
  | [], [], _ :: _, _, _, h, _, _ => h.elim
  | [], _ :: _, _, _, _, h, _, _ => h.elim
  | _ :: _, [], _, _, _, h, _, _ => h.elim
  | _ :: _, _ :: _, [], _, _, h, _, _ => h.elim

theorem law_calls {H : Type} {enc : TypeId × Value → H} {f : Func} {s : ChangeSpec} {fid : FuncId} {W : World} {args : Array Value} {ds gs : List (DataW H)} {before : List MemPlace}
    (hts : (f.params.toList.all fun t => Tryz.prog.readableRec t && decide (t < Tryz.prog.types.size)) = true) (hrt : f.resultTypes = #[4]) (hsv : s.vars = [])
    (hW : DataW.Whole enc Tryz.prog f.params.toList s.vars false W args.toList ds gs before)
    (hfn : ∀ gs', gs' = [] → s.fn H (ds ++ gs') = { results := [.lit (.bool true)], args := ds })
    (hc : Calls Tryz.prog fid args W fun e W' => e = .returned (.bool true) ∧ Below W.heap.size W W') :
    Calls Tryz.prog fid args W fun e W' => ∃ v, e = .returned v ∧ s.post enc Tryz.prog f false true false false W args v W' := by
  refine hc.mono fun e W' ⟨he, hb⟩ => ⟨_, he, ?_⟩
  have hW' := hW
  obtain ⟨p, q, hA, hV, rfl, hfz, hnd⟩ := hW
  rw [hsv] at hV
  obtain ⟨rfl, rfl⟩ := trodVars_none hV
  have hlt : ∀ x ∈ p, x.block < W.heap.size := fun x hx => hW'.lt x (List.mem_append.2 (.inl hx))
  have e1 := hfn [] rfl
  refine ⟨ds, [], p ++ [], [], p, [], hW', ?_, ?_, ?_, hb.frame _, fun h => by cases h⟩
  · rw [e1, hrt]
    exact trodAll_mk1 (shut_bool lawBool true)
  · rw [e1]
    exact trodAll_below lawLaid hb _ hts hA hlt (fun x hx => by simpa using hlt x hx)
  · rw [e1, hsv]
    rfl
end
section
open Go.RowKit

/-- a slice of ints reads as a list -/
def RI (w : World) (v : Value) (l : List Int) : Prop := (sliceR (intR .i64)).one w (fun b => b < w.heap.size) v l
theorem RI.below {w w' : World} {v : Value} {l : List Int} (h : RI w v l) (hb : Below w.heap.size w w') : RI w' v l := slice_mono (slice_below h hb fun b h => h) fun b h => Nat.lt_of_lt_of_le h hb.size
theorem RI.form {w : World} {v : Value} {l : List Int} (h : RI w v l) : ∃ A c, v = .slice A l.length c ∧ l.length ≤ c := by
  obtain ⟨A, c, h1, h2, _⟩ := slice_form h
  exact ⟨A, c, h1, h2⟩
theorem RI.at_ {w : World} {A : Option Addr} {n c : Nat} {l : List Int} (h : RI w (.slice A n c) l) {k : Nat} (hk : k < l.length) :
    ∃ b o, A = some ⟨b, o, none⟩ ∧ w.cell? ⟨b, o + k, none⟩ = some (.int .i64 (l.getD k 0)) ∧ -9223372036854775808 ≤ l.getD k 0 ∧ l.getD k 0 ≤ 9223372036854775807 := by
  obtain ⟨b, o, rfl, hb, _⟩ := slice_some h (by omega)
  have := ints_at h hk
  rw [List.getD, List.getElem?_eq_getElem hk]
  exact ⟨b, o, rfl, this⟩
theorem RI.own {w : World} {base : Nat} {v : Value} {n : Nat} {l : List Int} (h : w.ownsRow base 3 1 v n (l.map (Value.int .i64))) (hx : ∀ x ∈ l, -9223372036854775808 ≤ x ∧ x ≤ 9223372036854775807) : RI w v l :=
  slice_mono (slice_own1 (r := intR .i64) _ h rfl fun a ha => ⟨rfl, wf_i64_mk (hx a ha).1 (hx a ha).2⟩) fun b h => h.2

theorem intInfo : (Tryz.prog.info? 3).map (fun i => (i.zero, i.size, i.bytes)) = some (some (.int .i64 0), 1, 8) := by kernel_rfl
theorem one_new (w : World) (n : Int) (t : TypeId) : ∀ j u, [Value.int .i64 n][j]? = some u → (w.alloc (.cells #[.int .i64 n] t)).cell? ((⟨w.heap.size, 0, none⟩ : Addr).add j) = some u := cells_new w [.int .i64 n] t
theorem one_one (n : Int) : ∀ u ∈ [Value.int .i64 n], u.oneCell' = true := by intro u hu; simp at hu; subst hu; rfl

set_option maxHeartbeats 400000 in
theorem index_any (l : List Int) (v : Value) (x : Int) (w : World) (hl : l.length ≤ 4294967296) (hv : RI w v l) :
    Calls Tryz.prog 84 #[v, .int .i64 x] w fun e w' => e = .returned (.int .i64 (((l.findIdx? (· == x)).map fun (n : Nat) => (n : Int)).getD (-1))) ∧ w = w' := by
  obtain ⟨A, c, rfl, hc⟩ := hv.form
  go_enter Tryz.func84, Tryz.ntmps84
  go_wp2_with fail
  go_loop [8] (fun i => ∃ k : Nat, k ≤ l.length ∧ i = .int .i64 (k : Int) ∧ ∀ y ∈ l.take k, ¬ y = x) (fun i => l.length - (intOf i).toNat)
  case atStart => exact ⟨0, Nat.zero_le _, rfl, fun y hy => by simp at hy⟩
  case round =>
    obtain ⟨k, hk, rfl, hno⟩ := hrel
    have Hno := hide hno
    clear hno
    by_cases hlt : k < l.length
    · obtain ⟨b, o, rfl, hcell, hb1, hb2⟩ := hv.at_ hlt
      have htk := hide (List.take_succ_eq_append_getElem hlt)
      have hgk : l.getD k 0 = l[k] := by rw [List.getD, List.getElem?_eq_getElem hlt]; rfl
      rw [hgk] at hcell
      have hfi : (∀ y ∈ l.take k, ¬ y = x) → l[k] = x → l.findIdx? (· == x) = some k := by
        intro h1 h2
        rw [List.findIdx?_eq_some_iff_getElem]
        refine ⟨hlt, by simpa using h2, fun j hj => ?_⟩
        have := h1 l[j] (List.mem_take_iff_getElem.2 ⟨j, by omega, rfl⟩)
        simpa using this
      have Hfi := hide hfi
      clear hgk hfi
      generalize l[k] = y at *
      by_cases hy : y = x
      · have h1 : (x == y) = true := by simp [hy]
        have HE := hide (Hfi.out Hno.out hy)
        clear hy
        go_wp2_with fail
        go_ret
        rw [HE.out]
        exact ⟨rfl, rfl⟩
      · have h1 : (x == y) = false := by simp; exact fun e => hy e.symm
        go_wp2_with fail
        go_round
        case rel =>
          refine ⟨k + 1, by omega, by go_num, fun z hz => ?_⟩
          rw [htk.out] at hz
          rcases List.mem_append.1 hz with hz | hz
          · exact Hno.out z hz
          · simp at hz; subst hz; exact hy
        case measure => simp [intOf]; omega
    · obtain rfl : k = l.length := by omega
      go_wp2_with fail
      go_ret
      have : l.findIdx? (· == x) = none := by
        rw [List.findIdx?_eq_none_iff]
        intro y hy
        have := Hno.out y (by rwa [List.take_length])
        simpa using this
      rw [this]
      exact ⟨rfl, rfl⟩

set_option maxHeartbeats 400000 in
theorem contains_any (l : List Int) (v : Value) (x : Int) (w : World) (hl : l.length ≤ 4294967296) (hv : RI w v l) :
    Calls Tryz.prog 60 #[v, .int .i64 x] w fun e w' => e = .returned (.bool (decide (x ∈ l))) ∧ w = w' := by
  have hcase : (∃ n : Nat, l.findIdx? (· == x) = some n ∧ x ∈ l) ∨ (l.findIdx? (· == x) = none ∧ x ∉ l) := by
    cases h : l.findIdx? (· == x) with
    | none =>
      right
      rw [List.findIdx?_eq_none_iff] at h
      exact ⟨rfl, fun hx => by have := h x hx; simp at this⟩
    | some n =>
      left
      rw [List.findIdx?_eq_some_iff_getElem] at h
      obtain ⟨h1, h2, _⟩ := h
      simp at h2
      exact ⟨n, rfl, by rw [← h2]; exact List.getElem_mem _⟩
  have hix := index_any l v x w hl hv
  rcases hcase with ⟨n, h1, h2⟩ | ⟨h1, h2⟩
  · rw [h1] at hix
    have Hix := hide hix
    clear hix h1
    go_enter Tryz.func60, Tryz.ntmps60
    go_wp2_with (go_at_call 84; refine Hix.out.mono ?_; rintro e w' ⟨rfl, rfl⟩; simp only [Option.map_some, Option.getD_some])
    go_ret
    exact ⟨by simp [h2], rfl⟩
  · rw [h1] at hix
    have Hix := hide hix
    clear hix h1
    go_enter Tryz.func60, Tryz.ntmps60
    go_wp2_with (go_at_call 84; refine Hix.out.mono ?_; rintro e w' ⟨rfl, rfl⟩; simp only [Option.map_none, Option.getD_none])
    go_ret
    exact ⟨by simp [h2], rfl⟩

/-- what nest.in hands back -/
def InPost (l : List Int) (i : Int) (w : World) (e : Ending) (w' : World) : Prop := (par l i = -1 ∧ e = .returned (.tuple #[.int .i64 0, .bool false]) ∨ isAt l (par l i) ∧ e = .returned (.tuple #[.int .i64 (par l i), .bool true])) ∧ w = w'
set_option maxHeartbeats 400000 in
theorem in_any (l : List Int) (v : Value) (i : Int) (w : World) (hl : l.length ≤ 4294967296) (hv : RI w v l) :
    Calls Tryz.prog 39 #[v, .int .i64 i] w (InPost l i w) := by
  obtain ⟨A, c, rfl, hc⟩ := hv.form
  by_cases h1 : isAt l i
  · obtain ⟨h1a, h1b⟩ := h1
    obtain ⟨k, rfl⟩ := Int.eq_ofNat_of_zero_le h1a
    have hk : k < l.length := by omega
    obtain ⟨b, o, rfl, hcell, hb1, hb2⟩ := hv.at_ hk
    have hp : par l (k : Int) = norm l (l.getD k 0) := by unfold par; rw [if_pos ⟨h1a, h1b⟩]; simp
    have hn := norm_cases l (l.getD k 0)
    rw [← hp] at hn
    have Hn := hide hn
    clear hn hp
    generalize l.getD k 0 = y at *
    by_cases h2 : 0 ≤ y
    · by_cases h3 : y < (l.length : Int)
      · have e : par l k = y := by
          rcases Hn.out with ⟨_, e⟩ | ⟨h, _⟩
          · exact e
          · exact absurd ⟨h2, h3⟩ h
        have E := hide e
        clear e
        go_enter Tryz.func39, Tryz.ntmps39
        go_wp2_with fail
        go_ret2
        refine ⟨.inr ⟨?_, ?_⟩, rfl⟩
        · rw [E.out]; exact ⟨h2, h3⟩
        · rw [E.out]; rfl
      · have e : par l k = -1 := by
          rcases Hn.out with ⟨h, _⟩ | ⟨_, e⟩
          · exact absurd h.2 h3
          · exact e
        have E := hide e
        clear e
        go_enter Tryz.func39, Tryz.ntmps39
        go_wp2_with fail
        go_ret2
        exact ⟨.inl ⟨E.out, rfl⟩, rfl⟩
    · have e : par l k = -1 := by
        rcases Hn.out with ⟨h, _⟩ | ⟨_, e⟩
        · exact absurd h.1 h2
        · exact e
      have E := hide e
      clear e
      go_enter Tryz.func39, Tryz.ntmps39
      go_wp2_with fail
      go_ret2
      exact ⟨.inl ⟨E.out, rfl⟩, rfl⟩
  · have e : par l i = -1 := by unfold par; rw [if_neg h1]
    have E := hide e
    clear e
    by_cases h2 : 0 ≤ i
    · have h3 : (l.length : Int) ≤ i := by
        unfold isAt at h1; omega
      go_enter Tryz.func39, Tryz.ntmps39
      go_wp2_with fail
      go_ret2
      exact ⟨.inl ⟨E.out, rfl⟩, rfl⟩
    · go_enter Tryz.func39, Tryz.ntmps39
      go_wp2_with fail
      go_ret2
      exact ⟨.inl ⟨E.out, rfl⟩, rfl⟩


/-- what a function that makes a list of ints hands back -/
def ListPost (L : List Int) (w : World) (e : Ending) (w' : World) : Prop := ∃ v, e = .returned v ∧ w'.ownsRow w.heap.size 3 1 v L.length (L.map (Value.int .i64)) ∧ Below w.heap.size w w'

theorem in_no (l : List Int) (v : Value) (i : Int) (w : World) (hl : l.length ≤ 4294967296) (hv : RI w v l) (h : par l i = -1) :
    Calls Tryz.prog 39 #[v, .int .i64 i] w fun e w' => e = .returned (.tuple #[.int .i64 0, .bool false]) ∧ w = w' :=
  (in_any l v i w hl hv).mono fun e w' ⟨hh, hw⟩ => by
    rcases hh with ⟨_, he⟩ | ⟨hat, _⟩
    · exact ⟨he, hw⟩
    · rw [h] at hat; exact absurd hat.1 (by omega)
theorem in_yes (l : List Int) (v : Value) (i y : Int) (w : World) (hl : l.length ≤ 4294967296) (hv : RI w v l) (h : par l i = y) (hy : isAt l y) :
    Calls Tryz.prog 39 #[v, .int .i64 i] w fun e w' => e = .returned (.tuple #[.int .i64 y, .bool true]) ∧ w = w' :=
  (in_any l v i w hl hv).mono fun e w' ⟨hh, hw⟩ => by
    rcases hh with ⟨hp, _⟩ | ⟨hat, he⟩
    · rw [h] at hp; exact absurd hy.1 (by omega)
    · rw [h] at he; exact ⟨he, hw⟩

def lenOf : Value → Nat | .slice _ n _ => n | _ => 0
/-- a scope that is gone through from a label again and again: what holds at the label suffices -/
theorem wp_scope_label {P : Program} {a : Act} {w : World} {Q : Exit → Act → World → Prop} {c X : Code} (l : Nat) (J : Act → World → Prop) (μ : Act → World → Nat) (hf : findLabel c l = some (Code.skip.seq X))
    (pass : ∀ a w, J a w → X.wp P (Exit.jump l (fun a' w' => J a' w' ∧ μ a' w' < μ a w) Q) a w)
    (first : (∀ a w, J a w → X.wp P (Exit.jump l J Q) a w) → c.wp P (Exit.jump l J Q) a w) : (Code.scope c).wp P Q a w := by
  refine wp_scope_jumps l J μ hf (first fun a w h => wp_mono (pass a w h) ?_) (fun a w h => ?_)
  · intro e a' w' hq
    cases e with
    | goto l' => exact ⟨hq.1, hq.2.1⟩
    | normal => exact hq
    | exit id => exact hq
    | ret => exact hq
    | panic ch => exact hq
    | outgrown => exact hq
  · exact wp_seq (wp_skip (pass a w h))

set_option maxHeartbeats 1000000 in
theorem above_any (l : List Int) (v : Value) (i : Int) (w : World) (hl : l.length ≤ 1073741824) (hv : RI w v l) :
    Calls Tryz.prog 38 #[v, .int .i64 i] w (ListPost (aboveL l i) w) := by
  obtain ⟨i0, hi0, hz0, hz1, hz2⟩ := info_parts intInfo
  have hl : l.length ≤ 4294967296 := by omega
  obtain ⟨A, c, rfl, hc⟩ := hv.form
  go_enter Tryz.func38, Tryz.ntmps38
  go_wp2_with fail
  refine wp_scope_label 0 (fun a' w' => ∃ (m : Nat) (q : Int) (out : List Int) (v' : Value) (u7 u8 u9 u10 u11 u12 u13 u14 u15 u16 u17 u18 u19 u20 u21 u22 u23 u24 u25 u26 u27 u28 u29 u30 u31 u32 u33 : Value),
      a' = { tmps := #[.slice A l.length c, .int .i64 i, undef, undef, .slice none 0 0, v', .int .i64 q, u7, u8, u9, u10, u11, u12, u13, u14, u15, u16, u17, u18, u19, u20, u21, u22, u23, u24, u25, u26, u27, u28, u29, u30, u31, u32, u33], defers := [] } ∧
      UpAt l i m q out ∧ w'.ownsRow w.heap.size 3 1 v' out.length (out.map (Value.int .i64)) ∧ Below w.heap.size w w') (fun a' w' => l.length + 1 - lenOf (a'.tmps.getD 5 undef)) (by rfl) ?_ ?_
  · rintro a' w1 ⟨m, q, out, v', u7, u8, u9, u10, u11, u12, u13, u14, u15, u16, u17, u18, u19, u20, u21, u22, u23, u24, u25, u26, u27, u28, u29, u30, u31, u32, u33, rfl, hup, hown, hb⟩
    have hat := hup.at_
    have hroom := hup.room
    have hlen := hup.len
    have hri : RI w1 v' out := RI.own hown (fun x hx => by have := hat x hx; unfold isAt at this; omega)
    have hl1 : out.length ≤ 4294967296 := by omega
    have hv1 := hv.below hb
    obtain ⟨A', c', rfl, hc'⟩ := hri.form
    have Hstop := hide (hup.stop)
    have Hnext := hide (hup.next)
    have Hlen := hide hlen
    have Hat := hide hat
    clear hat hlen
    rcases par_at l q with hp | hp
    · have hin := in_no l _ q w1 hl hv1 hp
      have Hin := hide hin
      have E := hide (Hstop.out (.inl hp))
      clear hin hp
      go_wp2_with (go_at_call 39; refine Hin.out.mono ?_; rintro e w2 ⟨rfl, rfl⟩)
      simp only [Exit.jump]
      go_ret
      rw [← E.out]
      exact ⟨_, rfl, hown, hb⟩
    · have hin := in_yes l _ q (par l q) w1 hl hv1 rfl hp
      have hpr : 0 ≤ par l q ∧ par l q < (l.length : Int) := hp
      have Hin := hide hin
      have hs1 : par l q = i → out = aboveL l i := fun h => Hstop.out (.inr (.inl h))
      have hs2 : par l q ∈ out → out = aboveL l i := fun h => Hstop.out (.inr (.inr h))
      have hs3 : par l q ≠ i → par l q ∉ out → UpAt l i (m + 1) (par l q) (out ++ [par l q]) ∧ m + 1 ≤ l.length := fun h1 h2 => Hnext.out (fun hh => by
        rcases hh with hh | hh | hh
        · have := hp.1; omega
        · exact h1 hh
        · exact h2 hh)
      have Hs1 := hide hs1
      have Hs2 := hide hs2
      have Hs3 := hide hs3
      clear hin hp hs1 hs2 hs3 Hstop Hnext
      generalize par l q = y at *
      cases h1 : (y == i) with
      | true =>
        have E := hide (Hs1.out (by simpa using h1))
        go_wp2_with (go_at_call 39; refine Hin.out.mono ?_; rintro e w2 ⟨rfl, rfl⟩)
        simp only [Exit.jump]
        go_ret
        rw [← E.out]
        exact ⟨_, rfl, hown, hb⟩
      | false =>
        have hne : y ≠ i := by simpa using h1
        have hcn := contains_any out _ y w1 hl1 hri
        by_cases h2 : y ∈ out
        · rw [show decide (y ∈ out) = true from decide_eq_true h2] at hcn
          have Hcn := hide hcn
          have E := hide (Hs2.out h2)
          clear hcn h2 hne
          go_wp2_with (first
            | (go_at_call 39; refine Hin.out.mono ?_; rintro e w2 ⟨rfl, rfl⟩)
            | (go_at_call 60; refine Hcn.out.mono ?_; rintro e w2 ⟨rfl, rfl⟩))
          simp only [Exit.jump]
          go_ret
          rw [← E.out]
          exact ⟨_, rfl, hown, hb⟩
        · rw [show decide (y ∈ out) = false from decide_eq_false h2] at hcn
          have Hcn := hide hcn
          have E := hide (Hs3.out hne h2)
          clear hcn h2 hne
          have hB := hb.size
          go_wp2_with (first
            | (go_at_call 39; refine Hin.out.mono ?_; rintro e w2 ⟨rfl, rfl⟩)
            | (go_at_call 60; refine Hcn.out.mono ?_; rintro e w2 ⟨rfl, rfl⟩)
            | (at_builtin; refine wpList_append_own _ rfl (.tmp 29) (.tmp 31) 49 rfl w.heap.size 3 i0 _ 1 8 Tryz.underlying49 hi0 hz0 hz1 hz2 rfl (by omega) _ out.length _ rfl (hown.alloc _) ⟨w1.heap.size, 0, none⟩ 1 1 [.int .i64 y] rfl rfl (one_new _ _ _) (one_one _) (by unfold maxLen; omega) (by omega) (by simp; omega) ?_; intro v2 w2 hown2 hg2 _))
          go_step3
          obtain ⟨e1, e2⟩ := E.out
          have hb2 := (hb.alloc hb.size (.cells #[.int .i64 y] 3)).grown hg2 (by simp; omega) (fun g hg => (hown.lt g hg).1)

          refine ⟨rfl, ⟨m + 1, y, out ++ [y], v2, _, _, _, _, _, _, _, _, _, _, _, _, _, _, _, _, _, _, _, _, _, _, _, _, _, _, _, rfl, e1, ?_, hb2⟩, ?_⟩
          · have := hown2
            rw [List.length_append, List.map_append]
            exact this
          · obtain ⟨A2, c2, rfl, _⟩ := own_form hown2
            show l.length + 1 - (out.length + 1) < l.length + 1 - out.length
            have := Hlen.out
            omega
  · intro hpass
    go_wp2
    go_step3
    rename_i hK
    exact hK _ _ (hpass _ _ ⟨0, i, [], _, _, _, _, _, _, _, _, _, _, _, _, _, _, _, _, _, _, _, _, _, _, _, _, _, _, _, _, rfl, UpAt.start l i, World.ownsRow_nil _ _ _ _, Below.refl _ _⟩)
end
section
open Go.RowKit
theorem rt_ints {w : World} {S : Nat → Prop} {v : Value} {l : List Int} (h : RT w S v (sI l)) (hS : SOk w S) (hl : ∀ x ∈ l, ok64 x) : RI w v l := by
  obtain ⟨A, cap, rfl, hc, hm, _, hA⟩ := h.sl_inv
  refine ⟨A, cap, by simp, by simpa using hc, hm, fun h0 => ?_⟩
  obtain ⟨b, o, rfl, hb, U, hcell, hr, _⟩ := hA (by simpa using h0)
  refine ⟨b, o, rfl, hS b hb, fun i hi => ⟨[.int .i64 l[i]], fun j u hu => ?_, rfl, ?_⟩⟩
  · have h1 : (l.map fun n => [eI n])[i]? = some [eI l[i]] := by simp [hi]
    have h2 := hcell i 0 _ _ h1 rfl
    have h3 := rtc (hr i 0 _ _ h1 rfl)
    cases j with
    | zero =>
      simp at hu
      subst hu
      rw [h3] at h2
      simpa [intR] using h2
    | succ j => simp at hu
  · have := hl _ (List.getElem_mem hi)
    exact wf_i64_mk this.1 this.2
theorem adet_of_list {f : FuncId} {args : List AV} {l : List Int} (he : Enters Tryz.prog f)
    (h : ∀ (S : Nat → Prop) (w : World) (vs : Array Value), SOk w S → vs.size = args.length → (∀ (j : Nat) (v : Value) (av : AV), vs[j]? = some v → args[j]? = some av → RT w S v av) → Calls Tryz.prog f vs w (ListPost l w)) : ADet Tryz.prog f args (own 3 1 (l.map fun n => [eI n])) :=
  ⟨he, fun S w vs h1 h2 h3 => (h S w vs h1 h2 h3).mono fun e w' ⟨v, h4, h5, h6⟩ => by
    have hget : ∀ id o, (own 3 1 (l.map fun n => [eI n])).tab.get id = some o → id = 0 ∧ o = .row 3 1 (l.map fun n => [eI n]) := fun id o ho => by
      simp only [own, ATab.get_cons] at ho
      split at ho
      · cases ho
        exact ⟨by assumption, rfl⟩
      · cases ho
    refine ⟨v, fun _ => v, _, rfl, own_ok .., h4, ⟨belowX h6, fun id o ho => ?_, fun id id' o o' g h7 h8 _ _ => ?_, fun b hb => hb.elim⟩, .osl _ _ fun sz u hk => ?_⟩
    · obtain ⟨_, rfl⟩ := hget id o ho
      refine ⟨fun row hr => ?_, _, by rw [List.length_map]; exact ownsR_of h5, fun x hx => ?_, fun i j row av ha hb => ?_⟩
      · obtain ⟨n, _, rfl⟩ := List.mem_map.1 hr
        rfl
      · obtain ⟨n, _, rfl⟩ := List.mem_map.1 hx
        rfl
      · rw [List.getElem?_map] at ha
        cases hi : l[i]? with
        | none => simp [hi] at ha
        | some n =>
          simp [hi] at ha
          subst ha
          cases j with
          | zero =>
            simp at hb
            subst hb
            exact ⟨.int .i64 n, by simp [hi], .c _⟩
          | succ j => simp at hb
    · rw [(hget id o h7).1, (hget id' o' h8).1]
    · unfold Kx at hk
      cases ho : (own 3 1 (l.map fun n => [eI n])).tab.get 0 with
      | none => simp [ho] at hk
      | some o => simp [ho] at hk; exact hk.2⟩
theorem two_args {vs : Array Value} (h : vs.size = 2) : ∃ a b, vs = #[a, b] := ⟨vs[0], vs[1], by apply Array.ext (by simpa using h); intro i h1 h2; simp at h2; match i with | 0 => rfl | 1 => rfl⟩
theorem gives_tree {r av : AV} {st : ASt} (h : r.ren [] = av) : aGives ⟨r, [], 0⟩ st av := ⟨[], List.nodup_nil, h, trivial⟩
end
section
open Go.RowKit

noncomputable instance (l : List Int) (a i : Int) : Decidable (isL l a i) := Classical.propDecidable _
end
section
open Go.RowKit

def fl (p : Nat → Bool) (k : Nat) : List Int := ((List.range k).filter p).map fun (n : Nat) => (n : Int)
theorem fl_yes (p : Nat → Bool) (k : Nat) (h : p k = true) : fl p (k + 1) = fl p k ++ [(k : Int)] := by simp [fl, List.range_succ, h]
theorem fl_no (p : Nat → Bool) (k : Nat) (h : p k = false) : fl p (k + 1) = fl p k := by simp [fl, List.range_succ, h]
theorem fl_len (p : Nat → Bool) (k : Nat) : (fl p k).length ≤ k := by
  have := List.length_filter_le p (List.range k)
  simpa [fl] using this
theorem above_at (l : List Int) (i : Int) : ∀ x ∈ aboveL l i, isAt l x := by
  obtain ⟨m, p, h, _⟩ := up_end l i
  exact h.at_
theorem above_len (l : List Int) (i : Int) : (aboveL l i).length ≤ l.length := by
  obtain ⟨m, p, h, _⟩ := up_end l i
  rw [h.len]; exact h.room
theorem RI.list {w : World} {base : Nat} {v : Value} {n : Nat} {l L : List Int} (h : w.ownsRow base 3 1 v n (L.map (Value.int .i64))) (hx : ∀ x ∈ L, isAt l x) (hl : l.length ≤ 1073741824) : RI w v L :=
  RI.own h fun x hh => by have := hx x hh; unfold isAt at this; omega
end
section
open Go.RowKit

/-- one round's end of a loop that gathers places -/
theorem fl_rel {p : Nat → Bool} {k : Nat} {w wr : World} {v v2 : Value} {w1 w2 : World} (h : p k = true) (hb : Below w.heap.size w wr) (hb1 : Below wr.heap.size wr w1)
    (hown : w1.ownsRow w.heap.size 3 1 v (fl p k).length ((fl p k).map (Value.int .i64)))
    (hown2 : w2.ownsRow w.heap.size 3 1 v2 ((fl p k).length + 1) ((fl p k).map (Value.int .i64) ++ [Value.int .i64 (k : Int)])) (hg2 : (w1.alloc (.cells #[.int .i64 (k : Int)] 3)).grownBy w2 v.ownBlock) :
    w2.ownsRow w.heap.size 3 1 v2 (fl p (k + 1)).length ((fl p (k + 1)).map (Value.int .i64)) ∧ Below w.heap.size w w2 := by
  have hb0 := hb.trans (hb1.mono hb.size)
  refine ⟨?_, (hb0.alloc hb0.size _).grown hg2 (by have := hb0.size; simp; omega) (fun g hg => (hown.lt g hg).1)⟩
  rw [fl_yes p k h, List.length_append, List.map_append]
  exact hown2

set_option maxHeartbeats 1000000 in
set_option maxRecDepth 100000 in
theorem below_any (l : List Int) (v : Value) (i : Int) (w : World) (hl : l.length ≤ 1073741824) (hv : RI w v l) :
    Calls Tryz.prog 71 #[v, .int .i64 i] w (ListPost (belowL l i) w) := by
  obtain ⟨i0, hi0, hz0, hz1, hz2⟩ := info_parts intInfo
  obtain ⟨A, c, rfl, hc⟩ := hv.form
  by_cases hi : isAt l i
  · obtain ⟨p, hp⟩ : ∃ p : Nat → Bool, p = fun (k : Nat) => decide ((k : Int) ≠ i ∧ i ∈ aboveL l (k : Int)) := ⟨_, rfl⟩
    have e : belowL l i = fl p l.length := by unfold belowL; rw [if_pos hi, hp]; rfl
    rw [e]
    have Hp := hide hp
    clear hp e
    obtain ⟨hi1, hi2⟩ := hi
    go_enter Tryz.func71, Tryz.ntmps71
    go_wp2_with fail
    go_loopw [5, 18] (fun u j wr => ∃ k : Nat, k ≤ l.length ∧ j = .int .i64 (k : Int) ∧ wr.ownsRow w.heap.size 3 1 u (fl p k).length ((fl p k).map (Value.int .i64)) ∧ Below w.heap.size w wr) (fun u j wr => l.length - (intOf j).toNat)
    case atStart => exact ⟨0, Nat.zero_le _, rfl, World.ownsRow_nil _ _ _ _, Below.refl _ _⟩
    case round =>
      obtain ⟨k, hk, rfl, hown, hb⟩ := hrel
      have hfl := fl_len p k
      by_cases hlt : k < l.length
      · have hv1 := hv.below hb
        by_cases hki : (k : Int) = i
        · have h1 : ((k : Int) != i) = false := by simp [hki]
          have hpk : p k = false := by rw [Hp.out]; simp [hki]
          have E := hide (fl_no p k hpk)
          clear hki hpk
          go_wp2_with fail
          go_roundw
          case rel => exact ⟨k + 1, by omega, by go_num, by rw [E.out]; exact hown, hb⟩
          case measure => simp [intOf]; omega
        · have h1 : ((k : Int) != i) = true := by simp [hki]
          have ha := above_any l _ (k : Int) wr hl hv1
          have hab := above_at l (k : Int)
          have hal := above_len l (k : Int)
          have hpk : p k = decide (i ∈ aboveL l (k : Int)) := by rw [Hp.out]; simp [hki]
          generalize aboveL l (k : Int) = L at *
          have Ha := hide ha
          have Hab := hide hab
          have Hpk := hide hpk
          clear ha hab hpk hki
          by_cases hm : i ∈ L
          · have hpk : p k = true := by rw [Hpk.out]; exact decide_eq_true hm
            have HP := hide hpk
            have hd := decide_eq_true hm
            clear hpk hm
            have HD := hide hd
            clear hd
            go_wp2_with fail
            refine Ha.out.mono ?_
            rintro e w1 ⟨v1, rfl, hown1, hb1⟩
            have hri := RI.list hown1 Hab.out hl
            have hcn := contains_any L v1 i w1 (by omega) hri
            rw [HD.out] at hcn
            have Hcn := hide hcn
            have hownk := own_below' hown hb1
            have hb0 := hb.trans (hb1.mono hb.size)
            clear hcn hown
            obtain ⟨A', c', rfl, hc'⟩ := own_form hownk
            go_wp2_with (first
              | (go_at_call 60; refine Hcn.out.mono ?_; rintro e w2 ⟨rfl, rfl⟩)
              | (at_builtin; refine wpList_append_own _ rfl (.tmp 31) (.tmp 33) 49 rfl w.heap.size 3 i0 _ 1 8 Tryz.underlying49 hi0 hz0 hz1 hz2 rfl (by omega) _ (fl p k).length _ rfl (hownk.alloc _) ⟨w1.heap.size, 0, none⟩ 1 1 [.int .i64 (k : Int)] rfl rfl (one_new _ _ _) (one_one _) (by unfold maxLen; omega) (by omega) (by have := hb0.size; simp; omega) ?_; intro v2 w2 hown2 hg2 _))
            go_roundw
            case rel => exact ⟨k + 1, by omega, by go_num, fl_rel HP.out hb hb1 hownk hown2 hg2⟩
            case measure => simp [intOf]; omega
          · have hpk : p k = false := by rw [Hpk.out]; exact decide_eq_false hm
            have E := hide (fl_no p k hpk)
            have HD := hide (decide_eq_false hm)
            clear hpk hm
            go_wp2_with fail
            refine Ha.out.mono ?_
            rintro e w1 ⟨v1, rfl, hown1, hb1⟩
            have hri := RI.list hown1 Hab.out hl
            have hcn := contains_any L v1 i w1 (by omega) hri
            rw [HD.out] at hcn
            have Hcn := hide hcn
            have hownk := own_below' hown hb1
            have hb0 := hb.trans (hb1.mono hb.size)
            clear hcn hown
            go_wp2_with (go_at_call 60; refine Hcn.out.mono ?_; rintro e w2 ⟨rfl, rfl⟩)
            go_roundw
            case rel => exact ⟨k + 1, by omega, by go_num, by rw [E.out]; exact hownk, hb0⟩
            case measure => simp [intOf]; omega
      · obtain rfl : k = l.length := by omega
        go_wp2_with fail
        go_ret
        exact ⟨_, rfl, hown, hb⟩
  · have e : belowL l i = [] := by unfold belowL; rw [if_neg hi]
    rw [e]
    clear e
    by_cases h0 : 0 ≤ i
    · have h1 : (l.length : Int) ≤ i := by unfold isAt at hi; omega
      go_enter Tryz.func71, Tryz.ntmps71
      go_wp2_with fail
      go_ret
      exact ⟨_, rfl, World.ownsRow_nil _ _ _ _, Below.refl _ _⟩
    · go_enter Tryz.func71, Tryz.ntmps71
      go_wp2_with fail
      go_ret
      exact ⟨_, rfl, World.ownsRow_nil _ _ _ _, Below.refl _ _⟩
end
section
open Go.RowKit

theorem own_take {w : World} {base : Nat} {e : TypeId} {g n c : Nat} {xs : List Value} (h : w.ownsRow base e 1 (.slice (some ⟨g, 0, none⟩) n c) n xs) {k : Nat} (hk : k ≤ n) : w.ownsRow base e 1 (.slice (some ⟨g, 0, none⟩) k c) k (xs.take k) := by
  obtain ⟨hl, h | ⟨g', cap, cur, hv, hb, hg, hn, hm, hs, ht⟩⟩ := h
  · exact absurd h.1 (by simp)
  · simp at hv
    obtain ⟨rfl, rfl⟩ := hv
    refine ⟨by simp at hl ⊢; omega, .inr ⟨g, c, cur, rfl, hb, hg, by omega, hm, hs, ?_⟩⟩
    rw [← ht, List.take_take]
    congr 1
    omega
theorem cellOne_new (w : World) (v : Value) (t : TypeId) : ∀ j u, [v][j]? = some u → (w.alloc (.cells #[v] t)).cell? ((⟨w.heap.size, 0, none⟩ : Addr).add j) = some u := cells_new w [v] t
theorem cellOne_drew (w : World) (v : Value) (t : TypeId) : ∀ j u, [v][j]? = some u → ((w.alloc (.cells #[v] t)).drew).cell? ((⟨w.heap.size, 0, none⟩ : Addr).add j) = some u := cells_new w [v] t
theorem nodeInfo : (Tryz.prog.info? 161).map (fun i => (i.zero, i.size, i.bytes)) = some (some .nilIface, 1, 16) := by kernel_rfl

theorem oneIface (t : TypeId) (x : Value) : ∀ u ∈ [Value.iface t x], u.oneCell' = true := by intro u hu; simp at hu; subst hu; rfl
def ifc (p : TypeId × Value) : Value := .iface p.1 p.2
def PushPost (base d : Nat) (ok : Bool) (w : World) (B : Nat) (e : Ending) (w' : World) : Prop := ∃ v xs, e = .returned (.tuple #[v, .bool ok]) ∧ w'.ownsRow base 161 1 v d (List.map ifc xs) ∧ Below B w w'

set_option maxRecDepth 100000 in
set_option maxHeartbeats 1000000 in
theorem push0 (op i : Int) (v : Value) (n base B : Nat) (xs : List (TypeId × Value)) (w : World) (ho : arity op = 0) (hown : w.ownsRow base 161 1 v n (xs.map ifc)) (hn : n ≤ 1000) (hB : B ≤ base) (hb : base ≤ w.heap.size) :
    Calls Tryz.prog 125 #[v, .int .i64 op, .int .i64 i] w (PushPost base (n + 1) true w B) := by
  obtain ⟨i0, hi0, hz0, hz1, hz2⟩ := info_parts nodeInfo
  have Ho := hide ho
  clear ho
  obtain ⟨A, c, rfl, hc⟩ := own_form hown
  go_enter Tryz.func125, Tryz.ntmps125
  go_wp2_with (first
    | (go_at_call 129; refine (arity_any _ _).mono ?_; rintro e w' ⟨rfl, rfl⟩; rw [Ho.out])
    | (at_builtin; refine wpList_append_own _ rfl _ _ 188 rfl base 161 i0 .nilIface 1 16 Tryz.underlying188 hi0 hz0 hz1 hz2 rfl (by decide) _ _ _ rfl (hown.alloc _) ⟨w.heap.size, 0, none⟩ 1 1 [.iface 197 (.agg #[.int .i64 i])] rfl rfl (cellOne_new _ _ _) (oneIface _ _) (by unfold maxLen; omega) (by omega) (by simp; omega) ?_; intro v' w1 hown' hgrow _))
  go_ret2
  exact ⟨v', xs ++ [(197, .agg #[.int .i64 i])], rfl, by rw [List.map_append]; exact hown', ((Below.refl _ _).alloc (by omega) _).grown hgrow (by simp; omega) (fun k hk => by have := (hown.lt k hk).1; omega)⟩

set_option maxRecDepth 100000 in
set_option maxHeartbeats 1000000 in
theorem push1 (op i : Int) (v : Value) (n base B : Nat) (xs : List (TypeId × Value)) (w : World) (ho : arity op = 1) (h1 : 1 ≤ n) (hown : w.ownsRow base 161 1 v n (xs.map ifc)) (hn : n ≤ 1000) (hB : B ≤ base) (hb : base ≤ w.heap.size) :
    Calls Tryz.prog 125 #[v, .int .i64 op, .int .i64 i] w (PushPost base n true w B) := by
  obtain ⟨i0, hi0, hz0, hz1, hz2⟩ := info_parts nodeInfo
  have Ho := hide ho
  clear ho
  obtain ⟨g, c, rfl, hc, hgb, hgw⟩ := own_some hown (by omega)
  have hlen := hown.1
  rw [List.length_map] at hlen
  obtain ⟨xt, xv, hx⟩ : ∃ xt xv, (xs.map ifc)[n - 1]? = some (.iface xt xv) := ⟨(xs[n - 1]'(by omega)).1, (xs[n - 1]'(by omega)).2, by rw [List.getElem?_map, List.getElem?_eq_getElem (by omega)]; rfl⟩
  have hcell := own_cell hown rfl hx
  have hown2 := own_take hown (k := n - 1) (by omega)
  have Hown := hide hown
  have Hx := hide hx
  have Hlen := hide hlen
  clear hown hx hlen
  go_enter Tryz.func125, Tryz.ntmps125
  go_wp2_with (first
    | (go_at_call 129; refine (arity_any _ _).mono ?_; rintro e w' ⟨rfl, rfl⟩; rw [Ho.out])
    | fail)
  have s1 : IntKind.i64.wrap ((n : Int) - 1) = (n : Int) - 1 := IntWalk.i64_in _ (by omega)
  have s2 : 0 ≤ (n : Int) - 1 := by omega
  have s3 : ((n : Int) - 1).toNat = n - 1 := by omega
  have s4 : (n : Int) - 1 ≤ (c : Int) := by omega
  have s5 : (n : Int) - 1 < (n : Int) := by omega
  go_region_law (refine step_append_lies _ rfl (.tmp 33) (.tmp 42) 188 rfl base 161 i0 .nilIface 1 16 Tryz.underlying188 hi0 hz0 hz1 hz2 rfl (by decide) _ (n - 1) _ rfl (hown2.alloc _).drew ⟨w.heap.size, 0, none⟩ 1 1 [.iface 199 (.agg #[.int .i64 i, .iface xt xv])] rfl rfl (cellOne_drew _ _ _) (oneIface _ _) (by omega) (by unfold maxLen; omega) (by omega) (by simp; omega) _ rfl ?_; intro g2 c2 w2 hown3 hg2 hat hlt)
  have h4 : w2.ownsRow base 161 1 (.slice (some ⟨g2, 0, none⟩) n c2) n (List.map ifc (xs.take (n - 1) ++ [(199, .agg #[.int .i64 i, .iface xt xv])])) := by
    have h := hown3
    rw [List.map_append, List.map_take]
    rw [show n - 1 + 1 = n by omega] at h
    exact h
  have hbl : Below B w w2 := (((Below.refl _ _).alloc (by omega) _).drew).grown hg2 (by simp; omega) (fun k hk => by have := (hown2.lt k hk).1; omega)
  go_wp2_with fail
  go_ret2
  exact ⟨_, _, rfl, h4, hbl⟩

set_option maxRecDepth 100000 in
set_option maxHeartbeats 2000000 in
theorem push2 (op i : Int) (v : Value) (n base B : Nat) (xs : List (TypeId × Value)) (w : World) (ho : arity op = 2) (h1 : 2 ≤ n) (hown : w.ownsRow base 161 1 v n (xs.map ifc)) (hn : n ≤ 1000) (hB : B ≤ base) (hb : base ≤ w.heap.size) :
    Calls Tryz.prog 125 #[v, .int .i64 op, .int .i64 i] w (PushPost base (n - 1) true w B) := by
  obtain ⟨i0, hi0, hz0, hz1, hz2⟩ := info_parts nodeInfo
  have Ho := hide ho
  clear ho
  obtain ⟨g, c, rfl, hc, hgb, hgw⟩ := own_some hown (by omega)
  have hlen := hown.1
  rw [List.length_map] at hlen
  obtain ⟨xt, xv, hx⟩ : ∃ xt xv, (xs.map ifc)[n - 1]? = some (.iface xt xv) := ⟨(xs[n - 1]'(by omega)).1, (xs[n - 1]'(by omega)).2, by rw [List.getElem?_map, List.getElem?_eq_getElem (by omega)]; rfl⟩
  obtain ⟨yt, yv, hy⟩ : ∃ xt xv, (xs.map ifc)[n - 2]? = some (.iface xt xv) := ⟨(xs[n - 2]'(by omega)).1, (xs[n - 2]'(by omega)).2, by rw [List.getElem?_map, List.getElem?_eq_getElem (by omega)]; rfl⟩
  have hcell := own_cell hown rfl hx
  have hcelly := own_cell hown rfl hy
  have hown2 := own_take hown (k := n - 2) (by omega)
  have Hown := hide hown
  have Hx := hide hx
  have Hy := hide hy
  have Hlen := hide hlen
  clear hown hx hlen hy
  go_enter Tryz.func125, Tryz.ntmps125
  go_wp2_with (first
    | (go_at_call 129; refine (arity_any _ _).mono ?_; rintro e w' ⟨rfl, rfl⟩; rw [Ho.out])
    | fail)
  have s1 : IntKind.i64.wrap ((n : Int) - 1) = (n : Int) - 1 := IntWalk.i64_in _ (by omega)
  have s2 : 0 ≤ (n : Int) - 1 := by omega
  have s3 : ((n : Int) - 1).toNat = n - 1 := by omega
  have s5 : (n : Int) - 1 < (n : Int) := by omega
  have s6 : IntKind.i64.wrap ((n : Int) - 2) = (n : Int) - 2 := IntWalk.i64_in _ (by omega)
  have s7 : 0 ≤ (n : Int) - 2 := by omega
  have s8 : ((n : Int) - 2).toNat = n - 2 := by omega
  have s9 : (n : Int) - 2 ≤ (c : Int) := by omega
  have s10 : (n : Int) - 2 < (n : Int) := by omega
  have s11 : (1 : Int) ≤ (n : Int) := by omega
  have s12 : (2 : Int) ≤ (n : Int) := by omega
  go_region_law (refine step_append_lies _ rfl (.tmp 54) (.tmp 68) 188 rfl base 161 i0 .nilIface 1 16 Tryz.underlying188 hi0 hz0 hz1 hz2 rfl (by decide) _ (n - 2) _ rfl (hown2.alloc _).drew ⟨w.heap.size, 0, none⟩ 1 1 [.iface 201 (.agg #[.int .i64 i, .iface yt yv, .iface xt xv])] rfl rfl (cellOne_drew _ _ _) (oneIface _ _) (by omega) (by unfold maxLen; omega) (by omega) (by simp; omega) _ rfl ?_; intro g2 c2 w2 hown3 hg2 hat hlt)
  all_goals
    have h4 : w2.ownsRow base 161 1 (.slice (some ⟨g2, 0, none⟩) (n - 2 + 1) c2) (n - 1) (List.map ifc (xs.take (n - 2) ++ [(201, .agg #[.int .i64 i, .iface yt yv, .iface xt xv])])) := by
      have h := hown3
      rw [List.map_append, List.map_take]
      rw [show n - 2 + 1 = n - 1 by omega] at h ⊢
      exact h
    have hbl : Below B w w2 := (((Below.refl _ _).alloc (by omega) _).drew).grown hg2 (by simp; omega) (fun k hk => by have := (hown2.lt k hk).1; omega)
    go_wp2_with fail
    go_ret2
    exact ⟨_, _, rfl, h4, hbl⟩

set_option maxRecDepth 100000 in
set_option maxHeartbeats 1000000 in
theorem pushNo (op i : Int) (v : Value) (n base B : Nat) (xs : List (TypeId × Value)) (w : World) (ho : pushN n op = none) (hown : w.ownsRow base 161 1 v n (xs.map ifc)) (hn : n ≤ 1000) (hB : B ≤ base) (hb : base ≤ w.heap.size) :
    Calls Tryz.prog 125 #[v, .int .i64 op, .int .i64 i] w fun e w' => e = .returned (.tuple #[v, .bool false]) ∧ w = w' := by
  obtain ⟨A, c, rfl, hc⟩ := own_form hown
  have Hown := hide hown
  clear hown
  have key : (arity op = 1 ∧ n = 0) ∨ (arity op = 2 ∧ n = 0) ∨ (arity op = 2 ∧ n = 1) ∨ arity op = -1 := by
    unfold pushN at ho
    have : arity op = 0 ∨ arity op = 1 ∨ arity op = 2 ∨ arity op = -1 := by unfold arity; (repeat' split) <;> simp
    split at ho
    · cases ho
    · split at ho
      · cases ho
      · split at ho
        · cases ho
        · omega
  clear ho
  rcases key with ⟨ho, rfl⟩ | ⟨ho, rfl⟩ | ⟨ho, rfl⟩ | ho
  all_goals
    have Ho := hide ho
    clear ho
    go_enter Tryz.func125, Tryz.ntmps125
    go_wp2_with (first
      | (go_at_call 129; refine (arity_any _ _).mono ?_; rintro e w' ⟨rfl, rfl⟩; rw [Ho.out])
      | fail)
    go_ret2
    exact ⟨rfl, rfl⟩
theorem push_any (op i : Int) (v : Value) (n base B : Nat) (xs : List (TypeId × Value)) (w : World) {d : Nat} (ho : pushN n op = some d) (hown : w.ownsRow base 161 1 v n (xs.map ifc)) (hn : n ≤ 1000) (hB : B ≤ base) (hb : base ≤ w.heap.size) :
    Calls Tryz.prog 125 #[v, .int .i64 op, .int .i64 i] w (PushPost base d true w B) := by
  unfold pushN at ho
  split at ho
  · cases ho; exact push0 op i v n base B xs w (by assumption) hown hn hB hb
  · split at ho
    · rename_i h; cases ho; exact push1 op i v _ base B xs w h.1 h.2 hown hn hB hb
    · split at ho
      · rename_i h; cases ho; exact push2 op i v n base B xs w h.1 h.2 hown hn hB hb
      · cases ho
end
section
open Go.RowKit

theorem rowN_append (a b : List Int) : ∀ d, rowN (a ++ b) d = (rowN a d).bind (rowN b) := by
  induction a with
  | nil => intro d; rfl
  | cons x a ih => intro d; rw [List.cons_append, rowN, rowN]; cases pushN d x <;> simp [ih]
theorem rowN_snoc (a : List Int) (x : Int) (d : Nat) : rowN (a ++ [x]) d = (rowN a d).bind fun d' => pushN d' x := by
  rw [rowN_append]
  cases rowN a d with
  | none => rfl
  | some d' => simp [rowN]; cases pushN d' x <;> rfl
theorem pushN_le {d op : _} {d' : Nat} (h : pushN d op = some d') : d' ≤ d + 1 := by
  unfold pushN at h
  split at h
  · cases h; omega
  · split at h
    · cases h; omega
    · split at h
      · cases h; omega
      · cases h
def BuiltPost (r : Int) (w : World) (e : Ending) (w' : World) : Prop := ∃ v, e = .returned (.tuple #[v, .int .i64 r]) ∧ Below w.heap.size w w'

set_option maxRecDepth 100000 in
set_option maxHeartbeats 2000000 in
theorem built_any (l : List Item) (v : Value) (S : Nat → Prop) (w : World) (h : (sliceR itemR).one w S v l) (hS : ∀ b, S b → b < w.heap.size) :
    Calls Tryz.prog 110 #[v] w (BuiltPost (checkE (l.map Item.op)) w) := by
  obtain ⟨A, c, rfl, hc, hc2⟩ := slice_form h
  by_cases h0 : l.length = 0
  · have e : checkE (l.map Item.op) = 12 := by unfold checkE; rw [if_pos (by simpa using h0)]
    rw [e, h0]
    go_enter Tryz.func110, Tryz.ntmps110
    go_wp2_with fail
    go_ret2
    exact ⟨_, rfl, Below.refl _ _⟩
  · by_cases h1 : 64 < l.length
    · have e : checkE (l.map Item.op) = 3 := by unfold checkE; rw [if_neg (by simpa using h0), if_pos (by simpa using h1)]
      rw [e]
      have hd : (((l.length : Nat) : Int) == 0) = false := beq_eq_false_iff_ne.2 (by omega)
      have hd2 : decide ((64 : Int) < (l.length : Int)) = true := by simp; omega
      go_enter Tryz.func110, Tryz.ntmps110
      go_wp2_with fail
      go_ret2
      exact ⟨_, rfl, Below.refl _ _⟩
    · obtain ⟨b, o, rfl, hSb, hrow⟩ := slice_some h (by omega)
      have e : checkE (l.map Item.op) = if rowN (l.map Item.op) 0 = some 1 then 0 else 17 := by unfold checkE; rw [if_neg (by simpa using h0), if_neg (by simpa using h1)]
      rw [e]
      clear e
      obtain ⟨R, hR⟩ : ∃ R, R = rowN (l.map Item.op) 0 := ⟨_, rfl⟩
      rw [← hR]
      obtain ⟨E, hE⟩ : ∃ E : Int, E = if R = some 1 then 0 else 17 := ⟨_, rfl⟩
      rw [← hE]
      have HR := hide hR
      have HE := hide hE
      have Hsl := hide h
      clear hR hrow hE h
      have hd : (((l.length : Nat) : Int) == 0) = false := beq_eq_false_iff_ne.2 (by omega)
      have hd2 : decide ((64 : Int) < (l.length : Int)) = false := by simp; omega
      go_enter Tryz.func110, Tryz.ntmps110
      go_wp2_with fail
      go_loopw [4, 19] (fun rv iv wr => ∃ (k d : Nat) (xs : List (TypeId × Value)), k ≤ l.length ∧ d ≤ k ∧ iv = .int .i64 (k : Int) ∧ rowN ((l.take k).map Item.op) 0 = some d ∧ wr.ownsRow w.heap.size 161 1 rv d (xs.map ifc) ∧ Below w.heap.size w wr)
        (fun rv iv wr => l.length - (intOf iv).toNat)
      case atStart => exact ⟨0, 0, [], Nat.zero_le _, Nat.le_refl _, rfl, rfl, World.ownsRow_nil _ _ _ _, Below.refl _ _⟩
      case round =>
        obtain ⟨k, d, xs, hk, hdk, rfl, hrn, hown, hbl⟩ := hrel
        have Hrn := hide hrn
        clear hrn
        by_cases hlt : k < l.length
        · obtain ⟨hcs, hok⟩ := items_at (slice_below Hsl.out hbl hS) hlt
          have hnx := rowN_snoc ((l.take k).map Item.op) l[k].op 0
          rw [Hrn.out] at hnx
          have hall : rowN (l.map Item.op) 0 = (rowN ((l.take k).map Item.op ++ [l[k].op]) 0).bind (rowN ((l.drop (k + 1)).map Item.op)) := by
            rw [← rowN_append, List.append_assoc, List.singleton_append, ← List.map_cons, ← List.drop_eq_getElem_cons hlt, ← List.map_append, List.take_append_drop]
          rw [← HR.out] at hall
          have htk : (l.take (k + 1)).map Item.op = (l.take k).map Item.op ++ [l[k].op] := by
            rw [List.take_succ_eq_append_getElem hlt, List.map_append]; rfl
          have Hnx := hide hnx
          have Hall := hide hall
          have Htk := hide htk
          have Hok := hide hok
          have c0 := hcs 0 _ rfl
          have c1 := hcs 1 _ rfl
          have c2 := hcs 2 _ rfl
          have c3 := hcs 3 _ rfl
          have c4 := hcs 4 _ rfl
          have c5 := hcs 5 _ rfl
          have c6 := hcs 6 _ rfl
          have c7 := hcs 7 _ rfl
          have c8 := hcs 8 _ rfl
          clear hnx hall htk hok hcs
          generalize l[k] = x at *
          obtain ⟨xop, xln, xlv, xrn, xrv, xnm, xus, xli, xco⟩ := x
          simp only [Nat.add_zero] at c0 c1 c2 c3 c4 c5 c6 c7 c8
          have hsz : w.heap.size ≤ wr.heap.size := hbl.size
          cases hp : pushN d xop with
          | none =>
            have Hp := hide hp
            clear hp
            go_wp2_with fail
            refine (pushNo _ _ _ d w.heap.size 0 xs _ Hp.out (hown.alloc _) (by omega) (Nat.zero_le _) (by simp; omega)).mono ?_
            rintro e w' ⟨rfl, rfl⟩
            go_wp2_with fail
            go_ret2
            have e17 : E = 17 := by
              rw [HE.out, Hall.out, Hnx.out]
              simp [Hp.out]
            exact ⟨_, by rw [e17]; rfl, hbl.alloc hsz _⟩
          | some d' =>
            have Hp := hide hp
            clear hp
            go_wp2_with fail
            refine (push_any _ _ _ d w.heap.size w.heap.size xs _ Hp.out (hown.alloc _) (by omega) (Nat.le_refl _) (by simp; omega)).mono ?_
            rintro e w' ⟨v', xs', rfl, hown', hbl'⟩
            have Hown := hide hown
            clear hown
            go_wp2_with fail
            go_roundw
            case rel => exact ⟨k + 1, d', xs', by omega, by have := pushN_le Hp.out; omega, by go_num, by rw [Htk.out, Hnx.out]; exact Hp.out, hown', (hbl.alloc hsz _).trans hbl'⟩
            case measure => simp [intOf]; omega
        · obtain rfl : k = l.length := by omega
          have hf := Hrn.out
          rw [List.take_length, ← HR.out] at hf
          have Hf := hide hf
          clear hf
          obtain ⟨A, c', rfl, hc'⟩ := own_form hown
          cases hd1 : ((d : Int) != 1) with
          | true =>
            have e17 : E = 17 := by
              rw [HE.out, Hf.out, if_neg (by simp at hd1 ⊢; omega)]
            have E17 := hide e17
            clear e17
            go_wp2_with fail
            go_ret2
            exact ⟨_, by rw [E17.out]; rfl, hbl⟩
          | false =>
            obtain rfl : d = 1 := by simp at hd1; omega
            have e0 : E = 0 := by rw [HE.out, Hf.out, if_pos rfl]
            have E0 := hide e0
            clear e0
            have hxl : xs.length = 1 := by have := hown.1; simpa using this
            obtain ⟨x, rfl⟩ : ∃ x, xs = [x] := List.length_eq_one_iff.1 hxl
            obtain ⟨g, c2, hv, hc2', _, _⟩ := own_some hown (by omega)
            cases hv
            have hcell := own_cell hown rfl (j := 0) (u := ifc x) rfl
            clear hown hxl
            go_wp2_with fail
            go_ret2
            exact ⟨_, by rw [E0.out]; rfl, hbl⟩

set_option maxRecDepth 100000 in
theorem check_any (l : List Item) (v : Value) (S : Nat → Prop) (w : World) (h : (sliceR itemR).one w S v l) (hS : ∀ b, S b → b < w.heap.size) :
    Calls Tryz.prog 81 #[v] w fun e w' => e = .returned (.int .i64 (checkE (l.map Item.op))) ∧ Below w.heap.size w w' := by
  have H := hide (built_any l v S w h hS)
  clear h hS
  go_enter Tryz.func81, Tryz.ntmps81
  go_wp2_with (go_at_call 110; refine H.out.mono ?_; rintro e w' ⟨nv, rfl, hb⟩)
  go_ret
  exact ⟨rfl, hb⟩

def itemOf (x : Inst) : Item := ⟨x.op, ⟨#[]⟩, 0, ⟨#[]⟩, 0, ⟨#[]⟩, ⟨#[]⟩, 0, 0⟩
theorem itemOf_op (l : List Inst) : (l.map itemOf).map Item.op = l.map Inst.op := by rw [List.map_map]; rfl
theorem itemInfo : (Tryz.prog.info? 169).map (fun i => (i.zero, i.size, i.bytes)) = some (some (.agg #[.int .i64 0, .string ⟨#[]⟩, .int .i64 0, .string ⟨#[]⟩, .int .i64 0, .string ⟨#[]⟩, .string ⟨#[]⟩, .int .i64 0, .int .i64 0]), 9, 104) := by kernel_rfl
theorem cells_at_new (w : World) (g : Nat) (L : List Value) (t : TypeId) (hg : g = w.heap.size) : ∀ j u, L[j]? = some u → (w.alloc (.cells L.toArray t)).cell? ((⟨g, 0, none⟩ : Addr).add j) = some u := by
  subst hg; exact cells_new w L t
theorem item_one (x : Item) : ∀ u ∈ x.cells, u.oneCell' = true := by
  intro u hu
  simp only [Item.cells, List.mem_cons, List.not_mem_nil, or_false] at hu
  rcases hu with rfl | rfl | rfl | rfl | rfl | rfl | rfl | rfl | rfl <;> rfl

set_option maxRecDepth 100000 in
set_option maxHeartbeats 2000000 in
theorem shape_any (l : List Inst) (v : Value) (S : Nat → Prop) (w : World) (h : (sliceR instR).one w S v l) (hS : ∀ b, S b → b < w.heap.size) (hl : l.length ≤ 1000) :
    Calls Tryz.prog 116 #[v] w fun e w' => ∃ u, e = .returned u ∧ w'.ownsRow w.heap.size 169 9 u l.length ((l.map itemOf).flatMap Item.cells) ∧ Below w.heap.size w w' := by
  obtain ⟨i0, hi0, hz0, hz1, hz2⟩ := info_parts itemInfo
  obtain ⟨A, c, rfl, hc, hc2⟩ := slice_form h
  have Hsl := hide h
  clear h
  go_enter Tryz.func116, Tryz.ntmps116
  go_wp2_with fail
  go_loopw [3, 8] (fun rv iv wr => ∃ (k : Nat), k ≤ l.length ∧ iv = .int .i64 (k : Int) ∧ wr.ownsRow w.heap.size 169 9 rv k (((l.take k).map itemOf).flatMap Item.cells) ∧ Below w.heap.size w wr)
    (fun rv iv wr => l.length - (intOf iv).toNat)
  case atStart => exact ⟨0, Nat.zero_le _, rfl, World.ownsRow_nil _ _ _ _, Below.refl _ _⟩
  case round =>
    obtain ⟨k, hk, rfl, hown, hbl⟩ := hrel
    by_cases hlt : k < l.length
    · have hsl := slice_below Hsl.out hbl hS
      obtain ⟨b, o, hv, _, _⟩ := slice_some hsl (by omega)
      subst hv
      obtain ⟨hcs, hok⟩ := insts_at hsl hlt
      have htk : ((l.take (k + 1)).map itemOf).flatMap Item.cells = ((l.take k).map itemOf).flatMap Item.cells ++ (itemOf l[k]).cells := by
        rw [List.take_succ_eq_append_getElem hlt, List.map_append, List.flatMap_append]; simp
      have Htk := hide htk
      have c0 := hcs 0 _ rfl
      have c1 := hcs 1 _ rfl
      have c2 := hcs 2 _ rfl
      have c3 := hcs 3 _ rfl
      have c4 := hcs 4 _ rfl
      have c5 := hcs 5 _ rfl
      have c6 := hcs 6 _ rfl
      clear htk hok hcs hsl
      generalize l[k] = x at *
      obtain ⟨xop, xla, xln, xra, xrn, xn, xu⟩ := x
      simp only [Nat.add_zero] at c0 c1 c2 c3 c4 c5 c6
      have hsz : w.heap.size ≤ wr.heap.size := hbl.size
      go_wp2_with (at_builtin; refine wpList_append_own _ rfl _ _ 136 rfl w.heap.size 169 i0 (.agg #[.int .i64 0, .string ⟨#[]⟩, .int .i64 0, .string ⟨#[]⟩, .int .i64 0, .string ⟨#[]⟩, .string ⟨#[]⟩, .int .i64 0, .int .i64 0]) 9 104 Tryz.underlying136 hi0 hz0 hz1 hz2 rfl (by decide) _ _ _ rfl ((hown.alloc _).alloc _) ⟨wr.heap.size + 1, 0, none⟩ 1 1 [.int .i64 xop, .string ⟨#[]⟩, .int .i64 0, .string ⟨#[]⟩, .int .i64 0, .string ⟨#[]⟩, .string ⟨#[]⟩, .int .i64 0, .int .i64 0] rfl rfl (cells_at_new _ _ _ _ (by simp)) (item_one (itemOf ⟨xop, 0, 0, 0, 0, 0, 0⟩)) (by unfold maxLen; omega) (by omega) (by simp; omega) ?_; intro v2 w2 hown2 hg2 _)
      have hb2 : Below w.heap.size w w2 := ((hbl.alloc hsz _).alloc (by simp; omega) _).grown hg2 (by simp; omega) (fun j hj => (hown.lt j hj).1)
      have Hown := hide hown
      have Hown2 := hide hown2
      clear hown hown2 hg2
      go_wp2_with fail
      go_roundw
      case rel => exact ⟨k + 1, by omega, by go_num, by rw [Htk.out]; exact Hown2.out, hb2⟩
      case measure => simp [intOf]; omega
    · obtain rfl : k = l.length := by omega
      rw [List.take_length] at hown
      have Hown := hide hown
      clear hown
      go_wp2_with fail
      go_ret
      exact ⟨_, rfl, Hown.out, hbl⟩
end
end Go.Proofs.YtmochnclbcbijaaGreat
