/-
  Parts of the proof: Y3, Y4, Z4, Y5, Y6, Y7, Y8, Y9, AlX.
-/
import Derived.Test.YtfeclebkaambhaaAtt9
set_option linter.unusedVariables false
set_option linter.unusedSimpArgs false
namespace Go.Proofs.Ytfeclebkaambhaa
section
open Go.RowKit
def gapsN (L : List Int) (r : Int) (k : Nat) : List Int := (List.range (k - 1)).map fun i => gapV (L.getD i 0) (L.getD (i + 1) 0) (capV r)
theorem gapsN_snoc (L : List Int) (r : Int) (k : Nat) : gapsN L r (k + 2) = gapsN L r (k + 1) ++ [gapV (L.getD k 0) (L.getD (k + 1) 0) (capV r)] := by
  unfold gapsN
  rw [show k + 2 - 1 = k + 1 by omega, show k + 1 - 1 = k by omega, List.range_succ, List.map_append]
  rfl
def zoneM (vals c : List Int) (r : Int) : Zn := ⟨clsL vals c, gapsN (numsL vals c) r (numsL vals c).length⟩
theorem attrsN_ok (vals : List Int) (n : Int) : ∀ k, ok64 (attrsN vals n k)
  | 0 => by unfold attrsN ok64; omega
  | k + 1 => by
    unfold attrsN
    split
    · exact in31_ok (withB_31 _ _)
    · exact attrsN_ok vals n k
theorem capV_le (r : Int) : capV r ≤ 4294967296 := by
  have h1 : (2 : Nat) ^ (min r.toNat 20) ≤ 2 ^ 20 := Nat.pow_le_pow_right (by omega) (by omega)
  have h2 : ((2 ^ (min r.toNat 20) : Nat) : Int) = (2 : Int) ^ (min r.toNat 20) := by simp
  unfold capV
  omega
set_option maxRecDepth 100000 in
set_option maxHeartbeats 16000000 in
theorem zoneOf_A (vals c : List Int) (r : Int) (h1 : vals.length ≤ 31) (h2 : c.length ≤ 400) (hv : ∀ x ∈ vals, ok64 x) (hc : ∀ x ∈ c, ok64 x) : ADet Try.prog 8 [sI vals, sI c, eI r] ⟨.agg (eZn (zoneM vals c r)), [], 0⟩ := by
  refine ADet.still (R := ⟨.agg [.osl 0, .osl 1], [(0, some (.row 61 2 ((clsL vals c).map eCls))), (1, some (.row 3 1 ((gapsN (numsL vals c) r (numsL vals c).length).map fun n => [eI n])))], 2⟩) [0, 1] ?_ (by simp [Res.frzs, Res.frz, ATab.get_cons, AV.frz, AV.frzL, frzTab, AObj.frz, zoneM]) (by simp [AV.lt, AV.ltL])
  refine adet_of_code mixedT Try.func8 rfl (by decide) Try.ntmps8 Try.results8 rfl (tab_ok (by simp [tabLt, AObj.lt, AV.ltL, AV.lt]) (by simp [AV.lt, AV.ltL])) ?_
  have hS := refSorted_A c (by omega)
  have hN := numbers22_A vals c (by omega) h2
  have hLlen : (numsL vals c).length ≤ 431 := by have := sortR_len (vals ++ c); simp at this; unfold numsL; omega
  have hSlen : (sortR c).length ≤ 400 := by have := sortR_len c; omega
  have hLok : ∀ x ∈ numsL vals c, ok64 x := fun x hx => by
    have := ((sortR_up (vals ++ c)).2 x).1 hx
    rcases List.mem_append.1 this with h | h
    · exact hv x h
    · exact hc x h
  have hcl : ∀ k, (clsL vals c).take k = ((numsL vals c).take k).map (clsOf vals c) := fun k => by unfold clsL; rw [List.map_take]
  have hgt : decide (31 < (vals.length : Int)) = false := by simp only [decide_eq_false_iff_not]; omega
  have hgt2 : decide (31 < vals.length) = false := by simp only [decide_eq_false_iff_not]; omega
  have hcls : clsL vals c = (numsL vals c).map (clsOf vals c) := rfl
  obtain ⟨cf, hcf⟩ : ∃ f, clsOf vals c = f := ⟨_, rfl⟩
  obtain ⟨sc, hsc⟩ : ∃ sc, sortR c = sc := ⟨_, rfl⟩
  obtain ⟨L, hL⟩ : ∃ L, numsL vals c = L := ⟨_, rfl⟩
  rw [hcls, hcf]
  rw [hsc] at hS hSlen
  rw [hL] at hN hLlen hLok ⊢
  have hcfv : ∀ n, cf n = ⟨attrsN vals n vals.length, constN sc n sc.length⟩ := fun n => by rw [← hcf, ← hsc]; rfl
  (repeat' (first | simp (maxSteps := 5000000) (implicitDefEqProofs := false) only [ruA, ruB, aEv, aTake, aLoad, aField, aIndex, aLen, aBin, bin2, aUn, un1, aExtract, aConv, ASt.get, aget, ASt.put, aStore, aBox, aAppend, aBuildSlice, aMake, aBuild, aFill, oneParts, allC, aBinS, yv, aCells, oneC, oneCL, treeC, treeL, aLit, aDst, aSrc, appTab, Value.cells, Value.oneCell', envOf, aResL, aOne, ↓reduceIte, reduceCtorEq, forall_const, Nat.reduceLT, Nat.reduceEqDiff, Nat.reduceAdd, Nat.reduceMul, Nat.reduceSub, Nat.reduceLeDiff, Nat.reduceBEq, eq_self, implies_true, ne_eq, dref, dref1, dref2, aExecS, aStoreB, aTakes, aTakeE, aElder, aFrom, aFresh, isLoad, aBuildSlice1, frzs, frz1, ownIds, AV.frz, AV.frzL, frzEnv, AV.shift, AV.shiftL, aFieldV, aSliceW, aSliceO, aSlice, aSliceR, aSliceS, aBd, aMax, frzAVs, frzAV, frzTab, AObj.frz, aMM, aNilS, aMay, tyA_34, tyS_34, tyZ_34, tyE_23, tyK_23, tyK_3, tyB_61, tyZ_61, tyS_61, tyA_2, tyS_2, tyK_2, tyF_61_0, tyA_3, tyS_3, tyF_61_1, tyF_34_1, tyA_24, tyS_24, tyR_24, tyF_34_0, tyA_32, tyS_32, tyA_61, tyR_32, hgt, hgt2] | (with_reducible refine aIf_split (fun _ => ?_) (fun _ => ?_)) | (with_reducible refine aSel_split (fun _ => ?_) (fun _ => ?_)) | (with_reducible refine aGd_split (fun _ => ?_) (fun _ => ?_)) | (with_reducible refine aDraw_quiet (by kernel_rfl) ?_) | ((with_reducible apply callT); exact (hS); exact (.inl (by simp [roL, roA, treeL, treeC]))) | ((with_reducible apply callT); exact (hN); exact (.inl (by simp [roL, roA, treeL, treeC])))))
  refine aLoop_of (fun st => ∃ k : Nat, k ≤ L.length ∧ st = ⟨94, [(0, sI vals), (2, eI r), (6, .op 0 0 0), (7, sI sc), (8, sI L), (9, .op 1 0 0), (10, eI (k : Int))], [(0, some (.box 34 [.c (.slice none 0 0), .c (.slice none 0 0)])), (1, some (.box 34 [.osl 2, .osl 3])), (2, some (.row 61 2 ((L.take k).map fun n => eCls (cf n)))), (3, some (.row 3 1 ((gapsN L r k).map fun n => [eI n])))], 4⟩) (fun st => L.length - slotN st 10)
    ⟨_, ((weak_nilbox 1 0 61 2 (t := 34) (cells := [.c (.slice none 0 0), .c (.slice none 0 0)]) (by simp [ATab.get_cons]) rfl).trans ((weak_nilbox 1 1 3 1 (t := 34) (cells := [.osl 2, .c (.slice none 0 0)]) (by simp [ATab.get_cons]) rfl).trans (weak_cut1 (by (first | ((simp only [envIn, tabIn, envLt, tabLt, AObj.lt, AV.lt, AV.ltL, ruW, ASt.get, aget, ASt.put, ↓reduceIte, reduceCtorEq, Nat.reduceLT, Nat.reduceEqDiff, Nat.reduceAdd, Nat.reduceLeDiff, eq_self, implies_true, List.set_cons_zero, List.set_cons_succ, List.take_zero, List.map_nil, gapsN, List.range_zero, Nat.zero_sub]) <;> (repeat' apply And.intro) <;> first | (rw [wrapK (by omega)]; done) | (simp; done) | omega) | fail))))), 0, Nat.zero_le _, rfl⟩ ?_
  rintro _ ⟨k, hk, rfl⟩
  by_cases hlt : k < L.length
  · obtain ⟨n, hn⟩ : ∃ n, L[k] = n := ⟨_, rfl⟩
    (repeat' (first | simp (maxSteps := 5000000) (implicitDefEqProofs := false) only [ruA, ruB, aEv, aTake, aLoad, aField, aIndex, aLen, aBin, bin2, aUn, un1, aExtract, aConv, ASt.get, aget, ASt.put, aStore, aBox, aAppend, aBuildSlice, aMake, aBuild, aFill, oneParts, allC, aBinS, yv, aCells, oneC, oneCL, treeC, treeL, aLit, aDst, aSrc, appTab, Value.cells, Value.oneCell', envOf, aResL, aOne, ↓reduceIte, reduceCtorEq, forall_const, Nat.reduceLT, Nat.reduceEqDiff, Nat.reduceAdd, Nat.reduceMul, Nat.reduceSub, Nat.reduceLeDiff, Nat.reduceBEq, eq_self, implies_true, ne_eq, dref, dref1, dref2, aExecS, aStoreB, aTakes, aTakeE, aElder, aFrom, aFresh, isLoad, aBuildSlice1, frzs, frz1, ownIds, AV.frz, AV.frzL, frzEnv, AV.shift, AV.shiftL, aFieldV, aSliceW, aSliceO, aSlice, aSliceR, aSliceS, aBd, aMax, frzAVs, frzAV, frzTab, AObj.frz, aMM, aNilS, aMay, tyA_34, tyS_34, tyZ_34, tyE_23, tyK_23, tyK_3, tyB_61, tyZ_61, tyS_61, tyA_2, tyS_2, tyK_2, tyF_61_0, tyA_3, tyS_3, tyF_61_1, tyF_34_1, tyA_24, tyS_24, tyR_24, tyF_34_0, tyA_32, tyS_32, tyA_61, tyR_32, hlt] | (with_reducible refine aIf_split (fun _ => ?_) (fun _ => ?_)) | (with_reducible refine aSel_split (fun _ => ?_) (fun _ => ?_)) | (with_reducible refine aGd_split (fun _ => ?_) (fun _ => ?_)) | (with_reducible refine aDraw_quiet (by kernel_rfl) ?_)))
    refine aLoop_of (fun st => ∃ i : Nat, i ≤ vals.length ∧ st = ⟨94, [(0, sI vals), (2, eI r), (6, .op 0 0 0), (7, sI sc), (8, sI L), (9, .op 1 0 0), (10, eI (k : Int)), (11, .op 4 0 0), (12, eI (i : Int))], [(0, some (.box 34 [.c (.slice none 0 0), .c (.slice none 0 0)])), (1, some (.box 34 [.osl 2, .osl 3])), (2, some (.row 61 2 ((L.take k).map fun n => eCls (cf n)))), (3, some (.row 3 1 ((gapsN L r k).map fun n => [eI n]))), (4, some (.box 61 [eI (attrsN vals n i), eI (-1)]))], 5⟩) (fun st => vals.length - slotN st 12) ⟨_, (weak_cut1 (by (first | ((simp only [envIn, tabIn, envLt, tabLt, AObj.lt, AV.lt, AV.ltL, ruW, ASt.get, aget, ASt.put, ↓reduceIte, reduceCtorEq, Nat.reduceLT, Nat.reduceEqDiff, Nat.reduceAdd, Nat.reduceLeDiff, eq_self, implies_true, attrsN]) <;> (repeat' apply And.intro) <;> first | (rw [wrapK (by omega)]; done) | (simp; done) | omega) | fail))), 0, Nat.zero_le _, rfl⟩ ?_
    rintro _ ⟨i, hi, rfl⟩
    by_cases hi2 : i < vals.length
    · have hP := put_A (attrsN vals n i) (i : Int) true (attrsN_ok vals n i) (by omega) (by omega)
      by_cases he : vals[i] = n
      · have hev : (vals[i] == n) = true := by simpa using he
        have hst : attrsN vals n (i + 1) = withB (attrsN vals n i) (i : Int) := by
          rw [attrsN, if_pos (by rw [List.getD_eq_getElem?_getD, List.getElem?_eq_getElem hi2]; exact he)]
        (repeat' (first | simp (maxSteps := 5000000) (implicitDefEqProofs := false) only [ruA, ruB, aEv, aTake, aLoad, aField, aIndex, aLen, aBin, bin2, aUn, un1, aExtract, aConv, ASt.get, aget, ASt.put, aStore, aBox, aAppend, aBuildSlice, aMake, aBuild, aFill, oneParts, allC, aBinS, yv, aCells, oneC, oneCL, treeC, treeL, aLit, aDst, aSrc, appTab, Value.cells, Value.oneCell', envOf, aResL, aOne, ↓reduceIte, reduceCtorEq, forall_const, Nat.reduceLT, Nat.reduceEqDiff, Nat.reduceAdd, Nat.reduceMul, Nat.reduceSub, Nat.reduceLeDiff, Nat.reduceBEq, eq_self, implies_true, ne_eq, dref, dref1, dref2, aExecS, aStoreB, aTakes, aTakeE, aElder, aFrom, aFresh, isLoad, aBuildSlice1, frzs, frz1, ownIds, AV.frz, AV.frzL, frzEnv, AV.shift, AV.shiftL, aFieldV, aSliceW, aSliceO, aSlice, aSliceR, aSliceS, aBd, aMax, frzAVs, frzAV, frzTab, AObj.frz, aMM, aNilS, aMay, tyA_34, tyS_34, tyZ_34, tyE_23, tyK_23, tyK_3, tyB_61, tyZ_61, tyS_61, tyA_2, tyS_2, tyK_2, tyF_61_0, tyA_3, tyS_3, tyF_61_1, tyF_34_1, tyA_24, tyS_24, tyR_24, tyF_34_0, tyA_32, tyS_32, tyA_61, tyR_32, row_at, hi2, hlt, hn, hev] | (with_reducible refine aIf_split (fun _ => ?_) (fun _ => ?_)) | (with_reducible refine aSel_split (fun _ => ?_) (fun _ => ?_)) | (with_reducible refine aGd_split (fun _ => ?_) (fun _ => ?_)) | (with_reducible refine aDraw_quiet (by kernel_rfl) ?_) | ((with_reducible apply callV); exact (hP)) | ((with_reducible apply callD); exact (hP))))
        all_goals exact roundI (weak_cut1 (by (first | ((simp only [envIn, tabIn, envLt, tabLt, AObj.lt, AV.lt, AV.ltL, ruW, ASt.get, aget, ASt.put, ↓reduceIte, reduceCtorEq, Nat.reduceLT, Nat.reduceEqDiff, Nat.reduceAdd, Nat.reduceLeDiff, eq_self, implies_true, hst]) <;> (repeat' apply And.intro) <;> first | (rw [wrapK (by omega)]; done) | (simp; done) | omega) | fail))) ⟨i + 1, by omega, rfl⟩ (by simp only [slotN, ruW, ASt.get, aget, ASt.put, ↓reduceIte, reduceCtorEq, Nat.reduceLT, Nat.reduceEqDiff, Nat.reduceAdd, Nat.reduceLeDiff, eq_self, implies_true]; omega)
      · have hev : (vals[i] == n) = false := by simpa using he
        have hst : attrsN vals n (i + 1) = attrsN vals n i := by
          rw [attrsN, if_neg (by rw [List.getD_eq_getElem?_getD, List.getElem?_eq_getElem hi2]; exact he)]
        (repeat' (first | simp (maxSteps := 5000000) (implicitDefEqProofs := false) only [ruA, ruB, aEv, aTake, aLoad, aField, aIndex, aLen, aBin, bin2, aUn, un1, aExtract, aConv, ASt.get, aget, ASt.put, aStore, aBox, aAppend, aBuildSlice, aMake, aBuild, aFill, oneParts, allC, aBinS, yv, aCells, oneC, oneCL, treeC, treeL, aLit, aDst, aSrc, appTab, Value.cells, Value.oneCell', envOf, aResL, aOne, ↓reduceIte, reduceCtorEq, forall_const, Nat.reduceLT, Nat.reduceEqDiff, Nat.reduceAdd, Nat.reduceMul, Nat.reduceSub, Nat.reduceLeDiff, Nat.reduceBEq, eq_self, implies_true, ne_eq, dref, dref1, dref2, aExecS, aStoreB, aTakes, aTakeE, aElder, aFrom, aFresh, isLoad, aBuildSlice1, frzs, frz1, ownIds, AV.frz, AV.frzL, frzEnv, AV.shift, AV.shiftL, aFieldV, aSliceW, aSliceO, aSlice, aSliceR, aSliceS, aBd, aMax, frzAVs, frzAV, frzTab, AObj.frz, aMM, aNilS, aMay, tyA_34, tyS_34, tyZ_34, tyE_23, tyK_23, tyK_3, tyB_61, tyZ_61, tyS_61, tyA_2, tyS_2, tyK_2, tyF_61_0, tyA_3, tyS_3, tyF_61_1, tyF_34_1, tyA_24, tyS_24, tyR_24, tyF_34_0, tyA_32, tyS_32, tyA_61, tyR_32, row_at, hi2, hlt, hn, hev] | (with_reducible refine aIf_split (fun _ => ?_) (fun _ => ?_)) | (with_reducible refine aSel_split (fun _ => ?_) (fun _ => ?_)) | (with_reducible refine aGd_split (fun _ => ?_) (fun _ => ?_)) | (with_reducible refine aDraw_quiet (by kernel_rfl) ?_)))
        all_goals exact roundI (weak_cut1 (by (first | ((simp only [envIn, tabIn, envLt, tabLt, AObj.lt, AV.lt, AV.ltL, ruW, ASt.get, aget, ASt.put, ↓reduceIte, reduceCtorEq, Nat.reduceLT, Nat.reduceEqDiff, Nat.reduceAdd, Nat.reduceLeDiff, eq_self, implies_true, hst]) <;> (repeat' apply And.intro) <;> first | (rw [wrapK (by omega)]; done) | (simp; done) | omega) | fail))) ⟨i + 1, by omega, rfl⟩ (by simp only [slotN, ruW, ASt.get, aget, ASt.put, ↓reduceIte, reduceCtorEq, Nat.reduceLT, Nat.reduceEqDiff, Nat.reduceAdd, Nat.reduceLeDiff, eq_self, implies_true]; omega)
    · obtain rfl : i = vals.length := by omega
      obtain ⟨A, hA⟩ : ∃ A, attrsN vals n vals.length = A := ⟨_, rfl⟩
      rw [hA]
      (repeat' (first | simp (maxSteps := 5000000) (implicitDefEqProofs := false) only [ruA, ruB, aEv, aTake, aLoad, aField, aIndex, aLen, aBin, bin2, aUn, un1, aExtract, aConv, ASt.get, aget, ASt.put, aStore, aBox, aAppend, aBuildSlice, aMake, aBuild, aFill, oneParts, allC, aBinS, yv, aCells, oneC, oneCL, treeC, treeL, aLit, aDst, aSrc, appTab, Value.cells, Value.oneCell', envOf, aResL, aOne, ↓reduceIte, reduceCtorEq, forall_const, Nat.reduceLT, Nat.reduceEqDiff, Nat.reduceAdd, Nat.reduceMul, Nat.reduceSub, Nat.reduceLeDiff, Nat.reduceBEq, eq_self, implies_true, ne_eq, dref, dref1, dref2, aExecS, aStoreB, aTakes, aTakeE, aElder, aFrom, aFresh, isLoad, aBuildSlice1, frzs, frz1, ownIds, AV.frz, AV.frzL, frzEnv, AV.shift, AV.shiftL, aFieldV, aSliceW, aSliceO, aSlice, aSliceR, aSliceS, aBd, aMax, frzAVs, frzAV, frzTab, AObj.frz, aMM, aNilS, aMay, tyA_34, tyS_34, tyZ_34, tyE_23, tyK_23, tyK_3, tyB_61, tyZ_61, tyS_61, tyA_2, tyS_2, tyK_2, tyF_61_0, tyA_3, tyS_3, tyF_61_1, tyF_34_1, tyA_24, tyS_24, tyR_24, tyF_34_0, tyA_32, tyS_32, tyA_61, tyR_32, hi2] | (with_reducible refine aIf_split (fun _ => ?_) (fun _ => ?_)) | (with_reducible refine aSel_split (fun _ => ?_) (fun _ => ?_)) | (with_reducible refine aGd_split (fun _ => ?_) (fun _ => ?_)) | (with_reducible refine aDraw_quiet (by kernel_rfl) ?_)))
      refine aLoop_of (fun st => ∃ i : Nat, i ≤ sc.length ∧ st = ⟨94, [(0, sI vals), (2, eI r), (6, .op 0 0 0), (7, sI sc), (8, sI L), (9, .op 1 0 0), (10, eI (k : Int)), (11, .op 4 0 0), (13, eI (i : Int))], [(0, some (.box 34 [.c (.slice none 0 0), .c (.slice none 0 0)])), (1, some (.box 34 [.osl 2, .osl 3])), (2, some (.row 61 2 ((L.take k).map fun n => eCls (cf n)))), (3, some (.row 3 1 ((gapsN L r k).map fun n => [eI n]))), (4, some (.box 61 [eI A, eI (constN sc n i)]))], 5⟩) (fun st => sc.length - slotN st 13) ⟨_, (weak_cut1 (by (first | ((simp only [envIn, tabIn, envLt, tabLt, AObj.lt, AV.lt, AV.ltL, ruW, ASt.get, aget, ASt.put, ↓reduceIte, reduceCtorEq, Nat.reduceLT, Nat.reduceEqDiff, Nat.reduceAdd, Nat.reduceLeDiff, eq_self, implies_true, constN]) <;> (repeat' apply And.intro) <;> first | (rw [wrapK (by omega)]; done) | (simp; done) | omega) | fail))), 0, Nat.zero_le _, rfl⟩ ?_
      rintro _ ⟨i, hi, rfl⟩
      by_cases hi3 : i < sc.length
      · by_cases he : sc[i] = n
        · have hev : (sc[i] == n) = true := by simpa using he
          have hst : constN sc n (i + 1) = (i : Int) := by
            rw [constN, if_pos (by rw [List.getD_eq_getElem?_getD, List.getElem?_eq_getElem hi3]; exact he)]
          (repeat' (first | simp (maxSteps := 5000000) (implicitDefEqProofs := false) only [ruA, ruB, aEv, aTake, aLoad, aField, aIndex, aLen, aBin, bin2, aUn, un1, aExtract, aConv, ASt.get, aget, ASt.put, aStore, aBox, aAppend, aBuildSlice, aMake, aBuild, aFill, oneParts, allC, aBinS, yv, aCells, oneC, oneCL, treeC, treeL, aLit, aDst, aSrc, appTab, Value.cells, Value.oneCell', envOf, aResL, aOne, ↓reduceIte, reduceCtorEq, forall_const, Nat.reduceLT, Nat.reduceEqDiff, Nat.reduceAdd, Nat.reduceMul, Nat.reduceSub, Nat.reduceLeDiff, Nat.reduceBEq, eq_self, implies_true, ne_eq, dref, dref1, dref2, aExecS, aStoreB, aTakes, aTakeE, aElder, aFrom, aFresh, isLoad, aBuildSlice1, frzs, frz1, ownIds, AV.frz, AV.frzL, frzEnv, AV.shift, AV.shiftL, aFieldV, aSliceW, aSliceO, aSlice, aSliceR, aSliceS, aBd, aMax, frzAVs, frzAV, frzTab, AObj.frz, aMM, aNilS, aMay, tyA_34, tyS_34, tyZ_34, tyE_23, tyK_23, tyK_3, tyB_61, tyZ_61, tyS_61, tyA_2, tyS_2, tyK_2, tyF_61_0, tyA_3, tyS_3, tyF_61_1, tyF_34_1, tyA_24, tyS_24, tyR_24, tyF_34_0, tyA_32, tyS_32, tyA_61, tyR_32, row_at, hi3, hlt, hn, hev] | (with_reducible refine aIf_split (fun _ => ?_) (fun _ => ?_)) | (with_reducible refine aSel_split (fun _ => ?_) (fun _ => ?_)) | (with_reducible refine aGd_split (fun _ => ?_) (fun _ => ?_)) | (with_reducible refine aDraw_quiet (by kernel_rfl) ?_)))
          all_goals exact roundI (weak_cut1 (by (first | ((simp only [envIn, tabIn, envLt, tabLt, AObj.lt, AV.lt, AV.ltL, ruW, ASt.get, aget, ASt.put, ↓reduceIte, reduceCtorEq, Nat.reduceLT, Nat.reduceEqDiff, Nat.reduceAdd, Nat.reduceLeDiff, eq_self, implies_true, hst]) <;> (repeat' apply And.intro) <;> first | (rw [wrapK (by omega)]; done) | (simp; done) | omega) | fail))) ⟨i + 1, by omega, rfl⟩ (by simp only [slotN, ruW, ASt.get, aget, ASt.put, ↓reduceIte, reduceCtorEq, Nat.reduceLT, Nat.reduceEqDiff, Nat.reduceAdd, Nat.reduceLeDiff, eq_self, implies_true]; omega)
        · have hev : (sc[i] == n) = false := by simpa using he
          have hst : constN sc n (i + 1) = constN sc n i := by
            rw [constN, if_neg (by rw [List.getD_eq_getElem?_getD, List.getElem?_eq_getElem hi3]; exact he)]
          (repeat' (first | simp (maxSteps := 5000000) (implicitDefEqProofs := false) only [ruA, ruB, aEv, aTake, aLoad, aField, aIndex, aLen, aBin, bin2, aUn, un1, aExtract, aConv, ASt.get, aget, ASt.put, aStore, aBox, aAppend, aBuildSlice, aMake, aBuild, aFill, oneParts, allC, aBinS, yv, aCells, oneC, oneCL, treeC, treeL, aLit, aDst, aSrc, appTab, Value.cells, Value.oneCell', envOf, aResL, aOne, ↓reduceIte, reduceCtorEq, forall_const, Nat.reduceLT, Nat.reduceEqDiff, Nat.reduceAdd, Nat.reduceMul, Nat.reduceSub, Nat.reduceLeDiff, Nat.reduceBEq, eq_self, implies_true, ne_eq, dref, dref1, dref2, aExecS, aStoreB, aTakes, aTakeE, aElder, aFrom, aFresh, isLoad, aBuildSlice1, frzs, frz1, ownIds, AV.frz, AV.frzL, frzEnv, AV.shift, AV.shiftL, aFieldV, aSliceW, aSliceO, aSlice, aSliceR, aSliceS, aBd, aMax, frzAVs, frzAV, frzTab, AObj.frz, aMM, aNilS, aMay, tyA_34, tyS_34, tyZ_34, tyE_23, tyK_23, tyK_3, tyB_61, tyZ_61, tyS_61, tyA_2, tyS_2, tyK_2, tyF_61_0, tyA_3, tyS_3, tyF_61_1, tyF_34_1, tyA_24, tyS_24, tyR_24, tyF_34_0, tyA_32, tyS_32, tyA_61, tyR_32, row_at, hi3, hlt, hn, hev] | (with_reducible refine aIf_split (fun _ => ?_) (fun _ => ?_)) | (with_reducible refine aSel_split (fun _ => ?_) (fun _ => ?_)) | (with_reducible refine aGd_split (fun _ => ?_) (fun _ => ?_)) | (with_reducible refine aDraw_quiet (by kernel_rfl) ?_)))
          all_goals exact roundI (weak_cut1 (by (first | ((simp only [envIn, tabIn, envLt, tabLt, AObj.lt, AV.lt, AV.ltL, ruW, ASt.get, aget, ASt.put, ↓reduceIte, reduceCtorEq, Nat.reduceLT, Nat.reduceEqDiff, Nat.reduceAdd, Nat.reduceLeDiff, eq_self, implies_true, hst]) <;> (repeat' apply And.intro) <;> first | (rw [wrapK (by omega)]; done) | (simp; done) | omega) | fail))) ⟨i + 1, by omega, rfl⟩ (by simp only [slotN, ruW, ASt.get, aget, ASt.put, ↓reduceIte, reduceCtorEq, Nat.reduceLT, Nat.reduceEqDiff, Nat.reduceAdd, Nat.reduceLeDiff, eq_self, implies_true]; omega)
      · obtain rfl : i = sc.length := by omega
        have hx : cf n = ⟨A, constN sc n sc.length⟩ := by rw [hcfv, hA]
        have hsn : (L.take (k + 1)).map (fun n => eCls (cf n)) = (L.take k).map (fun n => eCls (cf n)) ++ [[eI A, eI (constN sc n sc.length)]] := by rw [take_snoc _ L hlt, hn, hx]
        have htl : (L.take k).length ≤ 431 := by rw [List.length_take]; omega
        obtain ⟨C, hC⟩ : ∃ C, constN sc n sc.length = C := ⟨_, rfl⟩
        rw [hC] at hsn ⊢
        cases k with
        | zero =>
          have hg : gapsN L r (0 + 1) = gapsN L r 0 := rfl
          have d1 : decide (0 < ((0 : Nat) : Int)) = false := by decide
          have d2 : decide (0 < 0) = false := by decide
          (repeat' (first | simp (maxSteps := 5000000) (implicitDefEqProofs := false) only [ruA, ruB, aEv, aTake, aLoad, aField, aIndex, aLen, aBin, bin2, aUn, un1, aExtract, aConv, ASt.get, aget, ASt.put, aStore, aBox, aAppend, aBuildSlice, aMake, aBuild, aFill, oneParts, allC, aBinS, yv, aCells, oneC, oneCL, treeC, treeL, aLit, aDst, aSrc, appTab, Value.cells, Value.oneCell', envOf, aResL, aOne, ↓reduceIte, reduceCtorEq, forall_const, Nat.reduceLT, Nat.reduceEqDiff, Nat.reduceAdd, Nat.reduceMul, Nat.reduceSub, Nat.reduceLeDiff, Nat.reduceBEq, eq_self, implies_true, ne_eq, dref, dref1, dref2, aExecS, aStoreB, aTakes, aTakeE, aElder, aFrom, aFresh, isLoad, aBuildSlice1, frzs, frz1, ownIds, AV.frz, AV.frzL, frzEnv, AV.shift, AV.shiftL, aFieldV, aSliceW, aSliceO, aSlice, aSliceR, aSliceS, aBd, aMax, frzAVs, frzAV, frzTab, AObj.frz, aMM, aNilS, aMay, tyA_34, tyS_34, tyZ_34, tyE_23, tyK_23, tyK_3, tyB_61, tyZ_61, tyS_61, tyA_2, tyS_2, tyK_2, tyF_61_0, tyA_3, tyS_3, tyF_61_1, tyF_34_1, tyA_24, tyS_24, tyR_24, tyF_34_0, tyA_32, tyS_32, tyA_61, tyR_32, hi3, d1, d2] | (with_reducible refine aIf_split (fun _ => ?_) (fun _ => ?_)) | (with_reducible refine aSel_split (fun _ => ?_) (fun _ => ?_)) | (with_reducible refine aGd_split (fun _ => ?_) (fun _ => ?_)) | (with_reducible refine aDraw_quiet (by kernel_rfl) ?_) | (with_reducible apply And.intro)))
          all_goals first
            | rfl
            | omega
            | (simp; omega)
            | exact roundI (weak_ren1 [0, 1, 6, 3] ⟨(by decide), (by (first | ((simp only [envInR, tabInR, envLt, tabLt, AObj.lt, AV.lt, AV.ltL, AV.ren, AV.renL, AObj.ren, List.getD_cons_zero, List.getD_cons_succ, List.length_cons, List.length_nil, ruW, ASt.get, aget, ASt.put, ↓reduceIte, reduceCtorEq, Nat.reduceLT, Nat.reduceEqDiff, Nat.reduceAdd, Nat.reduceLeDiff, eq_self, implies_true, hsn, hg]) <;> (repeat' apply And.intro) <;> first | (rw [wrapK (by omega)]; done) | (simp; done) | omega) | fail))⟩) ⟨0 + 1, by omega, rfl⟩ (by simp only [slotN, ruW, ASt.get, aget, ASt.put, ↓reduceIte, reduceCtorEq, Nat.reduceLT, Nat.reduceEqDiff, Nat.reduceAdd, Nat.reduceLeDiff, eq_self, implies_true]; omega)
            | trace_state
        | succ k =>
          have hk0 : k < L.length := by omega
          have hgs := gapsN_snoc L r k
          have e0 : L.getD k 0 = L[k] := by rw [List.getD_eq_getElem?_getD, List.getElem?_eq_getElem hk0]; rfl
          have e1 : L.getD (k + 1) 0 = n := by rw [List.getD_eq_getElem?_getD, List.getElem?_eq_getElem hlt]; exact hn
          rw [e0, e1] at hgs
          have hgl : (gapsN L r (k + 1)).length ≤ 431 := by simp [gapsN]; omega
          have hG := gap_A L[k] n (capV r) (hLok _ (List.getElem_mem hk0)) (hn ▸ hLok _ (List.getElem_mem hlt)) (capV_le r)
          have hCp := cap_A r
          have ek : IntKind.i64.wrap (((k + 1 : Nat) : Int) - 1) = (k : Int) := by rw [wrap_in (by omega) (by omega)]; omega
          have d1 : decide (0 < ((k + 1 : Nat) : Int)) = true := by simp only [decide_eq_true_eq]; omega
          have d2 : decide (0 < k + 1) = true := by simp
          have hgm : (gapsN L r (k + 2)).map (fun n => [eI n]) = (gapsN L r (k + 1)).map (fun n => [eI n]) ++ [[eI (gapV L[k] n (capV r))]] := by rw [hgs]; simp
          (repeat' (first | simp (maxSteps := 5000000) (implicitDefEqProofs := false) only [ruA, ruB, aEv, aTake, aLoad, aField, aIndex, aLen, aBin, bin2, aUn, un1, aExtract, aConv, ASt.get, aget, ASt.put, aStore, aBox, aAppend, aBuildSlice, aMake, aBuild, aFill, oneParts, allC, aBinS, yv, aCells, oneC, oneCL, treeC, treeL, aLit, aDst, aSrc, appTab, Value.cells, Value.oneCell', envOf, aResL, aOne, ↓reduceIte, reduceCtorEq, forall_const, Nat.reduceLT, Nat.reduceEqDiff, Nat.reduceAdd, Nat.reduceMul, Nat.reduceSub, Nat.reduceLeDiff, Nat.reduceBEq, eq_self, implies_true, ne_eq, dref, dref1, dref2, aExecS, aStoreB, aTakes, aTakeE, aElder, aFrom, aFresh, isLoad, aBuildSlice1, frzs, frz1, ownIds, AV.frz, AV.frzL, frzEnv, AV.shift, AV.shiftL, aFieldV, aSliceW, aSliceO, aSlice, aSliceR, aSliceS, aBd, aMax, frzAVs, frzAV, frzTab, AObj.frz, aMM, aNilS, aMay, tyA_34, tyS_34, tyZ_34, tyE_23, tyK_23, tyK_3, tyB_61, tyZ_61, tyS_61, tyA_2, tyS_2, tyK_2, tyF_61_0, tyA_3, tyS_3, tyF_61_1, tyF_34_1, tyA_24, tyS_24, tyR_24, tyF_34_0, tyA_32, tyS_32, tyA_61, tyR_32, hi3, d1, d2] | (with_reducible refine aIf_split (fun _ => ?_) (fun _ => ?_)) | (with_reducible refine aSel_split (fun _ => ?_) (fun _ => ?_)) | (with_reducible refine aGd_split (fun _ => ?_) (fun _ => ?_))))
          refine aDraw_held [1, 3] [0, 2, 3, 4, 5, 6, 7, 8, 9, 10, 11] (.two 1 (.exec 12 (.exec 13 (.exec 14 (.exec 15 (.take 16 (.exec 17 .done)))))) 12 (.two 1 (.exec 13 (.exec 14 (.exec 15 (.take 16 (.exec 17 .done))))) 13 (.two 1 (.exec 14 (.exec 15 (.take 16 (.exec 17 .done)))) 14 (.exec 1 (.exec 15 (.take 16 (.exec 17 .done))))))) (by kernel_rfl) (by simp [ATab.get_cons]) ?_
          (repeat' (first | simp (maxSteps := 5000000) (implicitDefEqProofs := false) only [ruA, ruB, aEv, aTake, aLoad, aField, aIndex, aLen, aBin, bin2, aUn, un1, aExtract, aConv, ASt.get, aget, ASt.put, aStore, aBox, aAppend, aBuildSlice, aMake, aBuild, aFill, oneParts, allC, aBinS, yv, aCells, oneC, oneCL, treeC, treeL, aLit, aDst, aSrc, appTab, Value.cells, Value.oneCell', envOf, aResL, aOne, ↓reduceIte, reduceCtorEq, forall_const, Nat.reduceLT, Nat.reduceEqDiff, Nat.reduceAdd, Nat.reduceMul, Nat.reduceSub, Nat.reduceLeDiff, Nat.reduceBEq, eq_self, implies_true, ne_eq, dref, dref1, dref2, aExecS, aStoreB, aTakes, aTakeE, aElder, aFrom, aFresh, isLoad, aBuildSlice1, frzs, frz1, ownIds, AV.frz, AV.frzL, frzEnv, AV.shift, AV.shiftL, aFieldV, aSliceW, aSliceO, aSlice, aSliceR, aSliceS, aBd, aMax, frzAVs, frzAV, frzTab, AObj.frz, aMM, aNilS, aMay, tyA_34, tyS_34, tyZ_34, tyE_23, tyK_23, tyK_3, tyB_61, tyZ_61, tyS_61, tyA_2, tyS_2, tyK_2, tyF_61_0, tyA_3, tyS_3, tyF_61_1, tyF_34_1, tyA_24, tyS_24, tyR_24, tyF_34_0, tyA_32, tyS_32, tyA_61, tyR_32, row_at, hlt, hk0, hn, ek] | (with_reducible refine aIf_split (fun _ => ?_) (fun _ => ?_)) | (with_reducible refine aSel_split (fun _ => ?_) (fun _ => ?_)) | (with_reducible refine aGd_split (fun _ => ?_) (fun _ => ?_)) | (with_reducible refine aDraw_quiet (by kernel_rfl) ?_) | ((with_reducible apply callV); exact (hCp)) | ((with_reducible apply callD); exact (hCp)) | ((with_reducible apply callV); exact (hG)) | ((with_reducible apply callD); exact (hG)) | (with_reducible apply And.intro)))
          all_goals first
            | rfl
            | omega
            | (simp; omega)
            | exact roundI (weak_ren1 [0, 1, 8, 6] ⟨(by decide), (by (first | ((simp only [envInR, tabInR, envLt, tabLt, AObj.lt, AV.lt, AV.ltL, AV.ren, AV.renL, AObj.ren, List.getD_cons_zero, List.getD_cons_succ, List.length_cons, List.length_nil, ruW, ASt.get, aget, ASt.put, ↓reduceIte, reduceCtorEq, Nat.reduceLT, Nat.reduceEqDiff, Nat.reduceAdd, Nat.reduceLeDiff, eq_self, implies_true, hsn, hgm]) <;> (repeat' apply And.intro) <;> first | (rw [wrapK (by omega)]; done) | (simp; done) | omega) | fail))⟩) ⟨k + 1 + 1, by omega, rfl⟩ (by simp only [slotN, ruW, ASt.get, aget, ASt.put, ↓reduceIte, reduceCtorEq, Nat.reduceLT, Nat.reduceEqDiff, Nat.reduceAdd, Nat.reduceLeDiff, eq_self, implies_true]; omega)
            | trace_state
  · obtain rfl : k = L.length := by omega
    (repeat' (first | simp (maxSteps := 5000000) (implicitDefEqProofs := false) only [ruA, ruB, aEv, aTake, aLoad, aField, aIndex, aLen, aBin, bin2, aUn, un1, aExtract, aConv, ASt.get, aget, ASt.put, aStore, aBox, aAppend, aBuildSlice, aMake, aBuild, aFill, oneParts, allC, aBinS, yv, aCells, oneC, oneCL, treeC, treeL, aLit, aDst, aSrc, appTab, Value.cells, Value.oneCell', envOf, aResL, aOne, ↓reduceIte, reduceCtorEq, forall_const, Nat.reduceLT, Nat.reduceEqDiff, Nat.reduceAdd, Nat.reduceMul, Nat.reduceSub, Nat.reduceLeDiff, Nat.reduceBEq, eq_self, implies_true, ne_eq, dref, dref1, dref2, aExecS, aStoreB, aTakes, aTakeE, aElder, aFrom, aFresh, isLoad, aBuildSlice1, frzs, frz1, ownIds, AV.frz, AV.frzL, frzEnv, AV.shift, AV.shiftL, aFieldV, aSliceW, aSliceO, aSlice, aSliceR, aSliceS, aBd, aMax, frzAVs, frzAV, frzTab, AObj.frz, aMM, aNilS, aMay, tyA_34, tyS_34, tyZ_34, tyE_23, tyK_23, tyK_3, tyB_61, tyZ_61, tyS_61, tyA_2, tyS_2, tyK_2, tyF_61_0, tyA_3, tyS_3, tyF_61_1, tyF_34_1, tyA_24, tyS_24, tyR_24, tyF_34_0, tyA_32, tyS_32, tyA_61, tyR_32, hlt, List.take_length] | (with_reducible refine aIf_split (fun _ => ?_) (fun _ => ?_)) | (with_reducible refine aSel_split (fun _ => ?_) (fun _ => ?_)) | (with_reducible refine aGd_split (fun _ => ?_) (fun _ => ?_)) | (with_reducible refine aDraw_quiet (by kernel_rfl) ?_)))
    exact ⟨[2, 3], by decide, rfl, by simp [aTabs, ATab.get_cons]⟩
end
section
open Go.RowKit
theorem numsOf_ok (l : List Inst) (h : ∀ x ∈ l, x.ok) : ∀ n ∈ numsOf l, ok64 n := fun n hn => by
  obtain ⟨x, hx, hm⟩ := List.mem_flatMap.1 hn
  have hxo := h x hx
  unfold numsAt at hm
  split at hm
  · rcases List.mem_append.1 hm with hm | hm
    · split at hm
      · simp at hm
        rw [hm]
        exact hxo.2.2.1
      · cases hm
    · split at hm
      · simp at hm
        rw [hm]
        exact hxo.2.2.2.2.1
      · cases hm
  · cases hm
end
section
open Go.RowKit
structure Nd where
  z : Zn
  opn : Int
  don : Int
  did : List Int
  cnt : List Int
abbrev eNd (n : Nd) : List AV := [.sl 2 (n.z.cls.map eCls), sI n.z.gaps, eI n.opn, eI n.don, sI n.did, sI n.cnt]
def statM (n : Nd) : St := ⟨[], n.opn, n.don, n.did, n.cnt⟩
noncomputable def atM (m : Mod) (c : List Int) (n : Nd) (x : Inst) : Bool := (askedM m (statM n) x).getD (optB (zholdsO [x] n.z c (statM n)))
set_option maxRecDepth 100000 in
set_option maxHeartbeats 8000000 in
theorem at_A33 (m : Mod) (c : List Int) (n : Nd) (x : Inst) (hl : m.events.length ≤ 1000000) (hl2 : m.users.length ≤ 1000000) (hl3 : m.miles.length ≤ 1000000) (hl4 : m.sods.length ≤ 1000000) (hx : x.ok) (h1 : n.z.cls.length ≤ 1000000) (h2 : c.length ≤ 1000000) (h3 : n.did.length ≤ 1000000) (h4 : n.cnt.length ≤ 1000000) :
    ADet Try.prog 15 [.agg (eMod m), sI c, .agg (eNd n), .agg (eInst x)] (val (.bool (atM m c n x))) := by
  refine adet_of_code mixedT Try.func15 rfl (by decide) Try.ntmps15 Try.results15 rfl (val_ok _) ?_
  have hS := status_A (n.z.cls.map eCls) (n.z.gaps.map fun n => [eI n]) n.opn n.don n.did n.cnt h3 h4
  have hA := asked_A m (statM n) x hl hl2 hl3 hl4
  have hA2 := hA.fits (args := [.agg (eMod m), .agg [.c (.slice none 0 0), eI n.opn, eI n.don, sI n.did, sI n.cnt], .agg (eInst x)]) ⟨.one (.refl _), .agg ⟨.nil 1, .refl _, .refl _, .refl _, .refl _, trivial⟩, .one (.refl _), trivial⟩
  cases ha : askedM m (statM n) x with
  | some b =>
    rw [ha] at hA2
    have hv : atM m c n x = b := by unfold atM; rw [ha]; rfl
    rw [hv]
    (repeat' (first | simp (maxSteps := 5000000) (implicitDefEqProofs := false) only [ruA, ruB, aEv, aTake, aLoad, aField, aIndex, aLen, aBin, bin2, aUn, un1, aExtract, aConv, ASt.get, aget, ASt.put, aStore, aBox, aAppend, aBuildSlice, aMake, aBuild, aFill, oneParts, allC, aBinS, yv, aCells, oneC, oneCL, treeC, treeL, aLit, aDst, aSrc, appTab, Value.cells, Value.oneCell', envOf, aResL, aOne, ↓reduceIte, reduceCtorEq, forall_const, Nat.reduceLT, Nat.reduceEqDiff, Nat.reduceAdd, Nat.reduceMul, Nat.reduceSub, Nat.reduceLeDiff, Nat.reduceBEq, eq_self, implies_true, ne_eq, dref, dref1, dref2, aExecS, aStoreB, aTakes, aTakeE, aElder, aFrom, aFresh, isLoad, aBuildSlice1, frzs, frz1, ownIds, AV.frz, AV.frzL, frzEnv, AV.shift, AV.shiftL, aFieldV, aSliceW, aSliceO, aSlice, aSliceR, aSliceS, aBd, aMax, frzAVs, frzAV, frzTab, AObj.frz, aMM, aNilS, aMay, tyA_58, tyS_58, tyZ_26, tyS_26, tyA_47, tyS_47, tyA_26, tyA_51, tyS_51, tyR_22, tyF_58_0, tyA_34, tyS_34, Option.isSome_some] | (with_reducible refine aIf_split (fun _ => ?_) (fun _ => ?_)) | (with_reducible refine aSel_split (fun _ => ?_) (fun _ => ?_)) | (with_reducible refine aGd_split (fun _ => ?_) (fun _ => ?_)) | (with_reducible refine aDraw_quiet (by kernel_rfl) ?_) | ((with_reducible apply callT); exact (hS); exact (.inl (by simp [roL, roA, treeL, treeC]))) | ((with_reducible apply callT); exact (hA2); exact (.inl (by simp [roL, roA, treeL, treeC])))))
    all_goals rfl
  | none =>
    rw [ha] at hA2
    have hv : atM m c n x = optB (zholdsO [x] n.z c (statM n)) := by unfold atM; rw [ha]; rfl
    rw [hv]
    have hZ := zholds_A [x] n.z c (statM n) (by simp) (by simpa using hx) h1 h2
    have hZ2 := hZ.fits (args := [sInsts [x], .agg (eZn n.z), sI c, .agg [.c (.slice none 0 0), eI n.opn, eI n.don, sI n.did, sI n.cnt]]) ⟨.one (.refl _), .one (.refl _), .one (.refl _), .agg ⟨.nil 1, .refl _, .refl _, .refl _, .refl _, trivial⟩, trivial⟩
    (repeat' (first | simp (maxSteps := 5000000) (implicitDefEqProofs := false) only [ruA, ruB, aEv, aTake, aLoad, aField, aIndex, aLen, aBin, bin2, aUn, un1, aExtract, aConv, ASt.get, aget, ASt.put, aStore, aBox, aAppend, aBuildSlice, aMake, aBuild, aFill, oneParts, allC, aBinS, yv, aCells, oneC, oneCL, treeC, treeL, aLit, aDst, aSrc, appTab, Value.cells, Value.oneCell', envOf, aResL, aOne, ↓reduceIte, reduceCtorEq, forall_const, Nat.reduceLT, Nat.reduceEqDiff, Nat.reduceAdd, Nat.reduceMul, Nat.reduceSub, Nat.reduceLeDiff, Nat.reduceBEq, eq_self, implies_true, ne_eq, dref, dref1, dref2, aExecS, aStoreB, aTakes, aTakeE, aElder, aFrom, aFresh, isLoad, aBuildSlice1, frzs, frz1, ownIds, AV.frz, AV.frzL, frzEnv, AV.shift, AV.shiftL, aFieldV, aSliceW, aSliceO, aSlice, aSliceR, aSliceS, aBd, aMax, frzAVs, frzAV, frzTab, AObj.frz, aMM, aNilS, aMay, tyA_58, tyS_58, tyZ_26, tyS_26, tyA_47, tyS_47, tyA_26, tyA_51, tyS_51, tyR_22, tyF_58_0, tyA_34, tyS_34, Option.isSome_none] | (with_reducible refine aIf_split (fun _ => ?_) (fun _ => ?_)) | (with_reducible refine aSel_split (fun _ => ?_) (fun _ => ?_)) | (with_reducible refine aGd_split (fun _ => ?_) (fun _ => ?_)) | (with_reducible refine aDraw_quiet (by kernel_rfl) ?_) | ((with_reducible apply callT); exact (hS); exact (.inl (by simp [roL, roA, treeL, treeC]))) | ((with_reducible apply callT); exact (hA2); exact (.inl (by simp [roL, roA, treeL, treeC])))))
    refine ⟨rfl, ?_⟩
    refine callZ [4] (R := ⟨.tup [eB (optB (zholdsO [x] n.z c (statM n))), eI (optE (zholdsO [x] n.z c (statM n)))], [], 0⟩) ?_ ?_ ?_
    · simp (maxSteps := 5000000) (implicitDefEqProofs := false) only [ruA, ruB, aEv, aTake, aLoad, aField, aIndex, aLen, aBin, bin2, aUn, un1, aExtract, aConv, ASt.get, aget, ASt.put, aStore, aBox, aAppend, aBuildSlice, aMake, aBuild, aFill, oneParts, allC, aBinS, yv, aCells, oneC, oneCL, treeC, treeL, aLit, aDst, aSrc, appTab, Value.cells, Value.oneCell', envOf, aResL, aOne, ↓reduceIte, reduceCtorEq, forall_const, Nat.reduceLT, Nat.reduceEqDiff, Nat.reduceAdd, Nat.reduceMul, Nat.reduceSub, Nat.reduceLeDiff, Nat.reduceBEq, eq_self, implies_true, ne_eq, dref, dref1, dref2, aExecS, aStoreB, aTakes, aTakeE, aElder, aFrom, aFresh, isLoad, aBuildSlice1, frzs, frz1, ownIds, AV.frz, AV.frzL, frzEnv, AV.shift, AV.shiftL, aFieldV, aSliceW, aSliceO, aSlice, aSliceR, aSliceS, aBd, aMax, frzAVs, frzAV, frzTab, AObj.frz, aMM, aNilS, aMay, tyA_58, tyS_58, tyZ_26, tyS_26, tyA_47, tyS_47, tyA_26, tyA_51, tyS_51, tyR_22, tyF_58_0, tyA_34, tyS_34]
      exact hZ2
    · simp (maxSteps := 5000000) (implicitDefEqProofs := false) only [ruA, ruB, aEv, aTake, aLoad, aField, aIndex, aLen, aBin, bin2, aUn, un1, aExtract, aConv, ASt.get, aget, ASt.put, aStore, aBox, aAppend, aBuildSlice, aMake, aBuild, aFill, oneParts, allC, aBinS, yv, aCells, oneC, oneCL, treeC, treeL, aLit, aDst, aSrc, appTab, Value.cells, Value.oneCell', envOf, aResL, aOne, ↓reduceIte, reduceCtorEq, forall_const, Nat.reduceLT, Nat.reduceEqDiff, Nat.reduceAdd, Nat.reduceMul, Nat.reduceSub, Nat.reduceLeDiff, Nat.reduceBEq, eq_self, implies_true, ne_eq, dref, dref1, dref2, aExecS, aStoreB, aTakes, aTakeE, aElder, aFrom, aFresh, isLoad, aBuildSlice1, frzs, frz1, ownIds, AV.frz, AV.frzL, frzEnv, AV.shift, AV.shiftL, aFieldV, aSliceW, aSliceO, aSlice, aSliceR, aSliceS, aBd, aMax, frzAVs, frzAV, frzTab, AObj.frz, aMM, aNilS, aMay, tyA_58, tyS_58, tyZ_26, tyS_26, tyA_47, tyS_47, tyA_26, tyA_51, tyS_51, tyR_22, tyF_58_0, tyA_34, tyS_34]
      left
      simp [roL, roA, treeL, treeC]
    · (repeat' (first | simp (maxSteps := 5000000) (implicitDefEqProofs := false) only [ruA, ruB, aEv, aTake, aLoad, aField, aIndex, aLen, aBin, bin2, aUn, un1, aExtract, aConv, ASt.get, aget, ASt.put, aStore, aBox, aAppend, aBuildSlice, aMake, aBuild, aFill, oneParts, allC, aBinS, yv, aCells, oneC, oneCL, treeC, treeL, aLit, aDst, aSrc, appTab, Value.cells, Value.oneCell', envOf, aResL, aOne, ↓reduceIte, reduceCtorEq, forall_const, Nat.reduceLT, Nat.reduceEqDiff, Nat.reduceAdd, Nat.reduceMul, Nat.reduceSub, Nat.reduceLeDiff, Nat.reduceBEq, eq_self, implies_true, ne_eq, dref, dref1, dref2, aExecS, aStoreB, aTakes, aTakeE, aElder, aFrom, aFresh, isLoad, aBuildSlice1, frzs, frz1, ownIds, AV.frz, AV.frzL, frzEnv, AV.shift, AV.shiftL, aFieldV, aSliceW, aSliceO, aSlice, aSliceR, aSliceS, aBd, aMax, frzAVs, frzAV, frzTab, AObj.frz, aMM, aNilS, aMay, tyA_58, tyS_58, tyZ_26, tyS_26, tyA_47, tyS_47, tyA_26, tyA_51, tyS_51, tyR_22, tyF_58_0, tyA_34, tyS_34] | (with_reducible refine aIf_split (fun _ => ?_) (fun _ => ?_)) | (with_reducible refine aSel_split (fun _ => ?_) (fun _ => ?_)) | (with_reducible refine aGd_split (fun _ => ?_) (fun _ => ?_)) | (with_reducible refine aDraw_quiet (by kernel_rfl) ?_)))
end
section
open Go.RowKit
theorem asked_vals (m : Mod) (s : St) (x : Inst) : askedM m ⟨[], s.opn, s.don, s.did, s.cnt⟩ x = askedM m s x := rfl
theorem atM_true (m : Mod) (c : List Int) (s : St) (x : Inst) (n : Nd) (hn : n = ⟨n.z, s.opn, s.don, s.did, s.cnt⟩) (hz : n.z.cls = clsL s.vals c) (hv : s.vals.length ≤ 31) (hN : Nums [x] c) : atM m c n x = onM m s x := by
  unfold atM onM
  have h1 : statM n = ⟨[], s.opn, s.don, s.did, s.cnt⟩ := by rw [hn]; rfl
  rw [h1, asked_vals]
  have h2 : zholdsO [x] n.z c ⟨[], s.opn, s.don, s.did, s.cnt⟩ = zholdsO [x] n.z c s := rfl
  rw [h2, zone_true n.z c s [x] hz hv hN]
end
section
open Go.RowKit
set_option maxRecDepth 100000 in
set_option maxHeartbeats 8000000 in
theorem wild_A (m : Mod) (hle : m.events.length ≤ 9223372036854775807) : ARel Try.prog 10 [.agg (eMod m)] fun R => ∃ b, R = val (.bool b) ∧ (b = false → Fit m ∧ ∀ e ∈ m.events, e.times ≤ 10 ∧ e.sets.length ≤ 10) := by
  refine arel_of_code mixedT Try.func10 rfl (by decide) Try.ntmps10 Try.results10 rfl ?_
  (repeat' (first | simp (maxSteps := 5000000) (implicitDefEqProofs := false) only [ruA, ruB, aEv, aTake, aLoad, aField, aIndex, aLen, aBin, bin2, aUn, un1, aExtract, aConv, ASt.get, aget, ASt.put, aStore, aBox, aAppend, aBuildSlice, aMake, aBuild, aFill, oneParts, allC, aBinS, yv, aCells, oneC, oneCL, treeC, treeL, aLit, aDst, aSrc, appTab, Value.cells, Value.oneCell', envOf, aResL, aOne, ↓reduceIte, reduceCtorEq, forall_const, Nat.reduceLT, Nat.reduceEqDiff, Nat.reduceAdd, Nat.reduceMul, Nat.reduceSub, Nat.reduceLeDiff, Nat.reduceBEq, eq_self, implies_true, ne_eq, dref, dref1, dref2, aExecS, aStoreB, aTakes, aTakeE, aElder, aFrom, aFresh, isLoad, aBuildSlice1, frzs, frz1, ownIds, AV.frz, AV.frzL, frzEnv, AV.shift, AV.shiftL, aFieldV, aSliceW, aSliceO, aSlice, aSliceR, aSliceS, aBd, aMax, frzAVs, frzAV, frzTab, AObj.frz, aMM, aNilS, aMay, tyF_47_5, tyA_41, tyS_41, tyE_41, tyK_41, tyK_3, tyF_76_4, tyA_3, tyS_3, tyF_76_3, tyA_24, tyS_24, tyE_24, tyK_24, tyA_47, tyS_47] | (with_reducible refine aIf_split (fun _ => ?_) (fun _ => ?_)) | (with_reducible refine aSel_split (fun _ => ?_) (fun _ => ?_)) | (with_reducible refine aGd_split (fun _ => ?_) (fun _ => ?_))))
  refine aLoop_of (fun st => ∃ k : Nat, k ≤ m.events.length ∧ (∀ i (h : i < m.events.length), i < k → m.events[i].times ≤ 10 ∧ m.events[i].sets.length ≤ 10) ∧ st = ⟨30, [(1, .op 0 0 0), (3, eI (k : Int))], [(0, some (.box 47 (eMod m)))], 1⟩) (fun st => m.events.length - slotN st 3) ⟨_, (weak_cut1 (by (first | ((simp only [envIn, tabIn, envLt, tabLt, AObj.lt, AV.lt, AV.ltL, ruW, ASt.get, aget, ASt.put, ↓reduceIte, reduceCtorEq, Nat.reduceLT, Nat.reduceEqDiff, Nat.reduceAdd, Nat.reduceLeDiff, eq_self, implies_true]) <;> (repeat' apply And.intro) <;> first | (rw [wrapK (by omega)]; done) | (simp; done) | omega) | fail))), 0, Nat.zero_le _, by simp, rfl⟩ ?_
  rintro _ ⟨k, hk, hI, rfl⟩
  by_cases hlt : k < m.events.length
  · obtain ⟨e, he⟩ : ∃ e, m.events[k] = e := ⟨_, rfl⟩
    have ew : IntKind.i64.wrap ((k : Int) + 1) = ((k + 1 : Nat) : Int) := by rw [wrap_in (by omega) (by omega)]; omega
    by_cases h1 : e.times ≤ 10
    · have d1 : decide (10 < e.times) = false := by simp only [decide_eq_false_iff_not]; omega
      by_cases h2 : e.sets.length ≤ 10
      · have d2 : decide (10 < (e.sets.length : Int)) = false := by simp only [decide_eq_false_iff_not]; omega
        have d3 : decide (10 < e.sets.length) = false := by simp only [decide_eq_false_iff_not]; omega
        (repeat' (first | simp (maxSteps := 5000000) (implicitDefEqProofs := false) only [ruA, ruB, aEv, aTake, aLoad, aField, aIndex, aLen, aBin, bin2, aUn, un1, aExtract, aConv, ASt.get, aget, ASt.put, aStore, aBox, aAppend, aBuildSlice, aMake, aBuild, aFill, oneParts, allC, aBinS, yv, aCells, oneC, oneCL, treeC, treeL, aLit, aDst, aSrc, appTab, Value.cells, Value.oneCell', envOf, aResL, aOne, ↓reduceIte, reduceCtorEq, forall_const, Nat.reduceLT, Nat.reduceEqDiff, Nat.reduceAdd, Nat.reduceMul, Nat.reduceSub, Nat.reduceLeDiff, Nat.reduceBEq, eq_self, implies_true, ne_eq, dref, dref1, dref2, aExecS, aStoreB, aTakes, aTakeE, aElder, aFrom, aFresh, isLoad, aBuildSlice1, frzs, frz1, ownIds, AV.frz, AV.frzL, frzEnv, AV.shift, AV.shiftL, aFieldV, aSliceW, aSliceO, aSlice, aSliceR, aSliceS, aBd, aMax, frzAVs, frzAV, frzTab, AObj.frz, aMM, aNilS, aMay, tyF_47_5, tyA_41, tyS_41, tyE_41, tyK_41, tyK_3, tyF_76_4, tyA_3, tyS_3, tyF_76_3, tyA_24, tyS_24, tyE_24, tyK_24, tyA_47, tyS_47, row_at, hlt, he, d1, d2, d3] | (with_reducible refine aIf_split (fun _ => ?_) (fun _ => ?_)) | (with_reducible refine aSel_split (fun _ => ?_) (fun _ => ?_)) | (with_reducible refine aGd_split (fun _ => ?_) (fun _ => ?_)) | (with_reducible refine aDraw_quiet (by kernel_rfl) ?_)))
        refine roundI (weak_cut1 (by (first | ((simp only [envIn, tabIn, envLt, tabLt, AObj.lt, AV.lt, AV.ltL, ruW, ASt.get, aget, ASt.put, ↓reduceIte, reduceCtorEq, Nat.reduceLT, Nat.reduceEqDiff, Nat.reduceAdd, Nat.reduceLeDiff, eq_self, implies_true, ew]) <;> (repeat' apply And.intro) <;> first | (rw [wrapK (by omega)]; done) | (simp; done) | omega) | fail))) ⟨k + 1, by omega, fun i hi hik => ?_, rfl⟩ (by simp only [slotN, ruW, ASt.get, aget, ASt.put, ↓reduceIte, reduceCtorEq, Nat.reduceLT, Nat.reduceEqDiff, Nat.reduceAdd, Nat.reduceLeDiff, eq_self, implies_true]; omega)
        rcases Nat.lt_or_ge i k with h | h
        · exact hI i hi h
        · obtain rfl : i = k := by omega
          rw [he]
          exact ⟨h1, h2⟩
      · have d2 : decide (10 < (e.sets.length : Int)) = true := by simp only [decide_eq_true_eq]; omega
        have d3 : decide (10 < e.sets.length) = true := by simp only [decide_eq_true_eq]; omega
        (repeat' (first | simp (maxSteps := 5000000) (implicitDefEqProofs := false) only [ruA, ruB, aEv, aTake, aLoad, aField, aIndex, aLen, aBin, bin2, aUn, un1, aExtract, aConv, ASt.get, aget, ASt.put, aStore, aBox, aAppend, aBuildSlice, aMake, aBuild, aFill, oneParts, allC, aBinS, yv, aCells, oneC, oneCL, treeC, treeL, aLit, aDst, aSrc, appTab, Value.cells, Value.oneCell', envOf, aResL, aOne, ↓reduceIte, reduceCtorEq, forall_const, Nat.reduceLT, Nat.reduceEqDiff, Nat.reduceAdd, Nat.reduceMul, Nat.reduceSub, Nat.reduceLeDiff, Nat.reduceBEq, eq_self, implies_true, ne_eq, dref, dref1, dref2, aExecS, aStoreB, aTakes, aTakeE, aElder, aFrom, aFresh, isLoad, aBuildSlice1, frzs, frz1, ownIds, AV.frz, AV.frzL, frzEnv, AV.shift, AV.shiftL, aFieldV, aSliceW, aSliceO, aSlice, aSliceR, aSliceS, aBd, aMax, frzAVs, frzAV, frzTab, AObj.frz, aMM, aNilS, aMay, tyF_47_5, tyA_41, tyS_41, tyE_41, tyK_41, tyK_3, tyF_76_4, tyA_3, tyS_3, tyF_76_3, tyA_24, tyS_24, tyE_24, tyK_24, tyA_47, tyS_47, row_at, hlt, he, d1, d2, d3] | (with_reducible refine aIf_split (fun _ => ?_) (fun _ => ?_)) | (with_reducible refine aSel_split (fun _ => ?_) (fun _ => ?_)) | (with_reducible refine aGd_split (fun _ => ?_) (fun _ => ?_)) | (with_reducible refine aDraw_quiet (by kernel_rfl) ?_)))
        exact retV ⟨true, rfl, by simp⟩
    · have d1 : decide (10 < e.times) = true := by simp only [decide_eq_true_eq]; omega
      (repeat' (first | simp (maxSteps := 5000000) (implicitDefEqProofs := false) only [ruA, ruB, aEv, aTake, aLoad, aField, aIndex, aLen, aBin, bin2, aUn, un1, aExtract, aConv, ASt.get, aget, ASt.put, aStore, aBox, aAppend, aBuildSlice, aMake, aBuild, aFill, oneParts, allC, aBinS, yv, aCells, oneC, oneCL, treeC, treeL, aLit, aDst, aSrc, appTab, Value.cells, Value.oneCell', envOf, aResL, aOne, ↓reduceIte, reduceCtorEq, forall_const, Nat.reduceLT, Nat.reduceEqDiff, Nat.reduceAdd, Nat.reduceMul, Nat.reduceSub, Nat.reduceLeDiff, Nat.reduceBEq, eq_self, implies_true, ne_eq, dref, dref1, dref2, aExecS, aStoreB, aTakes, aTakeE, aElder, aFrom, aFresh, isLoad, aBuildSlice1, frzs, frz1, ownIds, AV.frz, AV.frzL, frzEnv, AV.shift, AV.shiftL, aFieldV, aSliceW, aSliceO, aSlice, aSliceR, aSliceS, aBd, aMax, frzAVs, frzAV, frzTab, AObj.frz, aMM, aNilS, aMay, tyF_47_5, tyA_41, tyS_41, tyE_41, tyK_41, tyK_3, tyF_76_4, tyA_3, tyS_3, tyF_76_3, tyA_24, tyS_24, tyE_24, tyK_24, tyA_47, tyS_47, row_at, hlt, he, d1] | (with_reducible refine aIf_split (fun _ => ?_) (fun _ => ?_)) | (with_reducible refine aSel_split (fun _ => ?_) (fun _ => ?_)) | (with_reducible refine aGd_split (fun _ => ?_) (fun _ => ?_)) | (with_reducible refine aDraw_quiet (by kernel_rfl) ?_)))
      exact retV ⟨true, rfl, by simp⟩
  · obtain rfl : k = m.events.length := by omega
    (repeat' (first | simp (maxSteps := 5000000) (implicitDefEqProofs := false) only [ruA, ruB, aEv, aTake, aLoad, aField, aIndex, aLen, aBin, bin2, aUn, un1, aExtract, aConv, ASt.get, aget, ASt.put, aStore, aBox, aAppend, aBuildSlice, aMake, aBuild, aFill, oneParts, allC, aBinS, yv, aCells, oneC, oneCL, treeC, treeL, aLit, aDst, aSrc, appTab, Value.cells, Value.oneCell', envOf, aResL, aOne, ↓reduceIte, reduceCtorEq, forall_const, Nat.reduceLT, Nat.reduceEqDiff, Nat.reduceAdd, Nat.reduceMul, Nat.reduceSub, Nat.reduceLeDiff, Nat.reduceBEq, eq_self, implies_true, ne_eq, dref, dref1, dref2, aExecS, aStoreB, aTakes, aTakeE, aElder, aFrom, aFresh, isLoad, aBuildSlice1, frzs, frz1, ownIds, AV.frz, AV.frzL, frzEnv, AV.shift, AV.shiftL, aFieldV, aSliceW, aSliceO, aSlice, aSliceR, aSliceS, aBd, aMax, frzAVs, frzAV, frzTab, AObj.frz, aMM, aNilS, aMay, tyF_47_5, tyA_41, tyS_41, tyE_41, tyK_41, tyK_3, tyF_76_4, tyA_3, tyS_3, tyF_76_3, tyA_24, tyS_24, tyE_24, tyK_24, tyA_47, tyS_47, hlt] | (with_reducible refine aIf_split (fun _ => ?_) (fun _ => ?_)) | (with_reducible refine aSel_split (fun _ => ?_) (fun _ => ?_)) | (with_reducible refine aGd_split (fun _ => ?_) (fun _ => ?_))))
    refine callPB (great12_A m) fun b hb => ?_
    (repeat' (first | simp (maxSteps := 5000000) (implicitDefEqProofs := false) only [ruA, ruB, aEv, aTake, aLoad, aField, aIndex, aLen, aBin, bin2, aUn, un1, aExtract, aConv, ASt.get, aget, ASt.put, aStore, aBox, aAppend, aBuildSlice, aMake, aBuild, aFill, oneParts, allC, aBinS, yv, aCells, oneC, oneCL, treeC, treeL, aLit, aDst, aSrc, appTab, Value.cells, Value.oneCell', envOf, aResL, aOne, ↓reduceIte, reduceCtorEq, forall_const, Nat.reduceLT, Nat.reduceEqDiff, Nat.reduceAdd, Nat.reduceMul, Nat.reduceSub, Nat.reduceLeDiff, Nat.reduceBEq, eq_self, implies_true, ne_eq, dref, dref1, dref2, aExecS, aStoreB, aTakes, aTakeE, aElder, aFrom, aFresh, isLoad, aBuildSlice1, frzs, frz1, ownIds, AV.frz, AV.frzL, frzEnv, AV.shift, AV.shiftL, aFieldV, aSliceW, aSliceO, aSlice, aSliceR, aSliceS, aBd, aMax, frzAVs, frzAV, frzTab, AObj.frz, aMM, aNilS, aMay, tyF_47_5, tyA_41, tyS_41, tyE_41, tyK_41, tyK_3, tyF_76_4, tyA_3, tyS_3, tyF_76_3, tyA_24, tyS_24, tyE_24, tyK_24, tyA_47, tyS_47] | (with_reducible refine aIf_split (fun _ => ?_) (fun _ => ?_)) | (with_reducible refine aSel_split (fun _ => ?_) (fun _ => ?_)) | (with_reducible refine aGd_split (fun _ => ?_) (fun _ => ?_))))
    refine retV ⟨b, rfl, fun h => ⟨hb h, fun e he => ?_⟩⟩
    obtain ⟨i, hi, rfl⟩ := List.getElem_of_mem he
    exact hI i hi hi
end
section
open Go.RowKit
def condN (l : List Inst) : List Int := sortR (numsOf l)
def constsM (m : Mod) (p : List Inst) : List Int := sortR ((condN p ++ m.guards.flatMap fun g => condN g.cond) ++ m.miles.flatMap fun g => condN g.cond)
theorem condN_len (l : List Inst) (h : l.length ≤ 400) : (condN l).length ≤ 800 := by
  have h1 := sortR_len (numsOf l)
  have h2 := numsOf_len l
  unfold condN
  omega
theorem flatN_len {α : Type} (f : α → List Int) : ∀ l : List α, (∀ x ∈ l, (f x).length ≤ 800) → (l.flatMap f).length ≤ 800 * l.length
  | [], _ => by simp
  | x :: l, h => by
    have h1 := h x (List.mem_cons_self ..)
    have h2 := flatN_len f l fun y hy => h y (List.mem_cons_of_mem _ hy)
    simp only [List.flatMap_cons, List.length_append, List.length_cons]
    omega
theorem flatN_snoc {α : Type} (f : α → List Int) (l : List α) {k : Nat} (h : k < l.length) : (l.take (k + 1)).flatMap f = (l.take k).flatMap f ++ f l[k] := by
  rw [List.take_succ_eq_append_getElem h, List.flatMap_append]
  simp
end
section
open Go.RowKit
def wasN (c : List Int) (i : Nat) : Int := if i < c.length ∧ 0 < c.getD i 0 then c.getD i 0 else 0
def evN (m : Mod) (c : List Int) (k : Nat) : Int := (max 0 ((m.events[k]?.map (·.times)).getD 0 - wasN c k)).toNat * (((m.events[k]?.map (·.sets.length)).getD 0 : Nat) : Int)
def leftN (m : Mod) (c : List Int) : Nat → Int
  | 0 => 0
  | k + 1 => leftN m c k + evN m c k
theorem wasN_pos (c : List Int) (i : Nat) : 0 ≤ wasN c i := by
  unfold wasN
  split <;> omega
set_option maxRecDepth 100000 in
set_option maxHeartbeats 8000000 in
theorem left15_A (m : Mod) (c : List Int) (he : m.events.length ≤ 10) (hm : ∀ e ∈ m.events, e.times ≤ 10 ∧ e.sets.length ≤ 10) (hc : c.length ≤ 1000000) : ADet Try.prog 33 [.agg (eMod m), sI c] (val (.int .i64 (leftN m c m.events.length))) := by
  refine adet_of_code mixedT Try.func33 rfl (by decide) Try.ntmps33 Try.results33 rfl (val_ok _) ?_
  (repeat' (first | simp (maxSteps := 5000000) (implicitDefEqProofs := false) only [ruA, ruB, aEv, aTake, aLoad, aField, aIndex, aLen, aBin, bin2, aUn, un1, aExtract, aConv, ASt.get, aget, ASt.put, aStore, aBox, aAppend, aBuildSlice, aMake, aBuild, aFill, oneParts, allC, aBinS, yv, aCells, oneC, oneCL, treeC, treeL, aLit, aDst, aSrc, appTab, Value.cells, Value.oneCell', envOf, aResL, aOne, ↓reduceIte, reduceCtorEq, forall_const, Nat.reduceLT, Nat.reduceEqDiff, Nat.reduceAdd, Nat.reduceMul, Nat.reduceSub, Nat.reduceLeDiff, Nat.reduceBEq, eq_self, implies_true, ne_eq, dref, dref1, dref2, aExecS, aStoreB, aTakes, aTakeE, aElder, aFrom, aFresh, isLoad, aBuildSlice1, frzs, frz1, ownIds, AV.frz, AV.frzL, frzEnv, AV.shift, AV.shiftL, aFieldV, aSliceW, aSliceO, aSlice, aSliceR, aSliceS, aBd, aMax, frzAVs, frzAV, frzTab, AObj.frz, aMM, aNilS, aMay, tyF_47_5, tyA_41, tyS_41, tyE_41, tyK_41, tyK_3, tyE_24, tyK_24, tyA_3, tyS_3, tyF_76_4, tyF_76_3, tyA_24, tyS_24] | (with_reducible refine aIf_split (fun _ => ?_) (fun _ => ?_)) | (with_reducible refine aSel_split (fun _ => ?_) (fun _ => ?_)) | (with_reducible refine aGd_split (fun _ => ?_) (fun _ => ?_))))
  refine aLoop_of (fun st => ∃ (k : Nat) (n : Int), k ≤ m.events.length ∧ n = leftN m c k ∧ 0 ≤ n ∧ n ≤ 100 * k ∧ st = ⟨50, [(1, sI c), (2, .op 0 0 0), (5, eI n), (6, eI (k : Int))], [(0, some (.box 47 (eMod m)))], 1⟩) (fun st => m.events.length - slotN st 6) ⟨_, (weak_cut1 (by (first | ((simp only [envIn, tabIn, envLt, tabLt, AObj.lt, AV.lt, AV.ltL, ruW, ASt.get, aget, ASt.put, ↓reduceIte, reduceCtorEq, Nat.reduceLT, Nat.reduceEqDiff, Nat.reduceAdd, Nat.reduceLeDiff, eq_self, implies_true]) <;> (repeat' apply And.intro) <;> first | (rw [wrapK (by omega)]; done) | (simp; done) | omega) | fail))), 0, 0, Nat.zero_le _, rfl, by omega, by omega, rfl⟩ ?_
  rintro _ ⟨k, n, hk, hn, hn0, hn1, rfl⟩
  by_cases hlt : k < m.events.length
  · obtain ⟨e, hev⟩ : ∃ e, m.events[k] = e := ⟨_, rfl⟩
    obtain ⟨ht, hs⟩ := hm e (hev ▸ List.getElem_mem hlt)
    have hw0 := wasN_pos c k
    have hE : evN m c k = (max 0 (e.times - wasN c k)).toNat * (e.sets.length : Int) := by
      unfold evN
      rw [List.getElem?_eq_getElem hlt, hev]
      rfl
    obtain ⟨w, hw⟩ : ∃ w, wasN c k = w := ⟨_, rfl⟩
    rw [hw] at hE hw0
    obtain ⟨J, hJ⟩ : ∃ J, (max 0 (e.times - w)).toNat = J := ⟨_, rfl⟩
    rw [hJ] at hE
    have hJ10 : J ≤ 10 := by omega
    obtain ⟨S, hS⟩ : ∃ S, e.sets.length = S := ⟨_, rfl⟩
    rw [hS] at hE hs
    by_cases hkc : k < c.length
    · by_cases hpos : 0 < c[k]
      · have hwc : c[k] = w := by
          rw [← hw, wasN, if_pos ⟨hkc, by rw [List.getD_eq_getElem?_getD, List.getElem?_eq_getElem hkc]; exact hpos⟩, List.getD_eq_getElem?_getD, List.getElem?_eq_getElem hkc]
          rfl
        have d1 : decide (0 < w) = true := by rw [← hwc]; simpa using hpos
        (repeat' (first | simp (maxSteps := 5000000) (implicitDefEqProofs := false) only [ruA, ruB, aEv, aTake, aLoad, aField, aIndex, aLen, aBin, bin2, aUn, un1, aExtract, aConv, ASt.get, aget, ASt.put, aStore, aBox, aAppend, aBuildSlice, aMake, aBuild, aFill, oneParts, allC, aBinS, yv, aCells, oneC, oneCL, treeC, treeL, aLit, aDst, aSrc, appTab, Value.cells, Value.oneCell', envOf, aResL, aOne, ↓reduceIte, reduceCtorEq, forall_const, Nat.reduceLT, Nat.reduceEqDiff, Nat.reduceAdd, Nat.reduceMul, Nat.reduceSub, Nat.reduceLeDiff, Nat.reduceBEq, eq_self, implies_true, ne_eq, dref, dref1, dref2, aExecS, aStoreB, aTakes, aTakeE, aElder, aFrom, aFresh, isLoad, aBuildSlice1, frzs, frz1, ownIds, AV.frz, AV.frzL, frzEnv, AV.shift, AV.shiftL, aFieldV, aSliceW, aSliceO, aSlice, aSliceR, aSliceS, aBd, aMax, frzAVs, frzAV, frzTab, AObj.frz, aMM, aNilS, aMay, tyF_47_5, tyA_41, tyS_41, tyE_41, tyK_41, tyK_3, tyE_24, tyK_24, tyA_3, tyS_3, tyF_76_4, tyF_76_3, tyA_24, tyS_24, row_at, hlt, hkc, hwc, d1] | (with_reducible refine aIf_split (fun _ => ?_) (fun _ => ?_)) | (with_reducible refine aSel_split (fun _ => ?_) (fun _ => ?_)) | (with_reducible refine aGd_split (fun _ => ?_) (fun _ => ?_)) | (with_reducible refine aDraw_quiet (by kernel_rfl) ?_)))
        refine aLoop_of (fun st => ∃ (j : Nat) (was q : Int), j ≤ J ∧ was = w + j ∧ q = n + ((j * S : Nat) : Int) ∧ st = ⟨50, [(1, sI c), (2, .op 0 0 0), (5, eI q), (6, eI (k : Int)), (7, eI was)], [(0, some (.box 47 (eMod m)))], 1⟩) (fun st => 10 - slotN st 7) ⟨_, (weak_cut1 (by (first | ((simp only [envIn, tabIn, envLt, tabLt, AObj.lt, AV.lt, AV.ltL, ruW, ASt.get, aget, ASt.put, ↓reduceIte, reduceCtorEq, Nat.reduceLT, Nat.reduceEqDiff, Nat.reduceAdd, Nat.reduceLeDiff, eq_self, implies_true]) <;> (repeat' apply And.intro) <;> first | (rw [wrapK (by omega)]; done) | (simp; done) | omega) | fail))), 0, w, n, Nat.zero_le _, by omega, by simp, rfl⟩ ?_
        rintro _ ⟨j, was, q, hj, hwas, hq, rfl⟩
        have hjs : j * S ≤ 10 * 10 := Nat.mul_le_mul (by omega) (by omega)
        by_cases hlw : was < e.times
        · have d2 : decide (was < e.times) = true := by simpa using hlw
          have ew1 : IntKind.i64.wrap (q + (S : Int)) = q + (S : Int) := wrap_in (by omega) (by omega)
          have ew2 : IntKind.i64.wrap (was + 1) = was + 1 := wrap_in (by omega) (by omega)
          have hss : (j + 1) * S = j * S + S := Nat.succ_mul j S
          (repeat' (first | simp (maxSteps := 5000000) (implicitDefEqProofs := false) only [ruA, ruB, aEv, aTake, aLoad, aField, aIndex, aLen, aBin, bin2, aUn, un1, aExtract, aConv, ASt.get, aget, ASt.put, aStore, aBox, aAppend, aBuildSlice, aMake, aBuild, aFill, oneParts, allC, aBinS, yv, aCells, oneC, oneCL, treeC, treeL, aLit, aDst, aSrc, appTab, Value.cells, Value.oneCell', envOf, aResL, aOne, ↓reduceIte, reduceCtorEq, forall_const, Nat.reduceLT, Nat.reduceEqDiff, Nat.reduceAdd, Nat.reduceMul, Nat.reduceSub, Nat.reduceLeDiff, Nat.reduceBEq, eq_self, implies_true, ne_eq, dref, dref1, dref2, aExecS, aStoreB, aTakes, aTakeE, aElder, aFrom, aFresh, isLoad, aBuildSlice1, frzs, frz1, ownIds, AV.frz, AV.frzL, frzEnv, AV.shift, AV.shiftL, aFieldV, aSliceW, aSliceO, aSlice, aSliceR, aSliceS, aBd, aMax, frzAVs, frzAV, frzTab, AObj.frz, aMM, aNilS, aMay, tyF_47_5, tyA_41, tyS_41, tyE_41, tyK_41, tyK_3, tyE_24, tyK_24, tyA_3, tyS_3, tyF_76_4, tyF_76_3, tyA_24, tyS_24, row_at, hlt, hev, hS, d2, ew1, ew2] | (with_reducible refine aIf_split (fun _ => ?_) (fun _ => ?_)) | (with_reducible refine aSel_split (fun _ => ?_) (fun _ => ?_)) | (with_reducible refine aGd_split (fun _ => ?_) (fun _ => ?_)) | (with_reducible refine aDraw_quiet (by kernel_rfl) ?_)))
          exact roundI (weak_cut1 (by (first | ((simp only [envIn, tabIn, envLt, tabLt, AObj.lt, AV.lt, AV.ltL, ruW, ASt.get, aget, ASt.put, ↓reduceIte, reduceCtorEq, Nat.reduceLT, Nat.reduceEqDiff, Nat.reduceAdd, Nat.reduceLeDiff, eq_self, implies_true]) <;> (repeat' apply And.intro) <;> first | (rw [wrapK (by omega)]; done) | (simp; done) | omega) | fail))) ⟨j + 1, was + 1, q + (S : Int), by omega, by omega, by rw [hss]; omega, rfl⟩ (by simp only [slotN, ruW, ASt.get, aget, ASt.put, ↓reduceIte, reduceCtorEq, Nat.reduceLT, Nat.reduceEqDiff, Nat.reduceAdd, Nat.reduceLeDiff, eq_self, implies_true]; omega)
        · have d2 : decide (was < e.times) = false := by simpa using hlw
          obtain rfl : j = J := by omega
          have hev2 : evN m c k = ((j * S : Nat) : Int) := by rw [hE]; simp
          (repeat' (first | simp (maxSteps := 5000000) (implicitDefEqProofs := false) only [ruA, ruB, aEv, aTake, aLoad, aField, aIndex, aLen, aBin, bin2, aUn, un1, aExtract, aConv, ASt.get, aget, ASt.put, aStore, aBox, aAppend, aBuildSlice, aMake, aBuild, aFill, oneParts, allC, aBinS, yv, aCells, oneC, oneCL, treeC, treeL, aLit, aDst, aSrc, appTab, Value.cells, Value.oneCell', envOf, aResL, aOne, ↓reduceIte, reduceCtorEq, forall_const, Nat.reduceLT, Nat.reduceEqDiff, Nat.reduceAdd, Nat.reduceMul, Nat.reduceSub, Nat.reduceLeDiff, Nat.reduceBEq, eq_self, implies_true, ne_eq, dref, dref1, dref2, aExecS, aStoreB, aTakes, aTakeE, aElder, aFrom, aFresh, isLoad, aBuildSlice1, frzs, frz1, ownIds, AV.frz, AV.frzL, frzEnv, AV.shift, AV.shiftL, aFieldV, aSliceW, aSliceO, aSlice, aSliceR, aSliceS, aBd, aMax, frzAVs, frzAV, frzTab, AObj.frz, aMM, aNilS, aMay, tyF_47_5, tyA_41, tyS_41, tyE_41, tyK_41, tyK_3, tyE_24, tyK_24, tyA_3, tyS_3, tyF_76_4, tyF_76_3, tyA_24, tyS_24, row_at, hlt, hev, d2] | (with_reducible refine aIf_split (fun _ => ?_) (fun _ => ?_)) | (with_reducible refine aSel_split (fun _ => ?_) (fun _ => ?_)) | (with_reducible refine aGd_split (fun _ => ?_) (fun _ => ?_)) | (with_reducible refine aDraw_quiet (by kernel_rfl) ?_)))
          exact roundI (weak_cut1 (by (first | ((simp only [envIn, tabIn, envLt, tabLt, AObj.lt, AV.lt, AV.ltL, ruW, ASt.get, aget, ASt.put, ↓reduceIte, reduceCtorEq, Nat.reduceLT, Nat.reduceEqDiff, Nat.reduceAdd, Nat.reduceLeDiff, eq_self, implies_true]) <;> (repeat' apply And.intro) <;> first | (rw [wrapK (by omega)]; done) | (simp; done) | omega) | fail))) ⟨k + 1, q, by omega, by rw [leftN, hev2, ← hn, hq], by omega, by omega, rfl⟩ (by simp only [slotN, ruW, ASt.get, aget, ASt.put, ↓reduceIte, reduceCtorEq, Nat.reduceLT, Nat.reduceEqDiff, Nat.reduceAdd, Nat.reduceLeDiff, eq_self, implies_true]; omega)
      · have d1 : decide (0 < c[k]) = false := by simpa using hpos
        obtain rfl : w = 0 := by rw [← hw, wasN, if_neg (by rw [List.getD_eq_getElem?_getD, List.getElem?_eq_getElem hkc]; exact fun h => hpos h.2)]
        (repeat' (first | simp (maxSteps := 5000000) (implicitDefEqProofs := false) only [ruA, ruB, aEv, aTake, aLoad, aField, aIndex, aLen, aBin, bin2, aUn, un1, aExtract, aConv, ASt.get, aget, ASt.put, aStore, aBox, aAppend, aBuildSlice, aMake, aBuild, aFill, oneParts, allC, aBinS, yv, aCells, oneC, oneCL, treeC, treeL, aLit, aDst, aSrc, appTab, Value.cells, Value.oneCell', envOf, aResL, aOne, ↓reduceIte, reduceCtorEq, forall_const, Nat.reduceLT, Nat.reduceEqDiff, Nat.reduceAdd, Nat.reduceMul, Nat.reduceSub, Nat.reduceLeDiff, Nat.reduceBEq, eq_self, implies_true, ne_eq, dref, dref1, dref2, aExecS, aStoreB, aTakes, aTakeE, aElder, aFrom, aFresh, isLoad, aBuildSlice1, frzs, frz1, ownIds, AV.frz, AV.frzL, frzEnv, AV.shift, AV.shiftL, aFieldV, aSliceW, aSliceO, aSlice, aSliceR, aSliceS, aBd, aMax, frzAVs, frzAV, frzTab, AObj.frz, aMM, aNilS, aMay, tyF_47_5, tyA_41, tyS_41, tyE_41, tyK_41, tyK_3, tyE_24, tyK_24, tyA_3, tyS_3, tyF_76_4, tyF_76_3, tyA_24, tyS_24, row_at, hlt, hkc, d1] | (with_reducible refine aIf_split (fun _ => ?_) (fun _ => ?_)) | (with_reducible refine aSel_split (fun _ => ?_) (fun _ => ?_)) | (with_reducible refine aGd_split (fun _ => ?_) (fun _ => ?_)) | (with_reducible refine aDraw_quiet (by kernel_rfl) ?_)))
        refine aLoop_of (fun st => ∃ (j : Nat) (was q : Int), j ≤ J ∧ was = 0 + (j : Int) ∧ q = n + ((j * S : Nat) : Int) ∧ st = ⟨50, [(1, sI c), (2, .op 0 0 0), (5, eI q), (6, eI (k : Int)), (7, eI was)], [(0, some (.box 47 (eMod m)))], 1⟩) (fun st => 10 - slotN st 7) ⟨_, (weak_cut1 (by (first | ((simp only [envIn, tabIn, envLt, tabLt, AObj.lt, AV.lt, AV.ltL, ruW, ASt.get, aget, ASt.put, ↓reduceIte, reduceCtorEq, Nat.reduceLT, Nat.reduceEqDiff, Nat.reduceAdd, Nat.reduceLeDiff, eq_self, implies_true]) <;> (repeat' apply And.intro) <;> first | (rw [wrapK (by omega)]; done) | (simp; done) | omega) | fail))), 0, 0, n, Nat.zero_le _, by omega, by simp, rfl⟩ ?_
        rintro _ ⟨j, was, q, hj, hwas, hq, rfl⟩
        have hjs : j * S ≤ 10 * 10 := Nat.mul_le_mul (by omega) (by omega)
        by_cases hlw : was < e.times
        · have d2 : decide (was < e.times) = true := by simpa using hlw
          have ew1 : IntKind.i64.wrap (q + (S : Int)) = q + (S : Int) := wrap_in (by omega) (by omega)
          have ew2 : IntKind.i64.wrap (was + 1) = was + 1 := wrap_in (by omega) (by omega)
          have hss : (j + 1) * S = j * S + S := Nat.succ_mul j S
          (repeat' (first | simp (maxSteps := 5000000) (implicitDefEqProofs := false) only [ruA, ruB, aEv, aTake, aLoad, aField, aIndex, aLen, aBin, bin2, aUn, un1, aExtract, aConv, ASt.get, aget, ASt.put, aStore, aBox, aAppend, aBuildSlice, aMake, aBuild, aFill, oneParts, allC, aBinS, yv, aCells, oneC, oneCL, treeC, treeL, aLit, aDst, aSrc, appTab, Value.cells, Value.oneCell', envOf, aResL, aOne, ↓reduceIte, reduceCtorEq, forall_const, Nat.reduceLT, Nat.reduceEqDiff, Nat.reduceAdd, Nat.reduceMul, Nat.reduceSub, Nat.reduceLeDiff, Nat.reduceBEq, eq_self, implies_true, ne_eq, dref, dref1, dref2, aExecS, aStoreB, aTakes, aTakeE, aElder, aFrom, aFresh, isLoad, aBuildSlice1, frzs, frz1, ownIds, AV.frz, AV.frzL, frzEnv, AV.shift, AV.shiftL, aFieldV, aSliceW, aSliceO, aSlice, aSliceR, aSliceS, aBd, aMax, frzAVs, frzAV, frzTab, AObj.frz, aMM, aNilS, aMay, tyF_47_5, tyA_41, tyS_41, tyE_41, tyK_41, tyK_3, tyE_24, tyK_24, tyA_3, tyS_3, tyF_76_4, tyF_76_3, tyA_24, tyS_24, row_at, hlt, hev, hS, d2, ew1, ew2] | (with_reducible refine aIf_split (fun _ => ?_) (fun _ => ?_)) | (with_reducible refine aSel_split (fun _ => ?_) (fun _ => ?_)) | (with_reducible refine aGd_split (fun _ => ?_) (fun _ => ?_)) | (with_reducible refine aDraw_quiet (by kernel_rfl) ?_)))
          exact roundI (weak_cut1 (by (first | ((simp only [envIn, tabIn, envLt, tabLt, AObj.lt, AV.lt, AV.ltL, ruW, ASt.get, aget, ASt.put, ↓reduceIte, reduceCtorEq, Nat.reduceLT, Nat.reduceEqDiff, Nat.reduceAdd, Nat.reduceLeDiff, eq_self, implies_true]) <;> (repeat' apply And.intro) <;> first | (rw [wrapK (by omega)]; done) | (simp; done) | omega) | fail))) ⟨j + 1, was + 1, q + (S : Int), by omega, by omega, by rw [hss]; omega, rfl⟩ (by simp only [slotN, ruW, ASt.get, aget, ASt.put, ↓reduceIte, reduceCtorEq, Nat.reduceLT, Nat.reduceEqDiff, Nat.reduceAdd, Nat.reduceLeDiff, eq_self, implies_true]; omega)
        · have d2 : decide (was < e.times) = false := by simpa using hlw
          obtain rfl : j = J := by omega
          have hev2 : evN m c k = ((j * S : Nat) : Int) := by rw [hE]; simp
          (repeat' (first | simp (maxSteps := 5000000) (implicitDefEqProofs := false) only [ruA, ruB, aEv, aTake, aLoad, aField, aIndex, aLen, aBin, bin2, aUn, un1, aExtract, aConv, ASt.get, aget, ASt.put, aStore, aBox, aAppend, aBuildSlice, aMake, aBuild, aFill, oneParts, allC, aBinS, yv, aCells, oneC, oneCL, treeC, treeL, aLit, aDst, aSrc, appTab, Value.cells, Value.oneCell', envOf, aResL, aOne, ↓reduceIte, reduceCtorEq, forall_const, Nat.reduceLT, Nat.reduceEqDiff, Nat.reduceAdd, Nat.reduceMul, Nat.reduceSub, Nat.reduceLeDiff, Nat.reduceBEq, eq_self, implies_true, ne_eq, dref, dref1, dref2, aExecS, aStoreB, aTakes, aTakeE, aElder, aFrom, aFresh, isLoad, aBuildSlice1, frzs, frz1, ownIds, AV.frz, AV.frzL, frzEnv, AV.shift, AV.shiftL, aFieldV, aSliceW, aSliceO, aSlice, aSliceR, aSliceS, aBd, aMax, frzAVs, frzAV, frzTab, AObj.frz, aMM, aNilS, aMay, tyF_47_5, tyA_41, tyS_41, tyE_41, tyK_41, tyK_3, tyE_24, tyK_24, tyA_3, tyS_3, tyF_76_4, tyF_76_3, tyA_24, tyS_24, row_at, hlt, hev, d2] | (with_reducible refine aIf_split (fun _ => ?_) (fun _ => ?_)) | (with_reducible refine aSel_split (fun _ => ?_) (fun _ => ?_)) | (with_reducible refine aGd_split (fun _ => ?_) (fun _ => ?_)) | (with_reducible refine aDraw_quiet (by kernel_rfl) ?_)))
          exact roundI (weak_cut1 (by (first | ((simp only [envIn, tabIn, envLt, tabLt, AObj.lt, AV.lt, AV.ltL, ruW, ASt.get, aget, ASt.put, ↓reduceIte, reduceCtorEq, Nat.reduceLT, Nat.reduceEqDiff, Nat.reduceAdd, Nat.reduceLeDiff, eq_self, implies_true]) <;> (repeat' apply And.intro) <;> first | (rw [wrapK (by omega)]; done) | (simp; done) | omega) | fail))) ⟨k + 1, q, by omega, by rw [leftN, hev2, ← hn, hq], by omega, by omega, rfl⟩ (by simp only [slotN, ruW, ASt.get, aget, ASt.put, ↓reduceIte, reduceCtorEq, Nat.reduceLT, Nat.reduceEqDiff, Nat.reduceAdd, Nat.reduceLeDiff, eq_self, implies_true]; omega)
    · obtain rfl : w = 0 := by rw [← hw, wasN, if_neg (fun h => hkc h.1)]
      (repeat' (first | simp (maxSteps := 5000000) (implicitDefEqProofs := false) only [ruA, ruB, aEv, aTake, aLoad, aField, aIndex, aLen, aBin, bin2, aUn, un1, aExtract, aConv, ASt.get, aget, ASt.put, aStore, aBox, aAppend, aBuildSlice, aMake, aBuild, aFill, oneParts, allC, aBinS, yv, aCells, oneC, oneCL, treeC, treeL, aLit, aDst, aSrc, appTab, Value.cells, Value.oneCell', envOf, aResL, aOne, ↓reduceIte, reduceCtorEq, forall_const, Nat.reduceLT, Nat.reduceEqDiff, Nat.reduceAdd, Nat.reduceMul, Nat.reduceSub, Nat.reduceLeDiff, Nat.reduceBEq, eq_self, implies_true, ne_eq, dref, dref1, dref2, aExecS, aStoreB, aTakes, aTakeE, aElder, aFrom, aFresh, isLoad, aBuildSlice1, frzs, frz1, ownIds, AV.frz, AV.frzL, frzEnv, AV.shift, AV.shiftL, aFieldV, aSliceW, aSliceO, aSlice, aSliceR, aSliceS, aBd, aMax, frzAVs, frzAV, frzTab, AObj.frz, aMM, aNilS, aMay, tyF_47_5, tyA_41, tyS_41, tyE_41, tyK_41, tyK_3, tyE_24, tyK_24, tyA_3, tyS_3, tyF_76_4, tyF_76_3, tyA_24, tyS_24, row_at, hlt, hkc] | (with_reducible refine aIf_split (fun _ => ?_) (fun _ => ?_)) | (with_reducible refine aSel_split (fun _ => ?_) (fun _ => ?_)) | (with_reducible refine aGd_split (fun _ => ?_) (fun _ => ?_)) | (with_reducible refine aDraw_quiet (by kernel_rfl) ?_)))
      refine aLoop_of (fun st => ∃ (j : Nat) (was q : Int), j ≤ J ∧ was = 0 + (j : Int) ∧ q = n + ((j * S : Nat) : Int) ∧ st = ⟨50, [(1, sI c), (2, .op 0 0 0), (5, eI q), (6, eI (k : Int)), (7, eI was)], [(0, some (.box 47 (eMod m)))], 1⟩) (fun st => 10 - slotN st 7) ⟨_, (weak_cut1 (by (first | ((simp only [envIn, tabIn, envLt, tabLt, AObj.lt, AV.lt, AV.ltL, ruW, ASt.get, aget, ASt.put, ↓reduceIte, reduceCtorEq, Nat.reduceLT, Nat.reduceEqDiff, Nat.reduceAdd, Nat.reduceLeDiff, eq_self, implies_true]) <;> (repeat' apply And.intro) <;> first | (rw [wrapK (by omega)]; done) | (simp; done) | omega) | fail))), 0, 0, n, Nat.zero_le _, by omega, by simp, rfl⟩ ?_
      rintro _ ⟨j, was, q, hj, hwas, hq, rfl⟩
      have hjs : j * S ≤ 10 * 10 := Nat.mul_le_mul (by omega) (by omega)
      by_cases hlw : was < e.times
      · have d2 : decide (was < e.times) = true := by simpa using hlw
        have ew1 : IntKind.i64.wrap (q + (S : Int)) = q + (S : Int) := wrap_in (by omega) (by omega)
        have ew2 : IntKind.i64.wrap (was + 1) = was + 1 := wrap_in (by omega) (by omega)
        have hss : (j + 1) * S = j * S + S := Nat.succ_mul j S
        (repeat' (first | simp (maxSteps := 5000000) (implicitDefEqProofs := false) only [ruA, ruB, aEv, aTake, aLoad, aField, aIndex, aLen, aBin, bin2, aUn, un1, aExtract, aConv, ASt.get, aget, ASt.put, aStore, aBox, aAppend, aBuildSlice, aMake, aBuild, aFill, oneParts, allC, aBinS, yv, aCells, oneC, oneCL, treeC, treeL, aLit, aDst, aSrc, appTab, Value.cells, Value.oneCell', envOf, aResL, aOne, ↓reduceIte, reduceCtorEq, forall_const, Nat.reduceLT, Nat.reduceEqDiff, Nat.reduceAdd, Nat.reduceMul, Nat.reduceSub, Nat.reduceLeDiff, Nat.reduceBEq, eq_self, implies_true, ne_eq, dref, dref1, dref2, aExecS, aStoreB, aTakes, aTakeE, aElder, aFrom, aFresh, isLoad, aBuildSlice1, frzs, frz1, ownIds, AV.frz, AV.frzL, frzEnv, AV.shift, AV.shiftL, aFieldV, aSliceW, aSliceO, aSlice, aSliceR, aSliceS, aBd, aMax, frzAVs, frzAV, frzTab, AObj.frz, aMM, aNilS, aMay, tyF_47_5, tyA_41, tyS_41, tyE_41, tyK_41, tyK_3, tyE_24, tyK_24, tyA_3, tyS_3, tyF_76_4, tyF_76_3, tyA_24, tyS_24, row_at, hlt, hev, hS, d2, ew1, ew2] | (with_reducible refine aIf_split (fun _ => ?_) (fun _ => ?_)) | (with_reducible refine aSel_split (fun _ => ?_) (fun _ => ?_)) | (with_reducible refine aGd_split (fun _ => ?_) (fun _ => ?_)) | (with_reducible refine aDraw_quiet (by kernel_rfl) ?_)))
        exact roundI (weak_cut1 (by (first | ((simp only [envIn, tabIn, envLt, tabLt, AObj.lt, AV.lt, AV.ltL, ruW, ASt.get, aget, ASt.put, ↓reduceIte, reduceCtorEq, Nat.reduceLT, Nat.reduceEqDiff, Nat.reduceAdd, Nat.reduceLeDiff, eq_self, implies_true]) <;> (repeat' apply And.intro) <;> first | (rw [wrapK (by omega)]; done) | (simp; done) | omega) | fail))) ⟨j + 1, was + 1, q + (S : Int), by omega, by omega, by rw [hss]; omega, rfl⟩ (by simp only [slotN, ruW, ASt.get, aget, ASt.put, ↓reduceIte, reduceCtorEq, Nat.reduceLT, Nat.reduceEqDiff, Nat.reduceAdd, Nat.reduceLeDiff, eq_self, implies_true]; omega)
      · have d2 : decide (was < e.times) = false := by simpa using hlw
        obtain rfl : j = J := by omega
        have hev2 : evN m c k = ((j * S : Nat) : Int) := by rw [hE]; simp
        (repeat' (first | simp (maxSteps := 5000000) (implicitDefEqProofs := false) only [ruA, ruB, aEv, aTake, aLoad, aField, aIndex, aLen, aBin, bin2, aUn, un1, aExtract, aConv, ASt.get, aget, ASt.put, aStore, aBox, aAppend, aBuildSlice, aMake, aBuild, aFill, oneParts, allC, aBinS, yv, aCells, oneC, oneCL, treeC, treeL, aLit, aDst, aSrc, appTab, Value.cells, Value.oneCell', envOf, aResL, aOne, ↓reduceIte, reduceCtorEq, forall_const, Nat.reduceLT, Nat.reduceEqDiff, Nat.reduceAdd, Nat.reduceMul, Nat.reduceSub, Nat.reduceLeDiff, Nat.reduceBEq, eq_self, implies_true, ne_eq, dref, dref1, dref2, aExecS, aStoreB, aTakes, aTakeE, aElder, aFrom, aFresh, isLoad, aBuildSlice1, frzs, frz1, ownIds, AV.frz, AV.frzL, frzEnv, AV.shift, AV.shiftL, aFieldV, aSliceW, aSliceO, aSlice, aSliceR, aSliceS, aBd, aMax, frzAVs, frzAV, frzTab, AObj.frz, aMM, aNilS, aMay, tyF_47_5, tyA_41, tyS_41, tyE_41, tyK_41, tyK_3, tyE_24, tyK_24, tyA_3, tyS_3, tyF_76_4, tyF_76_3, tyA_24, tyS_24, row_at, hlt, hev, d2] | (with_reducible refine aIf_split (fun _ => ?_) (fun _ => ?_)) | (with_reducible refine aSel_split (fun _ => ?_) (fun _ => ?_)) | (with_reducible refine aGd_split (fun _ => ?_) (fun _ => ?_)) | (with_reducible refine aDraw_quiet (by kernel_rfl) ?_)))
        exact roundI (weak_cut1 (by (first | ((simp only [envIn, tabIn, envLt, tabLt, AObj.lt, AV.lt, AV.ltL, ruW, ASt.get, aget, ASt.put, ↓reduceIte, reduceCtorEq, Nat.reduceLT, Nat.reduceEqDiff, Nat.reduceAdd, Nat.reduceLeDiff, eq_self, implies_true]) <;> (repeat' apply And.intro) <;> first | (rw [wrapK (by omega)]; done) | (simp; done) | omega) | fail))) ⟨k + 1, q, by omega, by rw [leftN, hev2, ← hn, hq], by omega, by omega, rfl⟩ (by simp only [slotN, ruW, ASt.get, aget, ASt.put, ↓reduceIte, reduceCtorEq, Nat.reduceLT, Nat.reduceEqDiff, Nat.reduceAdd, Nat.reduceLeDiff, eq_self, implies_true]; omega)
  · obtain rfl : k = m.events.length := by omega
    (repeat' (first | simp (maxSteps := 5000000) (implicitDefEqProofs := false) only [ruA, ruB, aEv, aTake, aLoad, aField, aIndex, aLen, aBin, bin2, aUn, un1, aExtract, aConv, ASt.get, aget, ASt.put, aStore, aBox, aAppend, aBuildSlice, aMake, aBuild, aFill, oneParts, allC, aBinS, yv, aCells, oneC, oneCL, treeC, treeL, aLit, aDst, aSrc, appTab, Value.cells, Value.oneCell', envOf, aResL, aOne, ↓reduceIte, reduceCtorEq, forall_const, Nat.reduceLT, Nat.reduceEqDiff, Nat.reduceAdd, Nat.reduceMul, Nat.reduceSub, Nat.reduceLeDiff, Nat.reduceBEq, eq_self, implies_true, ne_eq, dref, dref1, dref2, aExecS, aStoreB, aTakes, aTakeE, aElder, aFrom, aFresh, isLoad, aBuildSlice1, frzs, frz1, ownIds, AV.frz, AV.frzL, frzEnv, AV.shift, AV.shiftL, aFieldV, aSliceW, aSliceO, aSlice, aSliceR, aSliceS, aBd, aMax, frzAVs, frzAV, frzTab, AObj.frz, aMM, aNilS, aMay, tyF_47_5, tyA_41, tyS_41, tyE_41, tyK_41, tyK_3, tyE_24, tyK_24, tyA_3, tyS_3, tyF_76_4, tyF_76_3, tyA_24, tyS_24, hlt] | (with_reducible refine aIf_split (fun _ => ?_) (fun _ => ?_)) | (with_reducible refine aSel_split (fun _ => ?_) (fun _ => ?_)) | (with_reducible refine aGd_split (fun _ => ?_) (fun _ => ?_)) | (with_reducible refine aDraw_quiet (by kernel_rfl) ?_)))
    exact hn
end
section
open Go.RowKit
def nodeM (m : Mod) (c : List Int) (s : St) : Nd := ⟨zoneM s.vals c (leftN m s.cnt m.events.length), s.opn, s.don, s.did, s.cnt⟩
set_option maxRecDepth 100000 in
set_option maxHeartbeats 32000000 in
theorem nodeOf_A (m : Mod) (c : List Int) (s : St) (he : m.events.length ≤ 10) (hm : ∀ e ∈ m.events, e.times ≤ 10 ∧ e.sets.length ≤ 10) (h1 : s.vals.length ≤ 31) (h2 : c.length ≤ 400) (hv : ∀ x ∈ s.vals, ok64 x) (hc : ∀ x ∈ c, ok64 x) (h3 : s.did.length ≤ 1000000) (h4 : s.cnt.length ≤ 1000000) : ADet Try.prog 16 [.agg (eMod m), sI c, .agg (eSt s)] ⟨.agg (eNd (nodeM m c s)), [], 0⟩ := by
  have hL := left15_A m s.cnt he hm h4
  have hO := zoneOf_A s.vals c (leftN m s.cnt m.events.length) h1 h2 hv hc
  unfold nodeM
  obtain ⟨z, hz⟩ : ∃ z, zoneM s.vals c (leftN m s.cnt m.events.length) = z := ⟨_, rfl⟩
  rw [hz] at hO ⊢
  refine ADet.still (R := ⟨.agg [.sl 2 (z.cls.map eCls), sI z.gaps, eI s.opn, eI s.don, .osl 0, .osl 1], [(0, some (.row 3 1 (s.did.map fun n => [eI n]))), (1, some (.row 3 1 (s.cnt.map fun n => [eI n])))], 2⟩) [0, 1] ?_ (by simp [Res.frzs, Res.frz, ATab.get_cons, AV.frz, AV.frzL, frzTab, AObj.frz]) (by simp [AV.lt, AV.ltL])
  refine adet_of_code mixedT Try.func16 rfl (by decide) Try.ntmps16 Try.results16 rfl (tab_ok (by simp [tabLt, AObj.lt, AV.ltL, AV.lt]) (by simp [AV.lt, AV.ltL])) ?_
  (repeat' (first | simp (maxSteps := 5000000) (implicitDefEqProofs := false) only [ruA, ruB, aEv, aTake, aLoad, aField, aIndex, aLen, aBin, bin2, aUn, un1, aExtract, aConv, ASt.get, aget, ASt.put, aStore, aBox, aAppend, aBuildSlice, aMake, aBuild, aFill, oneParts, allC, aBinS, yv, aCells, oneC, oneCL, treeC, treeL, aLit, aDst, aSrc, appTab, Value.cells, Value.oneCell', envOf, aResL, aOne, ↓reduceIte, reduceCtorEq, forall_const, Nat.reduceLT, Nat.reduceEqDiff, Nat.reduceAdd, Nat.reduceMul, Nat.reduceSub, Nat.reduceLeDiff, Nat.reduceBEq, eq_self, implies_true, ne_eq, dref, dref1, dref2, aExecS, aStoreB, aTakes, aTakeE, aElder, aFrom, aFresh, isLoad, aBuildSlice1, frzs, frz1, ownIds, AV.frz, AV.frzL, frzEnv, AV.shift, AV.shiftL, aFieldV, aSliceW, aSliceO, aSlice, aSliceR, aSliceS, aBd, aMax, frzAVs, frzAV, frzTab, AObj.frz, aMM, aNilS, aMay, tyA_58, tyS_58, tyZ_58, tyF_26_0, tyA_23, tyS_23, tyA_47, tyS_47, tyF_26_4, tyA_24, tyS_24, tyF_26_1, tyA_3, tyS_3, tyF_26_2, tyR_24, tyF_26_3, tyB_58] | (with_reducible refine aIf_split (fun _ => ?_) (fun _ => ?_)) | (with_reducible refine aSel_split (fun _ => ?_) (fun _ => ?_)) | (with_reducible refine aGd_split (fun _ => ?_) (fun _ => ?_))))
  refine aDraw_held [2] [0, 1, 2, 3, 4, 5, 8, 9, 10, 11, 13, 14, 17, 18] (.three 6 (.three 7 (.two 12 (.two 15 (.exec 16 (.exec 19 (.take 20 (.exec 21 .done)))) 16 (.exec 15 (.exec 19 (.take 20 (.exec 21 .done))))) 16 (.exec 12 (.exec 15 (.exec 19 (.take 20 (.exec 21 .done)))))) 12 (.two 7 (.two 15 (.exec 16 (.exec 19 (.take 20 (.exec 21 .done)))) 16 (.exec 15 (.exec 19 (.take 20 (.exec 21 .done))))) 16 (.exec 7 (.exec 15 (.exec 19 (.take 20 (.exec 21 .done)))))) 16 (.two 7 (.exec 12 (.exec 15 (.exec 19 (.take 20 (.exec 21 .done))))) 12 (.exec 7 (.exec 15 (.exec 19 (.take 20 (.exec 21 .done))))))) 12 (.two 6 (.two 7 (.two 15 (.exec 16 (.exec 19 (.take 20 (.exec 21 .done)))) 16 (.exec 15 (.exec 19 (.take 20 (.exec 21 .done))))) 16 (.exec 7 (.exec 15 (.exec 19 (.take 20 (.exec 21 .done)))))) 16 (.exec 6 (.exec 7 (.exec 15 (.exec 19 (.take 20 (.exec 21 .done))))))) 16 (.two 6 (.two 7 (.exec 12 (.exec 15 (.exec 19 (.take 20 (.exec 21 .done))))) 12 (.exec 7 (.exec 15 (.exec 19 (.take 20 (.exec 21 .done)))))) 12 (.exec 6 (.exec 7 (.exec 15 (.exec 19 (.take 20 (.exec 21 .done)))))))) (by kernel_rfl) (by simp [ATab.get_cons]) ?_
  (repeat' (first | simp (maxSteps := 5000000) (implicitDefEqProofs := false) only [ruA, ruB, aEv, aTake, aLoad, aField, aIndex, aLen, aBin, bin2, aUn, un1, aExtract, aConv, ASt.get, aget, ASt.put, aStore, aBox, aAppend, aBuildSlice, aMake, aBuild, aFill, oneParts, allC, aBinS, yv, aCells, oneC, oneCL, treeC, treeL, aLit, aDst, aSrc, appTab, Value.cells, Value.oneCell', envOf, aResL, aOne, ↓reduceIte, reduceCtorEq, forall_const, Nat.reduceLT, Nat.reduceEqDiff, Nat.reduceAdd, Nat.reduceMul, Nat.reduceSub, Nat.reduceLeDiff, Nat.reduceBEq, eq_self, implies_true, ne_eq, dref, dref1, dref2, aExecS, aStoreB, aTakes, aTakeE, aElder, aFrom, aFresh, isLoad, aBuildSlice1, frzs, frz1, ownIds, AV.frz, AV.frzL, frzEnv, AV.shift, AV.shiftL, aFieldV, aSliceW, aSliceO, aSlice, aSliceR, aSliceS, aBd, aMax, frzAVs, frzAV, frzTab, AObj.frz, aMM, aNilS, aMay, tyA_58, tyS_58, tyZ_58, tyF_26_0, tyA_23, tyS_23, tyA_47, tyS_47, tyF_26_4, tyA_24, tyS_24, tyF_26_1, tyA_3, tyS_3, tyF_26_2, tyR_24, tyF_26_3, tyB_58] | (with_reducible refine aIf_split (fun _ => ?_) (fun _ => ?_)) | (with_reducible refine aSel_split (fun _ => ?_) (fun _ => ?_)) | (with_reducible refine aGd_split (fun _ => ?_) (fun _ => ?_)) | (with_reducible refine aDraw_quiet (by kernel_rfl) ?_) | ((with_reducible apply callV); exact (hL)) | ((with_reducible apply callD); exact (hL)) | ((with_reducible apply callT); exact (hO); exact (.inl (by simp [roL, roA, treeL, treeC]))) | (with_reducible apply And.intro)))
  all_goals first
    | omega
    | rfl
    | exact ⟨[4, 6], by decide, rfl, by simp [aTabs, ATab.get_cons]⟩
    | exact ⟨[5, 6], by decide, rfl, by simp [aTabs, ATab.get_cons]⟩
    | exact ⟨[6, 5], by decide, rfl, by simp [aTabs, ATab.get_cons]⟩
    | exact ⟨[6, 4], by decide, rfl, by simp [aTabs, ATab.get_cons]⟩
    | trace_state
end
section
open Go.RowKit
theorem weak_frz (st : ASt) (id : Nat) : Weak st (frz1 st id) := fun cx a w L h => ⟨L, (conc_frz1 h id).1, fun b hb => ⟨hb.1, hb.2.1, fun k o hk => by
  unfold frz1 at hk
  split at hk
  · simp only [ATab.get_cons, frzTab_get] at hk
    split at hk
    · cases hk
    · cases hg : st.tab.get k with
      | none => simp [hg] at hk
      | some o' => exact hb.2.2 k o' hg
  · exact hb.2.2 k o hk⟩⟩
theorem weak_to {st st' : ASt} (id : Nat) (h : frz1 st id = st') : Weak st st' := h ▸ weak_frz st id
end
end Go.Proofs.Ytfeclebkaambhaa
