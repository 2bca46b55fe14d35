/-
  Parts of the proof: QE, QF, QG.
-/
import Derived.Test.YtbpocemhnmmloaaDoorQco6
set_option linter.unusedVariables false
set_option linter.unusedSimpArgs false
namespace Go.Proofs.YtbpocemhnmmloaaDoor
section
open Go.RowKit
def toQ (l : List UInt8) : ByteArray := ⟨l.toArray⟩
theorem toQ_inj {a b : List UInt8} (h : toQ a = toQ b) : a = b := by
  have := congrArg (fun x : ByteArray => x.data.toList) h
  simpa [toQ] using this
theorem toQ_append (a b : List UInt8) : toQ a ++ toQ b = toQ (a ++ b) := by
  apply ByteArray.ext
  simp [toQ]
theorem itoaB_toQ (n : Int) : itoaB n = toQ (Lib.itoa n) := rfl
theorem size_toQ (l : List UInt8) : (toQ l).size = l.length := by
  show (toQ l).data.size = _
  simp [toQ]
theorem dec_len : ∀ (k u : Nat), u < 10 ^ (k + 1) → (Lib.decDigits u).length ≤ k + 1
  | 0, u, h => by
    rw [Lib.decDigits, dif_pos (by simpa using h)]
    simp
  | k + 1, u, h => by
    rw [Lib.decDigits]
    split
    · simp
    · have := dec_len k (u / 10) (by rw [Nat.pow_succ] at h; omega)
      rw [List.length_append, List.length_singleton]
      omega
theorem itoa_len {n : Int} (h : ok64 n) : (Lib.itoa n).length ≤ 20 := by
  have hp : (10 : Nat) ^ (18 + 1) = 10000000000000000000 := by decide
  obtain ⟨h1, h2⟩ := h
  unfold Lib.itoa
  split
  · have := dec_len 18 n.natAbs (by omega)
    rw [List.length_cons]
    omega
  · have := dec_len 18 n.toNat (by omega)
    omega
theorem tail_len : ∀ (l : List Int), (∀ n ∈ l, ok64 n) → (Lib.joinTail [32] (l.map Lib.itoa)).length ≤ 21 * l.length
  | [], _ => by simp [Lib.joinTail]
  | n :: l, h => by
    have h1 := itoa_len (h n (List.mem_cons_self ..))
    have h2 := tail_len l fun x hx => h x (List.mem_cons_of_mem _ hx)
    have e : Lib.joinTail [32] ((n :: l).map Lib.itoa) = 32 :: (Lib.itoa n ++ Lib.joinTail [32] (l.map Lib.itoa)) := rfl
    rw [e, List.length_cons, List.length_append, List.length_cons]
    omega
theorem numsT_snoc (n : Int) (l : List Int) (x : Int) : numsT (n :: (l ++ [x])) = numsT (n :: l) ++ (32 :: Lib.itoa x) := by
  rw [numsT_cons, numsT_cons]
  simp [Lib.joinTail]
theorem numsT_len {n : Int} {l : List Int} (hn : ok64 n) (h : ∀ x ∈ l, ok64 x) : (numsT (n :: l)).length ≤ 21 * (l.length + 1) := by
  rw [numsT_cons, List.length_append]
  have h1 := itoa_len hn
  have h2 := tail_len l h
  omega
theorem behF_ok {next : List (List Int)} {c : List Int} {i : Nat} (hc : ∀ x ∈ c, ok64 x) : ∀ x ∈ behF next c i, ok64 x := by
  intro x hx
  unfold behF at hx
  rw [sortL_eq] at hx
  obtain ⟨y, _, _, rfl⟩ := behS_mem.1 (((sortR_up _).2 x).1 hx)
  exact atQ_ok hc y
theorem behF_len {next : List (List Int)} {c : List Int} {i : Nat} (hr : ∀ r ∈ next, r.length ≤ 1000) : (behF next c i).length ≤ 1000 := by
  unfold behF
  rw [sortL_eq]
  have h1 := sortR_len (behS next c i)
  have h2 : (behS next c i).length ≤ 1000 := by
    unfold behS
    rw [List.length_map]
    have h3 := List.length_filter_le (inQ next.length) (next.getD i [])
    have h4 : (next.getD i []).length ≤ 1000 := by
      by_cases hi : i < next.length
      · simp [List.getD, hi]
        exact hr _ (List.getElem_mem hi)
      · simp [List.getD, List.getElem?_eq_none (Nat.le_of_not_lt hi)]
    omega
  omega
def keyB (next : List (List Int)) (c : List Int) (i : Nat) : ByteArray := toQ (numsT (keyQ next c i))
theorem keyB_inj {next : List (List Int)} {c : List Int} {i j : Nat} (h : keyB next c i = keyB next c j) : keyQ next c i = keyQ next c j := numsT_inj (toQ_inj h)
set_option maxRecDepth 100000 in
set_option maxHeartbeats 4000000 in
theorem key_A (next : List (List Int)) (c : List Int) (i : Nat) (hn : next.length ≤ 1000) (hr : ∀ r ∈ next, r.length ≤ 1000) (hc : c.length ≤ 1000000) (hco : ∀ x ∈ c, ok64 x) (hi : i < next.length) :
    ADet Tryd.prog 17 [sNx next, sI c, eI (i : Int)] (val (.string (keyB next c i))) := by
  refine adet_of_code mixedT Tryd.func17 rfl (by decide) Tryd.ntmps17 Tryd.results17 rfl (val_ok _) ?_
  obtain ⟨b, hb⟩ : ∃ b, b = behF next c i := ⟨_, rfl⟩
  have hbl : b.length ≤ 1000 := hb ▸ behF_len hr
  have hbo : ∀ x ∈ b, ok64 x := hb ▸ behF_ok hco
  have ha := atQ_ok hco (i : Int)
  have hbeh := behind_A next c i hn hr hc hi
  rw [← hb] at hbeh
  have hkey : keyB next c i = toQ (numsT (atQ c i :: b)) := by rw [keyB, keyQ, hb]
  rw [hkey]
  obtain ⟨a, haa⟩ : ∃ a, a = atQ c (i : Int) := ⟨_, rfl⟩
  have hatc := atQ_A c (i : Int) hc
  rw [← haa] at ha hatc ⊢
  have e0 : toQ (numsT [a]) = itoaB a := by rw [numsT_cons]; simp [Lib.joinTail, itoaB_toQ]
  (repeat' (first | simp (maxSteps := 5000000) (implicitDefEqProofs := false) only [ruA, ruB, aEv, aTake, aLoad, aField, aIndex, aLen, aBin, bin2, aUn, un1, aExtract, aConv, ASt.get, aget, ASt.put, aStore, aBox, aAppend, aBuildSlice, aMake, aBuild, aFill, oneParts, allC, aBinS, yv, aCells, oneC, oneCL, treeC, treeL, treeML, treeM_c, treeM_sl, treeM_rp, treeM_any, treeM_fn, treeM_bfn, aLit, aDst, aSrc, appTab, Value.cells, Value.oneCell', envOf, aResL, aOne, ↓reduceIte, reduceCtorEq, forall_const, Nat.reduceLT, Nat.reduceEqDiff, Nat.reduceAdd, Nat.reduceMul, Nat.reduceSub, Nat.reduceLeDiff, Nat.reduceBEq, eq_self, implies_true, ne_eq, dref, dref1, dref2, aExecS, aStoreB, aTakes, aTakeE, aElder, aFrom, aFresh, isLoad, aBuildSlice1, frzs, frz1, ownIds, AV.frz, AV.frzL, frzEnv, AV.shift, AV.shiftL, aFieldV, aSliceW, aSliceO, aSlice, aSliceR, aSliceS, aBd, aMax, frzAVs, frzAV, frzTab, AObj.frz, aMM, aNilS, aMay, aNil, aLenM, aClear, aLookup, aLookG, aMapUpd, aMapPut, keyV, aLookR, false_or, aExecU, tyE_23, tyK_23, tyK_3, tyA_3, tyS_3, tyK_9] | (with_reducible refine aIf_split (fun _ => ?_) (fun _ => ?_)) | (with_reducible refine aSel_split (fun _ => ?_) (fun _ => ?_)) | (with_reducible refine aGd_split (fun _ => ?_) (fun _ => ?_))))
  refine callV hatc ?_
  (repeat' (first | simp (maxSteps := 5000000) (implicitDefEqProofs := false) only [ruA, ruB, aEv, aTake, aLoad, aField, aIndex, aLen, aBin, bin2, aUn, un1, aExtract, aConv, ASt.get, aget, ASt.put, aStore, aBox, aAppend, aBuildSlice, aMake, aBuild, aFill, oneParts, allC, aBinS, yv, aCells, oneC, oneCL, treeC, treeL, treeML, treeM_c, treeM_sl, treeM_rp, treeM_any, treeM_fn, treeM_bfn, aLit, aDst, aSrc, appTab, Value.cells, Value.oneCell', envOf, aResL, aOne, ↓reduceIte, reduceCtorEq, forall_const, Nat.reduceLT, Nat.reduceEqDiff, Nat.reduceAdd, Nat.reduceMul, Nat.reduceSub, Nat.reduceLeDiff, Nat.reduceBEq, eq_self, implies_true, ne_eq, dref, dref1, dref2, aExecS, aStoreB, aTakes, aTakeE, aElder, aFrom, aFresh, isLoad, aBuildSlice1, frzs, frz1, ownIds, AV.frz, AV.frzL, frzEnv, AV.shift, AV.shiftL, aFieldV, aSliceW, aSliceO, aSlice, aSliceR, aSliceS, aBd, aMax, frzAVs, frzAV, frzTab, AObj.frz, aMM, aNilS, aMay, aNil, aLenM, aClear, aLookup, aLookG, aMapUpd, aMapPut, keyV, aLookR, false_or, aExecU, tyE_23, tyK_23, tyK_3, tyA_3, tyS_3, tyK_9] | (with_reducible refine aIf_split (fun _ => ?_) (fun _ => ?_)) | (with_reducible refine aSel_split (fun _ => ?_) (fun _ => ?_)) | (with_reducible refine aGd_split (fun _ => ?_) (fun _ => ?_))))
  refine callV (print_A a ha) ?_
  (repeat' (first | simp (maxSteps := 5000000) (implicitDefEqProofs := false) only [ruA, ruB, aEv, aTake, aLoad, aField, aIndex, aLen, aBin, bin2, aUn, un1, aExtract, aConv, ASt.get, aget, ASt.put, aStore, aBox, aAppend, aBuildSlice, aMake, aBuild, aFill, oneParts, allC, aBinS, yv, aCells, oneC, oneCL, treeC, treeL, treeML, treeM_c, treeM_sl, treeM_rp, treeM_any, treeM_fn, treeM_bfn, aLit, aDst, aSrc, appTab, Value.cells, Value.oneCell', envOf, aResL, aOne, ↓reduceIte, reduceCtorEq, forall_const, Nat.reduceLT, Nat.reduceEqDiff, Nat.reduceAdd, Nat.reduceMul, Nat.reduceSub, Nat.reduceLeDiff, Nat.reduceBEq, eq_self, implies_true, ne_eq, dref, dref1, dref2, aExecS, aStoreB, aTakes, aTakeE, aElder, aFrom, aFresh, isLoad, aBuildSlice1, frzs, frz1, ownIds, AV.frz, AV.frzL, frzEnv, AV.shift, AV.shiftL, aFieldV, aSliceW, aSliceO, aSlice, aSliceR, aSliceS, aBd, aMax, frzAVs, frzAV, frzTab, AObj.frz, aMM, aNilS, aMay, aNil, aLenM, aClear, aLookup, aLookG, aMapUpd, aMapPut, keyV, aLookR, false_or, aExecU, tyE_23, tyK_23, tyK_3, tyA_3, tyS_3, tyK_9] | (with_reducible refine aIf_split (fun _ => ?_) (fun _ => ?_)) | (with_reducible refine aSel_split (fun _ => ?_) (fun _ => ?_)) | (with_reducible refine aGd_split (fun _ => ?_) (fun _ => ?_))))
  refine callO hbeh (.inl (by simp [roL, roA, treeL, treeC])) ?_
  (repeat' (first | simp (maxSteps := 5000000) (implicitDefEqProofs := false) only [ruA, ruB, aEv, aTake, aLoad, aField, aIndex, aLen, aBin, bin2, aUn, un1, aExtract, aConv, ASt.get, aget, ASt.put, aStore, aBox, aAppend, aBuildSlice, aMake, aBuild, aFill, oneParts, allC, aBinS, yv, aCells, oneC, oneCL, treeC, treeL, treeML, treeM_c, treeM_sl, treeM_rp, treeM_any, treeM_fn, treeM_bfn, aLit, aDst, aSrc, appTab, Value.cells, Value.oneCell', envOf, aResL, aOne, ↓reduceIte, reduceCtorEq, forall_const, Nat.reduceLT, Nat.reduceEqDiff, Nat.reduceAdd, Nat.reduceMul, Nat.reduceSub, Nat.reduceLeDiff, Nat.reduceBEq, eq_self, implies_true, ne_eq, dref, dref1, dref2, aExecS, aStoreB, aTakes, aTakeE, aElder, aFrom, aFresh, isLoad, aBuildSlice1, frzs, frz1, ownIds, AV.frz, AV.frzL, frzEnv, AV.shift, AV.shiftL, aFieldV, aSliceW, aSliceO, aSlice, aSliceR, aSliceS, aBd, aMax, frzAVs, frzAV, frzTab, AObj.frz, aMM, aNilS, aMay, aNil, aLenM, aClear, aLookup, aLookG, aMapUpd, aMapPut, keyV, aLookR, false_or, aExecU, tyE_23, tyK_23, tyK_3, tyA_3, tyS_3, tyK_9] | (with_reducible refine aIf_split (fun _ => ?_) (fun _ => ?_)) | (with_reducible refine aSel_split (fun _ => ?_) (fun _ => ?_)) | (with_reducible refine aGd_split (fun _ => ?_) (fun _ => ?_))))
  refine aLoop_of (fun st => ∃ k : Nat, k ≤ b.length ∧ st = ⟨30, [(7, .c (.string (toQ (numsT (a :: b.take k))))), (17, .osl 0), (18, eI (b.length : Int)), (19, eI (k : Int))], [(0, some (.row 3 1 (eIs b)))], 1⟩) (fun st => b.length - slotN st 19) ⟨_, (weak_ren1 [0] ⟨(by decide), (by (first | ((simp only [envInR, tabInR, envLt, tabLt, AObj.lt, AV.lt, AV.ltL, AV.ren, AV.renL, AObj.ren, List.getD_cons_zero, List.getD_cons_succ, List.length_cons, List.length_nil, ruW, ASt.get, aget, ASt.put, ↓reduceIte, reduceCtorEq, Nat.reduceLT, Nat.reduceEqDiff, Nat.reduceAdd, Nat.reduceLeDiff, eq_self, implies_true, List.take_zero, e0]) <;> (repeat' apply And.intro) <;> first | (rw [wrapK (by omega)]; done) | (simp; done) | omega) | fail))⟩), 0, Nat.zero_le _, rfl⟩ ?_
  rintro _ ⟨k, hk, rfl⟩
  by_cases hlt : k < b.length
  · obtain ⟨x, hxx⟩ : ∃ x, x = b[k] := ⟨_, rfl⟩
    have hxo : ok64 x := hxx ▸ hbo _ (List.getElem_mem hlt)
    have hrx : (eIs b)[k]?.getD [] = [eI x] := by rw [hxx]; simp [hlt]
    have hl1 := numsT_len (n := a) (l := b.take k) ha (fun y hy => hbo y (List.mem_of_mem_take hy))
    have hl2 := itoa_len hxo
    have hl3 : (b.take k).length ≤ 1000 := by have := List.length_take_le k b; omega
    have hsn : toQ (numsT (a :: b.take (k + 1))) = toQ (numsT (a :: b.take k)) ++ (⟨#[32]⟩ ++ itoaB x) := by
      rw [List.take_succ_eq_append_getElem hlt, ← hxx, numsT_snoc]
      show _ = _ ++ (toQ [32] ++ toQ (Lib.itoa x))
      rw [toQ_append, toQ_append]
      rfl
    have s1 : (⟨#[32]⟩ : ByteArray).size + (itoaB x).size ≤ 9223372036854775807 := by
      show (toQ [32]).size + (toQ (Lib.itoa x)).size ≤ _
      rw [size_toQ, size_toQ]
      simp
      omega
    have s2 : (toQ (numsT (a :: b.take k))).size + ((⟨#[32]⟩ : ByteArray) ++ itoaB x).size ≤ 9223372036854775807 := by
      show _ + (toQ [32] ++ toQ (Lib.itoa x)).size ≤ _
      rw [toQ_append, size_toQ, size_toQ]
      simp
      omega
    (repeat' (first | simp (maxSteps := 5000000) (implicitDefEqProofs := false) only [ruA, ruB, aEv, aTake, aLoad, aField, aIndex, aLen, aBin, bin2, aUn, un1, aExtract, aConv, ASt.get, aget, ASt.put, aStore, aBox, aAppend, aBuildSlice, aMake, aBuild, aFill, oneParts, allC, aBinS, yv, aCells, oneC, oneCL, treeC, treeL, treeML, treeM_c, treeM_sl, treeM_rp, treeM_any, treeM_fn, treeM_bfn, aLit, aDst, aSrc, appTab, Value.cells, Value.oneCell', envOf, aResL, aOne, ↓reduceIte, reduceCtorEq, forall_const, Nat.reduceLT, Nat.reduceEqDiff, Nat.reduceAdd, Nat.reduceMul, Nat.reduceSub, Nat.reduceLeDiff, Nat.reduceBEq, eq_self, implies_true, ne_eq, dref, dref1, dref2, aExecS, aStoreB, aTakes, aTakeE, aElder, aFrom, aFresh, isLoad, aBuildSlice1, frzs, frz1, ownIds, AV.frz, AV.frzL, frzEnv, AV.shift, AV.shiftL, aFieldV, aSliceW, aSliceO, aSlice, aSliceR, aSliceS, aBd, aMax, frzAVs, frzAV, frzTab, AObj.frz, aMM, aNilS, aMay, aNil, aLenM, aClear, aLookup, aLookG, aMapUpd, aMapPut, keyV, aLookR, false_or, aExecU, tyE_23, tyK_23, tyK_3, tyA_3, tyS_3, tyK_9, hrx, hlt] | (with_reducible refine aIf_split (fun _ => ?_) (fun _ => ?_)) | (with_reducible refine aSel_split (fun _ => ?_) (fun _ => ?_)) | (with_reducible refine aGd_split (fun _ => ?_) (fun _ => ?_))))
    refine callV (print_A x hxo) ?_
    (repeat' (first | simp (maxSteps := 5000000) (implicitDefEqProofs := false) only [ruA, ruB, aEv, aTake, aLoad, aField, aIndex, aLen, aBin, bin2, aUn, un1, aExtract, aConv, ASt.get, aget, ASt.put, aStore, aBox, aAppend, aBuildSlice, aMake, aBuild, aFill, oneParts, allC, aBinS, yv, aCells, oneC, oneCL, treeC, treeL, treeML, treeM_c, treeM_sl, treeM_rp, treeM_any, treeM_fn, treeM_bfn, aLit, aDst, aSrc, appTab, Value.cells, Value.oneCell', envOf, aResL, aOne, ↓reduceIte, reduceCtorEq, forall_const, Nat.reduceLT, Nat.reduceEqDiff, Nat.reduceAdd, Nat.reduceMul, Nat.reduceSub, Nat.reduceLeDiff, Nat.reduceBEq, eq_self, implies_true, ne_eq, dref, dref1, dref2, aExecS, aStoreB, aTakes, aTakeE, aElder, aFrom, aFresh, isLoad, aBuildSlice1, frzs, frz1, ownIds, AV.frz, AV.frzL, frzEnv, AV.shift, AV.shiftL, aFieldV, aSliceW, aSliceO, aSlice, aSliceR, aSliceS, aBd, aMax, frzAVs, frzAV, frzTab, AObj.frz, aMM, aNilS, aMay, aNil, aLenM, aClear, aLookup, aLookG, aMapUpd, aMapPut, keyV, aLookR, false_or, aExecU, tyE_23, tyK_23, tyK_3, tyA_3, tyS_3, tyK_9, s1, s2] | (with_reducible refine aIf_split (fun _ => ?_) (fun _ => ?_)) | (with_reducible refine aSel_split (fun _ => ?_) (fun _ => ?_)) | (with_reducible refine aGd_split (fun _ => ?_) (fun _ => ?_))))
    exact roundI (weak_ren1 [0] ⟨(by decide), (by (first | ((simp only [envInR, tabInR, envLt, tabLt, AObj.lt, AV.lt, AV.ltL, AV.ren, AV.renL, AObj.ren, List.getD_cons_zero, List.getD_cons_succ, List.length_cons, List.length_nil, ruW, ASt.get, aget, ASt.put, ↓reduceIte, reduceCtorEq, Nat.reduceLT, Nat.reduceEqDiff, Nat.reduceAdd, Nat.reduceLeDiff, eq_self, implies_true, hsn]) <;> (repeat' apply And.intro) <;> first | (rw [wrapK (by omega)]; done) | (simp; done) | omega) | fail))⟩) ⟨k + 1, by omega, rfl⟩ (by simp only [slotN, ruW, ASt.get, aget, ASt.put, ↓reduceIte, reduceCtorEq, Nat.reduceLT, Nat.reduceEqDiff, Nat.reduceAdd, Nat.reduceLeDiff, eq_self, implies_true]; omega)
  obtain rfl : k = b.length := by omega
  (repeat' (first | simp (maxSteps := 5000000) (implicitDefEqProofs := false) only [ruA, ruB, aEv, aTake, aLoad, aField, aIndex, aLen, aBin, bin2, aUn, un1, aExtract, aConv, ASt.get, aget, ASt.put, aStore, aBox, aAppend, aBuildSlice, aMake, aBuild, aFill, oneParts, allC, aBinS, yv, aCells, oneC, oneCL, treeC, treeL, treeML, treeM_c, treeM_sl, treeM_rp, treeM_any, treeM_fn, treeM_bfn, aLit, aDst, aSrc, appTab, Value.cells, Value.oneCell', envOf, aResL, aOne, ↓reduceIte, reduceCtorEq, forall_const, Nat.reduceLT, Nat.reduceEqDiff, Nat.reduceAdd, Nat.reduceMul, Nat.reduceSub, Nat.reduceLeDiff, Nat.reduceBEq, eq_self, implies_true, ne_eq, dref, dref1, dref2, aExecS, aStoreB, aTakes, aTakeE, aElder, aFrom, aFresh, isLoad, aBuildSlice1, frzs, frz1, ownIds, AV.frz, AV.frzL, frzEnv, AV.shift, AV.shiftL, aFieldV, aSliceW, aSliceO, aSlice, aSliceR, aSliceS, aBd, aMax, frzAVs, frzAV, frzTab, AObj.frz, aMM, aNilS, aMay, aNil, aLenM, aClear, aLookup, aLookG, aMapUpd, aMapPut, keyV, aLookR, false_or, aExecU, tyE_23, tyK_23, tyK_3, tyA_3, tyS_3, tyK_9, hlt, List.take_length] | (with_reducible refine aIf_split (fun _ => ?_) (fun _ => ?_)) | (with_reducible refine aSel_split (fun _ => ?_) (fun _ => ?_)) | (with_reducible refine aGd_split (fun _ => ?_) (fun _ => ?_))))
set_option maxRecDepth 100000 in
theorem cls1_A (col : List Int) (i : Nat) (hl : col.length ≤ 1000000) (ho : ∀ x ∈ col, ok64 x) : ADet Tryd.prog 13 [eI (i : Int), .rp [sI col]] (val (.string (itoaB (atQ col (i : Int))))) := by
  refine adet_of_code mixedT Tryd.func13 rfl (by decide) Tryd.ntmps13 Tryd.results13 rfl (val_ok _) ?_
  (repeat' (first | simp (maxSteps := 5000000) (implicitDefEqProofs := false) only [ruA, ruB, aEv, aTake, aLoad, aField, aIndex, aLen, aBin, bin2, aUn, un1, aExtract, aConv, ASt.get, aget, ASt.put, aStore, aBox, aAppend, aBuildSlice, aMake, aBuild, aFill, oneParts, allC, aBinS, yv, aCells, oneC, oneCL, treeC, treeL, treeML, treeM_c, treeM_sl, treeM_rp, treeM_any, treeM_fn, treeM_bfn, aLit, aDst, aSrc, appTab, Value.cells, Value.oneCell', envOf, aResL, aOne, ↓reduceIte, reduceCtorEq, forall_const, Nat.reduceLT, Nat.reduceEqDiff, Nat.reduceAdd, Nat.reduceMul, Nat.reduceSub, Nat.reduceLeDiff, Nat.reduceBEq, eq_self, implies_true, ne_eq, dref, dref1, dref2, aExecS, aStoreB, aTakes, aTakeE, aElder, aFrom, aFresh, isLoad, aBuildSlice1, frzs, frz1, ownIds, AV.frz, AV.frzL, frzEnv, AV.shift, AV.shiftL, aFieldV, aSliceW, aSliceO, aSlice, aSliceR, aSliceS, aBd, aMax, frzAVs, frzAV, frzTab, AObj.frz, aMM, aNilS, aMay, aNil, aLenM, aClear, aLookup, aLookG, aMapUpd, aMapPut, keyV, aLookR, false_or, aExecU, tyA_23, tyS_23] | (with_reducible refine aIf_split (fun _ => ?_) (fun _ => ?_)) | (with_reducible refine aSel_split (fun _ => ?_) (fun _ => ?_)) | (with_reducible refine aGd_split (fun _ => ?_) (fun _ => ?_))))
  refine callV (atQ_A col (i : Int) hl) ?_
  (repeat' (first | simp (maxSteps := 5000000) (implicitDefEqProofs := false) only [ruA, ruB, aEv, aTake, aLoad, aField, aIndex, aLen, aBin, bin2, aUn, un1, aExtract, aConv, ASt.get, aget, ASt.put, aStore, aBox, aAppend, aBuildSlice, aMake, aBuild, aFill, oneParts, allC, aBinS, yv, aCells, oneC, oneCL, treeC, treeL, treeML, treeM_c, treeM_sl, treeM_rp, treeM_any, treeM_fn, treeM_bfn, aLit, aDst, aSrc, appTab, Value.cells, Value.oneCell', envOf, aResL, aOne, ↓reduceIte, reduceCtorEq, forall_const, Nat.reduceLT, Nat.reduceEqDiff, Nat.reduceAdd, Nat.reduceMul, Nat.reduceSub, Nat.reduceLeDiff, Nat.reduceBEq, eq_self, implies_true, ne_eq, dref, dref1, dref2, aExecS, aStoreB, aTakes, aTakeE, aElder, aFrom, aFresh, isLoad, aBuildSlice1, frzs, frz1, ownIds, AV.frz, AV.frzL, frzEnv, AV.shift, AV.shiftL, aFieldV, aSliceW, aSliceO, aSlice, aSliceR, aSliceS, aBd, aMax, frzAVs, frzAV, frzTab, AObj.frz, aMM, aNilS, aMay, aNil, aLenM, aClear, aLookup, aLookG, aMapUpd, aMapPut, keyV, aLookR, false_or, aExecU, tyA_23, tyS_23] | (with_reducible refine aIf_split (fun _ => ?_) (fun _ => ?_)) | (with_reducible refine aSel_split (fun _ => ?_) (fun _ => ?_)) | (with_reducible refine aGd_split (fun _ => ?_) (fun _ => ?_))))
  refine callV (print_A _ (atQ_ok ho _)) ?_
  (repeat' (first | simp (maxSteps := 5000000) (implicitDefEqProofs := false) only [ruA, ruB, aEv, aTake, aLoad, aField, aIndex, aLen, aBin, bin2, aUn, un1, aExtract, aConv, ASt.get, aget, ASt.put, aStore, aBox, aAppend, aBuildSlice, aMake, aBuild, aFill, oneParts, allC, aBinS, yv, aCells, oneC, oneCL, treeC, treeL, treeML, treeM_c, treeM_sl, treeM_rp, treeM_any, treeM_fn, treeM_bfn, aLit, aDst, aSrc, appTab, Value.cells, Value.oneCell', envOf, aResL, aOne, ↓reduceIte, reduceCtorEq, forall_const, Nat.reduceLT, Nat.reduceEqDiff, Nat.reduceAdd, Nat.reduceMul, Nat.reduceSub, Nat.reduceLeDiff, Nat.reduceBEq, eq_self, implies_true, ne_eq, dref, dref1, dref2, aExecS, aStoreB, aTakes, aTakeE, aElder, aFrom, aFresh, isLoad, aBuildSlice1, frzs, frz1, ownIds, AV.frz, AV.frzL, frzEnv, AV.shift, AV.shiftL, aFieldV, aSliceW, aSliceO, aSlice, aSliceR, aSliceS, aBd, aMax, frzAVs, frzAV, frzTab, AObj.frz, aMM, aNilS, aMay, aNil, aLenM, aClear, aLookup, aLookG, aMapUpd, aMapPut, keyV, aLookR, false_or, aExecU, tyA_23, tyS_23] | (with_reducible refine aIf_split (fun _ => ?_) (fun _ => ?_)) | (with_reducible refine aSel_split (fun _ => ?_) (fun _ => ?_)) | (with_reducible refine aGd_split (fun _ => ?_) (fun _ => ?_))))
set_option maxRecDepth 100000 in
theorem cls2_A (next : List (List Int)) (c : List Int) (i : Nat) (hn : next.length ≤ 1000) (hr : ∀ r ∈ next, r.length ≤ 1000) (hc : c.length ≤ 1000000) (hco : ∀ x ∈ c, ok64 x) (hi : i < next.length) :
    ADet Tryd.prog 16 [eI (i : Int), .rp [sNx next], .rp [sI c]] (val (.string (keyB next c i))) := by
  refine adet_of_code mixedT Tryd.func16 rfl (by decide) Tryd.ntmps16 Tryd.results16 rfl (val_ok _) ?_
  (repeat' (first | simp (maxSteps := 5000000) (implicitDefEqProofs := false) only [ruA, ruB, aEv, aTake, aLoad, aField, aIndex, aLen, aBin, bin2, aUn, un1, aExtract, aConv, ASt.get, aget, ASt.put, aStore, aBox, aAppend, aBuildSlice, aMake, aBuild, aFill, oneParts, allC, aBinS, yv, aCells, oneC, oneCL, treeC, treeL, treeML, treeM_c, treeM_sl, treeM_rp, treeM_any, treeM_fn, treeM_bfn, aLit, aDst, aSrc, appTab, Value.cells, Value.oneCell', envOf, aResL, aOne, ↓reduceIte, reduceCtorEq, forall_const, Nat.reduceLT, Nat.reduceEqDiff, Nat.reduceAdd, Nat.reduceMul, Nat.reduceSub, Nat.reduceLeDiff, Nat.reduceBEq, eq_self, implies_true, ne_eq, dref, dref1, dref2, aExecS, aStoreB, aTakes, aTakeE, aElder, aFrom, aFresh, isLoad, aBuildSlice1, frzs, frz1, ownIds, AV.frz, AV.frzL, frzEnv, AV.shift, AV.shiftL, aFieldV, aSliceW, aSliceO, aSlice, aSliceR, aSliceS, aBd, aMax, frzAVs, frzAV, frzTab, AObj.frz, aMM, aNilS, aMay, aNil, aLenM, aClear, aLookup, aLookG, aMapUpd, aMapPut, keyV, aLookR, false_or, aExecU, tyA_22, tyS_22, tyA_23, tyS_23] | (with_reducible refine aIf_split (fun _ => ?_) (fun _ => ?_)) | (with_reducible refine aSel_split (fun _ => ?_) (fun _ => ?_)) | (with_reducible refine aGd_split (fun _ => ?_) (fun _ => ?_))))
  refine callV (key_A next c i hn hr hc hco hi) ?_
  (repeat' (first | simp (maxSteps := 5000000) (implicitDefEqProofs := false) only [ruA, ruB, aEv, aTake, aLoad, aField, aIndex, aLen, aBin, bin2, aUn, un1, aExtract, aConv, ASt.get, aget, ASt.put, aStore, aBox, aAppend, aBuildSlice, aMake, aBuild, aFill, oneParts, allC, aBinS, yv, aCells, oneC, oneCL, treeC, treeL, treeML, treeM_c, treeM_sl, treeM_rp, treeM_any, treeM_fn, treeM_bfn, aLit, aDst, aSrc, appTab, Value.cells, Value.oneCell', envOf, aResL, aOne, ↓reduceIte, reduceCtorEq, forall_const, Nat.reduceLT, Nat.reduceEqDiff, Nat.reduceAdd, Nat.reduceMul, Nat.reduceSub, Nat.reduceLeDiff, Nat.reduceBEq, eq_self, implies_true, ne_eq, dref, dref1, dref2, aExecS, aStoreB, aTakes, aTakeE, aElder, aFrom, aFresh, isLoad, aBuildSlice1, frzs, frz1, ownIds, AV.frz, AV.frzL, frzEnv, AV.shift, AV.shiftL, aFieldV, aSliceW, aSliceO, aSlice, aSliceR, aSliceS, aBd, aMax, frzAVs, frzAV, frzTab, AObj.frz, aMM, aNilS, aMay, aNil, aLenM, aClear, aLookup, aLookG, aMapUpd, aMapPut, keyV, aLookR, false_or, aExecU, tyA_22, tyS_22, tyA_23, tyS_23] | (with_reducible refine aIf_split (fun _ => ?_) (fun _ => ?_)) | (with_reducible refine aSel_split (fun _ => ?_) (fun _ => ?_)) | (with_reducible refine aGd_split (fun _ => ?_) (fun _ => ?_))))
end
section
open Go.RowKit
def ixD {κ : Type} [DecidableEq κ] (D : List κ) (k : κ) : Nat := D.idxOf k
theorem ixD_at {κ : Type} [DecidableEq κ] {D : List κ} (hn : D.Nodup) {i : Nat} (hi : i < D.length) : ixD D D[i] = i := idx_at hn hi
/-- a map from texts to numbers by first places -/
def entsF (D : List ByteArray) : List (Value × Value) := D.zipIdx.map fun p => (Value.string p.1, Value.int .i64 (p.2 : Int))
theorem entsF_mem {D : List ByteArray} {e : Value × Value} (h : e ∈ entsF D) : ∃ (i : Nat) (s : ByteArray), D[i]? = some s ∧ e = (.string s, .int .i64 (i : Int)) := by
  obtain ⟨⟨s, i⟩, hp, rfl⟩ := List.mem_map.1 h
  exact ⟨i, s, by have := List.mk_mem_zipIdx_iff_getElem?.1 hp; exact this, rfl⟩
theorem entsF_in {D : List ByteArray} {i : Nat} {s : ByteArray} (h : D[i]? = some s) : (Value.string s, Value.int .i64 (i : Int)) ∈ entsF D :=
  List.mem_map.2 ⟨(s, i), List.mk_mem_zipIdx_iff_getElem?.2 h, rfl⟩
theorem entsF_has {D : List ByteArray} (hn : D.Nodup) {s : ByteArray} {r : Option Value} (hr : MapHas (entsF D) (.string s) r) : (s ∈ D ∧ r = some (.int .i64 (ixD D s : Int))) ∨ (s ∉ D ∧ r = none) := by
  cases r with
  | some v =>
    left
    obtain ⟨i, t, h1, h2⟩ := entsF_mem hr
    simp only [Prod.mk.injEq, Value.string.injEq] at h2
    obtain ⟨rfl, rfl⟩ := h2
    have hlt := (List.getElem?_eq_some_iff.1 h1).1
    have he := (List.getElem?_eq_some_iff.1 h1).2
    refine ⟨List.mem_of_getElem? h1, ?_⟩
    rw [← he, ixD_at hn hlt]
  | none =>
    right
    refine ⟨fun hm => ?_, rfl⟩
    obtain ⟨i, hi⟩ := List.getElem?_of_mem hm
    exact hr _ (entsF_in hi) rfl
theorem entsF_put {D : List ByteArray} {s : ByteArray} {ents' : List (Value × Value)} (hs : s ∉ D) (hp : MapPut (entsF D) (.string s) (.int .i64 (D.length : Int)) ents') : ents' = entsF (D ++ [s]) := by
  rcases hp with ⟨j, o, h1, _⟩ | ⟨_, rfl⟩
  · obtain ⟨i, t, h2, h3⟩ := entsF_mem (List.mem_of_getElem? h1)
    simp only [Prod.mk.injEq, Value.string.injEq] at h3
    obtain ⟨rfl, _⟩ := h3
    exact absurd (List.mem_of_getElem? h2) hs
  · simp [entsF, List.zipIdx_append]
theorem entsF_len (D : List ByteArray) : (entsF D).length = D.length := by simp [entsF]
theorem keyedS : Maps.Keyed Tryd.prog 9 := Maps.string_keyed (by kernel_rfl)
theorem fitS {s : ByteArray} (h : s.size ≤ 1000000) : KeyFit Tryd.prog 9 (.string s) := by
  have hu : Tryd.prog.underlying 9 = some .string := by kernel_rfl
  have hm : s.size ≤ maxLen := by simp [maxLen]; omega
  exact ⟨.string s.data.toList, by simp [keyOf, hu, mapKey, hm]⟩
theorem mapFitS {D : List ByteArray} {s : ByteArray} (hD : ∀ x ∈ D, x.size ≤ 1000000) (hs : s.size ≤ 1000000) : MapFit Tryd.prog 9 (entsF D) (.string s) :=
  ⟨keyedS, fitS hs, fun e he => by
    obtain ⟨i, t, h1, rfl⟩ := entsF_mem he
    exact fitS (hD t (List.mem_of_getElem? h1))⟩
/-- what is written so far -/
def outF (ks : List ByteArray) (k : Nat) : List Int := (numF ks).take k ++ List.replicate (ks.length - k) 0
theorem outF_len (ks : List ByteArray) {k : Nat} (hk : k ≤ ks.length) : (outF ks k).length = ks.length := by
  simp [outF, numF_len]
  omega
theorem numF_step {κ : Type} [DecidableEq κ] (ks : List κ) {k : Nat} (hk : k < ks.length) : (ks[k] ∈ distF (ks.take k) → (numF ks)[k]'(by rw [numF_len]; exact hk) = (ixD (distF (ks.take k)) ks[k] : Int)) ∧ (ks[k] ∉ distF (ks.take k) → (numF ks)[k]'(by rw [numF_len]; exact hk) = ((distF (ks.take k)).length : Int)) := by
  have hpre : distF (ks.take (k + 1)) <+: distF ks := by
    have := distF_app (ks.take (k + 1)) (ks.drop (k + 1))
    rwa [List.take_append_drop] at this
  have hsn : distF (ks.take (k + 1)) = addD (distF (ks.take k)) ks[k] := by rw [List.take_succ_eq_append_getElem hk, distF_snoc]
  have e := idx_pre hpre (k := ks[k]) (by rw [hsn, addD_mem]; exact .inr rfl)
  rw [hsn] at e
  refine ⟨fun h => ?_, fun h => ?_⟩
  · rw [numF_at ks k hk, e, addD, if_pos h]
    rfl
  · rw [numF_at ks k hk, e, addD, if_neg h, List.idxOf_append, if_neg h]
    simp
theorem dist_old {κ : Type} [DecidableEq κ] (ks : List κ) {k : Nat} (hk : k < ks.length) (h : ks[k] ∈ distF (ks.take k)) : distF (ks.take (k + 1)) = distF (ks.take k) := by
  rw [List.take_succ_eq_append_getElem hk, distF_snoc, addD, if_pos h]
theorem dist_new {κ : Type} [DecidableEq κ] (ks : List κ) {k : Nat} (hk : k < ks.length) (h : ks[k] ∉ distF (ks.take k)) : distF (ks.take (k + 1)) = distF (ks.take k) ++ [ks[k]] := by
  rw [List.take_succ_eq_append_getElem hk, distF_snoc, addD, if_neg h]
theorem outF_set (ks : List ByteArray) {k : Nat} (hk : k < ks.length) {v : Int} (hv : (numF ks)[k]'(by rw [numF_len]; exact hk) = v) : (eIs (outF ks k)).set k [eI v] = eIs (outF ks (k + 1)) := by
  have e : (outF ks k).set k v = outF ks (k + 1) := by
    apply List.ext_getElem (by rw [List.length_set, outF_len _ (by omega), outF_len _ (by omega)])
    intro i h1 h2
    rw [List.length_set, outF_len _ (by omega)] at h1
    rw [List.getElem_set]
    have hn := numF_len ks
    split
    · rename_i h
      subst h
      rw [← hv]
      simp only [outF, List.getElem_append, List.length_take, hn]
      rw [dif_pos (by omega)]
      simp
    · rename_i h
      simp only [outF, List.getElem_append, List.length_take, hn]
      by_cases h3 : i < k
      · rw [dif_pos (by omega), dif_pos (by omega)]
        simp
      · rw [dif_neg (by omega), dif_neg (by omega)]
        simp
  rw [← e]
  simp [eIs, List.map_set]
theorem outF_all (ks : List ByteArray) : outF ks ks.length = numF ks := by simp [outF, numF_len, List.take_of_length_le]
theorem dist_take_sub (ks : List ByteArray) (k : Nat) {B : Nat} (h : ∀ x ∈ ks, x.size ≤ B) : ∀ x ∈ distF (ks.take k), x.size ≤ B := fun x hx => h x (List.mem_of_mem_take ((distF_mem _ _).1 hx))
/-- the numbers that rows hold -/
def intsOf (rows : List (List AV)) : List Int := rows.map fun r => match r with
  | [.c (.int _ x)] => x
  | _ => 0
theorem intsOf_eIs (l : List Int) : intsOf (eIs l) = l := by
  simp [intsOf, eIs, Function.comp_def]
def manySt (st : ASt) : Nat := match st.tab.get 2 with
  | some (.box _ [.sl _ rows]) => (manyF (intsOf rows)).toNat
  | _ => 0
theorem numF_bd {κ : Type} [DecidableEq κ] (ks : List κ) : ∀ x ∈ numF ks, 0 ≤ x ∧ x < ks.length := by
  intro x hx
  obtain ⟨k, hk, rfl⟩ := List.mem_map.1 hx
  have h1 := List.idxOf_lt_length_of_mem ((distF_mem ks k).2 hk)
  have h2 := nodup_sub _ ks (distF_nodup ks) fun x hx => (distF_mem _ _).1 hx
  omega
theorem itF_bd (next : List (List Int)) (col : List Int) (t : Nat) : ∀ x ∈ itF next col t, 0 ≤ x ∧ x < next.length := by
  cases t with
  | zero => intro x hx; have := numF_bd _ x hx; simpa [keys0] using this
  | succ t => intro x hx; have := numF_bd _ x hx; simpa [keysF] using this
def keysB0 (next : List (List Int)) (col : List Int) : List ByteArray := (keys0 next col).map itoaB
def keysB (next : List (List Int)) (c : List Int) : List ByteArray := (List.range next.length).map (keyB next c)
theorem keysB0_num (next : List (List Int)) (col : List Int) : numF (keysB0 next col) = itF next col 0 := numF_map _ fun a _ b _ h => itoa_inj (toQ_inj h)
theorem keysB_num (next : List (List Int)) (col : List Int) (t : Nat) : numF (keysB next (itF next col t)) = itF next col (t + 1) := by
  have : keysB next (itF next col t) = (keysF next (itF next col t)).map fun k => toQ (numsT k) := by simp [keysB, keysF, keyB, Function.comp_def]
  rw [this, numF_map]
  · rfl
  · intro a ha b hb h
    obtain ⟨i, _, rfl⟩ := List.mem_map.1 ha
    obtain ⟨j, _, rfl⟩ := List.mem_map.1 hb
    exact keyB_inj h
end
section
open Go.RowKit
/-- what quot.Classes gives: classes that no more are told apart -/
def ClsPost (next : List (List Int)) (col : List Int) (R : Res) : Prop := ∃ t, manyF (itF next col (t + 1)) = manyF (itF next col t) ∧ R = ⟨sI (itF next col t), [], 0⟩
theorem retS {Post : Res → Prop} {st : ASt} {sz : Nat} {rows : List (List AV)} (h : Post ⟨.sl sz rows, [], 0⟩) : ∃ R, Post R ∧ R.Ok ∧ aGives R st (.sl sz rows) :=
  ⟨_, h, ⟨fun id o h => (by cases h), trivial⟩, ⟨[], List.nodup_nil, rfl, trivial⟩⟩
theorem outF_len2 {ks : List ByteArray} {n k : Nat} (h : ks.length = n) (hk : k ≤ n) : (outF ks k).length = n := by
  rw [outF_len _ (by omega), h]
theorem i0n {k : Nat} : (0 : Int) ≤ (k : Int) := by omega
set_option maxRecDepth 100000 in
set_option maxHeartbeats 8000000 in
theorem classes_A (next : List (List Int)) (col : List Int) (hn : next.length ≤ 1000) (hr : ∀ r ∈ next, r.length ≤ 1000) (hc : col.length ≤ 1000000) (hco : ∀ x ∈ col, ok64 x) :
    ARel Tryd.prog 8 [sNx next, sI col] (ClsPost next col) := by
  refine arel_of_code mixedT Tryd.func8 rfl (by decide) Tryd.ntmps8 Tryd.results8 rfl ?_
  (repeat' (first | simp (maxSteps := 5000000) (implicitDefEqProofs := false) only [ruA, ruB, aEv, aTake, aLoad, aField, aIndex, aLen, aBin, bin2, aUn, un1, aExtract, aConv, ASt.get, aget, ASt.put, aStore, aBox, aAppend, aBuildSlice, aMake, aBuild, aFill, oneParts, allC, aBinS, yv, aCells, oneC, oneCL, treeC, treeL, treeML, treeM_c, treeM_sl, treeM_rp, treeM_any, treeM_fn, treeM_bfn, aLit, aDst, aSrc, appTab, Value.cells, Value.oneCell', envOf, aResL, aOne, ↓reduceIte, reduceCtorEq, forall_const, Nat.reduceLT, Nat.reduceEqDiff, Nat.reduceAdd, Nat.reduceMul, Nat.reduceSub, Nat.reduceLeDiff, Nat.reduceBEq, eq_self, implies_true, ne_eq, dref, dref1, dref2, aExecS, aStoreB, aTakes, aTakeE, aElder, aFrom, aFresh, isLoad, aBuildSlice1, frzs, frz1, ownIds, AV.frz, AV.frzL, frzEnv, AV.shift, AV.shiftL, aFieldV, aSliceW, aSliceO, aSlice, aSliceR, aSliceS, aBd, aMax, frzAVs, frzAV, frzTab, AObj.frz, aMM, aNilS, aMay, aNil, aLenM, aClear, aLookup, aLookG, aMapUpd, aMapPut, keyV, aLookR, false_or, aExecU, tyA_22, tyS_22, tyE_22, tyK_22, tyZ_23, tyS_23, tyA_23, tyK_3] | (with_reducible refine aIf_split (fun _ => ?_) (fun _ => ?_)) | (with_reducible refine aSel_split (fun _ => ?_) (fun _ => ?_)) | (with_reducible refine aGd_split (fun _ => ?_) (fun _ => ?_))))
  refine callI ?_
  refine inl_of_code0 mixedT Tryd.func12 rfl (by decide) Tryd.ntmps12 Tryd.results12 rfl (by kernel_rfl) [2, 5, 6] fun vs => ?_
  have hsz : ∀ x ∈ keysB0 next col, x.size ≤ 1000000 := fun x hx => by
    obtain ⟨a, ha, rfl⟩ := List.mem_map.1 hx
    obtain ⟨i, _, rfl⟩ := List.mem_map.1 ha
    have := itoa_len (atQ_ok hco (i : Int))
    rw [itoaB_toQ, size_toQ]
    omega
  have h00 : eIs (outF (keysB0 next col) 0) = List.replicate next.length [eI 0] := by simp [outF, keysB0, keys0, eIs]
  (repeat' (first | simp (maxSteps := 5000000) (implicitDefEqProofs := false) only [ruA, ruB, aEv, aTake, aLoad, aField, aIndex, aLen, aBin, bin2, aUn, un1, aExtract, aConv, ASt.get, aget, ASt.put, aStore, aBox, aAppend, aBuildSlice, aMake, aBuild, aFill, oneParts, allC, aBinS, yv, aCells, oneC, oneCL, treeC, treeL, treeML, treeM_c, treeM_sl, treeM_rp, treeM_any, treeM_fn, treeM_bfn, aLit, aDst, aSrc, appTab, Value.cells, Value.oneCell', envOf, aResL, aOne, ↓reduceIte, reduceCtorEq, forall_const, Nat.reduceLT, Nat.reduceEqDiff, Nat.reduceAdd, Nat.reduceMul, Nat.reduceSub, Nat.reduceLeDiff, Nat.reduceBEq, eq_self, implies_true, ne_eq, dref, dref1, dref2, aExecS, aStoreB, aTakes, aTakeE, aElder, aFrom, aFresh, isLoad, aBuildSlice1, frzs, frz1, ownIds, AV.frz, AV.frzL, frzEnv, AV.shift, AV.shiftL, aFieldV, aSliceW, aSliceO, aSlice, aSliceR, aSliceS, aBd, aMax, frzAVs, frzAV, frzTab, AObj.frz, aMM, aNilS, aMay, aNil, aLenM, aClear, aLookup, aLookG, aMapUpd, aMapPut, keyV, aLookR, false_or, aExecU, tyN_30, tyR_23, tyZ_3, tyE_23, tyK_23, tyK_3, tyE_30, tyK_30, tyS_3, live_nil, live_cons] | (with_reducible refine aIf_split (fun _ => ?_) (fun _ => ?_)) | (with_reducible refine aSel_split (fun _ => ?_) (fun _ => ?_)) | (with_reducible refine aGd_split (fun _ => ?_) (fun _ => ?_))))
  have hkl : (keysB0 next col).length = next.length := by simp [keysB0, keys0]
  refine ⟨by omega, ?_⟩
  refine aLoop_of (fun st => ∃ k : Nat, k ≤ next.length ∧ st = ⟨42, [(1, .osl 2), (2, .fn 13 [.op 1 0 0]), (7, .osl 4), (16, eI (next.length : Int)), (17, eI (k : Int))], [(0, some (.box 22 [sNx next])), (1, some (.box 23 [sI col])), (2, some (.map (entsF (distF ((keysB0 next col).take k))))), (4, some (.row 3 1 (eIs (outF (keysB0 next col) k)))), (3, some (.ghost vs [(2, .op 0 0 0), (5, .osl 2), (6, eI (next.length : Int))]))], 5⟩) (fun st => next.length - slotN st 17) ⟨_, (weak_cut1 (by (first | ((simp only [envIn, tabIn, envLt, tabLt, AObj.lt, AV.lt, AV.ltL, ruW, ASt.get, aget, ASt.put, ↓reduceIte, reduceCtorEq, Nat.reduceLT, Nat.reduceEqDiff, Nat.reduceAdd, Nat.reduceLeDiff, eq_self, implies_true, entsF, distF, List.take_zero, List.foldl_nil, List.zipIdx_nil, List.map_nil, h00]) <;> (repeat' apply And.intro) <;> first | (rw [wrapK (by omega)]; done) | (simp; done) | omega) | fail))), 0, Nat.zero_le _, rfl⟩ ?_
  rintro _ ⟨k, hk, rfl⟩
  by_cases hlt : k < next.length
  · have hk2 : k < (keysB0 next col).length := by omega
    obtain ⟨s, hs⟩ : ∃ s, s = (keysB0 next col)[k] := ⟨_, rfl⟩
    have hss : s.size ≤ 1000000 := hs ▸ hsz _ (List.getElem_mem hk2)
    have hD := dist_take_sub (keysB0 next col) k hsz
    have hnd := distF_nodup ((keysB0 next col).take k)
    have hDl : (distF ((keysB0 next col).take k)).length ≤ 1000 := by
      have := nodup_sub _ ((keysB0 next col).take k) (distF_nodup _) fun x hx => (distF_mem _ _).1 hx
      have := List.length_take_le k (keysB0 next col)
      omega
    have hol : (eIs (outF (keysB0 next col) k)).length = next.length := by rw [List.length_map, outF_len _ (by omega)]; exact hkl
    have hr0 : (eIs (outF (keysB0 next col) k))[k]?.getD [] = [eI ((outF (keysB0 next col) k).getD k 0)] := by
      have : k < (outF (keysB0 next col) k).length := by rw [outF_len _ (by omega)]; exact hk2
      simp [List.getD, this]
    have hcall := cls1_A col k hc hco
    have hkey : itoaB (atQ col (k : Int)) = s := by rw [hs]; simp [keysB0, keys0]
    rw [hkey] at hcall
    (repeat' (first | simp (maxSteps := 5000000) (implicitDefEqProofs := false) only [ruA, ruB, aEv, aTake, aLoad, aField, aIndex, aLen, aBin, bin2, aUn, un1, aExtract, aConv, ASt.get, aget, ASt.put, aStore, aBox, aAppend, aBuildSlice, aMake, aBuild, aFill, oneParts, allC, aBinS, yv, aCells, oneC, oneCL, treeC, treeL, treeML, treeM_c, treeM_sl, treeM_rp, treeM_any, treeM_fn, treeM_bfn, aLit, aDst, aSrc, appTab, Value.cells, Value.oneCell', envOf, aResL, aOne, ↓reduceIte, reduceCtorEq, forall_const, Nat.reduceLT, Nat.reduceEqDiff, Nat.reduceAdd, Nat.reduceMul, Nat.reduceSub, Nat.reduceLeDiff, Nat.reduceBEq, eq_self, implies_true, ne_eq, dref, dref1, dref2, aExecS, aStoreB, aTakes, aTakeE, aElder, aFrom, aFresh, isLoad, aBuildSlice1, frzs, frz1, ownIds, AV.frz, AV.frzL, frzEnv, AV.shift, AV.shiftL, aFieldV, aSliceW, aSliceO, aSlice, aSliceR, aSliceS, aBd, aMax, frzAVs, frzAV, frzTab, AObj.frz, aMM, aNilS, aMay, aNil, aLenM, aClear, aLookup, aLookG, aMapUpd, aMapPut, keyV, aLookR, false_or, aExecU, tyN_30, tyR_23, tyZ_3, tyE_23, tyK_23, tyK_3, tyE_30, tyK_30, tyS_3, hlt] | (with_reducible refine aIf_split (fun _ => ?_) (fun _ => ?_)) | (with_reducible refine aSel_split (fun _ => ?_) (fun _ => ?_)) | (with_reducible refine aGd_split (fun _ => ?_) (fun _ => ?_))))
    refine callV hcall ?_
    (repeat' (first | simp (maxSteps := 5000000) (implicitDefEqProofs := false) only [ruA, ruB, aEv, aTake, aLoad, aField, aIndex, aLen, aBin, bin2, aUn, un1, aExtract, aConv, ASt.get, aget, ASt.put, aStore, aBox, aAppend, aBuildSlice, aMake, aBuild, aFill, oneParts, allC, aBinS, yv, aCells, oneC, oneCL, treeC, treeL, treeML, treeM_c, treeM_sl, treeM_rp, treeM_any, treeM_fn, treeM_bfn, aLit, aDst, aSrc, appTab, Value.cells, Value.oneCell', envOf, aResL, aOne, ↓reduceIte, reduceCtorEq, forall_const, Nat.reduceLT, Nat.reduceEqDiff, Nat.reduceAdd, Nat.reduceMul, Nat.reduceSub, Nat.reduceLeDiff, Nat.reduceBEq, eq_self, implies_true, ne_eq, dref, dref1, dref2, aExecS, aStoreB, aTakes, aTakeE, aElder, aFrom, aFresh, isLoad, aBuildSlice1, frzs, frz1, ownIds, AV.frz, AV.frzL, frzEnv, AV.shift, AV.shiftL, aFieldV, aSliceW, aSliceO, aSlice, aSliceR, aSliceS, aBd, aMax, frzAVs, frzAV, frzTab, AObj.frz, aMM, aNilS, aMay, aNil, aLenM, aClear, aLookup, aLookG, aMapUpd, aMapPut, keyV, aLookR, false_or, aExecU, tyN_30, tyR_23, tyZ_3, tyE_23, tyK_23, tyK_3, tyE_30, tyK_30, tyS_3] | (with_reducible refine aIf_split (fun _ => ?_) (fun _ => ?_)) | (with_reducible refine aSel_split (fun _ => ?_) (fun _ => ?_)) | (with_reducible refine aGd_split (fun _ => ?_) (fun _ => ?_))))
    refine ⟨mapFitS hD hss, fun q hq => ?_⟩
    rcases entsF_has hnd hq with ⟨hin, rfl⟩ | ⟨hin, rfl⟩
    · have hst := outF_set (keysB0 next col) hk2 ((numF_step (keysB0 next col) hk2).1 (hs ▸ hin))
      have hdo := dist_old (keysB0 next col) hk2 (hs ▸ hin)
      rw [← hs] at hst
      (repeat' (first | simp (maxSteps := 5000000) (implicitDefEqProofs := false) only [ruA, ruB, aEv, aTake, aLoad, aField, aIndex, aLen, aBin, bin2, aUn, un1, aExtract, aConv, ASt.get, aget, ASt.put, aStore, aBox, aAppend, aBuildSlice, aMake, aBuild, aFill, oneParts, allC, aBinS, yv, aCells, oneC, oneCL, treeC, treeL, treeML, treeM_c, treeM_sl, treeM_rp, treeM_any, treeM_fn, treeM_bfn, aLit, aDst, aSrc, appTab, Value.cells, Value.oneCell', envOf, aResL, aOne, ↓reduceIte, reduceCtorEq, forall_const, Nat.reduceLT, Nat.reduceEqDiff, Nat.reduceAdd, Nat.reduceMul, Nat.reduceSub, Nat.reduceLeDiff, Nat.reduceBEq, eq_self, implies_true, ne_eq, dref, dref1, dref2, aExecS, aStoreB, aTakes, aTakeE, aElder, aFrom, aFresh, isLoad, aBuildSlice1, frzs, frz1, ownIds, AV.frz, AV.frzL, frzEnv, AV.shift, AV.shiftL, aFieldV, aSliceW, aSliceO, aSlice, aSliceR, aSliceS, aBd, aMax, frzAVs, frzAV, frzTab, AObj.frz, aMM, aNilS, aMay, aNil, aLenM, aClear, aLookup, aLookG, aMapUpd, aMapPut, keyV, aLookR, false_or, aExecU, tyN_30, tyR_23, tyZ_3, tyE_23, tyK_23, tyK_3, tyE_30, tyK_30, tyS_3, hlt, hol, hr0, hst, i0n, List.length_map, outF_len2 hkl hk] | (with_reducible refine aIf_split (fun _ => ?_) (fun _ => ?_)) | (with_reducible refine aSel_split (fun _ => ?_) (fun _ => ?_)) | (with_reducible refine aGd_split (fun _ => ?_) (fun _ => ?_))))
      exact roundI (weak_cut1 (by (first | ((simp only [envIn, tabIn, envLt, tabLt, AObj.lt, AV.lt, AV.ltL, ruW, ASt.get, aget, ASt.put, ↓reduceIte, reduceCtorEq, Nat.reduceLT, Nat.reduceEqDiff, Nat.reduceAdd, Nat.reduceLeDiff, eq_self, implies_true, hdo]) <;> (repeat' apply And.intro) <;> first | (rw [wrapK (by omega)]; done) | (simp; done) | omega) | fail))) ⟨k + 1, by omega, rfl⟩ (by simp only [slotN, ruW, ASt.get, aget, ASt.put, ↓reduceIte, reduceCtorEq, Nat.reduceLT, Nat.reduceEqDiff, Nat.reduceAdd, Nat.reduceLeDiff, eq_self, implies_true]; omega)
    · have hst := outF_set (keysB0 next col) hk2 ((numF_step (keysB0 next col) hk2).2 (hs ▸ hin))
      have hdo := dist_new (keysB0 next col) hk2 (hs ▸ hin)
      rw [← hs] at hdo
      (repeat' (first | simp (maxSteps := 5000000) (implicitDefEqProofs := false) only [ruA, ruB, aEv, aTake, aLoad, aField, aIndex, aLen, aBin, bin2, aUn, un1, aExtract, aConv, ASt.get, aget, ASt.put, aStore, aBox, aAppend, aBuildSlice, aMake, aBuild, aFill, oneParts, allC, aBinS, yv, aCells, oneC, oneCL, treeC, treeL, treeML, treeM_c, treeM_sl, treeM_rp, treeM_any, treeM_fn, treeM_bfn, aLit, aDst, aSrc, appTab, Value.cells, Value.oneCell', envOf, aResL, aOne, ↓reduceIte, reduceCtorEq, forall_const, Nat.reduceLT, Nat.reduceEqDiff, Nat.reduceAdd, Nat.reduceMul, Nat.reduceSub, Nat.reduceLeDiff, Nat.reduceBEq, eq_self, implies_true, ne_eq, dref, dref1, dref2, aExecS, aStoreB, aTakes, aTakeE, aElder, aFrom, aFresh, isLoad, aBuildSlice1, frzs, frz1, ownIds, AV.frz, AV.frzL, frzEnv, AV.shift, AV.shiftL, aFieldV, aSliceW, aSliceO, aSlice, aSliceR, aSliceS, aBd, aMax, frzAVs, frzAV, frzTab, AObj.frz, aMM, aNilS, aMay, aNil, aLenM, aClear, aLookup, aLookG, aMapUpd, aMapPut, keyV, aLookR, false_or, aExecU, tyN_30, tyR_23, tyZ_3, tyE_23, tyK_23, tyK_3, tyE_30, tyK_30, tyS_3, entsF_len, hlt, hol, hr0, hst, i0n, List.length_map, outF_len2 hkl hk] | (with_reducible refine aIf_split (fun _ => ?_) (fun _ => ?_)) | (with_reducible refine aSel_split (fun _ => ?_) (fun _ => ?_)) | (with_reducible refine aGd_split (fun _ => ?_) (fun _ => ?_))))
      refine ⟨mapFitS hD hss, fun ents' hp => ?_⟩
      obtain rfl := entsF_put hin hp
      exact roundI (weak_cut1 (by (first | ((simp only [envIn, tabIn, envLt, tabLt, AObj.lt, AV.lt, AV.ltL, ruW, ASt.get, aget, ASt.put, ↓reduceIte, reduceCtorEq, Nat.reduceLT, Nat.reduceEqDiff, Nat.reduceAdd, Nat.reduceLeDiff, eq_self, implies_true, hdo]) <;> (repeat' apply And.intro) <;> first | (rw [wrapK (by omega)]; done) | (simp; done) | omega) | fail))) ⟨k + 1, by omega, rfl⟩ (by simp only [slotN, ruW, ASt.get, aget, ASt.put, ↓reduceIte, reduceCtorEq, Nat.reduceLT, Nat.reduceEqDiff, Nat.reduceAdd, Nat.reduceLeDiff, eq_self, implies_true]; omega)
  obtain rfl : k = next.length := by omega
  have hall : outF (keysB0 next col) next.length = itF next col 0 := by
    have := outF_all (keysB0 next col)
    rw [hkl] at this
    rw [this, keysB0_num]
  (repeat' (first | simp (maxSteps := 5000000) (implicitDefEqProofs := false) only [ruA, ruB, aEv, aTake, aLoad, aField, aIndex, aLen, aBin, bin2, aUn, un1, aExtract, aConv, ASt.get, aget, ASt.put, aStore, aBox, aAppend, aBuildSlice, aMake, aBuild, aFill, oneParts, allC, aBinS, yv, aCells, oneC, oneCL, treeC, treeL, treeML, treeM_c, treeM_sl, treeM_rp, treeM_any, treeM_fn, treeM_bfn, aLit, aDst, aSrc, appTab, Value.cells, Value.oneCell', envOf, aResL, aOne, ↓reduceIte, reduceCtorEq, forall_const, Nat.reduceLT, Nat.reduceEqDiff, Nat.reduceAdd, Nat.reduceMul, Nat.reduceSub, Nat.reduceLeDiff, Nat.reduceBEq, eq_self, implies_true, ne_eq, dref, dref1, dref2, aExecS, aStoreB, aTakes, aTakeE, aElder, aFrom, aFresh, isLoad, aBuildSlice1, frzs, frz1, ownIds, AV.frz, AV.frzL, frzEnv, AV.shift, AV.shiftL, aFieldV, aSliceW, aSliceO, aSlice, aSliceR, aSliceS, aBd, aMax, frzAVs, frzAV, frzTab, AObj.frz, aMM, aNilS, aMay, aNil, aLenM, aClear, aLookup, aLookG, aMapUpd, aMapPut, keyV, aLookR, false_or, aExecU, tyN_30, tyR_23, tyZ_3, tyE_23, tyK_23, tyK_3, tyE_30, tyK_30, tyS_3, hlt] | (with_reducible refine aIf_split (fun _ => ?_) (fun _ => ?_)) | (with_reducible refine aSel_split (fun _ => ?_) (fun _ => ?_)) | (with_reducible refine aGd_split (fun _ => ?_) (fun _ => ?_))))
  (repeat' (first | simp (maxSteps := 5000000) (implicitDefEqProofs := false) only [ruA, ruB, aEv, aTake, aLoad, aField, aIndex, aLen, aBin, bin2, aUn, un1, aExtract, aConv, ASt.get, aget, ASt.put, aStore, aBox, aAppend, aBuildSlice, aMake, aBuild, aFill, oneParts, allC, aBinS, yv, aCells, oneC, oneCL, treeC, treeL, treeML, treeM_c, treeM_sl, treeM_rp, treeM_any, treeM_fn, treeM_bfn, aLit, aDst, aSrc, appTab, Value.cells, Value.oneCell', envOf, aResL, aOne, ↓reduceIte, reduceCtorEq, forall_const, Nat.reduceLT, Nat.reduceEqDiff, Nat.reduceAdd, Nat.reduceMul, Nat.reduceSub, Nat.reduceLeDiff, Nat.reduceBEq, eq_self, implies_true, ne_eq, dref, dref1, dref2, aExecS, aStoreB, aTakes, aTakeE, aElder, aFrom, aFresh, isLoad, aBuildSlice1, frzs, frz1, ownIds, AV.frz, AV.frzL, frzEnv, AV.shift, AV.shiftL, aFieldV, aSliceW, aSliceO, aSlice, aSliceR, aSliceS, aBd, aMax, frzAVs, frzAV, frzTab, AObj.frz, aMM, aNilS, aMay, aNil, aLenM, aClear, aLookup, aLookG, aMapUpd, aMapPut, keyV, aLookR, false_or, aExecU, tyA_22, tyS_22, tyE_22, tyK_22, tyZ_23, tyS_23, tyA_23, tyK_3, aRetI_n, aRetI_r, aBack, live_nil, live_cons, shiftT_nil, shiftT_some, shiftT_none, AObj.shift, shiftEnv, hall] | (with_reducible refine aIf_split (fun _ => ?_) (fun _ => ?_)) | (with_reducible refine aSel_split (fun _ => ?_) (fun _ => ?_)) | (with_reducible refine aGd_split (fun _ => ?_) (fun _ => ?_))))
  have htkn : distF ((keysB0 next col).take next.length) = distF (keysB0 next col) := by rw [List.take_of_length_le (by omega)]
  refine aLoop_of (fun st => ∃ (t : Nat) (ents : List (Value × Value)), st = ⟨27, [(2, .op 0 0 0), (5, .osl 1), (6, eI (next.length : Int)), (7, .op 2 0 0)], [(0, some (.box 22 [sNx next])), (1, some (.map ents)), (2, some (.box 23 [sI (itF next col t)]))], 3⟩) (fun st => next.length + 1 - manySt st) ?_ ?_
  · refine ⟨_, (weak_frz _ 7).trans ?_, 0, entsF (distF (keysB0 next col)), rfl⟩
    simp only [frz1, frzEnv, frzTab, ATab.get_cons, AObj.frz, AV.frz, AV.frzL, ↓reduceIte, Nat.reduceEqDiff, Option.map_some, Nat.one_ne_zero, reduceCtorEq, Nat.succ_ne_self, Option.map_none]
    exact (weak_ren1 [3, 5, 8] ⟨(by decide), (by (first | ((simp only [envInR, tabInR, envLt, tabLt, AObj.lt, AV.lt, AV.ltL, AV.ren, AV.renL, AObj.ren, List.getD_cons_zero, List.getD_cons_succ, List.length_cons, List.length_nil, ruW, ASt.get, aget, ASt.put, ↓reduceIte, reduceCtorEq, Nat.reduceLT, Nat.reduceEqDiff, Nat.reduceAdd, Nat.reduceLeDiff, eq_self, implies_true, htkn]) <;> (repeat' apply And.intro) <;> first | (rw [wrapK (by omega)]; done) | (simp; done) | omega) | fail))⟩)
  rintro _ ⟨t, ents, rfl⟩
  have htl : (itF next col t).length ≤ 1000000 := by rw [itF_len]; omega
  have htl2 : (itF next col (t + 1)).length ≤ 1000000 := by rw [itF_len]; omega
  have hto : ∀ x ∈ itF next col t, ok64 x := fun x hx => by
    have := itF_bd next col t x hx
    unfold ok64
    omega
  have hbd : ∀ t, ∀ x ∈ itF next col t, 0 ≤ x ∧ x ≤ 1000000 := fun t x hx => by
    have := itF_bd next col t x hx
    omega
  have hsz : ∀ x ∈ keysB next (itF next col t), x.size ≤ 1000000 := fun x hx => by
    obtain ⟨i, _, rfl⟩ := List.mem_map.1 hx
    have h1 := numsT_len (atQ_ok hto (i : Int)) (behF_ok (next := next) (i := i) hto)
    have h2 := behF_len (c := itF next col t) (i := i) hr
    rw [keyB, size_toQ]
    unfold keyQ
    omega
  have h00 : eIs (outF (keysB next (itF next col t)) 0) = List.replicate next.length [eI 0] := by simp [outF, keysB, eIs]
  (repeat' (first | simp (maxSteps := 5000000) (implicitDefEqProofs := false) only [ruA, ruB, aEv, aTake, aLoad, aField, aIndex, aLen, aBin, bin2, aUn, un1, aExtract, aConv, ASt.get, aget, ASt.put, aStore, aBox, aAppend, aBuildSlice, aMake, aBuild, aFill, oneParts, allC, aBinS, yv, aCells, oneC, oneCL, treeC, treeL, treeML, treeM_c, treeM_sl, treeM_rp, treeM_any, treeM_fn, treeM_bfn, aLit, aDst, aSrc, appTab, Value.cells, Value.oneCell', envOf, aResL, aOne, ↓reduceIte, reduceCtorEq, forall_const, Nat.reduceLT, Nat.reduceEqDiff, Nat.reduceAdd, Nat.reduceMul, Nat.reduceSub, Nat.reduceLeDiff, Nat.reduceBEq, eq_self, implies_true, ne_eq, dref, dref1, dref2, aExecS, aStoreB, aTakes, aTakeE, aElder, aFrom, aFresh, isLoad, aBuildSlice1, frzs, frz1, ownIds, AV.frz, AV.frzL, frzEnv, AV.shift, AV.shiftL, aFieldV, aSliceW, aSliceO, aSlice, aSliceR, aSliceS, aBd, aMax, frzAVs, frzAV, frzTab, AObj.frz, aMM, aNilS, aMay, aNil, aLenM, aClear, aLookup, aLookG, aMapUpd, aMapPut, keyV, aLookR, false_or, aExecU, tyA_22, tyS_22, tyE_22, tyK_22, tyZ_23, tyS_23, tyA_23, tyK_3] | (with_reducible refine aIf_split (fun _ => ?_) (fun _ => ?_)) | (with_reducible refine aSel_split (fun _ => ?_) (fun _ => ?_)) | (with_reducible refine aGd_split (fun _ => ?_) (fun _ => ?_))))
  refine callI ?_
  refine inl_of_code0 mixedT Tryd.func12 rfl (by decide) Tryd.ntmps12 Tryd.results12 rfl (by kernel_rfl) [2, 5, 6, 7] fun vs2 => ?_
  (repeat' (first | simp (maxSteps := 5000000) (implicitDefEqProofs := false) only [ruA, ruB, aEv, aTake, aLoad, aField, aIndex, aLen, aBin, bin2, aUn, un1, aExtract, aConv, ASt.get, aget, ASt.put, aStore, aBox, aAppend, aBuildSlice, aMake, aBuild, aFill, oneParts, allC, aBinS, yv, aCells, oneC, oneCL, treeC, treeL, treeML, treeM_c, treeM_sl, treeM_rp, treeM_any, treeM_fn, treeM_bfn, aLit, aDst, aSrc, appTab, Value.cells, Value.oneCell', envOf, aResL, aOne, ↓reduceIte, reduceCtorEq, forall_const, Nat.reduceLT, Nat.reduceEqDiff, Nat.reduceAdd, Nat.reduceMul, Nat.reduceSub, Nat.reduceLeDiff, Nat.reduceBEq, eq_self, implies_true, ne_eq, dref, dref1, dref2, aExecS, aStoreB, aTakes, aTakeE, aElder, aFrom, aFresh, isLoad, aBuildSlice1, frzs, frz1, ownIds, AV.frz, AV.frzL, frzEnv, AV.shift, AV.shiftL, aFieldV, aSliceW, aSliceO, aSlice, aSliceR, aSliceS, aBd, aMax, frzAVs, frzAV, frzTab, AObj.frz, aMM, aNilS, aMay, aNil, aLenM, aClear, aLookup, aLookG, aMapUpd, aMapPut, keyV, aLookR, false_or, aExecU, tyN_30, tyR_23, tyZ_3, tyE_23, tyK_23, tyK_3, tyE_30, tyK_30, tyS_3, live_nil, live_cons] | (with_reducible refine aIf_split (fun _ => ?_) (fun _ => ?_)) | (with_reducible refine aSel_split (fun _ => ?_) (fun _ => ?_)) | (with_reducible refine aGd_split (fun _ => ?_) (fun _ => ?_))))
  have hkl : (keysB next (itF next col t)).length = next.length := by simp [keysB]
  refine ⟨by omega, ?_⟩
  refine aLoop_of (fun st => ∃ k : Nat, k ≤ next.length ∧ st = ⟨42, [(1, .osl 1), (2, .fn 16 [.op 0 0 0, .op 2 0 0]), (7, .osl 4), (16, eI (next.length : Int)), (17, eI (k : Int))], [(0, some (.box 22 [sNx next])), (2, some (.box 23 [sI (itF next col t)])), (1, some (.map (entsF (distF ((keysB next (itF next col t)).take k))))), (4, some (.row 3 1 (eIs (outF (keysB next (itF next col t)) k)))), (3, some (.ghost vs2 [(2, .op 0 0 0), (5, .osl 1), (6, eI (next.length : Int)), (7, .op 2 0 0)]))], 5⟩) (fun st => next.length - slotN st 17) ⟨_, (weak_cut1 (by (first | ((simp only [envIn, tabIn, envLt, tabLt, AObj.lt, AV.lt, AV.ltL, ruW, ASt.get, aget, ASt.put, ↓reduceIte, reduceCtorEq, Nat.reduceLT, Nat.reduceEqDiff, Nat.reduceAdd, Nat.reduceLeDiff, eq_self, implies_true, entsF, distF, List.take_zero, List.foldl_nil, List.zipIdx_nil, List.map_nil, h00]) <;> (repeat' apply And.intro) <;> first | (rw [wrapK (by omega)]; done) | (simp; done) | omega) | fail))), 0, Nat.zero_le _, rfl⟩ ?_
  rintro _ ⟨k, hk, rfl⟩
  by_cases hlt : k < next.length
  · have hk2 : k < (keysB next (itF next col t)).length := by omega
    obtain ⟨s, hs⟩ : ∃ s, s = (keysB next (itF next col t))[k] := ⟨_, rfl⟩
    have hss : s.size ≤ 1000000 := hs ▸ hsz _ (List.getElem_mem hk2)
    have hD := dist_take_sub (keysB next (itF next col t)) k hsz
    have hnd := distF_nodup ((keysB next (itF next col t)).take k)
    have hDl : (distF ((keysB next (itF next col t)).take k)).length ≤ 1000 := by
      have := nodup_sub _ ((keysB next (itF next col t)).take k) (distF_nodup _) fun x hx => (distF_mem _ _).1 hx
      have := List.length_take_le k (keysB next (itF next col t))
      omega
    have hol : (eIs (outF (keysB next (itF next col t)) k)).length = next.length := by rw [List.length_map, outF_len _ (by omega)]; exact hkl
    have hr0 : (eIs (outF (keysB next (itF next col t)) k))[k]?.getD [] = [eI ((outF (keysB next (itF next col t)) k).getD k 0)] := by
      have : k < (outF (keysB next (itF next col t)) k).length := by rw [outF_len _ (by omega)]; exact hk2
      simp [List.getD, this]
    have hcall := cls2_A next (itF next col t) k hn hr htl hto (by omega)
    have hkey : keyB next (itF next col t) k = s := by rw [hs]; simp [keysB]
    rw [hkey] at hcall
    (repeat' (first | simp (maxSteps := 5000000) (implicitDefEqProofs := false) only [ruA, ruB, aEv, aTake, aLoad, aField, aIndex, aLen, aBin, bin2, aUn, un1, aExtract, aConv, ASt.get, aget, ASt.put, aStore, aBox, aAppend, aBuildSlice, aMake, aBuild, aFill, oneParts, allC, aBinS, yv, aCells, oneC, oneCL, treeC, treeL, treeML, treeM_c, treeM_sl, treeM_rp, treeM_any, treeM_fn, treeM_bfn, aLit, aDst, aSrc, appTab, Value.cells, Value.oneCell', envOf, aResL, aOne, ↓reduceIte, reduceCtorEq, forall_const, Nat.reduceLT, Nat.reduceEqDiff, Nat.reduceAdd, Nat.reduceMul, Nat.reduceSub, Nat.reduceLeDiff, Nat.reduceBEq, eq_self, implies_true, ne_eq, dref, dref1, dref2, aExecS, aStoreB, aTakes, aTakeE, aElder, aFrom, aFresh, isLoad, aBuildSlice1, frzs, frz1, ownIds, AV.frz, AV.frzL, frzEnv, AV.shift, AV.shiftL, aFieldV, aSliceW, aSliceO, aSlice, aSliceR, aSliceS, aBd, aMax, frzAVs, frzAV, frzTab, AObj.frz, aMM, aNilS, aMay, aNil, aLenM, aClear, aLookup, aLookG, aMapUpd, aMapPut, keyV, aLookR, false_or, aExecU, tyN_30, tyR_23, tyZ_3, tyE_23, tyK_23, tyK_3, tyE_30, tyK_30, tyS_3, hlt] | (with_reducible refine aIf_split (fun _ => ?_) (fun _ => ?_)) | (with_reducible refine aSel_split (fun _ => ?_) (fun _ => ?_)) | (with_reducible refine aGd_split (fun _ => ?_) (fun _ => ?_))))
    refine callV hcall ?_
    (repeat' (first | simp (maxSteps := 5000000) (implicitDefEqProofs := false) only [ruA, ruB, aEv, aTake, aLoad, aField, aIndex, aLen, aBin, bin2, aUn, un1, aExtract, aConv, ASt.get, aget, ASt.put, aStore, aBox, aAppend, aBuildSlice, aMake, aBuild, aFill, oneParts, allC, aBinS, yv, aCells, oneC, oneCL, treeC, treeL, treeML, treeM_c, treeM_sl, treeM_rp, treeM_any, treeM_fn, treeM_bfn, aLit, aDst, aSrc, appTab, Value.cells, Value.oneCell', envOf, aResL, aOne, ↓reduceIte, reduceCtorEq, forall_const, Nat.reduceLT, Nat.reduceEqDiff, Nat.reduceAdd, Nat.reduceMul, Nat.reduceSub, Nat.reduceLeDiff, Nat.reduceBEq, eq_self, implies_true, ne_eq, dref, dref1, dref2, aExecS, aStoreB, aTakes, aTakeE, aElder, aFrom, aFresh, isLoad, aBuildSlice1, frzs, frz1, ownIds, AV.frz, AV.frzL, frzEnv, AV.shift, AV.shiftL, aFieldV, aSliceW, aSliceO, aSlice, aSliceR, aSliceS, aBd, aMax, frzAVs, frzAV, frzTab, AObj.frz, aMM, aNilS, aMay, aNil, aLenM, aClear, aLookup, aLookG, aMapUpd, aMapPut, keyV, aLookR, false_or, aExecU, tyN_30, tyR_23, tyZ_3, tyE_23, tyK_23, tyK_3, tyE_30, tyK_30, tyS_3] | (with_reducible refine aIf_split (fun _ => ?_) (fun _ => ?_)) | (with_reducible refine aSel_split (fun _ => ?_) (fun _ => ?_)) | (with_reducible refine aGd_split (fun _ => ?_) (fun _ => ?_))))
    refine ⟨mapFitS hD hss, fun q hq => ?_⟩
    rcases entsF_has hnd hq with ⟨hin, rfl⟩ | ⟨hin, rfl⟩
    · have hst := outF_set (keysB next (itF next col t)) hk2 ((numF_step (keysB next (itF next col t)) hk2).1 (hs ▸ hin))
      have hdo := dist_old (keysB next (itF next col t)) hk2 (hs ▸ hin)
      rw [← hs] at hst
      (repeat' (first | simp (maxSteps := 5000000) (implicitDefEqProofs := false) only [ruA, ruB, aEv, aTake, aLoad, aField, aIndex, aLen, aBin, bin2, aUn, un1, aExtract, aConv, ASt.get, aget, ASt.put, aStore, aBox, aAppend, aBuildSlice, aMake, aBuild, aFill, oneParts, allC, aBinS, yv, aCells, oneC, oneCL, treeC, treeL, treeML, treeM_c, treeM_sl, treeM_rp, treeM_any, treeM_fn, treeM_bfn, aLit, aDst, aSrc, appTab, Value.cells, Value.oneCell', envOf, aResL, aOne, ↓reduceIte, reduceCtorEq, forall_const, Nat.reduceLT, Nat.reduceEqDiff, Nat.reduceAdd, Nat.reduceMul, Nat.reduceSub, Nat.reduceLeDiff, Nat.reduceBEq, eq_self, implies_true, ne_eq, dref, dref1, dref2, aExecS, aStoreB, aTakes, aTakeE, aElder, aFrom, aFresh, isLoad, aBuildSlice1, frzs, frz1, ownIds, AV.frz, AV.frzL, frzEnv, AV.shift, AV.shiftL, aFieldV, aSliceW, aSliceO, aSlice, aSliceR, aSliceS, aBd, aMax, frzAVs, frzAV, frzTab, AObj.frz, aMM, aNilS, aMay, aNil, aLenM, aClear, aLookup, aLookG, aMapUpd, aMapPut, keyV, aLookR, false_or, aExecU, tyN_30, tyR_23, tyZ_3, tyE_23, tyK_23, tyK_3, tyE_30, tyK_30, tyS_3, hlt, hol, hr0, hst, i0n, List.length_map, outF_len2 hkl hk] | (with_reducible refine aIf_split (fun _ => ?_) (fun _ => ?_)) | (with_reducible refine aSel_split (fun _ => ?_) (fun _ => ?_)) | (with_reducible refine aGd_split (fun _ => ?_) (fun _ => ?_))))
      exact roundI (weak_cut1 (by (first | ((simp only [envIn, tabIn, envLt, tabLt, AObj.lt, AV.lt, AV.ltL, ruW, ASt.get, aget, ASt.put, ↓reduceIte, reduceCtorEq, Nat.reduceLT, Nat.reduceEqDiff, Nat.reduceAdd, Nat.reduceLeDiff, eq_self, implies_true, hdo]) <;> (repeat' apply And.intro) <;> first | (rw [wrapK (by omega)]; done) | (simp; done) | omega) | fail))) ⟨k + 1, by omega, rfl⟩ (by simp only [slotN, ruW, ASt.get, aget, ASt.put, ↓reduceIte, reduceCtorEq, Nat.reduceLT, Nat.reduceEqDiff, Nat.reduceAdd, Nat.reduceLeDiff, eq_self, implies_true]; omega)
    · have hst := outF_set (keysB next (itF next col t)) hk2 ((numF_step (keysB next (itF next col t)) hk2).2 (hs ▸ hin))
      have hdo := dist_new (keysB next (itF next col t)) hk2 (hs ▸ hin)
      rw [← hs] at hdo
      (repeat' (first | simp (maxSteps := 5000000) (implicitDefEqProofs := false) only [ruA, ruB, aEv, aTake, aLoad, aField, aIndex, aLen, aBin, bin2, aUn, un1, aExtract, aConv, ASt.get, aget, ASt.put, aStore, aBox, aAppend, aBuildSlice, aMake, aBuild, aFill, oneParts, allC, aBinS, yv, aCells, oneC, oneCL, treeC, treeL, treeML, treeM_c, treeM_sl, treeM_rp, treeM_any, treeM_fn, treeM_bfn, aLit, aDst, aSrc, appTab, Value.cells, Value.oneCell', envOf, aResL, aOne, ↓reduceIte, reduceCtorEq, forall_const, Nat.reduceLT, Nat.reduceEqDiff, Nat.reduceAdd, Nat.reduceMul, Nat.reduceSub, Nat.reduceLeDiff, Nat.reduceBEq, eq_self, implies_true, ne_eq, dref, dref1, dref2, aExecS, aStoreB, aTakes, aTakeE, aElder, aFrom, aFresh, isLoad, aBuildSlice1, frzs, frz1, ownIds, AV.frz, AV.frzL, frzEnv, AV.shift, AV.shiftL, aFieldV, aSliceW, aSliceO, aSlice, aSliceR, aSliceS, aBd, aMax, frzAVs, frzAV, frzTab, AObj.frz, aMM, aNilS, aMay, aNil, aLenM, aClear, aLookup, aLookG, aMapUpd, aMapPut, keyV, aLookR, false_or, aExecU, tyN_30, tyR_23, tyZ_3, tyE_23, tyK_23, tyK_3, tyE_30, tyK_30, tyS_3, entsF_len, hlt, hol, hr0, hst, i0n, List.length_map, outF_len2 hkl hk] | (with_reducible refine aIf_split (fun _ => ?_) (fun _ => ?_)) | (with_reducible refine aSel_split (fun _ => ?_) (fun _ => ?_)) | (with_reducible refine aGd_split (fun _ => ?_) (fun _ => ?_))))
      refine ⟨mapFitS hD hss, fun ents' hp => ?_⟩
      obtain rfl := entsF_put hin hp
      exact roundI (weak_cut1 (by (first | ((simp only [envIn, tabIn, envLt, tabLt, AObj.lt, AV.lt, AV.ltL, ruW, ASt.get, aget, ASt.put, ↓reduceIte, reduceCtorEq, Nat.reduceLT, Nat.reduceEqDiff, Nat.reduceAdd, Nat.reduceLeDiff, eq_self, implies_true, hdo]) <;> (repeat' apply And.intro) <;> first | (rw [wrapK (by omega)]; done) | (simp; done) | omega) | fail))) ⟨k + 1, by omega, rfl⟩ (by simp only [slotN, ruW, ASt.get, aget, ASt.put, ↓reduceIte, reduceCtorEq, Nat.reduceLT, Nat.reduceEqDiff, Nat.reduceAdd, Nat.reduceLeDiff, eq_self, implies_true]; omega)
  obtain rfl : k = next.length := by omega
  have hall : outF (keysB next (itF next col t)) next.length = itF next col (t + 1) := by
    have := outF_all (keysB next (itF next col t))
    rw [hkl] at this
    rw [this, keysB_num]
  (repeat' (first | simp (maxSteps := 5000000) (implicitDefEqProofs := false) only [ruA, ruB, aEv, aTake, aLoad, aField, aIndex, aLen, aBin, bin2, aUn, un1, aExtract, aConv, ASt.get, aget, ASt.put, aStore, aBox, aAppend, aBuildSlice, aMake, aBuild, aFill, oneParts, allC, aBinS, yv, aCells, oneC, oneCL, treeC, treeL, treeML, treeM_c, treeM_sl, treeM_rp, treeM_any, treeM_fn, treeM_bfn, aLit, aDst, aSrc, appTab, Value.cells, Value.oneCell', envOf, aResL, aOne, ↓reduceIte, reduceCtorEq, forall_const, Nat.reduceLT, Nat.reduceEqDiff, Nat.reduceAdd, Nat.reduceMul, Nat.reduceSub, Nat.reduceLeDiff, Nat.reduceBEq, eq_self, implies_true, ne_eq, dref, dref1, dref2, aExecS, aStoreB, aTakes, aTakeE, aElder, aFrom, aFresh, isLoad, aBuildSlice1, frzs, frz1, ownIds, AV.frz, AV.frzL, frzEnv, AV.shift, AV.shiftL, aFieldV, aSliceW, aSliceO, aSlice, aSliceR, aSliceS, aBd, aMax, frzAVs, frzAV, frzTab, AObj.frz, aMM, aNilS, aMay, aNil, aLenM, aClear, aLookup, aLookG, aMapUpd, aMapPut, keyV, aLookR, false_or, aExecU, tyN_30, tyR_23, tyZ_3, tyE_23, tyK_23, tyK_3, tyE_30, tyK_30, tyS_3, hlt] | (with_reducible refine aIf_split (fun _ => ?_) (fun _ => ?_)) | (with_reducible refine aSel_split (fun _ => ?_) (fun _ => ?_)) | (with_reducible refine aGd_split (fun _ => ?_) (fun _ => ?_))))
  have htkn2 : distF ((keysB next (itF next col t)).take next.length) = distF (keysB next (itF next col t)) := by rw [List.take_of_length_le (by omega)]
  (repeat' (first | simp (maxSteps := 5000000) (implicitDefEqProofs := false) only [ruA, ruB, aEv, aTake, aLoad, aField, aIndex, aLen, aBin, bin2, aUn, un1, aExtract, aConv, ASt.get, aget, ASt.put, aStore, aBox, aAppend, aBuildSlice, aMake, aBuild, aFill, oneParts, allC, aBinS, yv, aCells, oneC, oneCL, treeC, treeL, treeML, treeM_c, treeM_sl, treeM_rp, treeM_any, treeM_fn, treeM_bfn, aLit, aDst, aSrc, appTab, Value.cells, Value.oneCell', envOf, aResL, aOne, ↓reduceIte, reduceCtorEq, forall_const, Nat.reduceLT, Nat.reduceEqDiff, Nat.reduceAdd, Nat.reduceMul, Nat.reduceSub, Nat.reduceLeDiff, Nat.reduceBEq, eq_self, implies_true, ne_eq, dref, dref1, dref2, aExecS, aStoreB, aTakes, aTakeE, aElder, aFrom, aFresh, isLoad, aBuildSlice1, frzs, frz1, ownIds, AV.frz, AV.frzL, frzEnv, AV.shift, AV.shiftL, aFieldV, aSliceW, aSliceO, aSlice, aSliceR, aSliceS, aBd, aMax, frzAVs, frzAV, frzTab, AObj.frz, aMM, aNilS, aMay, aNil, aLenM, aClear, aLookup, aLookG, aMapUpd, aMapPut, keyV, aLookR, false_or, aExecU, tyA_22, tyS_22, tyE_22, tyK_22, tyZ_23, tyS_23, tyA_23, tyK_3, aRetI_n, aRetI_r, aBack, live_nil, live_cons, shiftT_nil, shiftT_some, shiftT_none, AObj.shift, shiftEnv, hall] | (with_reducible refine aIf_split (fun _ => ?_) (fun _ => ?_)) | (with_reducible refine aSel_split (fun _ => ?_) (fun _ => ?_)) | (with_reducible refine aGd_split (fun _ => ?_) (fun _ => ?_))))
  refine aDraw_quiet (by kernel_rfl) ?_
  (repeat' (first | simp (maxSteps := 5000000) (implicitDefEqProofs := false) only [ruA, ruB, aEv, aTake, aLoad, aField, aIndex, aLen, aBin, bin2, aUn, un1, aExtract, aConv, ASt.get, aget, ASt.put, aStore, aBox, aAppend, aBuildSlice, aMake, aBuild, aFill, oneParts, allC, aBinS, yv, aCells, oneC, oneCL, treeC, treeL, treeML, treeM_c, treeM_sl, treeM_rp, treeM_any, treeM_fn, treeM_bfn, aLit, aDst, aSrc, appTab, Value.cells, Value.oneCell', envOf, aResL, aOne, ↓reduceIte, reduceCtorEq, forall_const, Nat.reduceLT, Nat.reduceEqDiff, Nat.reduceAdd, Nat.reduceMul, Nat.reduceSub, Nat.reduceLeDiff, Nat.reduceBEq, eq_self, implies_true, ne_eq, dref, dref1, dref2, aExecS, aStoreB, aTakes, aTakeE, aElder, aFrom, aFresh, isLoad, aBuildSlice1, frzs, frz1, ownIds, AV.frz, AV.frzL, frzEnv, AV.shift, AV.shiftL, aFieldV, aSliceW, aSliceO, aSlice, aSliceR, aSliceS, aBd, aMax, frzAVs, frzAV, frzTab, AObj.frz, aMM, aNilS, aMay, aNil, aLenM, aClear, aLookup, aLookG, aMapUpd, aMapPut, keyV, aLookR, false_or, aExecU, tyA_22, tyS_22, tyE_22, tyK_22, tyZ_23, tyS_23, tyA_23, tyK_3] | (with_reducible refine aIf_split (fun _ => ?_) (fun _ => ?_)) | (with_reducible refine aSel_split (fun _ => ?_) (fun _ => ?_)) | (with_reducible refine aGd_split (fun _ => ?_) (fun _ => ?_))))
  refine ⟨_, many_A _ htl2 (hbd (t + 1)), ?_⟩
  (repeat' (first | simp (maxSteps := 5000000) (implicitDefEqProofs := false) only [ruA, ruB, aEv, aTake, aLoad, aField, aIndex, aLen, aBin, bin2, aUn, un1, aExtract, aConv, ASt.get, aget, ASt.put, aStore, aBox, aAppend, aBuildSlice, aMake, aBuild, aFill, oneParts, allC, aBinS, yv, aCells, oneC, oneCL, treeC, treeL, treeML, treeM_c, treeM_sl, treeM_rp, treeM_any, treeM_fn, treeM_bfn, aLit, aDst, aSrc, appTab, Value.cells, Value.oneCell', envOf, aResL, aOne, ↓reduceIte, reduceCtorEq, forall_const, Nat.reduceLT, Nat.reduceEqDiff, Nat.reduceAdd, Nat.reduceMul, Nat.reduceSub, Nat.reduceLeDiff, Nat.reduceBEq, eq_self, implies_true, ne_eq, dref, dref1, dref2, aExecS, aStoreB, aTakes, aTakeE, aElder, aFrom, aFresh, isLoad, aBuildSlice1, frzs, frz1, ownIds, AV.frz, AV.frzL, frzEnv, AV.shift, AV.shiftL, aFieldV, aSliceW, aSliceO, aSlice, aSliceR, aSliceS, aBd, aMax, frzAVs, frzAV, frzTab, AObj.frz, aMM, aNilS, aMay, aNil, aLenM, aClear, aLookup, aLookG, aMapUpd, aMapPut, keyV, aLookR, false_or, aExecU, tyA_22, tyS_22, tyE_22, tyK_22, tyZ_23, tyS_23, tyA_23, tyK_3] | (with_reducible refine aIf_split (fun _ => ?_) (fun _ => ?_)) | (with_reducible refine aSel_split (fun _ => ?_) (fun _ => ?_)) | (with_reducible refine aGd_split (fun _ => ?_) (fun _ => ?_))))
  refine ⟨_, many_A _ htl (hbd t), ?_⟩
  by_cases hm : manyF (itF next col (t + 1)) = manyF (itF next col t)
  · have em : (manyF (itF next col (t + 1)) == manyF (itF next col t)) = true := beq_iff_eq.2 hm
    (repeat' (first | simp (maxSteps := 5000000) (implicitDefEqProofs := false) only [ruA, ruB, aEv, aTake, aLoad, aField, aIndex, aLen, aBin, bin2, aUn, un1, aExtract, aConv, ASt.get, aget, ASt.put, aStore, aBox, aAppend, aBuildSlice, aMake, aBuild, aFill, oneParts, allC, aBinS, yv, aCells, oneC, oneCL, treeC, treeL, treeML, treeM_c, treeM_sl, treeM_rp, treeM_any, treeM_fn, treeM_bfn, aLit, aDst, aSrc, appTab, Value.cells, Value.oneCell', envOf, aResL, aOne, ↓reduceIte, reduceCtorEq, forall_const, Nat.reduceLT, Nat.reduceEqDiff, Nat.reduceAdd, Nat.reduceMul, Nat.reduceSub, Nat.reduceLeDiff, Nat.reduceBEq, eq_self, implies_true, ne_eq, dref, dref1, dref2, aExecS, aStoreB, aTakes, aTakeE, aElder, aFrom, aFresh, isLoad, aBuildSlice1, frzs, frz1, ownIds, AV.frz, AV.frzL, frzEnv, AV.shift, AV.shiftL, aFieldV, aSliceW, aSliceO, aSlice, aSliceR, aSliceS, aBd, aMax, frzAVs, frzAV, frzTab, AObj.frz, aMM, aNilS, aMay, aNil, aLenM, aClear, aLookup, aLookG, aMapUpd, aMapPut, keyV, aLookR, false_or, aExecU, tyA_22, tyS_22, tyE_22, tyK_22, tyZ_23, tyS_23, tyA_23, tyK_3, em] | (with_reducible refine aIf_split (fun _ => ?_) (fun _ => ?_)) | (with_reducible refine aSel_split (fun _ => ?_) (fun _ => ?_)) | (with_reducible refine aGd_split (fun _ => ?_) (fun _ => ?_))))
    exact retS ⟨t, hm, rfl⟩
  · have em : (manyF (itF next col (t + 1)) == manyF (itF next col t)) = false := beq_eq_false_iff_ne.2 hm
    (repeat' (first | simp (maxSteps := 5000000) (implicitDefEqProofs := false) only [ruA, ruB, aEv, aTake, aLoad, aField, aIndex, aLen, aBin, bin2, aUn, un1, aExtract, aConv, ASt.get, aget, ASt.put, aStore, aBox, aAppend, aBuildSlice, aMake, aBuild, aFill, oneParts, allC, aBinS, yv, aCells, oneC, oneCL, treeC, treeL, treeML, treeM_c, treeM_sl, treeM_rp, treeM_any, treeM_fn, treeM_bfn, aLit, aDst, aSrc, appTab, Value.cells, Value.oneCell', envOf, aResL, aOne, ↓reduceIte, reduceCtorEq, forall_const, Nat.reduceLT, Nat.reduceEqDiff, Nat.reduceAdd, Nat.reduceMul, Nat.reduceSub, Nat.reduceLeDiff, Nat.reduceBEq, eq_self, implies_true, ne_eq, dref, dref1, dref2, aExecS, aStoreB, aTakes, aTakeE, aElder, aFrom, aFresh, isLoad, aBuildSlice1, frzs, frz1, ownIds, AV.frz, AV.frzL, frzEnv, AV.shift, AV.shiftL, aFieldV, aSliceW, aSliceO, aSlice, aSliceR, aSliceS, aBd, aMax, frzAVs, frzAV, frzTab, AObj.frz, aMM, aNilS, aMay, aNil, aLenM, aClear, aLookup, aLookG, aMapUpd, aMapPut, keyV, aLookR, false_or, aExecU, tyA_22, tyS_22, tyE_22, tyK_22, tyZ_23, tyS_23, tyA_23, tyK_3, em] | (with_reducible refine aIf_split (fun _ => ?_) (fun _ => ?_)) | (with_reducible refine aSel_split (fun _ => ?_) (fun _ => ?_)) | (with_reducible refine aGd_split (fun _ => ?_) (fun _ => ?_))))
    refine roundI ((weak_frz _ 7).trans ?_) ⟨t + 1, entsF (distF (keysB next (itF next col t))), rfl⟩ ?_
    · simp only [frz1, frzEnv, frzTab, ATab.get_cons, AObj.frz, AV.frz, AV.frzL, ↓reduceIte, Nat.reduceEqDiff, Option.map_some, Nat.one_ne_zero, reduceCtorEq, Nat.succ_ne_self, Option.map_none]
      exact (weak_ren1 [3, 4, 5] ⟨(by decide), (by (first | ((simp only [envInR, tabInR, envLt, tabLt, AObj.lt, AV.lt, AV.ltL, AV.ren, AV.renL, AObj.ren, List.getD_cons_zero, List.getD_cons_succ, List.length_cons, List.length_nil, ruW, ASt.get, aget, ASt.put, ↓reduceIte, reduceCtorEq, Nat.reduceLT, Nat.reduceEqDiff, Nat.reduceAdd, Nat.reduceLeDiff, eq_self, implies_true, htkn2]) <;> (repeat' apply And.intro) <;> first | (rw [wrapK (by omega)]; done) | (simp; done) | omega) | fail))⟩)
    · have h1 := many_le (next := next) (col := col) t
      have h2 := many_bd (next := next) (col := col) t
      have h3 := many_bd (next := next) (col := col) (t + 1)
      simp only [manySt, ATab.get_cons, ↓reduceIte, Nat.reduceEqDiff, reduceCtorEq]
      rw [intsOf_eIs, intsOf_eIs]
      omega
end
end Go.Proofs.YtbpocemhnmmloaaDoor
